/- One owner for an edge; the tenant at whose edge a head enters; the owner of what is delivered. -/
import Derived.Test.YtofajkggflobkaaGreatDoorMk
import Derived.Test.YtofajkggflobkaaGreatDoorMt
import Derived.Test.YtofajkggflobkaaGreatDoorMp
namespace Go.AI
open Go.Proofs
theorem ck18_portsE {s : Setup} {t : Tenant} (h1 : ck18 s t = 0) : ∀ x ∈ t.ports,-1 <= x.edge /\ x.edge < (s.network.edges.length : Int):=by
 have h2 : ckPo s t = 0:=by
  unfold ck18 at h1
  split at h1
  ·cases h1
  ·split at h1
   ·rename_i hne; exact absurd h1 hne
   ·rename_i hne; simpa using hne
 have h3 : okAll (peg s.network.edges.length) qeg t.ports = true:=by
  unfold ckPo at h2
  split at h2
  ·cases h2
  split at h2
  ·cases h2
  split at h2
  ·cases h2
  ·rename_i hne; simpa using hne
 have h4 : ∀ (r : List Port) (i : Nat),okGo (peg s.network.edges.length) qeg t.ports i r = true -> ∀ x ∈ r,-1 <= x.edge /\ x.edge < (s.network.edges.length : Int):=by
  intro r
  induction r with
  | nil => intro i _ x hx; cases hx
  | cons y r ih =>
   intro i hi x hx
   simp only [okGo,Bool.and_eq_true] at hi
   rcases List.mem_cons.1 hx with rfl | hx
   ·have:=hi.1.1; simp only [peg,Bool.and_eq_true,decide_eq_true_eq] at this; exact this
   ·exact ih _ hi.2 x hx
 exact h4 t.ports 0 h3
theorem R19.ckE {s : Setup} (h : R19 s) {k : Nat} {t : Tenant} (ht : s.tenants[k]? = some t) : ck18 s t = 0 /\ (bWhole t).2 = 0 /\ clash19 s k t = false:=by
 have h1:=h.ten k t ht
 unfold tenE at h1
 split at h1
 ·rename_i hne; exact absurd h1 hne
 rename_i h2
 split at h1
 ·rename_i hne; exact absurd h1 hne
 rename_i h3
 split at h1
 ·cases h1
 split at h1
 ·cases h1
 rename_i h5
 exact ⟨by simpa using h2,by simpa using h3,by simpa using h5⟩
theorem portIdx_of {e : Int} (he : 0 <= e) : ∀ {l : List Port} {i : Nat} {x : Port},x ∈ l -> x.edge = e -> 0 <= portIdx e i l
 | y :: l,i,x,hx,hxe => by
  rw [portIdx]
  split
  ·omega
  ·rename_i hn
   rcases List.mem_cons.1 hx with rfl | hx
   ·exact absurd ⟨he,hxe⟩ hn
   ·exact portIdx_of he hx hxe
theorem portIdx2_get {e : Int} : ∀ {l : List Port} {i : Nat},0 <= portIdx2 e i l -> ∃ (j : Nat) (x : Port),l[j]? = some x /\ x.edge ≠ -1 /\ x.edge = e /\ portIdx2 e i l = ((i + j : Nat) : Int)
 | [],i,h => by rw [portIdx2] at h; exact absurd h (by decide)
 | y :: l,i,h => by
  rw [portIdx2] at h ⊢
  by_cases hy : y.edge ≠ -1 /\ y.edge = e
  ·rw [if_pos hy]; exact ⟨0,y,rfl,hy.1,hy.2,rfl⟩
  ·rw [if_neg hy] at h ⊢
   obtain ⟨j,x,h1,h2,h3,h4⟩:=portIdx2_get h
   exact ⟨j + 1,x,h1,h2,h3,by rw [h4]; congr 1; omega⟩
theorem portIdx2_of {e : Int} : ∀ {l : List Port} {i : Nat} {x : Port},x ∈ l -> x.edge ≠ -1 -> x.edge = e -> 0 <= portIdx2 e i l
 | y :: l,i,x,hx,h1,h2 => by
  rw [portIdx2]
  split
  ·omega
  ·rename_i hn
   rcases List.mem_cons.1 hx with rfl | hx
   ·exact absurd ⟨h1,h2⟩ hn
   ·exact portIdx2_of hx h1 h2
theorem owner_one {s : Setup} (hR : R19 s) {i j : Nat} {t u : Tenant} (ht : s.tenants[i]? = some t) (hu : s.tenants[j]? = some u) {e : Int} (h1 : 0 <= portOf2 t e) (h2 : 0 <= portOf2 u e) : i = j:=by
 have key : ∀ {i j : Nat} {t u : Tenant},s.tenants[i]? = some t -> s.tenants[j]? = some u -> 0 <= portOf2 t e -> 0 <= portOf2 u e -> i < j -> False:=by
  intro i j t u ht hu h1 h2 hij
  obtain ⟨a,x,x1,x2,x3,_⟩:=portIdx2_get h1
  obtain ⟨b,y,y1,y2,y3,_⟩:=portIdx2_get h2
  obtain ⟨k1,_,k3⟩:=hR.ckE hu
  have hy:=ck18_portsE k1 y (List.mem_of_getElem? y1)
  have he : 0 <= e:=by omega
  have hc : clash19 s j u = true:=by
   unfold clash19
   refine List.any_eq_true.2 ⟨y,List.mem_of_getElem? y1,List.any_eq_true.2 ⟨t, ?_, ?_⟩⟩
   ·exact List.mem_of_getElem? (i:=i) (by rw [List.getElem?_take,if_pos hij]; exact ht)
   ·have hpo : 0 <= portOf t e:=portIdx_of he (List.mem_of_getElem? x1) x3
    rw [y3,decide_eq_true he,decide_eq_true hpo]; rfl
  rw [hc] at k3; cases k3
 rcases Nat.lt_trichotomy i j with h | h | h
 ·exact (key ht hu h1 h2 h).elim
 ·exact h
 ·exact (key hu ht h2 h1 h).elim
def inE (h : Head) : Int:=i64 (h.h0 - 10000)
theorem enT_port {t : Tenant} {h : Head} : (enT t h).2 = true ↔ 0 <= portOf2 t (inE h):=by
 unfold enT enterH inE
 split <;> simp <;> omega
theorem entG_mem {h : Head} : ∀ {l : List Tenant} {k : Nat} {x : Item},x ∈ entG h k l -> ∃ (j : Nat) (t : Tenant),l[j]? = some t /\ x.tenant = ((k + j : Nat) : Int) /\ x.chain = [] /\ (enT t h).2 = true /\ x.head = (enT t h).1
 | [],k,x,hx => by rw [entG] at hx; cases hx
 | t :: l,k,x,hx => by
  rw [entG] at hx
  have rec' : x ∈ entG h (k + 1) l -> ∃ (j : Nat) (u : Tenant),(t :: l)[j]? = some u /\ x.tenant = ((k + j : Nat) : Int) /\ x.chain = [] /\ (enT u h).2 = true /\ x.head = (enT u h).1:=fun hx => by
   obtain ⟨j,u,h1,h2,h3,h4,h5⟩:=entG_mem hx
   exact ⟨j + 1,u,h1,by rw [h2]; congr 1; omega,h3,h4,h5⟩
  split at hx
  ·rename_i he
   rcases List.mem_cons.1 hx with rfl | hx
   ·exact ⟨0,t,rfl,rfl,rfl,he,rfl⟩
   ·exact rec' hx
  ·exact rec' hx
def entI (h : Head) : Nat -> List Tenant -> Int
 | _,[] => -1
 | k,t :: r => if (enT t h).2 = true then (k : Int) else entI h (k + 1) r
theorem entI_get {h : Head} : ∀ {l : List Tenant} {k : Nat},(entI h k l = -1 /\ entG h k l = [] /\ ∀ t ∈ l,(enT t h).2 = false) \/ ∃ (j : Nat) (t : Tenant),l[j]? = some t /\ entI h k l = ((k + j : Nat) : Int) /\ (enT t h).2 = true
 | [],k => .inl ⟨rfl,rfl,by simp⟩
 | t :: l,k => by
  rw [entI,entG]
  cases he : (enT t h).2 with
  | true => rw [if_pos rfl]; exact .inr ⟨0,t,rfl,rfl,he⟩
  | false =>
   rw [if_neg (by decide),if_neg (by decide)]
   rcases entI_get (h:=h) (l:=l) (k:=k + 1) with ⟨h1,h2,h3⟩ | ⟨j,u,h1,h2,h3⟩
   ·refine .inl ⟨h1,h2,fun u hu => ?_⟩
    rcases List.mem_cons.1 hu with rfl | hu
    ·exact he
    ·exact h3 u hu
   ·exact .inr ⟨j + 1,u,h1,by rw [h2]; congr 1; omega,h3⟩
theorem entG_one {s : Setup} (hR : R19 s) {h : Head} {a : Nat} {t : Tenant} (ha : s.tenants[a]? = some t) (he : (enT t h).2 = true) : itP s a (entG h 0 s.tenants):=by
 intro x hx
 obtain ⟨j,u,h1,h2,h3,h4,_⟩:=entG_mem hx
 rw [Nat.zero_add] at h2
 have : j = a:=owner_one hR h1 ha (enT_port.1 h4) (enT_port.1 he)
 subst this
 have hl:=(List.getElem?_eq_some_iff.1 h1).1
 refine ⟨by omega,by omega, ?_⟩
 rw [h2,h3,Int.toNat_natCast]
 rfl
theorem ownGo_okE (e : Int) : ∀ (l : List Tenant) (i : Nat),(ownGo e i l = (-1,-1) /\ ∀ t ∈ l,¬ 0 <= portOf2 t e) \/ ∃ j t,l[j]? = some t /\ (ownGo e i l).1 = ((i + j : Nat) : Int) /\ 0 <= portOf2 t e
 | [],_ => .inl ⟨rfl,by simp⟩
 | t :: r,i => by
  rw [ownGo]
  by_cases h : 0 <= portOf2 t e
  ·rw [if_pos h]; exact .inr ⟨0,t,rfl,rfl,h⟩
  ·rw [if_neg h]
   rcases ownGo_okE e r (i + 1) with ⟨h2,h3⟩ | ⟨j,u,h1,h2,h3⟩
   ·refine .inl ⟨h2,fun u hu => ?_⟩
    rcases List.mem_cons.1 hu with rfl | hu
    ·exact h
    ·exact h3 u hu
   ·exact .inr ⟨j + 1,u,h1,by rw [h2]; congr 1; omega,h3⟩
theorem edgeOf_port {s : Setup} {t : Tenant} (hck : ck18 s t = 0) {n : Int} (h : 0 <= edgeOf t n) : 0 <= portOf2 t (edgeOf t n) /\ edgeOf t n < (s.network.edges.length : Int):=by
 unfold edgeOf at h ⊢
 split at h
 ·rename_i hp
  rw [if_pos hp]
  unfold isPortB at hp
  rw [Bool.and_eq_true,decide_eq_true_eq,decide_eq_true_eq] at hp
  have hl : n.toNat < t.ports.length:=by omega
  have e1 : edgeAt t n = (t.ports[n.toNat]).edge:=by unfold edgeAt; rw [List.getElem?_eq_getElem hl]; rfl
  have hm:=List.getElem_mem hl
  rw [e1] at h ⊢
  exact ⟨portIdx2_of hm (by omega) rfl,(ck18_portsE hck _ hm).2⟩
 ·exact absurd h (by decide)
theorem owner_out {s : Setup} (hR : R19 s) (hb : bulkL s.c <= 1048576) {k : Nat} {t : Tenant} (ht : s.tenants[k]? = some t) {p : Head} (he : (exT t p).2 = true) : (ownGo (IntKind.i64.wrap ((exT t p).1.h0 - 10000)) 0 s.tenants).1 = (k : Int):=by
 have hne : s.network.edges.length <= 1048576:=lEdge_bn (Setup.bl_network_edges hb)
 have h0 : 0 <= edgeOf t p.h0:=by
  unfold exT exitH at he
  split at he
  ·cases he
  ·omega
 obtain ⟨h1,h2⟩:=edgeOf_port (hR.ckE ht).1 h0
 have h3 : (exT t p).1.h0 = 10000 + edgeOf t p.h0:=by
  unfold exT exitH
  rw [if_neg (by omega)]
  show i64 (10000 + edgeOf t p.h0) = _
  unfold i64
  exact w64 (by omega) (by omega)
 rw [h3,w64 (by omega) (by omega),show 10000 + edgeOf t p.h0 - 10000 = edgeOf t p.h0 by omega]
 rcases ownGo_okE (edgeOf t p.h0) s.tenants 0 with ⟨_,h4⟩ | ⟨j,u,h4,h5,h6⟩
 ·exact absurd h1 (h4 t (List.mem_of_getElem? ht))
 ·rw [h5,Nat.zero_add,owner_one hR h4 ht h6 h1]
end Go.AI
namespace Go.AI
open Go.Proofs
theorem ck18_fits {s : Setup} {t : Tenant} (h1 : ck18 s t = 0) : wiresOk t /\ ckT s.fields t.program = 0 /\ t.ports.length <= 64:=by
 unfold ck18 at h1
 split at h1
 ·cases h1
 ·rename_i hlim
  split at h1
  ·rename_i hne; exact absurd h1 hne
  ·rename_i hpo
   split at h1
   ·rename_i hne; exact absurd h1 hne
   ·rename_i hpr
    have hpo : ckPo s t = 0:=by simpa using hpo
    have hpr : ckPr s t = 0:=by simpa using hpr
    refine ⟨?_, ?_,by omega⟩
    ·intro w hw
     have hok : okAll (pwr t) qwr t.wires = true:=by
      unfold ckPo at hpo
      split at hpo
      ·cases hpo
      split at hpo
      ·cases hpo
      split at hpo
      ·cases hpo
      split at hpo
      ·cases hpo
      ·rename_i hne; simpa using hne
     obtain ⟨k,hk⟩:=List.getElem?_of_mem hw
     have:=(okAll_spec hok k w hk).1
     unfold pwr innerB isPortB at this
     simp only [Bool.and_eq_true,decide_eq_true_eq] at this
     omega
    ·unfold ckPr at hpr
     split at hpr
     ·rename_i hne; exact absurd hpr hne
     ·rename_i hne; simpa using hne
theorem fmS_spec {x : Stp} (h : fmS x = true) : (x.kind = 0 /\ x.key.length = 0) \/ ((1 <= x.kind /\ x.kind <= 6) /\ x.key.length <= 4 /\ (x.kind = 4 -> 0 <= x.n /\ x.n <= x.m /\ x.m <= 65535) /\ (x.kind = 5 -> fnB x.field = true) /\ (x.kind = 6 -> (1 <= x.n /\ x.n <= 65535) /\ 1 <= x.m /\ x.m <= 1073741824)):=by
 unfold fmS at h
 split at h
 ·rename_i he
  left
  unfold eqS at he
  simp only [Bool.and_eq_true,beq_iff_eq] at he
  exact ⟨he.1.1,he.1.2.2.2.2.2⟩
 ·split at h
  ·cases h
  ·rename_i hk
   right
   have hkl : x.key.length <= 4:=by
    simp only [not_or] at hk
    omega
   split at h
   ·rename_i e; exact ⟨by omega,hkl,by omega,by omega,by omega⟩
   split at h
   ·rename_i e; exact ⟨by omega,hkl,by omega,by omega,by omega⟩
   split at h
   ·rename_i e; exact ⟨by omega,hkl,by omega,by omega,by omega⟩
   split at h
   ·rename_i e
    simp only [Bool.and_eq_true,decide_eq_true_eq] at h
    exact ⟨by omega,hkl,fun _ => h.2,by omega,by omega⟩
   split at h
   ·rename_i e
    simp only [Bool.and_eq_true] at h
    exact ⟨by omega,hkl,by omega,fun _ => h.1,by omega⟩
   split at h
   ·rename_i e
    simp only [Bool.and_eq_true,decide_eq_true_eq] at h
    exact ⟨by omega,hkl,by omega,by omega,fun _ => ⟨⟨h.2.1,h.2.2.1⟩,h.2.2.2.1,h.2.2.2.2⟩⟩
   ·cases h
theorem okStp_of {l : List Fld} {s : Stp} (h : ckTS l s = 0) : okStp l s:=by
 have hf : fmS s = true:=by
  unfold ckTS at h
  split at h
  ·unfold ckS at h
   split at h
   ·assumption
   ·cases h
  ·rename_i hn
   simp only [not_or,ne_eq,Decidable.not_not] at hn
   have:=hn.1
   unfold ckS at this
   split at this
   ·assumption
   ·cases this
 have hall : s.kind ≠ 0 -> (namesS s).all (fun y => (findF l y).2) = true:=by
  intro h0
  unfold ckTS at h
  split at h
  ·rename_i hc
   rcases hc with hc | hc
   ·unfold ckS at hc
    rw [hf] at hc
    exact absurd rfl hc
   ·exact absurd hc h0
  ·split at h
   ·cases h
   ·rename_i hn; simpa using hn
 have hkey : s.kind ≠ 0 -> ∀ nm ∈ s.key,(findF l nm).2 = true:=fun h0 nm hm => by
  refine List.all_eq_true.1 (hall h0) nm ?_
  unfold namesS
  split
  ·exact hm
  ·exact List.mem_append_left _ hm
 rcases fmS_spec hf with ⟨h0,hk⟩ | ⟨hkd,hk,h4,h5,h6⟩
 ·exact ⟨by omega,by omega,hkey,by omega,by omega,by omega,by omega⟩
 ·refine ⟨by omega,by omega,hkey,fun hc => ?_,fun e => (h4 e).2.2,fun e => (h6 e).2,fun e => ?_⟩
  ·rcases hc with e | e
   ·have:=h4 e; omega
   ·have:=(h6 e).1; omega
  ·refine List.all_eq_true.1 (hall (by omega)) s.field ?_
   unfold namesS
   have hne : s.field ≠ ⟨#[]⟩:=by
    intro he
    have:=h5 e
    rw [he] at this
    exact absurd this (by decide +kernel)
   rw [if_neg hne]
   exact List.mem_append_right _ (List.mem_singleton.2 rfl)
theorem typGo_spec {l : List Fld} {p : List Stage} : ∀ {r : List Stage} {i : Nat},typGo l p i r = true -> ∀ (k : Nat) (x : Stage),r[k]? = some x -> ∀ y ∈ p.take (i + k),clash l y.step x.step = false
 | [],i,_,k,x,hx,_,_ => by simp at hx
 | z :: r,i,h,k,x,hx,y,hy => by
  rw [typGo,Bool.and_eq_true] at h
  match k,hx with
  | 0,hx =>
   have : z = x:=by simpa using hx
   subst this
   have h1:=h.1
   rw [Bool.not_eq_true',List.any_eq_false] at h1
   simpa using h1 y hy
  | k + 1,hx =>
   exact typGo_spec h.2 k x (by simpa using hx) y (by rw [show i + 1 + k = i + (k + 1) by omega]; exact hy)
theorem clash_len {l : List Fld} {s t : Stp} (h : clash l s t = false) (hs : s.kind ≠ 0) (ht : t.kind ≠ 0) (hv : s.var = t.var) : s.key.length = t.key.length:=by
 unfold clash at h
 have e1 : (s.kind != 0) = true:=by simpa using hs
 have e2 : (t.kind != 0) = true:=by simpa using ht
 rw [e1,e2,decide_eq_true hv] at h
 have h3 : agrS l s t = true:=by simpa using h
 unfold agrS at h3
 rw [Bool.and_eq_true,Bool.and_eq_true] at h3
 have h4 : widS l s.key = widS l t.key:=by
  have:=h3.2.1
  unfold eqI at this
  exact of_decide_eq_true this
 have:=congrArg List.length h4
 unfold widS at this
 simpa using this
theorem okPrg_of {l : List Fld} {p : List Stage} (h : ckT l p = 0) : okPrg l p /\ p.length <= 8:=by
 obtain ⟨h1,h2,h3,h4⟩:=ckT_0 h
 have hty : typGo l p 0 p = true:=by
  unfold ckT at h
  split at h
  ·rename_i hn; exact absurd h hn
  split at h
  ·rename_i hn; exact absurd h hn
  split at h
  ·assumption
  ·cases h
 refine ⟨⟨fun s hs => okStp_of (h3 s hs).2,fun s hs => (ckTO_good (h3 s hs).1).2,fun s hs t ht k1 k2 hv => ?_⟩,h1⟩
 obtain ⟨i,hi⟩:=List.getElem?_of_mem hs
 obtain ⟨j,hj⟩:=List.getElem?_of_mem ht
 rcases Nat.lt_trichotomy i j with hij | hij | hij
 ·exact clash_len (typGo_spec hty j t hj s (List.mem_of_getElem? (i:=i) (by rw [List.getElem?_take,if_pos (by omega)]; exact hi))) k1 k2 hv
 ·subst hij
  rw [hi] at hj
  cases hj
  rfl
 ·exact (clash_len (typGo_spec hty i s hi t (List.mem_of_getElem? (i:=j) (by rw [List.getElem?_take,if_pos (by omega)]; exact hj))) k2 k1 hv.symm).symm
theorem whole_prg {s : Setup} (hR : R19 s) {k : Nat} {t : Tenant} (ht : s.tenants[k]? = some t) : okPrg s.fields (bWhole t).1 /\ (bWhole t).1.length <= 8 /\ (bWhole t).1.map (·.step) = t.program.map (·.step) /\ t.ports.length <= 64:=by
 obtain ⟨c1,c2,_⟩:=hR.ckE ht
 obtain ⟨w1,w2,w3⟩:=ck18_fits c1
 rcases whole_fits w1 w2 with ⟨g1,_,_⟩ | ⟨_,g2,g3⟩
 ·rw [g1] at c2; cases c2
 ·obtain ⟨o1,o2⟩:=okPrg_of g2
  exact ⟨o1,o2,g3,w3⟩
end Go.AI
namespace Go.AI
open Go.Proofs
set_option maxRecDepth 50000
structure okSts (s : Setup) (sts : List (List Entry)) : Prop where
 len : sts.length = s.tenants.length
 st : ∀ (k : Nat) (t : Tenant) (st : List Entry),s.tenants[k]? = some t -> sts[k]? = some st -> (∀ e ∈ st,okEnt e /\ ∀ x ∈ t.program,okKey x.step e) /\ st.length <= 60
theorem right_h9 {h : Head} (hr : rightH h = true) : rightH { h with h9:=0 } = true:=by
 unfold rightH at hr ⊢
 simp only [Head.l,List.all_cons,List.all_nil,Bool.and_true,Bool.and_eq_true] at hr ⊢
 exact ⟨hr.1,hr.2.1,hr.2.2.1,hr.2.2.2.1,hr.2.2.2.2.1,hr.2.2.2.2.2.1,hr.2.2.2.2.2.2.1,hr.2.2.2.2.2.2.2.1,hr.2.2.2.2.2.2.2.2.1,by decide⟩
theorem enT_right {t : Tenant} {h : Head} (hp : t.ports.length <= 64) (hr : rightH h = true) (he : (enT t h).2 = true) : rightH (enT t h).1 = true:=by
 have h1:=enT_port.1 he
 obtain ⟨j,x,h2,_,_,h3⟩:=portIdx2_get h1
 have hj:=(List.getElem?_eq_some_iff.1 h2).1
 have h4 : portOf2 t (inE h) = ((0 + j : Nat) : Int):=h3
 unfold enT enterH
 have h5 : portOf2 t (i64 (h.h0 - 10000)) = ((0 + j : Nat) : Int):=h4
 rw [if_neg (by omega),h5]
 exact right_h9 (right_h0 hr (by omega) (by omega))
theorem okRun_of {s : Setup} (hR : R19 s) (hf : few19 s = true) (hb : bulkL s.c <= 1048576) {sts : List (List Entry)} (hs : okSts s sts) {h : Head} (hr : rightH h = true) {tick : Int} (ht : 0 <= tick /\ tick <= 1073741824) : okRun s sts h tick:=by
 have hbt : ∀ t ∈ s.tenants,bulkL t.c <= 1048576:=fun t hm => by
  have h1:=lTenant_bk (Setup.bl_tenants hb) hm
  simpa only [AV.bulk] using h1
 have hnt : s.tenants.length <= 8:=by
  unfold few19 at hf
  simp only [Bool.and_eq_true,decide_eq_true_eq] at hf
  have:=hf.2.2.1
  omega
 have hprt : ∀ t ∈ s.tenants,t.ports.length <= 64:=fun t hm => by
  obtain ⟨k,hk⟩:=List.getElem?_of_mem hm
  exact (whole_prg hR hk).2.2.2
 refine ⟨hb,hR.fld,by omega,ht,hs.len,fun k t hk => ⟨(whole_prg hR hk).1,by have:=(whole_prg hR hk).2.1; omega⟩,fun t hm => ?_,fun k t st h1 h2 => ?_,fun c hc => hR.pred hc,fun c hc => ?_,fun c hc => ?_,fun t hm => by have:=hprt t hm; omega,fun t hm he => enT_right (hprt t hm) hr he⟩
 ·have hbm:=hbt t hm
  refine p_Whole t (Nat.le_trans (lWire_bn (Tenant.bl_wires hbm)) (by decide)) (Nat.le_trans (lStage_bn (Tenant.bl_program hbm)) (by decide)) fun x hx => bk_closed ?_ (lWire_bn (Tenant.bl_wires hbm))
  have h1:=lStage_bk (Tenant.bl_program hbm) hx
  have h2 : bulkL x.c <= 1048576:=by simpa only [AV.bulk] using h1
  exact Stage.bs_policy h2
 ·obtain ⟨g1,g2⟩:=hs.st k t st h1 h2
  refine ⟨fun e he => ⟨(g1 e he).1,fun x hx => ?_⟩,by omega⟩
  have hmap:=(whole_prg hR h1).2.2.1
  have : x.step ∈ t.program.map (·.step):=by rw [<- hmap]; exact List.mem_map.2 ⟨x,hx,rfl⟩
  obtain ⟨y,hy,hxy⟩:=List.mem_map.1 this
  rw [<- hxy]
  exact (g1 e he).2 y hy
 ·have h0:=(conE_dst (hR.con c hc)).2
  have hl:=dst_lt hR hc
  exact ⟨h0,by omega⟩
 ·have h1:=hR.con c hc
  have hl:=dst_lt hR hc
  have h0:=(conE_dst h1).2
  unfold conE at h1
  split at h1
  ·cases h1
  split at h1
  ·cases h1
  rename_i hn
  have hn : outB (tenAt s (tenI s c.dst)) c.toPort = true:=by
   cases ho : outB (tenAt s (tenI s c.dst)) c.toPort with
   | true => rfl
   | false => exact absurd (.inr (.inr ho)) hn
  unfold outB at hn
  simp only [Bool.and_eq_true,decide_eq_true_eq] at hn
  obtain ⟨u,hu⟩ : ∃ u,s.tenants[(tenI s c.dst).toNat]? = some u:=⟨_,List.getElem?_eq_getElem hl⟩
  have ht2 : tenAt s (tenI s c.dst) = u:=by unfold tenAt; rw [hu]; rfl
  rw [ht2] at hn
  have:=hprt u (List.mem_of_getElem? hu)
  omega
theorem cRun_none {s : Setup} {sts : List (List Entry)} {h : Head} {tick : Int} (he : entG h 0 s.tenants = []) : cRun s sts h tick = some ([],sts):=by
 unfold cRun
 rw [he]
 rfl
theorem cRun_some {s : Setup} (hR : R19 s) {sts : List (List Entry)} {h : Head} {tick : Int} {a : Nat} {t : Tenant} (ha : s.tenants[a]? = some t) (he : (enT t h).2 = true) {r : List Delivery × List (List Entry)} (hr : cRun s sts h tick = some r) :
  dlP s a r.1 /\ r.2.length = sts.length /\ ∀ k,(∀ c,¬ pthC s a c k) -> r.2[k]? = sts[k]? :=
 cGo_inv hR 600 0 (entG_one hR ha he) (fun d hd => by cases hd) hr
end Go.AI
namespace Go.AI
open Go.Proofs
set_option maxRecDepth 50000
def arrB (a : Arrival) : Bool:=rightH a.head && (a.head.h9 == 0 && (decide (0 <= a.tick) && decide (a.tick <= 1073741824)))
theorem c_Arrives (a : Arrival) : PCall Tryz.prog 15 [.agg a.c] (.bool (arrB a)):=by
 have c1:=c_rightH6 a.head
 refine pC h15_k rfl ?_
 simp only [Tryz.f15,go_sem]
 repeat' (first
  | (refine pK (c1) ?_; simp only [go_sem])
  | ((first | refine cS ?_ ?_ | refine gS ?_ ?_) <;> (intro hc; simp only [go_sem,hc])))
 all_goals first
  | rfl
  | (simp only [arrB]; rfl)
  | grind [arrB]
  | (simp only [arrB]; grind)
  | (simp [arrB, *]; done)
  | (simp_all [arrB]; done)
  | skip
theorem c_entered (s : Setup) (hn : s.tenants.length <= 1073741824) (hp : ∀ t ∈ s.tenants,t.ports.length <= 1073741824) (h : Head) : PCall Tryz.prog 7 [.agg s.c,.agg h.c] (.int .i64 (entI h 0 s.tenants)):=by
 refine pC h7_k rfl ?_
 simp only [Tryz.f7,go_sem]
 have gN : ∀ a b (L : Heap) z,(a :: b :: (L ++ [z]))[List.length (a :: b :: L)]? = some z:=fun a b L z => by
  have : a :: b :: (L ++ [z]) = (a :: b :: L) ++ [z]:=by simp
  rw [this]; exact List.getElem?_concat_length
 have sN : ∀ a b (L : Heap) z z2,(a :: b :: (L ++ [z])).set (List.length (a :: b :: L)) z2 = a :: b :: (L ++ [z2]):=fun a b L z z2 => by
  have : a :: b :: (L ++ [z]) = (a :: b :: L) ++ [z]:=by simp
  rw [this]; simp
 refine awp_lst s.tenants (fun (_ : Heap) (r : List Tenant) => entI h (s.tenants.length - r.length) r) (fun _ _ => True) (fun k _ => [(3,.ptr 1 0),(10,.sl none (lTenant s.tenants)),(11,.int .i64 s.tenants.length),(12,.int .i64 k)])
  (fun _ L => some s.c :: some h.c :: L) [] (by omega) trivial rfl rfl ?_ ?_
 ·intro k L t ts hd hx _ hF h0 h1 hw
  have c1:=c_Enter t (hp t (List.mem_of_getElem? hx)) h
  have eT : enterH (portOf2 t (i64 (h.h0 - 10000))) h = enT t h:=rfl
  rw [eT] at c1
  have hk2:=drop_len hd
  have e1 : s.tenants.length - (ts.length + 1) = k:=by omega
  have e2 : s.tenants.length - ts.length = k + 1:=by omega
  simp only [List.length_cons,e1,e2] at hF ⊢
  simp only [go_sem,h0,h1,lTenant_get hx,gN,sN]
  refine pK c1 ?_
  cases he : (enT t h).2 with
  | true =>
   simp only [go_sem,gN,sN,he]
   rw [Nat.sub_self] at hF
   rw [hF,entI,if_pos he]
  | false =>
   simp only [go_sem,gN,sN,he,hw]
   exact ⟨_,by rw [e1,e2,entI,if_neg (by rw [he]; decide)],rfl,rfl⟩
 ·intro L _ hF
  simp only [go_sem,Int.lt_irrefl,decide_false]
  rw [Nat.sub_self] at hF
  rw [hF]; rfl
theorem cmpB_refl (a : ByteArray) : cmpB a a = 0:=by unfold cmpB; rw [ltB_irr,if_neg (by decide),if_pos rfl]
theorem cmpZ_refl (x : Int) : cmpZ x x = 0:=by unfold cmpZ; simp
theorem cmpL_refl : ∀ l : List Int,cmpL l l = 0
 | [] => rfl
 | x :: l => by rw [cmpL,cmpZ_refl,if_neg (by decide)]; exact cmpL_refl l
theorem cmpE_refl (e : Entry) : cmpE e e = 0:=by unfold cmpE; rw [cmpB_refl,if_neg (by decide),cmpL_refl]
theorem c_Keys (a b : List Int) (ha : a.length <= 1073741824) : PCall Tryz.prog 61 [.sl none (lI64 a),.sl none (lI64 b)] (.int .i64 (cmpL a b)):=by
 have ea : (lI64 a).length = a.length:=lI64_len a
 have eb : (lI64 b).length = b.length:=lI64_len b
 refine pC h61_k rfl ?_
 simp only [Tryz.f61,go_sem]
 refine awp_lst a (fun (_ : Unit) r => cmpL r (b.drop (a.length - r.length))) (fun k _ => k <= b.length) (fun k _ => [(0,.sl none (lI64 a)),(1,.sl none (lI64 b)),(5,.int .i64 k)]) (fun _ _ => []) () (by omega) (Nat.zero_le _) rfl rfl ?_ ?_
 ·intro k _ x xs hd hx hI hF h0 h1 hw
  have hk:=drop_len hd
  have e1 : a.length - (xs.length + 1) = k:=by omega
  have e2 : a.length - xs.length = k + 1:=by omega
  simp only [List.length_cons,e1,e2,Nat.sub_self,List.drop_zero] at hF ⊢
  by_cases hkb : k < b.length
  ·obtain ⟨y,hy⟩ : ∃ y,b[k]? = some y:=⟨_,List.getElem?_eq_getElem hkb⟩
   have hnb : (k : Int) < (b.length : Int):=by omega
   rw [drop_at hy,cmpL] at hF
   simp only [go_sem,h0,h1,lI64_get hx,lI64_get hy,ea,eb,hnb,decide_true]
   repeat' (first
    | ((first | refine cS ?_ ?_ | refine gS ?_ ?_) <;> (intro hc; simp only [go_sem,hc,h0,h1,lI64_get hx,lI64_get hy,ea,eb,hnb,hw])))
   ·have hc:=of_decide_eq_true hc
    have e3 : cmpZ x y = -1:=by unfold cmpZ; rw [if_pos hc]
    rw [e3,if_pos (by decide)] at hF
    rw [hF]
   ·rename_i hc1
    have hc1:=of_decide_eq_false hc1
    have hc2:=of_decide_eq_true hc
    have e3 : cmpZ x y = 1:=by unfold cmpZ; rw [if_neg hc1]; first | rw [if_pos hc2] | rw [if_neg (by omega)]
    rw [e3,if_pos (by decide)] at hF
    rw [hF]
   ·rename_i hc1
    have hc1:=of_decide_eq_false hc1
    have hc2:=of_decide_eq_false hc
    have : x = y:=by omega
    subst this
    rw [e1,e2,drop_at hy,cmpL,cmpZ_refl,if_neg (by decide)]
    exact ⟨(),rfl,by omega⟩
  ·have hnb : ¬ (k : Int) < (b.length : Int):=by omega
   rw [List.drop_eq_nil_of_le (by omega),cmpL] at hF
   have l1 : ¬ (a.length : Int) < (b.length : Int):=by omega
   have l2 : (b.length : Int) < (a.length : Int):=by omega
   simp only [go_sem,h0,h1,lI64_get hx,ea,eb,hnb,decide_false,l1,l2,decide_true]
   rw [hF]
 ·intro _ hI hF
  rw [Nat.sub_self,List.drop_zero,List.length_nil,Nat.sub_zero] at hF
  simp only [go_sem,Int.lt_irrefl,decide_false,ea,eb]
  cases hr : b.drop a.length with
  | nil =>
   have hlen : b.length <= a.length:=by simpa using hr
   rw [hr,cmpL] at hF
   have l1 : ¬ (a.length : Int) < (b.length : Int):=by omega
   have l2 : ¬ (b.length : Int) < (a.length : Int):=by omega
   simp only [go_sem,l1,l2,decide_false,ea,eb]
   rw [hF]
  | cons y ys =>
   have hlen : a.length < b.length:=by have:=drop_len hr; omega
   have l1 : (a.length : Int) < (b.length : Int):=by omega
   rw [hr,cmpL] at hF
   simp only [go_sem,l1,decide_true]
   rw [hF]
theorem c_Same17 (l : List Entry) (hl : l.length <= 1073741824) (hk : ∀ e ∈ l,e.key.length <= 1073741824) (hK : ∀ a : List Int,a.length <= 1073741824 -> PCall Tryz.prog 61 [.sl none (lI64 a),.sl none (lI64 a)] (.int .i64 0)) : PCall Tryz.prog 33 [.sl none (lEntry l),.sl none (lEntry l)] (.bool true):=by
 have el : (lEntry l).length = l.length:=lEntry_len l
 have n0 : ((l.length : Int) != (l.length : Int)) = false:=by simp
 refine pC h33_k rfl ?_
 simp only [Tryz.f33,go_sem,el,n0]
 refine awp_lst l (fun (_ : Unit) _ => ()) (fun _ _ => True) (fun k _ => [(0,.sl none (lEntry l)),(1,.sl none (lEntry l)),(5,.int .i64 k)]) (fun _ _ => []) () (by omega) trivial rfl rfl ?_ ?_
 ·intro k _ x xs hd hx _ _ h0 h1 hw
  have c1:=hK x.key (hk x (List.mem_of_getElem? hx))
  have v0 : (x.var.toList == x.var.toList) = true:=by simp
  have v1 : (x.n != x.n) = false:=by simp
  have v2 : (x.at_ != x.at_) = false:=by simp
  simp only [go_sem,h0,h1,lEntry_get hx,el,v0,v1,v2,Bool.not_true]
  refine pK c1 ?_
  have z0 : ((0 : Int) != 0) = false:=rfl
  simp only [go_sem,z0,hw]
  exact ⟨(),trivial⟩
 ·intro _ _ _
  simp only [go_sem,Int.lt_irrefl,decide_false,el]
theorem c_Same17r (l : List Entry) (hl : l.length <= 1073741824) (hk : ∀ e ∈ l,e.key.length <= 1073741824) : PCall Tryz.prog 33 [.sl none (lEntry l),.sl none (lEntry l)] (.bool true) :=
 c_Same17 l hl hk fun a ha => by
  have:=c_Keys a a ha
  rwa [cmpL_refl] at this
theorem c_SameSts (l : List (List Entry)) (hl : l.length <= 1073741824) (hk : ∀ x ∈ l,x.length <= 1073741824 /\ ∀ e ∈ x,e.key.length <= 1073741824) : PCall Tryz.prog 8 [.sl none (lSts l),.sl none (lSts l)] (.bool true):=by
 have el : (lSts l).length = l.length:=lSts_len l
 have n0 : ((l.length : Int) != (l.length : Int)) = false:=by simp
 refine pC h8_k rfl ?_
 simp only [Tryz.f8,go_sem,el,n0]
 refine awp_lst l (fun (_ : Unit) _ => ()) (fun _ _ => True) (fun k _ => [(0,.sl none (lSts l)),(1,.sl none (lSts l)),(5,.int .i64 k)]) (fun _ _ => []) () (by omega) trivial rfl rfl ?_ ?_
 ·intro k _ x xs hd hx _ _ h0 h1 hw
  have hx2:=hk x (List.mem_of_getElem? hx)
  have c1:=c_Same17r x hx2.1 hx2.2
  simp only [go_sem,h0,h1,lSts_get hx,el]
  refine pK c1 ?_
  simp only [go_sem,hw,Bool.not_true]
  exact ⟨(),trivial⟩
 ·intro _ _ _
  simp only [go_sem,Int.lt_irrefl,decide_false,el]
theorem c_Cmp17 (a b : Entry) (ha : a.key.length <= 1073741824) : PCall Tryz.prog 142 [.agg a.c,.agg b.c] (.int .i64 (cmpE a b)):=by
 have c1:=c_Keys a.key b.key ha
 refine pC h142_k rfl ?_
 simp only [Tryz.f142,go_sem]
 repeat' (first
  | (refine pK (c1) ?_; simp only [go_sem,toList_beq])
  | ((first | refine cS ?_ ?_ | refine gS ?_ ?_) <;> (intro hc; simp only [go_sem,hc,toList_beq])))
 ·have h1 : ltB a.var b.var = true:=hc
  simp [cmpE,cmpB,h1]
 ·rename_i hc1
  have h1 : ltB a.var b.var = false:=hc1
  have h2 : ¬ a.var = b.var:=by simpa using hc
  simp [cmpE,cmpB,h1,h2]
 ·rename_i hc1
  have h1 : ltB a.var b.var = false:=hc1
  have h2 : a.var = b.var:=by simpa using hc
  simp [cmpE,cmpB,h1,h2,ltB_irr]
theorem p_Same1 (a : Entry) (ha : a.key.length <= 1073741824) : PCall Tryz.prog 36 [.agg a.c,.agg a.c] (.bool true):=by
 have c1:=p_cmpE a a ha
 rw [cmpE_refl] at c1
 have v1 : (a.n == a.n) = true:=by simp
 have v2 : (a.at_ == a.at_) = true:=by simp
 have v3 : ((0 : Int) == 0) = true:=rfl
 refine pC h36_k rfl ?_
 simp only [Tryz.f36,go_sem]
 refine pK c1 ?_
 simp only [go_sem,v1,v2,v3]
end Go.AI
namespace Go.AI
open Go.Proofs
set_option maxRecDepth 50000
theorem p_EqualE (l : List Entry) (hl : l.length <= 1073741824) (hk : ∀ e ∈ l,e.key.length <= 1073741824) : PCall Tryz.prog 35 [.sl none (lEntry l),.sl none (lEntry l),.fn (.func 36) [] []] (.bool true):=by
 have el : (lEntry l).length = l.length:=lEntry_len l
 have n0 : ((l.length : Int) != (l.length : Int)) = false:=by simp
 refine pC h35_k rfl ?_
 simp only [Tryz.f35,go_sem,el,n0]
 refine awp_lst l (fun (_ : Unit) _ => ()) (fun _ _ => True) (fun k _ => [(1,.sl none (lEntry l)),(2,.fn (.func 36) [] []),(15,.sl none (lEntry l)),(16,.int .i64 l.length),(17,.int .i64 k)]) (fun _ _ => []) () (by omega) trivial rfl rfl ?_ ?_
 ·intro k _ x xs hd hx _ _ h0 h1 hw
  have c1:=p_Same1 x (hk x (List.mem_of_getElem? hx))
  simp only [go_sem,h0,h1,lEntry_get hx,el,List.length_append,List.length_cons,List.length_nil,Nat.zero_add,Nat.reduceAdd]
  refine ACallK.pure c1 ?_
  simp only [go_sem,hw,Bool.not_true]
  exact ⟨(),trivial⟩
 ·intro _ _ _
  simp only [go_sem,Int.lt_irrefl,decide_false,el]
theorem p_SameE (l : List Entry) (hl : l.length <= 1073741824) (hk : ∀ e ∈ l,e.key.length <= 1073741824) : PCall Tryz.prog 10 [.sl none (lEntry l),.sl none (lEntry l)] (.bool true):=by
 refine pC h10_k rfl ?_
 simp only [Tryz.f10,go_sem]
 repeat' (first
  | (refine pK (p_EqualE l hl hk) ?_; simp only [go_sem])
  | ((first | refine cS ?_ ?_ | refine gS ?_ ?_) <;> (intro hc; simp only [go_sem,hc])))
def lVar (l : List Variable) : List AV:=l.map fun x => .agg x.c
@[go_sem] theorem lVar_len (l : List Variable) : (lVar l).length = l.length:=by simp [lVar]
theorem lVar_get {l : List Variable} {i : Nat} {x : Variable} (h : l[i]? = some x) : (lVar l)[i]? = some (.agg x.c):=by simp [lVar,h]
@[go_sem] theorem lVar_snoc (a : List Variable) (x : Variable) : lVar a ++ [.agg x.c] = lVar (a ++ [x]):=by simp [lVar]
@[go_sem] theorem lVar_pure (l : List Variable) : pureL (lVar l) = true:=by
 induction l with
 | nil => rfl
 | cons x xs ih => simpa [lVar,pureL,AV.pure] using ⟨Variable.c_pure x,ih⟩
theorem c_variable (l : List Variable) (hl : l.length <= 1073741824) (v : ByteArray) : PCall Tryz.prog 140 [.sl none (lVar l),.str v] (.int .i64 (idxI (fun x : Variable => decide (x.name = v)) l)):=by
 have el : (lVar l).length = l.length:=lVar_len l
 refine pC h140_k rfl ?_
 simp only [Tryz.f140,go_sem]
 refine awp_all l (fun r => idxGo (fun x : Variable => decide (x.name = v)) (l.length - r.length) r) (fun k => [(0,.sl none (lVar l)),(1,.str v),(5,.int .i64 k)]) (by omega) rfl ?_ ?_
 ·intro k x xs hd hx hF h0 h1 hw
  have hk2:=drop_len hd
  have e1 : l.length - (xs.length + 1) = k:=by omega
  have e2 : l.length - xs.length = k + 1:=by omega
  simp only [List.length_cons,e1,Nat.sub_self] at hF
  simp only [go_sem,h0,h1,lVar_get hx,el,e1,e2,toList_beq]
  repeat' (first
   | ((first | refine cS ?_ ?_ | refine gS ?_ ?_) <;> (intro hc; simp only [go_sem,hc,h0,h1,hw,lVar_get hx,el,e1,e2])))
  ·rw [idxI,hF,idxGo,if_pos hc]
  ·rw [idxGo,if_neg (by rw [hc]; decide)]
 ·intro hF hlt
  simp only [go_sem,hlt,decide_false,el]
  rw [Nat.sub_self] at hF
  rw [idxI,hF]; rfl
theorem c_count (l : List Entry) (hl : l.length <= 1073741824) (v : ByteArray) : PCall Tryz.prog 143 [.sl none (lEntry l),.str v] (.int .i64 (ofE l v).length):=by
 have el : (lEntry l).length = l.length:=lEntry_len l
 refine pC h143_k rfl ?_
 simp only [Tryz.f143,go_sem]
 refine awp_lst l (fun (_ : Unit) _ => ()) (fun _ _ => True) (fun k _ => [(0,.sl none (lEntry l)),(1,.str v),(5,.int .i64 (ofE (l.take k) v).length),(6,.int .i64 k)]) (fun _ _ => []) () (by omega) trivial rfl rfl ?_ ?_
 ·intro k _ x xs hd hx _ _ h0 h1 hw
  have hkl:=(List.getElem?_eq_some_iff.1 hx).1
  have hle : (ofE (l.take k) v).length <= k:=Nat.le_trans (List.length_filter_le _ _) (by rw [List.length_take]; omega)
  have hw2 : IntKind.i64.wrap (((ofE (l.take k) v).length : Int) + 1) = (((ofE (l.take k) v).length + 1 : Nat) : Int):=w64s (by omega)
  have htk : l.take (k + 1) = l.take k ++ [x]:=by rw [List.take_add_one,hx]; rfl
  simp only [go_sem,h0,h1,lEntry_get hx,el,toList_beq]
  repeat' (first
   | ((first | refine cS ?_ ?_ | refine gS ?_ ?_) <;> (intro hc; simp only [go_sem,hc,h0,h1,hw,hw2,lEntry_get hx,el])))
  ·have hv : x.var = v:=of_decide_eq_true hc
   have : ofE (l.take (k + 1)) v = ofE (l.take k) v ++ [x]:=by rw [htk]; unfold ofE; rw [List.filter_append]; simp [hv]
   rw [this]
   exact ⟨(),by first | rw [List.length_append]; rfl | rfl,rfl⟩
  ·have hv : ¬ x.var = v:=of_decide_eq_false hc
   have : ofE (l.take (k + 1)) v = ofE (l.take k) v:=by rw [htk]; unfold ofE; rw [List.filter_append]; simp [hv]
   rw [this]
   exact ⟨(),by first | rw [List.length_append]; rfl | rfl,rfl⟩
 ·intro _ _ _
  simp only [go_sem,Int.lt_irrefl,decide_false,el,List.take_length]
theorem c_power17 (n : Int) (hn : n < 9223372036854775807) : PCall Tryz.prog 211 [.int .i64 n] (.int .i64 (powW n.toNat)):=by
 refine pC h211_k rfl ?_
 simp only [Tryz.f211,go_sem]
 refine awp_for n.toNat (fun k => [(0,.int .i64 n),(3,.int .i64 (powW k)),(4,.int .i64 k)]) (fun _ => []) rfl rfl ?_
 intro k hk
 by_cases h : (k : Int) < n
 ·have hw:=w64s (k:=k) (by omega)
  simp only [go_sem,h,decide_true,hw]
  exact ⟨by omega,rfl,rfl⟩
 ·have : k = n.toNat:=by omega
  subst this
  simp only [go_sem,h,decide_false]
def fitQ (v : Variable) (e : Entry) : Prop:=e.key.length = v.widths.length /\ (0 <= e.n /\ e.n <= 65535) /\ (0 <= e.at_ /\ e.at_ <= 1073741824) /\ ∀ x ∈ e.key,0 <= x
set_option maxHeartbeats 4000000 in
theorem q_fits (v : Variable) (hw : ∀ w ∈ v.widths,w < 9223372036854775807) (e : Entry) (hk : e.key.length <= 1073741824) (l : List Entry) (hl : l.length <= 1073741824) : QCall Tryz.prog 141 [.agg v.c,.agg e.c,.sl none (lEntry l)] fun r => ∃ b,r = .bool b /\ (b = true -> fitQ v e):=by
 have el : (lEntry l).length = l.length:=lEntry_len l
 have ek : (lI64 e.key).length = e.key.length:=lI64_len _
 have ew : (lI64 v.widths).length = v.widths.length:=lI64_len _
 refine qC h141_k rfl ?_
 by_cases hb : e.key.length = v.widths.length /\ (0 <= e.n /\ e.n <= 65535) /\ (0 <= e.at_ /\ e.at_ <= 1073741824)
 ·obtain ⟨b0,⟨b1,b2⟩,b3,b4⟩:=hb
  have n0 : ((e.key.length : Int) != (v.widths.length : Int)) = false:=by simp [b0]
  have n1 : ¬ e.n < 0:=by omega
  have n2 : ¬ 65535 < e.n:=by omega
  have n3 : ¬ e.at_ < 0:=by omega
  have n4 : ¬ 1073741824 < e.at_:=by omega
  simp only [Tryz.f141,go_sem,ek,ew,n0,n1,n2,n3,n4,decide_false]
  refine awp_lst e.key (fun (_ : Unit) _ => ()) (fun k _ => ∀ x ∈ e.key.take k,0 <= x) (fun k _ => [(2,.sl none (lEntry l)),(3,.ptr 0 0),(4,.ptr 1 0),(7,.int .i64 k)]) (fun _ _ => [some v.c,some e.c]) () (by omega) (by simp) rfl rfl ?_ ?_
  ·intro k _ x xs hd hx hI _ h0 h1 hw1
   obtain ⟨w,hwx⟩ : ∃ w,v.widths[k]? = some w:=⟨_,List.getElem?_eq_getElem (by have:=(List.getElem?_eq_some_iff.1 hx).1; omega)⟩
   have hkw : (k : Int) < (v.widths.length : Int):=by omega
   have c1:=c_power17 w (hw w (List.mem_of_getElem? hwx))
   have htk : e.key.take (k + 1) = e.key.take k ++ [x]:=by rw [List.take_add_one,hx]; rfl
   simp only [go_sem,h0,h1,ek,ew,lI64_get hx,lI64_get hwx,hkw]
   repeat' (first
    | (refine pK (c1) ?_; simp only [go_sem,h0,h1,hw1,ek,ew,lI64_get hx,lI64_get hwx,hkw])
    | ((first | refine cS ?_ ?_ | refine gS ?_ ?_) <;> (intro hc; simp only [go_sem,hc,h0,h1,hw1,ek,ew,lI64_get hx,lI64_get hwx,hkw])))
   all_goals first | exact ⟨rfl,false,rfl,by simp⟩ | skip
   ·rename_i hc1
    refine ⟨(),fun y hy => ?_⟩
    rw [htk] at hy
    rcases List.mem_append.1 hy with hy | hy
    ·exact hI y hy
    ·rcases List.mem_singleton.1 hy with rfl
     have:=of_decide_eq_false hc1
     omega
  ·intro _ hI _
   have hq : fitQ v e:=⟨b0,⟨b1,b2⟩,⟨b3,b4⟩,by rw [List.take_length] at hI; exact hI⟩
   simp only [go_sem,Int.lt_irrefl,decide_false,ek]
   repeat' (first
    | ((first | refine cS ?_ ?_ | refine gS ?_ ?_) <;> (intro hc; simp only [go_sem,hc,ek,el])))
   all_goals first | exact ⟨rfl,_,rfl,fun _ => hq⟩ | skip
   refine awp_lst l (fun (_ : Unit) _ => ()) (fun _ _ => True) (fun k _ => [(2,.sl none (lEntry l)),(3,.ptr 0 0),(4,.ptr 1 0),(8,.int .i64 k)]) (fun _ _ => [some v.c,some e.c]) () (by omega) trivial rfl rfl ?_ ?_
   ·intro k _ x xs hd hx _ _ h0 h1 hw1
    simp only [go_sem,h0,h1,el,lEntry_get hx]
    repeat' (first
     | ((first | refine cS ?_ ?_ | refine gS ?_ ?_) <;> (intro hc; simp only [go_sem,hc,h0,h1,hw1,el,lEntry_get hx])))
    all_goals first | exact ⟨rfl,_,rfl,fun _ => hq⟩ | exact ⟨(),trivial⟩ | skip
   ·intro _ _ _
    simp only [go_sem,Int.lt_irrefl,decide_false,el]
    repeat' (first
     | ((first | refine cS ?_ ?_ | refine gS ?_ ?_) <;> (intro hc; simp only [go_sem,hc,el])))
    all_goals first | exact ⟨rfl,_,rfl,fun _ => hq⟩ | skip
 ·simp only [Tryz.f141,go_sem,ek,ew]
  repeat' (first
   | ((first | refine cS ?_ ?_ | refine gS ?_ ?_) <;> (intro hc; simp only [go_sem,hc,ek,ew])))
  all_goals first | exact ⟨rfl,false,rfl,by simp⟩ | skip
  rename_i g1 g2 g3 g4
  have g1 : (e.key.length : Int) = (v.widths.length : Int):=by simpa using g1
  have g2:=of_decide_eq_false g2
  have g3:=of_decide_eq_false g3
  have g4:=of_decide_eq_false g4
  have g5:=of_decide_eq_false hc
  exact absurd ⟨by omega,⟨by omega,by omega⟩,by omega,by omega⟩ hb
end Go.AI
namespace Go.AI
open Go.Proofs
set_option maxRecDepth 50000
def adjE (l : List Entry) : Prop:=∀ (k : Nat) (y x : Entry),l[k]? = some y -> l[k + 1]? = some x -> cmpE y x < 0
def hC17 : Hint:={ h77 with pc:=[20,49,60] }
@[go_sem] theorem hC17_lv (k : Nat) : hC17.lv k = h77.lv k:=Eq.trans rfl rfl
@[go_sem] theorem hC17_ct (k : Nat) : hC17.ct k = h77.ct k:=Eq.trans rfl rfl
@[go_sem] theorem hC17_at (k : Nat) : hC17.at k = h77.at k:=Eq.trans rfl rfl
@[go_sem] theorem hC17_dn (k : Nat) : hC17.dn k = h77.dn k:=Eq.trans rfl rfl
@[go_sem] theorem hC17_t : hC17.tk = [] /\ hC17.mt = [] /\ hC17.pc = [20,49,60]:=⟨rfl,rfl,rfl⟩
theorem hC17_k : FK Tryz.prog 77 Tryz.f77 hC17:=⟨by kernel_rfl,by kernel_rfl,Tryz.func77,by kernel_rfl⟩
set_option maxHeartbeats 4000000 in
theorem q_Check17 (vs : List Variable) (hv : vs.length <= 1073741824) (hw : ∀ v ∈ vs,∀ w ∈ v.widths,w < 9223372036854775807) (l : List Entry) (hl : l.length <= 1073741824) (hk : ∀ e ∈ l,e.key.length <= 1073741824) : QCall Tryz.prog 77 [.sl none (lVar vs),.sl none (lEntry l)] fun r => ∃ n,r = .int .i64 n /\ (n = 0 -> (∀ e ∈ l,∃ v ∈ vs,v.name = e.var /\ fitQ v e) /\ adjE l):=by
 have el : (lEntry l).length = l.length:=lEntry_len l
 have ev : (lVar vs).length = vs.length:=lVar_len vs
 refine qC hC17_k rfl ?_
 simp only [Tryz.f77,go_sem]
 refine awp_lst l (fun (_ : Unit) _ => ()) (fun k _ => (∀ e ∈ l.take k,∃ v ∈ vs,v.name = e.var /\ fitQ v e) /\ ∀ (i : Nat) (y z : Entry),i + 1 < k -> l[i]? = some y -> l[i + 1]? = some z -> cmpE y z < 0) (fun k _ => [(0,.sl none (lVar vs)),(1,.sl none (lEntry l)),(5,.int .i64 k)]) (fun _ _ => []) () (by omega) ⟨by simp,fun i y z hi => by omega⟩ rfl rfl ?_ ?_
 ·rintro k _ x xs hd hx ⟨hI,hJ⟩ _ h0 h1 hw1
  have hkx:=hk x (List.mem_of_getElem? hx)
  have c1:=c_variable vs hv x.var
  have htk : l.take (k + 1) = l.take k ++ [x]:=by rw [List.take_add_one,hx]; rfl
  have hkl:=(List.getElem?_eq_some_iff.1 hx).1
  have hkle : (k : Int) <= (l.length : Int):=by omega
  have htl : (l.take k).length <= 1073741824:=by rw [List.length_take]; omega
  have c3:=c_count (l.take k) htl x.var
  have htl2 : (lEntry (l.take k)).length = k:=by rw [lEntry_len,List.length_take]; omega
  simp only [go_sem,h0,h1,el,lEntry_get hx]
  refine pK c1 ?_
  rcases idxGo_find (fun v : Variable => decide (v.name = x.var)) vs 0 with ⟨w1,w2⟩ | ⟨i,v,w1,w2,w3⟩
  ·have e1 : idxI (fun v : Variable => decide (v.name = x.var)) vs = -1:=w1
   rw [e1]
   have z1 : (-1 : Int) < 0:=by decide
   simp only [go_sem,z1,decide_true]
   exact ⟨rfl,4,rfl,fun h => absurd h (by decide)⟩
  ·have e1 : idxI (fun v : Variable => decide (v.name = x.var)) vs = (i : Int):=by rw [idxI,w1,Nat.zero_add]
   have hvm:=List.mem_of_getElem? w2
   have hvn : v.name = x.var:=by have:=List.find?_some w3; simpa using this
   have hiv : (i : Int) < (vs.length : Int):=by have:=(List.getElem?_eq_some_iff.1 w2).1; omega
   have i0 : (0 : Int) <= (i : Int):=by omega
   have i1 : ¬ (i : Int) < 0:=by omega
   have q1:=q_fits v (hw v hvm) x hkx (l.take k) htl
   rw [e1]
   have hkne : ¬ ((k : Int) = (l.length : Int)):=by omega
   have hnx : fitQ v x -> (∀ y,0 < k -> l[k - 1]? = some y -> cmpE y x < 0) -> (∀ e ∈ l.take (k + 1),∃ v ∈ vs,v.name = e.var /\ fitQ v e) /\ ∀ (i : Nat) (y z : Entry),i + 1 < k + 1 -> l[i]? = some y -> l[i + 1]? = some z -> cmpE y z < 0:=fun hf hq => ⟨fun e he => by
    rw [htk] at he
    rcases List.mem_append.1 he with he | he
    ·exact hI e he
    ·rcases List.mem_singleton.1 he with rfl
     exact ⟨v,hvm,hvn,hf⟩,fun i y z hi hy hz => by
    by_cases hik : i + 1 < k
    ·exact hJ i y z hik hy hz
    ·have hik : i + 1 = k:=by omega
     rw [hik,hx] at hz
     cases hz
     exact hq y (by omega) (by rw [<- hik]; exact hy)⟩
   simp only [go_sem,i0,i1,hiv,decide_false,lVar_get w2,h0,h1,el,ev,hkle,hkne,lEntry_get hx]
   refine ACallK.prop q1 fun r hr => ?_
   obtain ⟨b,rfl,hb⟩:=hr
   cases b with
   | false =>
    simp only [go_sem,Bool.not_false]
    exact ⟨rfl,1,rfl,fun h => absurd h (by decide)⟩
   | true =>
    have hnx:=hnx (hb rfl)
    rcases Nat.eq_zero_or_pos k with hz | hz
    ·have hnx:=hnx fun y hk0 => by omega
     have g0 : ¬ (0 : Int) < (k : Int):=by omega
     simp only [go_sem,Bool.not_true,g0,decide_false,h0,h1,el,hkle,hkne,lEntry_get hx]
     repeat' (first
      | (refine pK (c3) ?_; simp only [go_sem,h0,h1,hw1,el,hkle,hkne,lEntry_get hx])
      | ((first | refine cS ?_ ?_ | refine gS ?_ ?_) <;> (intro hc; simp only [go_sem,hc,h0,h1,hw1,el,hkle,hkne,lEntry_get hx])))
     all_goals first | exact ⟨rfl,2,rfl,fun h => absurd h (by decide)⟩ | exact ⟨(),hnx,rfl,rfl⟩ | exact ⟨(),hnx⟩
    ·have g0 : (0 : Int) < (k : Int):=by omega
     obtain ⟨y,hy⟩ : ∃ y,l[k - 1]? = some y:=⟨_,List.getElem?_eq_getElem (by omega)⟩
     have c2:=c_Cmp17 y x (hk y (List.mem_of_getElem? hy))
     have hwk : IntKind.i64.wrap ((k : Int) - 1) = ((k - 1 : Nat) : Int):=by rw [w64 (by omega) (by omega)]; omega
     have g1 : (0 : Int) <= ((k - 1 : Nat) : Int):=by omega
     have g2 : ((k - 1 : Nat) : Int) < (l.length : Int):=by omega
     simp only [go_sem,Bool.not_true,g0,g1,g2,hwk,decide_true,h0,h1,el,hkle,hkne,lEntry_get hx,lEntry_get hy]
     repeat' (first
      | ((first | refine pK (c2) ?_ | refine pK (c3) ?_); simp only [go_sem,h0,h1,hw1,g1,g2,hwk,el,hkle,hkne,lEntry_get hx,lEntry_get hy])
      | ((first | refine cS ?_ ?_ | refine gS ?_ ?_) <;> (intro hc; simp only [go_sem,hc,h0,h1,hw1,g1,g2,hwk,el,hkle,hkne,lEntry_get hx,lEntry_get hy])))
     all_goals first | exact ⟨rfl,10,rfl,fun h => absurd h (by decide)⟩ | exact ⟨rfl,2,rfl,fun h => absurd h (by decide)⟩ | exact ⟨(),hnx (fun y2 _ hy2 => by rw [hy] at hy2; cases hy2; simp only [decide_eq_false_iff_not] at *; omega),rfl,rfl⟩ | exact ⟨(),hnx (fun y2 _ hy2 => by rw [hy] at hy2; cases hy2; simp only [decide_eq_false_iff_not] at *; omega)⟩
 ·rintro _ ⟨hI,hJ⟩ _
  simp only [go_sem,Int.lt_irrefl,decide_false,el]
  rw [List.take_length] at hI
  exact ⟨rfl,0,rfl,fun _ => ⟨hI,fun i y z hy hz => hJ i y z (List.getElem?_eq_some_iff.1 hz).1 hy hz⟩⟩
end Go.AI
namespace Go.AI
open Go.Proofs
set_option maxRecDepth 50000
def geB (a b : ByteArray) : Bool:=!ltB a b
def putTGo (n : ByteArray) : Bool -> List ByteArray -> List ByteArray
 | d,[] => if d then [] else [n]
 | d,x :: r => (if geB x n = true /\ d = false then [n] else []) ++ ((if x ≠ n then [x] else []) ++ putTGo n (d || geB x n) r)
def putT (l : List ByteArray) (n : ByteArray) : List ByteArray:=putTGo n false l
theorem c_putT (l : List ByteArray) (n : ByteArray) (hl : l.length <= 1073741824) : PCall Tryz.prog 144 [.sl none (lStr l),.str n] (.sl none (lStr (putT l n))):=by
 have el : (lStr l).length = l.length:=lStr_len l
 refine pB h144_k rfl ?_
 simp only [Tryz.f144,go_sem]
 refine awp_lst l (fun (s : List ByteArray × Bool) r => s.1 ++ putTGo n s.2 r) (fun k s => s.1.length <= 2 * k) (fun k s => [(0,.sl none (lStr l)),(1,.str n),(5,.sl (some 1) (lStr s.1)),(6,.bool s.2),(7,.int .i64 k)]) (fun k o => []) ([],false) (by omega) (by simp) rfl rfl ?_ ?_
 ·rintro k ⟨o,d⟩ y ys hd hx hI hF h0 h1 hw
  dsimp only at hI hF ⊢
  have hk2:=drop_len hd
  obtain ⟨g1,g2,g3,g4,g5⟩ : (o.length + 1) * 16 <= 140737488355328 /\ o.length <= 9223372036854775806 /\ (o.length + 1 + 1) * 16 <= 140737488355328 /\ o.length + 1 <= 9223372036854775806 /\ o.length <= 9223372036854775805:=by
   have hm : o.length <= 2147483648:=Nat.le_trans hI (by omega)
   generalize o.length = m at hm
   omega
  simp only [go_sem,h0,h1,lStr_get hx,el]
  repeat' (first
   | ((first | refine cS ?_ ?_ | refine gS ?_ ?_) <;> (intro hc; simp only [go_sem,hc,h0,h1,hw,lStr_get hx,el,toList_beq,List.length_append,List.length_singleton,g1,g2,g3,g4,g5])))
  all_goals first
   | exact ⟨(o ++ [n,y],true),by grind [putTGo,geB,ltB],by simp; omega,rfl,rfl⟩
   | exact ⟨(o ++ [n],true),by grind [putTGo,geB,ltB],by simp; omega,rfl,rfl⟩
   | exact ⟨(o ++ [y],d),by grind [putTGo,geB,ltB],by simp; omega,rfl,rfl⟩
   | exact ⟨(o,d),by grind [putTGo,geB,ltB],by simp; omega,rfl,rfl⟩
   | skip
 ·rintro ⟨o,d⟩ hI hF
  dsimp only at hI hF ⊢
  obtain ⟨g1,g2⟩ : (o.length + 1) * 16 <= 140737488355328 /\ o.length <= 9223372036854775806:=by
   have hm : o.length <= 2147483648:=Nat.le_trans hI (by omega)
   generalize o.length = m at hm
   omega
  simp only [go_sem,Int.lt_irrefl,decide_false,el]
  repeat' (first
   | ((first | refine cS ?_ ?_ | refine gS ?_ ?_) <;> (intro hc; simp only [go_sem,hc,g1,g2])))
  all_goals first
   | rfl
   | (simp only [putT,putTGo]; rfl)
   | grind [putT,putTGo]
   | (simp only [putT,putTGo]; grind)
   | (simp [putT,putTGo, *]; done)
   | (simp_all [putT,putTGo]; done)
   | skip
def namesP (o : List ByteArray) : List Stage -> List ByteArray
 | [] => o
 | x :: r => namesP (if x.step.kind = 0 then o else putT o x.step.var) r
theorem putTGo_len (n : ByteArray) : ∀ (l : List ByteArray) (d : Bool),(putTGo n d l).length <= 2 * l.length + 1
 | [],d => by cases d <;> simp [putTGo]
 | x :: l,d => by
  rw [putTGo,List.length_append,List.length_append,List.length_cons]
  have:=putTGo_len n l (d || geB x n)
  split <;> split <;> simp <;> omega
def hV12 : Hint:={ h78 with tk:=[89,93] }
@[go_sem] theorem hV12_lv (k : Nat) : hV12.lv k = h78.lv k:=Eq.trans rfl rfl
@[go_sem] theorem hV12_ct (k : Nat) : hV12.ct k = h78.ct k:=Eq.trans rfl rfl
@[go_sem] theorem hV12_at (k : Nat) : hV12.at k = h78.at k:=Eq.trans rfl rfl
@[go_sem] theorem hV12_dn (k : Nat) : hV12.dn k = h78.dn k:=Eq.trans rfl rfl
@[go_sem] theorem hV12_t : hV12.tk = [89,93] /\ hV12.mt = [] /\ hV12.pc = [33,70,75,78]:=⟨rfl,rfl,rfl⟩
theorem hV12_k : FK Tryz.prog 78 Tryz.f78 hV12:=⟨by kernel_rfl,by kernel_rfl,Tryz.func78,by kernel_rfl⟩
def vW (l : List Fld) (nm : ByteArray) (a : Variable × Bool) (s : Stp) : Variable × Bool :=
 if s.kind = 0 \/ s.var ≠ nm then a
 else if numS s = true /\ a.2 = false then ({ a.1 with family:=famS s.kind,widths:=widS l s.key,n:=s.n,m:=s.m },true)
 else ({ a.1 with family:=famS s.kind,widths:=widS l s.key },a.2)
def vWs (l : List Fld) (nm : ByteArray) (a : Variable × Bool) : List Stage -> Variable × Bool
 | [] => a
 | x :: r => vWs l nm (vW l nm a x.step) r
def varOf (l : List Fld) (p : List Stage) (nm : ByteArray) : Variable:=(vWs l nm (⟨nm,0,[],0,0⟩,false) p).1
def vars12 (l : List Fld) (p : List Stage) : List Variable:=(namesP [] p).map (varOf l p)
set_option maxHeartbeats 4000000 in
theorem c_Vars12 (l : List Fld) (p : List Stage) (hp : p.length <= 8) (hk : ∀ x ∈ p,x.step.key.length <= 1048576) : PCall Tryz.prog 78 [.sl none (lFld l),.sl none (lStage p)] (.sl none (lVar (vars12 l p))):=by
 have el : (lStage p).length = p.length:=lStage_len p
 refine pB hV12_k rfl ?_ (hv:=by simp [AV.pure,lVar_pure])
 simp only [Tryz.f78,go_sem]
 refine awp_lst p (fun (s : Option Nat × List ByteArray) r => namesP s.2 r) (fun k s => s.2.length < 4 ^ k) (fun k s => [(0,.sl none (lFld l)),(1,.sl none (lStage p)),(5,.sl s.1 (lStr s.2)),(6,.int .i64 k)]) (fun _ _ => []) (some 1,[]) (by omega) (by decide) rfl rfl ?_ ?_
 ·rintro k ⟨w,o⟩ x xs hd hx hI hF h0 h1 hw
  dsimp only at hI hF ⊢
  have hkl:=(List.getElem?_eq_some_iff.1 hx).1
  have h48 : (4 : Nat) ^ k <= 4 ^ 8:=Nat.pow_le_pow_right (by decide) (by omega)
  have hol : o.length < 65536:=Nat.lt_of_lt_of_le hI h48
  have c1:=c_putT o x.step.var (by omega)
  have hl2 : (putT o x.step.var).length < 4 ^ (k + 1):=by
   have:=putTGo_len x.step.var o false
   have h4 : (4 : Nat) ^ (k + 1) = 4 * 4 ^ k:=by rw [Nat.pow_succ]; omega
   unfold putT
   omega
  have hl3 : o.length < 4 ^ (k + 1):=by
   have h4 : (4 : Nat) ^ (k + 1) = 4 * 4 ^ k:=by rw [Nat.pow_succ]; omega
   omega
  by_cases h00 : x.step.kind = 0
  ·have z0 : (x.step.kind != 0) = false:=by simp [h00]
   simp only [go_sem,h0,h1,lStage_get hx,el,z0,hw]
   exact ⟨(w,o),by rw [namesP,if_pos h00],hl3,rfl,rfl⟩
  ·have z0 : (x.step.kind != 0) = true:=by simp [h00]
   simp only [go_sem,h0,h1,lStage_get hx,el,z0]
   refine pK c1 ?_
   simp only [go_sem,hw]
   exact ⟨(none,putT o x.step.var),by rw [namesP,if_neg h00],hl2,rfl,rfl⟩
 ·rintro ⟨w,o⟩ hI hF
  dsimp only at hI hF ⊢
  have hol : o.length < 65536:=Nat.lt_of_lt_of_le hI (Nat.pow_le_pow_right (by decide) hp)
  have ho : namesP [] p = o:=hF
  have eo : (lStr o).length = o.length:=lStr_len o
  simp only [go_sem,Int.lt_irrefl,decide_false,el]
  refine awp_lst o (fun (s : List Variable × Heap) r => s.1 ++ r.map (varOf l p)) (fun k s => s.1.length = k) (fun k s => [(0,.sl none (lFld l)),(1,.sl none (lStage p)),(5,.sl w (lStr o)),(7,.sl (some 5) (lVar s.1)),(8,.int .i64 k)]) (fun _ s => s.2) ([],[]) (by omega) rfl rfl rfl ?_ ?_
  ·rintro k ⟨out,J⟩ nm nms hd hx hI2 hF2 h0 h1 hw
   dsimp only at hI2 hF2 ⊢
   have hsp : spliceN (Variable.z.cf (some 1)) [AV.str nm] = (⟨nm,0,[],0,0⟩ : Variable).cf (some 1):=rfl
   have gB : ∀ y L,(J ++ y :: L)[J.length]? = some y:=fun y L => by simp
   have sB : ∀ y z L,(J ++ y :: L).set J.length z = J ++ z :: L:=fun y z L => by
    rw [List.set_append_right _ _ (Nat.le_refl _)]; simp
   have gN : ∀ y L z,(J ++ y :: (L ++ [z]))[List.length (J ++ y :: L)]? = some z:=fun y L z => by
    have : J ++ y :: (L ++ [z]) = (J ++ y :: L) ++ [z]:=by simp
    rw [this]; exact List.getElem?_concat_length
   have sN : ∀ y L z z2,(J ++ y :: (L ++ [z])).set (List.length (J ++ y :: L)) z2 = J ++ y :: (L ++ [z2]):=fun y L z z2 => by
    have : J ++ y :: (L ++ [z]) = (J ++ y :: L) ++ [z]:=by simp
    rw [this]; simp
   simp only [go_sem,h0,h1,lStr_get hx,eo,hsp]
   refine awp_lst p (fun (a : (Variable × Bool) × Option Nat × Heap) r => vWs l nm a.1 r) (fun _ _ => True) (fun j a => [(0,.sl none (lFld l)),(1,.sl none (lStage p)),(5,.sl w (lStr o)),(7,.sl (some 5) (lVar out)),(8,.int .i64 k),(9,.ptr J.length 0),(10,.bool a.1.2),(11,.int .i64 j)])
    (fun _ a => J ++ some (a.1.1.cf a.2.1) :: a.2.2) ((⟨nm,0,[],0,0⟩,false),some 1,[]) (by omega) trivial rfl rfl ?_ ?_
   ·rintro j ⟨⟨v,f⟩,w2,L⟩ x xs hd3 hx3 _ hF3 g0 g1 gw
    dsimp only at hF3 ⊢
    have c1:=c_famS x.step.kind
    have c2:=c_widS l x.step.key (by have:=hk x (List.mem_of_getElem? hx3); omega)
    have c3:=c_numS x.step
    by_cases h00 : x.step.kind = 0
    ·have z0 : (x.step.kind == 0) = true:=by simp [h00]
     simp only [go_sem,g0,g1,lStage_get hx3,el,gB,gN,sN,z0,gw]
     exact ⟨((v,f),w2,L ++ [some (x.step.cf none)]),by rw [vWs,vW,if_pos (.inl h00)],rfl,rfl⟩
    ·have z0 : (x.step.kind == 0) = false:=by simp [h00]
     by_cases hv : x.step.var = nm
     ·have hvb : (nm.toList == nm.toList) = true:=by simp
      simp only [go_sem,g0,g1,lStage_get hx3,el,gB,gN,sN,sB,z0,lStr_get hx,h0,h1,eo,hv,hvb,Bool.not_true]
      have sp1 : ∀ (u : Variable) (q : Option Nat) (i : Int),splice (u.cf q) 1 [.int .i64 i] = ({ u with family:=i } : Variable).cf q:=fun _ _ _ => rfl
      have sp2 : ∀ (u : Variable) (q : Option Nat) (i : List Int),splice (u.cf q) 2 [.sl none (lI64 i)] = ({ u with widths:=i } : Variable).cf none:=fun _ _ _ => rfl
      have sp3 : ∀ (u : Variable) (q : Option Nat) (i : Int),splice (u.cf q) 3 [.int .i64 i] = ({ u with n:=i } : Variable).cf q:=fun _ _ _ => rfl
      have sp4 : ∀ (u : Variable) (q : Option Nat) (i : Int),splice (u.cf q) 4 [.int .i64 i] = ({ u with m:=i } : Variable).cf q:=fun _ _ _ => rfl
      have gN2 : ∀ y y' L z,(J ++ y :: (L ++ [z]))[List.length (J ++ y' :: L)]? = some z:=fun y y' L z => by
       have e : List.length (J ++ y' :: L) = List.length (J ++ y :: L):=by simp
       rw [e]; exact gN y L z
      refine pK c1 ?_
      simp only [go_sem,gB,gN2,sN,sB,sp1,sp2,sp3,sp4]
      refine pK c2 ?_
      simp only [go_sem,gB,gN2,sN,sB,sp1,sp2,sp3,sp4]
      refine pK c3 ?_
      cases hns : numS x.step with
      | false =>
       simp only [go_sem,gB,gN2,sN,sB,sp1,sp2,sp3,sp4,gw]
       exact ⟨(({ v with family:=famS x.step.kind,widths:=widS l x.step.key },f),none,L ++ [some (x.step.cf none)]),by rw [vWs,vW,if_neg (by simp [h00,hv]),if_neg (by rw [hns]; simp)],rfl,rfl⟩
      | true =>
       cases f with
       | true =>
        simp only [go_sem,gB,gN2,sN,sB,sp1,sp2,sp3,sp4,gw,Bool.not_true]
        exact ⟨(({ v with family:=famS x.step.kind,widths:=widS l x.step.key },true),none,L ++ [some (x.step.cf none)]),by rw [vWs,vW,if_neg (by simp [h00,hv]),if_neg (by simp)],rfl,rfl⟩
       | false =>
        simp only [go_sem,gB,gN2,sN,sB,sp1,sp2,sp3,sp4,gw,Bool.not_false]
        exact ⟨(({ v with family:=famS x.step.kind,widths:=widS l x.step.key,n:=x.step.n,m:=x.step.m },true),none,L ++ [some (x.step.cf none)]),by rw [vWs,vW,if_neg (by simp [h00,hv]),if_pos ⟨hns,rfl⟩],rfl,rfl⟩
     ·have hvd : decide (x.step.var = nm) = false:=decide_eq_false hv
      simp only [go_sem,g0,g1,lStage_get hx3,el,gB,gN,sN,z0,lStr_get hx,h0,h1,eo,toList_beq,hvd,gw,Bool.not_false]
      exact ⟨((v,f),w2,L ++ [some (x.step.cf none)]),by rw [vWs,vW,if_pos (.inr hv)],rfl,rfl⟩
   ·rintro ⟨⟨v,f⟩,w2,L⟩ _ hF3
    dsimp only at hF3 ⊢
    have hvo : varOf l p nm = v:=by unfold varOf; rw [hF3]; rfl
    simp only [go_sem,Int.lt_irrefl,decide_false,el,gB,hw]
    have hkl:=(List.getElem?_eq_some_iff.1 hx).1
    exact ⟨by omega,by omega,(out ++ [v],_),by rw [hvo]; simp,by simp; omega,rfl,rfl⟩
  ·rintro ⟨out,J⟩ hI2 hF2
   dsimp only at hI2 hF2 ⊢
   have he : vars12 l p = out:=by unfold vars12; rw [ho]; simpa using hF2
   rw [he]
   simp only [go_sem,Int.lt_irrefl,decide_false,eo]
end Go.AI
namespace Go.AI
open Go.Proofs
set_option maxRecDepth 50000
theorem widS_lt {l : List Fld} (hl : okFs l) (key : List ByteArray) : ∀ w ∈ widS l key,w < 9223372036854775807:=by
 intro w hw
 obtain ⟨y,_,rfl⟩:=List.mem_map.1 hw
 cases hf : (findF l y).2 with
 | true =>
  have:=okFld_find hl hf
  unfold okFld at this
  omega
 | false =>
  unfold findF at hf ⊢
  split at hf
  ·cases hf
  ·rename_i hn
   rw [if_neg hn]
   split at hf
   ·cases hf
   ·rename_i hz
    exact (by decide : Fld.z.width < 9223372036854775807)
theorem vWs_inv {l : List Fld} {nm : ByteArray} : ∀ (r : List Stage) {a : Variable × Bool},a.1.name = nm -> (a.1.widths = [] \/ ∃ x : Stage,x.step.kind ≠ 0 /\ x.step.var = nm /\ a.1.widths = widS l x.step.key) ->
  (vWs l nm a r).1.name = nm /\ ((vWs l nm a r).1.widths = a.1.widths /\ (∀ x ∈ r,x.step.kind = 0 \/ x.step.var ≠ nm) \/ ∃ x ∈ r,x.step.kind ≠ 0 /\ x.step.var = nm /\ (vWs l nm a r).1.widths = widS l x.step.key)
 | [],a,h1,_ => ⟨h1,.inl ⟨rfl,by simp⟩⟩
 | x :: r,a,h1,h2 => by
  rw [vWs]
  by_cases hc : x.step.kind = 0 \/ x.step.var ≠ nm
  ·have e : vW l nm a x.step = a:=by unfold vW; rw [if_pos hc]
   rw [e]
   obtain ⟨g1,g2⟩:=vWs_inv r h1 h2
   refine ⟨g1, ?_⟩
   rcases g2 with ⟨g2,g3⟩ | ⟨y,hy,g2⟩
   ·exact .inl ⟨g2,fun z hz => by rcases List.mem_cons.1 hz with rfl | hz; exact hc; exact g3 z hz⟩
   ·exact .inr ⟨y,List.mem_cons_of_mem _ hy,g2⟩
  ·have hk : x.step.kind ≠ 0:=fun h => hc (.inl h)
   have hv : x.step.var = nm:=by
    by_cases h : x.step.var = nm
    ·exact h
    ·exact absurd (.inr h) hc
   have e1 : (vW l nm a x.step).1.name = nm /\ (vW l nm a x.step).1.widths = widS l x.step.key:=by
    unfold vW
    rw [if_neg hc]
    split <;> exact ⟨h1,rfl⟩
   obtain ⟨g1,g2⟩:=vWs_inv r e1.1 (.inr ⟨x,hk,hv,e1.2⟩)
   refine ⟨g1,.inr ?_⟩
   rcases g2 with ⟨g2,g3⟩ | ⟨y,hy,g2⟩
   ·exact ⟨x,List.mem_cons_self ..,hk,hv,by rw [g2,e1.2]⟩
   ·exact ⟨y,List.mem_cons_of_mem _ hy,g2⟩
theorem varOf_inv (l : List Fld) (p : List Stage) (nm : ByteArray) : (varOf l p nm).name = nm /\ ((varOf l p nm).widths = [] /\ (∀ x ∈ p,x.step.kind = 0 \/ x.step.var ≠ nm) \/ ∃ x ∈ p,x.step.kind ≠ 0 /\ x.step.var = nm /\ (varOf l p nm).widths = widS l x.step.key) :=
 vWs_inv p (a:=(⟨nm,0,[],0,0⟩,false)) rfl (.inl rfl)
theorem vars12_w {l : List Fld} (hl : okFs l) {p : List Stage} : ∀ v ∈ vars12 l p,∀ w ∈ v.widths,w < 9223372036854775807:=by
 intro v hv w hw
 obtain ⟨nm,_,rfl⟩:=List.mem_map.1 hv
 rcases (varOf_inv l p nm).2 with ⟨h,_⟩ | ⟨x,_,_,_,h⟩
 ·rw [h] at hw; cases hw
 ·rw [h] at hw; exact widS_lt hl _ w hw
theorem namesP_len : ∀ (p : List Stage) (o : List ByteArray),(namesP o p).length < 4 ^ p.length * (o.length + 1)
 | [],o => by simp [namesP]
 | x :: p,o => by
  rw [namesP]
  have h1:=namesP_len p (if x.step.kind = 0 then o else putT o x.step.var)
  have h2 : (if x.step.kind = 0 then o else putT o x.step.var).length + 1 <= 4 * (o.length + 1):=by
   split
   ·omega
   ·have:=putTGo_len x.step.var o false
    unfold putT
    omega
  have h3 : 4 ^ (x :: p).length = 4 ^ p.length * 4:=by rw [List.length_cons,Nat.pow_succ]
  rw [h3,Nat.mul_assoc]
  exact Nat.lt_of_lt_of_le h1 (Nat.mul_le_mul_left _ h2)
def hR17 : Hint:={ h41 with pc:=[11,21] }
@[go_sem] theorem hR17_lv (k : Nat) : hR17.lv k = h41.lv k:=Eq.trans rfl rfl
@[go_sem] theorem hR17_ct (k : Nat) : hR17.ct k = h41.ct k:=Eq.trans rfl rfl
@[go_sem] theorem hR17_at (k : Nat) : hR17.at k = h41.at k:=Eq.trans rfl rfl
@[go_sem] theorem hR17_dn (k : Nat) : hR17.dn k = h41.dn k:=Eq.trans rfl rfl
@[go_sem] theorem hR17_t : hR17.tk = [19,20,22] /\ hR17.mt = [] /\ hR17.pc = [11,21]:=⟨rfl,rfl,rfl⟩
theorem hR17_k : FK Tryz.prog 41 Tryz.f41 hR17:=⟨by kernel_rfl,by kernel_rfl,Tryz.func41,by kernel_rfl⟩
def stQ (l : List Fld) (p : List Stage) (st : List Entry) : Prop:=ckT l p = 0 /\ st.length <= 250 /\ (∀ e ∈ st,∃ v ∈ vars12 l p,v.name = e.var /\ fitQ v e) /\ adjE st
theorem q_Right17 (l : List Fld) (hl : okF l) (hl2 : okFs l) (p : List Stage) (hb : bulkL (lStage p) <= 1048576) (st : List Entry) (hst : st.length <= 1073741824) (hk : ∀ e ∈ st,e.key.length <= 1073741824) : QCall Tryz.prog 41 [.sl none (lFld l),.sl none (lStage p),.sl none (lEntry st)] fun r => ∃ b,r = .bool b /\ (b = true -> stQ l p st):=by
 have c1:=c_ckT l p hl (Nat.le_trans hb (by decide))
 have el : (lEntry st).length = st.length:=lEntry_len st
 refine qC hR17_k rfl ?_
 simp only [Tryz.f41,go_sem]
 refine pK c1 ?_
 by_cases h0 : ckT l p = 0
 ·have z0 : (ckT l p != 0) = false:=by simp [h0]
  have hp8:=(ckT_0 h0).1
  have hkey : ∀ x ∈ p,x.step.key.length <= 1048576:=fun x hx => by
   have h1:=ckT_0 h0
   have:=(okStp_of (h1.2.2.1 x hx).2).klen
   exact this
  have c2:=c_Vars12 l p hp8 hkey
  have hvl : (vars12 l p).length <= 1073741824:=by
   have h1:=namesP_len p []
   have h2 : 4 ^ p.length <= 4 ^ 8:=Nat.pow_le_pow_right (by decide) hp8
   have h3 : (vars12 l p).length = (namesP [] p).length:=by unfold vars12; rw [List.length_map]
   have h4 : (4 : Nat) ^ 8 = 65536:=by decide
   rw [List.length_nil,Nat.zero_add,Nat.mul_one] at h1
   omega
  have q3:=q_Check17 (vars12 l p) hvl (vars12_w hl2) st hst hk
  simp only [go_sem,z0,el]
  refine cS ?_ ?_ <;> intro hc
  ·simp only [go_sem]
   exact ⟨rfl,false,rfl,fun h => by cases h⟩
  ·have hc:=of_decide_eq_false hc
   simp only [go_sem]
   refine pK c2 ?_
   simp only [go_sem]
   refine ACallK.prop q3 fun r hr => ?_
   obtain ⟨n,rfl,hn⟩:=hr
   simp only [go_sem]
   exact ⟨rfl,_,rfl,fun h => ⟨h0,by omega,hn (by simpa using h)⟩⟩
 ·have z0 : (ckT l p != 0) = true:=by simp [h0]
  simp only [go_sem,z0]
  exact ⟨rfl,false,rfl,fun h => by cases h⟩
def hSt19 : Hint:={ h14 with pc:=[] }
@[go_sem] theorem hSt19_lv (k : Nat) : hSt19.lv k = h14.lv k:=Eq.trans rfl rfl
@[go_sem] theorem hSt19_ct (k : Nat) : hSt19.ct k = h14.ct k:=Eq.trans rfl rfl
@[go_sem] theorem hSt19_at (k : Nat) : hSt19.at k = h14.at k:=Eq.trans rfl rfl
@[go_sem] theorem hSt19_dn (k : Nat) : hSt19.dn k = h14.dn k:=Eq.trans rfl rfl
@[go_sem] theorem hSt19_t : hSt19.tk = [] /\ hSt19.mt = [] /\ hSt19.pc = []:=⟨rfl,rfl,rfl⟩
theorem hSt19_k : FK Tryz.prog 14 Tryz.f14 hSt19:=⟨by kernel_rfl,by kernel_rfl,Tryz.func14,by kernel_rfl⟩
def stsQ (s : Setup) (sts : List (List Entry)) : Prop:=sts.length = s.tenants.length /\ ∀ (k : Nat) (t : Tenant) (st : List Entry),s.tenants[k]? = some t -> sts[k]? = some st -> stQ s.fields t.program st /\ st.length <= 60
set_option maxHeartbeats 2000000 in
theorem q_States (s : Setup) (hl : okF s.fields) (hl2 : okFs s.fields) (hb : bulkL s.c <= 1048576) (sts : List (List Entry)) (hsl : sts.length <= 1073741824) (hst : ∀ st ∈ sts,st.length <= 1073741824 /\ ∀ e ∈ st,e.key.length <= 1073741824) : QCall Tryz.prog 14 [.agg s.c,.sl none (lSts sts)] fun r => ∃ b,r = .bool b /\ (b = true -> stsQ s sts):=by
 have el : (lSts sts).length = sts.length:=lSts_len sts
 refine qC hSt19_k rfl ?_
 by_cases hn : sts.length = s.tenants.length
 ·have z0 : ((sts.length : Int) != (s.tenants.length : Int)) = false:=by simp [hn]
  simp only [Tryz.f14,go_sem,el,z0]
  refine awp_lst sts (fun (_ : Unit) _ => ()) (fun k _ => ∀ (i : Nat) (t : Tenant) (st : List Entry),i < k -> s.tenants[i]? = some t -> sts[i]? = some st -> stQ s.fields t.program st /\ st.length <= 60) (fun k _ => [(1,.sl none (lSts sts)),(2,.ptr 0 0),(5,.int .i64 k)]) (fun _ _ => [some s.c]) () (by omega) (fun i t st hi => absurd hi (Nat.not_lt_zero i)) rfl rfl ?_ ?_
  ·intro k _ st xs hd hx hI _ h0 h1 hw
   have hkl:=(List.getElem?_eq_some_iff.1 hx).1
   obtain ⟨t,ht⟩ : ∃ t,s.tenants[k]? = some t:=⟨_,List.getElem?_eq_getElem (by omega)⟩
   have hk2 : (k : Int) < (s.tenants.length : Int):=by omega
   have hbt : bulkL t.c <= 1048576:=by
    have h1:=lTenant_bk (Setup.bl_tenants hb) (List.mem_of_getElem? ht)
    simpa only [AV.bulk] using h1
   have hm:=hst st (List.mem_of_getElem? hx)
   have q1:=q_Right17 s.fields hl hl2 t.program (Tenant.bl_program hbt) st hm.1 hm.2
   simp only [go_sem,h0,h1,el,lSts_get hx,lTenant_get ht,hk2]
   refine ACallK.prop q1 fun r hr => ?_
   obtain ⟨b,rfl,hq⟩:=hr
   cases b with
   | false =>
    simp only [go_sem,Bool.not_false]
    exact ⟨rfl,false,rfl,fun h => by cases h⟩
   | true =>
    have hq:=hq rfl
    have es : (lEntry st).length = st.length:=lEntry_len st
    simp only [go_sem,Bool.not_true,h0,h1,el,es,lSts_get hx]
    refine cS ?_ ?_ <;> intro hc
    ·simp only [go_sem]
     exact ⟨rfl,false,rfl,fun h => by cases h⟩
    ·have hc:=of_decide_eq_false hc
     simp only [go_sem,hw]
     refine ⟨(),fun i t2 st2 hi h2 h3 => ?_⟩
     rcases Nat.lt_or_ge i k with hik | hik
     ·exact hI i t2 st2 hik h2 h3
     ·have : i = k:=by omega
      subst this
      rw [ht] at h2
      rw [hx] at h3
      cases h2; cases h3
      exact ⟨hq,by omega⟩
  ·intro _ hI _
   simp only [go_sem,Int.lt_irrefl,decide_false,el]
   exact ⟨rfl,true,rfl,fun _ => ⟨hn,fun k t st h1 h2 => hI k t st (List.getElem?_eq_some_iff.1 h2).1 h1 h2⟩⟩
 ·have z0 : ((sts.length : Int) != (s.tenants.length : Int)) = true:=by
   rw [bne_iff_ne]; omega
  simp only [Tryz.f14,go_sem,el,z0]
  exact ⟨rfl,false,rfl,fun h => by cases h⟩
theorem okSts_of {s : Setup} (hR : R19 s) {sts : List (List Entry)} (h : stsQ s sts) (hk : ∀ st ∈ sts,∀ e ∈ st,e.key.length <= 1048576) : okSts s sts:=by
 refine ⟨h.1,fun k t st h1 h2 => ?_⟩
 obtain ⟨⟨q1,_,q3,_⟩,q4⟩:=h.2 k t st h1 h2
 have hp:=(okPrg_of q1).1
 refine ⟨fun e he => ?_,q4⟩
 obtain ⟨v,hv,hn,f1,f2,f3,f4⟩:=q3 e he
 refine ⟨⟨f2,f3,hk st (List.mem_of_getElem? h2) e he,f4⟩,fun x hx h0 hvar => ?_⟩
 obtain ⟨nm,_,rfl⟩:=List.mem_map.1 hv
 obtain ⟨g1,g2⟩:=varOf_inv s.fields t.program nm
 have hnm : nm = e.var:=by rw [<- g1]; exact hn
 rcases g2 with ⟨_,g2⟩ | ⟨y,hy,g3,g4,g5⟩
 ·rcases g2 x hx with g | g
  ·exact absurd g h0
  ·exact absurd (by rw [<- hvar,hnm]) g
 ·have hw : (widS s.fields y.step.key).length = y.step.key.length:=by simp [widS]
  rw [f1,g5,hw]
  exact hp.key y hy x hx g3 h0 (by rw [g4,hnm,hvar])
end Go.AI
namespace Go.AI
open Go.Proofs
set_option maxRecDepth 50000
def lArr (l : List Arrival) : List AV:=l.map fun x => .agg x.c
@[go_sem] theorem lArr_len (l : List Arrival) : (lArr l).length = l.length:=by simp [lArr]
theorem lArr_get {l : List Arrival} {i : Nat} {x : Arrival} (h : l[i]? = some x) : (lArr l)[i]? = some (.agg x.c):=by simp [lArr,h]
@[go_sem] theorem lArr_pure (l : List Arrival) : pureL (lArr l) = true:=by
 induction l with
 | nil => rfl
 | cons x xs ih => simpa [lArr,pureL,AV.pure] using ⟨Arrival.c_pure x,ih⟩
def hRt : Hint:={ h4 with pc:=[10,25] }
@[go_sem] theorem hRt_lv (k : Nat) : hRt.lv k = h4.lv k:=Eq.trans rfl rfl
@[go_sem] theorem hRt_ct (k : Nat) : hRt.ct k = h4.ct k:=Eq.trans rfl rfl
@[go_sem] theorem hRt_at (k : Nat) : hRt.at k = h4.at k:=Eq.trans rfl rfl
@[go_sem] theorem hRt_dn (k : Nat) : hRt.dn k = h4.dn k:=Eq.trans rfl rfl
@[go_sem] theorem hRt_t : hRt.tk = [14,18] /\ hRt.mt = [] /\ hRt.pc = [10,25]:=⟨rfl,rfl,rfl⟩
theorem hRt_k : FK Tryz.prog 4 Tryz.f4 hRt:=⟨by kernel_rfl,by kernel_rfl,Tryz.func4,by kernel_rfl⟩
def rightQ (s : Setup) (sts : List (List Entry)) (l : List Arrival) : Prop:=right19 s = true /\ stsQ s sts /\ ∀ a ∈ l,arrB a = true
set_option maxHeartbeats 2000000 in
theorem q_right (s : Setup) (hb : bulkL s.c <= 1048576) (sts : List (List Entry)) (hsl : sts.length <= 1073741824) (hst : ∀ st ∈ sts,st.length <= 1073741824 /\ ∀ e ∈ st,e.key.length <= 1073741824) (l : List Arrival) (hl : l.length <= 1073741824) : QCall Tryz.prog 4 [.agg s.c,.sl none (lSts sts),.sl none (lArr l)] fun r => ∃ b,r = .bool b /\ (b = true -> rightQ s sts l):=by
 have el : (lArr l).length = l.length:=lArr_len l
 have c1:=c_right19 s hb
 refine qC hRt_k rfl ?_
 simp only [Tryz.f4,go_sem]
 refine pK c1 ?_
 cases h1 : right19 s with
 | false =>
  simp only [go_sem,h1,Bool.not_false]
  exact ⟨rfl,false,rfl,fun h => by cases h⟩
 | true =>
  have hR:=right_r19 h1
  have q1:=q_States s (fun f hf => Int.le_trans (ckF_width hR.fld0 f hf) (by decide)) hR.fld hb sts hsl hst
  simp only [go_sem,h1,Bool.not_true]
  refine ACallK.prop q1 fun r hr => ?_
  obtain ⟨b,rfl,hq⟩:=hr
  cases b with
  | false =>
   simp only [go_sem,Bool.not_false]
   exact ⟨rfl,false,rfl,fun h => by cases h⟩
  | true =>
   have hq:=hq rfl
   simp only [go_sem,Bool.not_true,el]
   refine awp_lst l (fun (_ : Heap) _ => ()) (fun k _ => ∀ a ∈ l.take k,arrB a = true) (fun k _ => [(18,.sl none (lArr l)),(19,.int .i64 l.length),(20,.int .i64 k)]) (fun _ L => some s.c :: L) [] (by omega) (by simp) rfl rfl ?_ ?_
   ·intro k L x xs hd hx hI _ h0 h1 hw
    have gN : ∀ a (L : Heap) z,(a :: (L ++ [z]))[List.length (a :: L)]? = some z:=fun a L z => by
     have : a :: (L ++ [z]) = (a :: L) ++ [z]:=by simp
     rw [this]; exact List.getElem?_concat_length
    have sN : ∀ a (L : Heap) z z2,(a :: (L ++ [z])).set (List.length (a :: L)) z2 = a :: (L ++ [z2]):=fun a L z z2 => by
     have : a :: (L ++ [z]) = (a :: L) ++ [z]:=by simp
     rw [this]; simp
    have c2:=c_Arrives x
    have htk : l.take (k + 1) = l.take k ++ [x]:=by rw [List.take_add_one,hx]; rfl
    simp only [go_sem,h0,h1,lArr_get hx,gN,sN]
    refine pK c2 ?_
    cases ha : arrB x with
    | false =>
     simp only [go_sem,Bool.not_false]
     exact ⟨rfl,false,rfl,fun h => by cases h⟩
    | true =>
     simp only [go_sem,Bool.not_true,hw]
     refine ⟨_,fun y hy => ?_,rfl,rfl⟩
     rw [htk] at hy
     rcases List.mem_append.1 hy with hy | hy
     ·exact hI y hy
     ·rcases List.mem_singleton.1 hy with rfl; exact ha
   ·intro L hI _
    simp only [go_sem,Int.lt_irrefl,decide_false]
    rw [List.take_length] at hI
    exact ⟨rfl,true,rfl,fun _ => ⟨h1,hq,hI⟩⟩
end Go.AI
namespace Go.AI
open Go.Proofs
set_option maxRecDepth 50000
theorem gvG_len {l : List Fld} {tick : Int} {x : Policy} : ∀ (pk : List Head) {gv r : List Head},gv.length <= 256 -> gvG l tick x gv pk = some r -> r.length <= 256
 | [],gv,r,hn,e => by
  rw [gvG] at e
  cases e
  exact hn
 | g :: pk,gv,r,hn,e => by
  rw [gvG] at e
  cases ev : vO l tick x g with
  | none => rw [ev] at e; cases e
  | some y =>
   rw [ev] at e
   by_cases h256 : 256 < (gv ++ y).length
   ·simp only [if_pos h256] at e
    cases e
   ·simp only [if_neg h256] at e
    exact gvG_len pk (by omega) e
theorem doG_len (l : List Fld) (s : Stp) (tick : Int) : ∀ (gv : List Head) (a : List Head × List Entry),(doG l s tick a gv).1.length <= a.1.length + gv.length
 | [],a => Nat.le_refl _
 | g :: gv,a => by
  rw [doG,List.length_cons]
  refine Nat.le_trans (doG_len l s tick gv _) ?_
  dsimp only
  split
  ·rw [List.length_append,List.length_singleton]; omega
  ·omega
theorem runG_len {l : List Fld} {tick : Int} : ∀ (r : List Stage) {a b : List Head × List Entry},a.1.length <= 256 -> runG l tick a r = some b -> b.1.length <= 256
 | [],a,b,h,e => by
  rw [runG] at e
  cases e
  exact h
 | s :: r,a,b,h,e => by
  rw [runG] at e
  cases eg : gvG l tick s.policy [] a.1 with
  | none => rw [eg] at e; cases e
  | some gv =>
   rw [eg] at e
   dsimp only at e
   have h1:=gvG_len a.1 (by simp) eg
   have h2:=doG_len l s.step tick gv ([],a.2)
   rw [List.length_nil] at h2
   exact runG_len r (by omega) e
theorem pk1_len (s : Setup) (x : Item) (t : Tenant) (tick : Int) (a : List Item × List Delivery) (p : Head) : (pk1 s x t tick a p).2.length <= a.2.length + 1:=by
 unfold pk1
 split
 ·exact Nat.le_succ _
 ·split
  ·rw [List.length_append]; exact Nat.le_refl _
  ·split <;> exact Nat.le_succ _
theorem pkG_len (s : Setup) (x : Item) (t : Tenant) (tick : Int) : ∀ (r : List Head) (a : List Item × List Delivery),(pkG s x t tick a r).2.length <= a.2.length + r.length
 | [],a => Nat.le_refl _
 | p :: r,a => by
  rw [pkG,List.length_cons]
  have h1:=pkG_len s x t tick r (pk1 s x t tick a p)
  have h2:=pk1_len s x t tick a p
  omega
theorem cGo_len {s : Setup} {tick : Int} : ∀ (f n : Nat) {q : List Item} {now : List (List Entry)} {out : List Delivery} {r : List Delivery × List (List Entry)},cGo s tick f n q now out = some r -> r.1.length <= out.length + f * 256
 | 0,n,q,now,out,r,e => by rw [cGo] at e; cases e
 | f + 1,n,q,now,out,r,e => by
  rw [cGo] at e
  cases hx : q[n]? with
  | none =>
   rw [hx] at e
   cases e
   exact Nat.le_add_right _ _
  | some x =>
   rw [hx] at e
   dsimp only at e
   cases ht : s.tenants[x.tenant.toNat]? with
   | none => rw [ht] at e; cases e
   | some t =>
    rw [ht] at e
    cases hs : now[x.tenant.toNat]? with
    | none => rw [hs] at e; cases e
    | some st =>
     rw [hs] at e
     dsimp only at e
     cases er : runS s.fields (bWhole t).1 st x.head tick with
     | none => rw [er] at e; cases e
     | some b =>
      rw [er] at e
      dsimp only at e
      have hb:=runG_len (bWhole t).1 (by simp) er
      have hp:=pkG_len s x t tick b.1 (q,out)
      split at e
      ·cases e
      ·have:=cGo_len f (n + 1) e
       dsimp only at hp
       omega
theorem b_yesZ {b : Bool} {p : Prop} (hb : b = true ↔ p) (h : p) : b = true:=hb.2 h
theorem b_noZ {b : Bool} {p : Prop} (hb : b = true ↔ p) (h : ¬ p) : b = false:=by
 cases b with
 | false => rfl
 | true => exact absurd (hb.1 rfl) h
theorem ne_getZ {α : Type} {A B : List α} {k : Nat} {x y : α} (hx : A[k]? = some x) (hy : B[k]? = some y) (h : ¬ x = y) : ¬ A = B:=by
 rintro rfl
 rw [hx] at hy; cases hy; exact h rfl
theorem take_eqZ {α : Type} {A B : List α} {k : Nat} {x : α} (h : A.take k = B.take k) (hx : A[k]? = some x) (hy : B[k]? = some x) : A.take (k + 1) = B.take (k + 1):=by
 rw [List.take_add_one,List.take_add_one,h,hx,hy]
theorem take_allZ {α : Type} {A B : List α} (h : A.take A.length = B.take A.length) (hl : A.length = B.length) : A = B:=by
 rw [List.take_length,hl,List.take_length] at h; exact h
theorem c_SameIntsZ (a c : List Int) (b : Bool) (hb : b = true ↔ a = c) (ha : a.length <= 1073741824) : PCall Tryz.prog 11 [.sl none (lI64 a),.sl none (lI64 c)] (.bool b):=by
 have ea : (lI64 a).length = a.length:=lI64_len a
 have ec : (lI64 c).length = c.length:=lI64_len c
 refine pC h11_k rfl ?_
 simp only [Tryz.f11,go_sem,ea,ec]
 repeat' (first
  | ((first | refine cS ?_ ?_ | refine gS ?_ ?_) <;> (intro hc; simp only [go_sem,hc,ea,ec])))
 all_goals first
  | (rw [b_noZ hb (by rintro rfl; simp_all)]; done)
  | skip
 have l0 : a.length = c.length:=by simp_all; omega
 refine awp_lst a (fun (_ : Unit) (_ : List Int) => ()) (fun k _ => a.take k = c.take k) (fun k _ => [(0,.sl none (lI64 a)),(1,.sl none (lI64 c)),(5,.int .i64 k)]) (fun _ _ => []) () (by omega) rfl rfl rfl ?_ ?_
 ·intro k _ x xs hd hx hI _ h0 h1 hw
  obtain ⟨y,hy⟩ : ∃ y,c[k]? = some y:=⟨_,List.getElem?_eq_getElem (by have:=(List.getElem?_eq_some_iff.1 hx).1; omega)⟩
  simp only [go_sem,h0,h1,ea,lI64_get hx,lI64_get hy]
  repeat' (first
   | ((first | refine cS ?_ ?_ | refine gS ?_ ?_) <;> (intro hc; simp only [go_sem,hc,hw])))
  ·have hxy : ¬ x = y:=by simpa using hc
   rw [b_noZ hb (fun e => ne_getZ hx hy hxy (by rw [e]))]
  ·have hxy : x = y:=by simpa using hc
   subst hxy
   exact ⟨(),take_eqZ hI hx hy⟩
 ·intro _ hI _
  have hA:=take_allZ hI (by omega)
  simp only [go_sem,ea,Int.lt_irrefl,decide_false]
  rw [b_yesZ hb hA]
theorem c_SameI (a c : List Int) (ha : a.length <= 1073741824) : PCall Tryz.prog 11 [.sl none (lI64 a),.sl none (lI64 c)] (.bool (decide (a = c))):=c_SameIntsZ a c _ decide_eq_true_iff ha
def vch (s : Setup) (l : List (List Int)) : Prop:=∀ c ∈ l,c.length <= 1048577 /\ ∀ x ∈ c,0 <= x /\ x < (s.contracts.length : Int)
theorem chG_okZ (s : Setup) (b : Nat) : ∀ (f a : Nat) (ch : List Int),(ch.length + f <= 1048577 /\ ∀ x ∈ ch,0 <= x /\ x < (s.contracts.length : Int)) -> vch s (chG s b f a ch)
 | 0,_,_,_ => fun c hc => by cases hc
 | f + 1,a,ch,h => by
  by_cases hab : a = b
  ·subst hab
   rw [chG_at]
   intro c hc
   rcases List.mem_singleton.1 hc with rfl
   exact ⟨by omega,h.2⟩
  ·rw [chG_ne hab]
   intro c hc
   obtain ⟨p,hp,hc⟩:=List.mem_flatMap.1 hc
   split at hc
   ·have hlt:=(List.mem_zipIdx hp).2.1
    refine chG_okZ s b f _ _ ⟨by simp; omega,fun x hx => ?_⟩ c hc
    rcases List.mem_append.1 hx with hx | hx
    ·exact h.2 x hx
    ·rcases List.mem_singleton.1 hx with rfl
     omega
   ·cases hc
theorem lCh_at {l : List (List Int)} {k : Nat} {c : List Int} (h : l[k]? = some c) : (lCh l)[k]? = some (.sl none (lI64 c)):=by simp [lCh,h]
def hL25 : Hint:={ h3 with pc:=[27,35,42,49,58,70,87,111,120,132] }
@[go_sem] theorem hL25_lv (k : Nat) : hL25.lv k = h3.lv k:=Eq.trans rfl rfl
@[go_sem] theorem hL25_ct (k : Nat) : hL25.ct k = h3.ct k:=Eq.trans rfl rfl
@[go_sem] theorem hL25_at (k : Nat) : hL25.at k = h3.at k:=Eq.trans rfl rfl
@[go_sem] theorem hL25_dn (k : Nat) : hL25.dn k = h3.dn k:=Eq.trans rfl rfl
@[go_sem] theorem hL25_t : hL25.tk = [51,56,57,108] /\ hL25.mt = [] /\ hL25.pc = [27,35,42,49,58,70,87,111,120,132]:=⟨rfl,rfl,rfl⟩
theorem hL25_k : FK Tryz.prog 3 Tryz.f3 hL25:=⟨by kernel_rfl,by kernel_rfl,Tryz.func3,by kernel_rfl⟩
set_option maxHeartbeats 4000000 in
theorem c_law25 (hsan : PCall Tryz.prog 5 [] (.bool true)) (s : Setup) (hb : bulkL s.c <= 1048576) (sts : List (List Entry)) (hsl : sts.length <= 1073741824) (hst : ∀ st ∈ sts,st.length <= 1073741824 /\ ∀ e ∈ st,e.key.length <= 1048576) (a : Arrival) : PCall Tryz.prog 3 [.agg s.c,.sl none (lSts sts),.agg a.c] (.bool true):=by
 have q1:=q_right s hb sts hsl (fun st h => ⟨(hst st h).1,fun e he => by have:=(hst st h).2 e he; omega⟩) [a] (by simp)
 refine pC hL25_k rfl ?_
 simp only [Tryz.f3,go_sem]
 refine ACallK.prop (QCall.lend q1) fun r hr => ?_
 obtain ⟨b,rfl,hq⟩:=hr
 cases b with
 | false =>
  simp only [go_sem,Bool.not_false]
  refine pK hsan ?_
  simp only [go_sem]
 | true =>
  obtain ⟨h1,h2,h3⟩:=hq rfl
  have hR:=right_r19 h1
  have hf : few19 s = true:=by unfold right19 at h1; rw [Bool.and_eq_true] at h1; exact h1.1
  have ha:=h3 a (List.mem_singleton.2 rfl)
  unfold arrB at ha
  simp only [Bool.and_eq_true,decide_eq_true_eq] at ha
  have hSt:=okSts_of hR h2 fun st h => (hst st h).2
  have hRun:=okRun_of hR hf hb hSt ha.1 ⟨ha.2.2.1,ha.2.2.2⟩
  have c2:=p_cRun s sts a.head a.tick ha.1 hRun
  have hnt : s.tenants.length <= 256:=hRun.ten
  have c3:=c_entered s (by omega) hRun.prt a.head
  have c4:=c_SameSts sts hsl fun st h => ⟨(hst st h).1,fun e he => by have:=(hst st h).2 e he; omega⟩
  simp only [go_sem,Bool.not_true]
  refine pK c2 ?_
  have b2 : ((2 : Int) != 0) = true:=rfl
  have b0 : ((0 : Int) != 0) = false:=rfl
  have zl : (((0 : Nat) : Int) == 0) = true:=rfl
  cases er : cRun s sts a.head a.tick with
  | none =>
   simp only [go_sem,resCR]
   refine pK c3 ?_
   simp only [go_sem,b2]
   refine pK hsan ?_
   simp only [go_sem,zl]
   refine pK c4 ?_
   simp only [go_sem]
  | some o =>
   simp only [go_sem,resCR]
   refine pK c3 ?_
   rcases entI_get (h:=a.head) (l:=s.tenants) (k:=0) with ⟨w1,w2,_⟩ | ⟨fr,t,w1,w2,w3⟩
   ·have eo : o = ([],sts):=by rw [cRun_none w2] at er; cases er; rfl
    rw [w1,eo]
    have z1 : (-1 : Int) < 0:=by decide
    simp only [go_sem,b0,z1,decide_true]
    refine pK hsan ?_
    have ed : (lDelivery []).length = 0:=rfl
    simp only [go_sem,ed,zl]
    refine pK c4 ?_
    simp only [go_sem]
   ·rw [Nat.zero_add] at w2
    obtain ⟨g1,g2,g3⟩:=cRun_some hR w1 w3 er
    rw [w2]
    have z1 : ¬ ((fr : Nat) : Int) < 0:=by omega
    have hol : o.1.length <= 153600:=by
     have:=cGo_len 600 0 (show cGo s a.tick 600 0 (entG a.head 0 s.tenants) sts [] = some o from er)
     simpa using this
    have hfr : fr < s.tenants.length:=(List.getElem?_eq_some_iff.1 w1).1
    simp only [go_sem,b0,z1,decide_false]
    refine awp_lst s.tenants (fun (_ : Heap) _ => ()) (fun _ _ => True) (fun k _ => [(1,.sl none (lSts sts)),(3,.ptr 0 0),(7,.sl none (lDelivery o.1)),(8,.sl none (lSts o.2)),(10,.int .i64 fr),(62,.int .i64 s.tenants.length),(63,.int .i64 k)]) (fun _ L => some s.c :: some a.c :: L) [] (by omega) trivial rfl rfl ?_ ?_
    ·intro k L t2 ts hd hx _ _ h0 h4 hw
     have hkl:=(List.getElem?_eq_some_iff.1 hx).1
     have c5:=p_Chains s hb hR fr k hfr
     generalize hch : chG s k (s.tenants.length + 1) fr [] = ch at c5
     simp only [go_sem,h0,h4]
     by_cases h200 : 200 < ch.length
     ·rw [chnR,if_pos h200] at c5
      refine pK c5 ?_
      simp only [go_sem,b2,hw]
      exact ⟨_,rfl,rfl⟩
     ·rw [chnR,if_neg h200] at c5
      refine pK c5 ?_
      have ec : (lCh ch).length = ch.length:=lCh_len ch
      have hcb : ∀ c ∈ ch,c.length <= 1073741824:=fun c hc => by
       rw [<- hch] at hc
       have:=(chG_okZ s k (s.tenants.length + 1) fr [] ⟨by simp; omega,by simp⟩ c hc).1
       omega
      have hin : ∀ c,pthC s fr c k -> c ∈ ch:=fun c hc => by rw [<- hch]; exact chG_of_path hR hfr hc
      obtain ⟨st,hs1⟩ : ∃ st,sts[k]? = some st:=⟨_,List.getElem?_eq_getElem (by have:=h2.1; omega)⟩
      by_cases hnil : ch = []
      ·have hs2 : o.2[k]? = some st:=by rw [g3 k fun c hc => by have:=hin c hc; rw [hnil] at this; cases this]; exact hs1
       have c6:=p_SameE st (hst st (List.mem_of_getElem? hs1)).1 fun e he => by have:=(hst st (List.mem_of_getElem? hs1)).2 e he; omega
       have zc : ((ch.length : Int) == 0) = true:=by rw [hnil]; rfl
       have hk1 : (k : Int) < (o.2.length : Int):=by rw [g2,h2.1]; omega
       have hk2 : (k : Int) < (sts.length : Int):=by rw [h2.1]; omega
       simp only [go_sem,b0,ec,zc,h0,hk1,hk2,lSts_get hs1,lSts_get hs2]
       refine pK c6 ?_
       simp only [go_sem,Bool.not_true]
       refine awp_lst o.1 (fun (_ : Heap) _ => ()) (fun _ _ => True) (fun j _ => [(1,.sl none (lSts sts)),(3,.ptr 0 0),(7,.sl none (lDelivery o.1)),(8,.sl none (lSts o.2)),(10,.int .i64 fr),(11,.int .i64 k),(12,.sl none (lCh ch)),(62,.int .i64 s.tenants.length),(63,.int .i64 k),(90,.sl none (lDelivery o.1)),(91,.int .i64 o.1.length),(92,.int .i64 j)]) (fun _ M => some s.c :: some a.c :: M) L (by omega) trivial rfl rfl ?_ ?_
       ·intro j M d ds hd2 hxd _ _ q0 q1 qw
        obtain ⟨k',t3,p,v1,v2,v3,v4,v5⟩:=g1 d (List.mem_of_getElem? hxd)
        have gN : ∀ a b (L : Heap) z,(a :: b :: (L ++ [z]))[List.length (a :: b :: L)]? = some z:=fun a b L z => by
         have : a :: b :: (L ++ [z]) = (a :: b :: L) ++ [z]:=by simp
         rw [this]; exact List.getElem?_concat_length
        have sN : ∀ a b (L : Heap) z z2,(a :: b :: (L ++ [z])).set (List.length (a :: b :: L)) z2 = a :: b :: (L ++ [z2]):=fun a b L z z2 => by
         have : a :: b :: (L ++ [z]) = (a :: b :: L) ++ [z]:=by simp
         rw [this]; simp
        by_cases hkk : k' = k
        ·subst hkk
         have zk : (d.tenant != (k' : Int)) = false:=by simp [v1]
         have hdc:=hin d.chain v5
         simp only [go_sem,q0,q1,lDelivery_get hxd,gN,sN,zk,ec]
         refine awp_lst ch (fun (f : Bool) (r : List (List Int)) => f || decide (d.chain ∈ r)) (fun _ _ => True) (fun i f => [(1,.sl none (lSts sts)),(3,.ptr 0 0),(7,.sl none (lDelivery o.1)),(8,.sl none (lSts o.2)),(10,.int .i64 fr),(11,.int .i64 k'),(12,.sl none (lCh ch)),(15,.ptr (List.length (some s.c :: some a.c :: M)) 0),(16,.bool f),(62,.int .i64 s.tenants.length),(63,.int .i64 k'),(90,.sl none (lDelivery o.1)),(91,.int .i64 o.1.length),(92,.int .i64 j),(100,.sl none (lCh ch)),(101,.int .i64 ch.length),(102,.int .i64 i)]) (fun _ _ => some s.c :: some a.c :: (M ++ [some d.c])) false (by omega) trivial rfl rfl ?_ ?_
         ·intro i f c cs hd4 hx4 _ _ p0 p1 pw
          have hcl : c.length <= 1073741824:=hcb c (List.mem_of_getElem? hx4)
          have c8:=c_SameI c d.chain hcl
          cases f with
          | true =>
           simp only [go_sem,p0,p1,ec,lCh_at hx4,gN,pw]
           exact ⟨true,by simp,rfl,rfl⟩
          | false =>
           simp only [go_sem,p0,p1,ec,lCh_at hx4,gN]
           refine pK c8 ?_
           simp only [go_sem,pw]
           refine ⟨decide (c = d.chain), ?_,rfl,rfl⟩
           by_cases hcd : c = d.chain
           ·rw [hcd]; simp
           ·have hcd2 : ¬ d.chain = c:=fun e => hcd e.symm
            simp [hcd,hcd2]
         ·intro f _ hF
          rw [Bool.false_or,decide_eq_true hdc] at hF
          have hf1 : f = true:=by simpa using hF.symm
          subst hf1
          have how : (ownGo (IntKind.i64.wrap (d.head.h0 - 10000)) 0 s.tenants).1 = (k' : Int):=by rw [v4]; exact owner_out hR hb v2 v3
          have zo : (((k' : Nat) : Int) != ((k' : Nat) : Int)) = false:=by simp
          have c7:=p_Owner s hb (IntKind.i64.wrap (d.head.h0 - 10000))
          rw [how] at c7
          simp only [go_sem,Int.lt_irrefl,decide_false,ec]
          refine pK c7 ?_
          simp only [go_sem,zo,qw,Bool.not_true]
          exact ⟨_,rfl,rfl⟩
        ·have zk : (d.tenant != (k : Int)) = true:=by
          rw [bne_iff_ne,v1]; omega
         simp only [go_sem,q0,q1,lDelivery_get hxd,gN,sN,zk,qw]
         exact ⟨_,rfl,rfl⟩
       ·intro M _ _
        simp only [go_sem,Int.lt_irrefl,decide_false,hw]
        exact ⟨_,rfl,rfl⟩
      ·have zc : ((ch.length : Int) == 0) = false:=by
        rw [beq_eq_false_iff_ne]
        intro h
        exact hnil (List.length_eq_zero_iff.1 (by omega))
       simp only [go_sem,b0,ec,zc]
       refine awp_lst o.1 (fun (_ : Heap) _ => ()) (fun _ _ => True) (fun j _ => [(1,.sl none (lSts sts)),(3,.ptr 0 0),(7,.sl none (lDelivery o.1)),(8,.sl none (lSts o.2)),(10,.int .i64 fr),(11,.int .i64 k),(12,.sl none (lCh ch)),(62,.int .i64 s.tenants.length),(63,.int .i64 k),(90,.sl none (lDelivery o.1)),(91,.int .i64 o.1.length),(92,.int .i64 j)]) (fun _ M => some s.c :: some a.c :: M) L (by omega) trivial rfl rfl ?_ ?_
       ·intro j M d ds hd2 hxd _ _ q0 q1 qw
        obtain ⟨k',t3,p,v1,v2,v3,v4,v5⟩:=g1 d (List.mem_of_getElem? hxd)
        have gN : ∀ a b (L : Heap) z,(a :: b :: (L ++ [z]))[List.length (a :: b :: L)]? = some z:=fun a b L z => by
         have : a :: b :: (L ++ [z]) = (a :: b :: L) ++ [z]:=by simp
         rw [this]; exact List.getElem?_concat_length
        have sN : ∀ a b (L : Heap) z z2,(a :: b :: (L ++ [z])).set (List.length (a :: b :: L)) z2 = a :: b :: (L ++ [z2]):=fun a b L z z2 => by
         have : a :: b :: (L ++ [z]) = (a :: b :: L) ++ [z]:=by simp
         rw [this]; simp
        by_cases hkk : k' = k
        ·subst hkk
         have zk : (d.tenant != (k' : Int)) = false:=by simp [v1]
         have hdc:=hin d.chain v5
         simp only [go_sem,q0,q1,lDelivery_get hxd,gN,sN,zk,ec]
         refine awp_lst ch (fun (f : Bool) (r : List (List Int)) => f || decide (d.chain ∈ r)) (fun _ _ => True) (fun i f => [(1,.sl none (lSts sts)),(3,.ptr 0 0),(7,.sl none (lDelivery o.1)),(8,.sl none (lSts o.2)),(10,.int .i64 fr),(11,.int .i64 k'),(12,.sl none (lCh ch)),(15,.ptr (List.length (some s.c :: some a.c :: M)) 0),(16,.bool f),(62,.int .i64 s.tenants.length),(63,.int .i64 k'),(90,.sl none (lDelivery o.1)),(91,.int .i64 o.1.length),(92,.int .i64 j),(100,.sl none (lCh ch)),(101,.int .i64 ch.length),(102,.int .i64 i)]) (fun _ _ => some s.c :: some a.c :: (M ++ [some d.c])) false (by omega) trivial rfl rfl ?_ ?_
         ·intro i f c cs hd4 hx4 _ _ p0 p1 pw
          have hcl : c.length <= 1073741824:=hcb c (List.mem_of_getElem? hx4)
          have c8:=c_SameI c d.chain hcl
          cases f with
          | true =>
           simp only [go_sem,p0,p1,ec,lCh_at hx4,gN,pw]
           exact ⟨true,by simp,rfl,rfl⟩
          | false =>
           simp only [go_sem,p0,p1,ec,lCh_at hx4,gN]
           refine pK c8 ?_
           simp only [go_sem,pw]
           refine ⟨decide (c = d.chain), ?_,rfl,rfl⟩
           by_cases hcd : c = d.chain
           ·rw [hcd]; simp
           ·have hcd2 : ¬ d.chain = c:=fun e => hcd e.symm
            simp [hcd,hcd2]
         ·intro f _ hF
          rw [Bool.false_or,decide_eq_true hdc] at hF
          have hf1 : f = true:=by simpa using hF.symm
          subst hf1
          have how : (ownGo (IntKind.i64.wrap (d.head.h0 - 10000)) 0 s.tenants).1 = (k' : Int):=by rw [v4]; exact owner_out hR hb v2 v3
          have zo : (((k' : Nat) : Int) != ((k' : Nat) : Int)) = false:=by simp
          have c7:=p_Owner s hb (IntKind.i64.wrap (d.head.h0 - 10000))
          rw [how] at c7
          simp only [go_sem,Int.lt_irrefl,decide_false,ec]
          refine pK c7 ?_
          simp only [go_sem,zo,qw,Bool.not_true]
          exact ⟨_,rfl,rfl⟩
        ·have zk : (d.tenant != (k : Int)) = true:=by
          rw [bne_iff_ne,v1]; omega
         simp only [go_sem,q0,q1,lDelivery_get hxd,gN,sN,zk,qw]
         exact ⟨_,rfl,rfl⟩
       ·intro M _ _
        simp only [go_sem,Int.lt_irrefl,decide_false,hw]
        exact ⟨_,rfl,rfl⟩
    ·intro L _ _
     simp only [go_sem,Int.lt_irrefl,decide_false]
     refine pK hsan ?_
     simp only [go_sem]
end Go.AI
namespace Go.AI
open Go.Proofs
theorem lSts_rd {a : AV} (h : Rd Tryz.prog 32 a) : ∃ l,a = .sl none (lSts l) /\ True:=by
 obtain ⟨l,h1,_,_⟩:=Rd.list (f:=fun (x : List Entry) => AV.sl none (lEntry x)) (ok:=fun x => lEntry_ok x) (P:=Tryz.prog) (t:=32) (e:=49) (by kernel_rfl) (fun x hx => lEntry_rd49 hx) h
 exact ⟨l,h1,trivial⟩
theorem lSts_bk {l : List (List Entry)} {B : Nat} (h : bulkL (lSts l) <= B) : l.length <= B /\ ∀ st ∈ l,st.length <= B /\ ∀ e ∈ st,e.key.length <= B:=by
 refine ⟨Nat.le_trans (bulk_cnt (f:=fun (x : List Entry) => AV.sl none (lEntry x)) (fun x => by simp [AV.bulk]) l) h,fun st hst => ?_⟩
 have h1 : bulkL (lEntry st) <= B:=bulk_sl (o:=none) (List.mem_map.2 ⟨st,hst,rfl⟩) h
 refine ⟨lEntry_bn h1,fun e he => ?_⟩
 have h2:=lEntry_bk h1 he
 have h3 : bulkL e.c <= B:=by simpa only [AV.bulk] using h2
 exact lI64_bn (Entry.bl_key h3)
end Go.AI
namespace Go.AI
open Go.Proofs
theorem c_law25b (hsan : PCall Tryz.prog 5 [] (.bool true)) (s : Setup) (sts : List (List Entry)) (a : Arrival) (hb : bulkL s.c <= 1048576) (h : bulkL (lSts sts) <= 1048576) : PCall Tryz.prog 3 [.agg s.c,.sl none (lSts sts),.agg a.c] (.bool true):=by
 obtain ⟨h1,h2⟩:=lSts_bk h
 exact c_law25 hsan s hb sts (by omega) (fun st hst => ⟨by have:=(h2 st hst).1; omega,(h2 st hst).2⟩) a
end Go.AI
