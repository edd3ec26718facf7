/- The walk's postcondition, weakened; loops by a relation. -/
import Derived.Test.YtofajkggflobkaaGreatDoorAizg
import Derived.Test.YtofajkggflobkaaGreatDoorAiE
set_option linter.unusedSimpArgs false
set_option linter.unusedVariables false
namespace Go.AI
section
variable {P : Program} {m : Nat} {h : Hint} {ops : Array Oper} {e : Env} {H : Heap} {Q : Exit -> Kt} {ar : Option Nat}
theorem arun_mono' : ∀ (l : List Oper) (K K' : Env -> Heap -> Prop) (e : Env) (H : Heap),(∀ e H,K e H -> K' e H) -> arun P m h ops l K e H -> arun P m h ops l K' e H
 | [],K,K',e,H,hk,ha => hk e H ha
 | o :: l,K,K',e,H,hk,ha => aop_mono (fun e H => arun_mono' l K K' e H hk) ha
theorem awp_mono : ∀ (c : Code) {ar : Option Nat} (Q Q' : Exit -> Kt) (e : Env) (H : Heap),(∀ ex e H,Q ex e H -> Q' ex e H) -> awp P m h ar c Q e H -> awp P m h ar c Q' e H
 | .skip,ar,Q,Q',e,H,hq,ha => hq _ _ _ ha
 | .exit id,ar,Q,Q',e,H,hq,ha => hq _ _ _ ha
 | .ret,ar,Q,Q',e,H,hq,ha => hq _ _ _ ha
 | .region id ops draw,ar,Q,Q',e,H,hq,ha => arun_mono' _ _ _ _ _ (fun _ _ h => ⟨h.1,hq _ _ _ h.2⟩) ha
 | .seq a b,ar,Q,Q',e,H,hq,ha => awp_mono a _ _ e H (fun ex e H h => by
   cases ex with
   | normal => exact awp_mono b Q Q' e H hq h
   | _ => exact hq _ _ _ h) ha
 | .cond c a b,ar,Q,Q',e,H,hq,ha => by
  simp only [awp] at ha ⊢
  split at ha
  ·rename_i t ht
   cases t with
   | true => exact awp_mono a Q Q' e H hq ha
   | false => exact awp_mono b Q Q' e H hq ha
  ·exact ha.elim
 | .block id c,ar,Q,Q',e,H,hq,ha => awp_mono c _ _ e H (fun ex e H h => by
   cases ex with
   | exit j =>
    dsimp only at h ⊢
    split at h
    ·rename_i hj; rw [if_pos hj]; exact hq _ _ _ h
    ·rename_i hj; rw [if_neg hj]; exact hq _ _ _ h
   | _ => exact hq _ _ _ h) ha
 | .loop c,ar,Q,Q',e,H,hq,ha => by
  obtain ⟨I,μ,h0,hr⟩:=ha
  exact ⟨I,μ,h0,fun e H hi => awp_mono c _ _ e H (fun ex e H h => by
   cases ex with
   | normal => exact h
   | _ => exact hq _ _ _ h) (hr e H hi)⟩
 | .rangeFunc g ps assign body,ar,Q,Q',e,H,hq,ha => by
  obtain ⟨h1,tag,f,first,captured,h2,h3⟩:=ha
  refine ⟨h1,tag,f,first,captured,h2,h3.mono fun v H2 hp => ?_⟩
  obtain ⟨st,av,g1,g2⟩:=hp
  refine ⟨st,av,g1, ?_⟩
  rcases g2 with ⟨a,b⟩ | ⟨a,b⟩ | ⟨k,a,b⟩
  ·exact .inl ⟨a,hq _ _ _ b⟩
  ·exact .inr (.inl ⟨a,hq _ _ _ b⟩)
  ·exact .inr (.inr ⟨k,a,hq _ _ _ b⟩)
 | .scope _,ar,_,_,_,_,_,ha => ha.elim
 | .label _,ar,_,_,_,_,_,ha => ha.elim
 | .goto _,ar,_,_,_,_,_,ha => ha.elim
 | .refuse _,ar,_,_,_,_,_,ha => ha.elim
def relK (J : Nat -> Kt) (r : Nat) (Q : Exit -> Kt) (ex : Exit) : Kt:=fun e H =>
 match ex with
 | .normal => ∃ r',r' < r /\ J r' e H
 | ex => Q ex e H
theorem awp_loop_rel {c : Code} (J : Nat -> Kt) (h0 : ∃ r,J r e H) (round : ∀ r e H,J r e H -> awp P m h ar c (relK J r Q) e H) : awp P m h ar (.loop c) Q e H:=by
 have hl : ∀ (e : Env) (H : Heap),∃ r,(∃ r,J r e H) -> J r e H /\ ∀ k,J k e H -> r <= k:=fun e H => by
  by_cases he : ∃ r,J r e H
  ·obtain ⟨r,h1,h2⟩:=exists_least he
   exact ⟨r,fun _ => ⟨h1,h2⟩⟩
  ·exact ⟨0,fun h => absurd h he⟩
 refine ⟨fun e H => ∃ r,J r e H,fun e H => Classical.choose (hl e H),h0,fun e H hI => ?_⟩
 obtain ⟨h1,h2⟩:=Classical.choose_spec (hl e H) hI
 refine awp_mono c _ _ e H (fun ex e' H' hq => ?_) (round _ e H h1)
 cases ex with
 | normal =>
  obtain ⟨r',hr,hJ⟩:=hq
  refine ⟨⟨r',hJ⟩, ?_⟩
  obtain ⟨_,h4⟩:=Classical.choose_spec (hl e' H') ⟨r',hJ⟩
  exact Nat.lt_of_le_of_lt (h4 r' hJ) hr
 | _ => exact hq
end
end Go.AI
namespace Go.AI
def bitsM (m : Nat) : List Nat:=(List.range (m.log2 + 1)).filter fun i => m.testBit i
def lvM : Nat -> List Nat -> List (Nat × List Tmp)
 | _,[] => []
 | k,m :: l => (k,bitsM m) :: lvM (k + 1) l
def hm (l : List Nat) (tk mt pc : List Tmp) : Hint:=⟨lvM 0 l,tk,mt,[],pc,[],[]⟩
def hx (l : List Nat) (tk mt : List Tmp) (fz : List (Nat × List (Tmp × Option Nat × Bool))) (pc : List Tmp) (gc : List (Nat × Nat)) (dy : List Nat) : Hint:=⟨lvM 0 l,tk,mt,fz,pc,gc,dy⟩
end Go.AI
namespace Go.AI
theorem w64 {n : Int} (h1 : -9223372036854775808 <= n) (h2 : n <= 9223372036854775807) : IntKind.i64.wrap n = n:=IntWalk.i64_in _ ⟨h1,h2⟩
theorem w64s {k : Nat} (h : k < 9223372036854775807) : IntKind.i64.wrap ((k : Int) + 1) = ((k + 1 : Nat) : Int):=by
 rw [w64 (by omega) (by omega)]; rfl
section
variable {P : Program} {m : Nat} {h : Hint} {e : Env} {H : Heap} {Q : Exit -> Kt} {ops : Array Oper} {ar : Option Nat}
def At (e e' : Env) (H H' : Heap) : Prop:=e = e' /\ H = H'
def forK (n : Nat) (E : Nat -> Env) (HH : Nat -> Heap) (k : Nat) (Q : Exit -> Kt) (ex : Exit) : Kt:=fun e H =>
 match ex with
 | .normal => k < n /\ At e (E (k + 1)) H (HH (k + 1))
 | ex => Q ex e H
@[go_sem] theorem forK_normal (n : Nat) (E : Nat -> Env) (HH : Nat -> Heap) (k : Nat) : forK n E HH k Q .normal e H = (k < n /\ At e (E (k + 1)) H (HH (k + 1))):=Eq.trans rfl rfl
@[go_sem] theorem forK_exit (n : Nat) (E : Nat -> Env) (HH : Nat -> Heap) (k j : Nat) : forK n E HH k Q (.exit j) = Q (.exit j):=Eq.trans rfl rfl
theorem awp_for {c : Code} (n : Nat) (E : Nat -> Env) (HH : Nat -> Heap) (he : e = E 0) (hH : H = HH 0) (round : ∀ k,k <= n -> awp P m h ar c (forK n E HH k Q) (E k) (HH k)) : awp P m h ar (.loop c) Q e H:=by
 subst he; subst hH
 refine awp_loop_rel (fun r e H => ∃ k,k + r = n /\ e = E k /\ H = HH k) ⟨n,0,by omega,rfl,rfl⟩ fun r e H hJ => ?_
 obtain ⟨k,hk,rfl,rfl⟩:=hJ
 refine awp_mono c _ _ _ _ (fun ex e H hq => ?_) (round k (by omega))
 cases ex with
 | normal =>
  obtain ⟨h1,rfl,rfl⟩:=hq
  exact ⟨r - 1,by omega,k + 1,by omega,rfl,rfl⟩
 | _ => exact hq
def whK {σ : Type} (E : σ -> Env) (HH : σ -> Heap) (I : σ -> Prop) (μ : σ -> Nat) (s : σ) (Q : Exit -> Kt) (ex : Exit) : Kt:=fun e H =>
 match ex with
 | .normal => ∃ s',I s' /\ μ s' < μ s /\ At e (E s') H (HH s')
 | ex => Q ex e H
section
variable {σ : Type}
@[go_sem] theorem whK_normal (E : σ -> Env) (HH : σ -> Heap) (I : σ -> Prop) (μ : σ -> Nat) (s : σ) : whK E HH I μ s Q .normal e H = ∃ s',I s' /\ μ s' < μ s /\ At e (E s') H (HH s'):=Eq.trans rfl rfl
@[go_sem] theorem whK_ret (E : σ -> Env) (HH : σ -> Heap) (I : σ -> Prop) (μ : σ -> Nat) (s : σ) : whK E HH I μ s Q .ret = Q .ret:=Eq.trans rfl rfl
@[go_sem] theorem whK_exit (E : σ -> Env) (HH : σ -> Heap) (I : σ -> Prop) (μ : σ -> Nat) (s : σ) (j : Nat) : whK E HH I μ s Q (.exit j) = Q (.exit j):=Eq.trans rfl rfl
theorem awp_wh {c : Code} (E : σ -> Env) (HH : σ -> Heap) (I : σ -> Prop) (μ : σ -> Nat) (s : σ) (h0 : I s) (he : e = E s) (hH : H = HH s) (round : ∀ s,I s -> awp P m h ar c (whK E HH I μ s Q) (E s) (HH s)) : awp P m h ar (.loop c) Q e H:=by
 subst he; subst hH
 refine awp_loop_rel (fun r e H => ∃ s,I s /\ μ s = r /\ e = E s /\ H = HH s) ⟨μ s,s,h0,rfl,rfl,rfl⟩ fun r e H hJ => ?_
 obtain ⟨s,hs,rfl,rfl,rfl⟩:=hJ
 refine awp_mono c _ _ _ _ (fun ex e H hq => ?_) (round s hs)
 cases ex with
 | normal =>
  obtain ⟨s',h1,h2,rfl,rfl⟩:=hq
  exact ⟨μ s',h2,s',h1,rfl,rfl,rfl⟩
 | _ => exact hq
end
section
variable {α σ ρ : Type}
def scanK (F : σ -> List α -> ρ) (E : Nat -> σ -> Env) (HH : Nat -> σ -> Heap) (I : Nat -> σ -> Prop) (k : Nat) (s : σ) (x : α) (xs : List α) (Q : Exit -> Kt) (ex : Exit) : Kt:=fun e H =>
 match ex with
 | .normal => ∃ s',F s (x :: xs) = F s' xs /\ I (k + 1) s' /\ At e (E (k + 1) s') H (HH (k + 1) s')
 | ex => Q ex e H
@[go_sem] theorem scanK_normal (F : σ -> List α -> ρ) (E : Nat -> σ -> Env) (HH : Nat -> σ -> Heap) (I : Nat -> σ -> Prop) (k : Nat) (s : σ) (x : α) (xs : List α) : scanK F E HH I k s x xs Q .normal e H = ∃ s',F s (x :: xs) = F s' xs /\ I (k + 1) s' /\ At e (E (k + 1) s') H (HH (k + 1) s'):=Eq.trans rfl rfl
@[go_sem] theorem scanK_ret (F : σ -> List α -> ρ) (E : Nat -> σ -> Env) (HH : Nat -> σ -> Heap) (I : Nat -> σ -> Prop) (k : Nat) (s : σ) (x : α) (xs : List α) : scanK F E HH I k s x xs Q .ret = Q .ret:=Eq.trans rfl rfl
@[go_sem] theorem scanK_exit (F : σ -> List α -> ρ) (E : Nat -> σ -> Env) (HH : Nat -> σ -> Heap) (I : Nat -> σ -> Prop) (k : Nat) (s : σ) (x : α) (xs : List α) (j : Nat) : scanK F E HH I k s x xs Q (.exit j) = Q (.exit j):=Eq.trans rfl rfl
def endlK (Q : Exit -> Kt) (ex : Exit) : Kt:=fun e H =>
 match ex with
 | .normal => False
 | ex => Q ex e H
@[go_sem] theorem endlK_exit (j : Nat) : endlK Q (.exit j) = Q (.exit j):=Eq.trans rfl rfl
theorem awp_lst {c : Code} (l : List α) (F : σ -> List α -> ρ) (I : Nat -> σ -> Prop) (E : Nat -> σ -> Env) (HH : Nat -> σ -> Heap) (s0 : σ) (hl : l.length <= 9223372036854775807) (h0 : I 0 s0) (he : e = E 0 s0) (hH : H = HH 0 s0)
  (round : ∀ k s x xs,l.drop k = x :: xs -> l[k]? = some x -> I k s -> F s0 l = F s (x :: xs) -> 0 <= (k : Int) -> (k : Int) < (l.length : Int) -> IntKind.i64.wrap ((k : Int) + 1) = ((k + 1 : Nat) : Int) -> awp P m h ar c (scanK F E HH I k s x xs Q) (E k s) (HH k s))
  (fin : ∀ s,I l.length s -> F s0 l = F s [] -> awp P m h ar c (endlK Q) (E l.length s) (HH l.length s)) : awp P m h ar (.loop c) Q e H:=by
 subst he; subst hH
 refine awp_loop_rel (fun r e H => ∃ k s,k + r = l.length /\ I k s /\ F s0 l = F s (l.drop k) /\ e = E k s /\ H = HH k s) ⟨l.length,0,s0,by omega,h0,by simp,rfl,rfl⟩ fun r e H hJ => ?_
 obtain ⟨k,s,hk,hI,hF,rfl,rfl⟩:=hJ
 by_cases hlt : k < l.length
 ·have hx:=List.getElem?_eq_getElem hlt
  have hd : l.drop k = l[k] :: l.drop (k + 1):=List.drop_eq_getElem_cons hlt
  rw [hd] at hF
  refine awp_mono c _ _ _ _ (fun ex e H hq => ?_) (round k s _ _ hd hx hI hF (by omega) (by omega) (w64s (by omega)))
  cases ex with
  | normal =>
   obtain ⟨s',h1,h2,rfl,rfl⟩:=hq
   exact ⟨r - 1,by omega,k + 1,s',by omega,h2,hF.trans h1,rfl,rfl⟩
  | _ => exact hq
 ·have hk' : k = l.length:=by omega
  subst hk'
  rw [List.drop_length] at hF
  refine awp_mono c _ _ _ _ (fun ex e H hq => ?_) (fin s hI hF)
  cases ex with
  | normal => exact hq.elim
  | _ => exact hq
end
end
section
variable {P : Program} {t : TypeId} {a b : AV} {r : Bool} {d : Tmp} {K : Kt} {e : Env} {H : Heap}
theorem binK_eqlA (ha : aeql P t a b = some r) : binK P .eql t a b d K e H = K ((d,.bool r) :: e) H:=by simp [binK,abinop,ha]
theorem binK_neqA (ha : aeql P t a b = some r) : binK P .neq t a b d K e H = K ((d,.bool !r) :: e) H:=by simp [binK,abinop,ha]
end
mutual
def AV.fit : AV -> Prop
 | .sl _ es => es.length <= 9223372036854775807 /\ fitL es
 | .agg cs => fitL cs
 | .tup vs => fitL vs
 | _ => True
def fitL : List AV -> Prop
 | [] => True
 | v :: vs => v.fit /\ fitL vs
end
theorem fitL_iff {vs : List AV} : fitL vs ↔ ∀ v ∈ vs,v.fit:=by
 induction vs with
 | nil => simp [fitL]
 | cons x xs ih => simp [fitL,ih]
theorem fit_of_cells {a : AV} (h : ∀ c ∈ a.cells,c.fit) : a.fit:=by
 cases a with
 | agg cs => exact fitL_iff.2 h
 | _ => exact h _ (by simp [AV.cells])
theorem VRel.fit {G : Gh} {w : World} {a : AV} {v : Value} (h : VRel G w a v) : a.fit:=by
 induction h with
 | sl own es sz b q cap u hsz hown hl hm h hu ih =>
  refine ⟨Nat.le_trans hl hm,fitL_iff.2 fun x hx => fit_of_cells fun c hc => ?_⟩
  have : c ∈ cat es:=List.mem_flatMap.2 ⟨x,hx,hc⟩
  obtain ⟨i,hi⟩:=List.getElem?_of_mem this
  exact ih i c hi
 | slnil own => exact ⟨by simp,trivial⟩
 | slany own a => exact ⟨by simp,trivial⟩
 | agg cs vs hl hs h ih =>
  refine fitL_iff.2 fun c hc => ?_
  obtain ⟨i,hi⟩:=List.getElem?_of_mem hc
  have hlt:=(List.getElem?_eq_some_iff.1 hi).1
  exact ih i c _ hi (Array.getElem?_eq_getElem (by omega))
 | tup cs vs hl hs h ih =>
  refine fitL_iff.2 fun c hc => ?_
  obtain ⟨i,hi⟩:=List.getElem?_of_mem hc
  have hlt:=(List.getElem?_eq_some_iff.1 hi).1
  exact ih i c _ hi (Array.getElem?_eq_getElem (by omega))
 | _ => exact trivial
theorem CRel.fit {F : Nat -> Prop} {G : Gh} {w : World} {vs : List AV} {H : Heap} {us : List Value} (h : CRel F G vs H us w) : fitL vs:=by
 refine fitL_iff.2 fun a ha => ?_
 obtain ⟨i,hi⟩:=List.getElem?_of_mem ha
 have hlt:=(List.getElem?_eq_some_iff.1 hi).1
 have:=h.l.len
 exact (h.l.rel i a _ hi (List.getElem?_eq_getElem (by omega))).fit
theorem ACall.fit {P : Program} {f : FuncId} {vs : List AV} {H : Heap} {R : AV -> Heap -> Prop} (hcal : callable P f = true) (h : fitL vs -> ACall P f vs H R) : ACall P f vs H R :=
 ⟨hcal,fun F G w us hc => (h hc.fit).2 F G w us hc⟩
theorem PCall.fit {P : Program} {f : FuncId} {vs : List AV} {v : AV} (hcal : callable P f = true) (h : fitL vs -> PCall P f vs v) : PCall P f vs v:=fun H =>
 ⟨hcal,fun F G w us hc => (h hc.fit H).2 F G w us hc⟩
theorem QCall.fit {P : Program} {f : FuncId} {vs : List AV} {Q : AV -> Prop} (hcal : callable P f = true) (h : fitL vs -> QCall P f vs Q) : QCall P f vs Q:=fun H =>
 ⟨hcal,fun F G w us hc => (h hc.fit H).2 F G w us hc⟩
section
variable {P : Program} {t e : TypeId} {a : AV}
theorem Rd.int_of {k : IntKind} (hu : P.underlying t = some (.int k)) (h : Rd P t a) : ∃ n,a = .int k n /\ (k.min <= n /\ n <= k.max):=by
 cases h with
 | int h hw => rw [hu] at h; cases h; exact ⟨_,rfl,hw⟩
 | bool b h => rw [hu] at h; cases h
 | str h => rw [hu] at h; cases h
 | slice h => rw [hu] at h; cases h
 | struct h => rw [hu] at h; cases h
 | array h => rw [hu] at h; cases h
theorem Rd.bool_of (hu : P.underlying t = some .bool) (h : Rd P t a) : ∃ b,a = .bool b /\ True:=by
 cases h with
 | int h hw => rw [hu] at h; cases h
 | bool b h => exact ⟨_,rfl,trivial⟩
 | str h => rw [hu] at h; cases h
 | slice h => rw [hu] at h; cases h
 | struct h => rw [hu] at h; cases h
 | array h => rw [hu] at h; cases h
theorem Rd.str_of (hu : P.underlying t = some .string) (h : Rd P t a) : ∃ s,a = .str s /\ s.size <= reachBytes:=by
 cases h with
 | int h hw => rw [hu] at h; cases h
 | bool b h => rw [hu] at h; cases h
 | str h hs => exact ⟨_,rfl,hs⟩
 | slice h => rw [hu] at h; cases h
 | struct h => rw [hu] at h; cases h
 | array h => rw [hu] at h; cases h
theorem Rd.list {α : Type} {f : α -> AV} {ok : α -> Prop} (hu : P.underlying t = some (.slice e)) (hd : ∀ x,Rd P e x -> ∃ y,x = f y /\ ok y) (h : Rd P t a) :
  ∃ l : List α,a = .sl none (l.map f) /\ l.length * P.bytesOf e <= reachBytes /\ ∀ x ∈ l,ok x:=by
 cases h with
 | slice h hl hb he =>
  rw [hu] at h; cases h
  rename_i es
  have : ∃ l : List α,es = l.map f /\ ∀ x ∈ l,ok x:=by
   clear hl hb
   induction es with
   | nil => exact ⟨[],rfl,fun x hx => by simp at hx⟩
   | cons x xs ih =>
    obtain ⟨y,rfl,hy⟩:=hd x (he x (by simp))
    obtain ⟨l,rfl,hl⟩:=ih fun x hx => he x (by simp [hx])
    exact ⟨y :: l,rfl,fun z hz => by
     rcases List.mem_cons.1 hz with rfl | hz
     ·exact hy
     ·exact hl z hz⟩
  obtain ⟨l,rfl,hok⟩:=this
  exact ⟨l,rfl,by simpa using hb,hok⟩
 | int h hw => rw [hu] at h; cases h
 | bool b h => rw [hu] at h; cases h
 | str h => rw [hu] at h; cases h
 | struct h => rw [hu] at h; cases h
 | array h => rw [hu] at h; cases h
theorem Rd.list_raw (hu : P.underlying t = some (.slice e)) (h : Rd P t a) : ∃ es : List AV,a = .sl none es /\ es.length * P.bytesOf e <= reachBytes /\ ∀ x ∈ es,Rd P e x:=by
 cases h with
 | slice h hl hb he =>
  rw [hu] at h; cases h
  exact ⟨_,rfl,hb,he⟩
 | int h hw => rw [hu] at h; cases h
 | bool b h => rw [hu] at h; cases h
 | str h => rw [hu] at h; cases h
 | struct h => rw [hu] at h; cases h
 | array h => rw [hu] at h; cases h
theorem list_of {α : Type} {f : α -> AV} {ok : α -> Prop} {es : List AV} (h : ∀ x ∈ es,∃ y,x = f y /\ ok y) : ∃ l : List α,es = l.map f /\ ∀ x ∈ l,ok x:=by
 induction es with
 | nil => exact ⟨[],rfl,fun x hx => by simp at hx⟩
 | cons x xs ih =>
  obtain ⟨y,rfl,hy⟩:=h x (by simp)
  obtain ⟨l,rfl,hl⟩:=ih fun x hx => h x (by simp [hx])
  exact ⟨y :: l,rfl,fun z hz => by
   rcases List.mem_cons.1 hz with rfl | hz
   ·exact hy
   ·exact hl z hz⟩
theorem sl_size {o : Option Nat} {es cs : List AV} (h : AV.sl o es ∈ cs) : SizeOf.sizeOf es < SizeOf.sizeOf (AV.agg cs):=by
 have h1:=List.sizeOf_lt_of_mem h
 have h2 : SizeOf.sizeOf (AV.agg cs) = 1 + SizeOf.sizeOf cs:=by simp
 have h3 : SizeOf.sizeOf (AV.sl o es) = 1 + SizeOf.sizeOf o + SizeOf.sizeOf es:=by simp
 omega
theorem bulk_mem {a : AV} {l : List AV} (h : a ∈ l) : a.bulk <= bulkL l:=by
 induction l with
 | nil => cases h
 | cons x l ih =>
  simp only [bulkL]
  rcases List.mem_cons.1 h with rfl | h
  ·omega
  ·have:=ih h; omega
theorem bulkL_part (l : List AV) (a n : Nat) : bulkL ((l.drop a).take n) <= bulkL l:=by
 have h1:=bulkL_append ((l.drop a).take n) ((l.drop a).drop n)
 have h2:=bulkL_append (l.take a) (l.drop a)
 rw [List.take_append_drop] at h1 h2
 omega
theorem bulk_cnt {α : Type} {f : α -> AV} (hf : ∀ x,1 <= (f x).bulk) (l : List α) : l.length <= bulkL (l.map f):=by
 induction l with
 | nil => simp
 | cons x l ih =>
  have:=hf x
  simp only [List.length_cons,List.map_cons,bulkL]
  omega
theorem bulk_str {s : ByteArray} {l : List AV} {B : Nat} (h : AV.str s ∈ l) (hb : bulkL l <= B) : s.size <= B:=by
 have:=bulk_mem h
 simp only [AV.bulk] at this
 omega
theorem bulk_sl {o : Option Nat} {es l : List AV} {B : Nat} (h : AV.sl o es ∈ l) (hb : bulkL l <= B) : bulkL es <= B:=by
 have:=bulk_mem h
 simp only [AV.bulk] at this
 omega
def styps (P : Program) (t : TypeId) : Option (List TypeId) :=
 match P.underlying t with
 | some (.struct fs) => some (fs.toList.map (·.type))
 | some (.array n e) => some (List.replicate n e)
 | _ => none
theorem rdAll_get {ts : List TypeId} {ps : List AV} (hl : ps.length = ts.length) (h : ∀ (i : Nat) (t : TypeId) (x : AV),ts[i]? = some t -> ps[i]? = some x -> Rd P t x) : RdAll P ts ps:=by
 induction ts generalizing ps with
 | nil => cases ps with
  | nil => trivial
  | cons => simp at hl
 | cons t ts ih => cases ps with
  | nil => simp at hl
  | cons p ps => exact ⟨h 0 t p rfl rfl,ih (by simpa using hl) fun i t x h1 h2 => h (i + 1) t x (by simpa using h1) (by simpa using h2)⟩
theorem Rd.unpack {ts : List TypeId} (hs : styps P t = some ts) (h : Rd P t a) : ∃ ps,a = .agg (cat ps) /\ RdAll P ts ps:=by
 unfold styps at hs
 cases h with
 | struct h hl hp =>
  rw [h] at hs; cases hs
  refine ⟨_,rfl,rdAll_get (by simpa using hl) fun i t x h1 h2 => ?_⟩
  rw [List.getElem?_map] at h1
  rename_i fs _
  cases hf : fs.toList[i]? with
  | none => rw [hf] at h1; cases h1
  | some f => rw [hf] at h1; cases h1; exact hp i f x (by simpa using hf) h2
 | array h hl hp =>
  rw [h] at hs; cases hs
  refine ⟨_,rfl,rdAll_get (by simpa using hl) fun i t x h1 h2 => ?_⟩
  have:=List.eq_of_mem_replicate (List.mem_of_getElem? h1)
  subst this
  exact hp x (List.mem_of_getElem? h2)
 | int h hw => rw [h] at hs; cases hs
 | bool b h => rw [h] at hs; cases hs
 | str h => rw [h] at hs; cases hs
 | slice h => rw [h] at hs; cases hs
end
end Go.AI
namespace Go.AI
theorem hplain (h : Hint) (a : h.gc = []) (b : h.fz = []) (c : h.dy = []) : (∀ k,h.ct k = none) /\ (∀ k,h.at k = []) /\ (∀ k,h.dn k = false):=by
 refine ⟨fun k => ?_,fun k => ?_,fun k => ?_⟩
 ·simp [Hint.ct,a]
 ·simp [Hint.at,b]
 ·simp [Hint.dn,Hint.da,Hint.mv,c]
structure FK (P : Program) (f : FuncId) (fn : Func) (h : Hint) : Prop where
 m : P.follows .mixedOrders = true
 d : fn.body.any (drawsOk h) = true
 g : P.funcs[f]? = some fn
 c : callable P f = true
end Go.AI
namespace Go.AI
theorem pure_borrow1 (c : AV) : (borrow1 c).pure = c.pure:=by cases c <;> rfl
theorem pureL_borrow1 (cs : List AV) : pureL (cs.map borrow1) = pureL cs:=by
 induction cs with
 | nil => rfl
 | cons c cs ih => simp [pureL,pure_borrow1,ih]
theorem pure_borrow0 (a : AV) : (borrow0 a).pure = a.pure:=by
 cases a <;> first | rfl | exact pureL_borrow1 _
theorem pure_borrow (a : AV) : a.borrow.pure = a.pure:=by
 cases a with
 | tup vs =>
  show pureL (vs.map borrow0) = pureL vs
  induction vs with
  | nil => rfl
  | cons c cs ih => simp [pureL,pure_borrow0,ih]
 | agg cs => exact pureL_borrow1 _
 | _ => rfl
theorem PCall.ofB {P : Program} {f : FuncId} {fn : Func} {c : Code} {vs : List AV} {v : AV} (h : Hint) (hm : P.follows .mixedOrders = true) (hd : fn.body.any (drawsOk h) = true) (hf : P.funcs[f]? = some fn) (hb : fn.body = some c) (hcal : callable P f = true)
  (hn : vs.length <= fn.ntmps) (hp : pureL vs = true) (hv : v.pure = true) (ha : awp P fn.ntmps h none c (QRet P fn.ntmps fn.results fun v' _ => v'.borrow = v) (argsFrom 0 vs) []) : PCall P f vs v:=fun H =>
 ⟨hcal,fun F G w us hc => Calls.mono (calls_of_awp (.inr rfl) hm hd hf hb hn ha (hc.hide (pureL_mem hp))) fun e w' he => by
  obtain ⟨u,rfl,v',H2,G',rfl,hcr,hext⟩:=he
  obtain ⟨h1,h2⟩:=hc.unhide (by rw [pure_borrow] at hv; exact hv) hcr hext
  exact ⟨u,rfl,_,H,_,⟨rfl,rfl⟩,by simpa using h1.lend,h2⟩⟩
@[go_sem] theorem borrow0_agg (cs : List AV) : borrow0 (.agg cs) = .agg (cs.map borrow1):=rfl
@[go_sem] theorem borrow0_int (k : IntKind) (n : Int) : borrow0 (.int k n) = .int k n:=rfl
@[go_sem] theorem borrow0_bool (b : Bool) : borrow0 (.bool b) = .bool b:=rfl
@[go_sem] theorem borrow0_sl (o : Option Nat) (es : List AV) : borrow0 (.sl o es) = .sl none es:=rfl
@[go_sem] theorem spliceN_cons (c x : AV) (cs xs : List AV) : spliceN (c :: cs) (x :: xs) = x :: spliceN cs xs:=by
 simp [spliceN,splice]
@[go_sem] theorem spliceN_nil (cs : List AV) : spliceN cs [] = cs:=by simp [spliceN,splice]
@[go_sem] theorem scalar_sl (o : Option Nat) (es : List AV) : (AV.sl o es).scalar = true:=rfl
def closedL (n : Nat) : Heap -> Bool
 | [] => true
 | some cs :: r => bndL n cs && closedL n r
 | none :: r => closedL n r
theorem closedL_eq (n : Nat) (H : Heap) : closedL n H = H.all fun o => match o with
 | some cs => bndL n cs
 | none => true:=by
 induction H with
 | nil => rfl
 | cons o r ih => cases o <;> simp [closedL,ih]
@[go_sem] theorem closedB_L (H : Heap) : closedB H = closedL H.length H:=(closedL_eq _ _).symm
@[go_sem] theorem closedL_nil (n : Nat) : closedL n [] = true:=rfl
@[go_sem] theorem closedL_some (n : Nat) (cs : List AV) (r : Heap) : closedL n (some cs :: r) = (bndL n cs && closedL n r):=rfl
@[go_sem] theorem bndL_nil' (k : Nat) : bndL k [] = true:=rfl
@[go_sem] theorem bndL_cons' (k : Nat) (v : AV) (vs : List AV) : bndL k (v :: vs) = (v.bnd k && bndL k vs):=rfl
@[go_sem] theorem bnd_ptr (k a b : Nat) : (AV.ptr a b).bnd k = decide (a < k):=rfl
@[go_sem] theorem bnd_int (k : Nat) (i : IntKind) (n : Int) : (AV.int i n).bnd k = true:=rfl
@[go_sem] theorem bnd_sl (k : Nat) (o : Option Nat) (es : List AV) : (AV.sl o es).bnd k = bndL k es:=rfl
def frzS (r : Option (AV × Heap)) (t : Tmp) (zs : List (Tmp × Option Nat × Bool)) (Q : Exit -> Kt) (e : Env) (H : Heap) : Prop :=
 match r with
 | some (v,H') => frzK zs Q ((t,v) :: e) H'
 | none => frzK zs Q e H
@[go_sem] theorem frzK_S (t : Tmp) (ag : Bool) (zs : List (Tmp × Option Nat × Bool)) (Q : Exit -> Kt) (e : Env) (H : Heap) : frzK ((t,none,ag) :: zs) Q e H = frzS (frzSlot ag (look e t) H) t zs Q e H:=by
 rw [frzK_cons]
 unfold frz1 frzS
 dsimp only
 cases frzSlot ag (look e t) H with
 | none => rfl
 | some p => rfl
@[go_sem] theorem frzS_some (v : AV) (H' : Heap) (t : Tmp) (zs : List (Tmp × Option Nat × Bool)) (Q : Exit -> Kt) (e : Env) (H : Heap) : frzS (some (v,H')) t zs Q e H = frzK zs Q ((t,v) :: e) H':=Eq.trans rfl rfl
@[go_sem] theorem cat_nil' : cat [] = []:=rfl
section
variable {α : Type} {f : α -> List AV} {n : Nat}
theorem drop_at {l : List α} {k : Nat} {x : α} (hx : l[k]? = some x) : l.drop k = x :: l.drop (k + 1):=by
 obtain ⟨h,rfl⟩:=List.getElem?_eq_some_iff.1 hx
 exact List.drop_eq_getElem_cons h
theorem chunk_ones (cs : List AV) : chunk false 1 cs.length cs = cs:=by
 induction cs with
 | nil => rfl
 | cons x xs ih => simp [chunk,ih]
end
end Go.AI
namespace Go.AI
attribute [go_sem] Nat.reduceEqDiff Nat.reduceLT Nat.reduceAdd Nat.reduceSub Nat.reduceMul Nat.reduceBEq Nat.reduceLeDiff Nat.reduceDvd reduceCtorEq Int.reduceToNat Int.reduceLT Int.reduceLE
attribute [go_sem] Nat.le_refl Int.le_refl false_implies implies_true frzSlot List.take_length List.mem_cons List.not_mem_nil or_false forall_eq_or_imp forall_eq List.range_succ List.range_zero exists_eq_left' Option.some.injEq
attribute [go_sem ↓] reduceIte
attribute [go_sem] Bool.not_true Bool.not_false
section
variable {P : Program} {f : FuncId} {fn : Func} {h : Hint} {c : Code} {vs : List AV} {v : AV} {Q : AV -> Prop} {R : AV -> Heap -> Prop} {H : Heap}
theorem pC (k : FK P f fn h) (hb : fn.body = some c) (ha : awp P fn.ntmps h none c (QRet P fn.ntmps fn.results fun v' _ => v' = v) (argsFrom 0 vs) []) (hn : vs.length.ble fn.ntmps = true:=by rfl) (hp : pureL vs = true:=by simp [pureL,AV.pure,go_sem]) (hv : v.pure = true:=by rfl) : PCall P f vs v :=
 PCall.of h k.m k.d k.g hb k.c (Nat.le_of_ble_eq_true hn) hp hv ha
theorem pB (k : FK P f fn h) (hb : fn.body = some c) (ha : awp P fn.ntmps h none c (QRet P fn.ntmps fn.results fun v' _ => v'.borrow = v) (argsFrom 0 vs) []) (hn : vs.length.ble fn.ntmps = true:=by rfl) (hp : pureL vs = true:=by simp [pureL,AV.pure,go_sem]) (hv : v.pure = true:=by simp [pureL,AV.pure,go_sem]) : PCall P f vs v :=
 PCall.ofB h k.m k.d k.g hb k.c (Nat.le_of_ble_eq_true hn) hp hv ha
theorem qC (k : FK P f fn h) (hb : fn.body = some c) (ha : awp P fn.ntmps h none c (QRet P fn.ntmps fn.results fun v' _ => v'.pure = true /\ Q v') (argsFrom 0 vs) []) (hn : vs.length.ble fn.ntmps = true:=by rfl) (hp : pureL vs = true:=by simp [pureL,AV.pure,go_sem]) : QCall P f vs Q :=
 QCall.of h k.m k.d k.g hb k.c (Nat.le_of_ble_eq_true hn) hp ha
theorem aC (k : FK P f fn h) (hb : fn.body = some c) (ha : awp P fn.ntmps h none c (QRet P fn.ntmps fn.results R) (argsFrom 0 vs) H) (hg : h.gc = []:=by rfl) (hn : vs.length.ble fn.ntmps = true:=by rfl) : ACall P f vs H R :=
 ACall.of h hg k.m k.d k.g hb k.c (Nat.le_of_ble_eq_true hn) ha
theorem aN (k : FK P f fn h) (hb : fn.body = some c) (ha : awp P fn.ntmps h none c (QRet P fn.ntmps fn.results R) (argsFrom 0 vs) []) (hn : vs.length.ble fn.ntmps = true:=by rfl) : ACall P f vs [] R :=
 ⟨k.c,fun F G w us hc => calls_of_awp (.inr (List.length_eq_zero_iff.1 hc.h.len)) k.m k.d k.g hb (Nat.le_of_ble_eq_true hn) ha hc⟩
end
section
variable {P : Program} {f : FuncId} {vs : List AV} {d : Option Tmp} {K A B : Kt} {e : Env} {H : Heap} {v : AV} {t b : Bool}
theorem pK (hc : PCall P f vs v) (hk : K (put d v e) H) : PCallK P f vs d K e H:=⟨v,hc,hk⟩
theorem cS (ht : t = true -> A e H) (hf : t = false -> B e H) : condK (.bool t) A B e H:=condK_split _ _ _ ht hf
theorem gS (ht : t = b -> A e H) (hf : t = (!b) -> B e H) : gsel (.bool t) b A B e H:=gsel_split _ _ _ _ ht hf
end
theorem blen (s : ByteArray) : s.data.toList.length = s.size:=by
 have : s.size = s.data.size:=rfl
 rw [this,Array.length_toList]
theorem drop_len {α : Type} {l : List α} {k : Nat} {x : α} {xs : List α} (h : l.drop k = x :: xs) : l.length = k + xs.length + 1:=by
 have:=congrArg List.length h
 simp at this; omega
@[go_sem] theorem At_self (e : Env) (H : Heap) : At e e H H = True:=by simp [At]
section
variable {P : Program} {m : Nat} {h : Hint} {e : Env} {H : Heap} {Q : Exit -> Kt} {ops : Array Oper} {ar : Option Nat} {α σ ρ : Type}
def allK (F : List α -> ρ) (E : Nat -> Env) (HH : Heap) (k : Nat) (x : α) (xs : List α) (Q : Exit -> Kt) (ex : Exit) : Kt:=fun e H =>
 match ex with
 | .normal => F (x :: xs) = F xs /\ At e (E (k + 1)) H HH
 | ex => Q ex e H
@[go_sem] theorem allK_normal (F : List α -> ρ) (E : Nat -> Env) (HH : Heap) (k : Nat) (x : α) (xs : List α) : allK F E HH k x xs Q .normal e H = (F (x :: xs) = F xs /\ At e (E (k + 1)) H HH):=Eq.trans rfl rfl
@[go_sem] theorem allK_ret (F : List α -> ρ) (E : Nat -> Env) (HH : Heap) (k : Nat) (x : α) (xs : List α) : allK F E HH k x xs Q .ret = Q .ret:=Eq.trans rfl rfl
@[go_sem] theorem allK_exit (F : List α -> ρ) (E : Nat -> Env) (HH : Heap) (k : Nat) (x : α) (xs : List α) (j : Nat) : allK F E HH k x xs Q (.exit j) = Q (.exit j):=Eq.trans rfl rfl
theorem awp_all {c : Code} (l : List α) (F : List α -> ρ) (E : Nat -> Env) (hl : l.length <= 9223372036854775807) (he : e = E 0)
  (round : ∀ k x xs,l.drop k = x :: xs -> l[k]? = some x -> F l = F (x :: xs) -> 0 <= (k : Int) -> (k : Int) < (l.length : Int) -> IntKind.i64.wrap ((k : Int) + 1) = ((k + 1 : Nat) : Int) -> awp P m h ar c (allK F E H k x xs Q) (E k) H)
  (fin : F l = F [] -> ¬ (l.length : Int) < (l.length : Int) -> awp P m h ar c (endlK Q) (E l.length) H) : awp P m h ar (.loop c) Q e H:=by
 refine awp_lst l (fun (_ : Unit) l => F l) (fun _ _ => True) (fun k _ => E k) (fun _ _ => H) () hl trivial he rfl (fun k _ x xs h1 h2 _ h4 h5 h6 h7 => ?_) fun _ _ h1 => fin h1 (Int.lt_irrefl _)
 refine awp_mono c _ _ _ _ (fun ex e H hq => ?_) (round k x xs h1 h2 h4 h5 h6 h7)
 cases ex with
 | normal => exact ⟨(),hq.1,trivial,hq.2⟩
 | _ => exact hq
theorem awp_alls {c : Code} (s : ByteArray) (F : List UInt8 -> ρ) (E : Nat -> Env) (hl : s.size <= 9223372036854775807) (he : e = E 0)
  (round : ∀ k x xs,s.data.toList.drop k = x :: xs -> (s.data[k]?).getD 0 = x -> F s.data.toList = F (x :: xs) -> 0 <= (k : Int) -> (k : Int) < (s.size : Int) -> IntKind.i64.wrap ((k : Int) + 1) = ((k + 1 : Nat) : Int) -> s.size = k + xs.length + 1 -> awp P m h ar c (allK F E H k x xs Q) (E k) H)
  (fin : F s.data.toList = F [] -> ¬ (s.size : Int) < (s.size : Int) -> awp P m h ar c (endlK Q) (E s.size) H) : awp P m h ar (.loop c) Q e H:=by
 refine awp_all s.data.toList F E (by rw [blen]; exact hl) he (fun k x xs h1 h2 h4 h5 h6 h7 => round k x xs h1 ?_ h4 h5 (by rw [blen] at h6; exact h6) h7 (by have:=drop_len h1; rw [blen] at this; exact this)) ?_
 ·rw [Array.getElem?_toList] at h2; rw [h2]; rfl
 ·rw [blen]; exact fin
end
section
variable {P : Program} {n : Nat} {h : Hint} {H : Heap} {Q : Exit -> Kt} {ops : Array Oper} {ar : Option Nat} {K : Env -> Heap -> Prop}
end
theorem toList_beq (a b : ByteArray) : (a.toList == b.toList) = decide (a = b):=by
 rw [Bool.eq_iff_iff,beq_iff_eq,decide_eq_true_eq,ByteArray.toList_eq,ByteArray.toList_eq]
 exact ⟨fun h => ByteArray.ext (Array.toList_inj.1 h),fun h => by rw [h]⟩
end Go.AI
namespace Go.AI
theorem bnd_of_cells {k : Nat} {v : AV} (h : ∀ c ∈ v.cells,c.bnd k = true) : v.bnd k = true:=by
 cases v <;> first | exact h _ (List.mem_singleton.2 rfl) | skip
 simp only [AV.bnd]
 exact bndL_iff.2 h
theorem VRel.bnd {G : Gh} {w : World} {a : AV} {v : Value} (h : VRel G w a v) : a.bnd G.obs.length = true:=by
 induction h with
 | ptr o off b h hc => simpa [AV.bnd] using (List.getElem?_eq_some_iff.1 h).1
 | cptr cs off b q u h hu ih =>
  simp only [AV.bnd]
  refine bndL_iff.2 fun c hc => ?_
  obtain ⟨i,hi⟩:=List.getElem?_of_mem hc
  exact ih i c hi
 | sl own es sz b q cap u hsz hown hl hm h hu ih =>
  simp only [AV.bnd]
  refine bndL_iff.2 fun e he => bnd_of_cells fun c hc => ?_
  obtain ⟨i,hi⟩:=List.getElem?_of_mem (List.mem_flatMap.2 ⟨e,he,hc⟩ : c ∈ cat es)
  exact ih i c hi
 | msl o off len sz b cap h hl hm hc => simpa [AV.bnd] using (List.getElem?_eq_some_iff.1 h).1
 | mslc o off len sz cap b h hl hm hc => simpa [AV.bnd] using (List.getElem?_eq_some_iff.1 h).1
 | fn f first captured fi ca h1 h2 h3 h4 ih1 ih2 =>
  simp only [AV.bnd,Bool.and_eq_true]
  refine ⟨bndL_iff.2 fun c hc => ?_,bndL_iff.2 fun c hc => ?_⟩
  ·obtain ⟨i,hi⟩:=List.getElem?_of_mem hc
   have hl:=(List.getElem?_eq_some_iff.1 hi).1
   exact ih1 i c _ hi (Array.getElem?_eq_getElem (by omega))
  ·obtain ⟨i,hi⟩:=List.getElem?_of_mem hc
   have hl:=(List.getElem?_eq_some_iff.1 hi).1
   exact ih2 i c _ hi (Array.getElem?_eq_getElem (by omega))
 | mapr o b h hb hk => simpa [AV.bnd] using (List.getElem?_eq_some_iff.1 h).1
 | it o b h hb hk => simpa [AV.bnd] using (List.getElem?_eq_some_iff.1 h).1
 | yld o b L h hb hk => simpa [AV.bnd] using (List.getElem?_eq_some_iff.1 h).1
 | ifc t a v hs h ih => simpa [AV.bnd] using ih
 | agg cs vs hl hs h ih =>
  simp only [AV.bnd]
  refine bndL_iff.2 fun c hc => ?_
  obtain ⟨i,hi⟩:=List.getElem?_of_mem hc
  have hlt:=(List.getElem?_eq_some_iff.1 hi).1
  exact ih i c _ hi (Array.getElem?_eq_getElem (by omega))
 | tup cs vs hl hs h ih =>
  simp only [AV.bnd]
  refine bndL_iff.2 fun c hc => ?_
  obtain ⟨i,hi⟩:=List.getElem?_of_mem hc
  have hlt:=(List.getElem?_eq_some_iff.1 hi).1
  exact ih i c _ hi (Array.getElem?_eq_getElem (by omega))
 | _ => rfl
section
variable {P : Program} {F : Nat -> Prop} {G : Gh} {w : World} {H : Heap}
theorem ORel.bnd {cs : List AV} {b : Nat} (h : ORel F G w cs b) : bndL G.obs.length cs = true:=by
 have hi:=h.is
 split at hi
 ·obtain ⟨C,E,g1,g2,g3⟩:=hi
  refine bndL_iff.2 fun c hc => ?_
  obtain ⟨i,hci⟩:=List.getElem?_of_mem hc
  have hlt:=(List.getElem?_eq_some_iff.1 hci).1
  exact (g3 i c _ hci (Array.getElem?_eq_getElem (by omega))).2.1.bnd
 ·obtain ⟨es,ms,cl,g1,g2,g3,g4,g5⟩:=hi
  subst g2
  simp only [mapc,bndL,AV.bnd,Bool.and_true]
  refine bndL_iff.2 fun c hc => ?_
  obtain ⟨p,hp,hc⟩:=List.mem_flatMap.1 hc
  obtain ⟨i,hpi⟩:=List.getElem?_of_mem hp
  have hlt:=(List.getElem?_eq_some_iff.1 hpi).1
  obtain ⟨_,_,a3,a4⟩:=g4 i p _ hpi (Array.getElem?_eq_getElem (by omega))
  rcases List.mem_cons.1 hc with rfl | hc
  ·exact a3.bnd
  ·rcases List.mem_singleton.1 hc with rfl
   exact a4.bnd
 ·rcases hi with ⟨s,pos,h1,rfl⟩ | ⟨h1,rfl⟩ | ⟨o,mb,si,se,h1,rfl,h3⟩
  ·simp [iterS,bndL,AV.bnd]
  ·simp [bndL,AV.bnd]
  ·have:=h3.bnd
   simp only [iterM,bndL,this,Bool.true_and,Bool.and_true]
   simp only [AV.bnd,Bool.true_and]
   exact bndL_map fun _ => rfl
 ·obtain ⟨s,pe,t,D,st,vals,g1,g2,g3,g4,g5⟩:=hi
  subst g3
  simp only [loopc,bndL,AV.bnd,Bool.and_true,Bool.true_and]
  refine bndL_iff.2 fun c hc => ?_
  obtain ⟨i,hci⟩:=List.getElem?_of_mem hc
  have hlt:=(List.getElem?_eq_some_iff.1 hci).1
  exact (g5 i c _ hci (Array.getElem?_eq_getElem (by omega))).2.bnd
 ·exact hi.elim
theorem HRel.closed (h : HRel F G H w) : closedH H:=fun o cs ho => by
 have hlt:=(List.getElem?_eq_some_iff.1 ho).1
 have hl:=h.len
 have:=(h.obj o cs _ ho (List.getElem?_eq_getElem (by omega))).bnd
 rwa [hl] at this
theorem ACall.drop {f : FuncId} {vs : List AV} {v : AV} (hv : v.bnd H.length = true) (h : ACall P f vs H fun v' H' => v' = v /\ ∃ ext,H' = H ++ ext) : ACall P f vs H fun v' H' => v' = v /\ H' = H :=
 ⟨h.1,fun F G w us hc => Calls.mono (h.2 F G w us hc) fun e w' he => by
  obtain ⟨u,rfl,v',H2,G',⟨rfl,ext,rfl⟩,hcr,hext⟩:=he
  refine ⟨u,rfl,_,H,_,⟨rfl,rfl⟩,hcr.cut hv hc.h.closed,⟨hext.size,⟨fun o b ho => ?_,hext.keeps.shape,hext.keeps.sp,hext.keeps.safe⟩,hext.kind,hext.cells,hext.io⟩⟩
  have hlt:=(List.getElem?_eq_some_iff.1 ho).1
  show (G'.obs.take H.length)[o]? = some b
  rw [List.getElem?_take_of_lt (by have:=hc.h.len; omega)]
  exact hext.keeps.obs o b ho⟩
end
@[go_sem] theorem exists_app (H x : Heap) : (∃ ext,H ++ x = H ++ ext) = True:=eq_true ⟨x,rfl⟩
@[go_sem] theorem exists_app0 (H : Heap) : (∃ ext,H = H ++ ext) = True:=eq_true ⟨[],by simp⟩
@[go_sem] theorem bnd_fn (f : Fn) (a b : List AV) (n : Nat) : (AV.fn f a b).bnd n = (bndL n a && bndL n b):=rfl
end Go.AI
namespace Go.AI
section
variable {P : Program} {n : Nat} {h : Hint} {ops : Array Oper} {K : Kt} {p : Tmp × AV} {e : Env} {H : Heap} {d : Tmp} {ty : TypeId} {ps : String} {af : Array Edge} {Q : Exit -> Kt}
def rngK (P : Program) (t : TypeId) (x : AV) (d : Tmp) (K : Kt) (e : Env) (H : Heap) : Prop:=arange P t H x fun v H' => K ((d,v) :: e) H'
def nxtK (str : Bool) (x : AV) (d : Tmp) (K : Kt) (e : Env) (H : Heap) : Prop :=
 match x with
 | .it o => anext str H o fun v H' => K ((d,v) :: e) H'
 | _ => False
def lkpK (P : Program) (t : TypeId) (ok : Bool) (m k : AV) (d : Tmp) (K : Kt) (e : Env) (H : Heap) : Prop :=
 match P.underlying t with
 | some (.map kt et) => match mapOf H m with
  | some es => keysIn P kt (k :: es.map (·.1)) /\ distK es /\ ∃ z,zeroAV P et = some z /\ K ((d,lkres ok z (afind k es 0)) :: e) H
  | none => False
 | _ => False
def updK (P : Program) (t : TypeId) (m k v : AV) (K : Kt) (e : Env) (H : Heap) : Prop :=
 match m with
 | .mapr o => match P.underlying t with
  | some (.map kt _) => match mapOf H (.mapr o) with
   | some es => keysIn P kt (k :: es.map (·.1)) /\ distK es /\ v.isVal = true /\ K e (H.set o (some (mapc (mapUpd es k v))))
   | none => False
  | _ => False
 | _ => False
@[go_sem] theorem aop_makeMap (t : TypeId) : aop P n h ops ⟨some d,.makeMap t none,ty,ps,af,none⟩ K (p :: e) H = (d < n /\ K ((d,.mapr H.length) :: p :: e) (H ++ [some (mapc [])])):=by
 rw [aop_none _ rfl]
 simp only [taking,opTy,Op.operands,evs_plain,List.map_nil,put,dstOk]
 rfl
@[go_sem] theorem aop_range (t : TypeId) (x : Operand) : aop P n h ops ⟨some d,.range t x,ty,ps,af,none⟩ K (p :: e) H = (d < n /\ rngK P t (evo P none (p :: e) x).borrow d K (p :: e) H):=by
 rw [aop_none _ rfl]
 simp only [taking,opTy,Op.operands,evs_plain,List.map_cons,List.map_nil,put,dstOk]
 rfl
@[go_sem] theorem aop_next (x : Operand) (b : Bool) : aop P n h ops ⟨some d,.next x b,ty,ps,af,none⟩ K (p :: e) H = (d < n /\ nxtK b (evo P none (p :: e) x).borrow d K (p :: e) H):=by
 rw [aop_none _ rfl]
 simp only [taking,opTy,Op.operands,evs_plain,List.map_cons,List.map_nil,put,dstOk]
 congr 1
 unfold nxtK
 generalize (evo P none (p :: e) x).borrow = v
 cases v <;> rfl
@[go_sem] theorem aop_lookup (t : TypeId) (x k : Operand) (ok : Bool) : aop P n h ops ⟨some d,.lookup t x k ok,ty,ps,af,none⟩ K (p :: e) H =
  (d < n /\ lkpK P t ok (evo P none (p :: e) x).borrow (evo P none (p :: e) k).borrow d K (p :: e) H):=by
 rw [aop_none _ rfl]
 simp only [taking,opTy,Op.operands,evs_plain,List.map_cons,List.map_nil,put,dstOk]
 rfl
@[go_sem] theorem aop_mapUpdate (t : TypeId) (x k v : Operand) : aop P n h ops ⟨none,.mapUpdate t x k v,ty,ps,af,none⟩ K (p :: e) H =
  updK P t (evo P none (p :: e) x).borrow (evo P none (p :: e) k).borrow (evo P none (p :: e) v).borrow K (p :: e) H:=by
 rw [aop_none _ rfl]
 simp only [taking,opTy,Op.operands,evs_plain,List.map_cons,List.map_nil,put,dstOk]
 rw [true_and]
 generalize (evo P none (p :: e) x).borrow = xv
 cases xv <;> rfl
end
theorem mapOf_at {H : Heap} {o : Nat} {es : List (AV × AV)} (h : H[o]? = some (some (mapc es))) : mapOf H (.mapr o) = some es:=by
 simp only [mapOf,h,unmapc_mapc]
theorem keysIn_int {P : Program} {kt : TypeId} {k : IntKind} (h : P.underlying kt = some (.int k)) {ks : List AV} (hk : ∀ a ∈ ks,∃ n,a = .int k n) : keysIn P kt ks :=
 ⟨_,KLaw.plain h,fun a ha => by obtain ⟨n,rfl⟩:=hk a ha; exact ⟨_,rfl,rfl⟩⟩
def setE {α : Type} (f : α -> AV) (l : List α) : List (AV × AV):=l.map fun x => (f x,.bool true)
theorem afind_set {α : Type} (f : α -> AV) (k : AV) : ∀ (l : List α) (i : Nat),(afind k (setE f l) i).map (·.2) = if l.any (fun x => keyEq (f x) k) = true then some (.bool true) else none
 | [],i => rfl
 | x :: l,i => by
  unfold setE
  rw [List.map_cons,afind,List.any_cons]
  by_cases h : keyEq (f x) k = true
  ·rw [if_pos h,h]; rfl
  ·rw [if_neg h]
   have h2 : keyEq (f x) k = false:=by simpa using h
   rw [h2,Bool.false_or]
   exact afind_set f k l (i + 1)
theorem lk_set {α : Type} (f : α -> AV) (k : AV) (l : List α) : lkres false (.bool false) (afind k (setE f l) 0) = .bool (l.any fun x => keyEq (f x) k):=by
 have h:=afind_set f k l 0
 cases ha : afind k (setE f l) 0 with
 | none =>
  rw [ha] at h
  split at h
  ·cases h
  ·rename_i hn
   have : (l.any fun x => keyEq (f x) k) = false:=by simpa using hn
   rw [this]; rfl
 | some q =>
  rw [ha] at h
  split at h
  ·rename_i hy
   obtain ⟨j,v⟩:=q
   have hv : v = .bool true:=by simpa using h
   subst hv
   rw [hy]; rfl
  ·cases h
theorem upd_set {α : Type} (f : α -> AV) (x : α) (l : List α) (h : (l.any fun y => keyEq (f y) (f x)) = false) : mapUpd (setE f l) (f x) (.bool true) = setE f (l ++ [x]):=by
 have h2:=afind_set f (f x) l 0
 rw [h] at h2
 have h3 : afind (f x) (setE f l) 0 = none:=by
  cases ha : afind (f x) (setE f l) 0 with
  | none => rfl
  | some q => rw [ha] at h2; cases h2
 unfold mapUpd
 rw [h3]
 simp [setE]
theorem set_keys {α : Type} (f : α -> AV) (l : List α) : (setE f l).map (·.1) = l.map f:=by simp [setE,List.map_map]
def distL {α : Type} (f : α -> AV) : List α -> Prop
 | [] => True
 | x :: l => (∀ y ∈ l,keyEq (f x) (f y) = false) /\ distL f l
theorem dist_set {α : Type} (f : α -> AV) : ∀ {l : List α},distL f l -> distK (setE f l)
 | [],_ => List.Pairwise.nil
 | x :: l,h => List.Pairwise.cons (fun q hq => by obtain ⟨y,hy,rfl⟩:=List.mem_map.1 hq; exact h.1 y hy) (dist_set f h.2)
theorem distL_snoc {α : Type} (f : α -> AV) (x : α) : ∀ {l : List α},distL f l -> (l.any fun y => keyEq (f y) (f x)) = false -> distL f (l ++ [x])
 | [],_,_ => ⟨fun y hy => by simp at hy,trivial⟩
 | y :: l,h,ha => by
  rw [List.any_cons,Bool.or_eq_false_iff] at ha
  refine ⟨fun z hz => ?_,distL_snoc f x h.2 ha.2⟩
  rcases List.mem_append.1 hz with hz | hz
  ·exact h.1 z hz
  ·rcases List.mem_singleton.1 hz with rfl
   exact ha.1
end Go.AI
