/- Contract: checkPorts of the program. -/
import Derived.Test.YtdgagjhjpffeaaaGreatDoorMp
import Derived.Test.YtdgagjhjpffeaaaGreatDoorMe
import Derived.Test.YtdgagjhjpffeaaaGreatDoorMg
import Derived.Test.YtdgagjhjpffeaaaGreatDoorMf
set_option linter.unusedSimpArgs false
set_option linter.unusedVariables false
namespace Go.AI
open Go.Proofs
set_option maxRecDepth 50000
end Go.AI
namespace Go.AI
open Go.Proofs
set_option maxRecDepth 50000
end Go.AI
namespace Go.AI
open Go.Proofs
set_option maxRecDepth 50000
end Go.AI
namespace Go.AI
open Go.Proofs
set_option maxRecDepth 50000
end Go.AI
namespace Go.AI
open Go.Proofs
set_option maxRecDepth 50000
end Go.AI
namespace Go.AI
structure VE where
 v : Variable
 b : Bool
def vNew (l : List Fld) (s : Stp) : Variable:=⟨s.var,famS s.kind,widS l s.key,if numS s then s.n else 0,if numS s then s.m else 0⟩
def vFind (E : List VE) (nm : ByteArray) : Option VE:=E.find? fun e => decide (e.v.name = nm)
def vUpd : List VE -> VE -> List VE
 | [],x => [x]
 | e :: E,x => if e.v.name = x.v.name then x :: E else e :: vUpd E x
def vBad (l : List Fld) (e : VE) (s : Stp) : Bool:=e.v.family != famS s.kind || (!eqI e.v.widths (widS l s.key) || (numS s && (e.b && (e.v.n != s.n || e.v.m != s.m))))
def vStep (l : List Fld) (E : List VE) (s : Stp) : Option (List VE) :=
 if s.kind = 0 then some E else match vFind E s.var with
  | none => some (vUpd E ⟨vNew l s,numS s⟩)
  | some e => if vBad l e s then none else if numS s then some (vUpd E ⟨vNew l s,true⟩) else some E
def vGo (l : List Fld) : List VE -> List Stage -> Option (List VE)
 | E,[] => some E
 | E,x :: r => match vStep l E x.step with
  | none => none
  | some E' => vGo l E' r
theorem vFind_upd (x : VE) (nm : ByteArray) : ∀ E : List VE,vFind (vUpd E x) nm = if x.v.name = nm then some x else vFind E nm
 | [] => by
  unfold vUpd vFind
  by_cases h : x.v.name = nm <;> simp [h]
 | e :: E => by
  have ih:=vFind_upd x nm E
  unfold vUpd
  by_cases h : e.v.name = x.v.name
  ·rw [if_pos h]
   unfold vFind
   by_cases h2 : x.v.name = nm
   ·simp [h2]
   ·simp [h2,h]
  ·rw [if_neg h]
   unfold vFind at ih ⊢
   rw [List.find?_cons,List.find?_cons]
   by_cases h2 : e.v.name = nm
   ·have : ¬ x.v.name = nm:=fun h3 => h (h2.trans h3.symm)
    simp [h2,this]
   ·simp only [h2,decide_false]
    exact ih
structure VInv (l : List Fld) (E : List VE) (p : List Stage) : Prop where
 src : ∀ nm e,vFind E nm = some e -> ∃ x ∈ p,x.step.kind ≠ 0 /\ x.step.var = nm
 fits : ∀ x ∈ p,x.step.kind ≠ 0 -> ∃ e,vFind E x.step.var = some e /\ e.v.family = famS x.step.kind /\ e.v.widths = widS l x.step.key /\ (numS x.step = true -> e.b = true /\ e.v.n = x.step.n /\ e.v.m = x.step.m)
 num : ∀ nm e,vFind E nm = some e -> e.b = true -> ∃ x ∈ p,x.step.kind ≠ 0 /\ x.step.var = nm /\ numS x.step = true
theorem VInv.nil (l : List Fld) : VInv l [] []:=⟨fun _ _ h => (by cases h),fun _ h => (by cases h),fun _ _ h => (by cases h)⟩
theorem vBad_any {l : List Fld} {E : List VE} {p : List Stage} (h : VInv l E p) {s : Stp} (hk : s.kind ≠ 0) :
  p.any (fun y => clash l y.step s) = match vFind E s.var with | none => false | some e => vBad l e s:=by
 cases hf : vFind E s.var with
 | none =>
  dsimp only
  rw [List.any_eq_false]
  intro y hy hc
  unfold clash at hc
  simp only [Bool.and_eq_true,bne_iff_ne,ne_eq,decide_eq_true_eq] at hc
  obtain ⟨e,he,_⟩:=h.fits y hy hc.1.1
  rw [hc.2.1,hf] at he
  cases he
 | some e =>
  dsimp only
  rw [Bool.eq_iff_iff,List.any_eq_true]
  constructor
  ·rintro ⟨y,hy,hc⟩
   unfold clash agrS at hc
   simp only [Bool.and_eq_true,bne_iff_ne,ne_eq,decide_eq_true_eq] at hc
   obtain ⟨⟨k1,k2⟩,hv,ha⟩:=hc
   obtain ⟨e',he,h1,h2,h3⟩:=h.fits y hy k1
   rw [hv,hf] at he
   cases he
   have ha' : (numS y.step = true /\ numS s = true /\ (y.step.n ≠ s.n \/ y.step.m ≠ s.m)) \/ eqI (widS l y.step.key) (widS l s.key) = false \/ famS y.step.kind ≠ famS s.kind:=by
    generalize eqI (widS l y.step.key) (widS l s.key) = B at ha ⊢
    generalize famS y.step.kind = f1 at ha ⊢
    generalize famS s.kind = f2 at ha ⊢
    generalize numS y.step = c1 at ha ⊢
    generalize numS s = c2 at ha ⊢
    cases B <;> cases c1 <;> cases c2 <;> simp at ha ⊢
    all_goals first | exact ha | (rcases ha with ha | ha <;> grind) | grind
   unfold vBad
   rw [h1,h2]
   rcases ha' with ⟨a1,a2,a3⟩ | a | a
   ·obtain ⟨g1,g2,g3⟩:=h3 a1
    rw [g1,g2,g3,a2]
    rcases a3 with a3 | a3 <;> simp [a3]
   ·simp [a]
   ·simp [a]
  ·intro hb
   unfold vBad at hb
   by_cases hn : numS s = true /\ e.b = true /\ (e.v.n != s.n || e.v.m != s.m) = true
   ·obtain ⟨n1,n2,n3⟩:=hn
    obtain ⟨y,hy,k1,k2,k3⟩:=h.num _ e hf n2
    obtain ⟨e',he,h1,h2,h3⟩:=h.fits y hy k1
    rw [k2,hf] at he
    cases he
    obtain ⟨g1,g2,g3⟩:=h3 k3
    refine ⟨y,hy, ?_⟩
    unfold clash agrS
    rw [n1,k3,<- g2,<- g3,n3]
    simp [k1,hk,k2]
   ·obtain ⟨y,hy,k1,k2⟩:=h.src _ e hf
    obtain ⟨e',he,h1,h2,h3⟩:=h.fits y hy k1
    rw [k2,hf] at he
    cases he
    refine ⟨y,hy, ?_⟩
    unfold clash agrS
    rw [<- h1,<- h2]
    have hb2 : (e.v.family != famS s.kind || !eqI e.v.widths (widS l s.key)) = true:=by
     rw [Bool.or_eq_true] at hb ⊢
     rcases hb with hb | hb
     ·exact .inl hb
     ·rw [Bool.or_eq_true] at hb
      rcases hb with hb | hb
      ·exact .inr hb
      ·exfalso
       apply hn
       simp only [Bool.and_eq_true] at hb
       exact ⟨hb.1,hb.2.1,hb.2.2⟩
    have hb3 : (eqI e.v.widths (widS l s.key) && e.v.family == famS s.kind) = false:=by
     generalize eqI e.v.widths (widS l s.key) = B at hb2 ⊢
     cases B
     ·rfl
     ·simp only [Bool.not_true,Bool.or_false] at hb2
      simpa using hb2
    rw [hb3]
    simp [k1,hk,k2]
theorem VInv.step {l : List Fld} {E : List VE} {p : List Stage} (h : VInv l E p) {x : Stage} {E' : List VE} (hs : vStep l E x.step = some E') : VInv l E' (p ++ [x]):=by
 unfold vStep at hs
 split at hs
 ·rename_i hk
  cases hs
  exact ⟨fun nm e he => by obtain ⟨y,hy,h1⟩:=h.src nm e he; exact ⟨y,by simp [hy],h1⟩,
   fun y hy hk2 => by
    rcases List.mem_append.1 hy with hy | hy
    ·exact h.fits y hy hk2
    ·rw [List.mem_singleton.1 hy] at hk2; exact absurd hk hk2,
   fun nm e he hb => by obtain ⟨y,hy,h1⟩:=h.num nm e he hb; exact ⟨y,by simp [hy],h1⟩⟩
 ·rename_i hk
  split at hs
  ·rename_i hf
   cases hs
   refine ⟨fun nm e he => ?_,fun y hy hk2 => ?_,fun nm e he hb => ?_⟩
   ·rw [vFind_upd] at he
    split at he
    ·rename_i hn
     exact ⟨x,by simp,hk,hn⟩
    ·obtain ⟨y,hy,h1⟩:=h.src nm e he; exact ⟨y,by simp [hy],h1⟩
   ·rw [vFind_upd]
    rcases List.mem_append.1 hy with hy | hy
    ·obtain ⟨e,he,h1⟩:=h.fits y hy hk2
     have hne : ¬ (vNew l x.step).name = y.step.var:=fun hn => by
      have hn : x.step.var = y.step.var:=hn
      rw [<- hn,hf] at he; cases he
     exact ⟨e,by rw [if_neg hne]; exact he,h1⟩
    ·rcases List.mem_singleton.1 hy with rfl
     refine ⟨_,if_pos rfl,rfl,rfl,fun hn => ⟨hn, ?_, ?_⟩⟩
     ·simp [vNew,hn]
     ·simp [vNew,hn]
   ·rw [vFind_upd] at he
    split at he
    ·rename_i hn
     cases he
     exact ⟨x,by simp,hk,hn,hb⟩
    ·obtain ⟨y,hy,h1⟩:=h.num nm e he hb; exact ⟨y,by simp [hy],h1⟩
  ·rename_i e0 hf
   split at hs
   ·cases hs
   ·rename_i hb0
    have hb0 : vBad l e0 x.step = false:=by simpa using hb0
    unfold vBad at hb0
    rw [Bool.or_eq_false_iff,Bool.or_eq_false_iff] at hb0
    obtain ⟨b1,b2,b3⟩:=hb0
    have b1 : e0.v.family = famS x.step.kind:=by simpa using b1
    have b2 : e0.v.widths = widS l x.step.key:=by simpa [eqI] using b2
    split at hs
    ·rename_i hnum
     cases hs
     refine ⟨fun nm e he => ?_,fun y hy hk2 => ?_,fun nm e he hb => ?_⟩
     ·rw [vFind_upd] at he
      split at he
      ·rename_i hn
       exact ⟨x,by simp,hk,hn⟩
      ·obtain ⟨y,hy,h1⟩:=h.src nm e he; exact ⟨y,by simp [hy],h1⟩
     ·rw [vFind_upd]
      rcases List.mem_append.1 hy with hy | hy
      ·obtain ⟨e,he,h1,h2,h3⟩:=h.fits y hy hk2
       by_cases hn : (vNew l x.step).name = y.step.var
       ·have hn2 : x.step.var = y.step.var:=hn
        rw [<- hn2,hf] at he
        cases he
        refine ⟨_,if_pos hn, ?_, ?_,fun hny => ?_⟩
        ·show famS x.step.kind = _
         rw [<- b1,h1]
        ·show widS l x.step.key = _
         rw [<- b2,h2]
        ·obtain ⟨g1,g2,g3⟩:=h3 hny
         rw [hnum,g1,g2,g3] at b3
         simp only [Bool.true_and,Bool.or_eq_false_iff,bne_eq_false_iff_eq] at b3
         refine ⟨rfl, ?_, ?_⟩
         ·simp [vNew,hnum,b3.1]
         ·simp [vNew,hnum,b3.2]
       ·exact ⟨e,by rw [if_neg hn]; exact he,h1,h2,h3⟩
      ·rcases List.mem_singleton.1 hy with rfl
       refine ⟨_,if_pos rfl,rfl,rfl,fun hn => ⟨rfl, ?_, ?_⟩⟩
       ·simp [vNew,hn]
       ·simp [vNew,hn]
     ·rw [vFind_upd] at he
      split at he
      ·rename_i hn
       exact ⟨x,by simp,hk,hn,hnum⟩
      ·obtain ⟨y,hy,h1⟩:=h.num nm e he hb; exact ⟨y,by simp [hy],h1⟩
    ·rename_i hnum
     cases hs
     refine ⟨fun nm e he => ?_,fun y hy hk2 => ?_,fun nm e he hb => ?_⟩
     ·obtain ⟨y,hy,h1⟩:=h.src nm e he; exact ⟨y,by simp [hy],h1⟩
     ·rcases List.mem_append.1 hy with hy | hy
      ·exact h.fits y hy hk2
      ·rcases List.mem_singleton.1 hy with rfl
       exact ⟨e0,hf,b1,b2,fun hn => absurd hn hnum⟩
     ·obtain ⟨y,hy,h1⟩:=h.num nm e he hb; exact ⟨y,by simp [hy],h1⟩
theorem vStep_none {l : List Fld} {E : List VE} {p : List Stage} (h : VInv l E p) (s : Stp) : (vStep l E s).isSome = !p.any (fun y => clash l y.step s):=by
 by_cases hk : s.kind = 0
 ·unfold vStep
  rw [if_pos hk]
  have : p.any (fun y => clash l y.step s) = false:=by
   rw [List.any_eq_false]; intro y _; simp [clash,hk]
  rw [this]; rfl
 ·rw [vBad_any h hk]
  unfold vStep
  rw [if_neg hk]
  cases vFind E s.var with
  | none => rfl
  | some e =>
   dsimp only
   cases vBad l e s
   ·cases numS s <;> rfl
   ·rfl
theorem vGo_typGo (l : List Fld) (p : List Stage) : ∀ (n i : Nat) (E : List VE),p.length - i = n -> VInv l E (p.take i) -> (vGo l E (p.drop i)).isSome = typGo l p i (p.drop i)
 | 0,i,E,hn,_ => by
  rw [List.drop_eq_nil_of_le (by omega)]; rfl
 | n + 1,i,E,hn,h => by
  have hlt : i < p.length:=by omega
  rw [List.drop_eq_getElem_cons hlt,vGo,typGo]
  have h1:=vStep_none h p[i].step
  cases hs : vStep l E p[i].step with
  | none =>
   rw [hs] at h1
   rw [<- h1]; rfl
  | some E' =>
   rw [hs] at h1
   rw [<- h1]
   have ht : p.take (i + 1) = p.take i ++ [p[i]]:=by rw [List.take_add_one,List.getElem?_eq_getElem hlt]; rfl
   have:=vGo_typGo l p n (i + 1) E' (by omega) (by rw [ht]; exact h.step hs)
   simpa using this
theorem vGo_typ (l : List Fld) (p : List Stage) : (vGo l [] p).isSome = typGo l p 0 p:=by
 have:=vGo_typGo l p p.length 0 [] (by omega) (by simpa using VInv.nil l)
 simpa using this
end Go.AI
namespace Go.AI
def wiresOk (t : Tenant) : Prop:=∀ w ∈ t.wires,(0 <= w.src /\ w.src <= 65535) /\ (0 <= w.dst /\ w.dst <= 65535)
theorem polGo_all (l : List Fld) : ∀ r : List Policy,polGo l r = 0 ↔ ∀ x ∈ r,polE l x = 0
 | [] => by simp [polGo]
 | x :: r => by
  rw [polGo]
  by_cases h : polE l x = 0
  ·rw [if_pos h,polGo_all l r]; simp [h]
  ·rw [if_neg h]; simp [h]
theorem fitGo_all (l : List Fld) : ∀ r : List Pred,fitGo l r = 0 ↔ ∀ x ∈ r,fitP l x = 0
 | [] => by simp [fitGo]
 | x :: r => by
  rw [fitGo]
  by_cases h : fitP l x = 0
  ·rw [if_pos h,fitGo_all l r]; simp [h]
  ·rw [if_neg h]; simp [h]
def goodP (l : List Fld) (x : Pred) : Prop:=fmP x = true /\ ∀ y ∈ ptsP x,fitP l y = 0
def goodO (l : List Fld) (x : Policy) : Prop:=fmO x = true /\ ∀ y ∈ ptsO x,polE l y = 0
theorem max_port : maxF fldPort = 65535:=by decide +kernel
theorem find_port (l : List Fld) : findF l portS = (fldPort,true):=by unfold findF; rw [if_pos rfl]
theorem fnB_port : fnB portS = true:=by unfold fnB; simp
theorem good_at (l : List Fld) {n : Int} (h1 : 0 <= n) (h2 : n <= 65535) : goodP l (bAt n):=by
 constructor
 ·rw [fmP_eq]
  unfold okP bAt
  rw [fmPs_nil]
  simp [fnB_port,w16,h1,h2]
 ·intro y hy
  rw [ptsP_eq] at hy
  have : y = bAt n:=by simpa [bAt,ptsPs_nil] using hy
  subst this
  have : ¬ (maxF fldPort < n):=by rw [max_port]; omega
  simp [fitP,bAt,find_port,this]
theorem good_false (l : List Fld) : goodP l bFalse:=by
 constructor
 ·rw [fmP_eq]
  unfold okP bFalse noneP
  rw [fmPs_nil]; simp
 ·intro y hy
  rw [ptsP_eq] at hy
  have : y = bFalse:=by simpa [bFalse,ptsPs_nil] using hy
  subst this
  simp [fitP,bFalse]
theorem good_or {l : List Fld} {x y : Pred} (hx : goodP l x) (hy : goodP l y) : goodP l (bOr x y):=by
 constructor
 ·rw [fmP_eq]
  unfold okP bOr noneP
  dsimp only
  rw [fmPs_cons,fmPs_cons,fmPs_nil,hx.1,hy.1]; simp
 ·intro z hz
  rw [ptsP_eq] at hz
  rcases List.mem_cons.1 hz with rfl | hz
  ·simp [fitP,bOr]
  ·have hz : z ∈ ptsPs [x,y]:=hz
   rw [ptsPs_cons,ptsPs_cons,ptsPs_nil] at hz
   rcases List.mem_append.1 hz with hz | hz
   ·exact hx.2 z hz
   ·exact hy.2 z (by simpa using hz)
theorem good_not {l : List Fld} {x : Pred} (hx : goodP l x) : goodP l (bNot x):=by
 constructor
 ·rw [fmP_eq]
  unfold okP bNot noneP
  dsimp only
  rw [fmPs_cons,fmPs_nil,hx.1]; simp
 ·intro z hz
  rw [ptsP_eq] at hz
  rcases List.mem_cons.1 hz with rfl | hz
  ·simp [fitP,bNot]
  ·have hz : z ∈ ptsPs [x]:=hz
   rw [ptsPs_cons,ptsPs_nil] at hz
   exact hx.2 z (by simpa using hz)
theorem good_filter {l : List Fld} {x : Pred} (hx : goodP l x) : goodO l (bFilter x):=by
 constructor
 ·rw [fmO_eq]
  unfold okO bFilter
  dsimp only
  rw [fmOs_nil,hx.1]; simp
 ·intro z hz
  rw [ptsO_eq] at hz
  have : z = bFilter x:=by simpa [bFilter,ptsOs_nil] using hz
  subst this
  show (if (1 : Int) = 1 then fitA l x else _) = 0
  rw [if_pos rfl]
  exact (fitGo_all l _).2 hx.2
theorem empty_refl : eqP Pred.z emptyPred = true:=eqP_refl _
theorem good_set (l : List Fld) {n : Int} (h1 : 0 <= n) (h2 : n <= 65535) : goodO l (bSet portS n):=by
 constructor
 ·rw [fmO_eq]
  unfold okO bSet
  dsimp only
  rw [fmOs_nil,empty_refl]; simp [fnB_port,w16,h1,h2]
 ·intro z hz
  rw [ptsO_eq] at hz
  have : z = bSet portS n:=by simpa [bSet,ptsOs_nil] using hz
  subst this
  have : ¬ (maxF fldPort < n):=by rw [max_port]; omega
  simp [polE,bSet,find_port,this]
theorem good_two {l : List Fld} {x y : Policy} (hx : goodO l x) (hy : goodO l y) {k : Int} (hk : k = 3 \/ k = 4) : goodO l ⟨k,Pred.z,⟨#[]⟩,0,[x,y]⟩:=by
 constructor
 ·rw [fmO_eq]
  unfold okO
  dsimp only
  rw [fmOs_cons,fmOs_cons,fmOs_nil,hx.1,hy.1,empty_refl]
  rcases hk with rfl | rfl <;> simp
 ·intro z hz
  rw [ptsO_eq] at hz
  rcases List.mem_cons.1 hz with rfl | hz
  ·rcases hk with rfl | rfl <;> simp [polE]
  ·have hz : z ∈ ptsOs [x,y]:=hz
   rw [ptsOs_cons,ptsOs_cons,ptsOs_nil] at hz
   rcases List.mem_append.1 hz with hz | hz
   ·exact hx.2 z hz
   ·exact hy.2 z (by simpa using hz)
theorem good_union {l : List Fld} {x y : Policy} (hx : goodO l x) (hy : goodO l y) : goodO l (bUnion x y):=good_two hx hy (.inl rfl)
theorem good_seq {l : List Fld} {x y : Policy} (hx : goodO l x) (hy : goodO l y) : goodO l (bSeq x y):=good_two hx hy (.inr rfl)
theorem good_star {l : List Fld} {x : Policy} (hx : goodO l x) : goodO l (bStar x):=by
 constructor
 ·rw [fmO_eq]
  unfold okO bStar
  dsimp only
  rw [fmOs_cons,fmOs_nil,hx.1,empty_refl]; simp
 ·intro z hz
  rw [ptsO_eq] at hz
  rcases List.mem_cons.1 hz with rfl | hz
  ·simp [polE,bStar]
  ·have hz : z ∈ ptsOs [x]:=hz
   rw [ptsOs_cons,ptsOs_nil] at hz
   exact hx.2 z (by simpa using hz)
theorem good_fold {α : Type} {p : α -> Prop} {two : α -> α -> α} (h2 : ∀ x y,p x -> p y -> p (two x y)) : ∀ (l : List α) (x : α),p x -> (∀ y ∈ l,p y) -> p (l.foldl two x)
 | [],x,hx,_ => hx
 | y :: l,x,hx,h => good_fold h2 l (two x y) (h2 x y hx (h y (by simp))) fun z hz => h z (by simp [hz])
theorem good_join {α : Type} {p : α -> Prop} {two : α -> α -> α} {z : α} (h2 : ∀ x y,p x -> p y -> p (two x y)) (hz : p z) {l : List α} (h : ∀ y ∈ l,p y) : p (joinL z two l):=by
 cases l with
 | nil => exact hz
 | cons x l => exact good_fold h2 l x (h x (by simp)) fun y hy => h y (by simp [hy])
theorem good_closed {l : List Fld} {t : Tenant} {p : Policy} (hw : wiresOk t) (hp : goodO l p) : goodO l (bClosed t p):=by
 unfold bClosed
 split
 ·exact hp
 ·have h1 : goodP l (bWired t):=good_join (p:=goodP l) (two:=bOr) (fun _ _ => good_or) (good_false l) fun y hy => by
   obtain ⟨w,hm,rfl⟩:=List.mem_map.1 hy
   exact good_at l (hw w hm).1.1 (hw w hm).1.2
  have h2 : goodO l (bWires t):=good_join (p:=goodO l) (two:=bUnion) (fun _ _ => good_union) (good_filter (good_false l)) fun y hy => by
   obtain ⟨w,hm,rfl⟩:=List.mem_map.1 hy
   exact good_seq (good_filter (good_at l (hw w hm).1.1 (hw w hm).1.2)) (good_set l (hw w hm).2.1 (hw w hm).2.2)
  exact good_seq (good_seq hp (good_star (good_seq h2 hp))) (good_filter (good_not h1))
theorem ckTO_good {l : List Fld} {x : Policy} (h : ckTO l x = 0) : ckO x = 0 /\ goodO l x:=by
 unfold ckTO at h
 split at h
 ·rename_i h0
  refine ⟨h0, ?_,(polGo_all l _).1 h⟩
  unfold ckO fmE at h0
  split at h0
  ·split at h0
   ·assumption
   ·cases h0
  ·rename_i hl; exact absurd h0 hl
 ·rename_i hn; exact absurd h hn
theorem stGo_all (l : List Fld) : ∀ r : List Stage,stGo l r = 0 ↔ ∀ x ∈ r,ckTO l x.policy = 0 /\ ckTS l x.step = 0
 | [] => by simp [stGo]
 | x :: r => by
  rw [stGo]
  by_cases h : ckTO l x.policy = 0
  ·rw [if_pos h]
   by_cases h2 : ckTS l x.step = 0
   ·rw [if_pos h2,stGo_all l r]; simp [h,h2]
   ·rw [if_neg h2]; simp [h2]
  ·rw [if_neg h]; simp [h]
theorem ckGo_all : ∀ r : List Stage,ckGo r = 0 ↔ ∀ x ∈ r,ckO x.policy = 0 /\ ckS x.step = 0
 | [] => by simp [ckGo]
 | x :: r => by
  rw [ckGo]
  by_cases h : ckO x.policy = 0
  ·rw [if_pos h]
   by_cases h2 : ckS x.step = 0
   ·rw [if_pos h2,ckGo_all r]; simp [h,h2]
   ·rw [if_neg h2]; simp [h2]
  ·rw [if_neg h]; simp [h]
theorem ckT_0 {l : List Fld} {p : List Stage} (h : ckT l p = 0) : p.length <= 8 /\ (∀ x ∈ p,ckO x.policy = 0 /\ ckS x.step = 0) /\ (∀ x ∈ p,ckTO l x.policy = 0 /\ ckTS l x.step = 0) /\ (vGo l [] p).isSome = true:=by
 unfold ckT at h
 split at h
 ·rename_i hn; exact absurd h hn
 ·rename_i h1
  split at h
  ·rename_i hn; exact absurd h hn
  ·rename_i h2
   split at h
   ·rename_i h3
    have h1 : ckG p = 0:=by simpa using h1
    have h2 : stGo l p = 0:=by simpa using h2
    unfold ckG at h1
    split at h1
    ·cases h1
    ·rename_i hl
     exact ⟨by omega,(ckGo_all p).1 h1,(stGo_all l p).1 h2,by rw [vGo_typ]; exact h3⟩
   ·cases h
theorem right_fits {s : Setup} {t : Tenant} (h : rightT s t = true) : wiresOk t /\ ckT s.fields t.program = 0:=by
 unfold rightT at h
 simp only [Bool.and_eq_true,beq_iff_eq] at h
 obtain ⟨_,_,_,_,h1⟩:=h
 unfold ck18 at h1
 split at h1
 ·cases h1
 ·rename_i hlim
  split at h1
  ·rename_i hne; exact absurd h1 hne
  ·rename_i hpo
   split at h1
   ·rename_i hne; exact absurd h1 hne
   ·rename_i hpr
    have hpo : ckPo s t = 0:=by simpa using hpo
    have hpr : ckPr s t = 0:=by simpa using hpr
    constructor
    ·intro w hw
     have hok : okAll (pwr t) qwr t.wires = true:=by
      unfold ckPo at hpo
      split at hpo
      ·cases hpo
      split at hpo
      ·cases hpo
      split at hpo
      ·cases hpo
      split at hpo
      ·cases hpo
      ·rename_i hne; simpa using hne
     obtain ⟨k,hk⟩:=List.getElem?_of_mem hw
     have:=(okAll_spec hok k w hk).1
     unfold pwr innerB isPortB at this
     simp only [Bool.and_eq_true,decide_eq_true_eq] at this
     omega
    ·unfold ckPr at hpr
     split at hpr
     ·rename_i hne; exact absurd hpr hne
     ·rename_i hne; simpa using hne
end Go.AI
namespace Go.AI
theorem Head.l_inj {a b : Head} (h : a.l = b.l) : a = b:=by
 cases a; cases b
 simp only [Head.l,List.cons.injEq,and_true] at h
 simp [h]
def cmpI : List Int -> List Int -> Int
 | [],[] => 0
 | [],_ :: _ => -1
 | _ :: _,[] => 1
 | x :: a,y :: b => if x < y then -1 else if y < x then 1 else cmpI a b
def cmpH (a b : Head) : Int:=cmpI a.l b.l
theorem cmpI_self : ∀ a : List Int,cmpI a a = 0
 | [] => rfl
 | x :: a => by rw [cmpI,if_neg (by omega),if_neg (by omega),cmpI_self a]
theorem cmpI_eq : ∀ {a b : List Int},cmpI a b = 0 -> a = b
 | [],[],_ => rfl
 | [],_ :: _,h => by simp [cmpI] at h
 | _ :: _,[],h => by simp [cmpI] at h
 | x :: a,y :: b,h => by
  rw [cmpI] at h
  split at h
  ·cases h
  ·split at h
   ·cases h
   ·have : x = y:=by omega
    rw [this,cmpI_eq h]
theorem cmpI_neg : ∀ a b : List Int,cmpI a b = - cmpI b a
 | [],[] => rfl
 | [],_ :: _ => rfl
 | _ :: _,[] => rfl
 | x :: a,y :: b => by
  rw [cmpI,cmpI]
  by_cases h1 : x < y
  ·rw [if_pos h1,if_neg (by omega),if_pos h1]
  ·by_cases h2 : y < x
   ·rw [if_neg h1,if_pos h2,if_pos h2]; rfl
   ·rw [if_neg h1,if_neg h2,if_neg h2,if_neg h1,cmpI_neg a b]
theorem cmpI_trans : ∀ {a b c : List Int},cmpI a b < 0 -> cmpI b c < 0 -> cmpI a c < 0
 | [],[],_,h,_ => by simp [cmpI] at h
 | [],_ :: _,[],_,h => by simp [cmpI] at h
 | [],_ :: _,_ :: _,_,_ => by simp [cmpI]
 | _ :: _,[],_,h,_ => by simp [cmpI] at h
 | _ :: _,_ :: _,[],_,h => by simp [cmpI] at h
 | x :: a,y :: b,z :: c,h1,h2 => by
  rw [cmpI] at h1 h2 ⊢
  by_cases hxy : x < y
  ·by_cases hyz : y < z
   ·rw [if_pos (by omega)]; decide
   ·rw [if_neg hyz] at h2
    by_cases hzy : z < y
    ·rw [if_pos hzy] at h2; simp at h2
    ·rw [if_pos (by omega)]; decide
  ·rw [if_neg hxy] at h1
   by_cases hyx : y < x
   ·rw [if_pos hyx] at h1; simp at h1
   ·rw [if_neg hyx] at h1
    have : x = y:=by omega
    subst this
    by_cases hyz : x < z
    ·rw [if_pos hyz]; decide
    ·rw [if_neg hyz] at h2 ⊢
     by_cases hzy : z < x
     ·rw [if_pos hzy] at h2; simp at h2
     ·rw [if_neg hzy] at h2 ⊢
      exact cmpI_trans h1 h2
theorem cmpH_self (a : Head) : cmpH a a = 0:=cmpI_self _
theorem cmpH_eq {a b : Head} (h : cmpH a b = 0) : a = b:=Head.l_inj (cmpI_eq h)
theorem cmpH_neg (a b : Head) : cmpH a b = - cmpH b a:=cmpI_neg _ _
theorem cmpH_trans {a b c : Head} (h1 : cmpH a b < 0) (h2 : cmpH b c < 0) : cmpH a c < 0:=cmpI_trans h1 h2
def srtH (l : List Head) : Prop:=l.Pairwise fun a b => cmpH a b < 0
theorem srtH_nil : srtH []:=.nil
theorem srtH_one (h : Head) : srtH [h]:=List.pairwise_singleton _ _
theorem srt_ext : ∀ {a b : List Head},srtH a -> srtH b -> (∀ x,x ∈ a ↔ x ∈ b) -> a = b
 | [],[],_,_,_ => rfl
 | [],y :: b,_,_,h => by have:=(h y).2 (by simp); cases this
 | x :: a,[],_,_,h => by have:=(h x).1 (by simp); cases this
 | x :: a,y :: b,h1,h2,h => by
  obtain ⟨g1,g2⟩:=List.pairwise_cons.1 h1
  obtain ⟨g3,g4⟩:=List.pairwise_cons.1 h2
  have hxy : x = y:=by
   rcases List.mem_cons.1 ((h x).1 (by simp)) with e | e
   ·exact e
   ·rcases List.mem_cons.1 ((h y).2 (by simp)) with e2 | e2
    ·exact e2.symm
    ·have h3:=g3 x e
     have h4:=g1 y e2
     have:=cmpH_neg x y
     omega
  subst hxy
  congr 1
  refine srt_ext g2 g4 fun z => ⟨fun hz => ?_,fun hz => ?_⟩
  ·rcases List.mem_cons.1 ((h z).1 (by simp [hz])) with e | e
   ·subst e; have:=g1 z hz; rw [cmpH_self] at this; omega
   ·exact e
  ·rcases List.mem_cons.1 ((h z).2 (by simp [hz])) with e | e
   ·subst e; have:=g3 z hz; rw [cmpH_self] at this; omega
   ·exact e
def putH (h : Head) : List Head -> List Head
 | [] => [h]
 | x :: r => if cmpH x h < 0 then x :: putH h r else if x = h then x :: r else h :: x :: r
def mergeH (a b : List Head) : List Head:=b.foldl (fun o x => putH x o) a
theorem mem_putH (h z : Head) : ∀ l : List Head,z ∈ putH h l ↔ z = h \/ z ∈ l
 | [] => by simp [putH]
 | x :: r => by
  rw [putH]
  split
  ·rw [List.mem_cons,mem_putH h z r,List.mem_cons]
   constructor
   ·rintro (e | e | e)
    ·exact .inr (.inl e)
    ·exact .inl e
    ·exact .inr (.inr e)
   ·rintro (e | e | e)
    ·exact .inr (.inl e)
    ·exact .inl e
    ·exact .inr (.inr e)
  ·split
   ·rename_i e
    subst e
    simp
   ·simp
theorem srt_putH (h : Head) : ∀ {l : List Head},srtH l -> srtH (putH h l)
 | [],_ => srtH_one h
 | x :: r,hs => by
  obtain ⟨g1,g2⟩:=List.pairwise_cons.1 hs
  rw [putH]
  split
  ·rename_i hlt
   refine List.pairwise_cons.2 ⟨fun z hz => ?_,srt_putH h g2⟩
   rcases (mem_putH h z r).1 hz with e | e
   ·rw [e]; exact hlt
   ·exact g1 z e
  ·rename_i hlt
   split
   ·exact hs
   ·rename_i hne
    have hx : cmpH h x < 0:=by
     have h1:=cmpH_neg h x
     have : cmpH x h ≠ 0:=fun e => hne (cmpH_eq e)
     omega
    refine List.pairwise_cons.2 ⟨fun z hz => ?_,hs⟩
    rcases List.mem_cons.1 hz with e | e
    ·rw [e]; exact hx
    ·exact cmpH_trans hx (g1 z e)
theorem putH_len (h : Head) : ∀ l : List Head,l.length <= (putH h l).length /\ (putH h l).length <= l.length + 1
 | [] => by simp [putH]
 | x :: r => by
  have:=putH_len h r
  rw [putH]
  split
  ·simp only [List.length_cons]; omega
  ·split <;> simp
theorem mem_mergeH (z : Head) : ∀ (b a : List Head),z ∈ mergeH a b ↔ z ∈ a \/ z ∈ b
 | [],a => by simp [mergeH]
 | x :: b,a => by
  have:=mem_mergeH z b (putH x a)
  unfold mergeH at this ⊢
  rw [List.foldl_cons,this,mem_putH,List.mem_cons]
  constructor
  ·rintro ((e | e) | e)
   ·exact .inr (.inl e)
   ·exact .inl e
   ·exact .inr (.inr e)
  ·rintro (e | e | e)
   ·exact .inl (.inr e)
   ·exact .inl (.inl e)
   ·exact .inr e
theorem srt_mergeH : ∀ (b : List Head) {a : List Head},srtH a -> srtH (mergeH a b)
 | [],_,h => h
 | x :: b,a,h => srt_mergeH b (a:=putH x a) (srt_putH x h)
theorem mergeH_len : ∀ (b a : List Head),a.length <= (mergeH a b).length /\ (mergeH a b).length <= a.length + b.length
 | [],a => by simp [mergeH]
 | x :: b,a => by
  have h1:=mergeH_len b (putH x a)
  have h2:=putH_len x a
  unfold mergeH at h1 ⊢
  rw [List.foldl_cons,List.length_cons]
  omega
def mrgGo : Nat -> List Head -> List Head -> List Head
 | 0,_,_ => []
 | _ + 1,[],b => b
 | _ + 1,a,[] => a
 | n + 1,x :: a,y :: b => if cmpH x y < 0 then x :: mrgGo n a (y :: b) else if cmpH x y = 0 then y :: mrgGo n a b else y :: mrgGo n (x :: a) b
def mrgH (a b : List Head) : List Head:=mrgGo (a.length + b.length + 1) a b
theorem mem_mrgGo (z : Head) : ∀ (n : Nat) (a b : List Head),a.length + b.length < n -> (z ∈ mrgGo n a b ↔ z ∈ a \/ z ∈ b)
 | 0,a,b,h => by omega
 | n + 1,[],b,_ => by simp [mrgGo]
 | n + 1,x :: a,[],_ => by simp [mrgGo]
 | n + 1,x :: a,y :: b,h => by
  simp only [List.length_cons] at h
  rw [mrgGo]
  split
  ·rw [List.mem_cons,mem_mrgGo z n a (y :: b) (by simp; omega),List.mem_cons (l:=a)]
   constructor
   ·rintro (e | e | e)
    ·exact .inl (.inl e)
    ·exact .inl (.inr e)
    ·exact .inr e
   ·rintro ((e | e) | e)
    ·exact .inl e
    ·exact .inr (.inl e)
    ·exact .inr (.inr e)
  ·split
   ·rename_i he
    have hxy:=cmpH_eq he
    subst hxy
    rw [List.mem_cons,mem_mrgGo z n a b (by omega),List.mem_cons,List.mem_cons]
    constructor
    ·rintro (e | e | e)
     ·exact .inl (.inl e)
     ·exact .inl (.inr e)
     ·exact .inr (.inr e)
    ·rintro ((e | e) | (e | e))
     ·exact .inl e
     ·exact .inr (.inl e)
     ·exact .inl e
     ·exact .inr (.inr e)
   ·rw [List.mem_cons,mem_mrgGo z n (x :: a) b (by simp; omega),List.mem_cons (l:=b)]
    constructor
    ·rintro (e | e | e)
     ·exact .inr (.inl e)
     ·exact .inl e
     ·exact .inr (.inr e)
    ·rintro (e | e | e)
     ·exact .inr (.inl e)
     ·exact .inl e
     ·exact .inr (.inr e)
theorem srt_mrgGo : ∀ (n : Nat) (a b : List Head),a.length + b.length < n -> srtH a -> srtH b -> srtH (mrgGo n a b)
 | 0,a,b,h,_,_ => by omega
 | n + 1,[],b,_,_,hb => by simpa [mrgGo] using hb
 | n + 1,x :: a,[],_,ha,_ => by simpa [mrgGo] using ha
 | n + 1,x :: a,y :: b,h,ha,hb => by
  simp only [List.length_cons] at h
  obtain ⟨g1,g2⟩:=List.pairwise_cons.1 ha
  obtain ⟨g3,g4⟩:=List.pairwise_cons.1 hb
  rw [mrgGo]
  split
  ·rename_i hlt
   refine List.pairwise_cons.2 ⟨fun z hz => ?_,srt_mrgGo n a (y :: b) (by simp; omega) g2 hb⟩
   rcases (mem_mrgGo z n a (y :: b) (by simp; omega)).1 hz with e | e
   ·exact g1 z e
   ·rcases List.mem_cons.1 e with e | e
    ·rw [e]; exact hlt
    ·exact cmpH_trans hlt (g3 z e)
  ·rename_i hlt
   split
   ·rename_i he
    have hxy:=cmpH_eq he
    subst hxy
    refine List.pairwise_cons.2 ⟨fun z hz => ?_,srt_mrgGo n a b (by omega) g2 g4⟩
    rcases (mem_mrgGo z n a b (by omega)).1 hz with e | e
    ·exact g1 z e
    ·exact g3 z e
   ·rename_i hne
    have hyx : cmpH y x < 0:=by have:=cmpH_neg x y; omega
    refine List.pairwise_cons.2 ⟨fun z hz => ?_,srt_mrgGo n (x :: a) b (by simp; omega) ha g4⟩
    rcases (mem_mrgGo z n (x :: a) b (by simp; omega)).1 hz with e | e
    ·rcases List.mem_cons.1 e with e | e
     ·rw [e]; exact hyx
     ·exact cmpH_trans hyx (g1 z e)
    ·exact g3 z e
theorem mrgH_eq {a b : List Head} (ha : srtH a) (hb : srtH b) : mrgH a b = mergeH a b :=
 srt_ext (srt_mrgGo _ a b (by omega) ha hb) (srt_mergeH b ha) fun z => by rw [mrgH,mem_mrgGo z _ a b (by omega),mem_mergeH]
def imgGo (f : Head -> Option (List Head)) : List Head -> List Head -> Option (List Head)
 | o,[] => some o
 | o,x :: r => match f x with
  | none => none
  | some a => if 256 < (mergeH o a).length then none else imgGo f (mergeH o a) r
def newH (o n : List Head) : List Head:=n.filter fun x => !o.any fun y => decide (y = x)
def cloGo (f : Head -> Option (List Head)) : Nat -> List Head -> List Head -> Option (List Head)
 | 0,_,_ => none
 | k + 1,o,n => if n = [] then some o else match imgGo f [] n with
  | none => none
  | some m => if 256 < (mergeH o (newH o m)).length then none else cloGo f k (mergeH o (newH o m)) (newH o m)
end Go.AI
namespace Go.AI
def wordAt (h : Head) (k : Nat) : Int:=(h.l[k]?).getD 0
def setW (h : Head) (k : Nat) (v : Int) : Head :=
 ⟨if k = 0 then v else h.h0,if k = 1 then v else h.h1,if k = 2 then v else h.h2,if k = 3 then v else h.h3,if k = 4 then v else h.h4,if k = 5 then v else h.h5,if k = 6 then v else h.h6,if k = 7 then v else h.h7,if k = 8 then v else h.h8,if k = 9 then v else h.h9⟩
def okFld (f : Fld) : Prop:=1 <= f.width /\ f.width <= 16 /\ 0 <= f.at_ /\ f.at_ <= 143 /\ f.at_ % 16 + f.width <= 16
def fK (f : Fld) : Nat:=(f.at_ / 16).toNat
def fS (f : Fld) : Nat:=(16 - f.at_ % 16 - f.width).toNat
def fW (f : Fld) : Nat:=f.width.toNat
def getN (f : Fld) (h : Head) : Nat:=(wordAt h (fK f)).toNat / 2 ^ fS f % 2 ^ fW f
def setN (f : Fld) (h : Head) (n : Nat) : Head:=setW h (fK f) ((((wordAt h (fK f)).toNat ^^^ ((wordAt h (fK f)).toNat &&& ((2 ^ fW f - 1) <<< fS f))) ||| (n <<< fS f) : Nat) : Int)
theorem okFld_dims {f : Fld} (h : okFld f) : fK f <= 8 /\ fS f + fW f <= 16 /\ 1 <= fW f:=by
 unfold okFld at h
 unfold fK fS fW
 omega
theorem rightH_word {h : Head} (hr : rightH h = true) (k : Nat) : 0 <= wordAt h k /\ wordAt h k <= 65535:=by
 unfold rightH at hr
 unfold wordAt
 cases hk : h.l[k]? with
 | none => simp
 | some v =>
  have:=List.all_eq_true.1 hr v (List.mem_of_getElem? hk)
  simpa [wordB16] using this
theorem l_setW (h : Head) (k : Nat) (v : Int) : (setW h k v).l = h.l.set k v:=by
 match k with
 | 0 => rfl
 | 1 => rfl
 | 2 => rfl
 | 3 => rfl
 | 4 => rfl
 | 5 => rfl
 | 6 => rfl
 | 7 => rfl
 | 8 => rfl
 | 9 => rfl
 | n + 10 => rfl
theorem rightH_setW {h : Head} (hr : rightH h = true) (k : Nat) {v : Int} (h0 : 0 <= v) (h1 : v <= 65535) : rightH (setW h k v) = true:=by
 unfold rightH at hr ⊢
 rw [l_setW,List.all_eq_true]
 intro x hx
 rcases List.mem_or_eq_of_mem_set hx with hx | rfl
 ·exact List.all_eq_true.1 hr x hx
 ·simp [wordB16,h0,h1]
theorem bits_low {W M : Nat} (hW : W < 65536) (hM : M < 65536) : W ^^^ (W &&& M) < 65536:=Nat.xor_lt_two_pow (n:=16) hW (Nat.and_lt_two_pow _ hM)
theorem tb_part {s w hi n lo : Nat} (hl : lo < 2 ^ s) (hn : n < 2 ^ w) (i : Nat) : (2 ^ (s + w) * hi + (2 ^ s * n + lo)).testBit i = if i < s then lo.testBit i else if i < s + w then n.testBit (i - s) else hi.testBit (i - (s + w)):=by
 have h1 : 2 ^ s * n + lo < 2 ^ (s + w):=by
  have : 2 ^ s * n + 2 ^ s <= 2 ^ s * 2 ^ w:=by rw [<- Nat.mul_succ]; exact Nat.mul_le_mul_left _ hn
  rw [Nat.pow_add]; omega
 rw [Nat.testBit_two_pow_mul_add _ h1,Nat.testBit_two_pow_mul_add _ hl]
 by_cases g1 : i < s
 ·rw [if_pos (by omega),if_pos g1,if_pos g1]
 ·rw [if_neg g1,if_neg g1]
theorem tb_mask (s w i : Nat) : ((2 ^ w - 1) <<< s).testBit i = (decide (s <= i) && decide (i - s < w)):=by
 rw [Nat.testBit_shiftLeft,Nat.testBit_two_pow_sub_one]
theorem word_parts (W s w : Nat) : W = 2 ^ (s + w) * (W / 2 ^ (s + w)) + (2 ^ s * (W / 2 ^ s % 2 ^ w) + W % 2 ^ s):=by
 have h1:=Nat.div_add_mod W (2 ^ (s + w))
 have h2 : W % 2 ^ (s + w) = 2 ^ s * (W / 2 ^ s % 2 ^ w) + W % 2 ^ s:=by
  rw [Nat.pow_add,Nat.mod_mul]; omega
 omega
theorem set_parts {W s w n : Nat} (hn : n < 2 ^ w) : (W ^^^ (W &&& ((2 ^ w - 1) <<< s))) ||| (n <<< s) = 2 ^ (s + w) * (W / 2 ^ (s + w)) + (2 ^ s * n + W % 2 ^ s):=by
 apply Nat.eq_of_testBit_eq
 intro i
 have hlo : W % 2 ^ s < 2 ^ s:=Nat.mod_lt _ (Nat.two_pow_pos s)
 have hmid : W / 2 ^ s % 2 ^ w < 2 ^ w:=Nat.mod_lt _ (Nat.two_pow_pos w)
 have hWi : W.testBit i = if i < s then (W % 2 ^ s).testBit i else if i < s + w then (W / 2 ^ s % 2 ^ w).testBit (i - s) else (W / 2 ^ (s + w)).testBit (i - (s + w)):=by
  rw [<- tb_part hlo hmid i,<- word_parts W s w]
 rw [tb_part hlo hn,Nat.testBit_or,Nat.testBit_xor,Nat.testBit_and,tb_mask,Nat.testBit_shiftLeft,hWi]
 by_cases g1 : i < s
 ·rw [if_pos g1,if_pos g1]
  have : ¬ s <= i:=by omega
  simp [this]
 ·rw [if_neg g1,if_neg g1]
  by_cases g2 : i < s + w
  ·rw [if_pos g2,if_pos g2]
   have e1 : decide (s <= i) = true:=by simp; omega
   have e2 : decide (i - s < w) = true:=by simp; omega
   rw [e1,e2]
   simp
  ·rw [if_neg g2,if_neg g2]
   have e2 : decide (i - s < w) = false:=by simp; omega
   have e3 : n.testBit (i - s) = false:=Nat.testBit_lt_two_pow (Nat.lt_of_lt_of_le hn (Nat.pow_le_pow_right (by decide) (by omega)))
   rw [e2,e3]
   simp
theorem set_add {W s w n : Nat} (hn : n < 2 ^ w) : ((W : Int) + ((n : Int) - ((W / 2 ^ s % 2 ^ w : Nat) : Int)) * ((2 ^ s : Nat) : Int)) = (((W ^^^ (W &&& ((2 ^ w - 1) <<< s))) ||| (n <<< s) : Nat) : Int):=by
 rw [set_parts hn]
 have h:=word_parts W s w
 generalize W / 2 ^ s % 2 ^ w = m at h ⊢
 generalize W / 2 ^ (s + w) = hi at h ⊢
 generalize hlo : W % 2 ^ s = lo at h ⊢
 have h2 : (W : Int) = ((2 ^ (s + w) * hi + (2 ^ s * m + lo) : Nat) : Int):=by rw [<- h]
 rw [h2]
 generalize 2 ^ (s + w) = A
 generalize 2 ^ s = B
 push_cast
 have : ((n : Int) - (m : Int)) * (B : Int) = (B : Int) * (n : Int) - (B : Int) * (m : Int):=by rw [Int.sub_mul,Int.mul_comm,Int.mul_comm (m : Int)]
 omega
theorem set_lt {W s w n : Nat} (hW : W < 65536) (hn : n < 2 ^ w) (hsw : s + w <= 16) : (W ^^^ (W &&& ((2 ^ w - 1) <<< s))) ||| (n <<< s) < 65536:=by
 refine Nat.or_lt_two_pow (n:=16) (Nat.xor_lt_two_pow (n:=16) hW (Nat.lt_of_le_of_lt Nat.and_le_left hW)) ?_
 rw [Nat.shiftLeft_eq]
 calc n * 2 ^ s < 2 ^ w * 2 ^ s:=Nat.mul_lt_mul_of_pos_right hn (Nat.two_pow_pos s)
  _ = 2 ^ (s + w):=by rw [Nat.add_comm,Nat.pow_add]
  _ <= 2 ^ 16:=Nat.pow_le_pow_right (by decide) hsw
end Go.AI
namespace Go.AI
theorem wordAt_setW (h : Head) (k j : Nat) (v : Int) (hk : k < 10) : wordAt (setW h k v) j = if j = k then v else wordAt h j:=by
 unfold wordAt
 rw [l_setW,List.getElem?_set]
 by_cases e : k = j
 ·subst e
  rw [if_pos rfl,if_pos (by simpa [Head.l] using hk),if_pos rfl]; rfl
 ·rw [if_neg e,if_neg (fun c => e c.symm)]
theorem wordAt_z (j : Nat) : wordAt Head.z j = 0:=by
 match j with
 | 0 | 1 | 2 | 3 | 4 | 5 | 6 | 7 | 8 | 9 => rfl
 | n + 10 => rfl
theorem head_ext {a b : Head} (h : ∀ k,k < 10 -> wordAt a k = wordAt b k) : a = b:=by
 apply Head.l_inj
 apply List.ext_getElem?
 intro k
 by_cases hk : k < 10
 ·have:=h k hk
  unfold wordAt at this
  have la : a.l.length = 10:=rfl
  have lb : b.l.length = 10:=rfl
  rw [List.getElem?_eq_getElem (by omega),List.getElem?_eq_getElem (by omega)] at this ⊢
  simpa using this
 ·rw [List.getElem?_eq_none (by show 10 <= k; omega),List.getElem?_eq_none (by show 10 <= k; omega)]
def maskN (w m : Nat) : Nat:=(2 ^ w - 1) ^^^ ((2 ^ w - 1) &&& (2 ^ (w - m) - 1))
theorem maskN_bit (w m j : Nat) : (maskN w m).testBit j = (decide (w - m <= j) && decide (j < w)):=by
 unfold maskN
 rw [Nat.testBit_xor,Nat.testBit_and,Nat.testBit_two_pow_sub_one,Nat.testBit_two_pow_sub_one]
 by_cases h1 : j < w <;> by_cases h2 : j < w - m <;> simp [h1,h2] <;> omega
theorem maskN_lt (w m : Nat) : maskN w m < 2 ^ w:=by
 have : 0 < 2 ^ w:=Nat.two_pow_pos w
 exact Nat.xor_lt_two_pow (by omega) (Nat.lt_of_le_of_lt Nat.and_le_left (by omega))
theorem maskN_full (w : Nat) : maskN w w = 2 ^ w - 1:=by
 unfold maskN
 rw [Nat.sub_self]; simp
def patN (f : Fld) (n m : Nat) : Pat:=⟨setN f Head.z (maskN (fW f) m),setN f Head.z (n &&& maskN (fW f) m)⟩
def matchB (p : Pat) (h : Head) : Bool:=(List.range 10).all fun i => (((wordAt p.bits i).toNat ^^^ (wordAt h i).toNat) &&& (wordAt p.mask i).toNat) == 0
def applyW (p : Pat) (h : Head) (i : Nat) : Int:=((((wordAt h i).toNat ^^^ ((wordAt h i).toNat &&& (wordAt p.mask i).toNat)) ||| (wordAt p.bits i).toNat : Nat) : Int)
def applyH (p : Pat) (h : Head) : Head:=⟨applyW p h 0,applyW p h 1,applyW p h 2,applyW p h 3,applyW p h 4,applyW p h 5,applyW p h 6,applyW p h 7,applyW p h 8,applyW p h 9⟩
theorem setN_z (f : Fld) (hf : okFld f) (v j : Nat) : wordAt (setN f Head.z v) j = if j = fK f then ((v <<< fS f : Nat) : Int) else 0:=by
 have hd:=okFld_dims hf
 unfold setN
 rw [wordAt_setW _ _ _ _ (by omega),wordAt_z,wordAt_z]
 split <;> simp
theorem div_eq_bits {a b w k : Nat} (ha : a < 2 ^ w) (hb : b < 2 ^ w) : a / 2 ^ k = b / 2 ^ k ↔ ∀ j,k <= j -> j < w -> a.testBit j = b.testBit j:=by
 constructor
 ·intro h j h1 _
  have e : j = (j - k) + k:=by omega
  rw [e,<- Nat.testBit_div_two_pow,<- Nat.testBit_div_two_pow,h]
 ·intro h
  apply Nat.eq_of_testBit_eq
  intro i
  rw [Nat.testBit_div_two_pow,Nat.testBit_div_two_pow]
  by_cases hw : i + k < w
  ·exact h _ (by omega) hw
  ·rw [Nat.testBit_lt_two_pow (Nat.lt_of_lt_of_le ha (Nat.pow_le_pow_right (by decide) (by omega))),Nat.testBit_lt_two_pow (Nat.lt_of_lt_of_le hb (Nat.pow_le_pow_right (by decide) (by omega)))]
theorem getN_bit (f : Fld) (h : Head) (j : Nat) (hj : j < fW f) : (getN f h).testBit j = (wordAt h (fK f)).toNat.testBit (fS f + j):=by
 unfold getN
 rw [Nat.testBit_mod_two_pow,Nat.testBit_div_two_pow,Nat.add_comm]
 simp [hj]
theorem getN_lt (f : Fld) (h : Head) : getN f h < 2 ^ fW f:=Nat.mod_lt _ (Nat.two_pow_pos _)
theorem match_pat {f : Fld} (hf : okFld f) {n m : Nat} (hn : n < 2 ^ fW f) (hm : m <= fW f) (h : Head) : matchB (patN f n m) h = decide (getN f h / 2 ^ (fW f - m) = n / 2 ^ (fW f - m)):=by
 have hd:=okFld_dims hf
 rw [Bool.eq_iff_iff,decide_eq_true_eq,div_eq_bits (getN_lt f h) hn]
 unfold matchB patN
 rw [List.all_eq_true]
 constructor
 ·intro hall j h1 h2
  have:=hall (fK f) (by rw [List.mem_range]; omega)
  rw [setN_z f hf,setN_z f hf,if_pos rfl,if_pos rfl,beq_iff_eq,Int.toNat_natCast,Int.toNat_natCast] at this
  have hb : ((((n &&& maskN (fW f) m) <<< fS f) ^^^ (wordAt h (fK f)).toNat) &&& (maskN (fW f) m <<< fS f)).testBit (fS f + j) = false:=by rw [this]; simp
  rw [Nat.testBit_and,Nat.testBit_xor,Nat.testBit_shiftLeft,Nat.testBit_shiftLeft,Nat.testBit_and] at hb
  have e1 : decide (fS f <= fS f + j) = true:=by simp
  have e2 : fS f + j - fS f = j:=by omega
  have e3 : (maskN (fW f) m).testBit j = true:=by rw [maskN_bit]; simp; omega
  rw [e1,e2,e3] at hb
  rw [getN_bit f h j h2]
  simp only [Bool.and_true,Bool.true_and,bne_eq_false_iff_eq] at hb
  exact hb.symm
 ·intro hbits i hi
  rw [setN_z f hf,setN_z f hf]
  by_cases e : i = fK f
  ·subst e
   rw [if_pos rfl,if_pos rfl,beq_iff_eq,Int.toNat_natCast,Int.toNat_natCast]
   apply Nat.eq_of_testBit_eq
   intro i
   rw [Nat.testBit_and,Nat.testBit_xor,Nat.testBit_shiftLeft,Nat.testBit_shiftLeft,Nat.testBit_and,maskN_bit]
   by_cases g0 : fS f <= i
   ·by_cases g1 : fW f - m <= i - fS f /\ i - fS f < fW f
    ·have hb:=hbits (i - fS f) g1.1 g1.2
     rw [getN_bit f h _ g1.2,show fS f + (i - fS f) = i by omega] at hb
     have e1 : decide (fS f <= i) = true:=by simpa using g0
     have e2 : (decide (fW f - m <= i - fS f) && decide (i - fS f < fW f)) = true:=by simp; omega
     rw [hb,e1,e2]
     simp
    ·have : (decide (fW f - m <= i - fS f) && decide (i - fS f < fW f)) = false:=by simp; omega
     rw [this]; simp
   ·simp [g0]
  ·rw [if_neg e,if_neg e]; simp
theorem apply_pat {f : Fld} (hf : okFld f) {n : Nat} (hn : n < 2 ^ fW f) {h : Head} (hr : rightH h = true) : applyH (patN f n (fW f)) h = setN f h n:=by
 have hd:=okFld_dims hf
 apply head_ext
 intro k hk
 have e1 : wordAt (applyH (patN f n (fW f)) h) k = applyW (patN f n (fW f)) h k:=by
  match k,hk with
  | 0,_ | 1,_ | 2,_ | 3,_ | 4,_ | 5,_ | 6,_ | 7,_ | 8,_ | 9,_ => rfl
 rw [e1]
 unfold applyW patN
 rw [setN_z f hf,setN_z f hf,maskN_full]
 have hand : n &&& (2 ^ fW f - 1) = n:=by rw [Nat.and_two_pow_sub_one_eq_mod,Nat.mod_eq_of_lt hn]
 rw [hand]
 unfold setN
 rw [wordAt_setW _ _ _ _ (by omega)]
 by_cases e : k = fK f
 ·subst e
  rw [if_pos rfl,if_pos rfl,if_pos rfl,Int.toNat_natCast,Int.toNat_natCast]
 ·rw [if_neg e,if_neg e,if_neg e]
  have:=(rightH_word hr k).1
  simp; omega
theorem right_setN {f : Fld} (hf : okFld f) {n : Nat} (hn : n < 2 ^ fW f) {h : Head} (hr : rightH h = true) : rightH (setN f h n) = true:=by
 have hd:=okFld_dims hf
 have hw:=rightH_word hr (fK f)
 have hlt:=set_lt (W:=(wordAt h (fK f)).toNat) (s:=fS f) (w:=fW f) (n:=n) (by omega) hn (by omega)
 unfold setN
 refine rightH_setW hr _ (by omega) ?_
 omega
end Go.AI
namespace Go.AI
open Go.Proofs
set_option maxRecDepth 50000
def andI (x y : Int) : Int:=IntKind.i64.wrap (BitVec.ofInt 64 x &&& BitVec.ofInt 64 y).toNat
def orI (x y : Int) : Int:=IntKind.i64.wrap (BitVec.ofInt 64 x ||| BitVec.ofInt 64 y).toNat
def xorI (x y : Int) : Int:=IntKind.i64.wrap (BitVec.ofInt 64 x ^^^ BitVec.ofInt 64 y).toNat
def clrI (x y : Int) : Int:=IntKind.i64.wrap (BitVec.ofInt 64 x &&& ~~~ BitVec.ofInt 64 y).toNat
section
variable {P : Program} {t : TypeId} {k : IntKind} {x y : Int} {d : Tmp} {K : Kt} {e : Env} {H : Heap}
@[go_sem] theorem binK_andK : binK P .and t (.int .i64 x) (.int .i64 y) d K e H = K ((d,.int .i64 (andI x y)) :: e) H:=by
 rw [binK_int]; exact propext ⟨fun h => h.2,fun h => ⟨rfl,h⟩⟩
@[go_sem] theorem binK_orK : binK P .or t (.int .i64 x) (.int .i64 y) d K e H = K ((d,.int .i64 (orI x y)) :: e) H:=by
 rw [binK_int]; exact propext ⟨fun h => h.2,fun h => ⟨rfl,h⟩⟩
@[go_sem] theorem binK_xorK : binK P .xor t (.int .i64 x) (.int .i64 y) d K e H = K ((d,.int .i64 (xorI x y)) :: e) H:=by
 rw [binK_int]; exact propext ⟨fun h => h.2,fun h => ⟨rfl,h⟩⟩
@[go_sem] theorem binK_clrK : binK P .andNot t (.int .i64 x) (.int .i64 y) d K e H = K ((d,.int .i64 (clrI x y)) :: e) H:=by
 rw [binK_int]; exact propext ⟨fun h => h.2,fun h => ⟨rfl,h⟩⟩
@[go_sem] theorem binK_shrK : binK P .shr t (.int .i64 x) (.int k y) d K e H = (0 <= y /\ K ((d,.int .i64 (x.fdiv (2 ^ (min y.toNat 64)))) :: e) H):=by
 rw [binK_int]; rfl
end
theorem ofInt_nat (a : Nat) : BitVec.ofInt 64 (a : Int) = BitVec.ofNat 64 a:=by
 apply BitVec.eq_of_toInt_eq; simp
theorem andI_nat {a b : Nat} (ha : a < 9223372036854775808) (hb : b < 9223372036854775808) : andI a b = ((a &&& b : Nat) : Int):=by
 have h1 : a &&& b < 2 ^ 63:=Nat.and_lt_two_pow _ (by omega)
 unfold andI
 rw [ofInt_nat,ofInt_nat,BitVec.toNat_and,BitVec.toNat_ofNat,BitVec.toNat_ofNat,Nat.mod_eq_of_lt (by omega),Nat.mod_eq_of_lt (by omega)]
 exact w64 (by omega) (by omega)
theorem orI_nat {a b : Nat} (ha : a < 9223372036854775808) (hb : b < 9223372036854775808) : orI a b = ((a ||| b : Nat) : Int):=by
 have h1 : a ||| b < 2 ^ 63:=Nat.or_lt_two_pow (by omega) (by omega)
 unfold orI
 rw [ofInt_nat,ofInt_nat,BitVec.toNat_or,BitVec.toNat_ofNat,BitVec.toNat_ofNat,Nat.mod_eq_of_lt (by omega),Nat.mod_eq_of_lt (by omega)]
 exact w64 (by omega) (by omega)
theorem xorI_nat {a b : Nat} (ha : a < 9223372036854775808) (hb : b < 9223372036854775808) : xorI a b = ((a ^^^ b : Nat) : Int):=by
 have h1 : a ^^^ b < 2 ^ 63:=Nat.xor_lt_two_pow (by omega) (by omega)
 unfold xorI
 rw [ofInt_nat,ofInt_nat,BitVec.toNat_xor,BitVec.toNat_ofNat,BitVec.toNat_ofNat,Nat.mod_eq_of_lt (by omega),Nat.mod_eq_of_lt (by omega)]
 exact w64 (by omega) (by omega)
theorem clrI_nat {a b : Nat} (ha : a < 9223372036854775808) (hb : b < 9223372036854775808) : clrI a b = ((a ^^^ (a &&& b) : Nat) : Int):=by
 have h1 : a ^^^ (a &&& b) < 2 ^ 63:=Nat.xor_lt_two_pow (by omega) (Nat.and_lt_two_pow _ (by omega))
 have e : (BitVec.ofNat 64 a &&& ~~~ BitVec.ofNat 64 b) = BitVec.ofNat 64 a ^^^ (BitVec.ofNat 64 a &&& BitVec.ofNat 64 b):=by
  generalize BitVec.ofNat 64 a = u
  generalize BitVec.ofNat 64 b = v
  ext i hi
  simp only [BitVec.getElem_and,BitVec.getElem_not,BitVec.getElem_xor]
  cases u[i] <;> cases v[i] <;> rfl
 unfold clrI
 rw [ofInt_nat,ofInt_nat,e,BitVec.toNat_xor,BitVec.toNat_and,BitVec.toNat_ofNat,BitVec.toNat_ofNat,Nat.mod_eq_of_lt (by omega),Nat.mod_eq_of_lt (by omega)]
 exact w64 (by omega) (by omega)
theorem shr_nat {a s : Nat} (hs : s <= 64) : (a : Int).fdiv (2 ^ min s 64) = ((a / 2 ^ s : Nat) : Int):=by
 rw [Nat.min_eq_left hs,Int.fdiv_eq_ediv_of_nonneg _ (Int.pow_nonneg (by decide))]
 push_cast; rfl
theorem Head.c_at (h : Head) {k : Nat} (hk : k < 10) : h.c[k]? = some (.int .i64 (wordAt h k)):=by
 match k,hk with
 | 0,_ | 1,_ | 2,_ | 3,_ | 4,_ | 5,_ | 6,_ | 7,_ | 8,_ | 9,_ => rfl
theorem Head.c_set (h : Head) {k : Nat} (hk : k < 10) (v : Int) : splice h.c k [.int .i64 v] = (setW h k v).c:=by
 match k,hk with
 | 0,_ | 1,_ | 2,_ | 3,_ | 4,_ | 5,_ | 6,_ | 7,_ | 8,_ | 9,_ => rfl
theorem fdims {f : Fld} (hf : okFld f) : IntKind.i64.wrap (f.at_.tdiv 16) = (fK f : Int) /\ f.at_.tmod 16 = f.at_ % 16 /\ IntKind.i64.wrap (IntKind.i64.wrap (16 - f.at_ % 16) - f.width) = (fS f : Int):=by
 have h:=hf
 unfold okFld at h
 have e1 : f.at_.tdiv 16 = f.at_ / 16:=Int.tdiv_eq_ediv_of_nonneg (by omega)
 have e2 : f.at_.tmod 16 = f.at_ % 16:=Int.tmod_eq_emod_of_nonneg (by omega)
 refine ⟨?_,e2, ?_⟩
 ·rw [e1,w64 (by omega) (by omega)]; unfold fK; omega
 ·rw [w64 (n:=16 - f.at_ % 16) (by omega) (by omega),w64 (by omega) (by omega)]; unfold fS; omega
theorem p_shift (f : Fld) (hf : okFld f) : PCall Tryz.prog 238 [.agg f.c] (.int .i64 (fS f)):=by
 obtain ⟨d1,d2,d3⟩:=fdims hf
 have g16 : ¬((16 : Int) = 0):=by decide
 refine pC h238_k rfl ?_
 simp only [Tryz.f238,go_sem,d2,d3,g16]
theorem maxF_ok {f : Fld} (hf : okFld f) : maxF f = ((2 ^ fW f - 1 : Nat) : Int):=by
 have h:=hf
 unfold okFld at h
 have hp : ∀ n : Nat,n <= 16 -> powW n = ((2 ^ n : Nat) : Int):=by
  intro n
  induction n with
  | zero => intro _; rfl
  | succ n ih =>
   intro hn
   rw [powW,ih (by omega)]
   have : 2 ^ n <= 2 ^ 16:=Nat.pow_le_pow_right (by decide) (by omega)
   unfold i64
   rw [Nat.pow_succ]
   generalize 2 ^ n = z at this ⊢
   rw [w64 (by omega) (by omega)]
   exact (Int.natCast_mul _ _).symm
 unfold maxF
 rw [hp _ (by omega)]
 have h1 : 2 ^ f.width.toNat <= 2 ^ 16:=Nat.pow_le_pow_right (by decide) (by omega)
 have h2 : 0 < 2 ^ f.width.toNat:=Nat.two_pow_pos _
 unfold i64 fW
 rw [w64 (by omega) (by omega)]
 omega
theorem p_fGet (f : Fld) (hf : okFld f) (h : Head) (hr : rightH h = true) : PCall Tryz.prog 183 [.agg f.c,.agg h.c] (.int .i64 (getN f h)):=by
 obtain ⟨d1,d2,d3⟩:=fdims hf
 have hd:=okFld_dims hf
 have hw:=rightH_word hr (fK f)
 have i0 : (0 : Int) <= (fK f : Int):=by omega
 have i1 : (fK f : Int) < ((10 : Nat) : Int):=by omega
 have i2:=Head.c_at h (show fK f < 10 by omega)
 obtain ⟨W,hW⟩ : ∃ W : Nat,wordAt h (fK f) = (W : Int):=⟨(wordAt h (fK f)).toNat,by omega⟩
 have hM : 2 ^ fW f <= 2 ^ 16:=Nat.pow_le_pow_right (by decide) (by omega)
 have hD : W / 2 ^ fS f <= W:=Nat.div_le_self _ _
 have g16 : ¬((16 : Int) = 0):=by decide
 have g0 : (0 : Int) <= (fS f : Int):=by omega
 have c1:=p_shift f hf
 have c2:=p_Max f (by have:=hf; unfold okFld at this; omega) (by have:=hf; unfold okFld at this; omega)
 have e1 : (W : Int).fdiv (2 ^ min (fS f) 64) = ((W / 2 ^ fS f : Nat) : Int):=shr_nat (by omega)
 have e2 : andI ((W / 2 ^ fS f : Nat) : Int) ((2 ^ fW f - 1 : Nat) : Int) = (getN f h : Nat):=by
  rw [andI_nat (by omega) (by omega),Nat.and_two_pow_sub_one_eq_mod]
  unfold getN; rw [hW,Int.toNat_natCast]
 rw [maxF_ok hf] at c2
 rw [hW] at i2
 refine pC h183_k rfl ?_
 simp only [Tryz.f183,go_sem,d1,d2,d3,i0,i1,i2,g16,Int.toNat_natCast]
 repeat' (first
  | ((first | refine pK (c1) ?_ | refine pK (c2) ?_); simp only [go_sem,d1,d2,d3,i0,i1,i2,g16,g0,e1,e2,Int.toNat_natCast])
  | ((first | refine cS ?_ ?_ | refine gS ?_ ?_) <;> (intro hc; simp only [go_sem,hc,d1,d2,d3,i0,i1,i2,g16,g0,e1,e2,Int.toNat_natCast])))
theorem p_fSet (f : Fld) (hf : okFld f) (h : Head) (hr : rightH h = true) (n : Nat) (hn : n < 2 ^ fW f) : PCall Tryz.prog 237 [.agg f.c,.agg h.c,.int .i64 n] (.agg (setN f h n).c):=by
 obtain ⟨d1,d2,d3⟩:=fdims hf
 have hd:=okFld_dims hf
 have hw:=rightH_word hr (fK f)
 have i0 : (0 : Int) <= (fK f : Int):=by omega
 have i1 : (fK f : Int) < ((10 : Nat) : Int):=by omega
 have i2:=Head.c_at h (show fK f < 10 by omega)
 obtain ⟨W,hW⟩ : ∃ W : Nat,wordAt h (fK f) = (W : Int):=⟨(wordAt h (fK f)).toNat,by omega⟩
 have hM : 2 ^ fW f <= 2 ^ 16:=Nat.pow_le_pow_right (by decide) (by omega)
 have g16 : ¬((16 : Int) = 0):=by decide
 have g0 : (0 : Int) <= (fS f : Int):=by omega
 have c1:=p_shift f hf
 have c2:=p_Max f (by have:=hf; unfold okFld at this; omega) (by have:=hf; unfold okFld at this; omega)
 have hsh : ∀ x,x < 2 ^ fW f -> x <<< fS f < 65536:=by
  intro x hx
  rw [Nat.shiftLeft_eq]
  calc x * 2 ^ fS f < 2 ^ fW f * 2 ^ fS f:=Nat.mul_lt_mul_of_pos_right hx (Nat.two_pow_pos _)
   _ = 2 ^ (fS f + fW f):=by rw [Nat.add_comm,Nat.pow_add]
   _ <= 2 ^ 16:=Nat.pow_le_pow_right (by decide) (by omega)
 have hp : 0 < 2 ^ fW f:=Nat.two_pow_pos _
 have hk9 : fK f <= 9:=by omega
 have s1:=hsh (2 ^ fW f - 1) (by omega)
 have s2:=hsh n hn
 have hshl : ∀ x : Nat,x <<< fS f < 65536 -> IntKind.i64.wrap ((x : Int) * 2 ^ (min (fS f) 64)) = ((x <<< fS f : Nat) : Int):=by
  intro x hx
  have e : min (fS f) 64 = fS f:=Nat.min_eq_left (by omega)
  have e2 : (x : Int) * 2 ^ (min (fS f) 64) = ((x <<< fS f : Nat) : Int):=by
   rw [e,Nat.shiftLeft_eq]; push_cast; rfl
  rw [e2]
  generalize x <<< fS f = z at hx ⊢
  exact w64 (by omega) (by omega)
 have e1:=hshl _ s1
 have e2:=hshl _ s2
 have e3 : clrI (W : Int) (((2 ^ fW f - 1) <<< fS f : Nat) : Int) = ((W ^^^ (W &&& ((2 ^ fW f - 1) <<< fS f)) : Nat) : Int):=clrI_nat (by omega) (by omega)
 have hlow : W ^^^ (W &&& ((2 ^ fW f - 1) <<< fS f)) < 2 ^ 16:=bits_low (by omega) (by omega)
 have e4 : orI ((W ^^^ (W &&& ((2 ^ fW f - 1) <<< fS f)) : Nat) : Int) ((n <<< fS f : Nat) : Int) = (((W ^^^ (W &&& ((2 ^ fW f - 1) <<< fS f))) ||| (n <<< fS f) : Nat) : Int):=orI_nat (by omega) (by omega)
 have e5 : splice h.c (fK f) [.int .i64 (((W ^^^ (W &&& ((2 ^ fW f - 1) <<< fS f))) ||| (n <<< fS f) : Nat) : Int)] = (setN f h n).c:=by
  rw [Head.c_set h (by omega)]; unfold setN; rw [hW,Int.toNat_natCast]
 rw [maxF_ok hf] at c2
 rw [hW] at i2
 refine pC h237_k rfl ?_
 simp only [Tryz.f237,go_sem,d1,d2,d3,i0,i1,i2,g16,Int.toNat_natCast]
 repeat' (first
  | ((first | refine pK (c1) ?_ | refine pK (c2) ?_); simp only [go_sem,d1,d2,d3,i0,i1,i2,g16,g0,e1,e2,e3,e4,e5,hk9,Int.toNat_natCast])
  | ((first | refine cS ?_ ?_ | refine gS ?_ ?_) <;> (intro hc; simp only [go_sem,hc,d1,d2,d3,i0,i1,i2,g16,g0,e1,e2,e3,e4,e5,hk9,Int.toNat_natCast])))
end Go.AI
namespace Go.AI
open Go.Proofs
set_option maxRecDepth 50000
theorem p_Prefix (f : Fld) (hf : okFld f) (n m : Nat) (hn : n < 2 ^ fW f) (hm : m <= fW f) : PCall Tryz.prog 182 [.agg f.c,.int .i64 n,.int .i64 m] (.agg (patN f n m).c):=by
 have h:=hf
 unfold okFld at h
 have hw : f.width = (fW f : Int):=by unfold fW; omega
 have hd:=okFld_dims hf
 have hz : rightH Head.z = true:=by decide
 have hM : 2 ^ fW f <= 2 ^ 16:=Nat.pow_le_pow_right (by decide) (by omega)
 have hM2 : 2 ^ (fW f - m) <= 2 ^ 16:=Nat.pow_le_pow_right (by decide) (by omega)
 have hp : 0 < 2 ^ (fW f - m):=Nat.two_pow_pos _
 have hmk:=maskN_lt (fW f) m
 have hnm : n &&& maskN (fW f) m < 2 ^ fW f:=Nat.lt_of_le_of_lt Nat.and_le_left hn
 have c1:=p_Max f (by omega) (by omega)
 rw [maxF_ok hf] at c1
 have c2:=p_fSet f hf Head.z hz (maskN (fW f) m) hmk
 have c3:=p_fSet f hf Head.z hz (n &&& maskN (fW f) m) hnm
 have g0 : (0 : Int) <= ((fW f - m : Nat) : Int):=by omega
 have e1 : IntKind.i64.wrap (f.width - (m : Int)) = ((fW f - m : Nat) : Int):=by rw [w64 (by omega) (by omega)]; omega
 have e2 : IntKind.i64.wrap (1 * 2 ^ (min (fW f - m) 64)) = ((2 ^ (fW f - m) : Nat) : Int):=by
  rw [Nat.min_eq_left (by omega)]
  have : (1 : Int) * 2 ^ (fW f - m) = ((2 ^ (fW f - m) : Nat) : Int):=by rw [Int.one_mul]; push_cast; rfl
  rw [this]
  generalize 2 ^ (fW f - m) = z at hM2 ⊢
  exact w64 (by omega) (by omega)
 have e3 : IntKind.i64.wrap (((2 ^ (fW f - m) : Nat) : Int) - 1) = ((2 ^ (fW f - m) - 1 : Nat) : Int):=by
  generalize 2 ^ (fW f - m) = z at hM2 hp ⊢
  rw [w64 (by omega) (by omega)]; omega
 have e4 : clrI ((2 ^ fW f - 1 : Nat) : Int) ((2 ^ (fW f - m) - 1 : Nat) : Int) = (maskN (fW f) m : Nat):=by
  rw [clrI_nat (by omega) (by omega)]; rfl
 have e5 : andI (n : Int) ((maskN (fW f) m : Nat) : Int) = ((n &&& maskN (fW f) m : Nat) : Int):=andI_nat (by omega) (by omega)
 refine pC h182_k rfl ?_
 simp only [Tryz.f182,go_sem,e1,Int.toNat_natCast]
 repeat' (first
  | ((first | refine pK (c1) ?_ | refine pK (c2) ?_ | refine pK (c3) ?_); simp only [go_sem,e1,e2,e3,e4,e5,g0,Int.toNat_natCast])
  | ((first | refine cS ?_ ?_ | refine gS ?_ ?_) <;> (intro hc; simp only [go_sem,hc,e1,e2,e3,e4,e5,g0,Int.toNat_natCast])))
 rfl
theorem p_Equal (f : Fld) (hf : okFld f) (n : Nat) (hn : n < 2 ^ fW f) : PCall Tryz.prog 181 [.agg f.c,.int .i64 n] (.agg (patN f n (fW f)).c):=by
 have h:=hf
 unfold okFld at h
 have hw : f.width = (fW f : Int):=by unfold fW; omega
 have c1:=p_Prefix f hf n (fW f) hn (Nat.le_refl _)
 refine pC h181_k rfl ?_
 simp only [Tryz.f181,go_sem,hw]
 repeat' (first
  | (refine pK (c1) ?_; simp only [go_sem,hw])
  | ((first | refine cS ?_ ?_ | refine gS ?_ ?_) <;> (intro hc; simp only [go_sem,hc,hw])))
theorem p_Mod (f : Fld) (hf : okFld f) (n : Nat) (hn : n < 2 ^ fW f) : PCall Tryz.prog 186 [.agg f.c,.int .i64 n] (.agg (patN f n (fW f)).c):=by
 have c1:=p_Equal f hf n hn
 refine pC h186_k rfl ?_
 simp only [Tryz.f186,go_sem]
 repeat' (first
  | (refine pK (c1) ?_; simp only [go_sem])
  | ((first | refine cS ?_ ?_ | refine gS ?_ ?_) <;> (intro hc; simp only [go_sem,hc])))
theorem Pat.mask_at (p : Pat) {k : Nat} (hk : k < 10) : p.c[k]? = some (.int .i64 (wordAt p.mask k)):=by
 match k,hk with
 | 0,_ | 1,_ | 2,_ | 3,_ | 4,_ | 5,_ | 6,_ | 7,_ | 8,_ | 9,_ => rfl
theorem Pat.bits_at (p : Pat) {k : Nat} (hk : k < 10) : p.c[10 + k]? = some (.int .i64 (wordAt p.bits k)):=by
 match k,hk with
 | 0,_ | 1,_ | 2,_ | 3,_ | 4,_ | 5,_ | 6,_ | 7,_ | 8,_ | 9,_ => rfl
theorem p_Match (p : Pat) (hm : rightH p.mask = true) (hb : rightH p.bits = true) (h : Head) (hr : rightH h = true) : PCall Tryz.prog 180 [.agg p.c,.agg h.c] (.bool (matchB p h)):=by
 refine pC h180_k rfl ?_
 simp only [Tryz.f180,go_sem]
 refine awp_all (List.range 10) (fun r => r.all fun i => (((wordAt p.bits i).toNat ^^^ (wordAt h i).toNat) &&& (wordAt p.mask i).toNat) == 0) (fun k => [(2,.ptr 0 0),(3,.ptr 1 0),(6,.int .i64 k)]) (by decide) rfl ?_ ?_
 ·intro k y ys hd hx hF h0 h1 hw
  have hk : k < 10:=by
   have:=(List.getElem?_eq_some_iff.1 hx).1
   simpa using this
  have hy : y = k:=by
   have:=hx
   rw [List.getElem?_range hk] at this
   exact (Option.some.inj this).symm
  subst hy
  have i0 : (0 : Int) <= (y : Int):=by omega
  have i1 : (y : Int) < ((10 : Nat) : Int):=by omega
  have a1:=Pat.mask_at p hk
  have a2:=Pat.bits_at p hk
  have a3:=Head.c_at h hk
  have w1:=rightH_word hm y
  have w2:=rightH_word hb y
  have w3:=rightH_word hr y
  obtain ⟨A,hA⟩ : ∃ W : Nat,wordAt p.mask y = (W : Int):=⟨(wordAt p.mask y).toNat,by omega⟩
  obtain ⟨B,hB⟩ : ∃ W : Nat,wordAt p.bits y = (W : Int):=⟨(wordAt p.bits y).toNat,by omega⟩
  obtain ⟨C,hC⟩ : ∃ W : Nat,wordAt h y = (W : Int):=⟨(wordAt h y).toNat,by omega⟩
  rw [hA] at a1 w1
  rw [hB] at a2 w2
  rw [hC] at a3 w3
  have hx1 : B ^^^ C < 2 ^ 16:=Nat.xor_lt_two_pow (by omega) (by omega)
  have e1 : xorI (B : Int) (C : Int) = ((B ^^^ C : Nat) : Int):=xorI_nat (by omega) (by omega)
  have e2 : andI ((B ^^^ C : Nat) : Int) (A : Int) = (((B ^^^ C) &&& A : Nat) : Int):=andI_nat (by omega) (by omega)
  have i2 : (y : Int) < 10:=by omega
  have eq : ((((wordAt p.bits y).toNat ^^^ (wordAt h y).toNat) &&& (wordAt p.mask y).toNat) == 0) = !(((((B ^^^ C) &&& A : Nat) : Int)) != 0):=by
   rw [hA,hB,hC,Int.toNat_natCast,Int.toNat_natCast,Int.toNat_natCast]
   generalize (B ^^^ C) &&& A = z
   cases z <;> rfl
  rw [List.all_cons,eq] at hF
  simp only [go_sem,h0,h1,i0,i1,i2,decide_true,Int.toNat_natCast,a1,a2,a3,e1,e2]
  repeat' (first
   | ((first | refine cS ?_ ?_ | refine gS ?_ ?_) <;> (intro hc; simp only [go_sem,hc,h0,h1,hw,i0,i1,i2,decide_true,Int.toNat_natCast,a1,a2,a3,e1,e2])))
  ·rw [hc] at hF
   exact congrArg AV.bool (hF.trans rfl).symm
  ·rw [List.all_cons,eq,hc]; rfl
 ·intro hF hlt
  have g : decide (((10 : Nat) : Int) < 10) = false:=by decide
  simp only [go_sem,List.length_range,g]
  exact congrArg AV.bool (hF.trans rfl).symm
def applyTo (p : Pat) (h : Head) (n : Nat) : Head :=
 let w:=fun k => if k < n then applyW p h k else wordAt h k
 ⟨w 0,w 1,w 2,w 3,w 4,w 5,w 6,w 7,w 8,w 9⟩
theorem applyTo_10 (p : Pat) (h : Head) : applyTo p h 10 = applyH p h:=rfl
theorem applyTo_s (p : Pat) (h : Head) {k : Nat} (hk : k < 10) : setW (applyTo p h k) k (applyW p h k) = applyTo p h (k + 1):=by
 match k,hk with
 | 0,_ | 1,_ | 2,_ | 3,_ | 4,_ | 5,_ | 6,_ | 7,_ | 8,_ | 9,_ => rfl
theorem applyTo_w (p : Pat) (h : Head) {k : Nat} (hk : k < 10) : wordAt (applyTo p h k) k = wordAt h k:=by
 match k,hk with
 | 0,_ | 1,_ | 2,_ | 3,_ | 4,_ | 5,_ | 6,_ | 7,_ | 8,_ | 9,_ => rfl
theorem p_Apply (p : Pat) (hm : rightH p.mask = true) (hb : rightH p.bits = true) (h : Head) (hr : rightH h = true) : PCall Tryz.prog 185 [.agg p.c,.agg h.c] (.agg (applyH p h).c):=by
 refine pC h185_k rfl ?_
 simp only [Tryz.f185,go_sem]
 refine awp_for 10 (fun k => [(2,.ptr 0 0),(3,.ptr 1 0),(4,.ptr 2 0),(6,.int .i64 k)]) (fun k => [some p.c,some (applyTo p h k).c,some Head.z.c]) rfl rfl ?_
 intro y hy
 by_cases hk : y < 10
 ·have i0 : (0 : Int) <= (y : Int):=by omega
  have i1 : (y : Int) < ((10 : Nat) : Int):=by omega
  have i2 : (y : Int) < 10:=by omega
  have a1:=Pat.mask_at p hk
  have a2:=Pat.bits_at p hk
  have a3:=Head.c_at (applyTo p h y) hk
  rw [applyTo_w p h hk] at a3
  have hw:=w64s (k:=y) (by omega)
  have w1:=rightH_word hm y
  have w2:=rightH_word hb y
  have w3:=rightH_word hr y
  have st:=Head.c_set (applyTo p h y) hk (applyW p h y)
  rw [applyTo_s p h hk] at st
  have hap : applyW p h y = ((((wordAt h y).toNat ^^^ ((wordAt h y).toNat &&& (wordAt p.mask y).toNat)) ||| (wordAt p.bits y).toNat : Nat) : Int):=rfl
  obtain ⟨A,hA⟩ : ∃ W : Nat,wordAt p.mask y = (W : Int):=⟨(wordAt p.mask y).toNat,by omega⟩
  obtain ⟨B,hB⟩ : ∃ W : Nat,wordAt p.bits y = (W : Int):=⟨(wordAt p.bits y).toNat,by omega⟩
  obtain ⟨C,hC⟩ : ∃ W : Nat,wordAt h y = (W : Int):=⟨(wordAt h y).toNat,by omega⟩
  rw [hA,hB,hC,Int.toNat_natCast,Int.toNat_natCast,Int.toNat_natCast] at hap
  rw [hA] at a1 w1
  rw [hB] at a2 w2
  rw [hC] at a3 w3
  have hl:=bits_low (W:=C) (M:=A) (by omega) (by omega)
  have e1 : clrI (C : Int) (A : Int) = ((C ^^^ (C &&& A) : Nat) : Int):=clrI_nat (by omega) (by omega)
  have e2 : orI ((C ^^^ (C &&& A) : Nat) : Int) (B : Int) = applyW p h y:=by rw [hap]; exact orI_nat (by omega) (by omega)
  have hk9 : y <= 9:=by omega
  simp only [go_sem,i0,i1,i2,decide_true,Int.toNat_natCast,a1,a2,a3,e1,e2,st,hw,hk9]
  exact hk
 ·have : y = 10:=by omega
  subst this
  have g : decide (((10 : Nat) : Int) < 10) = false:=by decide
  simp only [go_sem,g,applyTo_10]
end Go.AI
namespace Go.AI
open Go.Proofs
set_option maxRecDepth 50000
theorem cmpI_range (a b : Head) : ∀ k,k <= 10 -> cmpI (a.l.drop k) (b.l.drop k) = if k < 10 then (if wordAt a k < wordAt b k then -1 else if wordAt b k < wordAt a k then 1 else cmpI (a.l.drop (k + 1)) (b.l.drop (k + 1))) else 0:=by
 intro k hk
 match k,hk with
 | 0,_ | 1,_ | 2,_ | 3,_ | 4,_ | 5,_ | 6,_ | 7,_ | 8,_ | 9,_ => rfl
 | 10,_ => rfl
theorem p_cmp6 (a b : Head) : PCall Tryz.prog 236 [.agg a.c,.agg b.c] (.int .i64 (cmpH a b)):=by
 refine pC h236_k rfl ?_
 simp only [Tryz.f236,go_sem]
 refine awp_wh (σ:=Nat) (fun k => [(2,.ptr 0 0),(3,.ptr 1 0),(5,.int .i64 k)]) (fun k => [some a.c,some b.c]) (fun k => k <= 10 /\ cmpH a b = cmpI (a.l.drop k) (b.l.drop k)) (fun k => 10 - k) 0 ⟨by decide,rfl⟩ rfl rfl ?_
 rintro k ⟨hk,hI⟩
 rw [cmpI_range a b k hk] at hI
 by_cases h : k < 10
 ·rw [if_pos h] at hI
  have i0 : (0 : Int) <= (k : Int):=by omega
  have i1 : (k : Int) < ((10 : Nat) : Int):=by omega
  have i2 : (k : Int) < 10:=by omega
  have a1:=Head.c_at a h
  have a2:=Head.c_at b h
  have hw:=w64s (k:=k) (by omega)
  simp only [go_sem,i0,i1,i2,decide_true,Int.toNat_natCast,a1,a2]
  repeat' (first
   | ((first | refine cS ?_ ?_ | refine gS ?_ ?_) <;> (intro hc; simp only [go_sem,hc,i0,i1,i2,decide_true,Int.toNat_natCast,a1,a2,hw])))
  ·rw [hI,if_pos (of_decide_eq_true hc)]
  ·rename_i hc0
   rw [hI,if_neg (of_decide_eq_false hc0),if_pos (of_decide_eq_true hc)]
  ·rename_i hc0
   rw [if_neg (of_decide_eq_false hc0),if_neg (of_decide_eq_false hc)] at hI
   exact ⟨k + 1,⟨by omega,hI⟩,by omega,rfl,rfl⟩
 ·rw [if_neg h] at hI
  have : k = 10:=by omega
  subst this
  have g : decide (((10 : Nat) : Int) < 10) = false:=by decide
  simp only [go_sem,g]
  rw [hI]
theorem p_In13 (l : List Head) (hl : l.length <= 9223372036854775807) (h : Head) : PCall Tryz.prog 104 [.sl none (lHead l),.agg h.c] (.bool (l.any fun x => decide (x = h))):=by
 refine pC h104_k rfl ?_
 simp only [Tryz.f104,go_sem]
 refine awp_all l (fun r => r.any fun x => decide (x = h)) (fun k => [(0,.sl none (lHead l)),(3,.ptr 0 0),(5,.int .i64 k)]) hl rfl ?_ ?_
 ·intro k y ys hd hx hF h0 h1 hw
  simp only [go_sem,h0,h1,lHead_get hx]
  repeat' (first
   | ((first | refine cS ?_ ?_ | refine gS ?_ ?_) <;> (intro hc; simp only [go_sem,hc,h0,h1,hw,lHead_get hx])))
  ·rw [hF,List.any_cons,hc]; rfl
 ·intro hF hlt
  simp only [go_sem,hlt,decide_false]
  rw [hF]; rfl
theorem p_Same13 (a b : List Head) (hl : a.length <= 9223372036854775807) : PCall Tryz.prog 45 [.sl none (lHead a),.sl none (lHead b)] (.bool (decide (a = b))):=by
 refine pC h45_k rfl ?_
 simp only [Tryz.f45,go_sem]
 repeat' (first
  | ((first | refine cS ?_ ?_ | refine gS ?_ ?_) <;> (intro hc; simp only [go_sem,hc])))
 ·have : a.length ≠ b.length:=by
   intro e; rw [e] at hc; simp at hc
  rw [decide_eq_false (fun e => this (by rw [e]))]
 ·have hlen : a.length = b.length:=by
   by_cases e : a.length = b.length
   ·exact e
   ·have : ((a.length : Int) != (b.length : Int)) = true:=by simp; omega
    rw [this] at hc; cases hc
  refine awp_wh (σ:=Nat) (fun k => [(0,.sl none (lHead a)),(1,.sl none (lHead b)),(5,.int .i64 k)]) (fun _ => []) (fun k => k <= a.length /\ decide (a = b) = decide (a.drop k = b.drop k)) (fun k => a.length - k) 0 ⟨by omega,rfl⟩ rfl rfl ?_
  rintro k ⟨hk,hI⟩
  by_cases h : k < a.length
  ·have i0 : (0 : Int) <= (k : Int):=by omega
   have i1 : (k : Int) < (a.length : Int):=by omega
   have i2 : (k : Int) < (b.length : Int):=by omega
   have a1:=lHead_get (List.getElem?_eq_getElem h)
   have a2:=lHead_get (List.getElem?_eq_getElem (show k < b.length by omega))
   have hw:=w64s (k:=k) (by omega)
   rw [List.drop_eq_getElem_cons h,List.drop_eq_getElem_cons (show k < b.length by omega)] at hI
   simp only [go_sem,i0,i1,i2,decide_true,a1,a2]
   repeat' (first
    | ((first | refine cS ?_ ?_ | refine gS ?_ ?_) <;> (intro hc; simp only [go_sem,hc,i0,i1,i2,decide_true,a1,a2,hw])))
   ·have hne : ¬ a[k] = b[k]:=by simpa using hc
    rw [hI,decide_eq_false (fun e => hne (List.cons.inj e).1)]
   ·have heq : a[k] = b[k]:=by simpa using hc
    rw [heq] at hI
    simp only [List.cons.injEq,true_and] at hI
    exact ⟨k + 1,⟨by omega,hI⟩,by omega,rfl,rfl⟩
  ·have e1 : a.drop k = []:=List.drop_eq_nil_of_le (by omega)
   have e2 : b.drop k = []:=List.drop_eq_nil_of_le (by omega)
   have i1 : ¬ (k : Int) < (a.length : Int):=by omega
   rw [e1,e2] at hI
   simp only [go_sem,i1,decide_false]
   rw [hI]; rfl
theorem p_put (l : List Head) (hl : l.length <= 1048576) (h : Head) : PCall Tryz.prog 178 [.sl none (lHead l),.agg h.c] (.sl none (lHead (putH h l))):=by
 have c1:=fun x => p_cmp6 x h
 refine pB h178_k rfl ?_
 simp only [Tryz.f178,go_sem]
 refine awp_wh (σ:=Nat) (fun k => [(0,.sl none (lHead l)),(3,.ptr 0 0),(5,.int .i64 k)]) (fun _ => [some h.c]) (fun k => k <= l.length /\ putH h l = l.take k ++ putH h (l.drop k)) (fun k => l.length - k) 0 ⟨by omega,by simp⟩ rfl rfl ?_
 rintro k ⟨hk,hI⟩
 have hw:=w64s (k:=k) (by omega)
 have i0 : (0 : Int) <= (k : Int):=by omega
 by_cases hlt : k < l.length
 ·have i1 : (k : Int) < (l.length : Int):=by omega
  have a1:=lHead_get (List.getElem?_eq_getElem hlt)
  have c2:=c1 l[k]
  have hd:=List.drop_eq_getElem_cons hlt
  have ht : l.take (k + 1) = l.take k ++ [l[k]]:=(List.take_append_getElem hlt).symm
  simp only [go_sem,i0,i1,decide_true,a1]
  have hlk : (l.take k).length = k:=by simp; omega
  have hlk2 : (l.take k ++ [h]).length = k + 1:=by simp; omega
  have hld : (l.drop k).length = l.length - k:=by simp
  have hkl : (k : Int) <= (l.length : Int):=by omega
  rw [hd,putH] at hI
  repeat' (first
   | (refine pK (c2) ?_; simp only [go_sem,i0,i1,hkl,decide_true,a1,hw,ite_self,hlk,hlk2,hld])
   | ((first | refine cS ?_ ?_ | refine gS ?_ ?_) <;> (intro hc; simp only [go_sem,hc,i0,i1,hkl,decide_true,a1,hw,ite_self,hlk,hlk2,hld])))
  ·rw [if_pos (of_decide_eq_true hc)] at hI
   exact ⟨k + 1,⟨by omega,by rw [ht,List.append_assoc]; exact hI⟩,by omega,rfl,rfl⟩
  ·rename_i hc0
   rw [if_neg (of_decide_eq_false hc0),if_pos (of_decide_eq_true hc),<- hd,List.take_append_drop] at hI
   rw [hI]
  ·rename_i hc0
   rw [if_neg (of_decide_eq_false hc0),if_neg (of_decide_eq_false hc),<- hd] at hI
   exact ⟨by omega,by omega,by omega,by omega,by omega,by omega,by rw [hI]⟩
 ·have hk : k = l.length:=by omega
  subst hk
  simp only [go_sem,Int.lt_irrefl,decide_false]
  have e : l.drop l.length = []:=List.drop_eq_nil_of_le (by omega)
  rw [e,List.take_of_length_le (Nat.le_refl _)] at hI
  refine ⟨by omega,by omega,by omega,by omega,by omega,by omega,by simp; omega,by simp; omega, ?_⟩
  rw [hI,e]; rfl
theorem p_Merge13 (a b : List Head) (hl : a.length + b.length <= 1048576) : PCall Tryz.prog 101 [.sl none (lHead a),.sl none (lHead b)] (.sl none (lHead (mergeH a b))):=by
 refine pB h101_k rfl ?_
 simp only [Tryz.f101,go_sem]
 repeat' (first
  | ((first | refine cS ?_ ?_ | refine gS ?_ ?_) <;> (intro hc; simp only [go_sem,hc])))
 refine ⟨by omega,by omega, ?_⟩
 refine awp_wh (σ:=Nat × Option Nat × List Head) (fun s => [(1,.sl none (lHead b)),(5,.sl s.2.1 (lHead s.2.2)),(6,.int .i64 s.1)]) (fun _ => []) (fun s => s.1 <= b.length /\ mergeH a b = mergeH s.2.2 (b.drop s.1) /\ s.2.2.length <= a.length + s.1 /\ s.2.1.all (fun n => n == 10)) (fun s => b.length - s.1) (0,some 10,a) ⟨Nat.zero_le _,rfl,Nat.le_refl _,rfl⟩ rfl rfl ?_
 rintro ⟨k,w,o⟩ ⟨hk,hI,ho,hw10⟩
 dsimp only at hk hI ho hw10 ⊢
 have hw:=w64s (k:=k) (by omega)
 have i0 : (0 : Int) <= (k : Int):=by omega
 by_cases hlt : k < b.length
 ·have i1 : (k : Int) < (b.length : Int):=by omega
  have a1:=lHead_get (List.getElem?_eq_getElem hlt)
  have c2:=p_put o (by omega) b[k]
  have hd:=List.drop_eq_getElem_cons hlt
  have hpl:=putH_len b[k] o
  rw [hd] at hI
  have goal : mergeH a b = mergeH (putH b[k] o) (b.drop (k + 1)):=hI
  cases w with
  | none =>
   simp only [go_sem,i0,i1,decide_true,a1]
   repeat' (first
    | (refine pK (c2) ?_; simp only [go_sem,i0,i1,decide_true,a1,hw])
    | ((first | refine cS ?_ ?_ | refine gS ?_ ?_) <;> (intro hc; simp only [go_sem,hc,i0,i1,decide_true,a1,hw])))
   exact ⟨(k + 1,none,putH b[k] o),⟨hlt,goal,by dsimp only; omega,rfl⟩,by dsimp only; omega,rfl,rfl⟩
  | some n =>
   simp only [go_sem,i0,i1,decide_true,a1]
   repeat' (first
    | (refine pK (c2) ?_; simp only [go_sem,i0,i1,decide_true,a1,hw])
    | ((first | refine cS ?_ ?_ | refine gS ?_ ?_) <;> (intro hc; simp only [go_sem,hc,i0,i1,decide_true,a1,hw])))
   exact ⟨(k + 1,none,putH b[k] o),⟨hlt,goal,by dsimp only; omega,rfl⟩,by dsimp only; omega,rfl,rfl⟩
 ·have hk : k = b.length:=by omega
  subst hk
  have e : b.drop b.length = []:=List.drop_eq_nil_of_le (by omega)
  rw [e] at hI
  simp only [go_sem,Int.lt_irrefl,decide_false]
  rw [hI]; rfl
end Go.AI
namespace Go.AI
def fnth (fs : List (Head -> Bool)) (k : Nat) (h : Head) : Bool:=((fs[k]?).map fun f => f h).getD false
def onth (fs : List (Head -> Option (List Head))) (k : Nat) (h : Head) : Option (List Head):=((fs[k]?).map fun f => f h).getD none
def stepP (l : List Fld) (t k : Int) (f : ByteArray) (n m : Int) (fs : List (Head -> Bool)) (h : Head) : Bool :=
 if k = 1 then true else if k = 2 then false else if k = 9 then decide (n <= t) && decide (t < m)
 else if k = 6 then !fnth fs 0 h else if k = 7 then fnth fs 0 h && fnth fs 1 h else if k = 8 then fnth fs 0 h || fnth fs 1 h
 else if k = 3 then decide ((getN (findF l f).1 h : Int) = n)
 else if k = 4 then decide (getN (findF l f).1 h / 2 ^ (fW (findF l f).1 - m.toNat) = n.toNat / 2 ^ (fW (findF l f).1 - m.toNat))
 else decide (n <= getN (findF l f).1 h) && decide ((getN (findF l f).1 h : Int) <= m)
mutual
def hP (l : List Fld) (t : Int) : Pred -> Head -> Bool
 | ⟨k,f,n,m,xs⟩ => stepP l t k f n m (hPs l t xs)
def hPs (l : List Fld) (t : Int) : List Pred -> List (Head -> Bool)
 | [] => []
 | x :: r => hP l t x :: hPs l t r
end
theorem hP_eq (l : List Fld) (t : Int) (x : Pred) : hP l t x = stepP l t x.kind x.field x.n x.m (hPs l t x.args):=by cases x; rw [hP]
theorem hPs_eq (l : List Fld) (t : Int) : ∀ r : List Pred,hPs l t r = r.map (hP l t)
 | [] => by rw [hPs]; rfl
 | x :: r => by rw [hPs,hPs_eq l t r]; rfl
theorem hPs_at (l : List Fld) (t : Int) {r : List Pred} {k : Nat} {x : Pred} (hx : r[k]? = some x) (h : Head) : fnth (hPs l t r) k h = hP l t x h:=by
 rw [hPs_eq,fnth,List.getElem?_map,hx]; rfl
def bndO (r : List Head) : Option (List Head):=if 256 < r.length then none else some r
def stepO (l : List Fld) (t k : Int) (p : Pred) (f : ByteArray) (n : Int) (fs : List (Head -> Option (List Head))) (h : Head) : Option (List Head) :=
 if k = 1 then some (if hP l t p h then [h] else [])
 else if k = 2 then some [setN (findF l f).1 h n.toNat]
 else if k = 3 then match onth fs 0 h,onth fs 1 h with
  | some a,some b => bndO (mergeH a b)
  | _,_ => none
 else if k = 4 then match onth fs 0 h with
  | some a => imgGo (onth fs 1) [] a
  | none => none
 else cloGo (onth fs 0) 300 [h] [h]
mutual
def vO (l : List Fld) (t : Int) : Policy -> Head -> Option (List Head)
 | ⟨k,p,f,n,xs⟩ => stepO l t k p f n (vOs l t xs)
def vOs (l : List Fld) (t : Int) : List Policy -> List (Head -> Option (List Head))
 | [] => []
 | x :: r => vO l t x :: vOs l t r
end
theorem vO_eq (l : List Fld) (t : Int) (x : Policy) : vO l t x = stepO l t x.kind x.pred x.field x.n (vOs l t x.args):=by cases x; rw [vO]
theorem vOs_eq (l : List Fld) (t : Int) : ∀ r : List Policy,vOs l t r = r.map (vO l t)
 | [] => by rw [vOs]; rfl
 | x :: r => by rw [vOs,vOs_eq l t r]; rfl
theorem vOs_at (l : List Fld) (t : Int) {r : List Policy} {k : Nat} {x : Policy} (hx : r[k]? = some x) : onth (vOs l t r) k = vO l t x:=by
 funext h
 rw [vOs_eq,onth,List.getElem?_map,hx]; rfl
def goodS (r : List Head) : Prop:=srtH r /\ r.length <= 256 /\ ∀ z ∈ r,rightH z = true
theorem goodS_nil : goodS []:=⟨srtH_nil,by decide,by simp⟩
theorem goodS_one {h : Head} (hr : rightH h = true) : goodS [h]:=⟨srtH_one h,by simp,by simpa using hr⟩
theorem goodS_merge {a b : List Head} (ha : goodS a) (hb : ∀ z ∈ b,rightH z = true) (hl : ¬ 256 < (mergeH a b).length) : goodS (mergeH a b):=by
 refine ⟨srt_mergeH b ha.1,by omega,fun z hz => ?_⟩
 rcases (mem_mergeH z b a).1 hz with h | h
 ·exact ha.2.2 z h
 ·exact hb z h
theorem goodS_img {f : Head -> Option (List Head)} (hf : ∀ h r,rightH h = true -> f h = some r -> goodS r) : ∀ (xs o r : List Head),goodS o -> (∀ z ∈ xs,rightH z = true) -> imgGo f o xs = some r -> goodS r
 | [],o,r,ho,_,e => by
  rw [imgGo] at e
  cases e; exact ho
 | x :: xs,o,r,ho,hx,e => by
  rw [imgGo] at e
  cases hfx : f x with
  | none => rw [hfx] at e; cases e
  | some a =>
   rw [hfx] at e
   dsimp only at e
   have ga:=hf x a (hx x (by simp)) hfx
   by_cases hl : 256 < (mergeH o a).length
   ·rw [if_pos hl] at e; cases e
   ·rw [if_neg hl] at e
    exact goodS_img hf xs _ r (goodS_merge ho ga.2.2 hl) (fun z hz => hx z (by simp [hz])) e
theorem newH_mem {o n : List Head} {z : Head} : z ∈ newH o n ↔ z ∈ n /\ z ∉ o:=by
 unfold newH
 rw [List.mem_filter]
 constructor
 ·rintro ⟨h1,h2⟩
  refine ⟨h1,fun hc => ?_⟩
  have : (o.any fun y => decide (y = z)) = true:=List.any_eq_true.2 ⟨z,hc,by simp⟩
  rw [this] at h2; cases h2
 ·rintro ⟨h1,h2⟩
  refine ⟨h1, ?_⟩
  have : (o.any fun y => decide (y = z)) = false:=by
   rw [List.any_eq_false]
   intro y hy
   simp
   intro e; subst e; exact h2 hy
  rw [this]; rfl
theorem goodS_clo {f : Head -> Option (List Head)} (hf : ∀ h r,rightH h = true -> f h = some r -> goodS r) : ∀ (k : Nat) (o n r : List Head),goodS o -> (∀ z ∈ n,rightH z = true) -> cloGo f k o n = some r -> goodS r
 | 0,o,n,r,_,_,e => by rw [cloGo] at e; cases e
 | k + 1,o,n,r,ho,hn,e => by
  rw [cloGo] at e
  by_cases h0 : n = []
  ·rw [if_pos h0] at e; cases e; exact ho
  ·rw [if_neg h0] at e
   cases hi : imgGo f [] n with
   | none => rw [hi] at e; cases e
   | some m =>
    rw [hi] at e
    dsimp only at e
    have gm:=goodS_img hf n [] m goodS_nil hn hi
    have gn : ∀ z ∈ newH o m,rightH z = true:=fun z hz => gm.2.2 z (newH_mem.1 hz).1
    by_cases hl : 256 < (mergeH o (newH o m)).length
    ·rw [if_pos hl] at e; cases e
    ·rw [if_neg hl] at e
     exact goodS_clo hf k _ _ r (goodS_merge ho gn hl) gn e
theorem putH_new (h : Head) : ∀ {l : List Head},h ∉ l -> (putH h l).length = l.length + 1
 | [],_ => rfl
 | x :: r,hn => by
  rw [putH]
  have h1 : ¬ x = h:=fun e => hn (by simp [e])
  have h2 : h ∉ r:=fun e => hn (by simp [e])
  split
  ·rw [List.length_cons,putH_new h h2]; rfl
  ·rfl
theorem merge_new {o n : List Head} (h : newH o n ≠ []) : o.length < (mergeH o (newH o n)).length:=by
 cases hc : newH o n with
 | nil => exact absurd hc h
 | cons x r =>
  have hx : x ∉ o:=(newH_mem.1 (by rw [hc]; simp : x ∈ newH o n)).2
  have e : mergeH o (x :: r) = mergeH (putH x o) r:=rfl
  have:=(mergeH_len r (putH x o)).1
  rw [putH_new x hx] at this
  rw [e]; omega
def okFs (l : List Fld) : Prop:=∀ f ∈ l,okFld f
theorem okFld_port : okFld fldPort:=by unfold okFld fldPort; decide
theorem okFld_find {l : List Fld} (hl : okFs l) {s : ByteArray} (h : (findF l s).2 = true) : okFld (findF l s).1:=by
 unfold findF at h ⊢
 split
 ·exact okFld_port
 ·rename_i hs
  rw [if_neg hs] at h
  cases hf : l.find? (fun f => decide (f.name = s)) with
  | none => rw [hf] at h; cases h
  | some f => exact hl f (List.mem_of_find?_eq_some hf)
end Go.AI
namespace Go.AI
open Go.Proofs
set_option maxRecDepth 50000
theorem powW_small {n : Nat} (hn : n <= 16) : powW n = ((2 ^ n : Nat) : Int):=by
 have : ∀ k : Nat,k < 17 -> powW k = ((2 ^ k : Nat) : Int):=by decide
 exact this n (by omega)
theorem p_power13 (n : Nat) (hn : n <= 16) : PCall Tryz.prog 175 [.int .i64 n] (.int .i64 ((2 ^ n : Nat) : Int)):=by
 have hz : ∀ k : Nat,k < 17 -> IntKind.i64.wrap (2 * powW k) = powW (k + 1):=by decide
 refine pC h175_k rfl ?_
 simp only [Tryz.f175,go_sem]
 refine awp_for n (fun k => [(0,.int .i64 n),(3,.int .i64 (powW k)),(4,.int .i64 k)]) (fun _ => []) rfl rfl ?_
 intro k hk
 by_cases h : k < n
 ·have h' : (k : Int) < (n : Int):=by omega
  have hw:=w64s (k:=k) (by omega)
  simp only [go_sem,h',decide_true,hw,hz k (by omega)]
  exact h
 ·have : k = n:=by omega
  subst this
  simp only [go_sem,Int.lt_irrefl,decide_false]
  rw [powW_small hn]
theorem p_last8 (f : Fld) (hf : okFld f) : PCall Tryz.prog 177 [.agg f.c] (.int .i64 ((2 ^ fS f : Nat) : Int)):=by
 obtain ⟨d1,d2,d3⟩:=fdims hf
 have hd:=okFld_dims hf
 have g16 : ¬((16 : Int) = 0):=by decide
 have c1:=c_power (fS f : Int) (by omega)
 rw [Int.toNat_natCast,powW_small (by omega)] at c1
 refine pC h177_k rfl ?_
 simp only [Tryz.f177,go_sem,d2,d3,g16]
 repeat' (first
  | (refine pK (c1) ?_; simp only [go_sem,d2,d3,g16])
  | ((first | refine cS ?_ ?_ | refine gS ?_ ?_) <;> (intro hc; simp only [go_sem,hc,d2,d3,g16])))
theorem p_Get8 (f : Fld) (hf : okFld f) (h : Head) (hr : rightH h = true) : PCall Tryz.prog 174 [.agg f.c,.agg h.c] (.int .i64 (getN f h)):=by
 obtain ⟨d1,d2,d3⟩:=fdims hf
 have hd:=okFld_dims hf
 have hfo:=hf
 unfold okFld at hfo
 have hw:=rightH_word hr (fK f)
 have i0 : (0 : Int) <= (fK f : Int):=by omega
 have i1 : (fK f : Int) < ((10 : Nat) : Int):=by omega
 have i2:=Head.c_at h (show fK f < 10 by omega)
 have g16 : ¬((16 : Int) = 0):=by decide
 have c1:=p_last8 f hf
 have c2:=c_power f.width (by omega)
 have hwN : powW f.width.toNat = ((2 ^ fW f : Nat) : Int):=powW_small (by omega)
 rw [hwN] at c2
 obtain ⟨W,hW⟩ : ∃ W : Nat,wordAt h (fK f) = (W : Int):=⟨(wordAt h (fK f)).toNat,by omega⟩
 have hp1 : 0 < 2 ^ fS f:=Nat.two_pow_pos _
 have hp2 : 0 < 2 ^ fW f:=Nat.two_pow_pos _
 have n1 : ¬ (((2 ^ fS f : Nat) : Int) = 0):=by omega
 have n2 : ¬ (((2 ^ fW f : Nat) : Int) = 0):=by omega
 have hD : W / 2 ^ fS f <= W:=Nat.div_le_self _ _
 have e1 : IntKind.i64.wrap ((W : Int).tdiv ((2 ^ fS f : Nat) : Int)) = ((W / 2 ^ fS f : Nat) : Int):=by
  have : (W : Int).tdiv ((2 ^ fS f : Nat) : Int) = ((W / 2 ^ fS f : Nat) : Int):=Int.ofNat_tdiv _ _
  rw [this]
  rw [hW] at hw
  generalize W / 2 ^ fS f = q at hD ⊢
  exact w64 (by omega) (by omega)
 have e2 : ((W / 2 ^ fS f : Nat) : Int).tmod ((2 ^ fW f : Nat) : Int) = (getN f h : Nat):=by
  rw [<- Int.ofNat_tmod]
  unfold getN; rw [hW,Int.toNat_natCast]
 rw [hW] at i2
 refine pC h174_k rfl ?_
 simp only [Tryz.f174,go_sem,d1,d2,d3,i0,i1,i2,g16,Int.toNat_natCast]
 repeat' (first
  | ((first | refine pK (c1) ?_ | refine pK (c2) ?_); simp only [go_sem,d1,d2,d3,i0,i1,i2,g16,n1,n2,e1,e2,Int.toNat_natCast])
  | ((first | refine cS ?_ ?_ | refine gS ?_ ?_) <;> (intro hc; simp only [go_sem,hc,d1,d2,d3,i0,i1,i2,g16,n1,n2,e1,e2,Int.toNat_natCast])))
theorem p_Set8 (f : Fld) (hf : okFld f) (h : Head) (hr : rightH h = true) (n : Nat) (hn : n < 2 ^ fW f) : PCall Tryz.prog 99 [.agg f.c,.agg h.c,.int .i64 n] (.agg (setN f h n).c):=by
 obtain ⟨d1,d2,d3⟩:=fdims hf
 have hd:=okFld_dims hf
 have hw:=rightH_word hr (fK f)
 have i0 : (0 : Int) <= (fK f : Int):=by omega
 have i1 : (fK f : Int) < ((10 : Nat) : Int):=by omega
 have i2:=Head.c_at h (show fK f < 10 by omega)
 have g16 : ¬((16 : Int) = 0):=by decide
 have c1:=p_last8 f hf
 have c2:=p_Get8 f hf h hr
 have hk9 : fK f <= 9:=by omega
 obtain ⟨W,hW⟩ : ∃ W : Nat,wordAt h (fK f) = (W : Int):=⟨(wordAt h (fK f)).toNat,by omega⟩
 have hg : getN f h = W / 2 ^ fS f % 2 ^ fW f:=by unfold getN; rw [hW,Int.toNat_natCast]
 have hM : 2 ^ fW f <= 2 ^ 16:=Nat.pow_le_pow_right (by decide) (by omega)
 have hM2 : 2 ^ fS f <= 2 ^ 16:=Nat.pow_le_pow_right (by decide) (by omega)
 have hgl:=getN_lt f h
 rw [hW] at hw
 have hlt:=set_lt (W:=W) (s:=fS f) (w:=fW f) (n:=n) (by omega) hn (by omega)
 have hadd:=set_add (W:=W) (s:=fS f) (w:=fW f) (n:=n) hn
 rw [<- hg] at hadd
 have e1 : IntKind.i64.wrap ((n : Int) - (getN f h : Nat)) = (n : Int) - (getN f h : Nat):=w64 (by omega) (by omega)
 have e2 : IntKind.i64.wrap (((n : Int) - (getN f h : Nat)) * ((2 ^ fS f : Nat) : Int)) = ((n : Int) - (getN f h : Nat)) * ((2 ^ fS f : Nat) : Int):=w64 (by omega) (by omega)
 have e3 : IntKind.i64.wrap ((W : Int) + ((n : Int) - (getN f h : Nat)) * ((2 ^ fS f : Nat) : Int)) = (((W ^^^ (W &&& ((2 ^ fW f - 1) <<< fS f))) ||| (n <<< fS f) : Nat) : Int):=by
  rw [hadd]; exact w64 (by omega) (by omega)
 have e5 : splice h.c (fK f) [.int .i64 (((W ^^^ (W &&& ((2 ^ fW f - 1) <<< fS f))) ||| (n <<< fS f) : Nat) : Int)] = (setN f h n).c:=by
  rw [Head.c_set h (by omega)]; unfold setN; rw [hW,Int.toNat_natCast]
 rw [hW] at i2
 refine pC h99_k rfl ?_
 simp only [Tryz.f99,go_sem,d1,d2,d3,i0,i1,i2,g16,Int.toNat_natCast]
 repeat' (first
  | ((first | refine pK (c1) ?_ | refine pK (c2) ?_); simp only [go_sem,d1,d2,d3,i0,i1,i2,g16,e1,e2,e3,e5,hk9,Int.toNat_natCast])
  | ((first | refine cS ?_ ?_ | refine gS ?_ ?_) <;> (intro hc; simp only [go_sem,hc,d1,d2,d3,i0,i1,i2,g16,e1,e2,e3,e5,hk9,Int.toNat_natCast])))
end Go.AI
namespace Go.AI
theorem goodP_arg {l : List Fld} {x y : Pred} (hx : goodP l x) (hy : y ∈ x.args) : goodP l y:=by
 obtain ⟨h1,h2⟩:=hx
 rw [fmP_eq,Bool.and_eq_true] at h1
 have hf : ∀ r : List Pred,fmPs r = true -> ∀ z ∈ r,fmP z = true:=by
  intro r
  induction r with
  | nil => intro _ z hz; cases hz
  | cons a r ih =>
   intro h z hz
   rw [fmPs_cons,Bool.and_eq_true] at h
   rcases List.mem_cons.1 hz with rfl | hz
   ·exact h.1
   ·exact ih h.2 z hz
 refine ⟨hf _ h1.2 y hy,fun z hz => h2 z ?_⟩
 have hs : ∀ r : List Pred,y ∈ r -> z ∈ ptsPs r:=by
  intro r
  induction r with
  | nil => intro h; cases h
  | cons a r ih =>
   intro h
   rw [ptsPs_cons]
   rcases List.mem_cons.1 h with rfl | h
   ·exact List.mem_append_left _ hz
   ·exact List.mem_append_right _ (ih h)
 rw [ptsP_eq]
 exact List.mem_cons_of_mem _ (hs _ hy)
def fldP (l : List Fld) (x : Pred) : Prop:=(findF l x.field).2 = true /\ okFld (findF l x.field).1 /\ 0 <= x.n /\ x.n.toNat < 2 ^ fW (findF l x.field).1
theorem maxF_val {f : Fld} (hf : okFld f) : maxF f = ((2 ^ fW f - 1 : Nat) : Int):=by
 have h:=hf
 unfold okFld at h
 have : ∀ k : Nat,k < 17 -> i64 (powW k - 1) = ((2 ^ k - 1 : Nat) : Int):=by decide
 exact this _ (by omega)
theorem goodP_kind {l : List Fld} (hl : okFs l) {x : Pred} (hx : goodP l x) :
  (x.kind = 1) \/ (x.kind = 2) \/ (x.kind = 9) \/ (x.kind = 6 /\ ∃ a,x.args = [a] /\ goodP l a) \/ ((x.kind = 7 \/ x.kind = 8) /\ ∃ a b,x.args = [a,b] /\ goodP l a /\ goodP l b) \/
  (x.kind = 3 /\ fldP l x) \/ (x.kind = 4 /\ fldP l x /\ 0 <= x.m /\ x.m.toNat <= fW (findF l x.field).1) \/ (x.kind = 5 /\ (findF l x.field).2 = true /\ okFld (findF l x.field).1 /\ 0 <= x.n /\ x.n <= x.m /\ x.m.toNat < 2 ^ fW (findF l x.field).1):=by
 have hfit:=hx.2 x (by rw [ptsP_eq]; simp)
 have harg:=fun y hy => goodP_arg (y:=y) hx hy
 have hfm:=hx.1
 rw [fmP_eq,Bool.and_eq_true,Bool.and_eq_true,beq_iff_eq] at hfm
 obtain ⟨⟨hok,hlen⟩,_⟩:=hfm
 unfold okP at hok hlen
 unfold fitP at hfit
 by_cases k1 : x.kind = 1
 ·exact .inl k1
 by_cases k2 : x.kind = 2
 ·exact .inr (.inl k2)
 rw [if_neg (by simp [k1,k2])] at hok hlen
 by_cases k3 : x.kind = 3
 ·rw [if_pos k3] at hok
  rw [if_neg (by simp [k3])] at hfit
  by_cases hf : (findF l x.field).2 = false
  ·rw [if_pos hf] at hfit; cases hfit
  ·rw [if_neg hf,if_neg (by omega : ¬ x.kind = 5)] at hfit
   have hft : (findF l x.field).2 = true:=by simpa using hf
   have hfo:=okFld_find hl hft
   rw [maxF_val hfo] at hfit
   have hp:=Nat.two_pow_pos (fW (findF l x.field).1)
   simp [w16] at hok
   refine .inr (.inr (.inr (.inr (.inr (.inl ⟨k3,hft,hfo,hok.2.1.1, ?_⟩)))))
   split at hfit
   ·cases hfit
   ·omega
 rw [if_neg k3] at hok hlen
 by_cases k4 : x.kind = 4
 ·rw [if_pos k4] at hok
  rw [if_neg (by simp [k4])] at hfit
  by_cases hf : (findF l x.field).2 = false
  ·rw [if_pos hf] at hfit; cases hfit
  ·rw [if_neg hf,if_neg (by omega : ¬ x.kind = 5)] at hfit
   have hft : (findF l x.field).2 = true:=by simpa using hf
   have hfo:=okFld_find hl hft
   have hfo':=hfo
   unfold okFld at hfo'
   rw [maxF_val hfo] at hfit
   have hp:=Nat.two_pow_pos (fW (findF l x.field).1)
   have hW : fW (findF l x.field).1 = (findF l x.field).1.width.toNat:=rfl
   simp [w16] at hok
   refine .inr (.inr (.inr (.inr (.inr (.inr (.inl ⟨k4,⟨hft,hfo,hok.2.1.1, ?_⟩,hok.2.2.1, ?_⟩))))))
   ·split at hfit
    ·cases hfit
    ·omega
   ·split at hfit
    ·cases hfit
    ·omega
 rw [if_neg k4] at hok hlen
 by_cases k5 : x.kind = 5
 ·rw [if_pos k5] at hok
  rw [if_neg (by simp [k5])] at hfit
  by_cases hf : (findF l x.field).2 = false
  ·rw [if_pos hf] at hfit; cases hfit
  ·rw [if_neg hf,if_pos k5] at hfit
   have hft : (findF l x.field).2 = true:=by simpa using hf
   have hfo:=okFld_find hl hft
   rw [maxF_val hfo] at hfit
   have hp:=Nat.two_pow_pos (fW (findF l x.field).1)
   simp at hok
   refine .inr (.inr (.inr (.inr (.inr (.inr (.inr ⟨k5,hft,hfo,hok.2.1,hok.2.2.1, ?_⟩))))))
   split at hfit
   ·cases hfit
   ·omega
 rw [if_neg k5] at hok hlen
 by_cases k6 : x.kind = 6
 ·rw [if_pos k6] at hlen
  refine .inr (.inr (.inr (.inl ⟨k6, ?_⟩)))
  match hxa : x.args,hlen with
  | [a],_ => exact ⟨a,rfl,harg a (by rw [hxa]; simp)⟩
 rw [if_neg k6] at hok hlen
 by_cases k7 : x.kind = 7 \/ x.kind = 8
 ·rw [if_pos k7] at hlen
  refine .inr (.inr (.inr (.inr (.inl ⟨k7, ?_⟩))))
  match hxa : x.args,hlen with
  | [a,b],_ => exact ⟨a,b,rfl,harg a (by rw [hxa]; simp),harg b (by rw [hxa]; simp)⟩
 rw [if_neg k7] at hok hlen
 by_cases k9 : x.kind = 9
 ·exact .inr (.inr (.inl k9))
 rw [if_neg k9] at hok
 cases hok
end Go.AI
namespace Go.AI
open Go.Proofs
set_option maxRecDepth 50000
theorem p_Holds (l : List Fld) (hl : okFs l) (t : Int) : ∀ x : Pred,goodP l x -> ∀ h,rightH h = true -> PCall Tryz.prog 97 [.sl none (lFld l),.agg x.c,.agg h.c,.int .i64 t] (.bool (hP l t x h)):=by
 refine Pred.ind _ fun x ih => fun hx h hr => ?_
 rw [hP_eq]
 rcases goodP_kind hl hx with k | k | k | ⟨k,a,ha,ga⟩ | ⟨k,a,b,ha,ga,gb⟩ | ⟨k,hf,hfo,hn,hn2⟩ | ⟨k,⟨hf,hfo,hn,hn2⟩,hm,hm2⟩ | ⟨k,hf,hfo,hn,hnm,hm2⟩
 ·refine pC h97_k rfl ?_
  simp only [Tryz.f97,go_sem,k,Int.reduceBEq]
  repeat' (first
   | ((first | refine cS ?_ ?_ | refine gS ?_ ?_) <;> (intro hc; simp only [go_sem,hc,Int.reduceBEq,k])))
  ·rfl
 ·refine pC h97_k rfl ?_
  simp only [Tryz.f97,go_sem,k,Int.reduceBEq]
  repeat' (first
   | ((first | refine cS ?_ ?_ | refine gS ?_ ?_) <;> (intro hc; simp only [go_sem,hc,Int.reduceBEq,k])))
  ·rfl
 ·refine pC h97_k rfl ?_
  simp only [Tryz.f97,go_sem,k,Int.reduceBEq]
  repeat' (first
   | ((first | refine cS ?_ ?_ | refine gS ?_ ?_) <;> (intro hc; simp only [go_sem,hc,Int.reduceBEq,k])))
  ·show AV.bool _ = AV.bool (decide (x.n <= t) && decide (t < x.m))
   rw [hc]; rfl
  ·show AV.bool _ = AV.bool (decide (x.n <= t) && decide (t < x.m))
   rw [hc]; rfl
 ·have c1:=ih a (by rw [ha]; simp) ga h hr
  have e1 : fnth (hPs l t x.args) 0 h = hP l t a h:=hPs_at l t (by rw [ha]; rfl) h
  have g1 : (0 : Int) < (x.args.length : Int):=by rw [ha]; simp
  have g2:=lPred_get (l:=x.args) (i:=0) (x:=a) (by rw [ha]; rfl)
  refine pC h97_k rfl ?_
  simp only [Tryz.f97,go_sem,k,Int.reduceBEq,g1,g2]
  repeat' (first
   | (refine pK (c1) ?_; simp only [go_sem,Int.reduceBEq,k,g1,g2])
   | ((first | refine cS ?_ ?_ | refine gS ?_ ?_) <;> (intro hc; simp only [go_sem,hc,Int.reduceBEq,k,g1,g2])))
  show _ = AV.bool (!fnth (hPs l t x.args) 0 h)
  rw [e1]
 ·have c1:=ih a (by rw [ha]; simp) ga h hr
  have c2:=ih b (by rw [ha]; simp) gb h hr
  have e1 : fnth (hPs l t x.args) 0 h = hP l t a h:=hPs_at l t (by rw [ha]; rfl) h
  have e2 : fnth (hPs l t x.args) 1 h = hP l t b h:=hPs_at l t (by rw [ha]; rfl) h
  have g1 : (0 : Int) < (x.args.length : Int):=by rw [ha]; simp
  have g2:=lPred_get (l:=x.args) (i:=0) (x:=a) (by rw [ha]; rfl)
  have g3 : (1 : Int) < (x.args.length : Int):=by rw [ha]; simp
  have g4:=lPred_get (l:=x.args) (i:=1) (x:=b) (by rw [ha]; rfl)
  rcases k with k | k
  ·refine pC h97_k rfl ?_
   simp only [Tryz.f97,go_sem,k,Int.reduceBEq,g1,g2,g3,g4]
   repeat' (first
    | ((first | refine pK (c1) ?_ | refine pK (c2) ?_); simp only [go_sem,k,Int.reduceBEq,g1,g2,g3,g4])
    | ((first | refine cS ?_ ?_ | refine gS ?_ ?_) <;> (intro hc; simp only [go_sem,hc,k,Int.reduceBEq,g1,g2,g3,g4])))
   ·show _ = AV.bool (fnth (hPs l t x.args) 0 h && fnth (hPs l t x.args) 1 h)
    rw [e1,e2,hc]; rfl
   ·show _ = AV.bool (fnth (hPs l t x.args) 0 h && fnth (hPs l t x.args) 1 h)
    rw [e1,e2,hc]; rfl
  ·refine pC h97_k rfl ?_
   simp only [Tryz.f97,go_sem,k,Int.reduceBEq,g1,g2,g3,g4]
   repeat' (first
    | ((first | refine pK (c1) ?_ | refine pK (c2) ?_); simp only [go_sem,k,Int.reduceBEq,g1,g2,g3,g4])
    | ((first | refine cS ?_ ?_ | refine gS ?_ ?_) <;> (intro hc; simp only [go_sem,hc,k,Int.reduceBEq,g1,g2,g3,g4])))
   ·show _ = AV.bool (fnth (hPs l t x.args) 0 h || fnth (hPs l t x.args) 1 h)
    rw [e1,e2,hc]; rfl
   ·show _ = AV.bool (fnth (hPs l t x.args) 0 h || fnth (hPs l t x.args) 1 h)
    rw [e1,e2,hc]; rfl
 ·have c1:=c_Find l x.field
  have c2:=p_Get8 _ hfo h hr
  refine pC h97_k rfl ?_
  simp only [Tryz.f97,go_sem,k,Int.reduceBEq]
  repeat' (first
   | ((first | refine pK (c1) ?_ | refine pK (c2) ?_); simp only [go_sem,Int.reduceBEq,k])
   | ((first | refine cS ?_ ?_ | refine gS ?_ ?_) <;> (intro hc; simp only [go_sem,hc,Int.reduceBEq,k])))
  ·show _ = AV.bool (decide ((getN (findF l x.field).1 h : Int) = x.n))
   rw [Bool.beq_eq_decide_eq]
 ·have c1:=c_Find l x.field
  have c2:=p_Get8 _ hfo h hr
  have hfo':=hfo
  unfold okFld at hfo'
  have hW : (findF l x.field).1.width = (fW (findF l x.field).1 : Int):=by unfold fW; omega
  have c3:=p_power13 (fW (findF l x.field).1 - x.m.toNat) (by have:=okFld_dims hfo; omega)
  have e1 : IntKind.i64.wrap ((findF l x.field).1.width - x.m) = ((fW (findF l x.field).1 - x.m.toNat : Nat) : Int):=by
   rw [w64 (by omega) (by omega)]; omega
  have hp:=Nat.two_pow_pos (fW (findF l x.field).1 - x.m.toNat)
  have n1 : ¬ (((2 ^ (fW (findF l x.field).1 - x.m.toNat) : Nat) : Int) = 0):=by omega
  refine pC h97_k rfl ?_
  simp only [Tryz.f97,go_sem,k,Int.reduceBEq]
  repeat' (first
   | ((first | refine pK (c1) ?_ | refine pK (c2) ?_ | refine pK (c3) ?_); simp only [go_sem,Int.reduceBEq,k,e1,n1])
   | ((first | refine cS ?_ ?_ | refine gS ?_ ?_) <;> (intro hc; simp only [go_sem,hc,Int.reduceBEq,k,e1,n1])))
  have hgl:=getN_lt (findF l x.field).1 h
  have hM : 2 ^ fW (findF l x.field).1 <= 2 ^ 16:=Nat.pow_le_pow_right (by decide) (by have:=okFld_dims hfo; omega)
  have hq : ∀ a : Nat,a < 65536 -> IntKind.i64.wrap ((a : Int).tdiv ((2 ^ (fW (findF l x.field).1 - x.m.toNat) : Nat) : Int)) = ((a / 2 ^ (fW (findF l x.field).1 - x.m.toNat) : Nat) : Int):=by
   intro a ha
   rw [<- Int.ofNat_tdiv]
   have:=Nat.div_le_self a (2 ^ (fW (findF l x.field).1 - x.m.toNat))
   generalize a / 2 ^ (fW (findF l x.field).1 - x.m.toNat) = q at this ⊢
   exact w64 (by omega) (by omega)
  have q1:=hq (getN (findF l x.field).1 h) (by omega)
  have q2:=hq x.n.toNat (by omega)
  rw [Int.toNat_of_nonneg hn] at q2
  rw [q1,q2]
  show _ = AV.bool (decide (getN (findF l x.field).1 h / 2 ^ (fW (findF l x.field).1 - x.m.toNat) = x.n.toNat / 2 ^ (fW (findF l x.field).1 - x.m.toNat)))
  generalize getN (findF l x.field).1 h / 2 ^ (fW (findF l x.field).1 - x.m.toNat) = u
  generalize x.n.toNat / 2 ^ (fW (findF l x.field).1 - x.m.toNat) = v
  congr 1
  rw [Bool.eq_iff_iff,beq_iff_eq,decide_eq_true_eq]
  exact Int.ofNat_inj
 ·have c1:=c_Find l x.field
  have c2:=p_Get8 _ hfo h hr
  refine pC h97_k rfl ?_
  simp only [Tryz.f97,go_sem,k,Int.reduceBEq]
  repeat' (first
   | ((first | refine pK (c1) ?_ | refine pK (c2) ?_); simp only [go_sem,Int.reduceBEq,k])
   | ((first | refine cS ?_ ?_ | refine gS ?_ ?_) <;> (intro hc; simp only [go_sem,hc,Int.reduceBEq,k])))
  ·show AV.bool _ = AV.bool (decide (x.n <= getN (findF l x.field).1 h) && decide ((getN (findF l x.field).1 h : Int) <= x.m))
   rw [hc]; rfl
  ·show AV.bool _ = AV.bool (decide (x.n <= getN (findF l x.field).1 h) && decide ((getN (findF l x.field).1 h : Int) <= x.m))
   rw [hc]; rfl
end Go.AI
namespace Go.AI
open Go.Proofs
set_option maxRecDepth 50000
def resO : Option (List Head) -> AV
 | some r => .tup [.sl none (lHead r),.int .i64 0]
 | none => .tup [.sl none [],.int .i64 2]
@[go_sem] theorem resO_pure (o : Option (List Head)) : (resO o).pure = true:=by
 cases o <;> simp [resO,AV.pure,pureL,go_sem]
@[go_sem] theorem resO_some (r : List Head) : resO (some r) = .tup [.sl none (lHead r),.int .i64 0]:=rfl
@[go_sem] theorem resO_none : resO none = .tup [.sl none [],.int .i64 2]:=rfl
theorem p_bounded (r : List Head) : PCall Tryz.prog 100 [.sl none (lHead r)] (resO (bndO r)):=by
 refine pB h100_k rfl ?_
 simp only [Tryz.f100,go_sem]
 repeat' (first
  | ((first | refine cS ?_ ?_ | refine gS ?_ ?_) <;> (intro hc; simp only [go_sem,hc])))
 ·rw [bndO,if_pos (by have:=of_decide_eq_true hc; omega)]; rfl
 ·rw [bndO,if_neg (by have:=of_decide_eq_false hc; omega)]; rfl
def evAt (f : Nat) (l : List Fld) (p : Policy) (t : Int) (F : Head -> Option (List Head)) : Prop :=
 ∀ h,rightH h = true -> PCall Tryz.prog f [.sl none (lFld l),.agg p.c,.agg h.c,.int .i64 t] (resO (F h))
theorem p_Image (l : List Fld) (p : Policy) (t : Int) (F : Head -> Option (List Head)) (hF : evAt 42 l p t F) (hg : ∀ h r,rightH h = true -> F h = some r -> goodS r) (xs : List Head) (hx : ∀ z ∈ xs,rightH z = true) (hl : xs.length <= 1048576) :
  PCall Tryz.prog 102 [.sl none (lFld l),.agg p.c,.sl none (lHead xs),.int .i64 t] (resO (imgGo F [] xs)):=by
 refine pB h102_k rfl ?_
 simp only [Tryz.f102,go_sem]
 refine awp_lst xs (fun (s : Option Nat × List Head) r => imgGo F s.2 r) (fun _ s => goodS s.2) (fun k s => [(0,.sl none (lFld l)),(2,.sl none (lHead xs)),(3,.int .i64 t),(5,.ptr 0 0),(10,.sl s.1 (lHead s.2)),(11,.int .i64 k)]) (fun k s => [some p.c]) (some 10,[]) (by omega) goodS_nil rfl rfl ?_ ?_
 ·rintro k ⟨w,o⟩ y ys hd hx' go hI h0 h1 hw
  dsimp only at go hI ⊢
  have hr:=hx y (List.mem_of_getElem? hx')
  have c1:=hF y hr
  rw [imgGo] at hI
  cases hy : F y with
  | none =>
   rw [hy] at c1 hI
   cases w with
   | none =>
    simp only [go_sem,h0,h1,lHead_get hx',Int.reduceBNe]
    repeat' (first
     | (refine pK (c1) ?_; simp only [go_sem,h0,h1,hw,lHead_get hx',Int.reduceBNe])
     | ((first | refine cS ?_ ?_ | refine gS ?_ ?_) <;> (intro hc; simp only [go_sem,hc,h0,h1,hw,lHead_get hx',Int.reduceBNe])))
    rw [hI]; rfl
   | some n =>
    simp only [go_sem,h0,h1,lHead_get hx',Int.reduceBNe]
    repeat' (first
     | (refine pK (c1) ?_; simp only [go_sem,h0,h1,hw,lHead_get hx',Int.reduceBNe])
     | ((first | refine cS ?_ ?_ | refine gS ?_ ?_) <;> (intro hc; simp only [go_sem,hc,h0,h1,hw,lHead_get hx',Int.reduceBNe])))
    rw [hI]; rfl
  | some a =>
   rw [hy] at c1 hI
   dsimp only at hI
   have ga:=hg y a hr hy
   have c2:=p_Merge13 o a (by have:=go.2.1; have:=ga.2.1; omega)
   cases w with
   | none =>
    simp only [go_sem,h0,h1,lHead_get hx',Int.reduceBNe]
    repeat' (first
     | ((first | refine pK (c1) ?_ | refine pK (c2) ?_); simp only [go_sem,h0,h1,hw,lHead_get hx',Int.reduceBNe])
     | ((first | refine cS ?_ ?_ | refine gS ?_ ?_) <;> (intro hc; simp only [go_sem,hc,h0,h1,hw,lHead_get hx',Int.reduceBNe])))
    ·rw [hI,if_pos (by have:=of_decide_eq_true hc; omega)]; rfl
    ·have hle : ¬ 256 < (mergeH o a).length:=by have:=of_decide_eq_false hc; omega
     exact ⟨(none,mergeH o a),by rw [imgGo,hy]; dsimp only; rw [if_neg hle],goodS_merge go ga.2.2 hle,rfl,rfl⟩
   | some n =>
    simp only [go_sem,h0,h1,lHead_get hx',Int.reduceBNe]
    repeat' (first
     | ((first | refine pK (c1) ?_ | refine pK (c2) ?_); simp only [go_sem,h0,h1,hw,lHead_get hx',Int.reduceBNe])
     | ((first | refine cS ?_ ?_ | refine gS ?_ ?_) <;> (intro hc; simp only [go_sem,hc,h0,h1,hw,lHead_get hx',Int.reduceBNe])))
    ·rw [hI,if_pos (by have:=of_decide_eq_true hc; omega)]; rfl
    ·have hle : ¬ 256 < (mergeH o a).length:=by have:=of_decide_eq_false hc; omega
     exact ⟨(none,mergeH o a),by rw [imgGo,hy]; dsimp only; rw [if_neg hle],goodS_merge go ga.2.2 hle,rfl,rfl⟩
 ·rintro ⟨w,o⟩ go hI
  dsimp only at go hI ⊢
  simp only [go_sem,Int.lt_irrefl,decide_false]
  rw [hI]; rfl
end Go.AI
namespace Go.AI
open Go.Proofs
set_option maxRecDepth 50000
def cloC (f : Head -> Option (List Head)) : Nat -> List Head -> List Head -> Int
 | 0,_,_ => 0
 | k + 1,o,n => if n = [] then 0 else match imgGo f [] n with
  | none => 0
  | some m => (if newH o m = [] then 0 else 1) + cloC f k (mergeH o (newH o m)) (newH o m)
def resC : Option (List Head) -> Int -> AV
 | some r,n => .tup [.sl none (lHead r),.int .i64 n,.int .i64 0]
 | none,_ => .tup [.sl none [],.int .i64 0,.int .i64 2]
@[go_sem] theorem resC_pure (o : Option (List Head)) (n : Int) : (resC o n).pure = true:=by
 cases o <;> simp [resC,AV.pure,pureL,go_sem]
theorem newH_cons (o : List Head) (x : Head) (r : List Head) : newH o (x :: r) = (if (o.any fun y => decide (y = x)) = true then [] else [x]) ++ newH o r:=by
 unfold newH
 rw [List.filter_cons]
 cases (o.any fun y => decide (y = x)) <;> rfl
theorem newH_len (o n : List Head) : (newH o n).length <= n.length:=List.length_filter_le _ _
theorem p_closure (l : List Fld) (p : Policy) (t : Int) (F : Head -> Option (List Head)) (hF : evAt 42 l p t F) (hg : ∀ h r,rightH h = true -> F h = some r -> goodS r) (h : Head) (hr : rightH h = true) :
  PCall Tryz.prog 103 [.sl none (lFld l),.agg p.c,.agg h.c,.int .i64 t] (resC (cloGo F 300 [h] [h]) (cloC F 300 [h] [h])):=by
 refine pB h103_k rfl ?_
 simp only [Tryz.f103,go_sem]
 refine awp_wh (σ:=Nat × Option Nat × List Head × List Head × Nat × Bool) (fun s => [(0,.sl none (lFld l)),(3,.int .i64 t),(5,.ptr 0 0),(11,.sl s.2.1 (lHead s.2.2.1)),(12,.sl (some 10) (lHead s.2.2.2.1)),(13,.int .i64 s.2.2.2.2.1)] ++ bif s.2.2.2.2.2 then [(65,.bool false)] else []) (fun _ => [some p.c,some h.c])
  (fun s => goodS s.2.2.1 /\ (∀ z ∈ s.2.2.2.1,rightH z = true) /\ s.2.2.2.1.length <= 256 /\ s.2.2.2.2.1 <= s.1 /\ s.1 <= 256 /\ (s.2.2.2.1 ≠ [] -> s.1 + 1 <= s.2.2.1.length) /\ cloGo F 300 [h] [h] = cloGo F (300 - s.1) s.2.2.1 s.2.2.2.1 /\ cloC F 300 [h] [h] = s.2.2.2.2.1 + cloC F (300 - s.1) s.2.2.1 s.2.2.2.1 /\ (s.2.2.2.2.2 = true -> s.2.2.2.1 = []))
  (fun s => 300 - s.1) (0,some 10,[h],[h],0,false) ⟨goodS_one hr,by simpa using hr,by simp,Nat.le_refl _,by simp,by simp,rfl,by simp,fun h => by cases h⟩ rfl rfl ?_
 rintro ⟨j,w,o,n,c,x⟩ ⟨go,gn,hn,hc,hj,hlen,hG,hC,hX⟩
 dsimp only at go gn hn hc hj hlen hG hC hX ⊢
 generalize cloGo F 300 [h] [h] = R at hG ⊢
 generalize cloC F 300 [h] [h] = N at hC ⊢
 obtain ⟨k,hk⟩ : ∃ k,300 - j = k + 1:=⟨299 - j,by omega⟩
 rw [hk,cloGo] at hG
 rw [hk,cloC] at hC
 by_cases h0 : n = []
 ·subst h0
  rw [if_pos rfl] at hG hC
  have g0 : decide ((0 : Int) < ((0 : Nat) : Int)) = false:=by decide
  cases x with
  | true =>
   simp only [cond_true,List.cons_append,List.nil_append]
   cases w with
   | none =>
    simp only [go_sem,List.length_nil,g0]
    rw [hG,hC,Int.add_zero]; rfl
   | some w =>
    simp only [go_sem,List.length_nil,g0]
    rw [hG,hC,Int.add_zero]; rfl
  | false =>
   simp only [cond_false,List.append_nil]
   cases w with
   | none =>
    simp only [go_sem,List.length_nil,g0]
    rw [hG,hC,Int.add_zero]; rfl
   | some w =>
    simp only [go_sem,List.length_nil,g0]
    rw [hG,hC,Int.add_zero]; rfl
 ·rw [if_neg h0] at hG hC
  have hxf : x = false:=by cases x with
   | true => exact absurd (hX rfl) h0
   | false => rfl
  subst hxf
  simp only [cond_false,List.append_nil]
  have hpos : 0 < n.length:=List.length_pos_iff.2 h0
  have g0 : ((0 : Int) < (n.length : Int)):=by omega
  have c1:=p_Image l p t F hF hg n gn (by omega)
  cases hi : imgGo F [] n with
  | none =>
   rw [hi] at hG hC c1
   cases w with
   | none =>
    simp only [go_sem,g0,decide_true]
    repeat' (first
     | (refine pK (c1) ?_; simp only [go_sem,g0,decide_true,Int.reduceBNe])
     | ((first | refine cS ?_ ?_ | refine gS ?_ ?_) <;> (intro hc; simp only [go_sem,hc,g0,decide_true,Int.reduceBNe])))
    rw [hG]; rfl
   | some w =>
    simp only [go_sem,g0,decide_true]
    repeat' (first
     | (refine pK (c1) ?_; simp only [go_sem,g0,decide_true,Int.reduceBNe])
     | ((first | refine cS ?_ ?_ | refine gS ?_ ?_) <;> (intro hc; simp only [go_sem,hc,g0,decide_true,Int.reduceBNe])))
    rw [hG]; rfl
  | some m =>
   rw [hi] at hG hC c1
   dsimp only at hG hC
   have gm:=goodS_img hg n [] m goodS_nil gn hi
   cases w with
   | none =>
    simp only [go_sem,g0,decide_true]
    repeat' (first
     | (refine pK (c1) ?_; simp only [go_sem,g0,decide_true,Int.reduceBNe])
     | ((first | refine cS ?_ ?_ | refine gS ?_ ?_) <;> (intro hc; simp only [go_sem,hc,g0,decide_true,Int.reduceBNe])))
    refine awp_lst m (fun (s : List Head) r => s ++ newH o r) (fun k s => s.length <= k) (fun k s => [(0,.sl none (lFld l)),(3,.int .i64 t),(5,.ptr 0 0),(11,.sl none (lHead o)),(12,.sl (some 10) (lHead s)),(13,.int .i64 c),(14,.sl none (lHead m)),(16,.int .i64 k)]) (fun _ _ => [some p.c,some h.c]) [] (by have:=gm.2.1; omega) (Nat.le_refl _) rfl rfl ?_ ?_
    ·intro i s y ys hd hx hs hI h0' h1 hw
     have c2:=p_In13 o (by have:=go.2.1; omega) y
     rw [newH_cons] at hI
     simp only [go_sem,h0',h1,lHead_get hx]
     repeat' (first
      | (refine pK (c2) ?_; simp only [go_sem,h0',h1,hw,lHead_get hx])
      | ((first | refine cS ?_ ?_ | refine gS ?_ ?_) <;> (intro hc; simp only [go_sem,hc,h0',h1,hw,lHead_get hx])))
     ·have hno : (o.any fun x => decide (x = y)) = false:=by simpa using hc
      have hml:=gm.2.1
      exact ⟨by omega,by omega,s ++ [y],by rw [newH_cons,hno,if_neg (by decide),List.append_assoc],by simp; omega,rfl,rfl⟩
     ·have hno : (o.any fun x => decide (x = y)) = true:=by simpa using hc
      exact ⟨s,by rw [newH_cons,hno,if_pos rfl]; rfl,by omega,rfl,rfl⟩
    ·intro s hs hI
     simp only [go_sem,Int.lt_irrefl,decide_false]
     have hsn : s = newH o m:=by simpa [newH] using hI.symm
     subst hsn
     have hnl:=newH_len o m
     have hml:=gm.2.1
     have hol:=go.2.1
     have c3:=p_Merge13 o (newH o m) (by omega)
     have hjo:=hlen h0
     have hcw:=w64s (k:=c) (by omega)
     have e300 : 300 - (j + 1) = k:=by omega
     have gnew : ∀ z ∈ newH o m,rightH z = true:=fun z hz => gm.2.2 z (newH_mem.1 hz).1
     repeat' (first
      | (refine pK (c3) ?_; simp only [go_sem,hcw])
      | ((first | refine cS ?_ ?_ | refine gS ?_ ?_) <;> (intro hc; simp only [go_sem,hc,hcw])))
     ·rw [hG,if_pos (by have:=of_decide_eq_true hc; omega)]; rfl
     ·rename_i hc0
      have hle : ¬ 256 < (mergeH o (newH o m)).length:=by have:=of_decide_eq_false hc0; omega
      have hne : newH o m ≠ []:=List.length_pos_iff.1 (by have:=of_decide_eq_true hc; omega)
      have hmn:=merge_new hne
      rw [if_neg hle] at hG
      rw [if_neg hne] at hC
      refine ⟨(j + 1,none,mergeH o (newH o m),newH o m,c + 1,false),⟨goodS_merge go gnew hle,gnew,by dsimp only; omega,by dsimp only; omega,by dsimp only; omega,fun _ => by dsimp only; omega,by dsimp only; rw [e300]; exact hG,by dsimp only; rw [e300,hC]; omega,fun h => by cases h⟩,by dsimp only; omega, ?_⟩
      exact ⟨rfl,rfl⟩
     ·rename_i hc0
      have hle : ¬ 256 < (mergeH o (newH o m)).length:=by have:=of_decide_eq_false hc0; omega
      have hne : newH o m = []:=List.length_eq_zero_iff.1 (by have:=of_decide_eq_false hc; omega)
      rw [if_neg hle] at hG
      rw [if_pos hne] at hC
      refine ⟨(j + 1,none,mergeH o (newH o m),newH o m,c,true),⟨goodS_merge go gnew hle,gnew,by dsimp only; omega,by dsimp only; omega,by dsimp only; omega,fun h => absurd hne h,by dsimp only; rw [e300]; exact hG,by dsimp only; rw [e300,hC]; omega,fun _ => hne⟩,by dsimp only; omega,rfl,rfl⟩
   | some w =>
    simp only [go_sem,g0,decide_true]
    repeat' (first
     | (refine pK (c1) ?_; simp only [go_sem,g0,decide_true,Int.reduceBNe])
     | ((first | refine cS ?_ ?_ | refine gS ?_ ?_) <;> (intro hc; simp only [go_sem,hc,g0,decide_true,Int.reduceBNe])))
    refine awp_lst m (fun (s : List Head) r => s ++ newH o r) (fun k s => s.length <= k) (fun k s => [(0,.sl none (lFld l)),(3,.int .i64 t),(5,.ptr 0 0),(11,.sl (some w) (lHead o)),(12,.sl (some 10) (lHead s)),(13,.int .i64 c),(14,.sl none (lHead m)),(16,.int .i64 k)]) (fun _ _ => [some p.c,some h.c]) [] (by have:=gm.2.1; omega) (Nat.le_refl _) rfl rfl ?_ ?_
    ·intro i s y ys hd hx hs hI h0' h1 hw
     have c2:=p_In13 o (by have:=go.2.1; omega) y
     rw [newH_cons] at hI
     simp only [go_sem,h0',h1,lHead_get hx]
     repeat' (first
      | (refine pK (c2) ?_; simp only [go_sem,h0',h1,hw,lHead_get hx])
      | ((first | refine cS ?_ ?_ | refine gS ?_ ?_) <;> (intro hc; simp only [go_sem,hc,h0',h1,hw,lHead_get hx])))
     ·have hno : (o.any fun x => decide (x = y)) = false:=by simpa using hc
      have hml:=gm.2.1
      exact ⟨by omega,by omega,s ++ [y],by rw [newH_cons,hno,if_neg (by decide),List.append_assoc],by simp; omega,rfl,rfl⟩
     ·have hno : (o.any fun x => decide (x = y)) = true:=by simpa using hc
      exact ⟨s,by rw [newH_cons,hno,if_pos rfl]; rfl,by omega,rfl,rfl⟩
    ·intro s hs hI
     simp only [go_sem,Int.lt_irrefl,decide_false]
     have hsn : s = newH o m:=by simpa [newH] using hI.symm
     subst hsn
     have hnl:=newH_len o m
     have hml:=gm.2.1
     have hol:=go.2.1
     have c3:=p_Merge13 o (newH o m) (by omega)
     have hjo:=hlen h0
     have hcw:=w64s (k:=c) (by omega)
     have e300 : 300 - (j + 1) = k:=by omega
     have gnew : ∀ z ∈ newH o m,rightH z = true:=fun z hz => gm.2.2 z (newH_mem.1 hz).1
     repeat' (first
      | (refine pK (c3) ?_; simp only [go_sem,hcw])
      | ((first | refine cS ?_ ?_ | refine gS ?_ ?_) <;> (intro hc; simp only [go_sem,hc,hcw])))
     ·rw [hG,if_pos (by have:=of_decide_eq_true hc; omega)]; rfl
     ·rename_i hc0
      have hle : ¬ 256 < (mergeH o (newH o m)).length:=by have:=of_decide_eq_false hc0; omega
      have hne : newH o m ≠ []:=List.length_pos_iff.1 (by have:=of_decide_eq_true hc; omega)
      have hmn:=merge_new hne
      rw [if_neg hle] at hG
      rw [if_neg hne] at hC
      refine ⟨(j + 1,none,mergeH o (newH o m),newH o m,c + 1,false),⟨goodS_merge go gnew hle,gnew,by dsimp only; omega,by dsimp only; omega,by dsimp only; omega,fun _ => by dsimp only; omega,by dsimp only; rw [e300]; exact hG,by dsimp only; rw [e300,hC]; omega,fun h => by cases h⟩,by dsimp only; omega, ?_⟩
      exact ⟨rfl,rfl⟩
     ·rename_i hc0
      have hle : ¬ 256 < (mergeH o (newH o m)).length:=by have:=of_decide_eq_false hc0; omega
      have hne : newH o m = []:=List.length_eq_zero_iff.1 (by have:=of_decide_eq_false hc; omega)
      rw [if_neg hle] at hG
      rw [if_pos hne] at hC
      refine ⟨(j + 1,none,mergeH o (newH o m),newH o m,c,true),⟨goodS_merge go gnew hle,gnew,by dsimp only; omega,by dsimp only; omega,by dsimp only; omega,fun h => absurd hne h,by dsimp only; rw [e300]; exact hG,by dsimp only; rw [e300,hC]; omega,fun _ => hne⟩,by dsimp only; omega,rfl,rfl⟩
end Go.AI
namespace Go.AI
theorem goodO_arg {l : List Fld} {x y : Policy} (hx : goodO l x) (hy : y ∈ x.args) : goodO l y:=by
 obtain ⟨h1,h2⟩:=hx
 rw [fmO_eq,Bool.and_eq_true] at h1
 have hf : ∀ r : List Policy,fmOs r = true -> ∀ z ∈ r,fmO z = true:=by
  intro r
  induction r with
  | nil => intro _ z hz; cases hz
  | cons a r ih =>
   intro h z hz
   rw [fmOs_cons,Bool.and_eq_true] at h
   rcases List.mem_cons.1 hz with rfl | hz
   ·exact h.1
   ·exact ih h.2 z hz
 refine ⟨hf _ h1.2 y hy,fun z hz => h2 z ?_⟩
 have hs : ∀ r : List Policy,y ∈ r -> z ∈ ptsOs r:=by
  intro r
  induction r with
  | nil => intro h; cases h
  | cons a r ih =>
   intro h
   rw [ptsOs_cons]
   rcases List.mem_cons.1 h with rfl | h
   ·exact List.mem_append_left _ hz
   ·exact List.mem_append_right _ (ih h)
 rw [ptsO_eq]
 exact List.mem_cons_of_mem _ (hs _ hy)
theorem goodO_kind {l : List Fld} (hl : okFs l) {x : Policy} (hx : goodO l x) :
  (x.kind = 1 /\ goodP l x.pred) \/ (x.kind = 2 /\ okFld (findF l x.field).1 /\ (findF l x.field).2 = true /\ 0 <= x.n /\ x.n.toNat < 2 ^ fW (findF l x.field).1) \/
  ((x.kind = 3 \/ x.kind = 4) /\ ∃ a b,x.args = [a,b] /\ goodO l a /\ goodO l b) \/ (x.kind = 5 /\ ∃ a,x.args = [a] /\ goodO l a):=by
 have hfit:=hx.2 x (by rw [ptsO_eq]; simp)
 have harg:=fun y hy => goodO_arg (y:=y) hx hy
 have hfm:=hx.1
 rw [fmO_eq,Bool.and_eq_true,Bool.and_eq_true,beq_iff_eq] at hfm
 obtain ⟨⟨hok,hlen⟩,_⟩:=hfm
 unfold okO at hok hlen
 unfold polE at hfit
 by_cases k1 : x.kind = 1
 ·rw [if_pos k1] at hok hfit
  rw [Bool.and_eq_true] at hok
  exact .inl ⟨k1,hok.1,(fitGo_all l _).1 hfit⟩
 rw [if_neg k1] at hok hlen hfit
 by_cases k2 : x.kind = 2
 ·rw [if_pos k2] at hok hfit
  by_cases hf : (findF l x.field).2 = false
  ·rw [if_pos hf] at hfit; cases hfit
  ·rw [if_neg hf] at hfit
   have hft : (findF l x.field).2 = true:=by simpa using hf
   have hfo:=okFld_find hl hft
   rw [maxF_val hfo] at hfit
   have hp:=Nat.two_pow_pos (fW (findF l x.field).1)
   simp [w16] at hok
   refine .inr (.inl ⟨k2,hfo,hft,hok.2.2.1, ?_⟩)
   split at hfit
   ·cases hfit
   ·omega
 rw [if_neg k2] at hok hlen
 by_cases k3 : x.kind = 3 \/ x.kind = 4
 ·rw [if_pos k3] at hlen
  refine .inr (.inr (.inl ⟨k3, ?_⟩))
  match hxa : x.args,hlen with
  | [a,b],_ => exact ⟨a,b,rfl,harg a (by rw [hxa]; simp),harg b (by rw [hxa]; simp)⟩
 rw [if_neg k3] at hok hlen
 by_cases k5 : x.kind = 5
 ·rw [if_pos k5] at hlen
  refine .inr (.inr (.inr ⟨k5, ?_⟩))
  match hxa : x.args,hlen with
  | [a],_ => exact ⟨a,rfl,harg a (by rw [hxa]; simp)⟩
 rw [if_neg k5] at hok
 cases hok
theorem vO_good (l : List Fld) (hl : okFs l) (t : Int) : ∀ x : Policy,goodO l x -> ∀ h r,rightH h = true -> vO l t x h = some r -> goodS r:=by
 refine Policy.ind _ fun x ih => fun hx h r hr e => ?_
 rw [vO_eq] at e
 unfold stepO at e
 rcases goodO_kind hl hx with ⟨k,gp⟩ | ⟨k,hfo,hft,hn,hn2⟩ | ⟨k,a,b,ha,ga,gb⟩ | ⟨k,a,ha,ga⟩
 ·rw [if_pos k] at e
  have e2:=Option.some.inj e
  by_cases hb : hP l t x.pred h = true
  ·rw [if_pos hb] at e2; rw [<- e2]; exact goodS_one hr
  ·rw [if_neg hb] at e2; rw [<- e2]; exact goodS_nil
 ·rw [if_neg (by omega),if_pos k] at e
  cases e
  exact goodS_one (right_setN hfo hn2 hr)
 ·have e0 : onth (vOs l t x.args) 0 = vO l t a:=vOs_at l t (by rw [ha]; rfl)
  have e1 : onth (vOs l t x.args) 1 = vO l t b:=vOs_at l t (by rw [ha]; rfl)
  rw [e0,e1] at e
  have ih0:=ih a (by rw [ha]; simp) ga
  have ih1:=ih b (by rw [ha]; simp) gb
  rcases k with k | k
  ·rw [if_neg (by omega),if_neg (by omega),if_pos k] at e
   cases hva : vO l t a h with
   | none => rw [hva] at e; cases e
   | some u =>
    cases hvb : vO l t b h with
    | none => rw [hva,hvb] at e; cases e
    | some v =>
     rw [hva,hvb] at e
     dsimp only [bndO] at e
     by_cases hc : 256 < (mergeH u v).length
     ·rw [if_pos hc] at e; cases e
     ·rw [if_neg hc] at e; cases e
      exact goodS_merge (ih0 h u hr hva) (ih1 h v hr hvb).2.2 hc
  ·rw [if_neg (by omega),if_neg (by omega),if_neg (by omega),if_pos k] at e
   cases hva : vO l t a h with
   | none => rw [hva] at e; cases e
   | some u =>
    rw [hva] at e
    exact goodS_img ih1 u [] r goodS_nil (ih0 h u hr hva).2.2 e
 ·have e0 : onth (vOs l t x.args) 0 = vO l t a:=vOs_at l t (by rw [ha]; rfl)
  rw [if_neg (by omega),if_neg (by omega),if_neg (by omega),if_neg (by omega),e0] at e
  exact goodS_clo (ih a (by rw [ha]; simp) ga) 300 [h] [h] r (goodS_one hr) (by simpa using hr) e
end Go.AI
namespace Go.AI
open Go.Proofs
set_option maxRecDepth 50000
@[go_sem] theorem resC_some (r : List Head) (n : Int) : resC (some r) n = .tup [.sl none (lHead r),.int .i64 n,.int .i64 0]:=rfl
@[go_sem] theorem resC_none (n : Int) : resC none n = .tup [.sl none [],.int .i64 0,.int .i64 2]:=rfl
theorem p_Eval13 (l : List Fld) (hl : okFs l) (t : Int) : ∀ x : Policy,goodO l x -> evAt 42 l x t (vO l t x):=by
 refine Policy.ind _ fun x ih => fun hx h hr => ?_
 rw [vO_eq]
 rcases goodO_kind hl hx with ⟨k,gp⟩ | ⟨k,hfo,hft,hn,hn2⟩ | ⟨k,a,b,ha,ga,gb⟩ | ⟨k,a,ha,ga⟩
 ·have c1:=p_Holds l hl t x.pred gp h hr
  refine pB h42_k rfl ?_
  simp only [Tryz.f42,go_sem,k,Int.reduceBEq]
  repeat' (first
   | (refine pK (c1) ?_; simp only [go_sem,k,Int.reduceBEq])
   | ((first | refine cS ?_ ?_ | refine gS ?_ ?_) <;> (intro hc; simp only [go_sem,hc,k,Int.reduceBEq])))
  ·show _ = resO (some (if hP l t x.pred h = true then [h] else []))
   rw [if_pos hc]; rfl
  ·show _ = resO (some (if hP l t x.pred h = true then [h] else []))
   rw [if_neg (by rw [hc]; decide)]; rfl
 ·have c1:=c_Find l x.field
  have c2:=p_Set8 _ hfo h hr x.n.toNat hn2
  rw [Int.toNat_of_nonneg hn] at c2
  refine pB h42_k rfl ?_
  simp only [Tryz.f42,go_sem,k,Int.reduceBEq]
  repeat' (first
   | ((first | refine pK (c1) ?_ | refine pK (c2) ?_); simp only [go_sem,k,Int.reduceBEq])
   | ((first | refine cS ?_ ?_ | refine gS ?_ ?_) <;> (intro hc; simp only [go_sem,hc,k,Int.reduceBEq])))
  rfl
 ·have e0 : onth (vOs l t x.args) 0 = vO l t a:=vOs_at l t (by rw [ha]; rfl)
  have e1 : onth (vOs l t x.args) 1 = vO l t b:=vOs_at l t (by rw [ha]; rfl)
  have i0:=ih a (by rw [ha]; simp) ga
  have i1:=ih b (by rw [ha]; simp) gb
  have v0:=vO_good l hl t a ga
  have v1:=vO_good l hl t b gb
  have g1 : (0 : Int) < (x.args.length : Int):=by rw [ha]; simp
  have g2:=lPolicy_get (l:=x.args) (i:=0) (x:=a) (by rw [ha]; rfl)
  have g3 : (1 : Int) < (x.args.length : Int):=by rw [ha]; simp
  have g4:=lPolicy_get (l:=x.args) (i:=1) (x:=b) (by rw [ha]; rfl)
  have c1:=i0 h hr
  have c2:=i1 h hr
  rcases k with k | k
  ·cases ea : vO l t a h with
   | none =>
    rw [ea] at c1
    cases eb : vO l t b h with
    | none =>
     rw [eb] at c2
     refine pB h42_k rfl ?_
     simp only [Tryz.f42,go_sem,k,Int.reduceBEq,g1,g2,g3,g4]
     repeat' (first
      | ((first | refine pK (c1) ?_ | refine pK (c2) ?_); simp only [go_sem,k,Int.reduceBEq,Int.reduceBNe,g1,g2,g3,g4])
      | ((first | refine cS ?_ ?_ | refine gS ?_ ?_) <;> (intro hc; simp only [go_sem,hc,k,Int.reduceBEq,Int.reduceBNe,g1,g2,g3,g4])))
     show _ = resO (match onth (vOs l t x.args) 0 h,onth (vOs l t x.args) 1 h with | some a,some b => bndO (mergeH a b) | _,_ => none)
     rw [e0,e1,ea,eb]; rfl
    | some v =>
     rw [eb] at c2
     refine pB h42_k rfl ?_
     simp only [Tryz.f42,go_sem,k,Int.reduceBEq,g1,g2,g3,g4]
     repeat' (first
      | ((first | refine pK (c1) ?_ | refine pK (c2) ?_); simp only [go_sem,k,Int.reduceBEq,Int.reduceBNe,g1,g2,g3,g4])
      | ((first | refine cS ?_ ?_ | refine gS ?_ ?_) <;> (intro hc; simp only [go_sem,hc,k,Int.reduceBEq,Int.reduceBNe,g1,g2,g3,g4])))
     show _ = resO (match onth (vOs l t x.args) 0 h,onth (vOs l t x.args) 1 h with | some a,some b => bndO (mergeH a b) | _,_ => none)
     rw [e0,e1,ea,eb]; rfl
   | some u =>
    rw [ea] at c1
    cases eb : vO l t b h with
    | none =>
     rw [eb] at c2
     refine pB h42_k rfl ?_
     simp only [Tryz.f42,go_sem,k,Int.reduceBEq,g1,g2,g3,g4]
     repeat' (first
      | ((first | refine pK (c1) ?_ | refine pK (c2) ?_); simp only [go_sem,k,Int.reduceBEq,Int.reduceBNe,g1,g2,g3,g4])
      | ((first | refine cS ?_ ?_ | refine gS ?_ ?_) <;> (intro hc; simp only [go_sem,hc,k,Int.reduceBEq,Int.reduceBNe,g1,g2,g3,g4])))
     show _ = resO (match onth (vOs l t x.args) 0 h,onth (vOs l t x.args) 1 h with | some a,some b => bndO (mergeH a b) | _,_ => none)
     rw [e0,e1,ea,eb]; rfl
    | some v =>
     rw [eb] at c2
     have gu:=v0 h u hr ea
     have gv:=v1 h v hr eb
     have c3:=p_Merge13 u v (by have:=gu.2.1; have:=gv.2.1; omega)
     have c4:=p_bounded (mergeH u v)
     have hst : stepO l t 3 x.pred x.field x.n (vOs l t x.args) h = bndO (mergeH u v):=by
      show (match onth (vOs l t x.args) 0 h,onth (vOs l t x.args) 1 h with | some a,some b => bndO (mergeH a b) | _,_ => none) = _
      rw [e0,e1,ea,eb]
     rw [k,hst]
     cases eo : bndO (mergeH u v) with
     | none =>
      rw [eo] at c4
      refine pB h42_k rfl ?_
      simp only [Tryz.f42,go_sem,k,Int.reduceBEq,g1,g2,g3,g4]
      repeat' (first
       | ((first | refine pK (c1) ?_ | refine pK (c2) ?_ | refine pK (c3) ?_ | refine pK (c4) ?_); simp only [go_sem,k,Int.reduceBEq,Int.reduceBNe,g1,g2,g3,g4])
       | ((first | refine cS ?_ ?_ | refine gS ?_ ?_) <;> (intro hc; simp only [go_sem,hc,k,Int.reduceBEq,Int.reduceBNe,g1,g2,g3,g4])))
     | some r =>
      rw [eo] at c4
      refine pB h42_k rfl ?_
      simp only [Tryz.f42,go_sem,k,Int.reduceBEq,g1,g2,g3,g4]
      repeat' (first
       | ((first | refine pK (c1) ?_ | refine pK (c2) ?_ | refine pK (c3) ?_ | refine pK (c4) ?_); simp only [go_sem,k,Int.reduceBEq,Int.reduceBNe,g1,g2,g3,g4])
       | ((first | refine cS ?_ ?_ | refine gS ?_ ?_) <;> (intro hc; simp only [go_sem,hc,k,Int.reduceBEq,Int.reduceBNe,g1,g2,g3,g4])))
  ·cases ea : vO l t a h with
   | none =>
    rw [ea] at c1
    refine pB h42_k rfl ?_
    simp only [Tryz.f42,go_sem,k,Int.reduceBEq,g1,g2,g3,g4]
    repeat' (first
     | (refine pK (c1) ?_; simp only [go_sem,k,Int.reduceBEq,Int.reduceBNe,g1,g2,g3,g4])
     | ((first | refine cS ?_ ?_ | refine gS ?_ ?_) <;> (intro hc; simp only [go_sem,hc,k,Int.reduceBEq,Int.reduceBNe,g1,g2,g3,g4])))
    show _ = resO (match onth (vOs l t x.args) 0 h with | some a => imgGo (onth (vOs l t x.args) 1) [] a | none => none)
    rw [e0,ea]; rfl
   | some u =>
    rw [ea] at c1
    have gu:=v0 h u hr ea
    have c3:=p_Image l b t _ i1 v1 u gu.2.2 (by have:=gu.2.1; omega)
    have hst : stepO l t 4 x.pred x.field x.n (vOs l t x.args) h = imgGo (vO l t b) [] u:=by
     show (match onth (vOs l t x.args) 0 h with | some a => imgGo (onth (vOs l t x.args) 1) [] a | none => none) = _
     rw [e0,e1,ea]
    rw [k,hst]
    cases eo : imgGo (vO l t b) [] u with
    | none =>
     rw [eo] at c3
     refine pB h42_k rfl ?_
     simp only [Tryz.f42,go_sem,k,Int.reduceBEq,g1,g2,g3,g4]
     repeat' (first
      | ((first | refine pK (c1) ?_ | refine pK (c3) ?_); simp only [go_sem,k,Int.reduceBEq,Int.reduceBNe,g1,g2,g3,g4])
      | ((first | refine cS ?_ ?_ | refine gS ?_ ?_) <;> (intro hc; simp only [go_sem,hc,k,Int.reduceBEq,Int.reduceBNe,g1,g2,g3,g4])))
    | some r =>
     rw [eo] at c3
     refine pB h42_k rfl ?_
     simp only [Tryz.f42,go_sem,k,Int.reduceBEq,g1,g2,g3,g4]
     repeat' (first
      | ((first | refine pK (c1) ?_ | refine pK (c3) ?_); simp only [go_sem,k,Int.reduceBEq,Int.reduceBNe,g1,g2,g3,g4])
      | ((first | refine cS ?_ ?_ | refine gS ?_ ?_) <;> (intro hc; simp only [go_sem,hc,k,Int.reduceBEq,Int.reduceBNe,g1,g2,g3,g4])))
 ·have e0 : onth (vOs l t x.args) 0 = vO l t a:=vOs_at l t (by rw [ha]; rfl)
  have i0:=ih a (by rw [ha]; simp) ga
  have v0:=vO_good l hl t a ga
  have g1 : (0 : Int) < (x.args.length : Int):=by rw [ha]; simp
  have g2:=lPolicy_get (l:=x.args) (i:=0) (x:=a) (by rw [ha]; rfl)
  have g3:=g1
  have g4:=g2
  have c1:=p_closure l a t _ i0 v0 h hr
  have hst : stepO l t 5 x.pred x.field x.n (vOs l t x.args) h = cloGo (vO l t a) 300 [h] [h]:=by
   show cloGo (onth (vOs l t x.args) 0) 300 [h] [h] = _
   rw [e0]
  rw [k,hst]
  cases eo : cloGo (vO l t a) 300 [h] [h] with
  | none =>
   rw [eo] at c1
   refine pB h42_k rfl ?_
   simp only [Tryz.f42,go_sem,k,Int.reduceBEq,g1,g2,g3,g4]
   repeat' (first
    | (refine pK (c1) ?_; simp only [go_sem,k,Int.reduceBEq,Int.reduceBNe,g1,g2,g3,g4])
    | ((first | refine cS ?_ ?_ | refine gS ?_ ?_) <;> (intro hc; simp only [go_sem,hc,k,Int.reduceBEq,Int.reduceBNe,g1,g2,g3,g4])))
  | some r =>
   rw [eo] at c1
   refine pB h42_k rfl ?_
   simp only [Tryz.f42,go_sem,k,Int.reduceBEq,g1,g2,g3,g4]
   repeat' (first
    | (refine pK (c1) ?_; simp only [go_sem,k,Int.reduceBEq,Int.reduceBNe,g1,g2,g3,g4])
    | ((first | refine cS ?_ ?_ | refine gS ?_ ?_) <;> (intro hc; simp only [go_sem,hc,k,Int.reduceBEq,Int.reduceBNe,g1,g2,g3,g4])))
end Go.AI
namespace Go.AI
open Go.Proofs
set_option maxRecDepth 50000
def overGo (n : Int) : List Wire -> Int × Bool
 | [] => (0,false)
 | w :: r => if w.src = n then (w.dst,true) else overGo n r
theorem p_over (t : Tenant) (hl : t.wires.length <= 9223372036854775807) (n : Int) : PCall Tryz.prog 105 [.agg t.c,.int .i64 n] (.tup [.int .i64 (overGo n t.wires).1,.bool (overGo n t.wires).2]):=by
 refine pC h105_k rfl ?_
 simp only [Tryz.f105,go_sem]
 refine awp_all t.wires (overGo n) (fun k => [(1,.int .i64 n),(2,.ptr 0 0),(6,.int .i64 k)]) hl rfl ?_ ?_
 ·intro k y ys hd hx hF h0 h1 hw
  rw [overGo] at hF
  simp only [go_sem,h0,h1,lWire_get hx]
  repeat' (first
   | ((first | refine cS ?_ ?_ | refine gS ?_ ?_) <;> (intro hc; simp only [go_sem,hc,h0,h1,hw,lWire_get hx])))
  ·rw [if_pos (by simpa using hc)] at hF
   rw [hF]
  ·rw [overGo,if_neg (by simpa using hc)]
 ·intro hF hlt
  simp only [go_sem,hlt,decide_false]
  rw [hF]; rfl
end Go.AI
namespace Go.AI
def lastNew (o : List Head) : Head -> List Head -> Head
 | z,[] => z
 | z,x :: r => lastNew o (if (o.any fun y => decide (y = x)) = true then z else x) r
def agnGo (f : Head -> Option (List Head)) (ws : List Wire) : Nat -> List Head -> List Head -> Option (List Head)
  | 0, _, _ => none
  | k + 1, hs, o => if o.length < hs.length then
      (if (overGo (lastNew o Head.z hs).h0 ws).2 = false then agnGo f ws k hs (mergeH o [lastNew o Head.z hs])
       else match f { lastNew o Head.z hs with h0 := (overGo (lastNew o Head.z hs).h0 ws).1 } with
        | none => none
        | some a => if 256 < (mergeH hs a).length then none else agnGo f ws k (mergeH hs a) (mergeH o [lastNew o Head.z hs]))
    else some (hs.filter fun h => (overGo h.h0 ws).2 == false)
def agnO (f : Head -> Option (List Head)) (ws : List Wire) (h : Head) : Option (List Head):=match f h with
 | none => none
 | some a => agnGo f ws 300 a []
end Go.AI
namespace Go.AI
inductive RchH (f : Head -> Option (List Head)) (x : Head) : Head -> Prop
 | refl : RchH f x x
 | step {y z : Head} {b : List Head} : RchH f x y -> f y = some b -> z ∈ b -> RchH f x z
theorem RchH.trans {f : Head -> Option (List Head)} {x y z : Head} (h1 : RchH f x y) (h2 : RchH f y z) : RchH f x z:=by
 induction h2 with
 | refl => exact h1
 | step _ h3 h4 ih => exact ih.step h3 h4
theorem RchH.closed {f : Head -> Option (List Head)} {S : Head -> Prop} (hS : ∀ x,S x -> ∀ b,f x = some b -> ∀ z ∈ b,S z) {x z : Head} (hx : S x) (h : RchH f x z) : S z:=by
 induction h with
 | refl => exact hx
 | step _ h3 h4 ih => exact hS _ ih _ h3 _ h4
theorem imgGo_mem {f : Head -> Option (List Head)} : ∀ (xs o r : List Head),imgGo f o xs = some r -> (∀ z,z ∈ r ↔ z ∈ o \/ ∃ x ∈ xs,∃ b,f x = some b /\ z ∈ b) /\ ∀ x ∈ xs,∃ b,f x = some b
 | [],o,r,e => by
  rw [imgGo] at e
  cases e
  exact ⟨fun z => by simp,by simp⟩
 | x :: xs,o,r,e => by
  rw [imgGo] at e
  cases hx : f x with
  | none => rw [hx] at e; cases e
  | some a =>
   rw [hx] at e
   dsimp only at e
   by_cases hl : 256 < (mergeH o a).length
   ·rw [if_pos hl] at e; cases e
   ·rw [if_neg hl] at e
    obtain ⟨h1,h2⟩:=imgGo_mem xs _ r e
    refine ⟨fun z => ?_,fun y hy => ?_⟩
    ·rw [h1 z,mem_mergeH]
     constructor
     ·rintro ((h | h) | ⟨y,hy,b,hb,hz⟩)
      ·exact .inl h
      ·exact .inr ⟨x,by simp,a,hx,h⟩
      ·exact .inr ⟨y,by simp [hy],b,hb,hz⟩
     ·rintro (h | ⟨y,hy,b,hb,hz⟩)
      ·exact .inl (.inl h)
      ·rcases List.mem_cons.1 hy with rfl | hy
       ·rw [hx] at hb; cases hb; exact .inl (.inr hz)
       ·exact .inr ⟨y,hy,b,hb,hz⟩
    ·rcases List.mem_cons.1 hy with rfl | hy
     ·exact ⟨a,hx⟩
     ·exact h2 y hy
theorem imgGo_srt {f : Head -> Option (List Head)} : ∀ (xs o r : List Head),srtH o -> imgGo f o xs = some r -> srtH r
 | [],o,r,ho,e => by
  rw [imgGo] at e
  cases e; exact ho
 | x :: xs,o,r,ho,e => by
  rw [imgGo] at e
  cases hx : f x with
  | none => rw [hx] at e; cases e
  | some a =>
   rw [hx] at e
   dsimp only at e
   by_cases hl : 256 < (mergeH o a).length
   ·rw [if_pos hl] at e; cases e
   ·rw [if_neg hl] at e
    exact imgGo_srt xs _ r (srt_mergeH a ho) e
theorem cloGo_mem {f : Head -> Option (List Head)} : ∀ (k : Nat) (o n r : List Head),(∀ z ∈ n,z ∈ o) -> (∀ x ∈ o,x ∉ n -> ∀ b,f x = some b -> ∀ z ∈ b,z ∈ o) -> cloGo f k o n = some r ->
  (∀ z ∈ o,z ∈ r) /\ (∀ x ∈ r,∀ b,f x = some b -> ∀ z ∈ b,z ∈ r) /\ ∀ z ∈ r,∃ x ∈ o,RchH f x z
 | 0,o,n,r,_,_,e => by rw [cloGo] at e; cases e
 | k + 1,o,n,r,hn,ho,e => by
  rw [cloGo] at e
  by_cases h0 : n = []
  ·rw [if_pos h0] at e
   cases e
   exact ⟨fun z hz => hz,fun x hx => ho x hx (by rw [h0]; simp),fun z hz => ⟨z,hz,.refl⟩⟩
  ·rw [if_neg h0] at e
   cases hi : imgGo f [] n with
   | none => rw [hi] at e; cases e
   | some m =>
    rw [hi] at e
    dsimp only at e
    have hm:=(imgGo_mem n [] m hi).1
    by_cases hl : 256 < (mergeH o (newH o m)).length
    ·rw [if_pos hl] at e; cases e
    ·rw [if_neg hl] at e
     have hin : ∀ z,z ∈ mergeH o (newH o m) ↔ z ∈ o \/ z ∈ newH o m:=fun z => mem_mergeH z _ _
     obtain ⟨g1,g2,g3⟩:=cloGo_mem k _ _ r (fun z hz => (hin z).2 (.inr hz)) (fun x hx hxn b hb z hz => by
      have hxo : x ∈ o:=by
       rcases (hin x).1 hx with h | h
       ·exact h
       ·exact absurd h hxn
      rw [hin]
      by_cases hxn' : x ∈ n
      ·by_cases hzo : z ∈ o
       ·exact .inl hzo
       ·exact .inr (newH_mem.2 ⟨(hm z).2 (.inr ⟨x,hxn',b,hb,hz⟩),hzo⟩)
      ·exact .inl (ho x hxo hxn' b hb z hz)) e
     refine ⟨fun z hz => g1 z ((hin z).2 (.inl hz)),g2,fun z hz => ?_⟩
     obtain ⟨x,hx,hr⟩:=g3 z hz
     rcases (hin x).1 hx with h | h
     ·exact ⟨x,h,hr⟩
     ·rcases (hm x).1 (newH_mem.1 h).1 with h | ⟨y,hy,b,hb,hxb⟩
      ·cases h
      ·exact ⟨y,hn y hy,(RchH.refl.step hb hxb).trans hr⟩
theorem clo_mem {f : Head -> Option (List Head)} {k : Nat} {y : Head} {r : List Head} (h : cloGo f k [y] [y] = some r) (z : Head) : z ∈ r ↔ RchH f y z:=by
 obtain ⟨g1,g2,g3⟩:=cloGo_mem k [y] [y] r (fun z hz => hz) (fun x hx hn => absurd hx hn) h
 constructor
 ·intro hz
  obtain ⟨x,hx,hr⟩:=g3 z hz
  rw [List.mem_singleton.1 hx] at hr
  exact hr
 ·intro hz
  exact hz.closed (S:=fun z => z ∈ r) g2 (g1 y (by simp))
def gW (f : Head -> Option (List Head)) (ws : List Wire) (y : Head) : Option (List Head):=if (overGo y.h0 ws).2 = false then some [] else f { y with h0:=(overGo y.h0 ws).1 }
theorem lastNew_out (o : List Head) : ∀ (r : List Head) (z : Head),z ∉ o -> (lastNew o z r = z \/ lastNew o z r ∈ r) /\ lastNew o z r ∉ o
 | [],z,h => ⟨.inl rfl,h⟩
 | x :: r,z,h => by
  rw [lastNew]
  by_cases hx : (o.any fun y => decide (y = x)) = true
  ·rw [if_pos hx]
   obtain ⟨h1,h2⟩:=lastNew_out o r z h
   refine ⟨?_,h2⟩
   rcases h1 with h1 | h1
   ·exact .inl h1
   ·exact .inr (by simp [h1])
  ·rw [if_neg hx]
   have hxo : x ∉ o:=fun hc => hx (List.any_eq_true.2 ⟨x,hc,by simp⟩)
   obtain ⟨h1,h2⟩:=lastNew_out o r x hxo
   refine ⟨?_,h2⟩
   rcases h1 with h1 | h1
   ·exact .inr (by rw [h1]; simp)
   ·exact .inr (by simp [h1])
theorem lastNew_mem (o : List Head) : ∀ (r : List Head) (z : Head),(∃ x ∈ r,x ∉ o) -> lastNew o z r ∈ r /\ lastNew o z r ∉ o
 | [],z,⟨x,hx,_⟩ => by cases hx
 | x :: r,z,h => by
  rw [lastNew]
  by_cases hx : (o.any fun y => decide (y = x)) = true
  ·rw [if_pos hx]
   have hxo : x ∈ o:=by
    obtain ⟨y,hy,e⟩:=List.any_eq_true.1 hx
    rw [<- of_decide_eq_true e]; exact hy
   obtain ⟨y,hy,hyo⟩:=h
   rcases List.mem_cons.1 hy with rfl | hy
   ·exact absurd hxo hyo
   ·obtain ⟨h1,h2⟩:=lastNew_mem o r z ⟨y,hy,hyo⟩
    exact ⟨by simp [h1],h2⟩
  ·rw [if_neg hx]
   have hxo : x ∉ o:=fun hc => hx (List.any_eq_true.2 ⟨x,hc,by simp⟩)
   obtain ⟨h1,h2⟩:=lastNew_out o r x hxo
   refine ⟨?_,h2⟩
   rcases h1 with h1 | h1
   ·rw [h1]; simp
   ·simp [h1]
theorem srt_filter {p : Head -> Bool} {l : List Head} (h : srtH l) : srtH (l.filter p):=List.Pairwise.filter p h
theorem srt_sub_len {a b : List Head} (ha : srtH a) (hb : srtH b) (h : ∀ z ∈ a,z ∈ b) : a.length <= b.length:=by
 have e : b.filter (fun z => a.any fun y => decide (y = z)) = a:=srt_ext (srt_filter hb) ha fun z => by
  rw [List.mem_filter]
  constructor
  ·rintro ⟨_,h2⟩
   obtain ⟨y,hy,e⟩:=List.any_eq_true.1 h2
   rw [<- of_decide_eq_true e]; exact hy
  ·intro hz
   exact ⟨h z hz,List.any_eq_true.2 ⟨z,hz,by simp⟩⟩
 have:=List.length_filter_le (fun z => a.any fun y => decide (y = z)) b
 rw [e] at this
 exact this
theorem srt_sub_eq {a b : List Head} (ha : srtH a) (hb : srtH b) (h : ∀ z ∈ a,z ∈ b) (hl : b.length <= a.length) : ∀ z ∈ b,z ∈ a:=by
 intro z hz
 by_cases hza : z ∈ a
 ·exact hza
 ·exfalso
  have h1:=srt_sub_len (srt_putH z ha) hb fun y hy => by
   rcases (mem_putH z y a).1 hy with rfl | hy
   ·exact hz
   ·exact h y hy
  rw [putH_new z hza] at h1
  omega
theorem exists_new {a b : List Head} (hb : srtH b) (ha : srtH a) (hl : a.length < b.length) : ∃ x ∈ b,x ∉ a:=by
 by_cases h : ∃ x ∈ b,x ∉ a
 ·exact h
 ·exfalso
  have:=srt_sub_len hb ha fun z hz => by
   by_cases hza : z ∈ a
   ·exact hza
   ·exact absurd ⟨z,hz,hza⟩ h
  omega
theorem agnGo_mem {f : Head -> Option (List Head)} {ws : List Wire} : ∀ (k : Nat) (hs o s : List Head),srtH hs -> srtH o -> (∀ z ∈ o,z ∈ hs) -> (∀ x ∈ o,∀ b,gW f ws x = some b -> ∀ z ∈ b,z ∈ hs) -> agnGo f ws k hs o = some s ->
  srtH s /\ ∀ z,z ∈ s ↔ (∃ x ∈ hs,RchH (gW f ws) x z) /\ (overGo z.h0 ws).2 = false
 | 0,hs,o,s,_,_,_,_,e => by rw [agnGo] at e; cases e
 | k + 1,hs,o,s,h1,h2,h3,h4,e => by
  rw [agnGo] at e
  by_cases hl : o.length < hs.length
  ·rw [if_pos hl] at e
   obtain ⟨m1,m2⟩:=lastNew_mem o hs Head.z (exists_new h1 h2 hl)
   revert m1 m2 e
   generalize lastNew o Head.z hs = x
   intro e m1 m2
   have em : mergeH o [x] = putH x o:=rfl
   have hsub : ∀ z ∈ mergeH o [x],z ∈ hs:=fun z hz => by
    rw [em] at hz
    rcases (mem_putH x z o).1 hz with rfl | hz
    ·exact m1
    ·exact h3 z hz
   by_cases hw : (overGo x.h0 ws).2 = false
   ·rw [if_pos hw] at e
    refine agnGo_mem k hs _ s h1 (srt_mergeH [x] h2) hsub (fun y hy b hb z hz => ?_) e
    rw [em] at hy
    rcases (mem_putH x y o).1 hy with rfl | hy
    ·rw [gW,if_pos hw] at hb
     cases hb; cases hz
    ·exact h4 y hy b hb z hz
   ·rw [if_neg hw] at e
    cases hf : f { x with h0:=(overGo x.h0 ws).1 } with
    | none => rw [hf] at e; cases e
    | some a =>
     rw [hf] at e
     dsimp only at e
     by_cases hlim : 256 < (mergeH hs a).length
     ·rw [if_pos hlim] at e; cases e
     ·rw [if_neg hlim] at e
      have hg : gW f ws x = some a:=by rw [gW,if_neg hw,hf]
      obtain ⟨g1,g2⟩:=agnGo_mem k _ _ s (srt_mergeH a h1) (srt_mergeH [x] h2) (fun z hz => (mem_mergeH z a hs).2 (.inl (hsub z hz))) (fun y hy b hb z hz => by
       rw [em] at hy
       rw [mem_mergeH]
       rcases (mem_putH x y o).1 hy with rfl | hy
       ·rw [hg] at hb; cases hb; exact .inr hz
       ·exact .inl (h4 y hy b hb z hz)) e
      refine ⟨g1,fun z => ?_⟩
      rw [g2 z]
      constructor
      ·rintro ⟨⟨y,hy,hr⟩,hz⟩
       refine ⟨?_,hz⟩
       rcases (mem_mergeH y a hs).1 hy with hy | hy
       ·exact ⟨y,hy,hr⟩
       ·exact ⟨x,m1,(RchH.refl.step hg hy).trans hr⟩
      ·rintro ⟨⟨y,hy,hr⟩,hz⟩
       exact ⟨⟨y,(mem_mergeH y a hs).2 (.inl hy),hr⟩,hz⟩
  ·rw [if_neg hl] at e
   cases e
   have heq:=srt_sub_eq h2 h1 h3 (by omega)
   refine ⟨srt_filter h1,fun z => ?_⟩
   rw [List.mem_filter,beq_iff_eq]
   constructor
   ·rintro ⟨hz,hw⟩
    exact ⟨⟨z,hz,.refl⟩,hw⟩
   ·rintro ⟨⟨x,hx,hr⟩,hw⟩
    exact ⟨hr.closed (S:=fun z => z ∈ hs) (fun y hy => h4 y (heq y hy)) hx,hw⟩
theorem get_port {h : Head} (hr : rightH h = true) : (getN fldPort h : Int) = h.h0:=by
 have hw:=word_h0 hr
 have e1 : fK fldPort = 0:=by decide
 have e2 : fS fldPort = 0:=by decide
 have e3 : fW fldPort = 16:=by decide
 unfold getN
 rw [e1,e2,e3]
 have : wordAt h 0 = h.h0:=rfl
 rw [this]
 omega
theorem set_port {h : Head} (hr : rightH h = true) {n : Int} (h0 : 0 <= n) (h1 : n <= 65535) : setN fldPort h n.toNat = { h with h0:=n }:=by
 have hw:=word_h0 hr
 have e1 : fK fldPort = 0:=by decide
 have e2 : fS fldPort = 0:=by decide
 have e3 : fW fldPort = 16:=by decide
 unfold setN
 have hz:=set_parts (W:=(wordAt h (fK fldPort)).toNat) (s:=fS fldPort) (w:=fW fldPort) (n:=n.toNat) (by rw [e3]; omega)
 rw [hz,e1,e2,e3]
 have : wordAt h 0 = h.h0:=rfl
 rw [this]
 have e4 : (((2 ^ (0 + 16) * (h.h0.toNat / 2 ^ (0 + 16)) + (2 ^ 0 * n.toNat + h.h0.toNat % 2 ^ 0) : Nat)) : Int) = n:=by
  have : h.h0.toNat / 2 ^ (0 + 16) = 0:=by omega
  rw [this]
  omega
 rw [e4]
 rfl
theorem hP_at (l : List Fld) (t n : Int) {h : Head} (hr : rightH h = true) : hP l t (bAt n) h = decide (h.h0 = n):=by
 rw [hP_eq]
 unfold stepP bAt
 dsimp only
 rw [if_neg (by decide),if_neg (by decide),if_neg (by decide),if_neg (by decide),if_neg (by decide),if_neg (by decide),if_pos rfl,find_port]
 dsimp only
 rw [get_port hr]
theorem hP_or (l : List Fld) (t : Int) (x y : Pred) (h : Head) : hP l t (bOr x y) h = (hP l t x h || hP l t y h):=by
 rw [hP_eq]
 have e0 : fnth (hPs l t [x,y]) 0 h = hP l t x h:=hPs_at l t rfl h
 have e1 : fnth (hPs l t [x,y]) 1 h = hP l t y h:=hPs_at l t rfl h
 show (if (8 : Int) = 1 then true else _) = _
 rw [<- e0,<- e1]
 rfl
theorem hP_either (l : List Fld) (t : Int) (h : Head) (r : List Pred) : hP l t (bEither r) h = r.any fun x => hP l t x h:=by
 unfold bEither
 cases r with
 | nil => rw [joinL,hP_eq]; rfl
 | cons x r =>
  rw [joinL]
  have : ∀ (r : List Pred) (x : Pred),hP l t (r.foldl bOr x) h = (hP l t x h || r.any fun x => hP l t x h):=by
   intro r
   induction r with
   | nil => intro x; simp
   | cons y r ih => intro x; rw [List.foldl_cons,ih,hP_or,List.any_cons,Bool.or_assoc]
  rw [this,List.any_cons]
theorem over_any (n : Int) : ∀ ws : List Wire,(overGo n ws).2 = ws.any fun w => decide (w.src = n)
 | [] => rfl
 | w :: r => by
  rw [overGo,List.any_cons]
  by_cases h : w.src = n
  ·rw [if_pos h]; simp [h]
  ·rw [if_neg h,over_any n r]; simp [h]
theorem hP_wired (l : List Fld) (t : Int) (tn : Tenant) {h : Head} (hr : rightH h = true) : hP l t (bWired tn) h = (overGo h.h0 tn.wires).2:=by
 unfold bWired
 rw [hP_either,over_any,List.any_map]
 congr 1
 funext w
 show hP l t (bAt w.src) h = _
 rw [hP_at l t _ hr]
 simp [eq_comm]
theorem hP_not (l : List Fld) (t : Int) (x : Pred) (h : Head) : hP l t (bNot x) h = !hP l t x h:=by
 rw [hP_eq]
 have e0 : fnth (hPs l t [x]) 0 h = hP l t x h:=hPs_at l t rfl h
 rw [<- e0]
 rfl
theorem vO_filter (l : List Fld) (t : Int) (x : Pred) (h : Head) : vO l t (bFilter x) h = some (if hP l t x h then [h] else []):=by
 rw [vO_eq]; rfl
theorem vO_set (l : List Fld) (t n : Int) (h : Head) : vO l t (bSet portS n) h = some [setN fldPort h n.toNat]:=by
 rw [vO_eq]
 unfold stepO bSet
 dsimp only
 rw [if_neg (by decide),if_pos rfl,find_port]
theorem vO_seq (l : List Fld) (t : Int) (x y : Policy) (h : Head) : vO l t (bSeq x y) h = match vO l t x h with | some a => imgGo (vO l t y) [] a | none => none:=by
 rw [vO_eq]
 have e0 : onth (vOs l t [x,y]) 0 = vO l t x:=vOs_at l t rfl
 have e1 : onth (vOs l t [x,y]) 1 = vO l t y:=vOs_at l t rfl
 rw [<- e0,<- e1]; rfl
theorem vO_union (l : List Fld) (t : Int) (x y : Policy) (h : Head) : vO l t (bUnion x y) h = match vO l t x h,vO l t y h with | some a,some b => bndO (mergeH a b) | _,_ => none:=by
 rw [vO_eq]
 have e0 : onth (vOs l t [x,y]) 0 = vO l t x:=vOs_at l t rfl
 have e1 : onth (vOs l t [x,y]) 1 = vO l t y:=vOs_at l t rfl
 rw [<- e0,<- e1]; rfl
theorem vO_star (l : List Fld) (t : Int) (x : Policy) (h : Head) : vO l t (bStar x) h = cloGo (vO l t x) 300 [h] [h]:=by
 rw [vO_eq]
 have e0 : onth (vOs l t [x]) 0 = vO l t x:=vOs_at l t rfl
 rw [<- e0]; rfl
theorem img_one {f : Head -> Option (List Head)} {y : Head} {b : List Head} (hf : f y = some b) (hg : goodS b) : imgGo f [] [y] = some b:=by
 have e : mergeH [] b = b:=srt_ext (srt_mergeH b srtH_nil) hg.1 fun z => by rw [mem_mergeH]; simp
 rw [imgGo,hf]
 dsimp only
 rw [e,if_neg (by have:=hg.2.1; omega),imgGo]
theorem vO_wire (l : List Fld) (t : Int) {w : Wire} (h0 : 0 <= w.dst) (h1 : w.dst <= 65535) {h : Head} (hr : rightH h = true) : vO l t (bWire w) h = some (if w.src = h.h0 then [{ h with h0:=w.dst }] else []):=by
 unfold bWire
 rw [vO_seq,vO_filter,hP_at l t _ hr]
 by_cases e : h.h0 = w.src
 ·rw [if_pos e.symm,if_pos (by simpa using e)]
  dsimp only
  have hs : vO l t (bSet portS w.dst) h = some [{ h with h0:=w.dst }]:=by rw [vO_set,set_port hr h0 h1]
  rw [imgGo,hs]
  rfl
 ·rw [if_neg (show ¬ w.src = h.h0 from fun he => e he.symm),if_neg (show ¬ decide (h.h0 = w.src) = true by simpa using e)]
  rfl
theorem vO_unions (l : List Fld) (t : Int) {h : Head} (hr : rightH h = true) : ∀ (ws : List Wire) (x : Policy),(∀ w ∈ ws,0 <= w.dst /\ w.dst <= 65535) ->
  ((∃ y,vO l t x h = some [y]) -> (∀ w ∈ ws,w.src ≠ h.h0) -> vO l t ((ws.map bWire).foldl bUnion x) h = vO l t x h) /\
  (vO l t x h = some [] -> (ws.Pairwise fun a b => a.src ≠ b.src) -> vO l t ((ws.map bWire).foldl bUnion x) h = some (if (overGo h.h0 ws).2 then [{ h with h0:=(overGo h.h0 ws).1 }] else []))
 | [],x,_ => ⟨fun _ _ => rfl,fun e _ => e⟩
 | w :: ws,x,hw => by
  have ih:=vO_unions l t hr ws (bUnion x (bWire w)) fun y hy => hw y (by simp [hy])
  obtain ⟨h0,h1⟩:=hw w (by simp)
  have hv:=vO_wire l t h0 h1 hr
  constructor
  ·rintro ⟨y,hy⟩ hn
   rw [if_neg (hn w (by simp))] at hv
   have hu : vO l t (bUnion x (bWire w)) h = some [y]:=by rw [vO_union,hy,hv]; rfl
   rw [List.map_cons,List.foldl_cons,ih.1 ⟨y,hu⟩ fun z hz => hn z (by simp [hz]),hu,hy]
  ·intro e hp
   obtain ⟨p1,p2⟩:=List.pairwise_cons.1 hp
   rw [List.map_cons,List.foldl_cons,overGo]
   by_cases hs : w.src = h.h0
   ·rw [if_pos hs] at hv ⊢
    have hu : vO l t (bUnion x (bWire w)) h = some [{ h with h0:=w.dst }]:=by rw [vO_union,e,hv]; rfl
    rw [ih.1 ⟨_,hu⟩ fun z hz hc => p1 z hz (by rw [hs,hc]),hu]
    rfl
   ·rw [if_neg hs] at hv ⊢
    have hu : vO l t (bUnion x (bWire w)) h = some []:=by rw [vO_union,e,hv]; rfl
    exact ih.2 hu p2
theorem vO_wires (l : List Fld) (t : Int) {tn : Tenant} (hw : ∀ w ∈ tn.wires,0 <= w.dst /\ w.dst <= 65535) (hp : tn.wires.Pairwise fun a b => a.src ≠ b.src) {h : Head} (hr : rightH h = true) :
  vO l t (bWires tn) h = some (if (overGo h.h0 tn.wires).2 then [{ h with h0:=(overGo h.h0 tn.wires).1 }] else []):=by
 unfold bWires
 revert hw hp
 generalize tn.wires = ws
 intro hw hp
 cases ws with
 | nil =>
  show vO l t (bFilter bFalse) h = _
  rw [vO_filter]
  have : hP l t bFalse h = false:=by rw [hP_eq]; rfl
  rw [this]; rfl
 | cons w ws =>
  obtain ⟨h0,h1⟩:=hw w (by simp)
  have hv:=vO_wire l t h0 h1 hr
  have ih:=vO_unions l t hr ws (bWire w) fun y hy => hw y (by simp [hy])
  obtain ⟨p1,p2⟩:=List.pairwise_cons.1 hp
  show vO l t ((ws.map bWire).foldl bUnion (bWire w)) h = _
  rw [overGo]
  by_cases hs : w.src = h.h0
  ·rw [if_pos hs] at hv ⊢
   rw [ih.1 ⟨_,hv⟩ fun z hz hc => p1 z hz (by rw [hs,hc]),hv]
   rfl
  ·rw [if_neg hs] at hv ⊢
   exact ih.2 hv p2
theorem over_dst {n : Int} : ∀ {ws : List Wire},(∀ w ∈ ws,0 <= w.dst /\ w.dst <= 65535) -> 0 <= (overGo n ws).1 /\ (overGo n ws).1 <= 65535
 | [],_ => ⟨by show (0 : Int) <= 0; decide,by show (0 : Int) <= 65535; decide⟩
 | w :: r,h => by
  rw [overGo]
  split
  ·exact h w (by simp)
  ·exact over_dst fun y hy => h y (by simp [hy])
theorem right_h0 {h : Head} (hr : rightH h = true) {n : Int} (h0 : 0 <= n) (h1 : n <= 65535) : rightH { h with h0:=n } = true :=
 rightH_setW hr 0 h0 h1
theorem vO_again (l : List Fld) (hl : okFs l) (t : Int) {tn : Tenant} {p : Policy} (hw : ∀ w ∈ tn.wires,0 <= w.dst /\ w.dst <= 65535) (hp : tn.wires.Pairwise fun a b => a.src ≠ b.src) (hg : goodO l p) {h : Head} (hr : rightH h = true) :
  vO l t (bSeq (bWires tn) p) h = gW (vO l t p) tn.wires h:=by
 rw [vO_seq,vO_wires l t hw hp hr,gW]
 by_cases ho : (overGo h.h0 tn.wires).2 = false
 ·rw [if_pos ho,ho]; rfl
 ·rw [if_neg ho,if_pos (by simpa using ho)]
  dsimp only
  have hd:=over_dst (n:=h.h0) hw
  have hr2:=right_h0 hr hd.1 hd.2
  cases e : vO l t p { h with h0:=(overGo h.h0 tn.wires).1 } with
  | none => rw [imgGo,e]
  | some b => exact img_one e (vO_good l hl t p hg _ b hr2 e)
theorem rch_congr {f g : Head -> Option (List Head)} (hfg : ∀ y,rightH y = true -> f y = g y) (hg : ∀ y b,rightH y = true -> g y = some b -> ∀ z ∈ b,rightH z = true) {x : Head} (hx : rightH x = true) (z : Head) : RchH f x z ↔ RchH g x z:=by
 constructor
 ·intro h
  have : RchH g x z /\ rightH z = true:=by
   induction h with
   | refl => exact ⟨.refl,hx⟩
   | step _ h3 h4 ih =>
    rw [hfg _ ih.2] at h3
    exact ⟨ih.1.step h3 h4,hg _ _ ih.2 h3 _ h4⟩
  exact this.1
 ·intro h
  have : RchH f x z /\ rightH z = true:=by
   induction h with
   | refl => exact ⟨.refl,hx⟩
   | step _ h3 h4 ih =>
    exact ⟨ih.1.step (by rw [hfg _ ih.2]; exact h3) h4,hg _ _ ih.2 h3 _ h4⟩
  exact this.1
theorem closed_again (l : List Fld) (hl : okFs l) (t : Int) {tn : Tenant} {p : Policy} (hw : ∀ w ∈ tn.wires,0 <= w.dst /\ w.dst <= 65535) (hp : tn.wires.Pairwise fun a b => a.src ≠ b.src) (hg : goodO l p) {h : Head} (hr : rightH h = true)
  {r s : List Head} (e1 : vO l t (bClosed tn p) h = some r) (e2 : agnO (vO l t p) tn.wires h = some s) : r = s:=by
 have vg:=vO_good l hl t p hg
 unfold agnO at e2
 cases ea : vO l t p h with
 | none => rw [ea] at e2; cases e2
 | some a =>
  rw [ea] at e2
  dsimp only at e2
  have ga:=vg h a hr ea
  obtain ⟨s1,s2⟩:=agnGo_mem 300 a [] s ga.1 srtH_nil (by simp) (by simp) e2
  unfold bClosed at e1
  by_cases h0 : tn.wires = []
  ·rw [if_pos h0,ea] at e1
   cases e1
   refine srt_ext ga.1 s1 fun z => ?_
   rw [s2,h0]
   constructor
   ·intro hz
    exact ⟨⟨z,hz,.refl⟩,rfl⟩
   ·rintro ⟨⟨x,hx,hrc⟩,_⟩
    exact hrc.closed (S:=fun z => z ∈ r) (fun y _ b hb z hz => by
     have : gW (vO l t p) [] y = some []:=rfl
     rw [this] at hb; cases hb; cases hz) hx
  ·rw [if_neg h0,vO_seq,vO_seq,ea] at e1
   dsimp only at e1
   cases em : imgGo (vO l t (bStar (bSeq (bWires tn) p))) [] a with
   | none => rw [em] at e1; cases e1
   | some m =>
    rw [em] at e1
    dsimp only at e1
    have r1:=imgGo_srt m [] r srtH_nil e1
    refine srt_ext r1 s1 fun z => ?_
    rw [s2,(imgGo_mem m [] r e1).1 z]
    have hm:=(imgGo_mem a [] m em).1
    have gW_right : ∀ y b,rightH y = true -> gW (vO l t p) tn.wires y = some b -> ∀ z ∈ b,rightH z = true:=by
     intro y b hy e z hz
     unfold gW at e
     split at e
     ·cases e; cases hz
     ·have hd:=over_dst (n:=y.h0) hw
      exact (vg _ b (right_h0 hy hd.1 hd.2) e).2.2 z hz
    have hrc : ∀ x,rightH x = true -> ∀ b,vO l t (bStar (bSeq (bWires tn) p)) x = some b -> ∀ z,z ∈ b ↔ RchH (gW (vO l t p) tn.wires) x z:=by
     intro x hx b hb z
     rw [vO_star] at hb
     rw [clo_mem hb z]
     exact rch_congr (fun y hy => vO_again l hl t hw hp hg hy) gW_right hx z
    have hrr : ∀ x,rightH x = true -> ∀ z,RchH (gW (vO l t p) tn.wires) x z -> rightH z = true:=fun x hx z hz =>
     hz.closed (S:=fun z => rightH z = true) (fun y hy b hb => gW_right y b hy hb) hx
    have hmm : ∀ z,z ∈ m ↔ ∃ x ∈ a,RchH (gW (vO l t p) tn.wires) x z:=by
     intro z
     rw [hm z]
     constructor
     ·rintro (h | ⟨x,hx,b,hb,hz⟩)
      ·cases h
      ·exact ⟨x,hx,(hrc x (ga.2.2 x hx) b hb z).1 hz⟩
     ·rintro ⟨x,hx,hz⟩
      obtain ⟨b,hb⟩:=(imgGo_mem a [] m em).2 x hx
      exact .inr ⟨x,hx,b,hb,(hrc x (ga.2.2 x hx) b hb z).2 hz⟩
    have hfil : ∀ y,rightH y = true -> vO l t (bFilter (bNot (bWired tn))) y = some (if (overGo y.h0 tn.wires).2 = false then [y] else []):=by
     intro y hy
     rw [vO_filter,hP_not,hP_wired l t tn hy]
     cases (overGo y.h0 tn.wires).2 <;> rfl
    constructor
    ·rintro (h | ⟨y,hy,b,hb,hz⟩)
     ·cases h
     ·obtain ⟨x,hx,hxy⟩:=(hmm y).1 hy
      rw [hfil y (hrr x (ga.2.2 x hx) y hxy)] at hb
      by_cases hwy : (overGo y.h0 tn.wires).2 = false
      ·rw [if_pos hwy] at hb
       cases hb
       rw [List.mem_singleton.1 hz]
       exact ⟨⟨x,hx,hxy⟩,hwy⟩
      ·rw [if_neg hwy] at hb
       cases hb; cases hz
    ·rintro ⟨⟨x,hx,hz⟩,hwz⟩
     refine .inr ⟨z,(hmm z).2 ⟨x,hx,hz⟩,[z], ?_,by simp⟩
     rw [hfil z (hrr x (ga.2.2 x hx) z hz),if_pos hwz]
end Go.AI
