/- Contract: checkPorts of the program. -/
import Derived.Test.YtofajkggflobkaaGreatDoorMp
import Derived.Test.YtofajkggflobkaaGreatDoorMe
import Derived.Test.YtofajkggflobkaaGreatDoorMg
import Derived.Test.YtofajkggflobkaaGreatDoorMf
namespace Go.AI
open Go.Proofs
set_option maxRecDepth 50000
@[go_sem] theorem zmapIB : zeroAV Tryz.prog 131 = some .nilm:=by kernel_rfl
@[go_sem] theorem und_mapIB : Tryz.prog.underlying 131 = some (.map 3 4):=by kernel_rfl
end Go.AI
namespace Go.AI
open Go.Proofs
set_option maxRecDepth 50000
end Go.AI
namespace Go.AI
open Go.Proofs
set_option maxRecDepth 50000
abbrev iKey (n : Int) : AV:=.int .i64 n
theorem afind_get {k : AV} : ∀ {es : List (AV × AV)} {i j : Nat} {v : AV},afind k es i = some (j,v) -> i <= j /\ ∃ p,es[j - i]? = some p /\ keyEq p.1 k = true /\ p.2 = v
 | [],_,_,_,h => by cases h
 | p :: es,i,j,v,h => by
  rw [afind] at h
  by_cases hk : keyEq p.1 k = true
  ·rw [if_pos hk] at h
   cases h
   exact ⟨Nat.le_refl _,p,by simp,hk,rfl⟩
  ·rw [if_neg hk] at h
   obtain ⟨h1,q,h2,h3,h4⟩:=afind_get h
   refine ⟨by omega,q, ?_,h3,h4⟩
   have : j - i = (j - (i + 1)) + 1:=by omega
   rw [this]; simpa using h2
theorem keyEq_i (z n : Int) : keyEq (iKey z) (iKey n) = (z == n):=by
 rw [Bool.eq_iff_iff]; simp [keyEq,keyEq1]
theorem any_i (l : List Int) (n : Int) : (l.any fun y => keyEq (iKey y) (iKey n)) = l.any fun z => z == n:=by
 simp only [keyEq_i]
theorem upd_setI (l : List Int) (n : Int) : mapUpd (setE iKey l) (iKey n) (.bool true) = setE iKey (if l.any (fun z => z == n) then l else l ++ [n]):=by
 by_cases h : (l.any fun z => z == n) = true
 ·rw [if_pos h]
  have h2:=afind_set iKey (iKey n) l 0
  rw [any_i,if_pos h] at h2
  unfold mapUpd
  cases ha : afind (iKey n) (setE iKey l) 0 with
  | none => rw [ha] at h2; cases h2
  | some q =>
   obtain ⟨j,v⟩:=q
   obtain ⟨_,p,hp,hk,hv⟩:=afind_get ha
   dsimp only
   rw [Nat.sub_zero] at hp
   have hp2:=hp
   rw [setE,List.getElem?_map] at hp2
   cases hl : l[j]? with
   | none => rw [hl] at hp2; cases hp2
   | some z =>
    rw [hl] at hp2
    cases hp2
    rw [keyEq_i] at hk
    have hz : z = n:=by simpa using hk
    subst hz
    apply List.ext_getElem?
    intro m
    rw [List.getElem?_set]
    split
    ·rename_i hjm
     subst hjm
     rw [hp]
     have:=(List.getElem?_eq_some_iff.1 hp).1
     rw [if_pos this]
    ·rfl
 ·rw [if_neg h]
  exact upd_set iKey n l (by rw [any_i]; exact (Bool.not_eq_true _).mp h)
end Go.AI
namespace Go.AI
open Go.Proofs
set_option maxRecDepth 50000
theorem updK_setI {P : Program} {K : Kt} {e : Env} {H : Heap} {t kt et : TypeId} {o : Nat} (l : List Int) (n : Int) (hu : P.underlying t = some (.map kt et)) (hm : H[o]? = some (some (mapc (setE iKey l)))) (hk : keysIn P kt (iKey n :: l.map iKey)) (hd : distL iKey l)
  (h : K e (H.set o (some (mapc (setE iKey (if l.any (fun z => z == n) then l else l ++ [n])))))) : updK P t (.mapr o) (iKey n) (.bool true) K e H:=by
 unfold updK
 dsimp only
 rw [hu]
 dsimp only
 rw [mapOf_at hm]
 dsimp only
 refine ⟨by rw [set_keys]; exact hk,dist_set iKey hd,rfl, ?_⟩
 rw [upd_setI]; exact h
theorem dist_add {l : List Int} (n : Int) (hd : distL iKey l) : distL iKey (if l.any (fun z => z == n) then l else l ++ [n]):=by
 split
 ·exact hd
 ·rename_i h
  exact distL_snoc iKey n hd (by rw [any_i]; exact (Bool.not_eq_true _).mp h)
end Go.AI
namespace Go.AI
open Go.Proofs
set_option maxRecDepth 50000
end Go.AI
namespace Go.AI
structure VE where
 v : Variable
 b : Bool
def vNew (l : List Fld) (s : Stp) : Variable:=⟨s.var,famS s.kind,widS l s.key,if numS s then s.n else 0,if numS s then s.m else 0⟩
def vFind (E : List VE) (nm : ByteArray) : Option VE:=E.find? fun e => decide (e.v.name = nm)
def vUpd : List VE -> VE -> List VE
 | [],x => [x]
 | e :: E,x => if e.v.name = x.v.name then x :: E else e :: vUpd E x
def vBad (l : List Fld) (e : VE) (s : Stp) : Bool:=e.v.family != famS s.kind || (!eqI e.v.widths (widS l s.key) || (numS s && (e.b && (e.v.n != s.n || e.v.m != s.m))))
def vStep (l : List Fld) (E : List VE) (s : Stp) : Option (List VE) :=
 if s.kind = 0 then some E else match vFind E s.var with
  | none => some (vUpd E ⟨vNew l s,numS s⟩)
  | some e => if vBad l e s then none else if numS s then some (vUpd E ⟨vNew l s,true⟩) else some E
def vGo (l : List Fld) : List VE -> List Stage -> Option (List VE)
 | E,[] => some E
 | E,x :: r => match vStep l E x.step with
  | none => none
  | some E' => vGo l E' r
theorem vFind_upd (x : VE) (nm : ByteArray) : ∀ E : List VE,vFind (vUpd E x) nm = if x.v.name = nm then some x else vFind E nm
 | [] => by
  unfold vUpd vFind
  by_cases h : x.v.name = nm <;> simp [h]
 | e :: E => by
  have ih:=vFind_upd x nm E
  unfold vUpd
  by_cases h : e.v.name = x.v.name
  ·rw [if_pos h]
   unfold vFind
   by_cases h2 : x.v.name = nm
   ·simp [h2]
   ·simp [h2,h]
  ·rw [if_neg h]
   unfold vFind at ih ⊢
   rw [List.find?_cons,List.find?_cons]
   by_cases h2 : e.v.name = nm
   ·have : ¬ x.v.name = nm:=fun h3 => h (h2.trans h3.symm)
    simp [h2,this]
   ·simp only [h2,decide_false]
    exact ih
structure VInv (l : List Fld) (E : List VE) (p : List Stage) : Prop where
 src : ∀ nm e,vFind E nm = some e -> ∃ x ∈ p,x.step.kind ≠ 0 /\ x.step.var = nm
 fits : ∀ x ∈ p,x.step.kind ≠ 0 -> ∃ e,vFind E x.step.var = some e /\ e.v.family = famS x.step.kind /\ e.v.widths = widS l x.step.key /\ (numS x.step = true -> e.b = true /\ e.v.n = x.step.n /\ e.v.m = x.step.m)
 num : ∀ nm e,vFind E nm = some e -> e.b = true -> ∃ x ∈ p,x.step.kind ≠ 0 /\ x.step.var = nm /\ numS x.step = true
theorem VInv.nil (l : List Fld) : VInv l [] []:=⟨fun _ _ h => (by cases h),fun _ h => (by cases h),fun _ _ h => (by cases h)⟩
theorem vBad_any {l : List Fld} {E : List VE} {p : List Stage} (h : VInv l E p) {s : Stp} (hk : s.kind ≠ 0) :
  p.any (fun y => clash l y.step s) = match vFind E s.var with | none => false | some e => vBad l e s:=by
 cases hf : vFind E s.var with
 | none =>
  dsimp only
  rw [List.any_eq_false]
  intro y hy hc
  unfold clash at hc
  simp only [Bool.and_eq_true,bne_iff_ne,ne_eq,decide_eq_true_eq] at hc
  obtain ⟨e,he,_⟩:=h.fits y hy hc.1.1
  rw [hc.2.1,hf] at he
  cases he
 | some e =>
  dsimp only
  rw [Bool.eq_iff_iff,List.any_eq_true]
  constructor
  ·rintro ⟨y,hy,hc⟩
   unfold clash agrS at hc
   simp only [Bool.and_eq_true,bne_iff_ne,ne_eq,decide_eq_true_eq] at hc
   obtain ⟨⟨k1,k2⟩,hv,ha⟩:=hc
   obtain ⟨e',he,h1,h2,h3⟩:=h.fits y hy k1
   rw [hv,hf] at he
   cases he
   have ha' : (numS y.step = true /\ numS s = true /\ (y.step.n ≠ s.n \/ y.step.m ≠ s.m)) \/ eqI (widS l y.step.key) (widS l s.key) = false \/ famS y.step.kind ≠ famS s.kind:=by
    generalize eqI (widS l y.step.key) (widS l s.key) = B at ha ⊢
    generalize famS y.step.kind = f1 at ha ⊢
    generalize famS s.kind = f2 at ha ⊢
    generalize numS y.step = c1 at ha ⊢
    generalize numS s = c2 at ha ⊢
    cases B <;> cases c1 <;> cases c2 <;> simp at ha ⊢
    all_goals first | exact ha | (rcases ha with ha | ha <;> grind) | grind
   unfold vBad
   rw [h1,h2]
   rcases ha' with ⟨a1,a2,a3⟩ | a | a
   ·obtain ⟨g1,g2,g3⟩:=h3 a1
    rw [g1,g2,g3,a2]
    rcases a3 with a3 | a3 <;> simp [a3]
   ·simp [a]
   ·simp [a]
  ·intro hb
   unfold vBad at hb
   by_cases hn : numS s = true /\ e.b = true /\ (e.v.n != s.n || e.v.m != s.m) = true
   ·obtain ⟨n1,n2,n3⟩:=hn
    obtain ⟨y,hy,k1,k2,k3⟩:=h.num _ e hf n2
    obtain ⟨e',he,h1,h2,h3⟩:=h.fits y hy k1
    rw [k2,hf] at he
    cases he
    obtain ⟨g1,g2,g3⟩:=h3 k3
    refine ⟨y,hy, ?_⟩
    unfold clash agrS
    rw [n1,k3,<- g2,<- g3,n3]
    simp [k1,hk,k2]
   ·obtain ⟨y,hy,k1,k2⟩:=h.src _ e hf
    obtain ⟨e',he,h1,h2,h3⟩:=h.fits y hy k1
    rw [k2,hf] at he
    cases he
    refine ⟨y,hy, ?_⟩
    unfold clash agrS
    rw [<- h1,<- h2]
    have hb2 : (e.v.family != famS s.kind || !eqI e.v.widths (widS l s.key)) = true:=by
     rw [Bool.or_eq_true] at hb ⊢
     rcases hb with hb | hb
     ·exact .inl hb
     ·rw [Bool.or_eq_true] at hb
      rcases hb with hb | hb
      ·exact .inr hb
      ·exfalso
       apply hn
       simp only [Bool.and_eq_true] at hb
       exact ⟨hb.1,hb.2.1,hb.2.2⟩
    have hb3 : (eqI e.v.widths (widS l s.key) && e.v.family == famS s.kind) = false:=by
     generalize eqI e.v.widths (widS l s.key) = B at hb2 ⊢
     cases B
     ·rfl
     ·simp only [Bool.not_true,Bool.or_false] at hb2
      simpa using hb2
    rw [hb3]
    simp [k1,hk,k2]
theorem VInv.step {l : List Fld} {E : List VE} {p : List Stage} (h : VInv l E p) {x : Stage} {E' : List VE} (hs : vStep l E x.step = some E') : VInv l E' (p ++ [x]):=by
 unfold vStep at hs
 split at hs
 ·rename_i hk
  cases hs
  exact ⟨fun nm e he => by obtain ⟨y,hy,h1⟩:=h.src nm e he; exact ⟨y,by simp [hy],h1⟩,
   fun y hy hk2 => by
    rcases List.mem_append.1 hy with hy | hy
    ·exact h.fits y hy hk2
    ·rw [List.mem_singleton.1 hy] at hk2; exact absurd hk hk2,
   fun nm e he hb => by obtain ⟨y,hy,h1⟩:=h.num nm e he hb; exact ⟨y,by simp [hy],h1⟩⟩
 ·rename_i hk
  split at hs
  ·rename_i hf
   cases hs
   refine ⟨fun nm e he => ?_,fun y hy hk2 => ?_,fun nm e he hb => ?_⟩
   ·rw [vFind_upd] at he
    split at he
    ·rename_i hn
     exact ⟨x,by simp,hk,hn⟩
    ·obtain ⟨y,hy,h1⟩:=h.src nm e he; exact ⟨y,by simp [hy],h1⟩
   ·rw [vFind_upd]
    rcases List.mem_append.1 hy with hy | hy
    ·obtain ⟨e,he,h1⟩:=h.fits y hy hk2
     have hne : ¬ (vNew l x.step).name = y.step.var:=fun hn => by
      have hn : x.step.var = y.step.var:=hn
      rw [<- hn,hf] at he; cases he
     exact ⟨e,by rw [if_neg hne]; exact he,h1⟩
    ·rcases List.mem_singleton.1 hy with rfl
     refine ⟨_,if_pos rfl,rfl,rfl,fun hn => ⟨hn, ?_, ?_⟩⟩
     ·simp [vNew,hn]
     ·simp [vNew,hn]
   ·rw [vFind_upd] at he
    split at he
    ·rename_i hn
     cases he
     exact ⟨x,by simp,hk,hn,hb⟩
    ·obtain ⟨y,hy,h1⟩:=h.num nm e he hb; exact ⟨y,by simp [hy],h1⟩
  ·rename_i e0 hf
   split at hs
   ·cases hs
   ·rename_i hb0
    have hb0 : vBad l e0 x.step = false:=by simpa using hb0
    unfold vBad at hb0
    rw [Bool.or_eq_false_iff,Bool.or_eq_false_iff] at hb0
    obtain ⟨b1,b2,b3⟩:=hb0
    have b1 : e0.v.family = famS x.step.kind:=by simpa using b1
    have b2 : e0.v.widths = widS l x.step.key:=by simpa [eqI] using b2
    split at hs
    ·rename_i hnum
     cases hs
     refine ⟨fun nm e he => ?_,fun y hy hk2 => ?_,fun nm e he hb => ?_⟩
     ·rw [vFind_upd] at he
      split at he
      ·rename_i hn
       exact ⟨x,by simp,hk,hn⟩
      ·obtain ⟨y,hy,h1⟩:=h.src nm e he; exact ⟨y,by simp [hy],h1⟩
     ·rw [vFind_upd]
      rcases List.mem_append.1 hy with hy | hy
      ·obtain ⟨e,he,h1,h2,h3⟩:=h.fits y hy hk2
       by_cases hn : (vNew l x.step).name = y.step.var
       ·have hn2 : x.step.var = y.step.var:=hn
        rw [<- hn2,hf] at he
        cases he
        refine ⟨_,if_pos hn, ?_, ?_,fun hny => ?_⟩
        ·show famS x.step.kind = _
         rw [<- b1,h1]
        ·show widS l x.step.key = _
         rw [<- b2,h2]
        ·obtain ⟨g1,g2,g3⟩:=h3 hny
         rw [hnum,g1,g2,g3] at b3
         simp only [Bool.true_and,Bool.or_eq_false_iff,bne_eq_false_iff_eq] at b3
         refine ⟨rfl, ?_, ?_⟩
         ·simp [vNew,hnum,b3.1]
         ·simp [vNew,hnum,b3.2]
       ·exact ⟨e,by rw [if_neg hn]; exact he,h1,h2,h3⟩
      ·rcases List.mem_singleton.1 hy with rfl
       refine ⟨_,if_pos rfl,rfl,rfl,fun hn => ⟨rfl, ?_, ?_⟩⟩
       ·simp [vNew,hn]
       ·simp [vNew,hn]
     ·rw [vFind_upd] at he
      split at he
      ·rename_i hn
       exact ⟨x,by simp,hk,hn,hnum⟩
      ·obtain ⟨y,hy,h1⟩:=h.num nm e he hb; exact ⟨y,by simp [hy],h1⟩
    ·rename_i hnum
     cases hs
     refine ⟨fun nm e he => ?_,fun y hy hk2 => ?_,fun nm e he hb => ?_⟩
     ·obtain ⟨y,hy,h1⟩:=h.src nm e he; exact ⟨y,by simp [hy],h1⟩
     ·rcases List.mem_append.1 hy with hy | hy
      ·exact h.fits y hy hk2
      ·rcases List.mem_singleton.1 hy with rfl
       exact ⟨e0,hf,b1,b2,fun hn => absurd hn hnum⟩
     ·obtain ⟨y,hy,h1⟩:=h.num nm e he hb; exact ⟨y,by simp [hy],h1⟩
theorem vStep_none {l : List Fld} {E : List VE} {p : List Stage} (h : VInv l E p) (s : Stp) : (vStep l E s).isSome = !p.any (fun y => clash l y.step s):=by
 by_cases hk : s.kind = 0
 ·unfold vStep
  rw [if_pos hk]
  have : p.any (fun y => clash l y.step s) = false:=by
   rw [List.any_eq_false]; intro y _; simp [clash,hk]
  rw [this]; rfl
 ·rw [vBad_any h hk]
  unfold vStep
  rw [if_neg hk]
  cases vFind E s.var with
  | none => rfl
  | some e =>
   dsimp only
   cases vBad l e s
   ·cases numS s <;> rfl
   ·rfl
theorem vGo_typGo (l : List Fld) (p : List Stage) : ∀ (n i : Nat) (E : List VE),p.length - i = n -> VInv l E (p.take i) -> (vGo l E (p.drop i)).isSome = typGo l p i (p.drop i)
 | 0,i,E,hn,_ => by
  rw [List.drop_eq_nil_of_le (by omega)]; rfl
 | n + 1,i,E,hn,h => by
  have hlt : i < p.length:=by omega
  rw [List.drop_eq_getElem_cons hlt,vGo,typGo]
  have h1:=vStep_none h p[i].step
  cases hs : vStep l E p[i].step with
  | none =>
   rw [hs] at h1
   rw [<- h1]; rfl
  | some E' =>
   rw [hs] at h1
   rw [<- h1]
   have ht : p.take (i + 1) = p.take i ++ [p[i]]:=by rw [List.take_add_one,List.getElem?_eq_getElem hlt]; rfl
   have:=vGo_typGo l p n (i + 1) E' (by omega) (by rw [ht]; exact h.step hs)
   simpa using this
theorem vGo_typ (l : List Fld) (p : List Stage) : (vGo l [] p).isSome = typGo l p 0 p:=by
 have:=vGo_typGo l p p.length 0 [] (by omega) (by simpa using VInv.nil l)
 simpa using this
end Go.AI
namespace Go.AI
def wiresOk (t : Tenant) : Prop:=∀ w ∈ t.wires,(0 <= w.src /\ w.src <= 65535) /\ (0 <= w.dst /\ w.dst <= 65535)
theorem polGo_all (l : List Fld) : ∀ r : List Policy,polGo l r = 0 ↔ ∀ x ∈ r,polE l x = 0
 | [] => by simp [polGo]
 | x :: r => by
  rw [polGo]
  by_cases h : polE l x = 0
  ·rw [if_pos h,polGo_all l r]; simp [h]
  ·rw [if_neg h]; simp [h]
theorem fitGo_all (l : List Fld) : ∀ r : List Pred,fitGo l r = 0 ↔ ∀ x ∈ r,fitP l x = 0
 | [] => by simp [fitGo]
 | x :: r => by
  rw [fitGo]
  by_cases h : fitP l x = 0
  ·rw [if_pos h,fitGo_all l r]; simp [h]
  ·rw [if_neg h]; simp [h]
def goodP (l : List Fld) (x : Pred) : Prop:=fmP x = true /\ ∀ y ∈ ptsP x,fitP l y = 0
def goodO (l : List Fld) (x : Policy) : Prop:=fmO x = true /\ ∀ y ∈ ptsO x,polE l y = 0
theorem max_port : maxF fldPort = 65535:=by decide +kernel
theorem find_port (l : List Fld) : findF l portS = (fldPort,true):=by unfold findF; rw [if_pos rfl]
theorem fnB_port : fnB portS = true:=by unfold fnB; simp
theorem good_at (l : List Fld) {n : Int} (h1 : 0 <= n) (h2 : n <= 65535) : goodP l (bAt n):=by
 constructor
 ·rw [fmP_eq]
  unfold okP bAt
  rw [fmPs_nil]
  simp [fnB_port,w16,h1,h2]
 ·intro y hy
  rw [ptsP_eq] at hy
  have : y = bAt n:=by simpa [bAt,ptsPs_nil] using hy
  subst this
  have : ¬ (maxF fldPort < n):=by rw [max_port]; omega
  simp [fitP,bAt,find_port,this]
theorem good_false (l : List Fld) : goodP l bFalse:=by
 constructor
 ·rw [fmP_eq]
  unfold okP bFalse noneP
  rw [fmPs_nil]; simp
 ·intro y hy
  rw [ptsP_eq] at hy
  have : y = bFalse:=by simpa [bFalse,ptsPs_nil] using hy
  subst this
  simp [fitP,bFalse]
theorem good_or {l : List Fld} {x y : Pred} (hx : goodP l x) (hy : goodP l y) : goodP l (bOr x y):=by
 constructor
 ·rw [fmP_eq]
  unfold okP bOr noneP
  dsimp only
  rw [fmPs_cons,fmPs_cons,fmPs_nil,hx.1,hy.1]; simp
 ·intro z hz
  rw [ptsP_eq] at hz
  rcases List.mem_cons.1 hz with rfl | hz
  ·simp [fitP,bOr]
  ·have hz : z ∈ ptsPs [x,y]:=hz
   rw [ptsPs_cons,ptsPs_cons,ptsPs_nil] at hz
   rcases List.mem_append.1 hz with hz | hz
   ·exact hx.2 z hz
   ·exact hy.2 z (by simpa using hz)
theorem good_not {l : List Fld} {x : Pred} (hx : goodP l x) : goodP l (bNot x):=by
 constructor
 ·rw [fmP_eq]
  unfold okP bNot noneP
  dsimp only
  rw [fmPs_cons,fmPs_nil,hx.1]; simp
 ·intro z hz
  rw [ptsP_eq] at hz
  rcases List.mem_cons.1 hz with rfl | hz
  ·simp [fitP,bNot]
  ·have hz : z ∈ ptsPs [x]:=hz
   rw [ptsPs_cons,ptsPs_nil] at hz
   exact hx.2 z (by simpa using hz)
theorem good_filter {l : List Fld} {x : Pred} (hx : goodP l x) : goodO l (bFilter x):=by
 constructor
 ·rw [fmO_eq]
  unfold okO bFilter
  dsimp only
  rw [fmOs_nil,hx.1]; simp
 ·intro z hz
  rw [ptsO_eq] at hz
  have : z = bFilter x:=by simpa [bFilter,ptsOs_nil] using hz
  subst this
  show (if (1 : Int) = 1 then fitA l x else _) = 0
  rw [if_pos rfl]
  exact (fitGo_all l _).2 hx.2
theorem empty_refl : eqP Pred.z emptyPred = true:=eqP_refl _
theorem good_set (l : List Fld) {n : Int} (h1 : 0 <= n) (h2 : n <= 65535) : goodO l (bSet portS n):=by
 constructor
 ·rw [fmO_eq]
  unfold okO bSet
  dsimp only
  rw [fmOs_nil,empty_refl]; simp [fnB_port,w16,h1,h2]
 ·intro z hz
  rw [ptsO_eq] at hz
  have : z = bSet portS n:=by simpa [bSet,ptsOs_nil] using hz
  subst this
  have : ¬ (maxF fldPort < n):=by rw [max_port]; omega
  simp [polE,bSet,find_port,this]
theorem good_two {l : List Fld} {x y : Policy} (hx : goodO l x) (hy : goodO l y) {k : Int} (hk : k = 3 \/ k = 4) : goodO l ⟨k,Pred.z,⟨#[]⟩,0,[x,y]⟩:=by
 constructor
 ·rw [fmO_eq]
  unfold okO
  dsimp only
  rw [fmOs_cons,fmOs_cons,fmOs_nil,hx.1,hy.1,empty_refl]
  rcases hk with rfl | rfl <;> simp
 ·intro z hz
  rw [ptsO_eq] at hz
  rcases List.mem_cons.1 hz with rfl | hz
  ·rcases hk with rfl | rfl <;> simp [polE]
  ·have hz : z ∈ ptsOs [x,y]:=hz
   rw [ptsOs_cons,ptsOs_cons,ptsOs_nil] at hz
   rcases List.mem_append.1 hz with hz | hz
   ·exact hx.2 z hz
   ·exact hy.2 z (by simpa using hz)
theorem good_union {l : List Fld} {x y : Policy} (hx : goodO l x) (hy : goodO l y) : goodO l (bUnion x y):=good_two hx hy (.inl rfl)
theorem good_seq {l : List Fld} {x y : Policy} (hx : goodO l x) (hy : goodO l y) : goodO l (bSeq x y):=good_two hx hy (.inr rfl)
theorem good_star {l : List Fld} {x : Policy} (hx : goodO l x) : goodO l (bStar x):=by
 constructor
 ·rw [fmO_eq]
  unfold okO bStar
  dsimp only
  rw [fmOs_cons,fmOs_nil,hx.1,empty_refl]; simp
 ·intro z hz
  rw [ptsO_eq] at hz
  rcases List.mem_cons.1 hz with rfl | hz
  ·simp [polE,bStar]
  ·have hz : z ∈ ptsOs [x]:=hz
   rw [ptsOs_cons,ptsOs_nil] at hz
   exact hx.2 z (by simpa using hz)
theorem good_fold {α : Type} {p : α -> Prop} {two : α -> α -> α} (h2 : ∀ x y,p x -> p y -> p (two x y)) : ∀ (l : List α) (x : α),p x -> (∀ y ∈ l,p y) -> p (l.foldl two x)
 | [],x,hx,_ => hx
 | y :: l,x,hx,h => good_fold h2 l (two x y) (h2 x y hx (h y (by simp))) fun z hz => h z (by simp [hz])
theorem good_join {α : Type} {p : α -> Prop} {two : α -> α -> α} {z : α} (h2 : ∀ x y,p x -> p y -> p (two x y)) (hz : p z) {l : List α} (h : ∀ y ∈ l,p y) : p (joinL z two l):=by
 cases l with
 | nil => exact hz
 | cons x l => exact good_fold h2 l x (h x (by simp)) fun y hy => h y (by simp [hy])
theorem good_closed {l : List Fld} {t : Tenant} {p : Policy} (hw : wiresOk t) (hp : goodO l p) : goodO l (bClosed t p):=by
 unfold bClosed
 split
 ·exact hp
 ·have h1 : goodP l (bWired t):=good_join (p:=goodP l) (two:=bOr) (fun _ _ => good_or) (good_false l) fun y hy => by
   obtain ⟨w,hm,rfl⟩:=List.mem_map.1 hy
   exact good_at l (hw w hm).1.1 (hw w hm).1.2
  have h2 : goodO l (bWires t):=good_join (p:=goodO l) (two:=bUnion) (fun _ _ => good_union) (good_filter (good_false l)) fun y hy => by
   obtain ⟨w,hm,rfl⟩:=List.mem_map.1 hy
   exact good_seq (good_filter (good_at l (hw w hm).1.1 (hw w hm).1.2)) (good_set l (hw w hm).2.1 (hw w hm).2.2)
  exact good_seq (good_seq hp (good_star (good_seq h2 hp))) (good_filter (good_not h1))
theorem ckTO_good {l : List Fld} {x : Policy} (h : ckTO l x = 0) : ckO x = 0 /\ goodO l x:=by
 unfold ckTO at h
 split at h
 ·rename_i h0
  refine ⟨h0, ?_,(polGo_all l _).1 h⟩
  unfold ckO fmE at h0
  split at h0
  ·split at h0
   ·assumption
   ·cases h0
  ·rename_i hl; exact absurd h0 hl
 ·rename_i hn; exact absurd h hn
theorem ckTO_of_good {l : List Fld} {x : Policy} (hn : ckO x ≠ 2) (h : goodO l x) : ckTO l x = 0:=by
 have h0 : ckO x = 0:=by
  unfold ckO fmE limE at hn ⊢
  rw [h.1] at hn ⊢
  by_cases hz : (szO x).nodes > 200 \/ (szO x).depth > 20
  ·rw [if_pos hz] at hn; exact absurd rfl hn
  ·rw [if_neg hz]; rfl
 rw [ckTO,if_pos h0]
 exact (polGo_all l _).2 h.2
theorem vGo_steps (l : List Fld) : ∀ (p q : List Stage) (E : List VE),p.map (·.step) = q.map (·.step) -> vGo l E p = vGo l E q
 | [],[],_,_ => rfl
 | [],_ :: _,_,h => by cases h
 | _ :: _,[],_,h => by cases h
 | x :: p,y :: q,E,h => by
  simp only [List.map_cons,List.cons.injEq] at h
  rw [vGo,vGo,h.1]
  cases vStep l E y.step with
  | none => rfl
  | some E' => exact vGo_steps l p q E' h.2
theorem stGo_all (l : List Fld) : ∀ r : List Stage,stGo l r = 0 ↔ ∀ x ∈ r,ckTO l x.policy = 0 /\ ckTS l x.step = 0
 | [] => by simp [stGo]
 | x :: r => by
  rw [stGo]
  by_cases h : ckTO l x.policy = 0
  ·rw [if_pos h]
   by_cases h2 : ckTS l x.step = 0
   ·rw [if_pos h2,stGo_all l r]; simp [h,h2]
   ·rw [if_neg h2]; simp [h2]
  ·rw [if_neg h]; simp [h]
theorem ckGo_all : ∀ r : List Stage,ckGo r = 0 ↔ ∀ x ∈ r,ckO x.policy = 0 /\ ckS x.step = 0
 | [] => by simp [ckGo]
 | x :: r => by
  rw [ckGo]
  by_cases h : ckO x.policy = 0
  ·rw [if_pos h]
   by_cases h2 : ckS x.step = 0
   ·rw [if_pos h2,ckGo_all r]; simp [h,h2]
   ·rw [if_neg h2]; simp [h2]
  ·rw [if_neg h]; simp [h]
theorem ckT_0 {l : List Fld} {p : List Stage} (h : ckT l p = 0) : p.length <= 8 /\ (∀ x ∈ p,ckO x.policy = 0 /\ ckS x.step = 0) /\ (∀ x ∈ p,ckTO l x.policy = 0 /\ ckTS l x.step = 0) /\ (vGo l [] p).isSome = true:=by
 unfold ckT at h
 split at h
 ·rename_i hn; exact absurd h hn
 ·rename_i h1
  split at h
  ·rename_i hn; exact absurd h hn
  ·rename_i h2
   split at h
   ·rename_i h3
    have h1 : ckG p = 0:=by simpa using h1
    have h2 : stGo l p = 0:=by simpa using h2
    unfold ckG at h1
    split at h1
    ·cases h1
    ·rename_i hl
     exact ⟨by omega,(ckGo_all p).1 h1,(stGo_all l p).1 h2,by rw [vGo_typ]; exact h3⟩
   ·cases h
theorem ckT_of {l : List Fld} {p : List Stage} (h1 : p.length <= 8) (h2 : ∀ x ∈ p,ckO x.policy = 0 /\ ckS x.step = 0) (h3 : ∀ x ∈ p,ckTO l x.policy = 0 /\ ckTS l x.step = 0) (h4 : (vGo l [] p).isSome = true) : ckT l p = 0:=by
 rw [vGo_typ] at h4
 have g1 : ckG p = 0:=by unfold ckG; rw [if_neg (by omega)]; exact (ckGo_all p).2 h2
 have g2 : stGo l p = 0:=(stGo_all l p).2 h3
 unfold ckT
 rw [if_neg (by simp [g1]),if_neg (by simp [g2]),if_pos h4]
theorem wholeGo_spec (t : Tenant) : ∀ (r o : List Stage),(wholeGo t o r).2 = 2 /\ (wholeGo t o r).1 = [] \/
  (wholeGo t o r).2 = 0 /\ (wholeGo t o r).1 = o ++ r.map (fun x => { x with policy:=bClosed t x.policy }) /\ ∀ x ∈ r,ckO (bClosed t x.policy) ≠ 2
 | [],o => .inr ⟨rfl,by simp [wholeGo],fun _ h => by cases h⟩
 | x :: r,o => by
  rw [wholeGo]
  split
  ·exact .inl ⟨rfl,rfl⟩
  ·rename_i hn
   rcases wholeGo_spec t r (o ++ [{ x with policy:=bClosed t x.policy }]) with h | ⟨h1,h2,h3⟩
   ·exact .inl h
   ·refine .inr ⟨h1,by rw [h2]; simp,fun y hy => ?_⟩
    rcases List.mem_cons.1 hy with rfl | hy
    ·exact hn
    ·exact h3 y hy
theorem whole_fits {l : List Fld} {t : Tenant} (hw : wiresOk t) (h : ckT l t.program = 0) :
  ((bWhole t).2 = 2 /\ (bWhole t).1 = [] /\ t.wires ≠ []) \/ ((bWhole t).2 = 0 /\ ckT l (bWhole t).1 = 0 /\ (bWhole t).1.map (·.step) = t.program.map (·.step)):=by
 obtain ⟨h1,h2,h3,h4⟩:=ckT_0 h
 rcases wholeGo_spec t t.program [] with ⟨g1,g2⟩ | ⟨g1,g2,g3⟩
 ·refine .inl ⟨g1,g2,fun he => ?_⟩
  have : ∀ (r o : List Stage),(∀ x ∈ r,ckO x.policy = 0) -> (wholeGo t o r).2 = 0:=by
   intro r
   induction r with
   | nil => intro o _; rfl
   | cons x r ih =>
    intro o hx
    rw [wholeGo]
    have e : bClosed t x.policy = x.policy:=by unfold bClosed; rw [if_pos he]
    rw [e,if_neg (by rw [hx x (by simp)]; decide)]
    exact ih _ fun y hy => hx y (by simp [hy])
  rw [this t.program [] fun x hx => (h2 x hx).1] at g1
  cases g1
 ·have hst : (bWhole t).1.map (·.step) = t.program.map (·.step):=by
   show (wholeGo t [] t.program).1.map _ = _
   rw [g2]; simp [List.map_map,Function.comp_def]
  refine .inr ⟨g1, ?_,hst⟩
  have hm : ∀ x ∈ (bWhole t).1,ckTO l x.policy = 0 /\ ckO x.policy = 0 /\ ckS x.step = 0 /\ ckTS l x.step = 0:=by
   intro x hx
   have hx : x ∈ (wholeGo t [] t.program).1:=hx
   rw [g2,List.nil_append] at hx
   obtain ⟨y,hy,rfl⟩:=List.mem_map.1 hx
   have hg:=ckTO_of_good (g3 y hy) (good_closed hw (ckTO_good (h3 y hy).1).2)
   exact ⟨hg,(ckTO_good hg).1,(h2 y hy).2,(h3 y hy).2⟩
  refine ckT_of ?_ (fun x hx => ⟨(hm x hx).2.1,(hm x hx).2.2.1⟩) (fun x hx => ⟨(hm x hx).1,(hm x hx).2.2.2⟩) ?_
  ·have:=congrArg List.length hst
   simp only [List.length_map] at this
   omega
  ·rw [vGo_steps l _ _ [] hst]; exact h4
end Go.AI
namespace Go.AI
theorem Head.l_inj {a b : Head} (h : a.l = b.l) : a = b:=by
 cases a; cases b
 simp only [Head.l,List.cons.injEq,and_true] at h
 simp [h]
def cmpI : List Int -> List Int -> Int
 | [],[] => 0
 | [],_ :: _ => -1
 | _ :: _,[] => 1
 | x :: a,y :: b => if x < y then -1 else if y < x then 1 else cmpI a b
def cmpH (a b : Head) : Int:=cmpI a.l b.l
theorem cmpI_self : ∀ a : List Int,cmpI a a = 0
 | [] => rfl
 | x :: a => by rw [cmpI,if_neg (by omega),if_neg (by omega),cmpI_self a]
theorem cmpI_eq : ∀ {a b : List Int},cmpI a b = 0 -> a = b
 | [],[],_ => rfl
 | [],_ :: _,h => by simp [cmpI] at h
 | _ :: _,[],h => by simp [cmpI] at h
 | x :: a,y :: b,h => by
  rw [cmpI] at h
  split at h
  ·cases h
  ·split at h
   ·cases h
   ·have : x = y:=by omega
    rw [this,cmpI_eq h]
theorem cmpI_neg : ∀ a b : List Int,cmpI a b = - cmpI b a
 | [],[] => rfl
 | [],_ :: _ => rfl
 | _ :: _,[] => rfl
 | x :: a,y :: b => by
  rw [cmpI,cmpI]
  by_cases h1 : x < y
  ·rw [if_pos h1,if_neg (by omega),if_pos h1]
  ·by_cases h2 : y < x
   ·rw [if_neg h1,if_pos h2,if_pos h2]; rfl
   ·rw [if_neg h1,if_neg h2,if_neg h2,if_neg h1,cmpI_neg a b]
theorem cmpI_trans : ∀ {a b c : List Int},cmpI a b < 0 -> cmpI b c < 0 -> cmpI a c < 0
 | [],[],_,h,_ => by simp [cmpI] at h
 | [],_ :: _,[],_,h => by simp [cmpI] at h
 | [],_ :: _,_ :: _,_,_ => by simp [cmpI]
 | _ :: _,[],_,h,_ => by simp [cmpI] at h
 | _ :: _,_ :: _,[],_,h => by simp [cmpI] at h
 | x :: a,y :: b,z :: c,h1,h2 => by
  rw [cmpI] at h1 h2 ⊢
  by_cases hxy : x < y
  ·by_cases hyz : y < z
   ·rw [if_pos (by omega)]; decide
   ·rw [if_neg hyz] at h2
    by_cases hzy : z < y
    ·rw [if_pos hzy] at h2; simp at h2
    ·rw [if_pos (by omega)]; decide
  ·rw [if_neg hxy] at h1
   by_cases hyx : y < x
   ·rw [if_pos hyx] at h1; simp at h1
   ·rw [if_neg hyx] at h1
    have : x = y:=by omega
    subst this
    by_cases hyz : x < z
    ·rw [if_pos hyz]; decide
    ·rw [if_neg hyz] at h2 ⊢
     by_cases hzy : z < x
     ·rw [if_pos hzy] at h2; simp at h2
     ·rw [if_neg hzy] at h2 ⊢
      exact cmpI_trans h1 h2
theorem cmpH_self (a : Head) : cmpH a a = 0:=cmpI_self _
theorem cmpH_eq {a b : Head} (h : cmpH a b = 0) : a = b:=Head.l_inj (cmpI_eq h)
theorem cmpH_neg (a b : Head) : cmpH a b = - cmpH b a:=cmpI_neg _ _
theorem cmpH_trans {a b c : Head} (h1 : cmpH a b < 0) (h2 : cmpH b c < 0) : cmpH a c < 0:=cmpI_trans h1 h2
def srtH (l : List Head) : Prop:=l.Pairwise fun a b => cmpH a b < 0
theorem srtH_nil : srtH []:=.nil
theorem srtH_one (h : Head) : srtH [h]:=List.pairwise_singleton _ _
theorem srt_ext : ∀ {a b : List Head},srtH a -> srtH b -> (∀ x,x ∈ a ↔ x ∈ b) -> a = b
 | [],[],_,_,_ => rfl
 | [],y :: b,_,_,h => by have:=(h y).2 (by simp); cases this
 | x :: a,[],_,_,h => by have:=(h x).1 (by simp); cases this
 | x :: a,y :: b,h1,h2,h => by
  obtain ⟨g1,g2⟩:=List.pairwise_cons.1 h1
  obtain ⟨g3,g4⟩:=List.pairwise_cons.1 h2
  have hxy : x = y:=by
   rcases List.mem_cons.1 ((h x).1 (by simp)) with e | e
   ·exact e
   ·rcases List.mem_cons.1 ((h y).2 (by simp)) with e2 | e2
    ·exact e2.symm
    ·have h3:=g3 x e
     have h4:=g1 y e2
     have:=cmpH_neg x y
     omega
  subst hxy
  congr 1
  refine srt_ext g2 g4 fun z => ⟨fun hz => ?_,fun hz => ?_⟩
  ·rcases List.mem_cons.1 ((h z).1 (by simp [hz])) with e | e
   ·subst e; have:=g1 z hz; rw [cmpH_self] at this; omega
   ·exact e
  ·rcases List.mem_cons.1 ((h z).2 (by simp [hz])) with e | e
   ·subst e; have:=g3 z hz; rw [cmpH_self] at this; omega
   ·exact e
def putH (h : Head) : List Head -> List Head
 | [] => [h]
 | x :: r => if cmpH x h < 0 then x :: putH h r else if x = h then x :: r else h :: x :: r
def mergeH (a b : List Head) : List Head:=b.foldl (fun o x => putH x o) a
theorem mem_putH (h z : Head) : ∀ l : List Head,z ∈ putH h l ↔ z = h \/ z ∈ l
 | [] => by simp [putH]
 | x :: r => by
  rw [putH]
  split
  ·rw [List.mem_cons,mem_putH h z r,List.mem_cons]
   constructor
   ·rintro (e | e | e)
    ·exact .inr (.inl e)
    ·exact .inl e
    ·exact .inr (.inr e)
   ·rintro (e | e | e)
    ·exact .inr (.inl e)
    ·exact .inl e
    ·exact .inr (.inr e)
  ·split
   ·rename_i e
    subst e
    simp
   ·simp
theorem srt_putH (h : Head) : ∀ {l : List Head},srtH l -> srtH (putH h l)
 | [],_ => srtH_one h
 | x :: r,hs => by
  obtain ⟨g1,g2⟩:=List.pairwise_cons.1 hs
  rw [putH]
  split
  ·rename_i hlt
   refine List.pairwise_cons.2 ⟨fun z hz => ?_,srt_putH h g2⟩
   rcases (mem_putH h z r).1 hz with e | e
   ·rw [e]; exact hlt
   ·exact g1 z e
  ·rename_i hlt
   split
   ·exact hs
   ·rename_i hne
    have hx : cmpH h x < 0:=by
     have h1:=cmpH_neg h x
     have : cmpH x h ≠ 0:=fun e => hne (cmpH_eq e)
     omega
    refine List.pairwise_cons.2 ⟨fun z hz => ?_,hs⟩
    rcases List.mem_cons.1 hz with e | e
    ·rw [e]; exact hx
    ·exact cmpH_trans hx (g1 z e)
theorem putH_len (h : Head) : ∀ l : List Head,l.length <= (putH h l).length /\ (putH h l).length <= l.length + 1
 | [] => by simp [putH]
 | x :: r => by
  have:=putH_len h r
  rw [putH]
  split
  ·simp only [List.length_cons]; omega
  ·split <;> simp
theorem mem_mergeH (z : Head) : ∀ (b a : List Head),z ∈ mergeH a b ↔ z ∈ a \/ z ∈ b
 | [],a => by simp [mergeH]
 | x :: b,a => by
  have:=mem_mergeH z b (putH x a)
  unfold mergeH at this ⊢
  rw [List.foldl_cons,this,mem_putH,List.mem_cons]
  constructor
  ·rintro ((e | e) | e)
   ·exact .inr (.inl e)
   ·exact .inl e
   ·exact .inr (.inr e)
  ·rintro (e | e | e)
   ·exact .inl (.inr e)
   ·exact .inl (.inl e)
   ·exact .inr e
theorem srt_mergeH : ∀ (b : List Head) {a : List Head},srtH a -> srtH (mergeH a b)
 | [],_,h => h
 | x :: b,a,h => srt_mergeH b (a:=putH x a) (srt_putH x h)
theorem mergeH_len : ∀ (b a : List Head),a.length <= (mergeH a b).length /\ (mergeH a b).length <= a.length + b.length
 | [],a => by simp [mergeH]
 | x :: b,a => by
  have h1:=mergeH_len b (putH x a)
  have h2:=putH_len x a
  unfold mergeH at h1 ⊢
  rw [List.foldl_cons,List.length_cons]
  omega
def mrgGo : Nat -> List Head -> List Head -> List Head
 | 0,_,_ => []
 | _ + 1,[],b => b
 | _ + 1,a,[] => a
 | n + 1,x :: a,y :: b => if cmpH x y < 0 then x :: mrgGo n a (y :: b) else if cmpH x y = 0 then y :: mrgGo n a b else y :: mrgGo n (x :: a) b
def mrgH (a b : List Head) : List Head:=mrgGo (a.length + b.length + 1) a b
theorem mem_mrgGo (z : Head) : ∀ (n : Nat) (a b : List Head),a.length + b.length < n -> (z ∈ mrgGo n a b ↔ z ∈ a \/ z ∈ b)
 | 0,a,b,h => by omega
 | n + 1,[],b,_ => by simp [mrgGo]
 | n + 1,x :: a,[],_ => by simp [mrgGo]
 | n + 1,x :: a,y :: b,h => by
  simp only [List.length_cons] at h
  rw [mrgGo]
  split
  ·rw [List.mem_cons,mem_mrgGo z n a (y :: b) (by simp; omega),List.mem_cons (l:=a)]
   constructor
   ·rintro (e | e | e)
    ·exact .inl (.inl e)
    ·exact .inl (.inr e)
    ·exact .inr e
   ·rintro ((e | e) | e)
    ·exact .inl e
    ·exact .inr (.inl e)
    ·exact .inr (.inr e)
  ·split
   ·rename_i he
    have hxy:=cmpH_eq he
    subst hxy
    rw [List.mem_cons,mem_mrgGo z n a b (by omega),List.mem_cons,List.mem_cons]
    constructor
    ·rintro (e | e | e)
     ·exact .inl (.inl e)
     ·exact .inl (.inr e)
     ·exact .inr (.inr e)
    ·rintro ((e | e) | (e | e))
     ·exact .inl e
     ·exact .inr (.inl e)
     ·exact .inl e
     ·exact .inr (.inr e)
   ·rw [List.mem_cons,mem_mrgGo z n (x :: a) b (by simp; omega),List.mem_cons (l:=b)]
    constructor
    ·rintro (e | e | e)
     ·exact .inr (.inl e)
     ·exact .inl e
     ·exact .inr (.inr e)
    ·rintro (e | e | e)
     ·exact .inr (.inl e)
     ·exact .inl e
     ·exact .inr (.inr e)
theorem srt_mrgGo : ∀ (n : Nat) (a b : List Head),a.length + b.length < n -> srtH a -> srtH b -> srtH (mrgGo n a b)
 | 0,a,b,h,_,_ => by omega
 | n + 1,[],b,_,_,hb => by simpa [mrgGo] using hb
 | n + 1,x :: a,[],_,ha,_ => by simpa [mrgGo] using ha
 | n + 1,x :: a,y :: b,h,ha,hb => by
  simp only [List.length_cons] at h
  obtain ⟨g1,g2⟩:=List.pairwise_cons.1 ha
  obtain ⟨g3,g4⟩:=List.pairwise_cons.1 hb
  rw [mrgGo]
  split
  ·rename_i hlt
   refine List.pairwise_cons.2 ⟨fun z hz => ?_,srt_mrgGo n a (y :: b) (by simp; omega) g2 hb⟩
   rcases (mem_mrgGo z n a (y :: b) (by simp; omega)).1 hz with e | e
   ·exact g1 z e
   ·rcases List.mem_cons.1 e with e | e
    ·rw [e]; exact hlt
    ·exact cmpH_trans hlt (g3 z e)
  ·rename_i hlt
   split
   ·rename_i he
    have hxy:=cmpH_eq he
    subst hxy
    refine List.pairwise_cons.2 ⟨fun z hz => ?_,srt_mrgGo n a b (by omega) g2 g4⟩
    rcases (mem_mrgGo z n a b (by omega)).1 hz with e | e
    ·exact g1 z e
    ·exact g3 z e
   ·rename_i hne
    have hyx : cmpH y x < 0:=by have:=cmpH_neg x y; omega
    refine List.pairwise_cons.2 ⟨fun z hz => ?_,srt_mrgGo n (x :: a) b (by simp; omega) ha g4⟩
    rcases (mem_mrgGo z n (x :: a) b (by simp; omega)).1 hz with e | e
    ·rcases List.mem_cons.1 e with e | e
     ·rw [e]; exact hyx
     ·exact cmpH_trans hyx (g1 z e)
    ·exact g3 z e
theorem mrgH_eq {a b : List Head} (ha : srtH a) (hb : srtH b) : mrgH a b = mergeH a b :=
 srt_ext (srt_mrgGo _ a b (by omega) ha hb) (srt_mergeH b ha) fun z => by rw [mrgH,mem_mrgGo z _ a b (by omega),mem_mergeH]
def imgGo (f : Head -> Option (List Head)) : List Head -> List Head -> Option (List Head)
 | o,[] => some o
 | o,x :: r => match f x with
  | none => none
  | some a => if 256 < (mergeH o a).length then none else imgGo f (mergeH o a) r
def newH (o n : List Head) : List Head:=n.filter fun x => !o.any fun y => decide (y = x)
def cloGo (f : Head -> Option (List Head)) : Nat -> List Head -> List Head -> Option (List Head)
 | 0,_,_ => none
 | k + 1,o,n => if n = [] then some o else match imgGo f [] n with
  | none => none
  | some m => if 256 < (mergeH o (newH o m)).length then none else cloGo f k (mergeH o (newH o m)) (newH o m)
end Go.AI
namespace Go.AI
def wordAt (h : Head) (k : Nat) : Int:=(h.l[k]?).getD 0
def setW (h : Head) (k : Nat) (v : Int) : Head :=
 ⟨if k = 0 then v else h.h0,if k = 1 then v else h.h1,if k = 2 then v else h.h2,if k = 3 then v else h.h3,if k = 4 then v else h.h4,if k = 5 then v else h.h5,if k = 6 then v else h.h6,if k = 7 then v else h.h7,if k = 8 then v else h.h8,if k = 9 then v else h.h9⟩
def okFld (f : Fld) : Prop:=1 <= f.width /\ f.width <= 16 /\ 0 <= f.at_ /\ f.at_ <= 143 /\ f.at_ % 16 + f.width <= 16
def fK (f : Fld) : Nat:=(f.at_ / 16).toNat
def fS (f : Fld) : Nat:=(16 - f.at_ % 16 - f.width).toNat
def fW (f : Fld) : Nat:=f.width.toNat
def getN (f : Fld) (h : Head) : Nat:=(wordAt h (fK f)).toNat / 2 ^ fS f % 2 ^ fW f
def setN (f : Fld) (h : Head) (n : Nat) : Head:=setW h (fK f) ((((wordAt h (fK f)).toNat ^^^ ((wordAt h (fK f)).toNat &&& ((2 ^ fW f - 1) <<< fS f))) ||| (n <<< fS f) : Nat) : Int)
theorem okFld_dims {f : Fld} (h : okFld f) : fK f <= 8 /\ fS f + fW f <= 16 /\ 1 <= fW f:=by
 unfold okFld at h
 unfold fK fS fW
 omega
theorem rightH_word {h : Head} (hr : rightH h = true) (k : Nat) : 0 <= wordAt h k /\ wordAt h k <= 65535:=by
 unfold rightH at hr
 unfold wordAt
 cases hk : h.l[k]? with
 | none => simp
 | some v =>
  have:=List.all_eq_true.1 hr v (List.mem_of_getElem? hk)
  simpa [wordB16] using this
theorem l_setW (h : Head) (k : Nat) (v : Int) : (setW h k v).l = h.l.set k v:=by
 match k with
 | 0 => rfl
 | 1 => rfl
 | 2 => rfl
 | 3 => rfl
 | 4 => rfl
 | 5 => rfl
 | 6 => rfl
 | 7 => rfl
 | 8 => rfl
 | 9 => rfl
 | n + 10 => rfl
theorem rightH_setW {h : Head} (hr : rightH h = true) (k : Nat) {v : Int} (h0 : 0 <= v) (h1 : v <= 65535) : rightH (setW h k v) = true:=by
 unfold rightH at hr ⊢
 rw [l_setW,List.all_eq_true]
 intro x hx
 rcases List.mem_or_eq_of_mem_set hx with hx | rfl
 ·exact List.all_eq_true.1 hr x hx
 ·simp [wordB16,h0,h1]
theorem bits_low {W M : Nat} (hW : W < 65536) (hM : M < 65536) : W ^^^ (W &&& M) < 65536:=Nat.xor_lt_two_pow (n:=16) hW (Nat.and_lt_two_pow _ hM)
theorem set_lt {W s w n : Nat} (hW : W < 65536) (hn : n < 2 ^ w) (hsw : s + w <= 16) : (W ^^^ (W &&& ((2 ^ w - 1) <<< s))) ||| (n <<< s) < 65536:=by
 refine Nat.or_lt_two_pow (n:=16) (Nat.xor_lt_two_pow (n:=16) hW (Nat.lt_of_le_of_lt Nat.and_le_left hW)) ?_
 rw [Nat.shiftLeft_eq]
 calc n * 2 ^ s < 2 ^ w * 2 ^ s:=Nat.mul_lt_mul_of_pos_right hn (Nat.two_pow_pos s)
  _ = 2 ^ (s + w):=by rw [Nat.add_comm,Nat.pow_add]
  _ <= 2 ^ 16:=Nat.pow_le_pow_right (by decide) hsw
end Go.AI
namespace Go.AI
theorem wordAt_setW (h : Head) (k j : Nat) (v : Int) (hk : k < 10) : wordAt (setW h k v) j = if j = k then v else wordAt h j:=by
 unfold wordAt
 rw [l_setW,List.getElem?_set]
 by_cases e : k = j
 ·subst e
  rw [if_pos rfl,if_pos (by simpa [Head.l] using hk),if_pos rfl]; rfl
 ·rw [if_neg e,if_neg (fun c => e c.symm)]
theorem wordAt_z (j : Nat) : wordAt Head.z j = 0:=by
 match j with
 | 0 | 1 | 2 | 3 | 4 | 5 | 6 | 7 | 8 | 9 => rfl
 | n + 10 => rfl
theorem head_ext {a b : Head} (h : ∀ k,k < 10 -> wordAt a k = wordAt b k) : a = b:=by
 apply Head.l_inj
 apply List.ext_getElem?
 intro k
 by_cases hk : k < 10
 ·have:=h k hk
  unfold wordAt at this
  have la : a.l.length = 10:=rfl
  have lb : b.l.length = 10:=rfl
  rw [List.getElem?_eq_getElem (by omega),List.getElem?_eq_getElem (by omega)] at this ⊢
  simpa using this
 ·rw [List.getElem?_eq_none (by show 10 <= k; omega),List.getElem?_eq_none (by show 10 <= k; omega)]
def maskN (w m : Nat) : Nat:=(2 ^ w - 1) ^^^ ((2 ^ w - 1) &&& (2 ^ (w - m) - 1))
theorem maskN_bit (w m j : Nat) : (maskN w m).testBit j = (decide (w - m <= j) && decide (j < w)):=by
 unfold maskN
 rw [Nat.testBit_xor,Nat.testBit_and,Nat.testBit_two_pow_sub_one,Nat.testBit_two_pow_sub_one]
 by_cases h1 : j < w <;> by_cases h2 : j < w - m <;> simp [h1,h2] <;> omega
theorem maskN_lt (w m : Nat) : maskN w m < 2 ^ w:=by
 have : 0 < 2 ^ w:=Nat.two_pow_pos w
 exact Nat.xor_lt_two_pow (by omega) (Nat.lt_of_le_of_lt Nat.and_le_left (by omega))
theorem maskN_full (w : Nat) : maskN w w = 2 ^ w - 1:=by
 unfold maskN
 rw [Nat.sub_self]; simp
def patN (f : Fld) (n m : Nat) : Pat:=⟨setN f Head.z (maskN (fW f) m),setN f Head.z (n &&& maskN (fW f) m)⟩
def matchB (p : Pat) (h : Head) : Bool:=(List.range 10).all fun i => (((wordAt p.bits i).toNat ^^^ (wordAt h i).toNat) &&& (wordAt p.mask i).toNat) == 0
def applyW (p : Pat) (h : Head) (i : Nat) : Int:=((((wordAt h i).toNat ^^^ ((wordAt h i).toNat &&& (wordAt p.mask i).toNat)) ||| (wordAt p.bits i).toNat : Nat) : Int)
def applyH (p : Pat) (h : Head) : Head:=⟨applyW p h 0,applyW p h 1,applyW p h 2,applyW p h 3,applyW p h 4,applyW p h 5,applyW p h 6,applyW p h 7,applyW p h 8,applyW p h 9⟩
theorem setN_z (f : Fld) (hf : okFld f) (v j : Nat) : wordAt (setN f Head.z v) j = if j = fK f then ((v <<< fS f : Nat) : Int) else 0:=by
 have hd:=okFld_dims hf
 unfold setN
 rw [wordAt_setW _ _ _ _ (by omega),wordAt_z,wordAt_z]
 split <;> simp
theorem div_eq_bits {a b w k : Nat} (ha : a < 2 ^ w) (hb : b < 2 ^ w) : a / 2 ^ k = b / 2 ^ k ↔ ∀ j,k <= j -> j < w -> a.testBit j = b.testBit j:=by
 constructor
 ·intro h j h1 _
  have e : j = (j - k) + k:=by omega
  rw [e,<- Nat.testBit_div_two_pow,<- Nat.testBit_div_two_pow,h]
 ·intro h
  apply Nat.eq_of_testBit_eq
  intro i
  rw [Nat.testBit_div_two_pow,Nat.testBit_div_two_pow]
  by_cases hw : i + k < w
  ·exact h _ (by omega) hw
  ·rw [Nat.testBit_lt_two_pow (Nat.lt_of_lt_of_le ha (Nat.pow_le_pow_right (by decide) (by omega))),Nat.testBit_lt_two_pow (Nat.lt_of_lt_of_le hb (Nat.pow_le_pow_right (by decide) (by omega)))]
theorem getN_bit (f : Fld) (h : Head) (j : Nat) (hj : j < fW f) : (getN f h).testBit j = (wordAt h (fK f)).toNat.testBit (fS f + j):=by
 unfold getN
 rw [Nat.testBit_mod_two_pow,Nat.testBit_div_two_pow,Nat.add_comm]
 simp [hj]
theorem getN_lt (f : Fld) (h : Head) : getN f h < 2 ^ fW f:=Nat.mod_lt _ (Nat.two_pow_pos _)
theorem match_pat {f : Fld} (hf : okFld f) {n m : Nat} (hn : n < 2 ^ fW f) (hm : m <= fW f) (h : Head) : matchB (patN f n m) h = decide (getN f h / 2 ^ (fW f - m) = n / 2 ^ (fW f - m)):=by
 have hd:=okFld_dims hf
 rw [Bool.eq_iff_iff,decide_eq_true_eq,div_eq_bits (getN_lt f h) hn]
 unfold matchB patN
 rw [List.all_eq_true]
 constructor
 ·intro hall j h1 h2
  have:=hall (fK f) (by rw [List.mem_range]; omega)
  rw [setN_z f hf,setN_z f hf,if_pos rfl,if_pos rfl,beq_iff_eq,Int.toNat_natCast,Int.toNat_natCast] at this
  have hb : ((((n &&& maskN (fW f) m) <<< fS f) ^^^ (wordAt h (fK f)).toNat) &&& (maskN (fW f) m <<< fS f)).testBit (fS f + j) = false:=by rw [this]; simp
  rw [Nat.testBit_and,Nat.testBit_xor,Nat.testBit_shiftLeft,Nat.testBit_shiftLeft,Nat.testBit_and] at hb
  have e1 : decide (fS f <= fS f + j) = true:=by simp
  have e2 : fS f + j - fS f = j:=by omega
  have e3 : (maskN (fW f) m).testBit j = true:=by rw [maskN_bit]; simp; omega
  rw [e1,e2,e3] at hb
  rw [getN_bit f h j h2]
  simp only [Bool.and_true,Bool.true_and,bne_eq_false_iff_eq] at hb
  exact hb.symm
 ·intro hbits i hi
  rw [setN_z f hf,setN_z f hf]
  by_cases e : i = fK f
  ·subst e
   rw [if_pos rfl,if_pos rfl,beq_iff_eq,Int.toNat_natCast,Int.toNat_natCast]
   apply Nat.eq_of_testBit_eq
   intro i
   rw [Nat.testBit_and,Nat.testBit_xor,Nat.testBit_shiftLeft,Nat.testBit_shiftLeft,Nat.testBit_and,maskN_bit]
   by_cases g0 : fS f <= i
   ·by_cases g1 : fW f - m <= i - fS f /\ i - fS f < fW f
    ·have hb:=hbits (i - fS f) g1.1 g1.2
     rw [getN_bit f h _ g1.2,show fS f + (i - fS f) = i by omega] at hb
     have e1 : decide (fS f <= i) = true:=by simpa using g0
     have e2 : (decide (fW f - m <= i - fS f) && decide (i - fS f < fW f)) = true:=by simp; omega
     rw [hb,e1,e2]
     simp
    ·have : (decide (fW f - m <= i - fS f) && decide (i - fS f < fW f)) = false:=by simp; omega
     rw [this]; simp
   ·simp [g0]
  ·rw [if_neg e,if_neg e]; simp
theorem apply_pat {f : Fld} (hf : okFld f) {n : Nat} (hn : n < 2 ^ fW f) {h : Head} (hr : rightH h = true) : applyH (patN f n (fW f)) h = setN f h n:=by
 have hd:=okFld_dims hf
 apply head_ext
 intro k hk
 have e1 : wordAt (applyH (patN f n (fW f)) h) k = applyW (patN f n (fW f)) h k:=by
  match k,hk with
  | 0,_ | 1,_ | 2,_ | 3,_ | 4,_ | 5,_ | 6,_ | 7,_ | 8,_ | 9,_ => rfl
 rw [e1]
 unfold applyW patN
 rw [setN_z f hf,setN_z f hf,maskN_full]
 have hand : n &&& (2 ^ fW f - 1) = n:=by rw [Nat.and_two_pow_sub_one_eq_mod,Nat.mod_eq_of_lt hn]
 rw [hand]
 unfold setN
 rw [wordAt_setW _ _ _ _ (by omega)]
 by_cases e : k = fK f
 ·subst e
  rw [if_pos rfl,if_pos rfl,if_pos rfl,Int.toNat_natCast,Int.toNat_natCast]
 ·rw [if_neg e,if_neg e,if_neg e]
  have:=(rightH_word hr k).1
  simp; omega
theorem right_setN {f : Fld} (hf : okFld f) {n : Nat} (hn : n < 2 ^ fW f) {h : Head} (hr : rightH h = true) : rightH (setN f h n) = true:=by
 have hd:=okFld_dims hf
 have hw:=rightH_word hr (fK f)
 have hlt:=set_lt (W:=(wordAt h (fK f)).toNat) (s:=fS f) (w:=fW f) (n:=n) (by omega) hn (by omega)
 unfold setN
 refine rightH_setW hr _ (by omega) ?_
 omega
end Go.AI
namespace Go.AI
open Go.Proofs
set_option maxRecDepth 50000
def andI (x y : Int) : Int:=IntKind.i64.wrap (BitVec.ofInt 64 x &&& BitVec.ofInt 64 y).toNat
def orI (x y : Int) : Int:=IntKind.i64.wrap (BitVec.ofInt 64 x ||| BitVec.ofInt 64 y).toNat
def xorI (x y : Int) : Int:=IntKind.i64.wrap (BitVec.ofInt 64 x ^^^ BitVec.ofInt 64 y).toNat
def clrI (x y : Int) : Int:=IntKind.i64.wrap (BitVec.ofInt 64 x &&& ~~~ BitVec.ofInt 64 y).toNat
section
variable {P : Program} {t : TypeId} {k : IntKind} {x y : Int} {d : Tmp} {K : Kt} {e : Env} {H : Heap}
@[go_sem] theorem binK_andK : binK P .and t (.int .i64 x) (.int .i64 y) d K e H = K ((d,.int .i64 (andI x y)) :: e) H:=by
 rw [binK_int]; exact propext ⟨fun h => h.2,fun h => ⟨rfl,h⟩⟩
@[go_sem] theorem binK_orK : binK P .or t (.int .i64 x) (.int .i64 y) d K e H = K ((d,.int .i64 (orI x y)) :: e) H:=by
 rw [binK_int]; exact propext ⟨fun h => h.2,fun h => ⟨rfl,h⟩⟩
@[go_sem] theorem binK_xorK : binK P .xor t (.int .i64 x) (.int .i64 y) d K e H = K ((d,.int .i64 (xorI x y)) :: e) H:=by
 rw [binK_int]; exact propext ⟨fun h => h.2,fun h => ⟨rfl,h⟩⟩
@[go_sem] theorem binK_clrK : binK P .andNot t (.int .i64 x) (.int .i64 y) d K e H = K ((d,.int .i64 (clrI x y)) :: e) H:=by
 rw [binK_int]; exact propext ⟨fun h => h.2,fun h => ⟨rfl,h⟩⟩
@[go_sem] theorem binK_shrK : binK P .shr t (.int .i64 x) (.int k y) d K e H = (0 <= y /\ K ((d,.int .i64 (x.fdiv (2 ^ (min y.toNat 64)))) :: e) H):=by
 rw [binK_int]; rfl
end
theorem ofInt_nat (a : Nat) : BitVec.ofInt 64 (a : Int) = BitVec.ofNat 64 a:=by
 apply BitVec.eq_of_toInt_eq; simp
theorem andI_nat {a b : Nat} (ha : a < 9223372036854775808) (hb : b < 9223372036854775808) : andI a b = ((a &&& b : Nat) : Int):=by
 have h1 : a &&& b < 2 ^ 63:=Nat.and_lt_two_pow _ (by omega)
 unfold andI
 rw [ofInt_nat,ofInt_nat,BitVec.toNat_and,BitVec.toNat_ofNat,BitVec.toNat_ofNat,Nat.mod_eq_of_lt (by omega),Nat.mod_eq_of_lt (by omega)]
 exact w64 (by omega) (by omega)
theorem orI_nat {a b : Nat} (ha : a < 9223372036854775808) (hb : b < 9223372036854775808) : orI a b = ((a ||| b : Nat) : Int):=by
 have h1 : a ||| b < 2 ^ 63:=Nat.or_lt_two_pow (by omega) (by omega)
 unfold orI
 rw [ofInt_nat,ofInt_nat,BitVec.toNat_or,BitVec.toNat_ofNat,BitVec.toNat_ofNat,Nat.mod_eq_of_lt (by omega),Nat.mod_eq_of_lt (by omega)]
 exact w64 (by omega) (by omega)
theorem xorI_nat {a b : Nat} (ha : a < 9223372036854775808) (hb : b < 9223372036854775808) : xorI a b = ((a ^^^ b : Nat) : Int):=by
 have h1 : a ^^^ b < 2 ^ 63:=Nat.xor_lt_two_pow (by omega) (by omega)
 unfold xorI
 rw [ofInt_nat,ofInt_nat,BitVec.toNat_xor,BitVec.toNat_ofNat,BitVec.toNat_ofNat,Nat.mod_eq_of_lt (by omega),Nat.mod_eq_of_lt (by omega)]
 exact w64 (by omega) (by omega)
theorem clrI_nat {a b : Nat} (ha : a < 9223372036854775808) (hb : b < 9223372036854775808) : clrI a b = ((a ^^^ (a &&& b) : Nat) : Int):=by
 have h1 : a ^^^ (a &&& b) < 2 ^ 63:=Nat.xor_lt_two_pow (by omega) (Nat.and_lt_two_pow _ (by omega))
 have e : (BitVec.ofNat 64 a &&& ~~~ BitVec.ofNat 64 b) = BitVec.ofNat 64 a ^^^ (BitVec.ofNat 64 a &&& BitVec.ofNat 64 b):=by
  generalize BitVec.ofNat 64 a = u
  generalize BitVec.ofNat 64 b = v
  ext i hi
  simp only [BitVec.getElem_and,BitVec.getElem_not,BitVec.getElem_xor]
  cases u[i] <;> cases v[i] <;> rfl
 unfold clrI
 rw [ofInt_nat,ofInt_nat,e,BitVec.toNat_xor,BitVec.toNat_and,BitVec.toNat_ofNat,BitVec.toNat_ofNat,Nat.mod_eq_of_lt (by omega),Nat.mod_eq_of_lt (by omega)]
 exact w64 (by omega) (by omega)
theorem shr_nat {a s : Nat} (hs : s <= 64) : (a : Int).fdiv (2 ^ min s 64) = ((a / 2 ^ s : Nat) : Int):=by
 rw [Nat.min_eq_left hs,Int.fdiv_eq_ediv_of_nonneg _ (Int.pow_nonneg (by decide))]
 push_cast; rfl
theorem Head.c_at (h : Head) {k : Nat} (hk : k < 10) : h.c[k]? = some (.int .i64 (wordAt h k)):=by
 match k,hk with
 | 0,_ | 1,_ | 2,_ | 3,_ | 4,_ | 5,_ | 6,_ | 7,_ | 8,_ | 9,_ => rfl
theorem Head.c_set (h : Head) {k : Nat} (hk : k < 10) (v : Int) : splice h.c k [.int .i64 v] = (setW h k v).c:=by
 match k,hk with
 | 0,_ | 1,_ | 2,_ | 3,_ | 4,_ | 5,_ | 6,_ | 7,_ | 8,_ | 9,_ => rfl
theorem fdims {f : Fld} (hf : okFld f) : IntKind.i64.wrap (f.at_.tdiv 16) = (fK f : Int) /\ f.at_.tmod 16 = f.at_ % 16 /\ IntKind.i64.wrap (IntKind.i64.wrap (16 - f.at_ % 16) - f.width) = (fS f : Int):=by
 have h:=hf
 unfold okFld at h
 have e1 : f.at_.tdiv 16 = f.at_ / 16:=Int.tdiv_eq_ediv_of_nonneg (by omega)
 have e2 : f.at_.tmod 16 = f.at_ % 16:=Int.tmod_eq_emod_of_nonneg (by omega)
 refine ⟨?_,e2, ?_⟩
 ·rw [e1,w64 (by omega) (by omega)]; unfold fK; omega
 ·rw [w64 (n:=16 - f.at_ % 16) (by omega) (by omega),w64 (by omega) (by omega)]; unfold fS; omega
theorem p_shift (f : Fld) (hf : okFld f) : PCall Tryz.prog 248 [.agg f.c] (.int .i64 (fS f)):=by
 obtain ⟨d1,d2,d3⟩:=fdims hf
 have g16 : ¬((16 : Int) = 0):=by decide
 refine pC h248_k rfl ?_
 simp only [Tryz.f248,go_sem,d2,d3,g16]
theorem maxF_ok {f : Fld} (hf : okFld f) : maxF f = ((2 ^ fW f - 1 : Nat) : Int):=by
 have h:=hf
 unfold okFld at h
 have hp : ∀ n : Nat,n <= 16 -> powW n = ((2 ^ n : Nat) : Int):=by
  intro n
  induction n with
  | zero => intro _; rfl
  | succ n ih =>
   intro hn
   rw [powW,ih (by omega)]
   have : 2 ^ n <= 2 ^ 16:=Nat.pow_le_pow_right (by decide) (by omega)
   unfold i64
   rw [Nat.pow_succ]
   generalize 2 ^ n = z at this ⊢
   rw [w64 (by omega) (by omega)]
   exact (Int.natCast_mul _ _).symm
 unfold maxF
 rw [hp _ (by omega)]
 have h1 : 2 ^ f.width.toNat <= 2 ^ 16:=Nat.pow_le_pow_right (by decide) (by omega)
 have h2 : 0 < 2 ^ f.width.toNat:=Nat.two_pow_pos _
 unfold i64 fW
 rw [w64 (by omega) (by omega)]
 omega
theorem p_fGet (f : Fld) (hf : okFld f) (h : Head) (hr : rightH h = true) : PCall Tryz.prog 178 [.agg f.c,.agg h.c] (.int .i64 (getN f h)):=by
 obtain ⟨d1,d2,d3⟩:=fdims hf
 have hd:=okFld_dims hf
 have hw:=rightH_word hr (fK f)
 have i0 : (0 : Int) <= (fK f : Int):=by omega
 have i1 : (fK f : Int) < ((10 : Nat) : Int):=by omega
 have i2:=Head.c_at h (show fK f < 10 by omega)
 obtain ⟨W,hW⟩ : ∃ W : Nat,wordAt h (fK f) = (W : Int):=⟨(wordAt h (fK f)).toNat,by omega⟩
 have hM : 2 ^ fW f <= 2 ^ 16:=Nat.pow_le_pow_right (by decide) (by omega)
 have hD : W / 2 ^ fS f <= W:=Nat.div_le_self _ _
 have g16 : ¬((16 : Int) = 0):=by decide
 have g0 : (0 : Int) <= (fS f : Int):=by omega
 have c1:=p_shift f hf
 have c2:=p_Max f (by have:=hf; unfold okFld at this; omega) (by have:=hf; unfold okFld at this; omega)
 have e1 : (W : Int).fdiv (2 ^ min (fS f) 64) = ((W / 2 ^ fS f : Nat) : Int):=shr_nat (by omega)
 have e2 : andI ((W / 2 ^ fS f : Nat) : Int) ((2 ^ fW f - 1 : Nat) : Int) = (getN f h : Nat):=by
  rw [andI_nat (by omega) (by omega),Nat.and_two_pow_sub_one_eq_mod]
  unfold getN; rw [hW,Int.toNat_natCast]
 rw [maxF_ok hf] at c2
 rw [hW] at i2
 refine pC h178_k rfl ?_
 simp only [Tryz.f178,go_sem,d1,d2,d3,i0,i1,i2,g16,Int.toNat_natCast]
 repeat' (first
  | ((first | refine pK (c1) ?_ | refine pK (c2) ?_); simp only [go_sem,d1,d2,d3,i0,i1,i2,g16,g0,e1,e2,Int.toNat_natCast])
  | ((first | refine cS ?_ ?_ | refine gS ?_ ?_) <;> (intro hc; simp only [go_sem,hc,d1,d2,d3,i0,i1,i2,g16,g0,e1,e2,Int.toNat_natCast])))
theorem p_fSet (f : Fld) (hf : okFld f) (h : Head) (hr : rightH h = true) (n : Nat) (hn : n < 2 ^ fW f) : PCall Tryz.prog 247 [.agg f.c,.agg h.c,.int .i64 n] (.agg (setN f h n).c):=by
 obtain ⟨d1,d2,d3⟩:=fdims hf
 have hd:=okFld_dims hf
 have hw:=rightH_word hr (fK f)
 have i0 : (0 : Int) <= (fK f : Int):=by omega
 have i1 : (fK f : Int) < ((10 : Nat) : Int):=by omega
 have i2:=Head.c_at h (show fK f < 10 by omega)
 obtain ⟨W,hW⟩ : ∃ W : Nat,wordAt h (fK f) = (W : Int):=⟨(wordAt h (fK f)).toNat,by omega⟩
 have hM : 2 ^ fW f <= 2 ^ 16:=Nat.pow_le_pow_right (by decide) (by omega)
 have g16 : ¬((16 : Int) = 0):=by decide
 have g0 : (0 : Int) <= (fS f : Int):=by omega
 have c1:=p_shift f hf
 have c2:=p_Max f (by have:=hf; unfold okFld at this; omega) (by have:=hf; unfold okFld at this; omega)
 have hsh : ∀ x,x < 2 ^ fW f -> x <<< fS f < 65536:=by
  intro x hx
  rw [Nat.shiftLeft_eq]
  calc x * 2 ^ fS f < 2 ^ fW f * 2 ^ fS f:=Nat.mul_lt_mul_of_pos_right hx (Nat.two_pow_pos _)
   _ = 2 ^ (fS f + fW f):=by rw [Nat.add_comm,Nat.pow_add]
   _ <= 2 ^ 16:=Nat.pow_le_pow_right (by decide) (by omega)
 have hp : 0 < 2 ^ fW f:=Nat.two_pow_pos _
 have hk9 : fK f <= 9:=by omega
 have s1:=hsh (2 ^ fW f - 1) (by omega)
 have s2:=hsh n hn
 have hshl : ∀ x : Nat,x <<< fS f < 65536 -> IntKind.i64.wrap ((x : Int) * 2 ^ (min (fS f) 64)) = ((x <<< fS f : Nat) : Int):=by
  intro x hx
  have e : min (fS f) 64 = fS f:=Nat.min_eq_left (by omega)
  have e2 : (x : Int) * 2 ^ (min (fS f) 64) = ((x <<< fS f : Nat) : Int):=by
   rw [e,Nat.shiftLeft_eq]; push_cast; rfl
  rw [e2]
  generalize x <<< fS f = z at hx ⊢
  exact w64 (by omega) (by omega)
 have e1:=hshl _ s1
 have e2:=hshl _ s2
 have e3 : clrI (W : Int) (((2 ^ fW f - 1) <<< fS f : Nat) : Int) = ((W ^^^ (W &&& ((2 ^ fW f - 1) <<< fS f)) : Nat) : Int):=clrI_nat (by omega) (by omega)
 have hlow : W ^^^ (W &&& ((2 ^ fW f - 1) <<< fS f)) < 2 ^ 16:=bits_low (by omega) (by omega)
 have e4 : orI ((W ^^^ (W &&& ((2 ^ fW f - 1) <<< fS f)) : Nat) : Int) ((n <<< fS f : Nat) : Int) = (((W ^^^ (W &&& ((2 ^ fW f - 1) <<< fS f))) ||| (n <<< fS f) : Nat) : Int):=orI_nat (by omega) (by omega)
 have e5 : splice h.c (fK f) [.int .i64 (((W ^^^ (W &&& ((2 ^ fW f - 1) <<< fS f))) ||| (n <<< fS f) : Nat) : Int)] = (setN f h n).c:=by
  rw [Head.c_set h (by omega)]; unfold setN; rw [hW,Int.toNat_natCast]
 rw [maxF_ok hf] at c2
 rw [hW] at i2
 refine pC h247_k rfl ?_
 simp only [Tryz.f247,go_sem,d1,d2,d3,i0,i1,i2,g16,Int.toNat_natCast]
 repeat' (first
  | ((first | refine pK (c1) ?_ | refine pK (c2) ?_); simp only [go_sem,d1,d2,d3,i0,i1,i2,g16,g0,e1,e2,e3,e4,e5,hk9,Int.toNat_natCast])
  | ((first | refine cS ?_ ?_ | refine gS ?_ ?_) <;> (intro hc; simp only [go_sem,hc,d1,d2,d3,i0,i1,i2,g16,g0,e1,e2,e3,e4,e5,hk9,Int.toNat_natCast])))
end Go.AI
namespace Go.AI
open Go.Proofs
set_option maxRecDepth 50000
theorem p_Prefix (f : Fld) (hf : okFld f) (n m : Nat) (hn : n < 2 ^ fW f) (hm : m <= fW f) : PCall Tryz.prog 177 [.agg f.c,.int .i64 n,.int .i64 m] (.agg (patN f n m).c):=by
 have h:=hf
 unfold okFld at h
 have hw : f.width = (fW f : Int):=by unfold fW; omega
 have hd:=okFld_dims hf
 have hz : rightH Head.z = true:=by decide
 have hM : 2 ^ fW f <= 2 ^ 16:=Nat.pow_le_pow_right (by decide) (by omega)
 have hM2 : 2 ^ (fW f - m) <= 2 ^ 16:=Nat.pow_le_pow_right (by decide) (by omega)
 have hp : 0 < 2 ^ (fW f - m):=Nat.two_pow_pos _
 have hmk:=maskN_lt (fW f) m
 have hnm : n &&& maskN (fW f) m < 2 ^ fW f:=Nat.lt_of_le_of_lt Nat.and_le_left hn
 have c1:=p_Max f (by omega) (by omega)
 rw [maxF_ok hf] at c1
 have c2:=p_fSet f hf Head.z hz (maskN (fW f) m) hmk
 have c3:=p_fSet f hf Head.z hz (n &&& maskN (fW f) m) hnm
 have g0 : (0 : Int) <= ((fW f - m : Nat) : Int):=by omega
 have e1 : IntKind.i64.wrap (f.width - (m : Int)) = ((fW f - m : Nat) : Int):=by rw [w64 (by omega) (by omega)]; omega
 have e2 : IntKind.i64.wrap (1 * 2 ^ (min (fW f - m) 64)) = ((2 ^ (fW f - m) : Nat) : Int):=by
  rw [Nat.min_eq_left (by omega)]
  have : (1 : Int) * 2 ^ (fW f - m) = ((2 ^ (fW f - m) : Nat) : Int):=by rw [Int.one_mul]; push_cast; rfl
  rw [this]
  generalize 2 ^ (fW f - m) = z at hM2 ⊢
  exact w64 (by omega) (by omega)
 have e3 : IntKind.i64.wrap (((2 ^ (fW f - m) : Nat) : Int) - 1) = ((2 ^ (fW f - m) - 1 : Nat) : Int):=by
  generalize 2 ^ (fW f - m) = z at hM2 hp ⊢
  rw [w64 (by omega) (by omega)]; omega
 have e4 : clrI ((2 ^ fW f - 1 : Nat) : Int) ((2 ^ (fW f - m) - 1 : Nat) : Int) = (maskN (fW f) m : Nat):=by
  rw [clrI_nat (by omega) (by omega)]; rfl
 have e5 : andI (n : Int) ((maskN (fW f) m : Nat) : Int) = ((n &&& maskN (fW f) m : Nat) : Int):=andI_nat (by omega) (by omega)
 refine pC h177_k rfl ?_
 simp only [Tryz.f177,go_sem,e1,Int.toNat_natCast]
 repeat' (first
  | ((first | refine pK (c1) ?_ | refine pK (c2) ?_ | refine pK (c3) ?_); simp only [go_sem,e1,e2,e3,e4,e5,g0,Int.toNat_natCast])
  | ((first | refine cS ?_ ?_ | refine gS ?_ ?_) <;> (intro hc; simp only [go_sem,hc,e1,e2,e3,e4,e5,g0,Int.toNat_natCast])))
 rfl
theorem p_Equal (f : Fld) (hf : okFld f) (n : Nat) (hn : n < 2 ^ fW f) : PCall Tryz.prog 176 [.agg f.c,.int .i64 n] (.agg (patN f n (fW f)).c):=by
 have h:=hf
 unfold okFld at h
 have hw : f.width = (fW f : Int):=by unfold fW; omega
 have c1:=p_Prefix f hf n (fW f) hn (Nat.le_refl _)
 refine pC h176_k rfl ?_
 simp only [Tryz.f176,go_sem,hw]
 repeat' (first
  | (refine pK (c1) ?_; simp only [go_sem,hw])
  | ((first | refine cS ?_ ?_ | refine gS ?_ ?_) <;> (intro hc; simp only [go_sem,hc,hw])))
theorem p_Mod (f : Fld) (hf : okFld f) (n : Nat) (hn : n < 2 ^ fW f) : PCall Tryz.prog 181 [.agg f.c,.int .i64 n] (.agg (patN f n (fW f)).c):=by
 have c1:=p_Equal f hf n hn
 refine pC h181_k rfl ?_
 simp only [Tryz.f181,go_sem]
 repeat' (first
  | (refine pK (c1) ?_; simp only [go_sem])
  | ((first | refine cS ?_ ?_ | refine gS ?_ ?_) <;> (intro hc; simp only [go_sem,hc])))
theorem Pat.mask_at (p : Pat) {k : Nat} (hk : k < 10) : p.c[k]? = some (.int .i64 (wordAt p.mask k)):=by
 match k,hk with
 | 0,_ | 1,_ | 2,_ | 3,_ | 4,_ | 5,_ | 6,_ | 7,_ | 8,_ | 9,_ => rfl
theorem Pat.bits_at (p : Pat) {k : Nat} (hk : k < 10) : p.c[10 + k]? = some (.int .i64 (wordAt p.bits k)):=by
 match k,hk with
 | 0,_ | 1,_ | 2,_ | 3,_ | 4,_ | 5,_ | 6,_ | 7,_ | 8,_ | 9,_ => rfl
theorem p_Match (p : Pat) (hm : rightH p.mask = true) (hb : rightH p.bits = true) (h : Head) (hr : rightH h = true) : PCall Tryz.prog 175 [.agg p.c,.agg h.c] (.bool (matchB p h)):=by
 refine pC h175_k rfl ?_
 simp only [Tryz.f175,go_sem]
 refine awp_all (List.range 10) (fun r => r.all fun i => (((wordAt p.bits i).toNat ^^^ (wordAt h i).toNat) &&& (wordAt p.mask i).toNat) == 0) (fun k => [(2,.ptr 0 0),(3,.ptr 1 0),(6,.int .i64 k)]) (by decide) rfl ?_ ?_
 ·intro k y ys hd hx hF h0 h1 hw
  have hk : k < 10:=by
   have:=(List.getElem?_eq_some_iff.1 hx).1
   simpa using this
  have hy : y = k:=by
   have:=hx
   rw [List.getElem?_range hk] at this
   exact (Option.some.inj this).symm
  subst hy
  have i0 : (0 : Int) <= (y : Int):=by omega
  have i1 : (y : Int) < ((10 : Nat) : Int):=by omega
  have a1:=Pat.mask_at p hk
  have a2:=Pat.bits_at p hk
  have a3:=Head.c_at h hk
  have w1:=rightH_word hm y
  have w2:=rightH_word hb y
  have w3:=rightH_word hr y
  obtain ⟨A,hA⟩ : ∃ W : Nat,wordAt p.mask y = (W : Int):=⟨(wordAt p.mask y).toNat,by omega⟩
  obtain ⟨B,hB⟩ : ∃ W : Nat,wordAt p.bits y = (W : Int):=⟨(wordAt p.bits y).toNat,by omega⟩
  obtain ⟨C,hC⟩ : ∃ W : Nat,wordAt h y = (W : Int):=⟨(wordAt h y).toNat,by omega⟩
  rw [hA] at a1 w1
  rw [hB] at a2 w2
  rw [hC] at a3 w3
  have hx1 : B ^^^ C < 2 ^ 16:=Nat.xor_lt_two_pow (by omega) (by omega)
  have e1 : xorI (B : Int) (C : Int) = ((B ^^^ C : Nat) : Int):=xorI_nat (by omega) (by omega)
  have e2 : andI ((B ^^^ C : Nat) : Int) (A : Int) = (((B ^^^ C) &&& A : Nat) : Int):=andI_nat (by omega) (by omega)
  have i2 : (y : Int) < 10:=by omega
  have eq : ((((wordAt p.bits y).toNat ^^^ (wordAt h y).toNat) &&& (wordAt p.mask y).toNat) == 0) = !(((((B ^^^ C) &&& A : Nat) : Int)) != 0):=by
   rw [hA,hB,hC,Int.toNat_natCast,Int.toNat_natCast,Int.toNat_natCast]
   generalize (B ^^^ C) &&& A = z
   cases z <;> rfl
  rw [List.all_cons,eq] at hF
  simp only [go_sem,h0,h1,i0,i1,i2,decide_true,Int.toNat_natCast,a1,a2,a3,e1,e2]
  repeat' (first
   | ((first | refine cS ?_ ?_ | refine gS ?_ ?_) <;> (intro hc; simp only [go_sem,hc,h0,h1,hw,i0,i1,i2,decide_true,Int.toNat_natCast,a1,a2,a3,e1,e2])))
  ·rw [hc] at hF
   exact congrArg AV.bool (hF.trans rfl).symm
  ·rw [List.all_cons,eq,hc]; rfl
 ·intro hF hlt
  have g : decide (((10 : Nat) : Int) < 10) = false:=by decide
  simp only [go_sem,List.length_range,g]
  exact congrArg AV.bool (hF.trans rfl).symm
def applyTo (p : Pat) (h : Head) (n : Nat) : Head :=
 let w:=fun k => if k < n then applyW p h k else wordAt h k
 ⟨w 0,w 1,w 2,w 3,w 4,w 5,w 6,w 7,w 8,w 9⟩
theorem applyTo_10 (p : Pat) (h : Head) : applyTo p h 10 = applyH p h:=rfl
theorem applyTo_s (p : Pat) (h : Head) {k : Nat} (hk : k < 10) : setW (applyTo p h k) k (applyW p h k) = applyTo p h (k + 1):=by
 match k,hk with
 | 0,_ | 1,_ | 2,_ | 3,_ | 4,_ | 5,_ | 6,_ | 7,_ | 8,_ | 9,_ => rfl
theorem applyTo_w (p : Pat) (h : Head) {k : Nat} (hk : k < 10) : wordAt (applyTo p h k) k = wordAt h k:=by
 match k,hk with
 | 0,_ | 1,_ | 2,_ | 3,_ | 4,_ | 5,_ | 6,_ | 7,_ | 8,_ | 9,_ => rfl
theorem p_Apply (p : Pat) (hm : rightH p.mask = true) (hb : rightH p.bits = true) (h : Head) (hr : rightH h = true) : PCall Tryz.prog 180 [.agg p.c,.agg h.c] (.agg (applyH p h).c):=by
 refine pC h180_k rfl ?_
 simp only [Tryz.f180,go_sem]
 refine awp_for 10 (fun k => [(2,.ptr 0 0),(3,.ptr 1 0),(4,.ptr 2 0),(6,.int .i64 k)]) (fun k => [some p.c,some (applyTo p h k).c,some Head.z.c]) rfl rfl ?_
 intro y hy
 by_cases hk : y < 10
 ·have i0 : (0 : Int) <= (y : Int):=by omega
  have i1 : (y : Int) < ((10 : Nat) : Int):=by omega
  have i2 : (y : Int) < 10:=by omega
  have a1:=Pat.mask_at p hk
  have a2:=Pat.bits_at p hk
  have a3:=Head.c_at (applyTo p h y) hk
  rw [applyTo_w p h hk] at a3
  have hw:=w64s (k:=y) (by omega)
  have w1:=rightH_word hm y
  have w2:=rightH_word hb y
  have w3:=rightH_word hr y
  have st:=Head.c_set (applyTo p h y) hk (applyW p h y)
  rw [applyTo_s p h hk] at st
  have hap : applyW p h y = ((((wordAt h y).toNat ^^^ ((wordAt h y).toNat &&& (wordAt p.mask y).toNat)) ||| (wordAt p.bits y).toNat : Nat) : Int):=rfl
  obtain ⟨A,hA⟩ : ∃ W : Nat,wordAt p.mask y = (W : Int):=⟨(wordAt p.mask y).toNat,by omega⟩
  obtain ⟨B,hB⟩ : ∃ W : Nat,wordAt p.bits y = (W : Int):=⟨(wordAt p.bits y).toNat,by omega⟩
  obtain ⟨C,hC⟩ : ∃ W : Nat,wordAt h y = (W : Int):=⟨(wordAt h y).toNat,by omega⟩
  rw [hA,hB,hC,Int.toNat_natCast,Int.toNat_natCast,Int.toNat_natCast] at hap
  rw [hA] at a1 w1
  rw [hB] at a2 w2
  rw [hC] at a3 w3
  have hl:=bits_low (W:=C) (M:=A) (by omega) (by omega)
  have e1 : clrI (C : Int) (A : Int) = ((C ^^^ (C &&& A) : Nat) : Int):=clrI_nat (by omega) (by omega)
  have e2 : orI ((C ^^^ (C &&& A) : Nat) : Int) (B : Int) = applyW p h y:=by rw [hap]; exact orI_nat (by omega) (by omega)
  have hk9 : y <= 9:=by omega
  simp only [go_sem,i0,i1,i2,decide_true,Int.toNat_natCast,a1,a2,a3,e1,e2,st,hw,hk9]
  exact hk
 ·have : y = 10:=by omega
  subst this
  have g : decide (((10 : Nat) : Int) < 10) = false:=by decide
  simp only [go_sem,g,applyTo_10]
end Go.AI
namespace Go.AI
open Go.Proofs
set_option maxRecDepth 50000
theorem cmpI_range (a b : Head) : ∀ k,k <= 10 -> cmpI (a.l.drop k) (b.l.drop k) = if k < 10 then (if wordAt a k < wordAt b k then -1 else if wordAt b k < wordAt a k then 1 else cmpI (a.l.drop (k + 1)) (b.l.drop (k + 1))) else 0:=by
 intro k hk
 match k,hk with
 | 0,_ | 1,_ | 2,_ | 3,_ | 4,_ | 5,_ | 6,_ | 7,_ | 8,_ | 9,_ => rfl
 | 10,_ => rfl
end Go.AI
namespace Go.AI
def fnth (fs : List (Head -> Bool)) (k : Nat) (h : Head) : Bool:=((fs[k]?).map fun f => f h).getD false
def onth (fs : List (Head -> Option (List Head))) (k : Nat) (h : Head) : Option (List Head):=((fs[k]?).map fun f => f h).getD none
def stepP (l : List Fld) (t k : Int) (f : ByteArray) (n m : Int) (fs : List (Head -> Bool)) (h : Head) : Bool :=
 if k = 1 then true else if k = 2 then false else if k = 9 then decide (n <= t) && decide (t < m)
 else if k = 6 then !fnth fs 0 h else if k = 7 then fnth fs 0 h && fnth fs 1 h else if k = 8 then fnth fs 0 h || fnth fs 1 h
 else if k = 3 then decide ((getN (findF l f).1 h : Int) = n)
 else if k = 4 then decide (getN (findF l f).1 h / 2 ^ (fW (findF l f).1 - m.toNat) = n.toNat / 2 ^ (fW (findF l f).1 - m.toNat))
 else decide (n <= getN (findF l f).1 h) && decide ((getN (findF l f).1 h : Int) <= m)
mutual
def hP (l : List Fld) (t : Int) : Pred -> Head -> Bool
 | ⟨k,f,n,m,xs⟩ => stepP l t k f n m (hPs l t xs)
def hPs (l : List Fld) (t : Int) : List Pred -> List (Head -> Bool)
 | [] => []
 | x :: r => hP l t x :: hPs l t r
end
theorem hP_eq (l : List Fld) (t : Int) (x : Pred) : hP l t x = stepP l t x.kind x.field x.n x.m (hPs l t x.args):=by cases x; rw [hP]
theorem hPs_eq (l : List Fld) (t : Int) : ∀ r : List Pred,hPs l t r = r.map (hP l t)
 | [] => by rw [hPs]; rfl
 | x :: r => by rw [hPs,hPs_eq l t r]; rfl
theorem hPs_at (l : List Fld) (t : Int) {r : List Pred} {k : Nat} {x : Pred} (hx : r[k]? = some x) (h : Head) : fnth (hPs l t r) k h = hP l t x h:=by
 rw [hPs_eq,fnth,List.getElem?_map,hx]; rfl
def bndO (r : List Head) : Option (List Head):=if 256 < r.length then none else some r
def stepO (l : List Fld) (t k : Int) (p : Pred) (f : ByteArray) (n : Int) (fs : List (Head -> Option (List Head))) (h : Head) : Option (List Head) :=
 if k = 1 then some (if hP l t p h then [h] else [])
 else if k = 2 then some [setN (findF l f).1 h n.toNat]
 else if k = 3 then match onth fs 0 h,onth fs 1 h with
  | some a,some b => bndO (mergeH a b)
  | _,_ => none
 else if k = 4 then match onth fs 0 h with
  | some a => imgGo (onth fs 1) [] a
  | none => none
 else cloGo (onth fs 0) 300 [h] [h]
mutual
def vO (l : List Fld) (t : Int) : Policy -> Head -> Option (List Head)
 | ⟨k,p,f,n,xs⟩ => stepO l t k p f n (vOs l t xs)
def vOs (l : List Fld) (t : Int) : List Policy -> List (Head -> Option (List Head))
 | [] => []
 | x :: r => vO l t x :: vOs l t r
end
theorem vO_eq (l : List Fld) (t : Int) (x : Policy) : vO l t x = stepO l t x.kind x.pred x.field x.n (vOs l t x.args):=by cases x; rw [vO]
theorem vOs_eq (l : List Fld) (t : Int) : ∀ r : List Policy,vOs l t r = r.map (vO l t)
 | [] => by rw [vOs]; rfl
 | x :: r => by rw [vOs,vOs_eq l t r]; rfl
theorem vOs_at (l : List Fld) (t : Int) {r : List Policy} {k : Nat} {x : Policy} (hx : r[k]? = some x) : onth (vOs l t r) k = vO l t x:=by
 funext h
 rw [vOs_eq,onth,List.getElem?_map,hx]; rfl
def goodS (r : List Head) : Prop:=srtH r /\ r.length <= 256 /\ ∀ z ∈ r,rightH z = true
theorem goodS_nil : goodS []:=⟨srtH_nil,by decide,by simp⟩
theorem goodS_one {h : Head} (hr : rightH h = true) : goodS [h]:=⟨srtH_one h,by simp,by simpa using hr⟩
theorem goodS_merge {a b : List Head} (ha : goodS a) (hb : ∀ z ∈ b,rightH z = true) (hl : ¬ 256 < (mergeH a b).length) : goodS (mergeH a b):=by
 refine ⟨srt_mergeH b ha.1,by omega,fun z hz => ?_⟩
 rcases (mem_mergeH z b a).1 hz with h | h
 ·exact ha.2.2 z h
 ·exact hb z h
theorem goodS_img {f : Head -> Option (List Head)} (hf : ∀ h r,rightH h = true -> f h = some r -> goodS r) : ∀ (xs o r : List Head),goodS o -> (∀ z ∈ xs,rightH z = true) -> imgGo f o xs = some r -> goodS r
 | [],o,r,ho,_,e => by
  rw [imgGo] at e
  cases e; exact ho
 | x :: xs,o,r,ho,hx,e => by
  rw [imgGo] at e
  cases hfx : f x with
  | none => rw [hfx] at e; cases e
  | some a =>
   rw [hfx] at e
   dsimp only at e
   have ga:=hf x a (hx x (by simp)) hfx
   by_cases hl : 256 < (mergeH o a).length
   ·rw [if_pos hl] at e; cases e
   ·rw [if_neg hl] at e
    exact goodS_img hf xs _ r (goodS_merge ho ga.2.2 hl) (fun z hz => hx z (by simp [hz])) e
theorem newH_mem {o n : List Head} {z : Head} : z ∈ newH o n ↔ z ∈ n /\ z ∉ o:=by
 unfold newH
 rw [List.mem_filter]
 constructor
 ·rintro ⟨h1,h2⟩
  refine ⟨h1,fun hc => ?_⟩
  have : (o.any fun y => decide (y = z)) = true:=List.any_eq_true.2 ⟨z,hc,by simp⟩
  rw [this] at h2; cases h2
 ·rintro ⟨h1,h2⟩
  refine ⟨h1, ?_⟩
  have : (o.any fun y => decide (y = z)) = false:=by
   rw [List.any_eq_false]
   intro y hy
   simp
   intro e; subst e; exact h2 hy
  rw [this]; rfl
theorem goodS_clo {f : Head -> Option (List Head)} (hf : ∀ h r,rightH h = true -> f h = some r -> goodS r) : ∀ (k : Nat) (o n r : List Head),goodS o -> (∀ z ∈ n,rightH z = true) -> cloGo f k o n = some r -> goodS r
 | 0,o,n,r,_,_,e => by rw [cloGo] at e; cases e
 | k + 1,o,n,r,ho,hn,e => by
  rw [cloGo] at e
  by_cases h0 : n = []
  ·rw [if_pos h0] at e; cases e; exact ho
  ·rw [if_neg h0] at e
   cases hi : imgGo f [] n with
   | none => rw [hi] at e; cases e
   | some m =>
    rw [hi] at e
    dsimp only at e
    have gm:=goodS_img hf n [] m goodS_nil hn hi
    have gn : ∀ z ∈ newH o m,rightH z = true:=fun z hz => gm.2.2 z (newH_mem.1 hz).1
    by_cases hl : 256 < (mergeH o (newH o m)).length
    ·rw [if_pos hl] at e; cases e
    ·rw [if_neg hl] at e
     exact goodS_clo hf k _ _ r (goodS_merge ho gn hl) gn e
theorem putH_new (h : Head) : ∀ {l : List Head},h ∉ l -> (putH h l).length = l.length + 1
 | [],_ => rfl
 | x :: r,hn => by
  rw [putH]
  have h1 : ¬ x = h:=fun e => hn (by simp [e])
  have h2 : h ∉ r:=fun e => hn (by simp [e])
  split
  ·rw [List.length_cons,putH_new h h2]; rfl
  ·rfl
theorem merge_new {o n : List Head} (h : newH o n ≠ []) : o.length < (mergeH o (newH o n)).length:=by
 cases hc : newH o n with
 | nil => exact absurd hc h
 | cons x r =>
  have hx : x ∉ o:=(newH_mem.1 (by rw [hc]; simp : x ∈ newH o n)).2
  have e : mergeH o (x :: r) = mergeH (putH x o) r:=rfl
  have:=(mergeH_len r (putH x o)).1
  rw [putH_new x hx] at this
  rw [e]; omega
def okFs (l : List Fld) : Prop:=∀ f ∈ l,okFld f
theorem okFld_port : okFld fldPort:=by unfold okFld fldPort; decide
theorem okFld_find {l : List Fld} (hl : okFs l) {s : ByteArray} (h : (findF l s).2 = true) : okFld (findF l s).1:=by
 unfold findF at h ⊢
 split
 ·exact okFld_port
 ·rename_i hs
  rw [if_neg hs] at h
  cases hf : l.find? (fun f => decide (f.name = s)) with
  | none => rw [hf] at h; cases h
  | some f => exact hl f (List.mem_of_find?_eq_some hf)
end Go.AI
namespace Go.AI
open Go.Proofs
set_option maxRecDepth 50000
end Go.AI
namespace Go.AI
theorem goodP_arg {l : List Fld} {x y : Pred} (hx : goodP l x) (hy : y ∈ x.args) : goodP l y:=by
 obtain ⟨h1,h2⟩:=hx
 rw [fmP_eq,Bool.and_eq_true] at h1
 have hf : ∀ r : List Pred,fmPs r = true -> ∀ z ∈ r,fmP z = true:=by
  intro r
  induction r with
  | nil => intro _ z hz; cases hz
  | cons a r ih =>
   intro h z hz
   rw [fmPs_cons,Bool.and_eq_true] at h
   rcases List.mem_cons.1 hz with rfl | hz
   ·exact h.1
   ·exact ih h.2 z hz
 refine ⟨hf _ h1.2 y hy,fun z hz => h2 z ?_⟩
 have hs : ∀ r : List Pred,y ∈ r -> z ∈ ptsPs r:=by
  intro r
  induction r with
  | nil => intro h; cases h
  | cons a r ih =>
   intro h
   rw [ptsPs_cons]
   rcases List.mem_cons.1 h with rfl | h
   ·exact List.mem_append_left _ hz
   ·exact List.mem_append_right _ (ih h)
 rw [ptsP_eq]
 exact List.mem_cons_of_mem _ (hs _ hy)
def fldP (l : List Fld) (x : Pred) : Prop:=(findF l x.field).2 = true /\ okFld (findF l x.field).1 /\ 0 <= x.n /\ x.n.toNat < 2 ^ fW (findF l x.field).1
theorem maxF_val {f : Fld} (hf : okFld f) : maxF f = ((2 ^ fW f - 1 : Nat) : Int):=by
 have h:=hf
 unfold okFld at h
 have : ∀ k : Nat,k < 17 -> i64 (powW k - 1) = ((2 ^ k - 1 : Nat) : Int):=by decide
 exact this _ (by omega)
theorem goodP_kind {l : List Fld} (hl : okFs l) {x : Pred} (hx : goodP l x) :
  (x.kind = 1) \/ (x.kind = 2) \/ (x.kind = 9) \/ (x.kind = 6 /\ ∃ a,x.args = [a] /\ goodP l a) \/ ((x.kind = 7 \/ x.kind = 8) /\ ∃ a b,x.args = [a,b] /\ goodP l a /\ goodP l b) \/
  (x.kind = 3 /\ fldP l x) \/ (x.kind = 4 /\ fldP l x /\ 0 <= x.m /\ x.m.toNat <= fW (findF l x.field).1) \/ (x.kind = 5 /\ (findF l x.field).2 = true /\ okFld (findF l x.field).1 /\ 0 <= x.n /\ x.n <= x.m /\ x.m.toNat < 2 ^ fW (findF l x.field).1):=by
 have hfit:=hx.2 x (by rw [ptsP_eq]; simp)
 have harg:=fun y hy => goodP_arg (y:=y) hx hy
 have hfm:=hx.1
 rw [fmP_eq,Bool.and_eq_true,Bool.and_eq_true,beq_iff_eq] at hfm
 obtain ⟨⟨hok,hlen⟩,_⟩:=hfm
 unfold okP at hok hlen
 unfold fitP at hfit
 by_cases k1 : x.kind = 1
 ·exact .inl k1
 by_cases k2 : x.kind = 2
 ·exact .inr (.inl k2)
 rw [if_neg (by simp [k1,k2])] at hok hlen
 by_cases k3 : x.kind = 3
 ·rw [if_pos k3] at hok
  rw [if_neg (by simp [k3])] at hfit
  by_cases hf : (findF l x.field).2 = false
  ·rw [if_pos hf] at hfit; cases hfit
  ·rw [if_neg hf,if_neg (by omega : ¬ x.kind = 5)] at hfit
   have hft : (findF l x.field).2 = true:=by simpa using hf
   have hfo:=okFld_find hl hft
   rw [maxF_val hfo] at hfit
   have hp:=Nat.two_pow_pos (fW (findF l x.field).1)
   simp [w16] at hok
   refine .inr (.inr (.inr (.inr (.inr (.inl ⟨k3,hft,hfo,hok.2.1.1, ?_⟩)))))
   split at hfit
   ·cases hfit
   ·omega
 rw [if_neg k3] at hok hlen
 by_cases k4 : x.kind = 4
 ·rw [if_pos k4] at hok
  rw [if_neg (by simp [k4])] at hfit
  by_cases hf : (findF l x.field).2 = false
  ·rw [if_pos hf] at hfit; cases hfit
  ·rw [if_neg hf,if_neg (by omega : ¬ x.kind = 5)] at hfit
   have hft : (findF l x.field).2 = true:=by simpa using hf
   have hfo:=okFld_find hl hft
   have hfo':=hfo
   unfold okFld at hfo'
   rw [maxF_val hfo] at hfit
   have hp:=Nat.two_pow_pos (fW (findF l x.field).1)
   have hW : fW (findF l x.field).1 = (findF l x.field).1.width.toNat:=rfl
   simp [w16] at hok
   refine .inr (.inr (.inr (.inr (.inr (.inr (.inl ⟨k4,⟨hft,hfo,hok.2.1.1, ?_⟩,hok.2.2.1, ?_⟩))))))
   ·split at hfit
    ·cases hfit
    ·omega
   ·split at hfit
    ·cases hfit
    ·omega
 rw [if_neg k4] at hok hlen
 by_cases k5 : x.kind = 5
 ·rw [if_pos k5] at hok
  rw [if_neg (by simp [k5])] at hfit
  by_cases hf : (findF l x.field).2 = false
  ·rw [if_pos hf] at hfit; cases hfit
  ·rw [if_neg hf,if_pos k5] at hfit
   have hft : (findF l x.field).2 = true:=by simpa using hf
   have hfo:=okFld_find hl hft
   rw [maxF_val hfo] at hfit
   have hp:=Nat.two_pow_pos (fW (findF l x.field).1)
   simp at hok
   refine .inr (.inr (.inr (.inr (.inr (.inr (.inr ⟨k5,hft,hfo,hok.2.1,hok.2.2.1, ?_⟩))))))
   split at hfit
   ·cases hfit
   ·omega
 rw [if_neg k5] at hok hlen
 by_cases k6 : x.kind = 6
 ·rw [if_pos k6] at hlen
  refine .inr (.inr (.inr (.inl ⟨k6, ?_⟩)))
  match hxa : x.args,hlen with
  | [a],_ => exact ⟨a,rfl,harg a (by rw [hxa]; simp)⟩
 rw [if_neg k6] at hok hlen
 by_cases k7 : x.kind = 7 \/ x.kind = 8
 ·rw [if_pos k7] at hlen
  refine .inr (.inr (.inr (.inr (.inl ⟨k7, ?_⟩))))
  match hxa : x.args,hlen with
  | [a,b],_ => exact ⟨a,b,rfl,harg a (by rw [hxa]; simp),harg b (by rw [hxa]; simp)⟩
 rw [if_neg k7] at hok hlen
 by_cases k9 : x.kind = 9
 ·exact .inr (.inr (.inl k9))
 rw [if_neg k9] at hok
 cases hok
end Go.AI
namespace Go.AI
open Go.Proofs
set_option maxRecDepth 50000
end Go.AI
namespace Go.AI
open Go.Proofs
set_option maxRecDepth 50000
def resO : Option (List Head) -> AV
 | some r => .tup [.sl none (lHead r),.int .i64 0]
 | none => .tup [.sl none [],.int .i64 2]
@[go_sem] theorem resO_pure (o : Option (List Head)) : (resO o).pure = true:=by
 cases o <;> simp [resO,AV.pure,pureL,go_sem]
@[go_sem] theorem resO_some (r : List Head) : resO (some r) = .tup [.sl none (lHead r),.int .i64 0]:=rfl
@[go_sem] theorem resO_none : resO none = .tup [.sl none [],.int .i64 2]:=rfl
end Go.AI
namespace Go.AI
open Go.Proofs
set_option maxRecDepth 50000
theorem newH_len (o n : List Head) : (newH o n).length <= n.length:=List.length_filter_le _ _
end Go.AI
namespace Go.AI
theorem goodO_arg {l : List Fld} {x y : Policy} (hx : goodO l x) (hy : y ∈ x.args) : goodO l y:=by
 obtain ⟨h1,h2⟩:=hx
 rw [fmO_eq,Bool.and_eq_true] at h1
 have hf : ∀ r : List Policy,fmOs r = true -> ∀ z ∈ r,fmO z = true:=by
  intro r
  induction r with
  | nil => intro _ z hz; cases hz
  | cons a r ih =>
   intro h z hz
   rw [fmOs_cons,Bool.and_eq_true] at h
   rcases List.mem_cons.1 hz with rfl | hz
   ·exact h.1
   ·exact ih h.2 z hz
 refine ⟨hf _ h1.2 y hy,fun z hz => h2 z ?_⟩
 have hs : ∀ r : List Policy,y ∈ r -> z ∈ ptsOs r:=by
  intro r
  induction r with
  | nil => intro h; cases h
  | cons a r ih =>
   intro h
   rw [ptsOs_cons]
   rcases List.mem_cons.1 h with rfl | h
   ·exact List.mem_append_left _ hz
   ·exact List.mem_append_right _ (ih h)
 rw [ptsO_eq]
 exact List.mem_cons_of_mem _ (hs _ hy)
theorem goodO_kind {l : List Fld} (hl : okFs l) {x : Policy} (hx : goodO l x) :
  (x.kind = 1 /\ goodP l x.pred) \/ (x.kind = 2 /\ okFld (findF l x.field).1 /\ (findF l x.field).2 = true /\ 0 <= x.n /\ x.n.toNat < 2 ^ fW (findF l x.field).1) \/
  ((x.kind = 3 \/ x.kind = 4) /\ ∃ a b,x.args = [a,b] /\ goodO l a /\ goodO l b) \/ (x.kind = 5 /\ ∃ a,x.args = [a] /\ goodO l a):=by
 have hfit:=hx.2 x (by rw [ptsO_eq]; simp)
 have harg:=fun y hy => goodO_arg (y:=y) hx hy
 have hfm:=hx.1
 rw [fmO_eq,Bool.and_eq_true,Bool.and_eq_true,beq_iff_eq] at hfm
 obtain ⟨⟨hok,hlen⟩,_⟩:=hfm
 unfold okO at hok hlen
 unfold polE at hfit
 by_cases k1 : x.kind = 1
 ·rw [if_pos k1] at hok hfit
  rw [Bool.and_eq_true] at hok
  exact .inl ⟨k1,hok.1,(fitGo_all l _).1 hfit⟩
 rw [if_neg k1] at hok hlen hfit
 by_cases k2 : x.kind = 2
 ·rw [if_pos k2] at hok hfit
  by_cases hf : (findF l x.field).2 = false
  ·rw [if_pos hf] at hfit; cases hfit
  ·rw [if_neg hf] at hfit
   have hft : (findF l x.field).2 = true:=by simpa using hf
   have hfo:=okFld_find hl hft
   rw [maxF_val hfo] at hfit
   have hp:=Nat.two_pow_pos (fW (findF l x.field).1)
   simp [w16] at hok
   refine .inr (.inl ⟨k2,hfo,hft,hok.2.2.1, ?_⟩)
   split at hfit
   ·cases hfit
   ·omega
 rw [if_neg k2] at hok hlen
 by_cases k3 : x.kind = 3 \/ x.kind = 4
 ·rw [if_pos k3] at hlen
  refine .inr (.inr (.inl ⟨k3, ?_⟩))
  match hxa : x.args,hlen with
  | [a,b],_ => exact ⟨a,b,rfl,harg a (by rw [hxa]; simp),harg b (by rw [hxa]; simp)⟩
 rw [if_neg k3] at hok hlen
 by_cases k5 : x.kind = 5
 ·rw [if_pos k5] at hlen
  refine .inr (.inr (.inr ⟨k5, ?_⟩))
  match hxa : x.args,hlen with
  | [a],_ => exact ⟨a,rfl,harg a (by rw [hxa]; simp)⟩
 rw [if_neg k5] at hok
 cases hok
theorem vO_good (l : List Fld) (hl : okFs l) (t : Int) : ∀ x : Policy,goodO l x -> ∀ h r,rightH h = true -> vO l t x h = some r -> goodS r:=by
 refine Policy.ind _ fun x ih => fun hx h r hr e => ?_
 rw [vO_eq] at e
 unfold stepO at e
 rcases goodO_kind hl hx with ⟨k,gp⟩ | ⟨k,hfo,hft,hn,hn2⟩ | ⟨k,a,b,ha,ga,gb⟩ | ⟨k,a,ha,ga⟩
 ·rw [if_pos k] at e
  have e2:=Option.some.inj e
  by_cases hb : hP l t x.pred h = true
  ·rw [if_pos hb] at e2; rw [<- e2]; exact goodS_one hr
  ·rw [if_neg hb] at e2; rw [<- e2]; exact goodS_nil
 ·rw [if_neg (by omega),if_pos k] at e
  cases e
  exact goodS_one (right_setN hfo hn2 hr)
 ·have e0 : onth (vOs l t x.args) 0 = vO l t a:=vOs_at l t (by rw [ha]; rfl)
  have e1 : onth (vOs l t x.args) 1 = vO l t b:=vOs_at l t (by rw [ha]; rfl)
  rw [e0,e1] at e
  have ih0:=ih a (by rw [ha]; simp) ga
  have ih1:=ih b (by rw [ha]; simp) gb
  rcases k with k | k
  ·rw [if_neg (by omega),if_neg (by omega),if_pos k] at e
   cases hva : vO l t a h with
   | none => rw [hva] at e; cases e
   | some u =>
    cases hvb : vO l t b h with
    | none => rw [hva,hvb] at e; cases e
    | some v =>
     rw [hva,hvb] at e
     dsimp only [bndO] at e
     by_cases hc : 256 < (mergeH u v).length
     ·rw [if_pos hc] at e; cases e
     ·rw [if_neg hc] at e; cases e
      exact goodS_merge (ih0 h u hr hva) (ih1 h v hr hvb).2.2 hc
  ·rw [if_neg (by omega),if_neg (by omega),if_neg (by omega),if_pos k] at e
   cases hva : vO l t a h with
   | none => rw [hva] at e; cases e
   | some u =>
    rw [hva] at e
    exact goodS_img ih1 u [] r goodS_nil (ih0 h u hr hva).2.2 e
 ·have e0 : onth (vOs l t x.args) 0 = vO l t a:=vOs_at l t (by rw [ha]; rfl)
  rw [if_neg (by omega),if_neg (by omega),if_neg (by omega),if_neg (by omega),e0] at e
  exact goodS_clo (ih a (by rw [ha]; simp) ga) 300 [h] [h] r (goodS_one hr) (by simpa using hr) e
end Go.AI
namespace Go.AI
open Go.Proofs
set_option maxRecDepth 50000
end Go.AI
namespace Go.AI
open Go.Proofs
set_option maxRecDepth 50000
end Go.AI
namespace Go.AI
end Go.AI
namespace Go.AI
inductive RchH (f : Head -> Option (List Head)) (x : Head) : Head -> Prop
 | refl : RchH f x x
 | step {y z : Head} {b : List Head} : RchH f x y -> f y = some b -> z ∈ b -> RchH f x z
theorem RchH.trans {f : Head -> Option (List Head)} {x y z : Head} (h1 : RchH f x y) (h2 : RchH f y z) : RchH f x z:=by
 induction h2 with
 | refl => exact h1
 | step _ h3 h4 ih => exact ih.step h3 h4
theorem RchH.closed {f : Head -> Option (List Head)} {S : Head -> Prop} (hS : ∀ x,S x -> ∀ b,f x = some b -> ∀ z ∈ b,S z) {x z : Head} (hx : S x) (h : RchH f x z) : S z:=by
 induction h with
 | refl => exact hx
 | step _ h3 h4 ih => exact hS _ ih _ h3 _ h4
theorem right_h0 {h : Head} (hr : rightH h = true) {n : Int} (h0 : 0 <= n) (h1 : n <= 65535) : rightH { h with h0:=n } = true :=
 rightH_setW hr 0 h0 h1
end Go.AI
