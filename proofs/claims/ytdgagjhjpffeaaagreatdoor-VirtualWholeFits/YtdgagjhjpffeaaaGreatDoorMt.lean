/- Contract: checkPorts of the program. -/
import Derived.Test.YtdgagjhjpffeaaaGreatDoorMp
import Derived.Test.YtdgagjhjpffeaaaGreatDoorMe
import Derived.Test.YtdgagjhjpffeaaaGreatDoorMg
import Derived.DeepKeys5
import Derived.Test.YtdgagjhjpffeaaaGreatDoorMf
set_option linter.unusedSimpArgs false
set_option linter.unusedVariables false
namespace Go.AI
open Go.Proofs
set_option maxRecDepth 50000
@[go_sem] theorem zmapIB : zeroAV Tryz.prog 186 = some .nilm := by kernel_rfl
@[go_sem] theorem und_mapIB : Tryz.prog.underlying 186 = some (.map 3 4) := by kernel_rfl
end Go.AI
namespace Go.AI
open Go.Proofs
set_option maxRecDepth 50000
end Go.AI
namespace Go.AI
open Go.Proofs
set_option maxRecDepth 50000
theorem afind_get {k : AV} : ∀ {es : List (AV × AV)} {i j : Nat} {v : AV}, afind k es i = some (j, v) -> i <= j /\ ∃ p, es[j - i]? = some p /\ keyEq p.1 k = true /\ p.2 = v
 | [], _, _, _, h => by cases h
 | p :: es, i, j, v, h => by
  rw [afind] at h
  by_cases hk : keyEq p.1 k = true
  ·rw [if_pos hk] at h
   cases h
   exact ⟨Nat.le_refl _, p, by simp, hk, rfl⟩
  ·rw [if_neg hk] at h
   obtain ⟨h1, q, h2, h3, h4⟩ := afind_get h
   refine ⟨by omega, q, ?_, h3, h4⟩
   have : j - i = (j - (i + 1)) + 1 := by omega
   rw [this]; simpa using h2
end Go.AI
namespace Go.AI
open Go.Proofs
set_option maxRecDepth 50000
end Go.AI
namespace Go.AI
open Go.Proofs
set_option maxRecDepth 50000
theorem p_EqualI (a b : List Int) (ha : a.length <= 9223372036854775807) : PCall Tryz.prog 165 [.sl none (lI64 a), .sl none (lI64 b)] (.bool (eqI a b)) := by
 refine pC h165_k rfl ?_
 simp only [Tryz.f165, go_sem]
 repeat' (first
  | ((first | refine cS ?_ ?_ | refine gS ?_ ?_) <;> (intro hc; simp only [go_sem, hc])))
 ·have hne : a ≠ b := by rintro rfl; simp at hc
  simp [eqI, hne]
 ·have hlen : a.length = b.length := by simp at hc; omega
  refine awp_lst a (fun (_ : Unit) r => decide (r = b.drop (a.length - r.length))) (fun k _ => a.take k = b.take k) (fun k _ => [(0, .sl none (lI64 a)), (1, .sl none (lI64 b)), (12, .int .i64 a.length), (13, .int .i64 k)]) (fun k _ => []) () ha rfl rfl rfl ?_ ?_
  ·intro k _ x xs hd hx hI hF h0 h1 hw
   have hk2 := drop_len hd
   obtain ⟨y, hy⟩ : ∃ y, b[k]? = some y := ⟨_, List.getElem?_eq_getElem (by omega)⟩
   have e1 : a.length - (xs.length + 1) = k := by omega
   have e2 : a.length - xs.length = k + 1 := by omega
   have hbd : b.drop k = y :: b.drop (k + 1) := by
    obtain ⟨hlt, rfl⟩ := List.getElem?_eq_some_iff.1 hy
    exact List.drop_eq_getElem_cons hlt
   simp only [List.length_cons, e1, Nat.sub_self, List.drop_zero, hbd] at hF
   simp only [go_sem, h0, h1, lI64_get hx, lI64_get hy]
   repeat' (first
    | ((first | refine cS ?_ ?_ | refine gS ?_ ?_) <;> (intro hc; simp only [go_sem, hc, h0, h1, hw, lI64_get hx, lI64_get hy])))
   ·have hne : x ≠ y := by simpa using hc
    have : decide (a = b) = false := by rw [hF]; simp [hne]
    rw [eqI, this]
   ·have he : x = y := by simpa using hc
    subst he
    exact ⟨(), by rw [Bool.eq_iff_iff, decide_eq_true_eq, decide_eq_true_eq, e1, e2, hbd]; simp, by rw [take_snoc hx, take_snoc hy, hI]⟩
  ·intro _ hI hF
   simp only [go_sem, Int.lt_irrefl, decide_false]
   have : a = b := by rw [List.take_length] at hI; rw [hI, hlen, List.take_length]
   simp [eqI, this]
theorem p_family (k : Int) (h1 : 1 <= k) (h2 : k <= 6) : PCall Tryz.prog 164 [.int .i64 k] (.int .i64 (famS k)) := by
 have h : k = 1 \/ k = 2 \/ k = 3 \/ k = 4 \/ k = 5 \/ k = 6 := by omega
 refine pC h164_k rfl ?_
 rcases h with rfl | rfl | rfl | rfl | rfl | rfl
 all_goals
  simp only [Tryz.f164, go_sem]
  rfl
end Go.AI
namespace Go.AI
structure VE where
 v : Variable
 b : Bool
def vNew (l : List Fld) (s : Stp) : Variable := ⟨s.var, famS s.kind, widS l s.key, if numS s then s.n else 0, if numS s then s.m else 0⟩
def vFind (E : List VE) (nm : ByteArray) : Option VE := E.find? fun e => decide (e.v.name = nm)
def vUpd : List VE -> VE -> List VE
 | [], x => [x]
 | e :: E, x => if e.v.name = x.v.name then x :: E else e :: vUpd E x
def vBad (l : List Fld) (e : VE) (s : Stp) : Bool := e.v.family != famS s.kind || (!eqI e.v.widths (widS l s.key) || (numS s && (e.b && (e.v.n != s.n || e.v.m != s.m))))
def vStep (l : List Fld) (E : List VE) (s : Stp) : Option (List VE) :=
 if s.kind = 0 then some E else match vFind E s.var with
  | none => some (vUpd E ⟨vNew l s, numS s⟩)
  | some e => if vBad l e s then none else if numS s then some (vUpd E ⟨vNew l s, true⟩) else some E
def vGo (l : List Fld) : List VE -> List Stage -> Option (List VE)
 | E, [] => some E
 | E, x :: r => match vStep l E x.step with
  | none => none
  | some E' => vGo l E' r
theorem vFind_upd (x : VE) (nm : ByteArray) : ∀ E : List VE, vFind (vUpd E x) nm = if x.v.name = nm then some x else vFind E nm
 | [] => by
  unfold vUpd vFind
  by_cases h : x.v.name = nm <;> simp [h]
 | e :: E => by
  have ih := vFind_upd x nm E
  unfold vUpd
  by_cases h : e.v.name = x.v.name
  ·rw [if_pos h]
   unfold vFind
   by_cases h2 : x.v.name = nm
   ·simp [h2]
   ·simp [h2, h]
  ·rw [if_neg h]
   unfold vFind at ih ⊢
   rw [List.find?_cons, List.find?_cons]
   by_cases h2 : e.v.name = nm
   ·have : ¬ x.v.name = nm := fun h3 => h (h2.trans h3.symm)
    simp [h2, this]
   ·simp only [h2, decide_false]
    exact ih
theorem vFind_name {E : List VE} {nm : ByteArray} {e : VE} (h : vFind E nm = some e) : e.v.name = nm := by
 have := List.find?_some h
 simpa using this
structure VInv (l : List Fld) (E : List VE) (p : List Stage) : Prop where
 src : ∀ nm e, vFind E nm = some e -> ∃ x ∈ p, x.step.kind ≠ 0 /\ x.step.var = nm
 fits : ∀ x ∈ p, x.step.kind ≠ 0 -> ∃ e, vFind E x.step.var = some e /\ e.v.family = famS x.step.kind /\ e.v.widths = widS l x.step.key /\ (numS x.step = true -> e.b = true /\ e.v.n = x.step.n /\ e.v.m = x.step.m)
 num : ∀ nm e, vFind E nm = some e -> e.b = true -> ∃ x ∈ p, x.step.kind ≠ 0 /\ x.step.var = nm /\ numS x.step = true
theorem VInv.nil (l : List Fld) : VInv l [] [] := ⟨fun _ _ h => (by cases h), fun _ h => (by cases h), fun _ _ h => (by cases h)⟩
theorem vBad_any {l : List Fld} {E : List VE} {p : List Stage} (h : VInv l E p) {s : Stp} (hk : s.kind ≠ 0) :
  p.any (fun y => clash l y.step s) = match vFind E s.var with | none => false | some e => vBad l e s := by
 cases hf : vFind E s.var with
 | none =>
  dsimp only
  rw [List.any_eq_false]
  intro y hy hc
  unfold clash at hc
  simp only [Bool.and_eq_true, bne_iff_ne, ne_eq, decide_eq_true_eq] at hc
  obtain ⟨e, he, _⟩ := h.fits y hy hc.1.1
  rw [hc.2.1, hf] at he
  cases he
 | some e =>
  dsimp only
  rw [Bool.eq_iff_iff, List.any_eq_true]
  constructor
  ·rintro ⟨y, hy, hc⟩
   unfold clash agrS at hc
   simp only [Bool.and_eq_true, bne_iff_ne, ne_eq, decide_eq_true_eq] at hc
   obtain ⟨⟨k1, k2⟩, hv, ha⟩ := hc
   obtain ⟨e', he, h1, h2, h3⟩ := h.fits y hy k1
   rw [hv, hf] at he
   cases he
   have ha' : (numS y.step = true /\ numS s = true /\ (y.step.n ≠ s.n \/ y.step.m ≠ s.m)) \/ eqI (widS l y.step.key) (widS l s.key) = false \/ famS y.step.kind ≠ famS s.kind := by
    generalize eqI (widS l y.step.key) (widS l s.key) = B at ha ⊢
    generalize famS y.step.kind = f1 at ha ⊢
    generalize famS s.kind = f2 at ha ⊢
    generalize numS y.step = c1 at ha ⊢
    generalize numS s = c2 at ha ⊢
    cases B <;> cases c1 <;> cases c2 <;> simp at ha ⊢
    all_goals first | exact ha | (rcases ha with ha | ha <;> grind) | grind
   unfold vBad
   rw [h1, h2]
   rcases ha' with ⟨a1, a2, a3⟩ | a | a
   ·obtain ⟨g1, g2, g3⟩ := h3 a1
    rw [g1, g2, g3, a2]
    rcases a3 with a3 | a3 <;> simp [a3]
   ·simp [a]
   ·simp [a]
  ·intro hb
   unfold vBad at hb
   by_cases hn : numS s = true /\ e.b = true /\ (e.v.n != s.n || e.v.m != s.m) = true
   ·obtain ⟨n1, n2, n3⟩ := hn
    obtain ⟨y, hy, k1, k2, k3⟩ := h.num _ e hf n2
    obtain ⟨e', he, h1, h2, h3⟩ := h.fits y hy k1
    rw [k2, hf] at he
    cases he
    obtain ⟨g1, g2, g3⟩ := h3 k3
    refine ⟨y, hy, ?_⟩
    unfold clash agrS
    rw [n1, k3, <- g2, <- g3, n3]
    simp [k1, hk, k2]
   ·obtain ⟨y, hy, k1, k2⟩ := h.src _ e hf
    obtain ⟨e', he, h1, h2, h3⟩ := h.fits y hy k1
    rw [k2, hf] at he
    cases he
    refine ⟨y, hy, ?_⟩
    unfold clash agrS
    rw [<- h1, <- h2]
    have hb2 : (e.v.family != famS s.kind || !eqI e.v.widths (widS l s.key)) = true := by
     rw [Bool.or_eq_true] at hb ⊢
     rcases hb with hb | hb
     ·exact .inl hb
     ·rw [Bool.or_eq_true] at hb
      rcases hb with hb | hb
      ·exact .inr hb
      ·exfalso
       apply hn
       simp only [Bool.and_eq_true] at hb
       exact ⟨hb.1, hb.2.1, hb.2.2⟩
    have hb3 : (eqI e.v.widths (widS l s.key) && e.v.family == famS s.kind) = false := by
     generalize eqI e.v.widths (widS l s.key) = B at hb2 ⊢
     cases B
     ·rfl
     ·simp only [Bool.not_true, Bool.or_false] at hb2
      simpa using hb2
    rw [hb3]
    simp [k1, hk, k2]
theorem VInv.step {l : List Fld} {E : List VE} {p : List Stage} (h : VInv l E p) {x : Stage} {E' : List VE} (hs : vStep l E x.step = some E') : VInv l E' (p ++ [x]) := by
 unfold vStep at hs
 split at hs
 ·rename_i hk
  cases hs
  exact ⟨fun nm e he => by obtain ⟨y, hy, h1⟩ := h.src nm e he; exact ⟨y, by simp [hy], h1⟩,
   fun y hy hk2 => by
    rcases List.mem_append.1 hy with hy | hy
    ·exact h.fits y hy hk2
    ·rw [List.mem_singleton.1 hy] at hk2; exact absurd hk hk2,
   fun nm e he hb => by obtain ⟨y, hy, h1⟩ := h.num nm e he hb; exact ⟨y, by simp [hy], h1⟩⟩
 ·rename_i hk
  split at hs
  ·rename_i hf
   cases hs
   refine ⟨fun nm e he => ?_, fun y hy hk2 => ?_, fun nm e he hb => ?_⟩
   ·rw [vFind_upd] at he
    split at he
    ·rename_i hn
     exact ⟨x, by simp, hk, hn⟩
    ·obtain ⟨y, hy, h1⟩ := h.src nm e he; exact ⟨y, by simp [hy], h1⟩
   ·rw [vFind_upd]
    rcases List.mem_append.1 hy with hy | hy
    ·obtain ⟨e, he, h1⟩ := h.fits y hy hk2
     have hne : ¬ (vNew l x.step).name = y.step.var := fun hn => by
      have hn : x.step.var = y.step.var := hn
      rw [<- hn, hf] at he; cases he
     exact ⟨e, by rw [if_neg hne]; exact he, h1⟩
    ·rcases List.mem_singleton.1 hy with rfl
     refine ⟨_, if_pos rfl, rfl, rfl, fun hn => ⟨hn, ?_, ?_⟩⟩
     ·simp [vNew, hn]
     ·simp [vNew, hn]
   ·rw [vFind_upd] at he
    split at he
    ·rename_i hn
     cases he
     exact ⟨x, by simp, hk, hn, hb⟩
    ·obtain ⟨y, hy, h1⟩ := h.num nm e he hb; exact ⟨y, by simp [hy], h1⟩
  ·rename_i e0 hf
   split at hs
   ·cases hs
   ·rename_i hb0
    have hb0 : vBad l e0 x.step = false := by simpa using hb0
    unfold vBad at hb0
    rw [Bool.or_eq_false_iff, Bool.or_eq_false_iff] at hb0
    obtain ⟨b1, b2, b3⟩ := hb0
    have b1 : e0.v.family = famS x.step.kind := by simpa using b1
    have b2 : e0.v.widths = widS l x.step.key := by simpa [eqI] using b2
    split at hs
    ·rename_i hnum
     cases hs
     refine ⟨fun nm e he => ?_, fun y hy hk2 => ?_, fun nm e he hb => ?_⟩
     ·rw [vFind_upd] at he
      split at he
      ·rename_i hn
       exact ⟨x, by simp, hk, hn⟩
      ·obtain ⟨y, hy, h1⟩ := h.src nm e he; exact ⟨y, by simp [hy], h1⟩
     ·rw [vFind_upd]
      rcases List.mem_append.1 hy with hy | hy
      ·obtain ⟨e, he, h1, h2, h3⟩ := h.fits y hy hk2
       by_cases hn : (vNew l x.step).name = y.step.var
       ·have hn2 : x.step.var = y.step.var := hn
        rw [<- hn2, hf] at he
        cases he
        refine ⟨_, if_pos hn, ?_, ?_, fun hny => ?_⟩
        ·show famS x.step.kind = _
         rw [<- b1, h1]
        ·show widS l x.step.key = _
         rw [<- b2, h2]
        ·obtain ⟨g1, g2, g3⟩ := h3 hny
         rw [hnum, g1, g2, g3] at b3
         simp only [Bool.true_and, Bool.or_eq_false_iff, bne_eq_false_iff_eq] at b3
         refine ⟨rfl, ?_, ?_⟩
         ·simp [vNew, hnum, b3.1]
         ·simp [vNew, hnum, b3.2]
       ·exact ⟨e, by rw [if_neg hn]; exact he, h1, h2, h3⟩
      ·rcases List.mem_singleton.1 hy with rfl
       refine ⟨_, if_pos rfl, rfl, rfl, fun hn => ⟨rfl, ?_, ?_⟩⟩
       ·simp [vNew, hn]
       ·simp [vNew, hn]
     ·rw [vFind_upd] at he
      split at he
      ·rename_i hn
       exact ⟨x, by simp, hk, hn, hnum⟩
      ·obtain ⟨y, hy, h1⟩ := h.num nm e he hb; exact ⟨y, by simp [hy], h1⟩
    ·rename_i hnum
     cases hs
     refine ⟨fun nm e he => ?_, fun y hy hk2 => ?_, fun nm e he hb => ?_⟩
     ·obtain ⟨y, hy, h1⟩ := h.src nm e he; exact ⟨y, by simp [hy], h1⟩
     ·rcases List.mem_append.1 hy with hy | hy
      ·exact h.fits y hy hk2
      ·rcases List.mem_singleton.1 hy with rfl
       exact ⟨e0, hf, b1, b2, fun hn => absurd hn hnum⟩
     ·obtain ⟨y, hy, h1⟩ := h.num nm e he hb; exact ⟨y, by simp [hy], h1⟩
theorem vStep_none {l : List Fld} {E : List VE} {p : List Stage} (h : VInv l E p) (s : Stp) : (vStep l E s).isSome = !p.any (fun y => clash l y.step s) := by
 by_cases hk : s.kind = 0
 ·unfold vStep
  rw [if_pos hk]
  have : p.any (fun y => clash l y.step s) = false := by
   rw [List.any_eq_false]; intro y _; simp [clash, hk]
  rw [this]; rfl
 ·rw [vBad_any h hk]
  unfold vStep
  rw [if_neg hk]
  cases vFind E s.var with
  | none => rfl
  | some e =>
   dsimp only
   cases vBad l e s
   ·cases numS s <;> rfl
   ·rfl
theorem vGo_typGo (l : List Fld) (p : List Stage) : ∀ (n i : Nat) (E : List VE), p.length - i = n -> VInv l E (p.take i) -> (vGo l E (p.drop i)).isSome = typGo l p i (p.drop i)
 | 0, i, E, hn, _ => by
  rw [List.drop_eq_nil_of_le (by omega)]; rfl
 | n + 1, i, E, hn, h => by
  have hlt : i < p.length := by omega
  rw [List.drop_eq_getElem_cons hlt, vGo, typGo]
  have h1 := vStep_none h p[i].step
  cases hs : vStep l E p[i].step with
  | none =>
   rw [hs] at h1
   rw [<- h1]; rfl
  | some E' =>
   rw [hs] at h1
   rw [<- h1]
   have ht : p.take (i + 1) = p.take i ++ [p[i]] := by rw [List.take_add_one, List.getElem?_eq_getElem hlt]; rfl
   have := vGo_typGo l p n (i + 1) E' (by omega) (by rw [ht]; exact h.step hs)
   simpa using this
theorem vGo_typ (l : List Fld) (p : List Stage) : (vGo l [] p).isSome = typGo l p 0 p := by
 have := vGo_typGo l p p.length 0 [] (by omega) (by simpa using VInv.nil l)
 simpa using this
end Go.AI
namespace Go.AI
open Go.Proofs
set_option maxRecDepth 50000
@[go_sem] theorem evo_nilmap {P : Program} {e : Env} (o : Option TypeId) : evo P o e (.const (.map none)) = .nilm := rfl
@[go_sem] theorem borrow0_nilm : borrow0 .nilm = .nilm := rfl
@[go_sem] theorem borrow0_mapr (o : Nat) : borrow0 (.mapr o) = .mapr o := rfl
def entE (F : VE -> AV) (E : List VE) : List (AV × AV) := E.map fun e => (.str e.v.name, F e)
abbrev entA : List VE -> List (AV × AV) := entE fun e => .agg e.v.c
abbrev entN : List VE -> List (AV × AV) := entE fun e => .bool e.b
theorem keyEq_s (a b : ByteArray) : keyEq (.str a) (.str b) = decide (a = b) := by
 rw [Bool.eq_iff_iff]; simp [keyEq, keyEq1]
theorem afind_ent (F : VE -> AV) (nm : ByteArray) : ∀ (E : List VE) (i : Nat), (afind (.str nm) (entE F E) i).map (·.2) = (vFind E nm).map F
 | [], _ => rfl
 | e :: E, i => by
  unfold entE vFind
  rw [List.map_cons, afind, List.find?_cons, keyEq_s]
  by_cases h : e.v.name = nm
  ·rw [if_pos (by simp [h])]; simp [h]
  ·rw [if_neg (by simp [h])]
   simp only [h, decide_false]
   exact afind_ent F nm E (i + 1)
theorem mapUpd_ent (F : VE -> AV) (x : VE) : ∀ E : List VE, mapUpd (entE F E) (.str x.v.name) (F x) = entE F (vUpd E x) := by
 have key : ∀ (E : List VE) (i : Nat), (match afind (.str x.v.name) (entE F E) i with | some (j, _) => (entE F E).set (j - i) (.str x.v.name, F x) | none => entE F E ++ [(.str x.v.name, F x)]) = entE F (vUpd E x) := by
  intro E
  induction E with
  | nil => intro i; rfl
  | cons e E ih =>
   intro i
   unfold entE vUpd
   rw [List.map_cons, afind, keyEq_s]
   by_cases h : e.v.name = x.v.name
   ·rw [if_pos (by simp [h]), if_pos h]
    simp
   ·rw [if_neg (by simp [h]), if_neg h]
    have ih := ih (i + 1)
    unfold entE at ih
    rw [List.map_cons, <- ih]
    cases ha : afind (.str x.v.name) (E.map fun e => (AV.str e.v.name, F e)) (i + 1) with
    | none => rfl
    | some q =>
     obtain ⟨j, v⟩ := q
     have hj := (afind_get ha).1
     dsimp only
     have : j - i = (j - (i + 1)) + 1 := by omega
     rw [this, List.set_cons_succ]
 intro E
 have h := key E 0
 unfold mapUpd
 cases ha : afind (.str x.v.name) (entE F E) 0 with
 | none => rw [ha] at h; exact h
 | some q => obtain ⟨j, v⟩ := q; rw [ha] at h; exact h
theorem keys_ent {P : Program} {kt : TypeId} (hu : P.underlying kt = some .string) (F : VE -> AV) (E : List VE) (s : ByteArray) : keysIn P kt (.str s :: (entE F E).map (·.1)) :=
 keysIn_str hu fun a ha => by
  rcases List.mem_cons.1 ha with rfl | ha
  ·exact ⟨_, rfl⟩
  ·unfold entE at ha
   rw [List.map_map] at ha
   obtain ⟨e, _, rfl⟩ := List.mem_map.1 ha; exact ⟨_, rfl⟩
def distV : List VE -> Prop
 | [] => True
 | e :: E => (∀ x ∈ E, e.v.name ≠ x.v.name) /\ distV E
theorem distV_ent (F : VE -> AV) : ∀ {E : List VE}, distV E -> distK (entE F E)
 | [], _ => List.Pairwise.nil
 | e :: E, h => List.Pairwise.cons (fun q hq => by obtain ⟨y, hy, rfl⟩ := List.mem_map.1 hq; dsimp only; rw [keyEq_s]; simp [h.1 y hy]) (distV_ent F h.2)
theorem vUpd_mem {x y : VE} : ∀ {E : List VE}, y ∈ vUpd E x -> y = x \/ y ∈ E
 | [], h => by unfold vUpd at h; exact .inl (List.mem_singleton.1 h)
 | e :: E, h => by
  unfold vUpd at h
  split at h
  ·rcases List.mem_cons.1 h with h | h
   ·exact .inl h
   ·exact .inr (List.mem_cons_of_mem _ h)
  ·rcases List.mem_cons.1 h with h | h
   ·exact .inr (h ▸ List.mem_cons_self)
   ·rcases vUpd_mem h with h | h
    ·exact .inl h
    ·exact .inr (List.mem_cons_of_mem _ h)
theorem distV_upd (x : VE) : ∀ {E : List VE}, distV E -> distV (vUpd E x)
 | [], _ => ⟨fun _ h => (by cases h), trivial⟩
 | e :: E, h => by
  unfold vUpd
  split
  ·rename_i he
   exact ⟨fun y hy => he ▸ h.1 y hy, h.2⟩
  ·rename_i he
   refine ⟨fun y hy => ?_, distV_upd x h.2⟩
   rcases vUpd_mem hy with rfl | hy
   ·exact he
   ·exact h.1 y hy
theorem vUpd_self : ∀ {E : List VE} {nm : ByteArray} {e : VE}, vFind E nm = some e -> vUpd E e = E
 | [], _, _, h => by cases h
 | x :: E, nm, e, h => by
  have hn := vFind_name h
  unfold vFind at h
  rw [List.find?_cons] at h
  unfold vUpd
  by_cases hx : x.v.name = nm
  ·simp only [hx, decide_true] at h
   cases h
   rw [if_pos rfl]
  ·simp only [hx, decide_false] at h
   rw [if_neg (by rw [hn]; exact hx), vUpd_self h]
theorem bnd_ent {F : VE -> AV} {n : Nat} {E : List VE} (hF : ∀ e, (F e).bnd n = true) : bndL n (mapc (entE F E)) = true := by
 simp only [mapc, bndL, AV.bnd, Bool.and_true]
 refine bndL_iff.2 fun c hc => ?_
 obtain ⟨p, hp, hc⟩ := List.mem_flatMap.1 hc
 obtain ⟨x, _, rfl⟩ := List.mem_map.1 hp
 rcases List.mem_cons.1 hc with rfl | hc
 ·rfl
 ·rcases List.mem_singleton.1 hc with rfl
  exact hF x
section
variable {P : Program} {K : Kt} {e : Env} {H : Heap} {d : Tmp} {t kt et : TypeId} {o : Nat}
theorem lkpK_ent (F : VE -> AV) (E : List VE) (nm : ByteArray) (ok : Bool) {z : AV} (hu : P.underlying t = some (.map kt et)) (hk : P.underlying kt = some .string) (hz : zeroAV P et = some z) (hm : H[o]? = some (some (mapc (entE F E)))) (hd : distV E)
  (h : K ((d, lkres ok z ((vFind E nm).map fun e => (0, F e))) :: e) H) : lkpK P t ok (.mapr o) (.str nm) d K e H := by
 unfold lkpK
 rw [hu]
 dsimp only
 rw [mapOf_at hm]
 dsimp only
 refine ⟨keys_ent hk F E nm, distV_ent F hd, _, hz, ?_⟩
 have ha := afind_ent F nm E 0
 have : lkres ok z (afind (.str nm) (entE F E) 0) = lkres ok z ((vFind E nm).map fun e => (0, F e)) := by
  cases h1 : afind (.str nm) (entE F E) 0 with
  | none =>
   rw [h1] at ha
   cases h2 : vFind E nm with
   | none => rfl
   | some _ => rw [h2] at ha; cases ha
  | some q =>
   obtain ⟨j, v⟩ := q
   rw [h1] at ha
   cases h2 : vFind E nm with
   | none => rw [h2] at ha; cases ha
   | some x =>
    rw [h2] at ha
    cases ha
    rfl
 rw [this]; exact h
theorem updK_ent (F : VE -> AV) (E : List VE) (x : VE) {nm : ByteArray} {v : AV} (hn : nm = x.v.name) (hF : v = F x) (hu : P.underlying t = some (.map kt et)) (hk : P.underlying kt = some .string) (hm : H[o]? = some (some (mapc (entE F E)))) (hd : distV E) (hv : (F x).isVal = true)
  (h : K e (H.set o (some (mapc (entE F (vUpd E x)))))) : updK P t (.mapr o) (.str nm) v K e H := by
 subst hn; subst hF
 unfold updK
 dsimp only
 rw [hu]
 dsimp only
 rw [mapOf_at hm]
 dsimp only
 refine ⟨keys_ent hk F E _, distV_ent F hd, hv, ?_⟩
 rw [mapUpd_ent]; exact h
end
theorem p_EqualI' (a b : List Int) : PCall Tryz.prog 165 [.sl none (lI64 a), .sl none (lI64 b)] (.bool (eqI a b)) := by
 refine PCall.fit h165_k.c fun hf => ?_
 have := pfits hf
 rw [lI64_len] at this
 exact p_EqualI a b this
set_option maxHeartbeats 4000000 in
theorem p_variables (l : List Fld) (hl : l.length <= 9223372036854775807) (p : List Stage) (hp : p.length <= 9223372036854775807) (hk : ∀ x ∈ p, x.step.kind ≠ 0 -> (1 <= x.step.kind /\ x.step.kind <= 6) /\ x.step.key.length <= 1073741824) :
  ACall Tryz.prog 90 [.sl none (lFld l), .sl none (lStage p)] [] (fun v H' => (vGo l [] p = none /\ v = .tup [.nilm, .bool false]) \/ ∃ E g, vGo l [] p = some E /\ distV E /\ v = .tup [.mapr 0, .bool true] /\ H' = some (mapc (entA E)) :: some (mapc (entN E)) :: g) := by
 refine aN h90_k rfl ?_
 simp only [Tryz.f90, go_sem]
 refine awp_lst p (fun E r => vGo l E r) (fun k E => distV E) (fun k E => [(0, .sl none (lFld l)), (6, .mapr 0), (7, .mapr 1), (21, .sl none (lStage p)), (22, .int .i64 p.length), (23, .int .i64 k)]) (fun k E => [some (mapc (entA E)), some (mapc (entN E))]) [] hp trivial rfl rfl ?_ ?_
 ·intro k E x xs hd hx hI hF h0 h1 hw
  have hxm := List.mem_of_getElem? hx
  have hbA : ∀ E, bndL 2 (mapc (entA E)) = true := fun E => bnd_ent fun e => Variable.c_bnd 2 e.v
  have hbN : ∀ E, bndL 2 (mapc (entN E)) = true := fun E => bnd_ent fun e => rfl
  by_cases k0 : x.step.kind = 0
  ·have c0 : (x.step.kind == 0) = true := by simp [k0]
   simp only [go_sem, h0, h1, hw, lStage_get hx, c0, hbA, hbN]
   exact ⟨E, by rw [vGo, vStep, if_pos k0], hI, rfl, rfl⟩
  ·have c0 : (x.step.kind == 0) = false := by simp [k0]
   obtain ⟨⟨k1, k6⟩, kl⟩ := hk x hxm k0
   simp only [go_sem, h0, h1, hw, lStage_get hx, c0]
   repeat' (first
    | (refine pK (p_family _ k1 k6) ?_; simp only [go_sem])
    | ((first | refine cS ?_ ?_ | refine gS ?_ ?_) <;> (intro hc; simp only [go_sem, hc])))
   refine awp_lst x.step.key (fun ws r => ws ++ widS l r) (fun k ws => ws.length = k)
    (fun j ws => [(0, .sl none (lFld l)), (6, .mapr 0), (7, .mapr 1), (10, .ptr 3 0), (11, .ptr 4 0), (21, .sl none (lStage p)), (22, .int .i64 p.length), (23, .int .i64 k), (39, .sl none (lStr x.step.key)), (40, .int .i64 x.step.key.length), (41, .int .i64 j)])
    (fun j ws => [some (mapc (entA E)), some (mapc (entN E)), some x.c, some x.step.c, some (({ name := x.step.var, family := famS x.step.kind, widths := ws, n := 0, m := 0 } : Variable).cf (some 1))]) [] (by omega) rfl rfl rfl ?_ ?_
   ·intro j ws y ys hd2 hy hJ hG g0 g1 gw
    have hjl := drop_len hd2
    have hbA5 : bndL 5 (mapc (entA E)) = true := bnd_ent fun e => Variable.c_bnd 5 e.v
    have hbN5 : bndL 5 (mapc (entN E)) = true := bnd_ent fun e => rfl
    simp only [go_sem, g0, g1, gw, lStr_get hy]
    repeat' (first
     | (refine pK (p_Find l hl y) ?_; simp only [go_sem, g0, g1, gw, lStr_get hy, hbA5, hbN5])
     | ((first | refine cS ?_ ?_ | refine gS ?_ ?_) <;> (intro hc; simp only [go_sem, hc, g0, g1, gw, lStr_get hy, hbA5, hbN5])))
    exact ⟨by omega, by omega, ws ++ [(findF l y).1.width], by simp [widS], by simp [hJ], rfl, rfl⟩
   ·intro ws hJ hG
    have hG : widS l x.step.key = ws := by simpa [widS] using hG
    simp only [go_sem, Int.lt_irrefl, decide_false]
    have hno : vFind E x.step.var = none -> vGo l [] p = vGo l (vUpd E ⟨vNew l x.step, numS x.step⟩) xs := fun hf => by
     rw [hF, vGo, vStep, if_neg k0, hf]
    have hye : ∀ e, vFind E x.step.var = some e -> vGo l [] p = if vBad l e x.step = true then none else vGo l (if numS x.step = true then vUpd E ⟨vNew l x.step, true⟩ else E) xs := fun e hf => by
     rw [hF, vGo, vStep, if_neg k0, hf]
     dsimp only
     by_cases hb : vBad l e x.step = true
     ·rw [if_pos hb, if_pos hb]
     ·rw [if_neg hb, if_neg hb]
      by_cases hn : numS x.step = true
      ·rw [if_pos hn, if_pos hn]
      ·rw [if_neg hn, if_neg hn]
    have hkn : ((x.step.kind == 4) = true /\ numS x.step = true) \/ ((x.step.kind == 4) = false /\ (x.step.kind == 6) = true /\ numS x.step = true) \/ ((x.step.kind == 4) = false /\ (x.step.kind == 6) = false /\ numS x.step = false) := by
     unfold numS
     cases (x.step.kind == 4) <;> cases (x.step.kind == 6) <;> simp
    rcases hkn with ⟨c4, hn⟩ | ⟨c4, c6, hn⟩ | ⟨c4, c6, hn⟩
    ·simp only [c4, go_sem]
     refine lkpK_ent (kt := 9) (et := 134) (z := .agg (Variable.z.cf (some 1))) (fun e => .agg e.v.c) E x.step.var true ?_ ?_ ?_ rfl hI ?_
     ·first | simp only [go_sem] | kernel_rfl
     ·first | simp only [go_sem] | kernel_rfl
     ·first | simp only [go_sem] | kernel_rfl
     cases hf : vFind E x.step.var with
     | none =>
      simp only [Option.map_none, Option.map_some, lkres, go_sem, c4]
      rw [awp_regionD _ _ _ (by simp only [go_sem])]
      simp only [go_sem]
      refine ⟨dynB_ok (by first | rfl | kernel_rfl), ?_⟩
      simp only [go_sem]
      refine updK_ent (kt := 9) (et := 134) (fun e => .agg e.v.c) E ⟨vNew l x.step, numS x.step⟩ rfl ?_ ?_ ?_ rfl hI rfl ?_
      ·simp [vNew, hn, hG]; try rfl
      ·first | simp only [go_sem] | kernel_rfl
      ·first | simp only [go_sem] | kernel_rfl
      simp only [go_sem]
      refine lkpK_ent (kt := 9) (et := 4) (z := .bool false) (fun e => .bool e.b) E x.step.var false ?_ ?_ ?_ rfl hI ?_
      ·first | simp only [go_sem] | kernel_rfl
      ·first | simp only [go_sem] | kernel_rfl
      ·first | simp only [go_sem] | kernel_rfl
      simp only [hf, Option.map_none, lkres, go_sem, c4]
      refine updK_ent (kt := 9) (et := 4) (fun e => .bool e.b) E ⟨vNew l x.step, numS x.step⟩ rfl ?_ ?_ ?_ rfl hI rfl ?_
      ·simp [hn]
      ·first | simp only [go_sem] | kernel_rfl
      ·first | simp only [go_sem] | kernel_rfl
      simp only [go_sem, hw, hbA, hbN]
      exact ⟨_, by rw [<- hF, hno hf], distV_upd _ hI, rfl, rfl⟩
     | some e =>
      simp only [Option.map_none, Option.map_some, lkres, go_sem, c4]
      rw [awp_regionD _ _ _ (by simp only [go_sem])]
      simp only [go_sem]
      refine ⟨dynB_ok (by first | rfl | kernel_rfl), ?_⟩
      simp only [go_sem]
      repeat' (first
       | (refine pK (p_EqualI' _ _) ?_; simp only [go_sem])
       | ((first | refine cS ?_ ?_ | refine gS ?_ ?_) <;> (intro hc; simp only [go_sem, hc])))
      all_goals first
       | exact .inl (by rw [hye e hf, if_pos (by unfold vBad; rw [hn, hG]; simp_all)])
       | skip
      all_goals
       refine lkpK_ent (kt := 9) (et := 4) (z := .bool false) (fun e => .bool e.b) E x.step.var false ?_ ?_ ?_ rfl hI ?_
       ·first | simp only [go_sem] | kernel_rfl
       ·first | simp only [go_sem] | kernel_rfl
       ·first | simp only [go_sem] | kernel_rfl
       simp only [hf, Option.map_some, lkres, go_sem, c4]
      repeat' (first
       | ((first | refine cS ?_ ?_ | refine gS ?_ ?_) <;> (intro hc; simp only [go_sem, hc])))
      all_goals first
       | exact .inl (by rw [hye e hf, if_pos (by unfold vBad; rw [hn, hG]; simp_all)])
       | skip
      all_goals
       refine updK_ent (kt := 9) (et := 134) (fun e => .agg e.v.c) E ⟨vNew l x.step, true⟩ rfl ?_ ?_ ?_ rfl hI rfl ?_
       ·simp [vNew, hn, hG]; try rfl
       ·first | simp only [go_sem] | kernel_rfl
       ·first | simp only [go_sem] | kernel_rfl
       simp only [go_sem]
       refine lkpK_ent (kt := 9) (et := 4) (z := .bool false) (fun e => .bool e.b) E x.step.var false ?_ ?_ ?_ rfl hI ?_
       ·first | simp only [go_sem] | kernel_rfl
       ·first | simp only [go_sem] | kernel_rfl
       ·first | simp only [go_sem] | kernel_rfl
       simp only [hf, Option.map_some, lkres, go_sem]
       refine gsel_any (fun hb => ?_) (fun hb => ?_)
       all_goals
        simp only [go_sem]
        refine updK_ent (kt := 9) (et := 4) (fun e => .bool e.b) E ⟨vNew l x.step, true⟩ rfl (by rw [hb]; rfl) ?_ ?_ rfl hI rfl ?_
        ·first | simp only [go_sem] | kernel_rfl
        ·first | simp only [go_sem] | kernel_rfl
        simp only [go_sem, hw, hbA, hbN]
        exact ⟨_, by rw [<- hF, hye e hf, if_neg (by unfold vBad; rw [hn, hG]; simp_all), if_pos hn], distV_upd _ hI, rfl, rfl⟩
    ·simp only [c4, c6, go_sem]
     refine lkpK_ent (kt := 9) (et := 134) (z := .agg (Variable.z.cf (some 1))) (fun e => .agg e.v.c) E x.step.var true ?_ ?_ ?_ rfl hI ?_
     ·first | simp only [go_sem] | kernel_rfl
     ·first | simp only [go_sem] | kernel_rfl
     ·first | simp only [go_sem] | kernel_rfl
     cases hf : vFind E x.step.var with
     | none =>
      simp only [Option.map_none, Option.map_some, lkres, go_sem, c4, c6]
      rw [awp_regionD _ _ _ (by simp only [go_sem])]
      simp only [go_sem]
      refine ⟨dynB_ok (by first | rfl | kernel_rfl), ?_⟩
      simp only [go_sem]
      refine updK_ent (kt := 9) (et := 134) (fun e => .agg e.v.c) E ⟨vNew l x.step, numS x.step⟩ rfl ?_ ?_ ?_ rfl hI rfl ?_
      ·simp [vNew, hn, hG]; try rfl
      ·first | simp only [go_sem] | kernel_rfl
      ·first | simp only [go_sem] | kernel_rfl
      simp only [go_sem]
      refine lkpK_ent (kt := 9) (et := 4) (z := .bool false) (fun e => .bool e.b) E x.step.var false ?_ ?_ ?_ rfl hI ?_
      ·first | simp only [go_sem] | kernel_rfl
      ·first | simp only [go_sem] | kernel_rfl
      ·first | simp only [go_sem] | kernel_rfl
      simp only [hf, Option.map_none, lkres, go_sem, c4, c6]
      refine updK_ent (kt := 9) (et := 4) (fun e => .bool e.b) E ⟨vNew l x.step, numS x.step⟩ rfl ?_ ?_ ?_ rfl hI rfl ?_
      ·simp [hn]
      ·first | simp only [go_sem] | kernel_rfl
      ·first | simp only [go_sem] | kernel_rfl
      simp only [go_sem, hw, hbA, hbN]
      exact ⟨_, by rw [<- hF, hno hf], distV_upd _ hI, rfl, rfl⟩
     | some e =>
      simp only [Option.map_none, Option.map_some, lkres, go_sem, c4, c6]
      rw [awp_regionD _ _ _ (by simp only [go_sem])]
      simp only [go_sem]
      refine ⟨dynB_ok (by first | rfl | kernel_rfl), ?_⟩
      simp only [go_sem]
      repeat' (first
       | (refine pK (p_EqualI' _ _) ?_; simp only [go_sem])
       | ((first | refine cS ?_ ?_ | refine gS ?_ ?_) <;> (intro hc; simp only [go_sem, hc])))
      all_goals first
       | exact .inl (by rw [hye e hf, if_pos (by unfold vBad; rw [hn, hG]; simp_all)])
       | skip
      all_goals
       refine lkpK_ent (kt := 9) (et := 4) (z := .bool false) (fun e => .bool e.b) E x.step.var false ?_ ?_ ?_ rfl hI ?_
       ·first | simp only [go_sem] | kernel_rfl
       ·first | simp only [go_sem] | kernel_rfl
       ·first | simp only [go_sem] | kernel_rfl
       simp only [hf, Option.map_some, lkres, go_sem, c4, c6]
      repeat' (first
       | ((first | refine cS ?_ ?_ | refine gS ?_ ?_) <;> (intro hc; simp only [go_sem, hc])))
      all_goals first
       | exact .inl (by rw [hye e hf, if_pos (by unfold vBad; rw [hn, hG]; simp_all)])
       | skip
      all_goals
       refine updK_ent (kt := 9) (et := 134) (fun e => .agg e.v.c) E ⟨vNew l x.step, true⟩ rfl ?_ ?_ ?_ rfl hI rfl ?_
       ·simp [vNew, hn, hG]; try rfl
       ·first | simp only [go_sem] | kernel_rfl
       ·first | simp only [go_sem] | kernel_rfl
       simp only [go_sem]
       refine lkpK_ent (kt := 9) (et := 4) (z := .bool false) (fun e => .bool e.b) E x.step.var false ?_ ?_ ?_ rfl hI ?_
       ·first | simp only [go_sem] | kernel_rfl
       ·first | simp only [go_sem] | kernel_rfl
       ·first | simp only [go_sem] | kernel_rfl
       simp only [hf, Option.map_some, lkres, go_sem]
       refine gsel_any (fun hb => ?_) (fun hb => ?_)
       all_goals
        simp only [go_sem]
        refine updK_ent (kt := 9) (et := 4) (fun e => .bool e.b) E ⟨vNew l x.step, true⟩ rfl (by rw [hb]; rfl) ?_ ?_ rfl hI rfl ?_
        ·first | simp only [go_sem] | kernel_rfl
        ·first | simp only [go_sem] | kernel_rfl
        simp only [go_sem, hw, hbA, hbN]
        exact ⟨_, by rw [<- hF, hye e hf, if_neg (by unfold vBad; rw [hn, hG]; simp_all), if_pos hn], distV_upd _ hI, rfl, rfl⟩
    ·simp only [c4, c6, go_sem]
     refine lkpK_ent (kt := 9) (et := 134) (z := .agg (Variable.z.cf (some 1))) (fun e => .agg e.v.c) E x.step.var true ?_ ?_ ?_ rfl hI ?_
     ·first | simp only [go_sem] | kernel_rfl
     ·first | simp only [go_sem] | kernel_rfl
     ·first | simp only [go_sem] | kernel_rfl
     cases hf : vFind E x.step.var with
     | none =>
      simp only [Option.map_none, Option.map_some, lkres, go_sem, c4, c6]
      refine updK_ent (kt := 9) (et := 134) (fun e => .agg e.v.c) E ⟨vNew l x.step, numS x.step⟩ rfl ?_ ?_ ?_ rfl hI rfl ?_
      ·simp [vNew, hn, hG]; try rfl
      ·first | simp only [go_sem] | kernel_rfl
      ·first | simp only [go_sem] | kernel_rfl
      simp only [go_sem]
      refine lkpK_ent (kt := 9) (et := 4) (z := .bool false) (fun e => .bool e.b) E x.step.var false ?_ ?_ ?_ rfl hI ?_
      ·first | simp only [go_sem] | kernel_rfl
      ·first | simp only [go_sem] | kernel_rfl
      ·first | simp only [go_sem] | kernel_rfl
      simp only [hf, Option.map_none, lkres, go_sem, c4, c6]
      refine updK_ent (kt := 9) (et := 4) (fun e => .bool e.b) E ⟨vNew l x.step, numS x.step⟩ rfl ?_ ?_ ?_ rfl hI rfl ?_
      ·simp [hn]
      ·first | simp only [go_sem] | kernel_rfl
      ·first | simp only [go_sem] | kernel_rfl
      simp only [go_sem, hw, hbA, hbN]
      exact ⟨_, by rw [<- hF, hno hf], distV_upd _ hI, rfl, rfl⟩
     | some e =>
      simp only [Option.map_none, Option.map_some, lkres, go_sem, c4, c6]
      repeat' (first
       | (refine pK (p_EqualI' _ _) ?_; simp only [go_sem])
       | ((first | refine cS ?_ ?_ | refine gS ?_ ?_) <;> (intro hc; simp only [go_sem, hc])))
      all_goals first
       | exact .inl (by rw [hye e hf, if_pos (by unfold vBad; rw [hn, hG]; simp_all)])
       | skip
      refine lkpK_ent (kt := 9) (et := 4) (z := .bool false) (fun e => .bool e.b) E x.step.var false ?_ ?_ ?_ rfl hI ?_
      ·first | simp only [go_sem] | kernel_rfl
      ·first | simp only [go_sem] | kernel_rfl
      ·first | simp only [go_sem] | kernel_rfl
      simp only [hf, Option.map_some, lkres, go_sem]
      refine gsel_any (fun hb => ?_) (fun hb => ?_)
      all_goals
       simp only [go_sem]
       refine updK_ent (kt := 9) (et := 4) (fun e => .bool e.b) E e (vFind_name hf).symm (by rw [hb]; rfl) ?_ ?_ rfl hI rfl ?_
       ·first | simp only [go_sem] | kernel_rfl
       ·first | simp only [go_sem] | kernel_rfl
       rw [vUpd_self hf]
       simp only [go_sem, hw, hbA, hbN]
       exact ⟨_, by rw [<- hF, hye e hf, if_neg (by unfold vBad; rw [hn, hG]; simp_all), if_neg (by simp [hn])], hI, rfl, rfl⟩
 ·intro E hI hF
  have hF : vGo l [] p = some E := hF
  simp only [go_sem, Int.lt_irrefl, decide_false]
  exact .inr ⟨E, [], hF, hI, rfl⟩
end Go.AI
namespace Go.AI
def wiresOk (t : Tenant) : Prop := ∀ w ∈ t.wires, (0 <= w.src /\ w.src <= 65535) /\ (0 <= w.dst /\ w.dst <= 65535)
theorem polGo_all (l : List Fld) : ∀ r : List Policy, polGo l r = 0 ↔ ∀ x ∈ r, polE l x = 0
 | [] => by simp [polGo]
 | x :: r => by
  rw [polGo]
  by_cases h : polE l x = 0
  ·rw [if_pos h, polGo_all l r]; simp [h]
  ·rw [if_neg h]; simp [h]
theorem fitGo_all (l : List Fld) : ∀ r : List Pred, fitGo l r = 0 ↔ ∀ x ∈ r, fitP l x = 0
 | [] => by simp [fitGo]
 | x :: r => by
  rw [fitGo]
  by_cases h : fitP l x = 0
  ·rw [if_pos h, fitGo_all l r]; simp [h]
  ·rw [if_neg h]; simp [h]
def goodP (l : List Fld) (x : Pred) : Prop := fmP x = true /\ ∀ y ∈ ptsP x, fitP l y = 0
def goodO (l : List Fld) (x : Policy) : Prop := fmO x = true /\ ∀ y ∈ ptsO x, polE l y = 0
theorem max_port : maxF fldPort = 65535 := by decide +kernel
theorem find_port (l : List Fld) : findF l portS = (fldPort, true) := by unfold findF; rw [if_pos rfl]
theorem fnB_port : fnB portS = true := by unfold fnB; simp
theorem good_at (l : List Fld) {n : Int} (h1 : 0 <= n) (h2 : n <= 65535) : goodP l (bAt n) := by
 constructor
 ·rw [fmP_eq]
  unfold okP bAt
  rw [fmPs_nil]
  simp [fnB_port, w16, h1, h2]
 ·intro y hy
  rw [ptsP_eq] at hy
  have : y = bAt n := by simpa [bAt, ptsPs_nil] using hy
  subst this
  have : ¬ (maxF fldPort < n) := by rw [max_port]; omega
  simp [fitP, bAt, find_port, this]
theorem good_false (l : List Fld) : goodP l bFalse := by
 constructor
 ·rw [fmP_eq]
  unfold okP bFalse noneP
  rw [fmPs_nil]; simp
 ·intro y hy
  rw [ptsP_eq] at hy
  have : y = bFalse := by simpa [bFalse, ptsPs_nil] using hy
  subst this
  simp [fitP, bFalse]
theorem good_or {l : List Fld} {x y : Pred} (hx : goodP l x) (hy : goodP l y) : goodP l (bOr x y) := by
 constructor
 ·rw [fmP_eq]
  unfold okP bOr noneP
  dsimp only
  rw [fmPs_cons, fmPs_cons, fmPs_nil, hx.1, hy.1]; simp
 ·intro z hz
  rw [ptsP_eq] at hz
  rcases List.mem_cons.1 hz with rfl | hz
  ·simp [fitP, bOr]
  ·have hz : z ∈ ptsPs [x, y] := hz
   rw [ptsPs_cons, ptsPs_cons, ptsPs_nil] at hz
   rcases List.mem_append.1 hz with hz | hz
   ·exact hx.2 z hz
   ·exact hy.2 z (by simpa using hz)
theorem good_not {l : List Fld} {x : Pred} (hx : goodP l x) : goodP l (bNot x) := by
 constructor
 ·rw [fmP_eq]
  unfold okP bNot noneP
  dsimp only
  rw [fmPs_cons, fmPs_nil, hx.1]; simp
 ·intro z hz
  rw [ptsP_eq] at hz
  rcases List.mem_cons.1 hz with rfl | hz
  ·simp [fitP, bNot]
  ·have hz : z ∈ ptsPs [x] := hz
   rw [ptsPs_cons, ptsPs_nil] at hz
   exact hx.2 z (by simpa using hz)
theorem good_filter {l : List Fld} {x : Pred} (hx : goodP l x) : goodO l (bFilter x) := by
 constructor
 ·rw [fmO_eq]
  unfold okO bFilter
  dsimp only
  rw [fmOs_nil, hx.1]; simp
 ·intro z hz
  rw [ptsO_eq] at hz
  have : z = bFilter x := by simpa [bFilter, ptsOs_nil] using hz
  subst this
  show (if (1 : Int) = 1 then fitA l x else _) = 0
  rw [if_pos rfl]
  exact (fitGo_all l _).2 hx.2
theorem empty_refl : eqP Pred.z emptyPred = true := eqP_refl _
theorem good_set (l : List Fld) {n : Int} (h1 : 0 <= n) (h2 : n <= 65535) : goodO l (bSet portS n) := by
 constructor
 ·rw [fmO_eq]
  unfold okO bSet
  dsimp only
  rw [fmOs_nil, empty_refl]; simp [fnB_port, w16, h1, h2]
 ·intro z hz
  rw [ptsO_eq] at hz
  have : z = bSet portS n := by simpa [bSet, ptsOs_nil] using hz
  subst this
  have : ¬ (maxF fldPort < n) := by rw [max_port]; omega
  simp [polE, bSet, find_port, this]
theorem good_two {l : List Fld} {x y : Policy} (hx : goodO l x) (hy : goodO l y) {k : Int} (hk : k = 3 \/ k = 4) : goodO l ⟨k, Pred.z, ⟨#[]⟩, 0, [x, y]⟩ := by
 constructor
 ·rw [fmO_eq]
  unfold okO
  dsimp only
  rw [fmOs_cons, fmOs_cons, fmOs_nil, hx.1, hy.1, empty_refl]
  rcases hk with rfl | rfl <;> simp
 ·intro z hz
  rw [ptsO_eq] at hz
  rcases List.mem_cons.1 hz with rfl | hz
  ·rcases hk with rfl | rfl <;> simp [polE]
  ·have hz : z ∈ ptsOs [x, y] := hz
   rw [ptsOs_cons, ptsOs_cons, ptsOs_nil] at hz
   rcases List.mem_append.1 hz with hz | hz
   ·exact hx.2 z hz
   ·exact hy.2 z (by simpa using hz)
theorem good_union {l : List Fld} {x y : Policy} (hx : goodO l x) (hy : goodO l y) : goodO l (bUnion x y) := good_two hx hy (.inl rfl)
theorem good_seq {l : List Fld} {x y : Policy} (hx : goodO l x) (hy : goodO l y) : goodO l (bSeq x y) := good_two hx hy (.inr rfl)
theorem good_star {l : List Fld} {x : Policy} (hx : goodO l x) : goodO l (bStar x) := by
 constructor
 ·rw [fmO_eq]
  unfold okO bStar
  dsimp only
  rw [fmOs_cons, fmOs_nil, hx.1, empty_refl]; simp
 ·intro z hz
  rw [ptsO_eq] at hz
  rcases List.mem_cons.1 hz with rfl | hz
  ·simp [polE, bStar]
  ·have hz : z ∈ ptsOs [x] := hz
   rw [ptsOs_cons, ptsOs_nil] at hz
   exact hx.2 z (by simpa using hz)
theorem good_fold {α : Type} {p : α -> Prop} {two : α -> α -> α} (h2 : ∀ x y, p x -> p y -> p (two x y)) : ∀ (l : List α) (x : α), p x -> (∀ y ∈ l, p y) -> p (l.foldl two x)
 | [], x, hx, _ => hx
 | y :: l, x, hx, h => good_fold h2 l (two x y) (h2 x y hx (h y (by simp))) fun z hz => h z (by simp [hz])
theorem good_join {α : Type} {p : α -> Prop} {two : α -> α -> α} {z : α} (h2 : ∀ x y, p x -> p y -> p (two x y)) (hz : p z) {l : List α} (h : ∀ y ∈ l, p y) : p (joinL z two l) := by
 cases l with
 | nil => exact hz
 | cons x l => exact good_fold h2 l x (h x (by simp)) fun y hy => h y (by simp [hy])
theorem good_closed {l : List Fld} {t : Tenant} {p : Policy} (hw : wiresOk t) (hp : goodO l p) : goodO l (bClosed t p) := by
 unfold bClosed
 split
 ·exact hp
 ·have h1 : goodP l (bWired t) := good_join (p := goodP l) (two := bOr) (fun _ _ => good_or) (good_false l) fun y hy => by
   obtain ⟨w, hm, rfl⟩ := List.mem_map.1 hy
   exact good_at l (hw w hm).1.1 (hw w hm).1.2
  have h2 : goodO l (bWires t) := good_join (p := goodO l) (two := bUnion) (fun _ _ => good_union) (good_filter (good_false l)) fun y hy => by
   obtain ⟨w, hm, rfl⟩ := List.mem_map.1 hy
   exact good_seq (good_filter (good_at l (hw w hm).1.1 (hw w hm).1.2)) (good_set l (hw w hm).2.1 (hw w hm).2.2)
  exact good_seq (good_seq hp (good_star (good_seq h2 hp))) (good_filter (good_not h1))
theorem ckTO_good {l : List Fld} {x : Policy} (h : ckTO l x = 0) : ckO x = 0 /\ goodO l x := by
 unfold ckTO at h
 split at h
 ·rename_i h0
  refine ⟨h0, ?_, (polGo_all l _).1 h⟩
  unfold ckO fmE at h0
  split at h0
  ·split at h0
   ·assumption
   ·cases h0
  ·rename_i hl; exact absurd h0 hl
 ·rename_i hn; exact absurd h hn
theorem ckTO_of_good {l : List Fld} {x : Policy} (hn : ckO x ≠ 2) (h : goodO l x) : ckTO l x = 0 := by
 have h0 : ckO x = 0 := by
  unfold ckO fmE limE at hn ⊢
  rw [h.1] at hn ⊢
  by_cases hz : (szO x).nodes > 200 \/ (szO x).depth > 20
  ·rw [if_pos hz] at hn; exact absurd rfl hn
  ·rw [if_neg hz]; rfl
 rw [ckTO, if_pos h0]
 exact (polGo_all l _).2 h.2
theorem vGo_steps (l : List Fld) : ∀ (p q : List Stage) (E : List VE), p.map (·.step) = q.map (·.step) -> vGo l E p = vGo l E q
 | [], [], _, _ => rfl
 | [], _ :: _, _, h => by cases h
 | _ :: _, [], _, h => by cases h
 | x :: p, y :: q, E, h => by
  simp only [List.map_cons, List.cons.injEq] at h
  rw [vGo, vGo, h.1]
  cases vStep l E y.step with
  | none => rfl
  | some E' => exact vGo_steps l p q E' h.2
theorem stGo_all (l : List Fld) : ∀ r : List Stage, stGo l r = 0 ↔ ∀ x ∈ r, ckTO l x.policy = 0 /\ ckTS l x.step = 0
 | [] => by simp [stGo]
 | x :: r => by
  rw [stGo]
  by_cases h : ckTO l x.policy = 0
  ·rw [if_pos h]
   by_cases h2 : ckTS l x.step = 0
   ·rw [if_pos h2, stGo_all l r]; simp [h, h2]
   ·rw [if_neg h2]; simp [h2]
  ·rw [if_neg h]; simp [h]
theorem ckGo_all : ∀ r : List Stage, ckGo r = 0 ↔ ∀ x ∈ r, ckO x.policy = 0 /\ ckS x.step = 0
 | [] => by simp [ckGo]
 | x :: r => by
  rw [ckGo]
  by_cases h : ckO x.policy = 0
  ·rw [if_pos h]
   by_cases h2 : ckS x.step = 0
   ·rw [if_pos h2, ckGo_all r]; simp [h, h2]
   ·rw [if_neg h2]; simp [h2]
  ·rw [if_neg h]; simp [h]
theorem ckT_0 {l : List Fld} {p : List Stage} (h : ckT l p = 0) : p.length <= 8 /\ (∀ x ∈ p, ckO x.policy = 0 /\ ckS x.step = 0) /\ (∀ x ∈ p, ckTO l x.policy = 0 /\ ckTS l x.step = 0) /\ (vGo l [] p).isSome = true := by
 unfold ckT at h
 split at h
 ·rename_i hn; exact absurd h hn
 ·rename_i h1
  split at h
  ·rename_i hn; exact absurd h hn
  ·rename_i h2
   split at h
   ·rename_i h3
    have h1 : ckG p = 0 := by simpa using h1
    have h2 : stGo l p = 0 := by simpa using h2
    unfold ckG at h1
    split at h1
    ·cases h1
    ·rename_i hl
     exact ⟨by omega, (ckGo_all p).1 h1, (stGo_all l p).1 h2, by rw [vGo_typ]; exact h3⟩
   ·cases h
theorem ckT_of {l : List Fld} {p : List Stage} (h1 : p.length <= 8) (h2 : ∀ x ∈ p, ckO x.policy = 0 /\ ckS x.step = 0) (h3 : ∀ x ∈ p, ckTO l x.policy = 0 /\ ckTS l x.step = 0) (h4 : (vGo l [] p).isSome = true) : ckT l p = 0 := by
 rw [vGo_typ] at h4
 have g1 : ckG p = 0 := by unfold ckG; rw [if_neg (by omega)]; exact (ckGo_all p).2 h2
 have g2 : stGo l p = 0 := (stGo_all l p).2 h3
 unfold ckT
 rw [if_neg (by simp [g1]), if_neg (by simp [g2]), if_pos h4]
theorem wholeGo_spec (t : Tenant) : ∀ (r o : List Stage), (wholeGo t o r).2 = 2 /\ (wholeGo t o r).1 = [] \/
  (wholeGo t o r).2 = 0 /\ (wholeGo t o r).1 = o ++ r.map (fun x => { x with policy := bClosed t x.policy }) /\ ∀ x ∈ r, ckO (bClosed t x.policy) ≠ 2
 | [], o => .inr ⟨rfl, by simp [wholeGo], fun _ h => by cases h⟩
 | x :: r, o => by
  rw [wholeGo]
  split
  ·exact .inl ⟨rfl, rfl⟩
  ·rename_i hn
   rcases wholeGo_spec t r (o ++ [{ x with policy := bClosed t x.policy }]) with h | ⟨h1, h2, h3⟩
   ·exact .inl h
   ·refine .inr ⟨h1, by rw [h2]; simp, fun y hy => ?_⟩
    rcases List.mem_cons.1 hy with rfl | hy
    ·exact hn
    ·exact h3 y hy
theorem whole_fits {l : List Fld} {t : Tenant} (hw : wiresOk t) (h : ckT l t.program = 0) :
  ((bWhole t).2 = 2 /\ (bWhole t).1 = [] /\ t.wires ≠ []) \/ ((bWhole t).2 = 0 /\ ckT l (bWhole t).1 = 0 /\ (bWhole t).1.map (·.step) = t.program.map (·.step)) := by
 obtain ⟨h1, h2, h3, h4⟩ := ckT_0 h
 rcases wholeGo_spec t t.program [] with ⟨g1, g2⟩ | ⟨g1, g2, g3⟩
 ·refine .inl ⟨g1, g2, fun he => ?_⟩
  have : ∀ (r o : List Stage), (∀ x ∈ r, ckO x.policy = 0) -> (wholeGo t o r).2 = 0 := by
   intro r
   induction r with
   | nil => intro o _; rfl
   | cons x r ih =>
    intro o hx
    rw [wholeGo]
    have e : bClosed t x.policy = x.policy := by unfold bClosed; rw [if_pos he]
    rw [e, if_neg (by rw [hx x (by simp)]; decide)]
    exact ih _ fun y hy => hx y (by simp [hy])
  rw [this t.program [] fun x hx => (h2 x hx).1] at g1
  cases g1
 ·have hst : (bWhole t).1.map (·.step) = t.program.map (·.step) := by
   show (wholeGo t [] t.program).1.map _ = _
   rw [g2]; simp [List.map_map, Function.comp_def]
  refine .inr ⟨g1, ?_, hst⟩
  have hm : ∀ x ∈ (bWhole t).1, ckTO l x.policy = 0 /\ ckO x.policy = 0 /\ ckS x.step = 0 /\ ckTS l x.step = 0 := by
   intro x hx
   have hx : x ∈ (wholeGo t [] t.program).1 := hx
   rw [g2, List.nil_append] at hx
   obtain ⟨y, hy, rfl⟩ := List.mem_map.1 hx
   have hg := ckTO_of_good (g3 y hy) (good_closed hw (ckTO_good (h3 y hy).1).2)
   exact ⟨hg, (ckTO_good hg).1, (h2 y hy).2, (h3 y hy).2⟩
  refine ckT_of ?_ (fun x hx => ⟨(hm x hx).2.1, (hm x hx).2.2.1⟩) (fun x hx => ⟨(hm x hx).1, (hm x hx).2.2.2⟩) ?_
  ·have := congrArg List.length hst
   simp only [List.length_map] at this
   omega
  ·rw [vGo_steps l _ _ [] hst]; exact h4
theorem plain_whole {l : List Fld} {t : Tenant} (h : ckT l t.program = 0) : bWhole { t with wires := [] } = (t.program, 0) := by
 obtain ⟨h1, h2, h3, h4⟩ := ckT_0 h
 have : ∀ (r o : List Stage), (∀ x ∈ r, ckO x.policy = 0) -> wholeGo { t with wires := [] } o r = (o ++ r, 0) := by
  intro r
  induction r with
  | nil => intro o _; simp [wholeGo]
  | cons x r ih =>
   intro o hx
   have e : bClosed { t with wires := [] } x.policy = x.policy := by unfold bClosed; rw [if_pos rfl]
   rw [wholeGo, e, if_neg (by rw [hx x (by simp)]; decide), ih _ fun y hy => hx y (by simp [hy])]
   simp
 exact this t.program [] fun x hx => (h2 x hx).1
theorem right_fits {s : Setup} {t : Tenant} (h : rightT s t = true) : wiresOk t /\ ckT s.fields t.program = 0 := by
 unfold rightT at h
 simp only [Bool.and_eq_true, beq_iff_eq] at h
 obtain ⟨_, _, _, _, h1⟩ := h
 unfold ck18 at h1
 split at h1
 ·cases h1
 ·rename_i hlim
  split at h1
  ·rename_i hne; exact absurd h1 hne
  ·rename_i hpo
   split at h1
   ·rename_i hne; exact absurd h1 hne
   ·rename_i hpr
    have hpo : ckPo s t = 0 := by simpa using hpo
    have hpr : ckPr s t = 0 := by simpa using hpr
    constructor
    ·intro w hw
     have hok : okAll (pwr t) qwr t.wires = true := by
      unfold ckPo at hpo
      split at hpo
      ·cases hpo
      split at hpo
      ·cases hpo
      split at hpo
      ·cases hpo
      split at hpo
      ·cases hpo
      ·rename_i hne; simpa using hne
     obtain ⟨k, hk⟩ := List.getElem?_of_mem hw
     have := (okAll_spec hok k w hk).1
     unfold pwr innerB isPortB at this
     simp only [Bool.and_eq_true, decide_eq_true_eq] at this
     omega
    ·unfold ckPr at hpr
     split at hpr
     ·rename_i hne; exact absurd hpr hne
     ·rename_i hne; simpa using hne
end Go.AI
namespace Go.AI
open Go.Proofs
set_option maxRecDepth 50000
theorem ckS_kind {s : Stp} (h : ckS s = 0) (hk : s.kind ≠ 0) : (1 <= s.kind /\ s.kind <= 6) /\ s.key.length <= 4 := by
 have hf : fmS s = true := by
  unfold ckS at h
  split at h
  ·assumption
  ·cases h
 unfold fmS at hf
 split at hf
 ·rename_i he
  unfold eqS at he
  simp only [Bool.and_eq_true, beq_iff_eq] at he
  exact absurd he.1.1 hk
 ·split at hf
  ·cases hf
  ·rename_i hn
   have hlen : s.key.length <= 4 := by omega
   refine ⟨?_, hlen⟩
   by_cases h1 : s.kind = 1
   ·omega
   by_cases h2 : s.kind = 2
   ·omega
   by_cases h3 : s.kind = 3
   ·omega
   by_cases h4 : s.kind = 4
   ·omega
   by_cases h5 : s.kind = 5
   ·omega
   by_cases h6 : s.kind = 6
   ·omega
   rw [if_neg h1, if_neg h2, if_neg h3, if_neg h4, if_neg h5, if_neg h6] at hf
   cases hf
theorem ckG_0 {p : List Stage} (h : ckG p = 0) : p.length <= 8 /\ ∀ x ∈ p, ckO x.policy = 0 /\ ckS x.step = 0 := by
 unfold ckG at h
 split at h
 ·cases h
 ·exact ⟨by omega, (ckGo_all p).1 h⟩
theorem p_tProgram (l : List Fld) (hl : l.length <= 9223372036854775807) (hok : ∀ f ∈ l, 0 <= f.width /\ f.width <= 16) (p : List Stage) (hb : bulkL (lStage p) <= 1073741824) :
  PCall Tryz.prog 37 [.sl none (lFld l), .sl none (lStage p)] (.int .i64 (ckT l p)) := by
 have hpl : p.length <= 1073741824 := lStage_bn hb
 have hbx : ∀ x ∈ p, bulkL x.c <= 1073741824 := fun x hx => by have := lStage_bk hb hx; simpa only [AV.bulk] using this
 refine pC h37_k rfl ?_
 simp only [Tryz.f37, go_sem]
 repeat' (first
  | (refine pK (p_CheckProgram p hb) ?_; simp only [go_sem])
  | ((first | refine cS ?_ ?_ | refine gS ?_ ?_) <;> (intro hc; simp only [go_sem, hc])))
 ·rw [ckT, if_pos (by simpa using hc)]
 ·have g0 : ckG p = 0 := by simpa using hc
  have hT : ckT l p = if stGo l p ≠ 0 then stGo l p else if typGo l p 0 p then 0 else 11 := by rw [ckT, if_neg (by simp [g0])]
  refine awp_lst p (fun (_ : Unit) r => stGo l r) (fun k _ => True) (fun k _ => [(0, .sl none (lFld l)), (1, .sl none (lStage p)), (17, .sl none (lStage p)), (18, .int .i64 p.length), (19, .int .i64 k)]) (fun k _ => []) () (by omega) trivial rfl rfl ?_ ?_
  ·intro k _ x xs hd hx hI hF h0 h1 hw
   have hxm := List.mem_of_getElem? hx
   have hbp := Stage.bs_policy (hbx x hxm)
   have hbs := Stage.bs_step (hbx x hxm)
   simp only [go_sem, h0, h1, hw, lStage_get hx]
   repeat' (first
    | ((first | refine pK (p_tPolicy l hl hok x.policy hbp) ?_ | refine pK (p_tStep l hl hok x.step hbs) ?_); simp only [go_sem, h0, h1, hw, lStage_get hx])
    | ((first | refine cS ?_ ?_ | refine gS ?_ ?_) <;> (intro hc; simp only [go_sem, hc, h0, h1, hw, lStage_get hx])))
   ·have n : ckTO l x.policy ≠ 0 := by simpa using hc
    rw [hT, hF, stGo, if_neg n, if_pos n]
   ·have n1 : ckTO l x.policy = 0 := by
     have h9 : (ckTO l x.policy != 0) = false := by assumption
     simpa using h9
    have n : ckTS l x.step ≠ 0 := by simpa using hc
    rw [hT, hF, stGo, if_pos n1, if_neg n, if_pos n]
   ·have n1 : ckTO l x.policy = 0 := by
     have h9 : (ckTO l x.policy != 0) = false := by assumption
     simpa using h9
    have n : ckTS l x.step = 0 := by simpa using hc
    exact ⟨(), by rw [stGo, if_pos n1, if_pos n]⟩
  ·intro _ _ hF
   have hF0 : stGo l p = 0 := hF
   simp only [go_sem, Int.lt_irrefl, decide_false]
   refine ACallK.intro (p_variables l hl p (by omega) fun x hx hk => ?_) fun v H' hr => ?_
   ·have := ckS_kind ((ckG_0 g0).2 x hx).2 hk
    exact ⟨this.1, by omega⟩
   rcases hr with ⟨hn, rfl⟩ | ⟨E, g, hE, _, rfl, rfl⟩
   ·have ht : typGo l p 0 p = false := by rw [<- vGo_typ, hn]; rfl
    simp only [go_sem]
    rw [hT, hF0, ht]; rfl
   ·have ht : typGo l p 0 p = true := by rw [<- vGo_typ, hE]; rfl
    simp only [go_sem]
    rw [hT, hF0, ht]; rfl
end Go.AI
namespace Go.AI
open Go.Proofs
set_option maxRecDepth 50000
end Go.AI
namespace Go.AI
open Go.Proofs
set_option maxRecDepth 50000
end Go.AI
namespace Go.AI
open Go.Proofs
set_option maxRecDepth 50000
theorem ckF_pos {l : List Fld} (h : ckF l = 0) : ∀ f ∈ l, 0 <= f.width /\ f.width <= 16 := by
 have : ∀ (r : List Fld) (i : Nat), ckFGo l i r = 0 -> ∀ f ∈ r, 0 <= f.width /\ f.width <= 16 := by
  intro r
  induction r with
  | nil => intro i _ f hf; cases hf
  | cons x r ih =>
   intro i h f hf
   rw [ckFGo] at h
   split at h
   ·cases h
   split at h
   ·cases h
   split at h
   ·cases h
   split at h
   ·cases h
   rename_i hp _
   rcases List.mem_cons.1 hf with rfl | hf
   ·simp only [placeB, Bool.not_eq_true', Bool.and_eq_false_iff, not_or, Bool.not_eq_false, decide_eq_true_eq] at hp
    omega
   ·exact ih _ h f hf
 unfold ckF at h
 split at h
 ·cases h
 ·exact this l 0 h
end Go.AI
namespace Go.AI
open Go.Proofs
set_option maxRecDepth 50000
theorem vGo_inv {l : List Fld} : ∀ {r q : List Stage} {E E' : List VE}, VInv l E q -> vGo l E r = some E' -> VInv l E' (q ++ r)
 | [], q, E, E', h, hg => by cases hg; simpa using h
 | x :: r, q, E, E', h, hg => by
  rw [vGo] at hg
  cases hs : vStep l E x.step with
  | none => rw [hs] at hg; cases hg
  | some E1 =>
   rw [hs] at hg
   have := vGo_inv (h.step hs) hg
   simpa using this
theorem vUpd_len (x : VE) : ∀ E : List VE, (vUpd E x).length <= E.length + 1
 | [] => by simp [vUpd]
 | e :: E => by
  unfold vUpd
  split
  ·simp
  ·have := vUpd_len x E; simp only [List.length_cons]; omega
theorem vGo_len {l : List Fld} : ∀ {r : List Stage} {E E' : List VE}, vGo l E r = some E' -> E'.length <= E.length + r.length
 | [], E, E', hg => by cases hg; simp
 | x :: r, E, E', hg => by
  rw [vGo] at hg
  cases hs : vStep l E x.step with
  | none => rw [hs] at hg; cases hg
  | some E1 =>
   rw [hs] at hg
   have h1 := vGo_len hg
   have h2 : E1.length <= E.length + 1 := by
    unfold vStep at hs
    split at hs
    ·cases hs; omega
    ·split at hs
     ·cases hs; exact vUpd_len _ _
     ·split at hs
      ·cases hs
      ·split at hs
       ·cases hs; exact vUpd_len _ _
       ·cases hs; omega
   simp only [List.length_cons]; omega
theorem distF_ent (F : VE -> AV) : ∀ {E : List VE}, distV E -> distF (entE F E) = true
 | [], _ => rfl
 | e :: E, h => by
  unfold entE
  rw [List.map_cons, distF, Bool.and_eq_true]
  refine ⟨List.all_eq_true.2 fun q hq => ?_, distF_ent F h.2⟩
  obtain ⟨y, hy, rfl⟩ := List.mem_map.1 hq
  dsimp only
  rw [keyEq_s]
  simp [h.1 y hy]
def namesV (E : List VE) : List ByteArray := (sortS (E.map fun e => e.v.name.data.toList)).map fun l => ⟨l.toArray⟩
def varAt (E : List VE) (nm : ByteArray) : Variable := match vFind E nm with | some e => e.v | none => Variable.z
def varsOf (E : List VE) : List Variable := (namesV E).map (varAt E)
theorem p_KeysV (o : Nat) (H : Heap) : ACall Tryz.prog 93 [.mapr o] H (fun v H' => v = .fn (.func 169) [] [.ptr H.length 0] /\ H' = H ++ [some [.mapr o]]) := by
 refine aC h93_k rfl ?_
 simp only [Tryz.f93, go_sem]
theorem p_Variables (l : List Fld) (hl : l.length <= 9223372036854775807) (p : List Stage) (hb : bulkL (lStage p) <= 1048576000) (hk : ∀ x ∈ p, x.step.kind ≠ 0 -> (1 <= x.step.kind /\ x.step.kind <= 6) /\ x.step.key.length <= 1073741824) (E : List VE) (hE : vGo l [] p = some E) :
  PCall Tryz.prog 40 [.sl none (lFld l), .sl none (lStage p)] (.sl none (lVariable (varsOf E))) := by
 have hp : p.length <= 1048576000 := lStage_bn hb
 have hinv := vGo_inv (VInv.nil l) hE
 have hEl : E.length <= 1048576000 := by have := vGo_len hE; simp at this; omega
 refine pB h40_k rfl ?_
 simp only [Tryz.f40, go_sem]
 refine ACallK.intro (p_variables l hl p (by omega) hk) fun v H' hr => ?_
 rcases hr with ⟨hn, _⟩ | ⟨E', g, hE', hd, rfl, rfl⟩
 ·rw [hE] at hn; cases hn
 rw [hE] at hE'
 cases hE'
 simp only [go_sem]
 refine ACallK.intro (p_KeysV 0 _) fun v H' hr => ?_
 obtain ⟨rfl, rfl⟩ := hr
 simp only [go_sem]
 have hok : okKeysS (entA E) = true := by
  unfold okKeysS
  rw [distF_ent _ hd, Bool.and_true]
  refine List.all_eq_true.2 fun q hq => ?_
  obtain ⟨e, he, rfl⟩ := List.mem_map.1 hq
  have hf : ∃ e', vFind E e.v.name = some e' := by
   cases h : vFind E e.v.name with
   | some e' => exact ⟨e', rfl⟩
   | none =>
    have := List.find?_eq_none.1 h e he
    simp at this
  obtain ⟨e', hf⟩ := hf
  obtain ⟨x, hx, _, hv⟩ := hinv.src _ _ hf
  rw [List.nil_append] at hx
  have h1 : bulkL x.c <= 1048576000 := by have := lStage_bk hb hx; simpa only [AV.bulk] using this
  have h2 := Stp.bk_var (Stage.bs_step h1)
  rw [hv] at h2
  show decide (e.v.name.size <= maxLen) = true
  unfold maxLen
  simp; omega
 refine ACallK.intro (sorted_callS (ob := g.length + 2) (o := 0) (es := entA E) (H := some (mapc (entA E)) :: some (mapc (entN E)) :: (g ++ [some [.mapr 0]])) ?_ (mapOf_at rfl) hok (by rw [show (entA E).length = E.length from List.length_map _]; omega)) fun v H' hr => ?_
 ·simp
 obtain ⟨rfl, rfl⟩ := hr
 have hs : strsOf (entA E) = E.map fun e => e.v.name.data.toList := by
  show (List.map _ (List.map _ E)) = _
  rw [List.map_map]; rfl
 have hn : ((sortS (strsOf (entA E))).map bAV) = lStr (namesV E) := by
  rw [hs]
  unfold namesV lStr
  rw [List.map_map]; rfl
 have hnl : (namesV E).length = E.length := by
  unfold namesV
  rw [List.length_map, (sortS_perm _).length_eq, List.length_map]
 rw [hn]
 simp only [go_sem]
 refine awp_lst (namesV E) (fun o r => o ++ r.map (varAt E)) (fun k o => o.length = k) (fun k o => [(5, .mapr 0), (7, .sl (some 5) (lVariable o)), (18, .sl none (lStr (namesV E))), (19, .int .i64 (namesV E).length), (20, .int .i64 k)]) (fun k o => some (mapc (entA E)) :: some (mapc (entN E)) :: (g ++ [some [.mapr 0]])) [] (by omega) rfl rfl rfl ?_ ?_
 ·intro k o y ys hdd hy hI hF h0 h1 hw
  have hkl := drop_len hdd
  simp only [go_sem, h0, h1, hw, lStr_get hy]
  refine lkpK_ent (kt := 9) (et := 134) (z := .agg (Variable.z.cf (some 1))) (fun e => .agg e.v.c) E y false ?_ ?_ ?_ rfl hd ?_
  ·first | simp only [go_sem] | kernel_rfl
  ·first | simp only [go_sem] | kernel_rfl
  ·first | simp only [go_sem] | kernel_rfl
  have hv : lkres false (.agg (Variable.z.cf (some 1))) ((vFind E y).map fun e => (0, .agg e.v.c)) = .agg (varAt E y).c := by
   unfold varAt
   cases vFind E y <;> rfl
  rw [hv]
  simp only [go_sem, h0, h1, hw]
  exact ⟨by omega, by omega, o ++ [varAt E y], by simp, by simp [hI], rfl, rfl⟩
 ·intro o hI hF
  simp only [go_sem, Int.lt_irrefl, decide_false]
  have hF : varsOf E = o := by simpa [varsOf] using hF
  rw [hF]
theorem eqI_refl (a : List Int) : eqI a a = true := by simp [eqI]
theorem c_sameVar (x : Variable) : PCall Tryz.prog 91 [.agg x.c, .agg x.c] (.bool true) := by
 refine pC h91_k rfl ?_
 simp only [Tryz.f91, go_sem]
 repeat' (first
  | (refine pK (c_eqI _ _) ?_; simp only [go_sem, eqI_refl])
  | ((first | refine cS ?_ ?_ | refine gS ?_ ?_) <;> (intro hc; simp only [go_sem, hc, eqI_refl])))
 all_goals first
  | (simp; done)
  | (exfalso; simp at hc; done)
  | (exfalso; simp_all; done)
  | skip
theorem c_sameVars (l : List Variable) : PCall Tryz.prog 39 [.sl none (lVariable l), .sl none (lVariable l)] (.bool true) := by
 refine PCall.fit h39_k.c fun hf => ?_
 have hl := pfits hf
 rw [lVariable_len] at hl
 refine pC h39_k rfl ?_
 have hne : ((l.length : Int) != (l.length : Int)) = false := by simp
 simp only [Tryz.f39, go_sem, hne]
 refine awp_all l (fun _ => ()) (fun k => [(0, .sl none (lVariable l)), (1, .sl none (lVariable l)), (5, .int .i64 k)]) hl rfl ?_ ?_
 ·intro k x xs hd hx hF h0 h1 hw
  simp only [go_sem, h0, h1, hw, lVariable_get hx]
  repeat' (first
   | (refine pK (c_sameVar _) ?_; simp only [go_sem, h0, h1, hw, lVariable_get hx])
   | ((first | refine cS ?_ ?_ | refine gS ?_ ?_) <;> (intro hc; simp only [go_sem, hc, h0, h1, hw, lVariable_get hx])))
  all_goals skip
 ·intro hF hlt
  simp only [go_sem, hlt, decide_false]
end Go.AI
namespace Go.AI
open Go.Proofs
set_option maxRecDepth 50000
theorem right_kinds {s : Setup} {t : Tenant} (h : rightT s t = true) : ∀ x ∈ t.program, x.step.kind ≠ 0 -> (1 <= x.step.kind /\ x.step.kind <= 6) /\ x.step.key.length <= 1073741824 := fun x hx hk => by
 have := ckS_kind ((ckT_0 (right_fits h).2).2.1 x hx).2 hk
 exact ⟨this.1, by omega⟩
theorem step_kinds {p q : List Stage} (hst : p.map (·.step) = q.map (·.step)) {C : Stp -> Prop} (h : ∀ x ∈ q, C x.step) : ∀ x ∈ p, C x.step := fun x hx => by
 have : x.step ∈ p.map (·.step) := List.mem_map.2 ⟨x, hx, rfl⟩
 rw [hst] at this
 obtain ⟨y, hy, he⟩ := List.mem_map.1 this
 rw [<- he]; exact h y hy
theorem bulk_stage (x : Stage) : bulkL x.c = bulkL x.policy.c + bulkL x.step.c := by
 have : x.c = x.policy.c ++ x.step.c := rfl
 rw [this, bulkL_append]
theorem bk_closed2 (t : Tenant) (p : Policy) (hw : t.wires.length <= 64) : bulkL (bClosed t p).c <= 2 * bulkL p.c + 5000 := by
 unfold bClosed
 split
 ·omega
 ·have h1 := bk_wired t
  have h2 := bk_wires t
  rw [bk_seq, bk_seq, bk_star, bk_seq, bk_filter, bk_not]
  omega
theorem bk_whole (t : Tenant) (hw : t.wires.length <= 64) : ∀ l : List Stage, bulkL (lStage (l.map fun x => { x with policy := bClosed t x.policy })) <= 2 * bulkL (lStage l) + l.length * 5000
 | [] => by simp [lStage, bulkL]
 | x :: l => by
  have ih := bk_whole t hw l
  have h1 := bk_closed2 t x.policy hw
  have h2 := bulk_stage x
  have h3 := bulk_stage { x with policy := bClosed t x.policy }
  unfold lStage at ih ⊢
  simp only [List.map_cons, bulkL, AV.bulk, List.length_cons] at ih ⊢
  dsimp only at h3
  omega
theorem right_lens {s : Setup} {t : Tenant} (h : rightT s t = true) : t.wires.length <= 64 /\ t.ports.length <= 64 /\ ckF s.fields = 0 := by
 unfold rightT at h
 simp only [Bool.and_eq_true, beq_iff_eq] at h
 obtain ⟨_, _, _, hF, h1⟩ := h
 unfold ck18 at h1
 split at h1
 ·cases h1
 ·exact ⟨by omega, by omega, hF⟩
theorem right_len7 {t : Tenant} (hb : bulkL t.c <= 1048576) : t.wires.length <= 1048576 /\ t.program.length <= 1048576 /\ t.ports.length <= 1048576 /\ ∀ x ∈ t.program, bulkL x.policy.c <= 1048576 := by
 refine ⟨lWire_bn (Tenant.bl_wires hb), lStage_bn (Tenant.bl_program hb), lPort_bn (Tenant.bl_ports hb), fun x hx => ?_⟩
 have := lStage_bk (Tenant.bl_program hb) hx
 exact Stage.bs_policy (by simpa only [AV.bulk] using this)
set_option maxHeartbeats 4000000 in
theorem c_law7 (hsan : PCall Tryz.prog 9 [] (.bool true)) (s : Setup) (t : Tenant) (hs : bulkL s.c <= 1048576) (hb : bulkL t.c <= 1048576) : PCall Tryz.prog 7 [.agg s.c, .agg t.c] (.bool true) := by
 cases hr : rightT s t with
 | false =>
  refine pC h7_k rfl ?_
  simp only [Tryz.f7, go_sem]
  repeat' (first
   | ((first | refine pK (hsan) ?_ | refine pK (c_rightT _ _ (by omega) (by omega)) ?_); simp only [go_sem, hr])
   | ((first | refine cS ?_ ?_ | refine gS ?_ ?_) <;> (intro hc; simp only [go_sem, hc, hr])))
 | true =>
  obtain ⟨l1, l2, l3, l4⟩ := right_len7 hb
  obtain ⟨hwl, hpl, hF⟩ := right_lens hr
  obtain ⟨hw, hT⟩ := right_fits hr
  have hok := ckF_pos hF
  have hfl : s.fields.length <= 1073741824 := Nat.le_trans (lFld_bn (Setup.bl_fields hs)) (by decide)
  have hcl : ∀ x ∈ t.program, bulkL (bClosed t x.policy).c <= 1073741824 := fun x hx => bk_closed (l4 x hx) l1
  have hcl2 : ∀ x ∈ ({ t with wires := [] } : Tenant).program, bulkL (bClosed { t with wires := [] } x.policy).c <= 1073741824 := fun x hx => bk_closed (t := { t with wires := [] }) (l4 x hx) (by simp)
  have hP := p_Whole t (by omega) (by omega) hcl
  have hP2 := p_Whole { t with wires := [] } (by simp) (by show t.program.length <= _; omega) hcl2
  rw [plain_whole hT] at hP2
  obtain ⟨E, hE⟩ := Option.isSome_iff_exists.1 (ckT_0 hT).2.2.2
  have hV := p_Variables s.fields (by omega) t.program (Nat.le_trans (Tenant.bl_program hb) (by decide)) (right_kinds hr) E hE
  have b1 : ((2 : Int) != 0) = true := by decide
  have b2 : ((2 : Int) == 2) = true := by decide
  have b3 : ((0 : Int) != 0) = false := by decide
  have b4 : (((0 : Nat) : Int) == 0) = true := by decide
  rcases whole_fits hw hT with ⟨g1, g2, g3⟩ | ⟨g1, g2, g3⟩
  ·rw [g1, g2] at hP
   refine pC h7_k rfl ?_
   simp only [Tryz.f7, go_sem]
   have b5 : decide ((0 : Int) < (t.wires.length : Int)) = true := by
    cases h : t.wires with
    | nil => exact absurd h g3
    | cons _ _ => simp
   repeat' (first
    | ((first | refine pK (hsan) ?_ | refine pK (c_rightT _ _ (by omega) (by omega)) ?_ | refine pK (hP) ?_ | refine pK (hP2) ?_ | refine pK (c_eqGr _) ?_); simp only [go_sem, hr, b1, b2, b3, b4, b5])
    | ((first | refine cS ?_ ?_ | refine gS ?_ ?_) <;> (intro hc; simp only [go_sem, hc, hr, b1, b2, b3, b4, b5])))
  ·rw [g1] at hP
   have hlen : (bWhole t).1.length = t.program.length := by have := congrArg List.length g3; simpa using this
   have hbw : bulkL (lStage (bWhole t).1) <= 1048576000 := by
    rcases wholeGo_spec t t.program [] with ⟨q1, _⟩ | ⟨_, q2, _⟩
    ·have : (bWhole t).2 = 2 := q1
     rw [g1] at this; cases this
    ·have q2 : (bWhole t).1 = _ := q2
     rw [q2, List.nil_append]
     have h9 := bk_whole t hwl t.program
     have h8 := Tenant.bl_program hb
     have h7 := (ckT_0 hT).1
     omega
   have hV2 := p_Variables s.fields (by omega) (bWhole t).1 hbw (step_kinds (C := fun st => st.kind ≠ 0 -> (1 <= st.kind /\ st.kind <= 6) /\ st.key.length <= 1073741824) g3 (right_kinds hr)) E (by rw [vGo_steps _ _ _ [] g3]; exact hE)
   have hTP := p_tProgram s.fields (by omega) hok (bWhole t).1 (by omega)
   rw [g2] at hTP
   refine pC h7_k rfl ?_
   simp only [Tryz.f7, go_sem]
   have b6 : (((bWhole t).1.length : Int) != (t.program.length : Int)) = false := by rw [hlen]; simp
   repeat' (first
    | ((first | refine pK (hsan) ?_ | refine pK (c_rightT _ _ (by omega) (by omega)) ?_ | refine pK (hP) ?_ | refine pK (hP2) ?_ | refine pK (c_eqGr _) ?_ | refine pK (hTP) ?_); simp only [go_sem, hr, b3, b6])
    | ((first | refine cS ?_ ?_ | refine gS ?_ ?_) <;> (intro hc; simp only [go_sem, hc, hr, b3, b6])))
   refine awp_all (bWhole t).1 (fun _ => ()) (fun k => [(2, .ptr 0 0), (3, .ptr 1 0), (5, .bool true), (6, .sl none (lStage (bWhole t).1)), (11, .int .i64 k)]) (by omega) rfl ?_ ?_
   ·intro k x xs hd hx hF2 h0 h1 hw2
    obtain ⟨y, hy, he⟩ : ∃ y, t.program[k]? = some y /\ y.step = x.step := by
     have h5 : ((bWhole t).1.map (·.step))[k]? = some x.step := by rw [List.getElem?_map, hx]; rfl
     rw [g3, List.getElem?_map] at h5
     cases h6 : t.program[k]? with
     | none => rw [h6] at h5; cases h5
     | some y => rw [h6] at h5; exact ⟨y, rfl, by simpa using h5⟩
    have h1' : (k : Int) < (t.program.length : Int) := by omega
    simp only [go_sem, h0, h1, hw2, h1', lStage_get hx, lStage_get hy]
    repeat' (first
     | (refine pK (c_eqS _ _) ?_; simp only [go_sem, h0, h1, hw2, h1', lStage_get hx, lStage_get hy, he, eqS_refl])
     | ((first | refine cS ?_ ?_ | refine gS ?_ ?_) <;> (intro hc; simp only [go_sem, hc, h0, h1, hw2, h1', lStage_get hx, lStage_get hy, he, eqS_refl])))
    all_goals skip
   ·intro hF2 hlt
    simp only [go_sem, hlt, decide_false]
    repeat' (first
     | ((first | refine pK (hV) ?_ | refine pK (hV2) ?_ | refine pK (c_sameVars _) ?_); simp only [go_sem])
     | ((first | refine cS ?_ ?_ | refine gS ?_ ?_) <;> (intro hc; simp only [go_sem, hc])))
    all_goals skip
end Go.AI
