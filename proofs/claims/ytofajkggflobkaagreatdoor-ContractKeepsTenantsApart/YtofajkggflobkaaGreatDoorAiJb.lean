/- Keys of maps, maps' entries: what is found, what an update makes of them. -/
import Derived.Test.YtofajkggflobkaaGreatDoorAiJ
import Derived.MapKept
import Derived.DeepKeys5
set_option linter.unusedSimpArgs false
set_option linter.unusedVariables false
namespace Go.AI
open Go.MapKept
def keyV : AV -> Option Value
 | .agg cs => if cs.all (fun c => (litV c).isSome) = true then some (.agg (cs.map fun c => (litV c).getD Go.undef).toArray) else none
 | c => litV c
def keyEq1 : AV -> AV -> Bool
 | .int k n,.int k' n' => decide (k = k') && decide (n = n')
 | .str a,.str b => decide (a = b)
 | .bool a,.bool b => a == b
 | _,_ => false
def keyEqL : List AV -> List AV -> Bool
 | [],[] => true
 | a :: as,b :: bs => keyEq1 a b && keyEqL as bs
 | _,_ => false
def keyEq : AV -> AV -> Bool
 | .agg as,.agg bs => keyEqL as bs
 | a,b => keyEq1 a b
theorem keyEq1_iff {a b : AV} {x y : Value} (ha : litV a = some x) (hb : litV b = some y) : keyEq1 a b = true ↔ x = y:=by
 cases a <;> cases ha <;> cases b <;> cases hb <;> simp [keyEq1]
theorem keyEqL_iff : ∀ {as bs : List AV},as.all (fun c => (litV c).isSome) = true -> bs.all (fun c => (litV c).isSome) = true ->
  (keyEqL as bs = true ↔ as.map (fun c => (litV c).getD Go.undef) = bs.map (fun c => (litV c).getD Go.undef))
 | [],[],_,_ => by simp [keyEqL]
 | [],_ :: _,_,_ => by simp [keyEqL]
 | _ :: _,[],_,_ => by simp [keyEqL]
 | a :: as,b :: bs,ha,hb => by
  simp only [List.all_cons,Bool.and_eq_true] at ha hb
  obtain ⟨x,hx⟩:=Option.isSome_iff_exists.1 ha.1
  obtain ⟨y,hy⟩:=Option.isSome_iff_exists.1 hb.1
  simp only [keyEqL,Bool.and_eq_true,List.map_cons,List.cons.injEq,keyEqL_iff ha.2 hb.2,keyEq1_iff hx hy,hx,hy,Option.getD_some]
theorem keyV_lit {a : AV} (h : ∀ cs,a ≠ .agg cs) : keyV a = litV a:=by cases a <;> first | rfl | exact absurd rfl (h _)
theorem keyEq_iff {a b : AV} {x y : Value} (ha : keyV a = some x) (hb : keyV b = some y) : keyEq a b = true ↔ x = y:=by
 have agg : ∀ {cs : List AV} {z : Value},keyV (.agg cs) = some z -> cs.all (fun c => (litV c).isSome) = true /\ z = .agg (cs.map fun c => (litV c).getD Go.undef).toArray:=fun h => by
  simp only [keyV] at h
  split at h
  ·rename_i hh; cases h; exact ⟨hh,rfl⟩
  ·cases h
 by_cases h1 : ∃ cs,a = .agg cs
 ·obtain ⟨cs,rfl⟩:=h1
  obtain ⟨g1,rfl⟩:=agg ha
  by_cases h2 : ∃ ds,b = .agg ds
  ·obtain ⟨ds,rfl⟩:=h2
   obtain ⟨g2,rfl⟩:=agg hb
   simp only [keyEq,keyEqL_iff g1 g2,Value.agg.injEq]
   exact ⟨fun h => by rw [h],fun h => by simpa using congrArg Array.toList h⟩
  ·rw [keyV_lit (fun cs h => h2 ⟨cs,h⟩)] at hb
   cases b <;> cases hb <;> simp [keyEq,keyEq1]
 ·rw [keyV_lit (fun cs h => h1 ⟨cs,h⟩)] at ha
  by_cases h2 : ∃ ds,b = .agg ds
  ·obtain ⟨ds,rfl⟩:=h2
   obtain ⟨g2,rfl⟩:=agg hb
   cases a <;> cases ha <;> simp [keyEq,keyEq1]
  ·rw [keyV_lit (fun cs h => h2 ⟨cs,h⟩)] at hb
   have : keyEq a b = keyEq1 a b:=by cases a <;> first | rfl | exact absurd ⟨_,rfl⟩ h1
   rw [this]; exact keyEq1_iff ha hb
theorem litV_rel {G : Gh} {w : World} {a : AV} {x v : Value} (ha : litV a = some x) (h : VRel G w a v) : v = x:=by
 cases a <;> cases ha <;> cases h <;> rfl
theorem keyV_rel {G : Gh} {w : World} {a : AV} {x v : Value} (ha : keyV a = some x) (h : VRel G w a v) : v = x:=by
 by_cases h1 : ∃ cs,a = .agg cs
 ·obtain ⟨cs,rfl⟩:=h1
  cases h with
  | agg cs vs hl hs hr =>
   simp only [keyV] at ha
   split at ha
   ·rename_i hh
    cases ha
    congr 1
    apply Array.ext'
    apply List.ext_getElem?
    intro i
    simp only [List.getElem?_map]
    cases hc : cs[i]? with
    | none =>
     have : cs.length <= i:=List.getElem?_eq_none_iff.1 hc
     simp only [Option.map_none]
     exact List.getElem?_eq_none (by simpa [<- hl] using this)
    | some c =>
     have hlt:=(List.getElem?_eq_some_iff.1 hc).1
     have hv : vs[i]? = some (vs[i]'(by omega)):=Array.getElem?_eq_getElem _
     have hlc:=List.all_eq_true.1 hh c (List.mem_of_getElem? hc)
     obtain ⟨y,hy⟩:=Option.isSome_iff_exists.1 hlc
     rw [Array.getElem?_toList,hv,Option.map_some,hy]
     exact congrArg some (litV_rel hy (hr i c _ hc hv))
   ·cases ha
 ·rw [keyV_lit (fun cs h => h1 ⟨cs,h⟩)] at ha
  exact litV_rel ha h
theorem keyV_val {a : AV} {x : Value} (ha : keyV a = some x) : a.isVal = true:=by
 cases a <;> first | rfl | cases ha
structure KLaw (P : Program) (kt : TypeId) (D : Value -> Prop) : Prop where
 check : ∀ (w : World) (em : Bool) {v : Value},D v -> (Instr.checkKey em 10000 kt v).run P w = .ok () w
 find : ∀ (w : World) {x : Value},D x -> ∀ es : List MapEntry,(∀ e ∈ es,D e.key) ->
  ((Instr.findKey kt x es).run P w = .ok none w /\ ∀ e ∈ es,e.key ≠ x) \/ ∃ j e,(Instr.findKey kt x es).run P w = .ok (some (j,e.val)) w /\ es[j]? = some e /\ e.key = x
 stays : ∀ (w : World) {v : Value},D v -> (Instr.keyThatStays v v).run P w = .ok v w
theorem KLaw.plain {P : Program} {kt : TypeId} {d : TypeDesc} (hd : P.underlying kt = some d) : KLaw P kt (IsKey d) where
 check w em _ hv:=run_checkKey hd hv em 9999
 find w x hx es hes:=by
  rcases findNow_spec hx es 0 hes with ⟨h1,h2⟩ | ⟨j,e0,h1,h2,h3⟩
  ·exact .inl ⟨run_findKey hd h1,h2⟩
  ·exact .inr ⟨j,e0,by simpa using run_findKey hd h1,h2,h3⟩
 stays w _ hv:=run_keyThatStays hv
theorem KLaw.wide {P : Program} {kt : TypeId} (K : WideMaps.KeyLaw P kt) : KLaw P kt (fun v => ∃ l,keyOf P kt v = some l) where
 check w em _ hv:=K.check w em hv.choose_spec
 find w x hx es hes:=K.find w hx.choose_spec es hes
 stays w _ hv:=K.stays w hv.choose_spec
def keysIn (P : Program) (kt : TypeId) (ks : List AV) : Prop:=∃ D : Value -> Prop,KLaw P kt D /\ ∀ a ∈ ks,∃ v,keyV a = some v /\ D v
def afind (k : AV) : List (AV × AV) -> Nat -> Option (Nat × AV)
 | [],_ => none
 | p :: es,i => if keyEq p.1 k = true then some (i,p.2) else afind k es (i + 1)
def distK (es : List (AV × AV)) : Prop:=es.Pairwise fun p q => keyEq p.1 q.1 = false
def mapUpd (es : List (AV × AV)) (k v : AV) : List (AV × AV) :=
 match afind k es 0 with
 | some (i,_) => es.set i (k,v)
 | none => es ++ [(k,v)]
def pairs : List AV -> Option (List (AV × AV))
 | [] => some []
 | [_] => none
 | a :: b :: r => (pairs r).map ((a,b) :: ·)
def unmapc : List AV -> Option (List (AV × AV))
 | [.tup vs] => pairs vs
 | _ => none
theorem pairs_flat : ∀ es : List (AV × AV),pairs (es.flatMap fun p => [p.1,p.2]) = some es
 | [] => rfl
 | p :: es => by simp [pairs,pairs_flat es]
theorem unmapc_mapc (es : List (AV × AV)) : unmapc (mapc es) = some es:=pairs_flat es
def mapOf (H : Heap) : AV -> Option (List (AV × AV))
 | .nilm => some []
 | .mapr o => match H[o]? with
  | some (some cs) => unmapc cs
  | _ => none
 | _ => none
def lkres (ok : Bool) (z : AV) : Option (Nat × AV) -> AV
 | some (_,v) => if ok = true then .tup [v.borrow,.bool true] else v.borrow
 | none => if ok = true then .tup [z.borrow,.bool false] else z.borrow
theorem afind_none {k : AV} : ∀ {es : List (AV × AV)} {i : Nat},(∀ p ∈ es,keyEq p.1 k = false) -> afind k es i = none
 | [],_,_ => rfl
 | p :: es,i,h => by
  unfold afind
  rw [if_neg (by rw [h p (by simp)]; simp)]
  exact afind_none fun q hq => h q (by simp [hq])
theorem afind_at {k : AV} : ∀ {es : List (AV × AV)} {i j : Nat} {p : AV × AV},es[j]? = some p -> keyEq p.1 k = true -> (∀ (l : Nat) (q : AV × AV),es[l]? = some q -> l < j -> keyEq q.1 k = false) -> afind k es i = some (i + j,p.2)
 | [],_,_,_,h,_,_ => by simp at h
 | q :: es,i,0,p,h,hk,_ => by
  simp only [List.getElem?_cons_zero,Option.some.injEq] at h
  subst h
  unfold afind
  rw [if_pos hk]; rfl
 | q :: es,i,j + 1,p,h,hk,hb => by
  unfold afind
  rw [if_neg (by rw [hb 0 q rfl (by omega)]; simp),afind_at (by simpa using h) hk fun l q' hl hlt => hb (l + 1) q' (by simpa using hl) (by omega)]
  rw [Nat.add_assoc,Nat.add_comm 1 j]
end Go.AI
