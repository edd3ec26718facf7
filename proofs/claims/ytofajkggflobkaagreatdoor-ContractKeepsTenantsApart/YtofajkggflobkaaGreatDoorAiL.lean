/- That the model's operations do what 'ares' says: those that leave memory alone. -/
import Derived.Test.YtofajkggflobkaaGreatDoorAiK
set_option linter.unusedSimpArgs false
set_option linter.unusedVariables false
namespace Go.AI
section
variable {P : Program} {F : Nat -> Prop} {G : Gh} {w : World} {H : Heap} {R : AV -> Heap -> Prop} {ρ : Operand -> Value}
theorem OpRes.value {K : Value -> World -> Prop} {r : Result Next} {u : Value} {w' : World} (hr : r = .ok (.value u) w') (h : K u w') : OpRes P r K:=by subst hr; exact h
theorem KOut.same {v : AV} {u : Value} (h : CRel F G [v] H [u] w) (hR : R v H) : KOut F G w R u w:=⟨v,H,G,hR,h,.refl F G w⟩
theorem ok_pick {c a b : Operand} {cv : Bool} {x y : AV} (h : CRel F G [.bool cv,x,y] H [ρ c,ρ a,ρ b] w) (hr : R (if cv = true then x else y) H) :
  OpRes P ((do pure (Next.value (if <- asBool (ρ c) then ρ a else ρ b)) : Sem Next).run P w) (KOut F G w R):=by
 have hcv:=h.l.rel 0 _ _ rfl rfl
 generalize ρ c = cu at *
 cases hcv
 cases cv
 ·exact .value (by simp [asBool]) (KOut.same (h.get (i:=2) rfl rfl) hr)
 ·exact .value (by simp [asBool]) (KOut.same (h.get (i:=1) rfl rfl) hr)
theorem ok_nilCheck_ptr {x : Value} {ob off : Nat} (h : CRel F G [.ptr ob off] H [x] w) (hr : R (.ptr ob off) H) : ∃ a,x = .pointer (some a) /\ KOut F G w R x w:=by
 have hx:=h.l.rel 0 _ _ rfl rfl
 cases hx
 exact ⟨_,rfl,.same h hr⟩
theorem ok_nilCheck_cptr {x : Value} {cs : List AV} {off : Nat} (h : CRel F G [.cptr cs off] H [x] w) (hr : R (.cptr cs off) H) : ∃ a,x = .pointer (some a) /\ KOut F G w R x w:=by
 have hx:=h.l.rel 0 _ _ rfl rfl
 cases hx
 exact ⟨_,rfl,.same h hr⟩
theorem run_equalIn_nil_left (d : Nat) {t e : TypeId} (a : Option Addr) (h : P.underlying t = some (.pointer e)) : (Op.equalIn (d + 1) t (.pointer none) (.pointer a)).run P w = .ok a.isNone w:=by
 simp [Op.equalIn,run_underlying h]
theorem run_equalIn_nil_right (d : Nat) {t e : TypeId} (a : Addr) (h : P.underlying t = some (.pointer e)) : (Op.equalIn (d + 1) t (.pointer (some a)) (.pointer none)).run P w = .ok false w:=by
 simp [Op.equalIn,run_underlying h]
theorem run_eq_nil_left {t e : TypeId} (a : Option Addr) (h : P.underlying t = some (.pointer e)) : (Op.equal t (.pointer none) (.pointer a)).run P w = .ok a.isNone w:=run_equalIn_nil_left 9999 a h
theorem run_eq_nil_right {t e : TypeId} (a : Addr) (h : P.underlying t = some (.pointer e)) : (Op.equal t (.pointer (some a)) (.pointer none)).run P w = .ok false w:=run_equalIn_nil_right 9999 a h
theorem ok_unOp_neg {k : IntKind} {n : Int} {x : Value} (h : CRel F G [.int k n] H [x] w) (hr : R (.int k (k.wrap (0 - n))) H) :
  OpRes P ((do let v <- Op.unary .neg x; pure (Next.value v) : Sem Next).run P w) (KOut F G w R):=by
 have hx:=h.l.rel 0 _ _ rfl rfl
 cases hx
 exact .value (by simp [Op.unary,Op.intArith]) (KOut.plain h hr (.int _ _) (toks_scalar rfl rfl _))
theorem ok_unOp_not {b : Bool} {x : Value} (h : CRel F G [.bool b] H [x] w) (hr : R (.bool !b) H) :
  OpRes P ((do let v <- Op.unary .not x; pure (Next.value v) : Sem Next).run P w) (KOut F G w R):=by
 have hx:=h.l.rel 0 _ _ rfl rfl
 cases hx
 exact .value (by simp [Op.unary]) (KOut.plain h hr (.bool _) (toks_scalar rfl rfl _))
theorem ok_convert_int {src dst : TypeId} {d : TypeDesc} {k k' : IntKind} {n : Int} {x : Value} (h : CRel F G [.int k' n] H [x] w) (hs : P.underlying src = some d) (hd : P.underlying dst = some (.int k)) (hr : R (.int k (k.wrap n)) H) :
  OpRes P ((do let v <- convert src dst x; pure (Next.value v) : Sem Next).run P w) (KOut F G w R):=by
 have hx:=h.l.rel 0 _ _ rfl rfl
 cases hx
 exact .value (by simp [convert,run_underlying hs,run_underlying hd,Conv.intToInt]) (KOut.plain h hr (.int _ _) (toks_scalar rfl rfl _))
theorem ok_convert_str {src dst : TypeId} {d : TypeDesc} {s : ByteArray} {x : Value} (h : CRel F G [.str s] H [x] w) (hs : P.underlying src = some d) (hd : P.underlying dst = some .string) (hr : R (.str s) H) :
  OpRes P ((do let v <- convert src dst x; pure (Next.value v) : Sem Next).run P w) (KOut F G w R):=by
 have hx:=h.l.rel 0 _ _ rfl rfl
 cases hx
 exact .value (by simp [convert,run_underlying hs,run_underlying hd]) (KOut.plain h hr (.str _) (toks_scalar rfl rfl _))
theorem ok_makeFunc {fn : Fn} {first captured : List Operand} {vs : List AV} (h : CRel F G vs H ((first ++ captured).map ρ) w) (hr : R (.fn fn (vs.take first.length) (vs.drop first.length)) H) :
  OpRes P ((do let v <- Instr.makeFunc fn (first.map ρ).toArray (captured.map ρ).toArray; pure (Next.value v) : Sem Next).run P w) (KOut F G w R):=by
 have hl:=h.l.len
 simp only [List.length_map,List.length_append] at hl
 refine .value (u:=.func fn (first.map ρ).toArray (captured.map ρ).toArray) (w':=w) (by simp [Instr.makeFunc]) (KOut.plain h hr (.fn fn _ _ _ _ (by simp; omega) (by simp; omega) (fun i c v hc hv => ?_) (fun i c v hc hv => ?_)) (toks_fn _ _ _ _))
 ·rw [List.getElem?_take] at hc
  split at hc
  ·rename_i hi
   refine h.l.rel i c v hc ?_
   rw [List.map_append,List.getElem?_append_left (by simpa using hi)]
   simpa using hv
  ·cases hc
 ·rw [List.getElem?_drop] at hc
  refine h.l.rel _ c v hc ?_
  rw [List.map_append,List.getElem?_append_right (by simp)]
  simpa using hv
theorem val_shape {v : AV} {u : Value} (hv : v.isVal = true) (h : VRel G w v u) : v.flat = v.cells /\ vflat u = u.cells.toList /\ v.cells.length = u.cells.size:=by
 cases h <;> first | exact ⟨rfl,rfl,rfl⟩ | exact ⟨rfl,rfl,‹_›⟩ | cases hv
theorem prs_val {v : AV} {u : Value} (hv : v.isVal = true) (h : VRel G w v u) : prs v u = v.cells.zip u.cells.toList:=by
 obtain ⟨h1,h2,_⟩:=val_shape hv h
 rw [prs,h1,h2]
theorem ok_extract {vs : List AV} {i : Nat} {x : Value} {v : AV} (h : CRel F G [.tup vs] H [x] w) (hi : vs[i]? = some v) (hr : R v H) :
  OpRes P ((do let r <- Instr.extract x i; pure (Next.value r) : Sem Next).run P w) (KOut F G w R):=by
 have hx:=h.l.rel 0 _ _ rfl rfl
 have ht:=h.l.tok 0 _ _ rfl rfl
 cases hx with
 | tup vs us hl hs hr' =>
  have hlt:=(List.getElem?_eq_some_iff.1 hi).1
  have hu : us[i]? = some (us[i]'(by omega)):=Array.getElem?_eq_getElem _
  have hv:=hr' i v _ hi hu
  have hval : v.isVal = true:=hs v (List.mem_of_getElem? hi)
  have hcells : ∀ (j : Nat) (c : AV) (d : Value),vs[j]? = some c -> us[j]? = some d -> c.cells.length = d.cells.size:=by
   intro j c d h1 h2
   exact (val_shape (hs c (List.mem_of_getElem? h1)) (hr' j c d h1 h2)).2.2
  have hsub : ∃ pre post,prs (.tup vs) (.tuple us) = pre ++ (prs v us[i] ++ post):=by
   have e1 : vs = vs.take i ++ v :: vs.drop (i + 1):=by
    have : vs[i] = v:=by rw [List.getElem?_eq_getElem hlt] at hi; exact Option.some.inj hi
    rw [<- this,<- List.drop_eq_getElem_cons hlt,List.take_append_drop]
   have hlt2 : i < us.toList.length:=by simp; omega
   have e2 : us.toList = us.toList.take i ++ us.toList[i] :: us.toList.drop (i + 1):=by
    rw [<- List.drop_eq_getElem_cons hlt2,List.take_append_drop]
   have hlen : ∀ n,((vs.take n).flatMap AV.cells).length = ((us.toList.take n).flatMap fun v => v.cells.toList).length:=by
    intro n
    induction n with
    | zero => rfl
    | succ n ih =>
     by_cases hn : n < vs.length
     ·have hn2 : n < us.toList.length:=by simp; omega
      rw [List.take_succ_eq_append_getElem hn,List.take_succ_eq_append_getElem hn2]
      simp only [List.flatMap_append,List.length_append,ih,List.flatMap_cons,List.flatMap_nil,List.append_nil]
      have:=hcells n vs[n] us[n] (List.getElem?_eq_getElem hn) (Array.getElem?_eq_getElem (by omega))
      simp only [Array.getElem_toList,Array.length_toList]
      omega
     ·rw [List.take_of_length_le (by omega),List.take_of_length_le (by simp; omega)]
      rw [List.take_of_length_le (by omega),List.take_of_length_le (by simp; omega)] at ih
      exact ih
   refine ⟨((vs.take i).flatMap AV.cells).zip ((us.toList.take i).flatMap fun v => v.cells.toList),((vs.drop (i + 1)).flatMap AV.cells).zip ((us.toList.drop (i + 1)).flatMap fun v => v.cells.toList), ?_⟩
   have hci : v.cells.length = us.toList[i].cells.toList.length:=by
    have:=hcells i v us[i] hi hu
    simpa using this
   rw [prs_val hval hv]
   show (vs.flatMap AV.cells).zip (us.toList.flatMap fun v => v.cells.toList) = _
   conv => lhs; rw [e1,e2]
   simp only [List.flatMap_append,List.flatMap_cons]
   rw [List.zip_append (hlen i),List.zip_append hci]
   simp only [Array.getElem_toList]
  obtain ⟨pre,post,hsub⟩:=hsub
  refine .value (u:=us[i]) (w':=w) (by simp [Instr.extract,hu]) (KOut.same (h.one hv (fun p hp => ht p (by rw [hsub]; simp [hp])) fun b => ?_) hr)
  rw [tcnt_cons]
  unfold toks
  rw [hsub]
  simp only [List.filterMap_append,List.count_append]
  omega
end
end Go.AI
