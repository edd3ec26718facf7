/- That the model's operations do what 'ares' says: addresses, parts, loads, stores, new objects. -/
import Derived.Test.YtofajkggflobkaaGreatDoorAiL
set_option linter.unusedSimpArgs false
set_option linter.unusedVariables false
namespace Go.AI
section
variable {P : Program} {F : Nat -> Prop} {G : Gh} {w : World} {H : Heap} {R : AV -> Heap -> Prop}
theorem run_sizeOf_pos {t : TypeId} (h : 0 < P.cellsOf t) (w : World) : (sizeOf t).run P w = .ok (P.cellsOf t) w:=by
 unfold Program.cellsOf at h ⊢
 cases hi : P.info? t with
 | none => rw [hi] at h; simp at h
 | some i => simp [sizeOf,typeInfo,hi]
theorem addr_add_mk (b q k : Nat) : (⟨b,q,none⟩ : Addr).add k = ⟨b,q + k,none⟩:=addr_add b q k
theorem run_fieldPlace {fd : Field} (h : 0 < P.cellsOf fd.type) (b q : Nat) (w : World) : (fieldPlace ⟨b,q,none⟩ fd).run P w = .ok ⟨b,q + fd.offset,none⟩ w:=by
 simp only [fieldPlace,Sem.run_bind,run_sizeOf_pos h,Result.andThen_ok,Sem.run_ite]
 rw [if_neg (by omega)]
 simp [addr_add_mk]
theorem ok_fieldAddr {s f : Nat} {fs : Array Field} {fd : Field} {x : AV} {u : Value} (h : CRel F G [x] H [u] w) (hu : P.underlying s = some (.struct fs)) (hf : fs[f]? = some fd) (hz : 0 < P.cellsOf fd.type)
  (hr : match (generalizing:=false) x with
    | .ptr ob off => R (.ptr ob (off + fd.offset)) H
    | .cptr cs off => R (.cptr cs (off + fd.offset)) H
    | _ => False) :
  OpRes P ((do let r <- Instr.fieldAt s u f; pure (Next.value r) : Sem Next).run P w) (KOut F G w R):=by
 have hx:=h.l.rel 0 _ _ rfl rfl
 have run : ∀ b q,(Instr.fieldAt s (.pointer (some ⟨b,q,none⟩)) f).run P w = .ok (.pointer (some ⟨b,q + fd.offset,none⟩)) w:=fun b q => by
  simp [Instr.fieldAt,run_underlying hu,hf,Instr.sureAddr,run_fieldPlace hz]
 cases hx with
 | ptr o off b hb hbc => exact .value (by rw [Sem.run_bind,run]; rfl) (KOut.plain h hr (.ptr _ _ b hb hbc) (toks_scalar rfl rfl _))
 | cptr cs off b q u' h1 h2 => exact .value (by rw [Sem.run_bind,run]; rfl) (KOut.plain h hr (by rw [Nat.add_assoc]; exact .cptr cs _ b q u' h1 h2) (toks_scalar rfl rfl _))
 | _ => exact hr.elim
theorem part_sem {t : TypeId} {cs : List AV} {vs : Array Value} {off : Nat} {v : AV} (hc : Cells F G w cs vs.toList) (hl : ldv P t cs off = some v) :
  ∃ u,(part t vs off).run P w = .ok u w /\ VRel G w v u /\ v.isVal = true /\ v.cells = (cs.drop off).take v.cells.length /\ u.cells.toList = (vs.toList.drop off).take v.cells.length /\ off + v.cells.length <= cs.length:=by
 have hlen:=hc.len
 have agg : (isAgg t).run P w = .ok true w -> ∀ d,P.underlying t = some d -> off + P.cellsOf t <= cs.length -> v = .agg ((cs.drop off).take (P.cellsOf t)) ->
   ∃ u,(part t vs off).run P w = .ok u w /\ VRel G w v u /\ v.isVal = true /\ v.cells = (cs.drop off).take v.cells.length /\ u.cells.toList = (vs.toList.drop off).take v.cells.length /\ off + v.cells.length <= cs.length:=by
  intro ha d hu hle hv
  subst hv
  have hk : ((cs.drop off).take (P.cellsOf t)).length = P.cellsOf t:=by simp; omega
  have e : (vs.extract off (off + P.cellsOf t)) = ((vs.toList.drop off).take (P.cellsOf t)).toArray:=by
   apply Array.ext'
   simp [Array.toList_extract,List.extract_eq_take_drop]
  refine ⟨.agg (vs.extract off (off + P.cellsOf t)), ?_, ?_,rfl, ?_, ?_, ?_⟩
  ·simp [part,ha,run_sizeOf hu]
  ·rw [e]
   exact (agg_of ((hc.drop off).take (P.cellsOf t))).1
  ·simp only [AV.cells,hk]
  ·simp only [AV.cells,Value.cells,hk,e]
  ·simp only [AV.cells,hk]; exact hle
 unfold ldv at hl
 split at hl
 ·rename_i fs hu
  split at hl
  ·cases hl; exact agg (by simp [isAgg,run_underlying hu]) _ hu ‹_› rfl
  ·cases hl
 ·rename_i n e hu
  split at hl
  ·cases hl; exact agg (by simp [isAgg,run_underlying hu]) _ hu ‹_› rfl
  ·cases hl
 ·rename_i d hns hna hu
  have hagg : (isAgg t).run P w = .ok false w:=by
   simp only [isAgg,Sem.run_bind,run_underlying hu,Result.andThen_ok]
   cases d <;> first | rfl | exact absurd hu (hns _) | exact absurd hu (hna _ _)
  have hlt:=(List.getElem?_eq_some_iff.1 hl).1
  have hv : vs[off]? = some (vs[off]'(by simp at hlen; omega)):=Array.getElem?_eq_getElem _
  obtain ⟨s1,s2,_⟩:=hc.at_ off v _ hl (by rw [Array.getElem?_toList]; exact hv)
  have hcells : v.cells = [v]:=by cases v <;> first | rfl | cases s1
  have hdrop : (cs.drop off).take 1 = [v]:=by
   rw [List.drop_eq_getElem_cons hlt]
   have : cs[off] = v:=by rw [List.getElem?_eq_getElem hlt] at hl; exact Option.some.inj hl
   simp [this]
  have hdropv : (vs.toList.drop off).take 1 = [vs[off]'(by simp at hlen; omega)]:=by
   have hlt2 : off < vs.toList.length:=by simp at hlen ⊢; omega
   rw [List.drop_eq_getElem_cons hlt2]
   simp
  have hucells : (vs[off]'(by simp at hlen; omega)).cells.toList = [vs[off]'(by simp at hlen; omega)]:=by
   generalize vs[off]'(by simp at hlen; omega) = u at *
   cases s2 <;> first | rfl | cases s1
  have hisv : v.isVal = true:=by cases v <;> first | rfl | cases s1
  refine ⟨vs[off]'(by simp at hlen; omega), ?_,s2,hisv, ?_, ?_, ?_⟩
  ·simp [part,hagg,hv]
  ·rw [hcells,List.length_singleton,hdrop]
  ·rw [hcells,List.length_singleton,hdropv,hucells]
  ·rw [hcells]; exact hlt
 ·cases hl
theorem part_out {t : TypeId} {cs : List AV} {vs : Array Value} {off : Nat} {v : AV} (h : CRel F G [.agg cs] H [.agg vs] w) (hl : ldv P t cs off = some v) (hr : R v H) :
  OpRes P ((do let r <- part t vs off; pure (Next.value r) : Sem Next).run P w) (KOut F G w R):=by
 have hx:=h.l.rel 0 _ _ rfl rfl
 have ht:=h.l.tok 0 _ _ rfl rfl
 obtain ⟨hc',htk⟩:=cells_of rfl hx ht
 have hc : Cells F G w cs vs.toList:=hc'
 obtain ⟨u,hrun,hv,hval,e1,e2,hle⟩:=part_sem (P:=P) hc hl
 have hsub : ∀ p ∈ v.cells.zip u.cells.toList,p ∈ prs (.agg cs) (.agg vs):=by
  intro p hp
  rw [e1,e2] at hp
  obtain ⟨i,hi⟩:=List.getElem?_of_mem hp
  rw [List.getElem?_zip_eq_some] at hi
  obtain ⟨h1,h2⟩:=hi
  rw [List.getElem?_take] at h1 h2
  split at h1
  ·rename_i hlt
   rw [if_pos hlt] at h2
   rw [List.getElem?_drop] at h1 h2
   refine List.mem_of_getElem? (i:=off + i) ?_
   simp only [prs,AV.flat,AV.cells,vflat,Value.cells]
   rw [List.getElem?_zip_eq_some]
   exact ⟨h1,h2⟩
  ·cases h1
 refine .value (u:=u) (w':=w) (by rw [Sem.run_bind,hrun]; rfl) (KOut.same (h.one hv (fun p hp => ht p (hsub p (by rw [<- prs_val hval hv]; exact hp))) fun b => ?_) hr)
 rw [tcnt_cons,tcnt_nil,htk]
 have e3 : toks v u = ctoks ((cs.drop off).take v.cells.length) ((vs.toList.drop off).take v.cells.length):=by
  unfold toks ctoks
  rw [prs_val hval hv,<- e1,<- e2]
 rw [e3]
 show _ <= List.count b (ctoks cs vs.toList) + 0
 rw [ctoks_parts cs vs.toList off v.cells.length hc.len]
 simp only [List.count_append]
 omega
theorem ok_field {t f : Nat} {fs : Array Field} {fd : Field} {cs : List AV} {u : Value} {v : AV} (h : CRel F G [.agg cs] H [u] w) (hu : P.underlying t = some (.struct fs)) (hf : fs[f]? = some fd) (hl : ldv P fd.type cs fd.offset = some v) (hr : R v H) :
  OpRes P ((do let r <- Instr.field t u f; pure (Next.value r) : Sem Next).run P w) (KOut F G w R):=by
 have hx:=h.l.rel 0 _ _ rfl rfl
 cases hx with
 | agg cs vs hl' hs hr' =>
  have e : (do let r <- Instr.field t (.agg vs) f; pure (Next.value r) : Sem Next).run P w = (do let r <- part fd.type vs fd.offset; pure (Next.value r) : Sem Next).run P w:=by
   simp only [Instr.field,Sem.run_bind,run_underlying hu,Result.andThen_ok,hf,asAgg,Sem.run_pure]
  rw [e]
  exact part_out h hl hr
theorem ok_index_agg {t e n : Nat} {cs : List AV} {k : IntKind} {i : Int} {u x : Value} {v : AV} (h : CRel F G [.agg cs,.int k i] H [u,x] w) (hu : P.underlying t = some (.array n e)) (h0 : 0 <= i) (hn : i < n) (hz : 0 < P.cellsOf e)
  (hl : ldv P e cs (i.toNat * P.cellsOf e) = some v) (hr : R v H) :
  OpRes P ((do let r <- Instr.index t u x; pure (Next.value r) : Sem Next).run P w) (KOut F G w R):=by
 have hx:=h.l.rel 0 _ _ rfl rfl
 have hi:=h.l.rel 1 _ _ rfl rfl
 have h1:=h.get (i:=0) rfl rfl
 cases hi
 cases hx with
 | agg cs vs hl' hs hr' =>
  have e : (do let r <- Instr.index t (.agg vs) (.int k i); pure (Next.value r) : Sem Next).run P w = (do let r <- part e vs (i.toNat * P.cellsOf e); pure (Next.value r) : Sem Next).run P w:=by
   simp only [Instr.index,asIntOf,Sem.run_bind,run_underlying hu,Result.andThen_ok,Sem.run_pure,Sem.run_ite,if_pos (show 0 <= i /\ i < (n : Int) from ⟨h0,hn⟩),run_sizeOf_pos hz]
  rw [e]
  exact part_out h1 hl hr
theorem ok_index_str {t : Nat} {s : ByteArray} {k : IntKind} {i : Int} {u x : Value} (h : CRel F G [.str s,.int k i] H [u,x] w) (hu : P.underlying t = some .string) (h0 : 0 <= i) (hn : i < s.size)
  (hr : R (.int .u8 ((s.data[i.toNat]?).getD 0).toNat) H) :
  OpRes P ((do let r <- Instr.index t u x; pure (Next.value r) : Sem Next).run P w) (KOut F G w R):=by
 have hx:=h.l.rel 0 _ _ rfl rfl
 have hi:=h.l.rel 1 _ _ rfl rfl
 cases hi; cases hx
 have hlt : i.toNat < s.size:=by omega
 have hb : s[i.toNat]? = some s[i.toNat]:=getElem?_pos s i.toNat hlt
 have hd : (s.data[i.toNat]?).getD 0 = s[i.toNat]:=by
  have : i.toNat < s.data.size:=hlt
  rw [Array.getElem?_eq_getElem this]; rfl
 rw [hd] at hr
 refine .value (u:=.int .u8 s[i.toNat].toNat) (w':=w) ?_ (KOut.plain h hr (.int _ _) (toks_scalar rfl rfl _))
 simp only [Instr.index,asIntOf,Sem.run_bind,run_underlying hu,Result.andThen_ok,Sem.run_pure,if_pos h0,hb]
theorem ok_indexAddr_sl {t e : Nat} {own : Option Nat} {es : List AV} {k : IntKind} {i : Int} {u x : Value} {v : AV} (h : CRel F G [.sl own es,.int k i] H [u,x] w) (hu : P.underlying t = some (.slice e)) (h0 : 0 <= i) (hi : es[i.toNat]? = some v)
  (hv : v.cells.length = P.cellsOf e) (hz : 0 < P.cellsOf e) (hr : R (.cptr v.cells 0) H) :
  OpRes P ((do let r <- Instr.indexAt t u x; pure (Next.value r) : Sem Next).run P w) (KOut F G w R):=by
 have hx:=h.l.rel 0 _ _ rfl rfl
 have hk:=h.l.rel 1 _ _ rfl rfl
 cases hk
 have hlt:=(List.getElem?_eq_some_iff.1 hi).1
 cases hx with
 | slnil own => simp at hi
 | slany own a => simp at hi
 | sl own es sz b q cap f hsz hown hl hm hcs hus =>
  have hszv : sz = P.cellsOf e:=by rw [<- hv]; exact (hsz v (List.mem_of_getElem? hi)).symm
  subst hszv
  have hcl : ∀ n,n <= es.length -> (cat (es.take n)).length = n * P.cellsOf e:=fun n hn => by
   rw [cat_length (n:=P.cellsOf e) fun x hx => hsz x (List.mem_of_mem_take hx),List.length_take,Nat.min_eq_left hn]
  have hcat : ∀ (j : Nat) (c : AV),v.cells[j]? = some c -> (cat es)[i.toNat * P.cellsOf e + j]? = some c:=by
   intro j c hj
   have e1 : es = es.take i.toNat ++ v :: es.drop (i.toNat + 1):=by
    have : es[i.toNat] = v:=by rw [List.getElem?_eq_getElem hlt] at hi; exact Option.some.inj hi
    rw [<- this,<- List.drop_eq_getElem_cons hlt,List.take_append_drop]
   rw [e1,cat_append,List.getElem?_append_right (by rw [hcl _ (by omega)]; omega),hcl _ (by omega),Nat.add_sub_cancel_left]
   simp only [cat,List.flatMap_cons]
   rw [List.getElem?_append_left (List.getElem?_eq_some_iff.1 hj).1]
   exact hj
  refine .value (u:=.pointer (some ⟨b,q + i.toNat * P.cellsOf e + 0,none⟩)) (w':=w) ?_ (KOut.plain h hr (.cptr v.cells 0 b (q + i.toNat * P.cellsOf e) (fun j => f (i.toNat * P.cellsOf e + j)) (fun j c hj => ?_) (fun j c hj => ?_)) (toks_scalar rfl rfl _))
  ·have hc : 0 <= i /\ i < (es.length : Int):=⟨h0,by omega⟩
   simp only [Instr.indexAt,asIntOf,Sem.run_bind,run_underlying hu,Result.andThen_ok,Sem.run_pure,Sem.run_ite,if_pos hc,run_sizeOf_pos hz,addr_add_mk,Nat.add_zero]
  ·have:=hcs _ c (hcat j c hj)
   rw [<- Nat.add_assoc] at this
   exact this
  ·exact hus _ c (hcat j c hj)
theorem ok_indexAddr_msl {t e : Nat} {ob off len sz : Nat} {k : IntKind} {i : Int} {u x : Value} (h : CRel F G [.msl ob off len sz,.int k i] H [u,x] w) (hu : P.underlying t = some (.slice e)) (h0 : 0 <= i) (hi : i < len)
  (hs : sz = P.cellsOf e) (hz : 0 < sz) (hr : R (.ptr ob (off + i.toNat * sz)) H) :
  OpRes P ((do let r <- Instr.indexAt t u x; pure (Next.value r) : Sem Next).run P w) (KOut F G w R):=by
 have hx:=h.l.rel 0 _ _ rfl rfl
 have hk:=h.l.rel 1 _ _ rfl rfl
 cases hk
 subst hs
 cases hx with
 | msl _ _ _ _ b cap hb hl hm hc =>
  obtain ⟨C0,E0,hC0,_⟩:=hc
  refine .value (u:=.pointer (some ⟨b,off + i.toNat * P.cellsOf e,none⟩)) (w':=w) ?_ (KOut.plain h hr (.ptr _ _ b hb ⟨C0,E0,hC0⟩) (toks_scalar rfl rfl _))
  have hc : 0 <= i /\ i < (len : Int):=⟨h0,by omega⟩
  simp only [Instr.indexAt,asIntOf,Sem.run_bind,run_underlying hu,Result.andThen_ok,Sem.run_pure,Sem.run_ite,if_pos hc,run_sizeOf_pos hz,addr_add_mk]
theorem ok_indexAddr_arr {t e n : Nat} {p : AV} {k : IntKind} {i : Int} {u x : Value} (h : CRel F G [p,.int k i] H [u,x] w) (hu : P.underlying t = some (.array n e)) (h0 : 0 <= i) (hi : i < n) (hz : 0 < P.cellsOf e)
  (hr : match (generalizing:=false) p with
   | .ptr ob off => R (.ptr ob (off + i.toNat * P.cellsOf e)) H
   | .cptr cs off => R (.cptr cs (off + i.toNat * P.cellsOf e)) H
   | _ => False) :
  OpRes P ((do let r <- Instr.indexAt t u x; pure (Next.value r) : Sem Next).run P w) (KOut F G w R):=by
 have hx:=h.l.rel 0 _ _ rfl rfl
 have hk:=h.l.rel 1 _ _ rfl rfl
 cases hk
 have hc : 0 <= i /\ i < (n : Int):=⟨h0,hi⟩
 have run : ∀ b q,(Instr.indexAt t (.pointer (some ⟨b,q,none⟩)) (.int k i)).run P w = .ok (.pointer (some ⟨b,q + i.toNat * P.cellsOf e,none⟩)) w:=fun b q => by
  simp only [Instr.indexAt,asIntOf,Sem.run_bind,run_underlying hu,Result.andThen_ok,Sem.run_pure,Instr.sureAddr,Sem.run_ite,if_pos hc,run_sizeOf_pos hz,addr_add_mk]
 cases hx with
 | ptr o off b hb hbc => exact .value (by rw [Sem.run_bind,run]; rfl) (KOut.plain h hr (.ptr _ _ b hb hbc) (toks_scalar rfl rfl _))
 | cptr cs off b q u' h1 h2 => exact .value (by rw [Sem.run_bind,run]; rfl) (KOut.plain h hr (by rw [Nat.add_assoc]; exact .cptr cs _ b q u' h1 h2) (toks_scalar rfl rfl _))
 | _ => exact hr.elim
end
end Go.AI
