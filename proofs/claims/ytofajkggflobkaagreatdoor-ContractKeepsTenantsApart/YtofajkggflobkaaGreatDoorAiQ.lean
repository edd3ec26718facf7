/- That the model's operations do what 'ares' says: slices of slices and strings, appends, calls; all operations together. -/
import Derived.Test.YtofajkggflobkaaGreatDoorAiP
set_option linter.unusedSimpArgs false
set_option linter.unusedVariables false
namespace Go.AI
section
variable {P : Program} {F : Nat -> Prop} {G : Gh} {w : World} {H : Heap} {R : AV -> Heap -> Prop}
theorem run_sliceBound {k : IntKind} {i : Int} {y : Nat} {code : BoundsCode} (h0 : 0 <= i) (h1 : i <= y) (w : World) : (Instr.sliceBound (.int k i) y code).run P w = .ok i.toNat w:=by
 simp only [Instr.sliceBound,asIntOf,Sem.run_bind,Sem.run_pure,Result.andThen_ok,Sem.run_ite]
 rw [if_pos ⟨h0,h1⟩]
inductive OptB : Option Value -> Option Int -> Prop where
 | none : OptB none none
 | some (k : IntKind) (i : Int) : OptB (some (.int k i)) (some i)
theorem run_sliceBounds {isSlice : Bool} {len cap : Nat} {lo hi mx : Option Value} {l h m : Option Int} (hl : OptB lo l) (hh : OptB hi h) (hm : OptB mx m) (hx : m.isSome = true -> h.isSome = true)
  (h0 : 0 <= l.getD 0) (h1 : l.getD 0 <= h.getD len) (h2 : h.getD len <= m.getD cap) (h3 : m.getD cap <= cap) (w : World) :
  (Instr.sliceBounds isSlice len cap lo hi mx).run P w = .ok ((l.getD 0).toNat,(h.getD len).toNat,(m.getD cap).toNat) w:=by
 cases hm with
 | none =>
  cases hh with
  | none =>
   cases hl with
   | none => simp [Instr.sliceBounds]
   | some k i =>
    simp only [Option.getD_some,Option.getD_none] at *
    simp [Instr.sliceBounds,run_sliceBound h0 h1]
  | some kh ih =>
   simp only [Option.getD_some,Option.getD_none] at *
   have g:=run_sliceBound (P:=P) (k:=kh) (i:=ih) (y:=cap) (code:=if isSlice then .sliceAcap else .sliceAlen) (by omega) (by omega) w
   cases hl with
   | none => simp [Instr.sliceBounds,g]
   | some k i =>
    simp only [Option.getD_some] at *
    have g2:=run_sliceBound (P:=P) (k:=k) (i:=i) (y:=ih.toNat) (code:=.sliceB) (by omega) (by omega) w
    simp [Instr.sliceBounds,g,g2]
 | some km im =>
  cases hh with
  | none => simp at hx
  | some kh ih =>
   simp only [Option.getD_some] at *
   have g:=run_sliceBound (P:=P) (k:=km) (i:=im) (y:=cap) (code:=if isSlice then .slice3Acap else .slice3Alen) (by omega) (by omega) w
   have g1:=run_sliceBound (P:=P) (k:=kh) (i:=ih) (y:=im.toNat) (code:=.slice3B) (by omega) (by omega) w
   cases hl with
   | none => simp [Instr.sliceBounds,g,g1]
   | some k i =>
    simp only [Option.getD_some] at *
    have g2:=run_sliceBound (P:=P) (k:=k) (i:=i) (y:=ih.toNat) (code:=.slice3C) (by omega) (by omega) w
    simp [Instr.sliceBounds,g,g1,g2]
theorem VRel.stretch {own : Option Nat} {es : List AV} {b q cap n : Nat} (h : VRel G w (.sl own es) (.slice (some ⟨b,q,none⟩) es.length cap)) (hn : ∀ x ∈ es,x.cells.length = n) {l k m : Nat} (hlk : l <= k) (hk : k <= es.length) (hkm : k <= m) (hm : m <= cap)
  (own' : Option Nat) (ho : ∀ x,own' = some x -> x = n /\ 0 < x) :
  VRel G w (.sl own' ((es.take k).drop l)) (.slice (some (if m = l then ⟨b,q,none⟩ else (⟨b,q,none⟩ : Addr).add (l * n))) (k - l) (m - l)):=by
 have hlen : ((es.take k).drop l).length = k - l:=by simp; omega
 cases h with
 | slany =>
  have h1 : k = 0:=by simpa using hk
  have h2 : m = 0:=by omega
  have h3 : l = 0:=by omega
  subst h1; subst h2; subst h3
  simpa using VRel.slany own' ⟨b,q,none⟩
 | sl _ _ sz _ _ _ u hsz hown hl hmx hcs hus =>
  have hn' : ∀ x ∈ (es.take k).drop l,x.cells.length = n:=fun x hx => hn x (List.mem_of_mem_take (List.mem_of_mem_drop hx))
  have hcat : ∀ (i : Nat) (c : AV),(cat ((es.take k).drop l))[i]? = some c -> (cat es)[l * n + i]? = some c:=by
   intro i c hi
   have e1 : es = es.take l ++ ((es.take k).drop l ++ es.drop k):=by
    have : (es.take k).take l = es.take l:=by rw [List.take_take,Nat.min_eq_left hlk]
    rw [<- this,<- List.append_assoc,List.take_append_drop,List.take_append_drop]
   have e2 : (cat (es.take l)).length = l * n:=by
    rw [cat_length (n:=n) fun x hx => hn x (List.mem_of_mem_take hx),List.length_take,Nat.min_eq_left (by omega)]
   rw [e1,cat_append,List.getElem?_append_right (by omega),e2,Nat.add_sub_cancel_left,cat_append,List.getElem?_append_left (List.getElem?_eq_some_iff.1 hi).1]
   exact hi
  by_cases hml : m = l
  ·have hkl : k = l:=by omega
   have hnil : (es.take k).drop l = []:=List.eq_nil_of_length_eq_zero (by omega)
   rw [if_pos hml,hnil,show k - l = ([] : List AV).length by simp; omega]
   exact .sl own' [] n b q (m - l) u (fun e he => by simp at he) ho (by simp) (by omega) (fun i c hi => by simp [cat] at hi) (fun i c hi => by simp [cat] at hi)
  ·rw [if_neg hml,addr_add]
   have:=VRel.sl (G:=G) (w:=w) own' ((es.take k).drop l) n b (q + l * n) (m - l) (fun i => u (l * n + i)) hn' ho (by omega) (by omega) (fun i c hi => by
     have:=hcs _ c (hcat i c hi)
     rw [<- Nat.add_assoc] at this
     exact this) (fun i c hi => hus _ c (hcat i c hi))
   rw [hlen] at this
   exact this
theorem ok_slice_msl {t e ob off len sz : Nat} {u : Value} {rest : List AV} {urest : List Value} {lo hi mx : Option Value} {l h : Option Int} (hc : CRel F G (.msl ob off len sz :: rest) H (u :: urest) w) (hu : P.underlying t = some (.slice e))
  (hl : OptB lo l) (hh : OptB hi h) (hm : OptB mx none)
  (h0 : 0 <= l.getD 0) (h1 : l.getD 0 <= h.getD len) (h2 : h.getD len <= len) (hs : sz = P.cellsOf e) (hz : ∃ i,P.info? e = some i) (h3 : l.getD 0 = 0 \/ l.getD 0 < len)
  (hr : R (.msl ob (off + (l.getD 0).toNat * sz) ((h.getD len).toNat - (l.getD 0).toNat) sz) H) :
  OpRes P ((do let r <- Instr.sliceAt t u lo hi mx; pure (Next.value r) : Sem Next).run P w) (KOut F G w R):=by
 have hrel:=hc.l.rel 0 _ _ rfl rfl
 obtain ⟨i,hi'⟩:=hz
 have hsize : ∀ w,(sizeOf e).run P w = .ok (P.cellsOf e) w:=fun w => by simp [sizeOf,typeInfo,hi',Program.cellsOf]
 cases hrel with
 | msl _ _ _ _ b cap hob hlc hmx hrow =>
  obtain ⟨C,E,hrow,hfit⟩:=hrow
  have hb:=run_sliceBounds (P:=P) (isSlice:=true) (len:=len) (cap:=cap) hl hh hm (fun h => by cases h) h0 h1 (by simp only [Option.getD_none]; omega) (by simp) w
  have hrun : (Instr.sliceAt t (.slice (some ⟨b,off,none⟩) len cap) lo hi mx).run P w = .ok (.slice (some ⟨b,off + (l.getD 0).toNat * sz,none⟩) ((h.getD len).toNat - (l.getD 0).toNat) (cap - (l.getD 0).toNat)) w:=by
   simp only [Instr.sliceAt,Instr.slice,Sem.run_bind,run_underlying hu,Result.andThen_ok,hb,hsize,Option.getD_none,Int.toNat_natCast]
   subst hs
   by_cases hcl : cap = (l.getD 0).toNat
   ·have e0 : (l.getD 0).toNat = 0:=by omega
    rw [if_pos hcl,e0]; simp
   ·rw [if_neg hcl]
    simp [addr_add]
  have hmul : cap * sz = (l.getD 0).toNat * sz + (cap - (l.getD 0).toNat) * sz:=by
   rw [<- Nat.add_mul]; congr 1; omega
  exact .value (by rw [Sem.run_bind,hrun]; rfl) (KOut.plain hc hr (.msl _ _ _ _ b _ hob (by omega) (by omega) ⟨C,E,hrow,by omega⟩) (toks_scalar rfl rfl _))
theorem ok_slice_sl {t e : Nat} {own : Option Nat} {es : List AV} {u : Value} {rest : List AV} {urest : List Value} {lo hi mx : Option Value} {l h m : Option Int} (hc : CRel F G (.sl own es :: rest) H (u :: urest) w) (hu : P.underlying t = some (.slice e))
  (hl : OptB lo l) (hh : OptB hi h) (hm : OptB mx m) (hx : m.isSome = true -> h.isSome = true)
  (h0 : 0 <= l.getD 0) (h1 : l.getD 0 <= h.getD es.length) (h2 : h.getD es.length <= es.length) (hn : ∀ x ∈ es,x.cells.length = P.cellsOf e)
  (hr : match (generalizing:=false) m with
   | none => R (.sl (if h.getD es.length = es.length then own else none) ((es.take (h.getD es.length).toNat).drop (l.getD 0).toNat)) H
   | some m => m = h.getD es.length /\ 0 < P.cellsOf e /\ R (.sl (some (P.cellsOf e)) ((es.take (h.getD es.length).toNat).drop (l.getD 0).toNat)) H) (hz : ∃ i,P.info? e = some i) :
  OpRes P ((do let r <- Instr.sliceAt t u lo hi mx; pure (Next.value r) : Sem Next).run P w) (KOut F G w R):=by
 have hrel:=hc.l.rel 0 _ _ rfl rfl
 have htok:=hc.l.tok 0 _ _ rfl rfl
 obtain ⟨i,hi'⟩:=hz
 have hsize : ∀ w,(sizeOf e).run P w = .ok (P.cellsOf e) w:=fun w => by simp [sizeOf,typeInfo,hi',Program.cellsOf]
 have hown : ∀ x,own = some x -> es ≠ [] -> x = P.cellsOf e /\ 0 < x:=by
  intro x hx hne
  cases hrel with
  | slnil => exact absurd rfl hne
  | slany => exact absurd rfl hne
  | sl _ _ sz b q cap f hsz hown' _ _ _ _ =>
   obtain ⟨y,ys,rfl⟩:=List.exists_cons_of_ne_nil hne
   exact ⟨by rw [(hown' x hx).1,<- hsz y (by simp),hn y (by simp)],(hown' x hx).2⟩
 have run : ∀ (a : Option Addr) (cap : Nat),es.length <= cap -> (Instr.sliceAt t (.slice a es.length cap) lo hi mx).run P w =
   .ok (.slice (if (m.getD cap).toNat = (l.getD 0).toNat then a else a.map (·.add ((l.getD 0).toNat * P.cellsOf e))) ((h.getD es.length).toNat - (l.getD 0).toNat) ((m.getD cap).toNat - (l.getD 0).toNat)) w:=by
  intro a cap hcap
  have hmc : h.getD es.length <= m.getD cap /\ m.getD cap <= cap:=by
   cases m with
   | none => simp only [Option.getD_none]; omega
   | some mm => simp only [Option.getD_some] at *; omega
  have hb:=run_sliceBounds (P:=P) (isSlice:=true) (len:=es.length) (cap:=cap) hl hh hm hx h0 h1 hmc.1 hmc.2 w
  simp only [Instr.sliceAt,Instr.slice,Sem.run_bind,run_underlying hu,Result.andThen_ok,hb,hsize]
  rfl
 cases hrel with
 | slnil own =>
  have e1 : (h.getD (([] : List AV).length : Int)).toNat = 0:=by simp at h1 h2 ⊢; omega
  have e2 : (l.getD 0).toNat = 0:=by simp at h1 h2; omega
  have e3 : (m.getD ((0 : Nat) : Int)).toNat = 0:=by
   cases m with
   | none => rfl
   | some mm => simp at hr h1 h2 ⊢; omega
  have hrun:=run none 0 (by simp)
  simp only [e1,e2,e3,List.length_nil] at hrun
  have hrun' : (Instr.sliceAt t (.slice none 0 0) lo hi mx).run P w = .ok (.slice none 0 0) w:=by
   have e4 : (h.getD 0).toNat = 0:=by simpa using e1
   simpa [e4] using hrun
  refine .value (u:=.slice none 0 0) (w':=w) (by rw [Sem.run_bind,hrun']; rfl) ?_
  cases m with
  | none => exact KOut.plain hc hr (by simp; exact .slnil _) (by simp [toks,prs,AV.flat,AV.cells,vflat,Value.cells,tok])
  | some mm => exact KOut.plain hc hr.2.2 (by simp; exact .slnil _) (by simp [toks,prs,AV.flat,AV.cells,vflat,Value.cells,tok])
 | slany own a =>
  have e1 : (h.getD (([] : List AV).length : Int)).toNat = 0:=by simp at h1 h2 ⊢; omega
  have e2 : (l.getD 0).toNat = 0:=by simp at h1 h2; omega
  have e3 : (m.getD ((0 : Nat) : Int)).toNat = 0:=by
   cases m with
   | none => rfl
   | some mm => simp at hr h1 h2 ⊢; omega
  have hrun:=run (some a) 0 (by simp)
  simp only [e1,e2,e3,List.length_nil] at hrun
  have hrun' : (Instr.sliceAt t (.slice (some a) 0 0) lo hi mx).run P w = .ok (.slice (some a) 0 0) w:=by
   have e4 : (h.getD 0).toNat = 0:=by simpa using e1
   simpa [e4] using hrun
  refine .value (u:=.slice (some a) 0 0) (w':=w) (by rw [Sem.run_bind,hrun']; rfl) ?_
  cases m with
  | none => exact KOut.plain hc hr (by simp; exact .slany _ _) (by by_cases hh : h.getD 0 = 0 <;> cases own <;> simp [hh,toks,prs,AV.flat,AV.cells,vflat,Value.cells,tok])
  | some mm => exact KOut.plain hc hr.2.2 (by simp; exact .slany _ _) (by simp [toks,prs,AV.flat,AV.cells,vflat,Value.cells,tok])
 | sl own es sz b q cap f hsz hown' hle hmx hcs hus =>
  have hrel : VRel G w (.sl own es) (.slice (some ⟨b,q,none⟩) es.length cap):=.sl own es sz b q cap f hsz hown' hle hmx hcs hus
  have hrun:=run (some ⟨b,q,none⟩) cap hle
  have hmc : h.getD es.length <= m.getD cap /\ m.getD cap <= cap:=by
   cases m with
   | none => simp only [Option.getD_none]; omega
   | some mm => simp only [Option.getD_some] at *; omega
  have eaddr : (if (m.getD cap).toNat = (l.getD 0).toNat then some (⟨b,q,none⟩ : Addr) else (some (⟨b,q,none⟩ : Addr)).map (·.add ((l.getD 0).toNat * P.cellsOf e))) =
    some (if (m.getD cap).toNat = (l.getD 0).toNat then ⟨b,q,none⟩ else (⟨b,q,none⟩ : Addr).add ((l.getD 0).toNat * P.cellsOf e)):=by split <;> rfl
  rw [eaddr] at hrun
  have hst : ∀ (own' : Option Nat),(∀ x,own' = some x -> x = P.cellsOf e /\ 0 < x) -> _:=fun own' ho =>
   hrel.stretch hn (l:=(l.getD 0).toNat) (k:=(h.getD es.length).toNat) (m:=(m.getD cap).toNat) (by omega) (by omega) (by omega) (by omega) own' ho
  refine .value (by rw [Sem.run_bind,hrun]; rfl) ?_
  cases m with
  | some mm =>
   obtain ⟨hmm,hp0,hr⟩:=hr
   have hv:=hst (some (P.cellsOf e)) fun x hx => by cases hx; exact ⟨rfl,hp0⟩
   refine KOut.plain hc hr hv ?_
   simp only [Option.getD_some,hmm] at hv ⊢
   simp [toks,prs,AV.flat,AV.cells,vflat,Value.cells,tok]
  | none =>
   simp only at hr
   by_cases hfull : h.getD es.length = es.length
   ·rw [if_pos hfull] at hr
    by_cases hes : es = []
    ·subst hes
     have e0 : (l.getD 0).toNat = 0:=by simp at h1 h2; omega
     have e1 : (h.getD (([] : List AV).length : Int)).toNat = 0:=by rw [hfull]; rfl
     simp only [e0,e1,Option.getD_none,List.take_nil,List.drop_nil,Nat.sub_zero,Nat.zero_mul] at hr ⊢
     have : (if (cap : Int).toNat = 0 then (⟨b,q,none⟩ : Addr) else (⟨b,q,none⟩ : Addr).add 0) = ⟨b,q,none⟩:=by split <;> simp [Addr.add]
     rw [this]
     exact KOut.same (hc.get (i:=0) rfl (by simp)) hr
    ·have hv:=hst own fun x hx => hown x hx hes
     refine KOut.same (hc.one hv (fun p hp => ?_) fun bb => ?_) hr
     ·rw [prs_sl _ _ _ _ _ _ rfl,List.mem_singleton] at hp
      subst hp
      cases own with
      | none => trivial
      | some n =>
       have hn' : n = P.cellsOf e:=(hown n rfl hes).1
       subst hn'
       intro hlt
       simp only [Option.getD_none,hfull,Int.toNat_natCast] at hlt ⊢
       obtain ⟨t1,t2,C,E,t3,t4⟩:=htok (.sl (some (P.cellsOf e)) es,.slice (some ⟨b,q,none⟩) es.length cap) (by rw [prs_sl _ _ _ _ _ _ rfl]; simp) (by omega)
       have hcl : ¬ cap = (l.getD 0).toNat:=by omega
       rw [if_neg hcl,addr_add]
       refine ⟨t1, ?_,C,E,t3, ?_⟩
       ·show G.kind b = _
        rw [t2]
        have hL : (l.getD 0).toNat <= es.length:=by omega
        have:=Nat.mul_le_mul_right (P.cellsOf e) hL
        rw [Nat.sub_mul]
        congr 1
        show q + _ = q + _ + _
        omega
       ·show q + _ + _ <= _
        have hL : (l.getD 0).toNat <= cap:=by omega
        have h5:=Nat.mul_le_mul_right (P.cellsOf e) hL
        rw [Nat.sub_mul]
        have h4 : q + cap * P.cellsOf e <= C.size:=t4
        omega
     ·rw [tcnt_cons]
      have hle2 : List.count bb (toks (AV.sl own ((es.take (h.getD es.length).toNat).drop (l.getD 0).toNat)) (Value.slice (some (if ((none : Option Int).getD cap).toNat = (l.getD 0).toNat then ⟨b,q,none⟩ else (⟨b,q,none⟩ : Addr).add ((l.getD 0).toNat * P.cellsOf e))) ((h.getD es.length).toNat - (l.getD 0).toNat) (((none : Option Int).getD cap).toNat - (l.getD 0).toNat)))
        <= List.count bb (toks (AV.sl own es) (Value.slice (some ⟨b,q,none⟩) es.length cap)):=by
       cases own with
       | none => rw [toks_scalar rfl rfl,toks_scalar rfl rfl]; exact Nat.le_refl _
       | some n =>
        simp only [toks,prs,AV.flat,AV.cells,vflat,Value.cells,List.zip_cons_cons,List.zip_nil_right,List.filterMap_cons,List.filterMap_nil,tok,Option.getD_none,hfull,Int.toNat_natCast]
        by_cases hlt : es.length < cap
        ·have hcl : ¬ cap = (l.getD 0).toNat:=by omega
         rw [if_pos hlt,if_neg hcl,if_pos (by omega),addr_add]
         exact Nat.le_refl _
        ·rw [if_neg hlt,if_neg (by omega)]
         exact Nat.le_refl _
      omega
   ·rw [if_neg hfull] at hr
    exact KOut.plain hc hr (hst none fun x hx => by cases hx) (toks_scalar rfl rfl _)
end
end Go.AI
