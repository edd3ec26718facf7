/- That the model's operations do what 'ares' says: an append to a new empty row whose outcome is a row that may be written. -/
import Derived.Test.YtofajkggflobkaaGreatDoorAiRb
set_option linter.unusedSimpArgs false
set_option linter.unusedVariables false
namespace Go.AI
section
variable {P : Program} {F : Nat -> Prop} {G : Gh} {w : World} {H : Heap} {vals : List AV} {us : List Value} {R : AV -> Heap -> Prop}
theorem VRel.msl_cells {ob off len sz b : Nat} {u : Value} (hv : VRel G w (.msl ob off len sz) u) (hb : G.obs[ob]? = some b) : ∃ (C : Array Value) (E : TypeId),w.heap[b]? = some (.cells C E (0,0)):=by
 generalize hx : AV.msl ob off len sz = x at hv
 cases hv <;> cases hx
 rename_i b0 cap hcap hob hlcap hcc
 rw [hb] at hob
 cases hob
 obtain ⟨C,E,h1,_⟩:=hcc
 exact ⟨C,E,h1⟩
theorem CRel.freeze (h : CRel F G vals H us w) {ob b : Nat} {cs : List AV} (ho : H[ob]? = some (some cs)) (hb : G.obs[ob]? = some b) (hbc : ∃ (C : Array Value) (E : TypeId),w.heap[b]? = some (.cells C E (0,0))) :
  CRel F (G.setKind b .imm) vals (H.set ob none) us w /\ Ext F G w (G.setKind b .imm) w:=by
 have hobj:=h.h.obj ob cs b ho hb
 have hkd : G.kind b = .obj:=(hobj.of_cells hbc.choose_spec.choose_spec).1
 have hk : Keeps G w (G.setKind b .imm) w:=⟨fun _ _ h => h,fun _ C _ h => ⟨C,h,rfl⟩,fun b' hb' hs => ⟨hb',G.kind_set_ne .imm (fun e => by rw [e,hkd] at hs; cases hs)⟩,fun b' o v hs hc => ⟨by
  by_cases e : b' = b
  ·subst e
   unfold Gh.safe at hs
   rw [hkd] at hs
   exact hs.elim
  ·exact (G.safe_set_ne .imm e).2 hs,hc⟩⟩
 have hE : ∀ F' : Nat -> Prop,(∀ b',F' b' -> b' ≠ b) -> Ext F' G w (G.setKind b .imm) w:=fun F' hF => ⟨Nat.le_refl _,hk,fun b' hb' => G.kind_set_ne .imm (hF b' hb'),fun _ _ => rfl,⟨rfl,rfl,rfl⟩⟩
 have hbuf : ∀ {p : AV × Value} {b' : Nat},TokOk F G w p -> tok p = some b' -> b' ≠ b:=fun {p b'} ht hb' e => by
  obtain ⟨_,⟨q,hq⟩,_⟩:=ht.of_tok hb'
  rw [e,hkd] at hq
  cases hq
 refine ⟨⟨h.l.ext (F':=fun b' => b' ≠ b) (hE _ fun _ h => h) (fun b' hp => ?_),⟨by rw [List.length_set]; exact h.h.len,fun o cs2 b2 h1 h2 => ?_,fun o o' cs2 cs3 b2 h1 h2 h3 h4 => ?_,h.h.fore,h.h.glob.keep hk⟩,fun b' => ?_⟩,hE F fun b' hF e => hobj.own (e ▸ hF)⟩
 ·obtain ⟨_,⟨q,hq⟩,_⟩:=h.l.tok_of_pos hp
  intro e
  rw [e,hkd] at hq
  cases hq
 ·have hne : o ≠ ob:=by
   rintro rfl
   rw [List.getElem?_set_self (by exact (List.getElem?_eq_some_iff.1 ho).1)] at h1
   cases h1
  rw [List.getElem?_set_ne (Ne.symm hne)] at h1
  have hbne : b2 ≠ b:=by
   rintro rfl
   exact hne (h.h.inj _ _ _ _ _ h1 ho h2 hb)
  exact (h.h.obj o cs2 b2 h1 h2).keep hk (h.h.obj o cs2 b2 h1 h2).own (G.kind_set_ne .imm hbne) rfl fun C E _ i c v hc hv s3 => s3.keep fun b' ht => ⟨(s3.of_tok ht).1,G.kind_set_ne .imm (hbuf s3 ht),rfl⟩
 ·have e1 : o ≠ ob:=by
   rintro rfl
   rw [List.getElem?_set_self (by exact (List.getElem?_eq_some_iff.1 ho).1)] at h1
   cases h1
  have e2 : o' ≠ ob:=by
   rintro rfl
   rw [List.getElem?_set_self (by exact (List.getElem?_eq_some_iff.1 ho).1)] at h2
   cases h2
  rw [List.getElem?_set_ne (Ne.symm e1)] at h1
  rw [List.getElem?_set_ne (Ne.symm e2)] at h2
  exact h.h.inj _ _ _ _ _ h1 h2 h3 h4
 ·have hle : hcnt (G.setKind b .imm) (H.set ob none) w b' <= hcnt G H w b':=by
   have hd:=(List.getElem?_eq_some_iff.1 ho).1
   have hs:=sum_range_one (n:=H.length) (f:=fun o => (otoks (G.setKind b .imm) (H.set ob none) w o).count b') (g:=fun o => (otoks G H w o).count b') hd fun o ho' hne => by
    unfold otoks
    rw [List.getElem?_set_ne (Ne.symm hne)]
    rfl
   have hz : (otoks (G.setKind b .imm) (H.set ob none) w ob) = []:=by
    unfold otoks
    rw [List.getElem?_set_self hd]
   simp only [hz,List.count_nil,Nat.add_zero] at hs
   unfold hcnt
   rw [List.length_set]
   omega
  have:=h.cnt b'
  omega
theorem CRel.moveObj (h : CRel F G vals H us w) {ob b : Nat} {cs : List AV} (ho : H[ob]? = some (some cs)) (hb : G.obs[ob]? = some b) :
  CRel F { G with obs:=G.obs ++ [b] } vals (H.set ob none ++ [some cs]) us w /\ Ext F G w { G with obs:=G.obs ++ [b] } w:=by
 have hlen:=h.h.len
 have hob:=(List.getElem?_eq_some_iff.1 ho).1
 have hk : Keeps G w { G with obs:=G.obs ++ [b] } w:=⟨fun o x hx => getElem?_append_some hx,fun _ C _ hC => ⟨C,hC,rfl⟩,fun _ hb' _ => ⟨hb',rfl⟩,fun b' o v hs hc => ⟨hs,hc⟩⟩
 have he : Ext F G w { G with obs:=G.obs ++ [b] } w:=⟨Nat.le_refl _,hk,fun _ _ => rfl,fun _ _ => rfl,⟨rfl,rfl,rfl⟩⟩
 have hat : ∀ (o b' : Nat) (cs' : List AV),(H.set ob none ++ [some cs])[o]? = some (some cs') -> (G.obs ++ [b])[o]? = some b' ->
   (o ≠ ob /\ o < H.length /\ H[o]? = some (some cs') /\ G.obs[o]? = some b') \/ (o = H.length /\ cs' = cs /\ b' = b):=by
  intro o b' cs' h1 h2
  have hlt:=(List.getElem?_eq_some_iff.1 h1).1
  simp only [List.length_append,List.length_set,List.length_cons,List.length_nil] at hlt
  by_cases hol : o < H.length
  ·rw [List.getElem?_append_left (by simpa using hol)] at h1
   rw [List.getElem?_append_left (by omega)] at h2
   have hne : o ≠ ob:=by
    rintro rfl
    rw [List.getElem?_set_self hob] at h1; cases h1
   rw [List.getElem?_set_ne (Ne.symm hne)] at h1
   exact .inl ⟨hne,hol,h1,h2⟩
  ·have : o = H.length:=by omega
   subst this
   rw [List.getElem?_append_right (by simp)] at h1
   rw [List.getElem?_append_right (by omega),hlen] at h2
   simp only [List.length_set,Nat.sub_self,List.getElem?_cons_zero,Option.some.injEq] at h1 h2
   exact .inr ⟨rfl,h1.symm,h2.symm⟩
 refine ⟨⟨⟨h.l.len,fun i a u h1 h2 => (h.l.rel i a u h1 h2).keep hk,fun i a u h1 h2 p hp => h.l.tok i a u h1 h2 p hp⟩,
  ⟨by simp [hlen],fun o cs' b' h1 h2 => ?_,fun o o' cs1 cs2 b' h1 h2 h3 h4 => ?_,h.h.fore,h.h.glob.same rfl⟩,fun x => ?_⟩,he⟩
 ·have lift2 : ∀ (cs : List AV) (b2 : Nat),ORel F G w cs b2 -> ORel F { G with obs:=G.obs ++ [b] } w cs b2:=fun cs b2 hor => by
   exact hor.keep hk hor.own rfl rfl fun _ _ _ _ _ _ _ _ s3 => s3
  rcases hat o b' cs' h1 h2 with ⟨_,_,g1,g2⟩ | ⟨rfl,rfl,rfl⟩
  ·exact lift2 _ _ (h.h.obj o cs' b' g1 g2)
  ·exact lift2 _ _ (h.h.obj ob _ _ ho hb)
 ·rcases hat o b' cs1 h1 h3 with ⟨n1,l1,g1,g2⟩ | ⟨rfl,_,rfl⟩ <;> rcases hat o' _ cs2 h2 h4 with ⟨n2,l2,g3,g4⟩ | ⟨rfl,_,hb2⟩
  ·exact h.h.inj _ _ _ _ _ g1 g3 g2 g4
  ·subst hb2; exact absurd (h.h.inj _ _ _ _ _ g1 ho g2 hb) n1
  ·exact absurd (h.h.inj _ _ _ _ _ g3 ho g4 hb) n2
  ·rfl
 ·have h0:=h.cnt x
  have e : hcnt { G with obs:=G.obs ++ [b] } (H.set ob none ++ [some cs]) w x = hcnt G H w x:=by
   unfold hcnt
   simp only [List.length_append,List.length_set,List.length_cons,List.length_nil,Nat.zero_add,List.range_succ,List.map_append,List.sum_append,List.map_cons,List.map_nil,List.sum_cons,List.sum_nil,Nat.add_zero]
   have enew : otoks { G with obs:=G.obs ++ [b] } (H.set ob none ++ [some cs]) w H.length = otoks G H w ob:=by
    unfold otoks
    rw [List.getElem?_append_right (by simp),List.getElem?_append_right (by omega),hlen,ho,hb]
    simp
   have eold : otoks { G with obs:=G.obs ++ [b] } (H.set ob none ++ [some cs]) w ob = []:=by
    unfold otoks
    rw [List.getElem?_append_left (by simpa using hob),List.getElem?_set_self hob]
   have hone:=sum_range_one (n:=H.length) (f:=fun o => (otoks { G with obs:=G.obs ++ [b] } (H.set ob none ++ [some cs]) w o).count x) (g:=fun o => (otoks G H w o).count x) hob fun o ho' hne => by
    show List.count x _ = List.count x _
    congr 1
    unfold otoks
    rw [List.getElem?_append_left (by simpa using ho'),List.getElem?_append_left (by omega),List.getElem?_set_ne (Ne.symm hne)]
   simp only [eold,List.count_nil,Nat.add_zero] at hone
   rw [enew]
   exact hone
  rw [e]; exact h0
theorem tok_nil_borrowed (cs : List AV) (vs : List Value) : (((cs.map borrow1).zip vs).filterMap tok) = []:=by
 rw [List.filterMap_eq_nil_iff]
 intro p hp
 have hm:=(List.of_mem_zip (show (p.1,p.2) ∈ (cs.map borrow1).zip vs from hp)).1
 obtain ⟨d,_,hd⟩:=List.mem_map.1 hm
 obtain ⟨p1,p2⟩:=p
 simp only at hd
 subst hd
 exact tok_borrow1 d p2
theorem ok_append_row {t e ty ob len sz : Nat} {sv : AV} {xs cs : List AV} {u v : Value} (hc : CRel F G [.msl ob 0 len sz,sv] H [u,v] w) (hx : Src G w (P.cellsOf e) xs v) (ho : H[ob]? = some (some cs)) (hu : P.underlying t = some (.slice e)) (hpos : 0 < P.cellsOf e)
  (hsz : sz = P.cellsOf e) (hcl0 : cs.length = len * sz) (hcb : cs.map borrow1 = cs) (hxs : ∀ x ∈ xs,x.cells.length = P.cellsOf e) (hz : zeroOk P e = true) (hb : (len + xs.length) * P.bytesOf e <= 140737488355328) (h63 : len + xs.length <= 9223372036854775807)
  (hr : R (.msl H.length 0 (len + xs.length) (P.cellsOf e)) (H.set ob none ++ [some (cs ++ (cat xs).map borrow1)])) :
  OpRes P ((do let r <- Builtin.append_ #[t,t] ty #[u,v]; pure (Next.value r) : Sem Next).run P w) (KOut F G w R):=by
 subst hsz
 have hs:=hc.l.rel 0 _ _ rfl rfl
 unfold zeroOk at hz
 split at hz
 case h_2 => cases hz
 rename_i i hi
 split at hz
 case h_2 => cases hz
 rename_i z hz'
 have hcz : z.cells.size = i.size:=by simpa using hz
 have hce : P.cellsOf e = i.size:=by simp [Program.cellsOf,hi]
 have hbe : P.bytesOf e = i.bytes:=by simp [Program.bytesOf,hi]
 rw [hbe] at hb
 have hcl:=cat_length hxs
 have hlen:=hc.h.len
 have hcs' : cs ++ (cat xs).map borrow1 = (cs ++ cat xs).map borrow1:=by rw [List.map_append,hcb]
 cases hs with
 | msl _ _ _ _ b cap hob hl hm hrow0 =>
  obtain ⟨C0,E0,hrow0,hfit0⟩:=hrow0
  obtain ⟨C,E,hrow,hCs,hC⟩:=hc.h.at_obj ho hob ⟨C0,E0,hrow0⟩
  have hfit : 0 + cap * P.cellsOf e <= C.size:=by
   rw [hrow0] at hrow
   cases hrow
   exact hfit0
  have same : xs = [] -> KOut F G w R (.slice (some ⟨b,0,none⟩) len cap) w:=by
   intro h0
   subst h0
   obtain ⟨h1,h2⟩:=hc.moveObj ho hob
   refine ⟨_,_,_,by simpa [cat] using hr, ?_,h2⟩
   have hnew : VRel { G with obs:=G.obs ++ [b] } w (.msl H.length 0 len (P.cellsOf e)) (.slice (some ⟨b,0,none⟩) len cap) :=
    .msl _ _ _ _ b cap (by show (G.obs ++ [b])[H.length]? = some b; rw [List.getElem?_append_right (by omega),hlen]; simp) hl hm ⟨C,E,hrow,hfit⟩
   exact (h1.one hnew (tok_nil_all (toks_scalar rfl rfl _) _ _ _) fun b' => by rw [toks_scalar rfl rfl]; simp)
  rcases hx with ⟨rfl,rfl⟩ | ⟨a,c,news,rfl,hnl,hnews,hone,hcell⟩
  ·refine .value (u:=.slice (some ⟨b,0,none⟩) len cap) (w':=w) ?_ (same rfl)
   simp [Builtin.append_,run_underlying hu,sizeOf,typeInfo,hi,Builtin.lenOf,Builtin.firstCells,hl,storeCells]
  ·by_cases h0 : xs = []
   ·subst h0
    have : news = []:=List.eq_nil_of_length_eq_zero (by simpa using hnl)
    subst this
    refine .value (u:=.slice (some ⟨b,0,none⟩) len cap) (w':=w) ?_ (same rfl)
    simp [Builtin.append_,run_underlying hu,sizeOf,typeInfo,hi,Builtin.lenOf,Builtin.firstCells,loadCells,loadCellsFrom,hl,storeCells]
   ·have hpos2 : 0 < xs.length:=List.length_pos_iff.2 h0
    have hget : ∀ (i : Nat) (d : AV),((cat xs).map borrow1)[i]? = some d -> ∃ c v,d = borrow1 c /\ c.scalar = true /\ news[i]? = some v /\ VRel G w c v:=by
     intro i d hd
     rw [List.getElem?_map] at hd
     cases hci : (cat xs)[i]? with
     | none => rw [hci] at hd; cases hd
     | some c =>
      rw [hci] at hd
      cases hd
      obtain ⟨s1,v,s2,s3⟩:=hcell i c hci
      exact ⟨c,v,rfl,s1,s2,s3⟩
    have hold : ∀ (i : Nat) (d : AV) (x : Value),cs[i]? = some d -> C[i]? = some x -> d.scalar = true /\ VRel G w d x /\ d = borrow1 d:=by
     intro i d x hd hx'
     have hi':=(List.getElem?_eq_some_iff.1 hd).1
     obtain ⟨g1,g2,_⟩:=hC.at_ i d x hd (by rw [List.getElem?_take,if_pos hi',Array.getElem?_toList]; exact hx')
     refine ⟨g1,g2, ?_⟩
     have : (cs.map borrow1)[i]? = some (borrow1 d):=by rw [List.getElem?_map,hd]; rfl
     rw [hcb,hd] at this
     exact Option.some.inj this
    by_cases hroom : len + xs.length <= cap
    ·have hf:=run_firstCells_some (P:=P) w i.size xs.length a xs.length c news (by rw [hnl,hce]) hnews
     have hfit2 : len * P.cellsOf e + news.length <= C.size:=by
      rw [hnl,<- Nat.add_mul]
      have:=Nat.mul_le_mul_right (P.cellsOf e) hroom
      omega
     have hst:=run_storeCells_at P b (len * P.cellsOf e) E news 0 C w hrow (by omega) hone
     simp only [Nat.add_zero] at hst
     let C' : Array Value:=(C.toList.take (len * P.cellsOf e) ++ news ++ C.toList.drop (len * P.cellsOf e + news.length)).toArray
     have hC' : C' = (C.toList.take (len * P.cellsOf e) ++ news ++ C.toList.drop (len * P.cellsOf e + news.length)).toArray:=rfl
     have htl : (C.toList.take (len * P.cellsOf e)).length = len * P.cellsOf e:=by simp; omega
     have hset:=hc.setObj ho hob hrow (C':=C') (by rw [hC']; simp; omega) (cs':=cs ++ (cat xs).map borrow1) (by rw [hC']; simp; omega)
      (fun i d x hd hx' => by
       rw [hC',List.getElem?_toArray] at hx'
       by_cases hlt : i < cs.length
       ·rw [List.getElem?_append_left hlt] at hd
        rw [List.append_assoc,List.getElem?_append_left (by omega),List.getElem?_take,if_pos (by omega),Array.getElem?_toList] at hx'
        obtain ⟨g1,g2,g3⟩:=hold i d x hd hx'
        exact ⟨g1,g2,TokOk.of_none (by rw [g3]; exact tok_borrow1 d _)⟩
       ·rw [List.getElem?_append_right (by omega)] at hd
        obtain ⟨c,v,rfl,s1,s2,s3⟩:=hget _ d hd
        have hlt2:=(List.getElem?_eq_some_iff.1 s2).1
        rw [List.append_assoc,List.getElem?_append_right (by omega),htl,<- hcl0,List.getElem?_append_left hlt2,s2] at hx'
        cases hx'
        exact ⟨(scalar_borrow1 c).trans s1,s3.borrow1,TokOk.of_none (tok_borrow1 c _)⟩) (vs:=[]) (us':=[]) (.nil F G w) (fun x => by rw [hcs',tok_nil_borrowed]; simp [tcnt_nil])
     have hlenset : (H.set ob (some (cs ++ (cat xs).map borrow1)))[ob]? = some (some (cs ++ (cat xs).map borrow1)):=List.getElem?_set_self (List.getElem?_eq_some_iff.1 ho).1
     obtain ⟨h1,h2⟩:=hset.1.moveObj hlenset hob
     refine .value (u:=.slice (some ⟨b,0,none⟩) (len + xs.length) cap) (w':=w.setRow b C') ?_ ⟨_,_,_,hr, ?_,hset.2.trans h2⟩
     ·rw [hce] at hst
      simp [Builtin.append_,run_underlying hu,sizeOf,typeInfo,hi,Builtin.lenOf,hroom,hf,addr_add,hst,hC',hce]
     ·rw [List.set_set] at h1
      have hrow' : (w.setRow b C').heap[b]? = some (.cells C' E (0,0)):=setRow_heap w b C _ E _ hrow
      have hnew : VRel { G with obs:=G.obs ++ [b] } (w.setRow b C') (.msl H.length 0 (len + xs.length) (P.cellsOf e)) (.slice (some ⟨b,0,none⟩) (len + xs.length) cap) :=
       .msl _ _ _ _ b cap (by show (G.obs ++ [b])[H.length]? = some b; rw [List.getElem?_append_right (by omega),hlen]; simp) hroom hm ⟨_,E,hrow',by rw [hC']; simp; omega⟩
      exact (h1.one hnew (tok_nil_all (toks_scalar rfl rfl _) _ _ _) fun b' => by rw [toks_scalar rfl rfl]; simp)
    ·let olds : List Value:=C.toList.take (len * P.cellsOf e)
     have holds : olds = C.toList.take (len * P.cellsOf e):=rfl
     have hol : olds.length = len * P.cellsOf e:=by rw [holds]; simp; omega
     have hrun:=run_append_grow (P:=P) (ty:=ty) w t e i z hu hi hz' ⟨b,0,none⟩ len cap olds (by rw [hol,hce]) (fun j v hv => by
       rw [addr_add,Nat.zero_add,cell_of_row _ _ j C E _ hrow]
       rw [holds,List.getElem?_take] at hv
       split at hv
       ·rwa [Array.getElem?_toList] at hv
       ·cases hv) a xs.length c news (by rw [hnl,hce]) hnews (by omega) (by omega) (growslice_fits (by omega) (by simpa using hb))
     obtain ⟨h1,h2⟩:=hc.freeze ho hob ⟨_,_,hrow⟩
     have hd:=h1.draw
     have hge:=grownCap_ge w (len + xs.length) cap e
     have hcm : grownCap w (len + xs.length) cap e <= maxLen:=grownCap_le_maxLen w _ cap e (by unfold maxLen; omega)
     have hsize : (olds.toArray ++ news.toArray ++ Builtin.zeroCells z.cells (grownCap w (len + xs.length) cap e - (len + xs.length))).size = grownCap w (len + xs.length) cap e * P.cellsOf e:=by
      simp only [Array.size_append,List.size_toArray,size_zeroCells,hcz,hol,hnl,<- hce,<- Nat.add_mul]
      congr 1; omega
     have hk:=h2.keeps
     refine .value (by rw [Sem.run_bind,hrun]; rfl) ⟨_,_,_,hr, ?_,(h2.trans ext_draw).trans (ext_newObj hd.h.fore _)⟩
     have hl2 : (H.set ob none).length = H.length:=by simp
     have:=hd.newObj (cs ++ (cat xs).map borrow1) (olds.toArray ++ news.toArray ++ Builtin.zeroCells z.cells (grownCap w (len + xs.length) cap e - (len + xs.length))) e (by rw [hsize]; simp; rw [hcl,hcl0,<- Nat.add_mul]; exact Nat.mul_le_mul_right _ hge)
      (fun i d x hd' hx' => by
       by_cases hlt : i < cs.length
       ·rw [List.getElem?_append_left hlt] at hd'
        have hxo : olds[i]? = some x:=by
         have e0:=grown_get (olds:=olds) (news:=news) (rest:=(Builtin.zeroCells z.cells (grownCap w (len + xs.length) cap e - (len + xs.length))).toList) i (by omega)
         rw [Array.toArray_toList] at e0
         rw [e0,List.getElem?_append_left (by omega)] at hx'
         exact hx'
        rw [holds,List.getElem?_take,if_pos (by omega),Array.getElem?_toList] at hxo
        obtain ⟨g1,g2,g3⟩:=hold i d x hd' hxo
        exact ⟨g1,(g2.keep hk).keep (ext_draw (F:=F)).keeps,TokOk.of_none (by rw [g3]; exact tok_borrow1 d _)⟩
       ·rw [List.getElem?_append_right (by omega)] at hd'
        obtain ⟨c,v,rfl,s1,s2,s3⟩:=hget _ d hd'
        have hlt2:=(List.getElem?_eq_some_iff.1 s2).1
        have e0:=grown_get (olds:=olds) (news:=news) (rest:=(Builtin.zeroCells z.cells (grownCap w (len + xs.length) cap e - (len + xs.length))).toList) i (by omega)
        rw [Array.toArray_toList] at e0
        rw [e0,List.getElem?_append_right (by omega),hol,<- hcl0,s2] at hx'
        cases hx'
        exact ⟨(scalar_borrow1 c).trans s1,((s3.keep hk).keep (ext_draw (F:=F)).keeps).borrow1,TokOk.of_none (tok_borrow1 c _)⟩) (fun x => by rw [hcs',tok_nil_borrowed]; simp)
      (v:=.msl H.length 0 (len + xs.length) (P.cellsOf e)) (u:=.slice (some ⟨w.heap.size,0,none⟩) (len + xs.length) (grownCap w (len + xs.length) cap e))
      (.msl _ _ _ _ w.heap.size _ (by
       show ((G.setKind b .imm).obs ++ [w.drew.heap.size])[H.length]? = _
       rw [List.getElem?_append_right (by show G.obs.length <= _; omega)]
       show [w.drew.heap.size][H.length - G.obs.length]? = _
       rw [hlen]; simp) hge hcm ⟨_,e,heap_alloc_new _ _,by rw [hsize]; omega⟩) (toks_scalar rfl rfl _)
     exact this
theorem ok_append_nil {t e ty : Nat} {sv : AV} {xs : List AV} {u v : Value} (hc : CRel F G [.sl (some 0) [],sv] H [u,v] w) (hx : Src G w (P.cellsOf e) xs v) (hu : P.underlying t = some (.slice e)) (hpos : 0 < P.cellsOf e)
  (hxs : ∀ x ∈ xs,x.cells.length = P.cellsOf e) (hz : zeroOk P e = true) (hpos2 : 0 < xs.length) (hb : xs.length * P.bytesOf e <= 140737488355328) (h63 : xs.length <= 9223372036854775807)
  (hr : R (.msl H.length 0 xs.length (P.cellsOf e)) (H ++ [some ((cat xs).map borrow1)])) :
  OpRes P ((do let r <- Builtin.append_ #[t,t] ty #[u,v]; pure (Next.value r) : Sem Next).run P w) (KOut F G w R):=by
 have hs:=hc.l.rel 0 _ _ rfl rfl
 unfold zeroOk at hz
 split at hz
 case h_2 => cases hz
 rename_i i hi
 split at hz
 case h_2 => cases hz
 rename_i z hz'
 have hcz : z.cells.size = i.size:=by simpa using hz
 have hce : P.cellsOf e = i.size:=by simp [Program.cellsOf,hi]
 have hbe : P.bytesOf e = i.bytes:=by simp [Program.bytesOf,hi]
 rw [hbe] at hb
 have hcl:=cat_length hxs
 have hlen:=hc.h.len
 rcases hx with ⟨rfl,rfl⟩ | ⟨a,c,news,rfl,hnl,hnews,hone,hcell⟩
 ·simp at hpos2
 have hget : ∀ (i : Nat) (d : AV),((cat xs).map borrow1)[i]? = some d -> ∃ c v,d = borrow1 c /\ c.scalar = true /\ news[i]? = some v /\ VRel G w c v:=by
  intro i d hd
  rw [List.getElem?_map] at hd
  cases hci : (cat xs)[i]? with
  | none => rw [hci] at hd; cases hd
  | some c =>
   rw [hci] at hd
   cases hd
   obtain ⟨s1,v,s2,s3⟩:=hcell i c hci
   exact ⟨c,v,rfl,s1,s2,s3⟩
 have done : ∀ (C : Array Value) (cap : Nat),xs.length <= cap -> cap <= maxLen -> (∀ (i : Nat) (v : Value),news[i]? = some v -> C[i]? = some v) -> cap * P.cellsOf e <= C.size ->
   KOut F G w R (.slice (some ⟨w.heap.size,0,none⟩) xs.length cap) (w.drew.alloc (.cells C e)):=by
  intro C cap h1 h2 h3 h4
  have hd:=hc.draw
  have hle:=Nat.mul_le_mul_right (P.cellsOf e) h1
  refine ⟨_,_,_,hr, ?_,ext_draw.trans (ext_newObj hd.h.fore _)⟩
  exact hd.newObj ((cat xs).map borrow1) C e (by simp; rw [hcl]; omega)
   (fun i d x hd' hx' => by
    obtain ⟨c,v,rfl,s1,s2,s3⟩:=hget i d hd'
    rw [h3 i v s2] at hx'
    cases hx'
    exact ⟨(scalar_borrow1 c).trans s1,(s3.keep (ext_draw (F:=F)).keeps).borrow1,TokOk.of_none (tok_borrow1 c _)⟩) (fun x => by rw [tok_nil_borrowed]; simp)
   (v:=.msl H.length 0 xs.length (P.cellsOf e)) (u:=.slice (some ⟨w.heap.size,0,none⟩) xs.length cap)
   (.msl _ _ _ _ w.heap.size _ (by
    show (G.obs ++ [w.drew.heap.size])[H.length]? = _
    rw [List.getElem?_append_right (by omega),hlen]; simp) h1 h2 ⟨_,e,heap_alloc_new _ _,by omega⟩) (toks_scalar rfl rfl _)
 have hzs : ∀ k,(Builtin.zeroCells z.cells k).size = k * P.cellsOf e:=fun k => by rw [size_zeroCells,hcz,hce]
 have grown : ∀ cap0,(xs.length <= grownCap w xs.length cap0 e /\ grownCap w xs.length cap0 e <= maxLen):=fun cap0 => ⟨grownCap_ge w xs.length cap0 e,grownCap_le_maxLen w _ cap0 e (by unfold maxLen; omega)⟩
 generalize hA : AV.sl (some 0) [] = A at hs
 cases hs <;> cases hA
 ·have hrun:=run_append_nil (P:=P) w t ty e i z hu hi hz' a xs.length c news (by rw [hnl,hce]) hnews hpos2 (by omega) (by omega)
  refine .value (by rw [Sem.run_bind,hrun]; rfl) (done _ _ (grown 0).1 (grown 0).2 (fun i v hv => ?_) ?_)
  ·have hlt:=(List.getElem?_eq_some_iff.1 hv).1
   rw [Array.getElem?_append_left (by simpa using hlt),List.getElem?_toArray]; exact hv
  ·have:=(grown 0).1
   simp only [Array.size_append,List.size_toArray,hzs,hnl,<- Nat.add_mul]
   exact Nat.mul_le_mul_right _ (by omega)
 ·rename_i ad
  have hrun:=run_append_grow (P:=P) (ty:=ty) w t e i z hu hi hz' ad 0 0 [] (by simp) (fun j v hv => by simp at hv) a xs.length c news (by rw [hnl,hce]) hnews (by omega) (by omega) (growslice_fits (by omega) (by simpa using hb))
  simp only [Nat.zero_add] at hrun
  refine .value (by rw [Sem.run_bind,hrun]; rfl) (done _ _ (grown 0).1 (grown 0).2 (fun i v hv => ?_) ?_)
  ·have hlt:=(List.getElem?_eq_some_iff.1 hv).1
   have e0:=grown_get (olds:=[]) (news:=news) (rest:=(Builtin.zeroCells z.cells (grownCap w xs.length 0 e - xs.length)).toList) i (by simpa using hlt)
   rw [Array.toArray_toList] at e0
   rw [e0]; simpa using hv
  ·have:=(grown 0).1
   simp only [Array.size_append,List.size_toArray,hzs,hnl,<- Nat.add_mul,List.length_nil,Nat.zero_add]
   exact Nat.mul_le_mul_right _ (by omega)
 ·rename_i hown _ _ _ _
  have:=(hown 0 rfl).2
  omega
theorem ok_clear {t e ty ob off len sz : Nat} {cs : List AV} {z : AV} {u : Value} (hc : CRel F G [.msl ob off len sz] H [u] w) (ho : H[ob]? = some (some cs)) (hu : P.underlying t = some (.slice e)) (hzv : zeroAV P e = some z) (hsz : sz = z.cells.length) (hn : 0 < len)
  (hle : off + len * sz <= cs.length) (hr : R (.tup []) (H.set ob (some (splice cs off (zerosN z len))))) :
  OpRes P ((do let r <- Builtin.clear_ #[t] ty #[u]; pure (Next.value r) : Sem Next).run P w) (KOut F G w R):=by
 subst hsz
 have hp:=hc.l.rel 0 _ _ rfl rfl
 obtain ⟨zv,hrun,hval,hcz,htz⟩:=zero_sem hzv
 have hz0:=hcz F G w
 have hzl : z.cells.length = zv.cells.size:=by simpa using hz0.len
 cases hp with
 | msl _ _ _ _ b cap hob hlc hmx hrw =>
  obtain ⟨C0,E0,hrow0,_⟩:=hrw
  obtain ⟨C,E,hrow,hCs,hC⟩:=hc.h.at_obj ho hob ⟨C0,E0,hrow0⟩
  let L : List Value:=(Builtin.zeroCells zv.cells len).toList
  have hL : L = (List.range (len * zv.cells.size)).map fun i => zv.cells[i % zv.cells.size]!:=by
   show (Builtin.zeroCells zv.cells len).toList = _
   simp [Builtin.zeroCells]
  have hXl : (zerosN z len).length = len * z.cells.length:=by simp [zerosN]
  have hLl : L.length = len * z.cells.length:=by rw [hL,hzl]; simp
  have pair : ∀ (i : Nat) (c : AV) (v : Value),(zerosN z len)[i]? = some c -> L[i]? = some v -> ∃ j : Nat,z.cells[j]? = some c /\ zv.cells.toList[j]? = some v:=by
   intro i c v h1 h2
   have hi : i < len * z.cells.length:=by have:=(List.getElem?_eq_some_iff.1 h1).1; omega
   have hpos : 0 < z.cells.length:=Nat.pos_of_ne_zero fun h => by rw [h] at hi; simp at hi
   have hj : i % z.cells.length < z.cells.length:=Nat.mod_lt _ hpos
   refine ⟨i % z.cells.length, ?_, ?_⟩
   ·unfold zerosN at h1
    rw [List.getElem?_map,List.getElem?_range hi] at h1
    simp only [Option.map_some,Option.some.injEq] at h1
    rw [List.getElem?_eq_getElem hj] at h1 ⊢
    simpa using h1
   ·rw [hL,List.getElem?_map,<- hzl,List.getElem?_range hi] at h2
    simp only [Option.map_some,Option.some.injEq] at h2
    have hj2 : i % z.cells.length < zv.cells.size:=by omega
    rw [Array.getElem?_toList,Array.getElem?_eq_getElem hj2,<- h2,getElem!_pos zv.cells _ hj2]
  have hcv : Cells F G w (zerosN z len) L:=⟨by rw [hXl,hLl],fun i c v h1 h2 => by obtain ⟨j,g1,g2⟩:=pair i c v h1 h2; exact hz0.at_ j c v g1 g2⟩
  have htk : ctoks (zerosN z len) L = []:=by
   unfold ctoks at htz ⊢
   rw [List.filterMap_eq_nil_iff] at htz ⊢
   intro p hp
   obtain ⟨i,hi⟩:=List.getElem?_of_mem hp
   rw [List.getElem?_zip_eq_some] at hi
   obtain ⟨j,g1,g2⟩:=pair i _ _ hi.1 hi.2
   exact htz p (List.mem_of_getElem? (List.getElem?_zip_eq_some.2 ⟨g1,g2⟩))
  have hst:=run_storeCells_at P b off E L 0 C w hrow (by rw [hLl]; omega) hcv.oneCell
  simp only [Nat.add_zero] at hst
  let C' : Array Value:=(C.toList.take off ++ L ++ C.toList.drop (off + L.length)).toArray
  have hC' : C' = (C.toList.take off ++ L ++ C.toList.drop (off + L.length)).toArray:=rfl
  have hsize : C'.size = C.size:=by rw [hC']; simp; omega
  have hrun2 : (Builtin.clear_ #[t] ty #[.slice (some ⟨b,off,none⟩) len cap]).run P w = .ok (.tuple #[]) (w.setRow b C'):=by
   obtain ⟨m,rfl⟩ : ∃ m,len = m + 1:=⟨len - 1,by omega⟩
   simp [Builtin.clear_,run_underlying hu,hrun,hst,hC',L]
  have hlen2 : (splice cs off (zerosN z len)).length = cs.length:=splice_length (by omega)
  have hspl : C'.toList.take cs.length = spliceV (C.toList.take cs.length) off L:=by
   rw [hC']
   have:=take_splice C.toList L off cs.length (by omega) (by simpa using hCs)
   simpa [spliceV] using this
  have hCC:=hC.splice (off:=off) hcv
  have hset:=hc.setObj ho hob hrow (C':=C') hsize (cs':=splice cs off (zerosN z len)) (by rw [hlen2,hsize]; exact hCs) (fun i c y hc' hy => ?_) (vs:=[.tup []]) (us':=[.tuple #[]])
   (.cons (.tup [] #[] rfl (fun _ h => by cases h) (fun _ _ _ h => by cases h)) (tok_nil_all (by simp [toks,prs,AV.flat,vflat]) F G w) (.nil F G w)) (fun y => ?_)
  ·exact .value (by rw [Sem.run_bind,hrun2]; rfl) ⟨.tup [],_,G,hr,hset.1,hset.2⟩
  ·have hi:=(List.getElem?_eq_some_iff.1 hc').1
   refine hCC.at_ i c y hc' ?_
   rw [<- hspl,List.getElem?_take,if_pos (by omega)]
   simpa using hy
  ·have e0 : toks (.tup []) (.tuple #[]) = []:=by simp [toks,prs,AV.flat,vflat]
   rw [tcnt_cons,tcnt_nil,e0,tcnt_cons,tcnt_nil,toks_scalar rfl rfl]
   have z1 : (splice cs off (zerosN z len)).zip C'.toList = (splice cs off (zerosN z len)).zip (spliceV (C.toList.take cs.length) off L):=by
    have:=zip_take (splice cs off (zerosN z len)) C'.toList
    rw [hlen2,hspl] at this; exact this
   rw [z1,zip_take cs C.toList]
   have h1:=ctoks_splice (cs:=cs) (xs:=zerosN z len) (vs:=C.toList.take cs.length) (ys:=L) (off:=off) hC.len (by omega) y
   rw [htk] at h1
   unfold ctoks at h1
   simp only [List.count_nil] at h1 ⊢
   omega
end
end Go.AI
