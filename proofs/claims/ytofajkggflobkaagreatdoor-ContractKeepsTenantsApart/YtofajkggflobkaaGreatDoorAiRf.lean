/- That the model's operations do what 'ares' says: rows with a known capacity: cap, parts of them, copy, an append that moves. -/
import Derived.Test.YtofajkggflobkaaGreatDoorAiRe
import Derived.Lib.AppendZerosOnto
import Derived.Lib.Overlaps
set_option linter.unusedSimpArgs false
set_option linter.unusedVariables false
namespace Go.AI
section
variable {P : Program} {F : Nat -> Prop} {G : Gh} {w : World} {H : Heap} {R : AV -> Heap -> Prop}
theorem ok_len_mslc {t e ty ob off len sz c : Nat} {u : Value} {ts : Array TypeId} (hc : CRel F G [.mslc ob off len sz c] H [u] w) (ht : ts[0]? = some t) (hu : P.underlying t = some (.slice e)) (hr : R (.int .i64 len) H) :
  OpRes P ((do let r <- Builtin.len_ ts ty #[u]; pure (Next.value r) : Sem Next).run P w) (KOut F G w R):=by
 have hx:=hc.l.rel 0 _ _ rfl rfl
 cases hx
 exact .value (by simp [Builtin.len_,ht,run_underlying hu,goInt]) (KOut.plain hc hr (.int _ _) (toks_scalar rfl rfl _))
theorem ok_cap_mslc {t e ty ob off len sz c : Nat} {u : Value} {ts : Array TypeId} (hc : CRel F G [.mslc ob off len sz c] H [u] w) (ht : ts[0]? = some t) (hu : P.underlying t = some (.slice e)) (hr : R (.int .i64 c) H) :
  OpRes P ((do let r <- Builtin.cap_ ts ty #[u]; pure (Next.value r) : Sem Next).run P w) (KOut F G w R):=by
 have hx:=hc.l.rel 0 _ _ rfl rfl
 cases hx
 exact .value (by simp [Builtin.cap_,ht,run_underlying hu,goInt]) (KOut.plain hc hr (.int _ _) (toks_scalar rfl rfl _))
theorem ok_slice_mslc {t e ob off len sz c : Nat} {u : Value} {rest : List AV} {urest : List Value} {lo hi mx : Option Value} {l h : Option Int} (hc : CRel F G (.mslc ob off len sz c :: rest) H (u :: urest) w) (hu : P.underlying t = some (.slice e))
  (hl : OptB lo l) (hh : OptB hi h) (hm : OptB mx none)
  (h0 : 0 <= l.getD 0) (h1 : l.getD 0 <= h.getD len) (h2 : h.getD len <= c) (hs : sz = P.cellsOf e) (hz : ∃ i,P.info? e = some i)
  (hr : R (if l.getD 0 = c /\ 0 < l.getD 0 then .sl none [] else .mslc ob (off + (l.getD 0).toNat * sz) ((h.getD len).toNat - (l.getD 0).toNat) sz (c - (l.getD 0).toNat)) H) :
  OpRes P ((do let r <- Instr.sliceAt t u lo hi mx; pure (Next.value r) : Sem Next).run P w) (KOut F G w R):=by
 have hrel:=hc.l.rel 0 _ _ rfl rfl
 obtain ⟨i,hi'⟩:=hz
 have hsize : ∀ w,(sizeOf e).run P w = .ok (P.cellsOf e) w:=fun w => by simp [sizeOf,typeInfo,hi',Program.cellsOf]
 cases hrel with
 | mslc _ _ _ _ _ b hob hlc hmx hrow =>
  obtain ⟨C,E,hrow,hfit⟩:=hrow
  have hb:=run_sliceBounds (P:=P) (isSlice:=true) (len:=len) (cap:=c) hl hh hm (fun h => by cases h) h0 h1 (by simp only [Option.getD_none]; omega) (by simp) w
  by_cases hb0 : l.getD 0 = c /\ 0 < l.getD 0
  ·rw [if_pos hb0] at hr
   have hcl : c = (l.getD 0).toNat:=by omega
   have hrun : (Instr.sliceAt t (.slice (some ⟨b,off,none⟩) len c) lo hi mx).run P w = .ok (.slice (some ⟨b,off,none⟩) 0 0) w:=by
    simp only [Instr.sliceAt,Instr.slice,Sem.run_bind,run_underlying hu,Result.andThen_ok,hb,hsize,Option.getD_none,Int.toNat_natCast]
    have e1 : (h.getD len).toNat - (l.getD 0).toNat = 0:=by omega
    have e2 : c - (l.getD 0).toNat = 0:=by omega
    rw [if_pos hcl,e1,e2]; simp
   exact .value (by rw [Sem.run_bind,hrun]; rfl) (KOut.plain hc hr (.slany none _) (by simp [toks,prs,AV.flat,AV.cells,vflat,Value.cells,tok]))
  rw [if_neg hb0] at hr
  have h3 : l.getD 0 = 0 \/ l.getD 0 < c:=by omega
  have hrun : (Instr.sliceAt t (.slice (some ⟨b,off,none⟩) len c) lo hi mx).run P w = .ok (.slice (some ⟨b,off + (l.getD 0).toNat * sz,none⟩) ((h.getD len).toNat - (l.getD 0).toNat) (c - (l.getD 0).toNat)) w:=by
   simp only [Instr.sliceAt,Instr.slice,Sem.run_bind,run_underlying hu,Result.andThen_ok,hb,hsize,Option.getD_none,Int.toNat_natCast]
   subst hs
   by_cases hcl : c = (l.getD 0).toNat
   ·have e0 : (l.getD 0).toNat = 0:=by omega
    rw [if_pos hcl,e0]; simp
   ·rw [if_neg hcl]
    simp [addr_add]
  have hmul : c * sz = (l.getD 0).toNat * sz + (c - (l.getD 0).toNat) * sz:=by
   rw [<- Nat.add_mul]; congr 1; omega
  exact .value (by rw [Sem.run_bind,hrun]; rfl) (KOut.plain hc hr (.mslc _ _ _ _ _ b hob (by omega) (by omega) ⟨C,E,hrow,by omega⟩) (toks_scalar rfl rfl _))
theorem csrc_row {e : TypeId} {vals : List AV} {us : List Value} {ob off k b len cap : Nat} {cs : List AV} (hc : CRel F G vals H us w) (ho : H[ob]? = some (some cs)) (hb : G.obs[ob]? = some b) (hbc : ∃ (C : Array Value) (E : TypeId),w.heap[b]? = some (.cells C E (0,0)))
  (hle : off + k * P.cellsOf e <= cs.length) : ∃ news : List Value,(Builtin.firstCells (P.cellsOf e) k (.slice (some ⟨b,off,none⟩) len cap)).run P w = .ok news.toArray w /\ news.length = k * P.cellsOf e /\ (∀ v ∈ news,v.oneCell' = true) /\
   ∀ (i : Nat) (c : AV),((cs.drop off).take (k * P.cellsOf e))[i]? = some c -> c.scalar = true /\ ∃ v,news[i]? = some v /\ VRel G w c v:=by
 obtain ⟨C,E,hrow,hCs,hC⟩:=hc.h.at_obj ho hb hbc
 refine ⟨(C.toList.drop off).take (k * P.cellsOf e),run_firstCells_some (P:=P) w (P.cellsOf e) k _ _ _ _ (by simp; omega) (fun j v hv => ?_),by simp; omega,fun v hv => ?_,fun i c hi => ?_⟩
 ·rw [List.getElem?_take] at hv
  split at hv
  ·rw [List.getElem?_drop,Array.getElem?_toList] at hv
   rw [addr_add,cell_of_row _ _ _ C E _ hrow]; exact hv
  ·cases hv
 ·obtain ⟨j,hj⟩:=List.getElem?_of_mem hv
  rw [List.getElem?_take] at hj
  split at hj
  ·rename_i hlt
   rw [List.getElem?_drop] at hj
   have hd : cs[off + j]? = some (cs[off + j]'(by omega)):=List.getElem?_eq_getElem _
   obtain ⟨g1,g2,_⟩:=hC.at_ (off + j) _ v hd (by rw [List.getElem?_take,if_pos (by omega)]; exact hj)
   exact oneCell_of g1 g2
  ·cases hj
 ·rw [List.getElem?_take] at hi
  split at hi
  ·rename_i hlt
   rw [List.getElem?_drop] at hi
   have hlt2 : off + i < C.size:=by omega
   have hv : C[off + i]? = some (C[off + i]):=Array.getElem?_eq_getElem hlt2
   obtain ⟨g1,g2,_⟩:=hC.at_ (off + i) c (C[off + i]) hi (by rw [List.getElem?_take,if_pos (by omega),Array.getElem?_toList]; exact hv)
   exact ⟨g1,_,by rw [List.getElem?_take,if_pos hlt,List.getElem?_drop,Array.getElem?_toList]; exact hv,g2⟩
  ·cases hi
theorem csrc_ok {e : TypeId} {a b : AV} {u v : Value} {X : List AV} {k n : Nat} (hc : CRel F G [a,b] H [u,v] w) (hs : csrc P e H k b = some X) (hn : slen b = some n) :
  (Builtin.lenOf v).run P w = .ok n w /\ ∃ news : List Value,(Builtin.firstCells (P.cellsOf e) k v).run P w = .ok news.toArray w /\ news.length = k * P.cellsOf e /\ X.length = k * P.cellsOf e /\ (∀ v ∈ news,v.oneCell' = true) /\
   ∀ (i : Nat) (c : AV),X[i]? = some c -> c.scalar = true /\ ∃ v,news[i]? = some v /\ VRel G w c v:=by
 have hx:=hc.l.rel 1 _ _ rfl rfl
 unfold csrc at hs
 split at hs
 ·rename_i own xs
  split at hs
  ·rename_i hcond
   cases hs
   cases hn
   have hcl:=cat_length hcond.1
   have hkl : k * P.cellsOf e <= xs.length * P.cellsOf e:=Nat.mul_le_mul_right _ hcond.2
   rcases appended_cells hcond.1 hx with ⟨rfl,rfl⟩ | ⟨ad,c,news,rfl,hnl,hnews,hone,hcell⟩
   ·have hk0 : k = 0:=by simpa using hcond.2
    subst hk0
    refine ⟨by simp [Builtin.lenOf],[],by simp [Builtin.firstCells],by simp,by simp,fun v hv => by simp at hv,fun i c hi => by simp at hi⟩
   ·refine ⟨by simp [Builtin.lenOf],news.take (k * P.cellsOf e),run_firstCells_some (P:=P) w (P.cellsOf e) k _ _ _ _ (by simp; omega) (fun j v hv => ?_),by simp; omega,by simp; omega,fun v hv => hone v (List.mem_of_mem_take hv),fun i c hi => ?_⟩
    ·rw [List.getElem?_take] at hv
     split at hv
     ·exact hnews j v hv
     ·cases hv
    ·rw [List.getElem?_take] at hi
     split at hi
     ·rename_i hlt
      obtain ⟨s1,v,s2,s3⟩:=hcell i c hi
      exact ⟨s1,v,by rw [List.getElem?_take,if_pos hlt]; exact s2,s3⟩
     ·cases hi
  ·cases hs
 ·rename_i ob off len sz
  split at hs
  ·rename_i cs ho
   split at hs
   ·rename_i hcond
    cases hs; cases hn
    obtain ⟨hle,rfl,hkl⟩:=hcond
    cases hx with
    | msl _ _ _ _ b cap hb hl hm hrow =>
     obtain ⟨C,E,hrow,_⟩:=hrow
     obtain ⟨news,h1,h2,h3,h4⟩:=csrc_row (P:=P) (e:=e) (len:=n) (cap:=cap) hc ho hb ⟨C,E,hrow⟩ hle
     exact ⟨by simp [Builtin.lenOf],news,h1,h2,by simp; omega,h3,h4⟩
   ·cases hs
  ·cases hs
 ·rename_i ob off len sz c
  split at hs
  ·rename_i cs ho
   split at hs
   ·rename_i hcond
    cases hs; cases hn
    obtain ⟨hle,rfl,hkl⟩:=hcond
    cases hx with
    | mslc _ _ _ _ _ b hb hl hm hrow =>
     obtain ⟨C,E,hrow,_⟩:=hrow
     obtain ⟨news,h1,h2,h3,h4⟩:=csrc_row (P:=P) (e:=e) (len:=n) (cap:=c) hc ho hb ⟨C,E,hrow⟩ hle
     exact ⟨by simp [Builtin.lenOf],news,h1,h2,by simp; omega,h3,h4⟩
   ·cases hs
  ·cases hs
 ·cases hs
theorem ok_copy {t t2 e ty ob off len sz n : Nat} {dst sv : AV} {X cs : List AV} {u v : Value} {b cap : Nat} (hc : CRel F G [dst,sv] H [u,v] w) (hu : P.underlying t = some (.slice e)) (hsz : sz = P.cellsOf e) (hz : (P.info? e).isSome = true)
  (hub : u = .slice (some ⟨b,off,none⟩) len cap) (hob : G.obs[ob]? = some b) (hrow0 : ∃ (C : Array Value) (E : TypeId),w.heap[b]? = some (.cells C E (0,0)) /\ off + cap * sz <= C.size) (hlc : len <= cap)
  (ho : H[ob]? = some (some cs)) (hcb : cs.map borrow1 = cs) (hoff : off <= cs.length) (hn : slen sv = some n) (hs : csrc P e H (Nat.min n len) sv = some X)
  (hr : R (.int .i64 (Nat.min n len : Nat)) (H.set ob (some (cs.take off ++ X.map borrow1 ++ cs.drop (off + Nat.min n len * sz))))) :
  OpRes P ((do let r <- Builtin.copy_ #[t,t2] ty #[u,v]; pure (Next.value r) : Sem Next).run P w) (KOut F G w R):=by
 subst hsz hub
 obtain ⟨hlen,news,hf,hnl,hXl,hone,hcell⟩:=csrc_ok hc hs hn
 obtain ⟨i,hi'⟩:=Option.isSome_iff_exists.1 hz
 have hsize : ∀ w,(sizeOf e).run P w = .ok (P.cellsOf e) w:=fun w => by simp [sizeOf,typeInfo,hi',Program.cellsOf]
 obtain ⟨C0,E0,hrow0,hfit0⟩:=hrow0
 obtain ⟨C,E,hrow,hCs,hC⟩:=hc.h.at_obj ho hob ⟨C0,E0,hrow0⟩
 have hfit : off + Nat.min n len * P.cellsOf e <= C.size:=by
  rw [hrow0] at hrow
  cases hrow
  have h1 : Nat.min n len <= cap:=Nat.le_trans (Nat.min_le_right _ _) hlc
  have:=Nat.mul_le_mul_right (P.cellsOf e) h1
  omega
 generalize hk : Nat.min n len = k at *
 have hst:=run_storeCells_at P b off E news 0 C w hrow (by omega) hone
 simp only [Nat.add_zero] at hst
 let C' : Array Value:=(C.toList.take off ++ news ++ C.toList.drop (off + news.length)).toArray
 have hC' : C' = (C.toList.take off ++ news ++ C.toList.drop (off + news.length)).toArray:=rfl
 have hsize' : C'.size = C.size:=by rw [hC']; simp; omega
 have hrun : (Builtin.copy_ #[t,t2] ty #[.slice (some ⟨b,off,none⟩) len cap,v]).run P w = .ok (goInt k) (w.setRow b C'):=by
  simp [Builtin.copy_,run_underlying hu,hlen,hk,hsize,hf,hst,hC']
 have hold : ∀ (i : Nat) (d : AV) (x : Value),cs[i]? = some d -> C[i]? = some x -> d.scalar = true /\ VRel G w d x /\ d = borrow1 d:=by
  intro i d x hd hx'
  have hi':=(List.getElem?_eq_some_iff.1 hd).1
  obtain ⟨g1,g2,_⟩:=hC.at_ i d x hd (by rw [List.getElem?_take,if_pos hi',Array.getElem?_toList]; exact hx')
  refine ⟨g1,g2, ?_⟩
  have : (cs.map borrow1)[i]? = some (borrow1 d):=by rw [List.getElem?_map,hd]; rfl
  rw [hcb,hd] at this
  exact Option.some.inj this
 have hcs' : cs.take off ++ X.map borrow1 ++ cs.drop (off + k * P.cellsOf e) = (cs.take off ++ X ++ cs.drop (off + k * P.cellsOf e)).map borrow1:=by
  rw [List.map_append,List.map_append,List.map_take,List.map_drop,hcb]
 have htl : (C.toList.take off).length = off:=by simp; omega
 have hct : (cs.take off).length = off:=by simp; omega
 have hset:=hc.setObj ho hob hrow (C':=C') hsize' (cs':=cs.take off ++ X.map borrow1 ++ cs.drop (off + k * P.cellsOf e)) (by rw [hsize']; simp; omega)
  (fun i d x hd hx' => by
   rw [hC',List.getElem?_toArray] at hx'
   by_cases hlt : i < off
   ·rw [List.append_assoc,List.getElem?_append_left (by omega),List.getElem?_take,if_pos hlt] at hd
    rw [List.append_assoc,List.getElem?_append_left (by omega),List.getElem?_take,if_pos hlt,Array.getElem?_toList] at hx'
    obtain ⟨g1,g2,g3⟩:=hold i d x hd hx'
    exact ⟨g1,g2,TokOk.of_none (by rw [g3]; exact tok_borrow1 d _)⟩
   ·rw [List.append_assoc,List.getElem?_append_right (by omega),hct] at hd
    rw [List.append_assoc,List.getElem?_append_right (by omega),htl] at hx'
    by_cases hlt2 : i - off < k * P.cellsOf e
    ·rw [List.getElem?_append_left (by simpa [hXl] using hlt2),List.getElem?_map] at hd
     rw [List.getElem?_append_left (by omega)] at hx'
     cases hci : X[i - off]? with
     | none => rw [hci] at hd; cases hd
     | some c =>
      rw [hci] at hd
      cases hd
      obtain ⟨s1,v,s2,s3⟩:=hcell _ c hci
      rw [s2] at hx'
      cases hx'
      exact ⟨(scalar_borrow1 c).trans s1,s3.borrow1,TokOk.of_none (tok_borrow1 c _)⟩
    ·rw [List.getElem?_append_right (by simpa [hXl] using hlt2),List.getElem?_drop,List.length_map,hXl] at hd
     rw [List.getElem?_append_right (by omega),List.getElem?_drop,hnl,Array.getElem?_toList] at hx'
     have e1 : off + k * P.cellsOf e + (i - off - k * P.cellsOf e) = i:=by omega
     rw [e1] at hd hx'
     obtain ⟨g1,g2,g3⟩:=hold i d x hd hx'
     exact ⟨g1,g2,TokOk.of_none (by rw [g3]; exact tok_borrow1 d _)⟩) (vs:=[.int .i64 (k : Int)]) (us':=[goInt k]) (.cons (.int _ _) (tok_nil_all (toks_scalar rfl rfl _) F G w) (.nil F G w)) (fun x => by
  rw [hcs',tok_nil_borrowed,tcnt_cons,tcnt_nil,toks_scalar rfl rfl]; simp)
 exact .value (by rw [Sem.run_bind,hrun]; rfl) ⟨_,_,G,hr,hset.1,hset.2⟩
theorem ok_append_zeros {t t2 e ty ob off len sz c m : Nat} {kq kn : IntKind} {cs : List AV} {z : AV} {u v : Value} (hc : CRel F G [.mslc ob off len sz c,.int kq (m : Int)] H [u,v] w) (ho : H[ob]? = some (some cs)) (hu : P.underlying t = some (.slice e)) (hu2 : P.underlying t2 = some (.int kn))
  (hpos : 0 < P.cellsOf e) (hsz : sz = P.cellsOf e) (hle : off + len * sz <= cs.length) (hzv : zeroAV P e = some z) (hzl : z.cells.length = P.cellsOf e) (hz : zeroOk P e = true) (hm0 : 0 < m) (hroom : c < len + m) (hb : (len + m) * P.bytesOf e <= 140737488355328) (h63 : len + m <= 9223372036854775807)
  (hr : R (.msl H.length 0 (len + m) (P.cellsOf e)) (H ++ [some (((cs.drop off).take (len * sz)).map borrow1 ++ (zerosN z m).map borrow1)])) :
  OpRes P ((do let r <- Builtin.append_ #[t,t2] ty #[u,v]; pure (Next.value r) : Sem Next).run P w) (KOut F G w R):=by
 subst hsz
 have hs:=hc.l.rel 0 _ _ rfl rfl
 have hv:=hc.l.rel 1 _ _ rfl rfl
 cases hv
 unfold zeroOk at hz
 split at hz
 case h_2 => cases hz
 rename_i i hi
 split at hz
 case h_2 => cases hz
 rename_i zv hz'
 have hcz : zv.cells.size = i.size:=by simpa using hz
 have hce : P.cellsOf e = i.size:=by simp [Program.cellsOf,hi]
 have hbe : P.bytesOf e = i.bytes:=by simp [Program.bytesOf,hi]
 rw [hbe] at hb
 have hlen:=hc.h.len
 obtain ⟨zv2,hrunz,hval,hczz,htz⟩:=zero_sem hzv
 have hzz : zv = zv2:=by
  have:=hrunz w
  simpa [zeroValue,typeInfo,hi,hz'] using this
 subst hzz
 have hz0:=hczz F G w
 cases hs with
 | mslc _ _ _ _ _ b hob hl hm hrow0 =>
  obtain ⟨C0,E0,hrow0,hfit0⟩:=hrow0
  obtain ⟨C,E,hrow,hCs,hC⟩:=hc.h.at_obj ho hob ⟨C0,E0,hrow0⟩
  let olds : List Value:=(C.toList.drop off).take (len * P.cellsOf e)
  have holds : olds = (C.toList.drop off).take (len * P.cellsOf e):=rfl
  have hol : olds.length = len * P.cellsOf e:=by rw [holds]; simp; omega
  have hof:=run_firstCells_some (P:=P) w.drew i.size len ⟨b,off,none⟩ len c olds (by rw [hol,hce]) (fun j v hv => by
   show w.drew.cell? _ = _
   rw [addr_add]
   have : w.cell? ⟨b,off + j,none⟩ = some v:=by
    rw [cell_of_row _ _ _ C E _ hrow]
    rw [holds,List.getElem?_take] at hv
    split at hv
    ·rwa [List.getElem?_drop,Array.getElem?_toList] at hv
    ·cases hv
   simpa using this)
  have hrun:=Go.Lib.run_append_grow_zeros (P:=P) w t t2 ty e i zv kq kn hu hu2 hi hz' (some ⟨b,off,none⟩) len c olds hof m hm0 (by omega) hroom (by omega) (Nat.le_trans (Nat.mul_le_mul_right i.bytes (Nat.le_add_left m len)) (by omega)) (growslice_fits (by omega) hb)
  have hd:=hc.draw
  have hge:=grownCap_ge w (len + m) c e
  have hcm : grownCap w (len + m) c e <= maxLen:=grownCap_le_maxLen w _ c e (by unfold maxLen; omega)
  have hzs : ∀ k,(Builtin.zeroCells zv.cells k).size = k * P.cellsOf e:=fun k => by rw [size_zeroCells,hcz,hce]
  have hXl : (zerosN z m).length = m * P.cellsOf e:=by simp [zerosN,hzl]
  have hsize : (olds.toArray ++ Builtin.zeroCells zv.cells m ++ Builtin.zeroCells zv.cells (grownCap w (len + m) c e - (len + m))).size = grownCap w (len + m) c e * P.cellsOf e:=by
   simp only [Array.size_append,List.size_toArray,hzs,hol,<- Nat.add_mul]
   congr 1; omega
  have hgl : ∀ j,j < m * P.cellsOf e -> (zerosN z m)[j]? = z.cells[j % P.cellsOf e]? /\ (olds.toArray ++ Builtin.zeroCells zv.cells m ++ Builtin.zeroCells zv.cells (grownCap w (len + m) c e - (len + m)))[len * P.cellsOf e + j]? = zv.cells.toList[j % P.cellsOf e]?:=by
   intro j hj
   have hmod : j % P.cellsOf e < P.cellsOf e:=Nat.mod_lt _ hpos
   constructor
   ·unfold zerosN
    rw [List.getElem?_map,List.getElem?_range (by rw [hzl]; exact hj),hzl,Option.map_some,List.getElem?_eq_getElem (by omega)]; rfl
   ·rw [Array.getElem?_append_left (by simp [hzs,hol]; omega),Array.getElem?_append_right (by simp [hol])]
    have e0 : len * P.cellsOf e + j - olds.toArray.size = j:=by simp [hol]
    rw [e0]
    have e1 : (Builtin.zeroCells zv.cells m)[j]? = some (zv.cells[j % zv.cells.size]!):=by
     simp [Builtin.zeroCells,hcz,<- hce,hj]
    rw [e1,hcz,<- hce,Array.getElem?_toList]
    have : j % P.cellsOf e < zv.cells.size:=by omega
    rw [Array.getElem?_eq_getElem this,getElem!_pos zv.cells _ this]
  have hrel : ∀ (i : Nat) (d : AV) (x : Value),(((cs.drop off).take (len * P.cellsOf e)).map borrow1 ++ (zerosN z m).map borrow1)[i]? = some d -> (olds.toArray ++ Builtin.zeroCells zv.cells m ++ Builtin.zeroCells zv.cells (grownCap w (len + m) c e - (len + m)))[i]? = some x -> d.scalar = true /\ VRel G w d x /\ d = borrow1 d:=by
   intro i d x hd hx
   have hl1 : (((cs.drop off).take (len * P.cellsOf e)).map borrow1).length = len * P.cellsOf e:=by simp; omega
   by_cases hlt : i < len * P.cellsOf e
   ·rw [List.getElem?_append_left (by omega),List.getElem?_map,List.getElem?_take,if_pos hlt,List.getElem?_drop] at hd
    rw [Array.append_assoc,Array.getElem?_append_left (by simpa [hol] using hlt),List.getElem?_toArray,holds,List.getElem?_take,if_pos hlt,List.getElem?_drop] at hx
    cases hci : cs[off + i]? with
    | none => rw [hci] at hd; cases hd
    | some c0 =>
     rw [hci] at hd; cases hd
     have hlt3:=(List.getElem?_eq_some_iff.1 hci).1
     obtain ⟨g1,g2,_⟩:=hC.at_ _ c0 x hci (by rw [List.getElem?_take,if_pos hlt3]; exact hx)
     exact ⟨(scalar_borrow1 c0).trans g1,g2.borrow1,(by cases c0 <;> rfl)⟩
   ·obtain ⟨j,rfl⟩ : ∃ j,i = len * P.cellsOf e + j:=⟨i - len * P.cellsOf e,by omega⟩
    rw [List.getElem?_append_right (by omega),hl1,Nat.add_sub_cancel_left] at hd
    rw [List.getElem?_map] at hd
    have hj : j < m * P.cellsOf e:=by
     have:=(List.getElem?_eq_some_iff.1 ((List.getElem?_map ..).trans hd)).1
     rw [List.length_map] at this; omega
    obtain ⟨g1,g2⟩:=hgl j hj
    rw [g1] at hd
    rw [g2] at hx
    cases hz1 : z.cells[j % P.cellsOf e]? with
    | none => rw [hz1] at hd; cases hd
    | some d0 =>
     rw [hz1] at hd; cases hd
     obtain ⟨s1,s2,_⟩:=hz0.at_ _ d0 x hz1 hx
     exact ⟨(scalar_borrow1 d0).trans s1,s2.borrow1,by cases d0 <;> rfl⟩
  refine .value (by rw [Sem.run_bind,hrun]; rfl) ⟨_,_,_,hr, ?_,ext_draw.trans (ext_newObj hd.h.fore _)⟩
  exact hd.newObj (((cs.drop off).take (len * P.cellsOf e)).map borrow1 ++ (zerosN z m).map borrow1) (olds.toArray ++ Builtin.zeroCells zv.cells m ++ Builtin.zeroCells zv.cells (grownCap w (len + m) c e - (len + m))) e
   (by rw [hsize]; simp [hXl]; rw [Nat.min_eq_left (by omega),<- Nat.add_mul]; exact Nat.mul_le_mul_right _ hge)
   (fun i d x h1 h2 => by
    obtain ⟨g1,g2,g3⟩:=hrel i d x h1 h2
    exact ⟨g1,g2.keep (ext_draw (F:=F)).keeps,TokOk.of_none (by rw [g3]; exact tok_borrow1 d _)⟩)
   (fun x => by
    have : ((((cs.drop off).take (len * P.cellsOf e)).map borrow1 ++ (zerosN z m).map borrow1).zip (olds.toArray ++ Builtin.zeroCells zv.cells m ++ Builtin.zeroCells zv.cells (grownCap w (len + m) c e - (len + m))).toList).filterMap tok = []:=by
     rw [List.filterMap_eq_nil_iff]
     intro p hp
     obtain ⟨i,hi⟩:=List.getElem?_of_mem hp
     rw [List.getElem?_zip_eq_some] at hi
     obtain ⟨g1,g2,g3⟩:=hrel i p.1 p.2 hi.1 (by rw [<- Array.getElem?_toList]; exact hi.2)
     obtain ⟨p1,p2⟩:=p
     simp only at g3
     rw [g3]; exact tok_borrow1 p1 p2
    rw [this]; simp)
   (v:=.msl H.length 0 (len + m) (P.cellsOf e)) (u:=.slice (some ⟨w.heap.size,0,none⟩) (len + m) (grownCap w (len + m) c e))
   (.msl _ _ _ _ w.heap.size _ (by
    show (G.obs ++ [w.drew.heap.size])[H.length]? = _
    rw [List.getElem?_append_right (by omega),hlen]; simp) hge hcm ⟨_,e,heap_alloc_new _ _,by rw [hsize]; omega⟩) (toks_scalar rfl rfl _)
theorem ok_overlaps {tS tR e ob ob2 off off2 len len2 sz sz2 c2 : Nat} {u v : Value} (hc : CRel F G [.msl ob off len sz,.mslc ob2 off2 len2 sz2 c2] H [u,v] w) (hne : ob ≠ ob2) (hu : P.underlying tS = some (.slice e)) (hz : (P.info? e).isSome = true) (hl : ∃ cs,H[ob]? = some (some cs)) (hl2 : ∃ cs,H[ob2]? = some (some cs)) (hp : 0 < len2 * sz2)
  : (Extern.SlicesOverlaps.overlaps #[tS,tS] #[tR] #[u,v]).run P w = .ok (.bool false) w:=by
 have hx:=hc.l.rel 0 _ _ rfl rfl
 have hy:=hc.l.rel 1 _ _ rfl rfl
 obtain ⟨i,hi'⟩:=Option.isSome_iff_exists.1 hz
 have hsize : ∀ w,(sizeOf e).run P w = .ok (P.cellsOf e) w:=fun w => by simp [sizeOf,typeInfo,hi',Program.cellsOf]
 obtain ⟨cs,hl⟩:=hl
 obtain ⟨cs2,hl2⟩:=hl2
 cases hx with
 | msl _ _ _ _ b cap hb hlc hm hrow =>
  cases hy with
  | mslc _ _ _ _ _ b2 hb2 hlc2 hm2 hrow2 =>
   obtain ⟨C,E,hrow,hfit⟩:=hrow
   obtain ⟨C2,E2,hrow2,hfit2⟩:=hrow2
   have hbb : b ≠ b2:=by
    rintro rfl
    exact hne (hc.h.inj _ _ _ _ _ hl hl2 hb hb2)
   have hcs : 0 < C2.size:=by
    have:=Nat.mul_le_mul_right sz2 hlc2
    omega
   refine Go.Lib.run_overlaps_apart w tS tR e hu _ hsize ⟨b,off,none⟩ ⟨b2,off2,none⟩ len cap len2 c2 hbb E E2 C.size C2.size ?_ ?_ (by omega) ?_ ?_
   ·simp [World.shape?,hrow]
   ·simp [World.shape?,hrow2]
   ·simp [World.frozen?,hrow]
   ·simp [World.frozen?,hrow]
theorem ok_acopy {t t2 ty : Nat} {a b : AV} {u v : Value} (hc : CRel F G [a,b] H [u,v] w) (hr : acopy P t a b H R) :
  OpRes P ((do let r <- Builtin.copy_ #[t,t2] ty #[u,v]; pure (Next.value r) : Sem Next).run P w) (KOut F G w R):=by
 unfold acopy at hr
 split at hr
 ·rename_i e ob off len sz gr n hu hrow hn
  split at hr
  ·rename_i cs ho
   obtain ⟨⟨h1,h2,h3,h4,h5⟩,hr⟩:=hr
   split at hr
   ·rename_i X hs
    have hx:=hc.l.rel 0 _ _ rfl rfl
    cases a <;> simp only [crow] at hrow <;> cases hrow
    ·cases hx with
     | msl _ _ _ _ b cap hb hl hm hrw => exact ok_copy hc hu h1 h2 rfl hb hrw hl ho h3 h4 hn hs hr
    ·cases hx with
     | mslc _ _ _ _ _ b hb hl hm hrw => exact ok_copy hc hu h1 h2 rfl hb hrw hl ho h3 h4 hn hs hr
   ·exact hr.elim
  ·exact hr.elim
 ·exact hr.elim
theorem ok_apz {t t2 ty : Nat} {mt : Bool} {a b : AV} {u v : Value} (hc : CRel F G [a,b] H [u,v] w) (hr : apz P t t2 mt a b H R) :
  OpRes P ((do let r <- Builtin.append_ #[t,t2] ty #[u,v]; pure (Next.value r) : Sem Next).run P w) (KOut F G w R):=by
 unfold apz at hr
 split at hr
 ·rename_i e kn ob off len sz c k m hu hu2
  split at hr
  ·rename_i cs ho
   obtain ⟨z,h1,⟨h3,h4,h5,h6,h7,h8,h9,h10,h11⟩,hr⟩:=hr
   obtain ⟨m,rfl⟩ : ∃ j : Nat,m = (j : Int):=⟨m.toNat,by omega⟩
   rw [Int.toNat_natCast] at h10 h11 hr
   exact ok_append_zeros hc ho hu hu2 h5 h6 h7 h1 h3 h4 (by omega) (by omega) h10 h11 hr
  ·exact hr.elim
 ·exact hr.elim
end
end Go.AI
