/- That the model's operations do what 'ares' says: appends and calls; all operations together. -/
import Derived.Test.YtofajkggflobkaaGreatDoorAiQ
set_option linter.unusedSimpArgs false
set_option linter.unusedVariables false
namespace Go.AI
section
variable {P : Program} {F : Nat -> Prop} {G : Gh} {w : World} {H : Heap} {R : AV -> Heap -> Prop}
theorem ok_slice_str {t : Nat} {s : ByteArray} {u : Value} {rest : List AV} {urest : List Value} {lo hi mx : Option Value} {l h : Option Int} (hc : CRel F G (.str s :: rest) H (u :: urest) w) (hu : P.underlying t = some .string)
  (hl : OptB lo l) (hh : OptB hi h) (hm : mx = none) (h0 : 0 <= l.getD 0) (h1 : l.getD 0 <= h.getD s.size) (h2 : h.getD s.size <= s.size)
  (hr : R (.str (s.extract (l.getD 0).toNat (h.getD s.size).toNat)) H) :
  OpRes P ((do let r <- Instr.sliceAt t u lo hi mx; pure (Next.value r) : Sem Next).run P w) (KOut F G w R):=by
 have hx:=hc.l.rel 0 _ _ rfl rfl
 cases hx
 subst hm
 have hb:=run_sliceBounds (P:=P) (isSlice:=false) (len:=s.size) (cap:=s.size) hl hh .none (fun h => by cases h) h0 h1 (by simpa using h2) (by simp) w
 refine .value (u:=.string _) (w':=w) ?_ (KOut.plain hc hr (.str _) (toks_scalar rfl rfl _))
 simp only [Instr.sliceAt,Instr.slice,Sem.run_bind,run_underlying hu,Result.andThen_ok]
 simp [hb]
theorem ok_len_sl {t e ty : Nat} {own : Option Nat} {es : List AV} {u : Value} {ts : Array TypeId} (hc : CRel F G [.sl own es] H [u] w) (ht : ts[0]? = some t) (hu : P.underlying t = some (.slice e)) (hr : R (.int .i64 es.length) H) :
  OpRes P ((do let r <- Builtin.len_ ts ty #[u]; pure (Next.value r) : Sem Next).run P w) (KOut F G w R):=by
 have hx:=hc.l.rel 0 _ _ rfl rfl
 cases hx with
 | slnil => exact .value (by simp [Builtin.len_,ht,run_underlying hu,goInt]) (KOut.plain hc hr (.int _ _) (toks_scalar rfl rfl _))
 | slany => exact .value (by simp [Builtin.len_,ht,run_underlying hu,goInt]) (KOut.plain hc hr (.int _ _) (toks_scalar rfl rfl _))
 | sl => exact .value (by simp [Builtin.len_,ht,run_underlying hu,goInt]) (KOut.plain hc hr (.int _ _) (toks_scalar rfl rfl _))
theorem ok_len_msl {t e ty ob off len sz : Nat} {u : Value} {ts : Array TypeId} (hc : CRel F G [.msl ob off len sz] H [u] w) (ht : ts[0]? = some t) (hu : P.underlying t = some (.slice e)) (hr : R (.int .i64 len) H) :
  OpRes P ((do let r <- Builtin.len_ ts ty #[u]; pure (Next.value r) : Sem Next).run P w) (KOut F G w R):=by
 have hx:=hc.l.rel 0 _ _ rfl rfl
 cases hx
 exact .value (by simp [Builtin.len_,ht,run_underlying hu,goInt]) (KOut.plain hc hr (.int _ _) (toks_scalar rfl rfl _))
theorem ok_len_str {t ty : Nat} {s : ByteArray} {u : Value} {ts : Array TypeId} (hc : CRel F G [.str s] H [u] w) (ht : ts[0]? = some t) (hu : P.underlying t = some .string) (hr : R (.int .i64 s.size) H) :
  OpRes P ((do let r <- Builtin.len_ ts ty #[u]; pure (Next.value r) : Sem Next).run P w) (KOut F G w R):=by
 have hx:=hc.l.rel 0 _ _ rfl rfl
 cases hx
 exact .value (by simp [Builtin.len_,ht,run_underlying hu,goInt]) (KOut.plain hc hr (.int _ _) (toks_scalar rfl rfl _))
theorem ok_len_arr {t e ty n : Nat} {x : AV} {u : Value} {ts : Array TypeId} (hc : CRel F G [x] H [u] w) (ht : ts[0]? = some t) (hu : P.underlying t = some (.array n e)) (hr : R (.int .i64 n) H) :
  OpRes P ((do let r <- Builtin.len_ ts ty #[u]; pure (Next.value r) : Sem Next).run P w) (KOut F G w R) :=
 .value (by simp [Builtin.len_,ht,run_underlying hu,goInt]) (KOut.plain hc hr (.int _ _) (toks_scalar rfl rfl _))
theorem ok_min {k : IntKind} {a b : Int} {u v : Value} {ts : Array TypeId} {ty : Nat} (hc : CRel F G [.int k a,.int k b] H [u,v] w) (hr : R (.int k (if b < a then b else a)) H) :
  OpRes P ((do let r <- Builtin.min_ ts ty #[u,v]; pure (Next.value r) : Sem Next).run P w) (KOut F G w R):=by
 have hx:=hc.l.rel 0 _ _ rfl rfl
 have hy:=hc.l.rel 1 _ _ rfl rfl
 cases hx; cases hy
 exact .value (by simp [Builtin.min_,Builtin.min2]) (KOut.plain hc hr (.int _ _) (toks_scalar rfl rfl _))
theorem ok_max {k : IntKind} {a b : Int} {u v : Value} {ts : Array TypeId} {ty : Nat} (hc : CRel F G [.int k a,.int k b] H [u,v] w) (hr : R (.int k (if b > a then b else a)) H) :
  OpRes P ((do let r <- Builtin.max_ ts ty #[u,v]; pure (Next.value r) : Sem Next).run P w) (KOut F G w R):=by
 have hx:=hc.l.rel 0 _ _ rfl rfl
 have hy:=hc.l.rel 1 _ _ rfl rfl
 cases hx; cases hy
 exact .value (by simp [Builtin.max_,Builtin.max2]) (KOut.plain hc hr (.int _ _) (toks_scalar rfl rfl _))
def Src (G : Gh) (w : World) (n : Nat) (xs : List AV) (u : Value) : Prop :=
 (u = .slice none 0 0 /\ xs = []) \/ ∃ (a : Addr) (c : Nat) (news : List Value),u = .slice (some a) xs.length c /\ news.length = xs.length * n /\ (∀ (j : Nat) (v : Value),news[j]? = some v -> w.cell? (a.add j) = some v) /\
   (∀ v ∈ news,v.oneCell' = true) /\ ∀ (i : Nat) (c : AV),(cat xs)[i]? = some c -> c.scalar = true /\ ∃ v,news[i]? = some v /\ VRel G w c v
theorem appended_cells {own : Option Nat} {xs : List AV} {n : Nat} (hn : ∀ x ∈ xs,x.cells.length = n) {u : Value} (h : VRel G w (.sl own xs) u) :
  (u = .slice none 0 0 /\ xs = []) \/ ∃ (a : Addr) (c : Nat) (news : List Value),u = .slice (some a) xs.length c /\ news.length = xs.length * n /\ (∀ (j : Nat) (v : Value),news[j]? = some v -> w.cell? (a.add j) = some v) /\
   (∀ v ∈ news,v.oneCell' = true) /\ ∀ (i : Nat) (c : AV),(cat xs)[i]? = some c -> c.scalar = true /\ ∃ v,news[i]? = some v /\ VRel G w c v:=by
 cases h with
 | slnil => exact .inl ⟨rfl,rfl⟩
 | slany _ a => exact .inr ⟨a,0,[],rfl,by simp,fun j v hv => by simp at hv,fun v hv => by simp at hv,fun i c hi => by simp [cat] at hi⟩
 | sl _ _ sz b q cap f hsz hown hl hm hcs hus =>
  have hcl:=cat_length hn
  have hget : ∀ i,i < xs.length * n -> ∃ c,(cat xs)[i]? = some c:=fun i hi => ⟨_,List.getElem?_eq_getElem (by omega)⟩
  refine .inr ⟨⟨b,q,none⟩,cap,(List.range (xs.length * n)).map f,rfl,by simp,fun j v hv => ?_,fun v hv => ?_,fun i c hi => ?_⟩
  ·have hj : j < xs.length * n:=by have:=(List.getElem?_eq_some_iff.1 hv).1; simpa using this
   simp [hj] at hv
   subst hv
   obtain ⟨c,hc⟩:=hget j hj
   rw [addr_add]
   exact (hcs j c hc).2.2
  ·obtain ⟨j,hj,rfl⟩:=List.mem_map.1 hv
   obtain ⟨c,hc⟩:=hget j (List.mem_range.1 hj)
   exact oneCell_of (hcs j c hc).1 (hus j c hc)
  ·have hi' : i < xs.length * n:=by have:=(List.getElem?_eq_some_iff.1 hi).1; omega
   exact ⟨(hcs i c hi).1,f i,by simp [hi'],hus i c hi⟩
theorem grown_get {olds news rest : List Value} (i : Nat) (h : i < olds.length + news.length) :
  (olds.toArray ++ news.toArray ++ rest.toArray)[i]? = (olds ++ news)[i]?:=by
 have e : olds.toArray ++ news.toArray ++ rest.toArray = (olds ++ news ++ rest).toArray:=by simp
 rw [e,List.getElem?_toArray,List.getElem?_append_left (by simpa using h)]
theorem ok_append {t e ty : Nat} {sv : AV} {es xs : List AV} {u v : Value} (hc : CRel F G [.sl (some (P.cellsOf e)) es,sv] H [u,v] w) (hx : Src G w (P.cellsOf e) xs v) (hu : P.underlying t = some (.slice e)) (hpos : 0 < P.cellsOf e)
  (hxs : ∀ x ∈ xs,x.cells.length = P.cellsOf e) (hz : zeroOk P e = true) (hb : (es.length + xs.length) * P.bytesOf e <= 140737488355328) (h63 : es.length + xs.length <= 9223372036854775807)
  (hr : R (.sl (some (P.cellsOf e)) (es ++ xs)) H) :
  OpRes P ((do let r <- Builtin.append_ #[t,t] ty #[u,v]; pure (Next.value r) : Sem Next).run P w) (KOut F G w R):=by
 have hs:=hc.l.rel 0 _ _ rfl rfl
 unfold zeroOk at hz
 split at hz
 case h_2 => cases hz
 rename_i i hi
 split at hz
 case h_2 => cases hz
 rename_i z hz'
 have hcz : z.cells.size = i.size:=by simpa using hz
 have hce : P.cellsOf e = i.size:=by simp [Program.cellsOf,hi]
 have hbe : P.bytesOf e = i.bytes:=by simp [Program.bytesOf,hi]
 rw [hbe] at hb
 have hes : ∀ x ∈ es,x.cells.length = P.cellsOf e:=by
  intro x hx'
  cases hs with
  | slnil => simp at hx'
  | slany => simp at hx'
  | sl _ _ sz b q cap f hsz hown _ _ _ _ => rw [hsz x hx',<- (hown _ rfl).1]
 have moved : ∀ (olds news : List Value) (old : Nat),olds.length = es.length * P.cellsOf e -> news.length = xs.length * P.cellsOf e ->
   (∀ (i : Nat) (c : AV),(cat es)[i]? = some c -> c.scalar = true /\ ∃ v,olds[i]? = some v /\ VRel G w c v) ->
   (∀ (i : Nat) (c : AV),(cat xs)[i]? = some c -> c.scalar = true /\ ∃ v,news[i]? = some v /\ VRel G w c v) ->
   ∃ G',CRel F G' [.sl (some (P.cellsOf e)) (es ++ xs)] H [.slice (some ⟨w.heap.size,0,none⟩) (es.length + xs.length) (grownCap w (es.length + xs.length) old e)]
    (w.drew.alloc (.cells (olds.toArray ++ news.toArray ++ Builtin.zeroCells z.cells (grownCap w (es.length + xs.length) old e - (es.length + xs.length))) e)) /\
    Ext F G w G' (w.drew.alloc (.cells (olds.toArray ++ news.toArray ++ Builtin.zeroCells z.cells (grownCap w (es.length + xs.length) old e - (es.length + xs.length))) e)):=by
  intro olds news old ho hn hoc hnc
  have hge:=grownCap_ge w (es.length + xs.length) old e
  have hcm : grownCap w (es.length + xs.length) old e <= maxLen:=grownCap_le_maxLen w _ old e (by unfold maxLen; omega)
  have hall : ∀ x ∈ es ++ xs,x.cells.length = P.cellsOf e:=fun x hx => by
   rcases List.mem_append.1 hx with h | h
   ·exact hes x h
   ·exact hxs x h
  have hd:=hc.draw
  have hce1:=cat_length hes
  have hce2:=cat_length hxs
  obtain ⟨G',h1,h2⟩:=hd.newList (es ++ xs) (P.cellsOf e) (grownCap w (es.length + xs.length) old e)
   (olds.toArray ++ news.toArray ++ Builtin.zeroCells z.cells (grownCap w (es.length + xs.length) old e - (es.length + xs.length))) e hpos hall (by simpa using hge) hcm (by
    simp only [Array.size_append,List.size_toArray,size_zeroCells,hcz,ho,hn,<- hce,<- Nat.add_mul]
    exact Nat.mul_le_mul_right _ (by omega)) (fun i c hi' => by
    rw [cat_append] at hi'
    have hlt:=(List.getElem?_eq_some_iff.1 hi').1
    simp only [List.length_append] at hlt
    have e0:=grown_get (olds:=olds) (news:=news) (rest:=(Builtin.zeroCells z.cells (grownCap w (es.length + xs.length) old e - (es.length + xs.length))).toList) i (by omega)
    rw [Array.toArray_toList] at e0
    rw [e0]
    by_cases hlo : i < (cat es).length
    ·rw [List.getElem?_append_left hlo] at hi'
     rw [List.getElem?_append_left (by omega)]
     obtain ⟨s1,v,s2,s3⟩:=hoc i c hi'
     exact ⟨s1,v,s2,s3.keep (ext_draw (F:=F)).keeps⟩
    ·rw [List.getElem?_append_right (by omega)] at hi'
     rw [List.getElem?_append_right (by omega),ho,<- hce1]
     obtain ⟨s1,v,s2,s3⟩:=hnc _ c hi'
     exact ⟨s1,v,s2,s3.keep (ext_draw (F:=F)).keeps⟩)
  simp only [List.length_append] at h1
  exact ⟨G',h1,ext_draw.trans h2⟩
 have hlenle : es.length + xs.length <= 9223372036854775807:=h63
 cases hs with
 | slnil own =>
  rcases hx with ⟨rfl,rfl⟩ | ⟨a,c,news,rfl,hnl,hnews,hone,hcell⟩
  ·refine .value (u:=.slice none 0 0) (w':=w) ?_ (KOut.plain (v:=.sl (some (P.cellsOf e)) []) hc (by simpa using hr) (.slnil _) (by simp [toks,prs,AV.flat,AV.cells,vflat,Value.cells,tok]))
   simp [Builtin.append_,run_underlying hu,sizeOf,typeInfo,hi,Builtin.lenOf,Builtin.firstCells]
  ·by_cases h0 : xs = []
   ·subst h0
    have : news = []:=List.eq_nil_of_length_eq_zero (by simpa using hnl)
    subst this
    refine .value (u:=.slice none 0 0) (w':=w) ?_ (KOut.plain (v:=.sl (some (P.cellsOf e)) []) hc (by simpa using hr) (.slnil _) (by simp [toks,prs,AV.flat,AV.cells,vflat,Value.cells,tok]))
    simp [Builtin.append_,run_underlying hu,sizeOf,typeInfo,hi,Builtin.lenOf,Builtin.firstCells,loadCells,loadCellsFrom]
   ·have hpos2 : 0 < xs.length:=List.length_pos_iff.2 h0
    have hrun:=run_append_nil (P:=P) w t ty e i z hu hi hz' a xs.length c news (by rw [hnl,hce]) hnews hpos2 (by simp at h63; omega) (by simp at hb; omega)
    obtain ⟨G',g1,g2⟩:=moved [] news 0 (by simp) hnl (fun i c hi' => by simp [cat] at hi') hcell
    simp only [List.length_nil,Nat.zero_add,Array.empty_append,List.nil_append] at g1 g2 hr
    have e0 : (#[] : Array Value) ++ news.toArray = news.toArray:=by simp
    exact .value (by rw [Sem.run_bind,hrun]; rfl) ⟨_,H,G',hr,by simpa using g1,by simpa using g2⟩
 | slany own ad =>
  rcases hx with ⟨rfl,rfl⟩ | ⟨a,c,news,rfl,hnl,hnews,hone,hcell⟩
  ·refine .value (u:=.slice (some ad) 0 0) (w':=w) ?_ (KOut.plain (v:=.sl (some (P.cellsOf e)) []) hc (by simpa using hr) (.slany _ _) (by simp [toks,prs,AV.flat,AV.cells,vflat,Value.cells,tok]))
   simp [Builtin.append_,run_underlying hu,sizeOf,typeInfo,hi,Builtin.lenOf,Builtin.firstCells,storeCells]
  ·by_cases h0 : xs = []
   ·subst h0
    have : news = []:=List.eq_nil_of_length_eq_zero (by simpa using hnl)
    subst this
    refine .value (u:=.slice (some ad) 0 0) (w':=w) ?_ (KOut.plain (v:=.sl (some (P.cellsOf e)) []) hc (by simpa using hr) (.slany _ _) (by simp [toks,prs,AV.flat,AV.cells,vflat,Value.cells,tok]))
    simp [Builtin.append_,run_underlying hu,sizeOf,typeInfo,hi,Builtin.lenOf,Builtin.firstCells,loadCells,loadCellsFrom,storeCells]
   ·have hpos2 : 0 < xs.length:=List.length_pos_iff.2 h0
    have hrun:=run_append_grow (P:=P) w t ty e i z hu hi hz' ad 0 0 [] (by simp) (fun j v hv => by simp at hv) a xs.length c news (by rw [hnl,hce]) hnews (by omega) (by omega) (growslice_fits (by simpa using hpos2) (by simpa using hb))
    obtain ⟨G',g1,g2⟩:=moved [] news 0 (by simp) hnl (fun i c hi' => by simp [cat] at hi') hcell
    simp only [List.length_nil,Nat.zero_add,Array.empty_append,List.nil_append] at g1 g2 hr
    exact .value (by rw [Sem.run_bind,hrun]; rfl) ⟨_,H,G',hr,by simpa using g1,by simpa using g2⟩
 | sl own es' sz b q cap f hsz hown hle hmx hcs hus =>
  have hs' : VRel G w (.sl (some (P.cellsOf e)) es) (.slice (some ⟨b,q,none⟩) es.length cap):=.sl _ es sz b q cap f hsz hown hle hmx hcs hus
  rcases hx with ⟨rfl,rfl⟩ | ⟨a,c,news,rfl,hnl,hnews,hone,hcell⟩
  ·refine .value (u:=.slice (some ⟨b,q,none⟩) es.length cap) (w':=w) ?_ (KOut.same (hc.get (i:=0) rfl rfl) (by simpa using hr))
   simp [Builtin.append_,run_underlying hu,sizeOf,typeInfo,hi,Builtin.lenOf,Builtin.firstCells,hle,storeCells]
  ·by_cases hroom : es.length + xs.length <= cap
   ·by_cases h0 : xs = []
    ·subst h0
     have : news = []:=List.eq_nil_of_length_eq_zero (by simpa using hnl)
     subst this
     refine .value (u:=.slice (some ⟨b,q,none⟩) es.length cap) (w':=w) ?_ (KOut.same (hc.get (i:=0) rfl rfl) (by simpa using hr))
     simp [Builtin.append_,run_underlying hu,sizeOf,typeInfo,hi,Builtin.lenOf,Builtin.firstCells,loadCells,loadCellsFrom,hle,storeCells]
    ·have hpos2 : 0 < xs.length:=List.length_pos_iff.2 h0
     have htok:=hc.l.tok 0 _ _ rfl rfl (.sl (some (P.cellsOf e)) es,.slice (some ⟨b,q,none⟩) es.length cap) (by rw [prs_sl _ _ _ _ _ _ rfl]; simp)
     obtain ⟨_,_,C,E,hrow,_⟩:=htok (by omega)
     replace hrow : w.heap[b]? = some (.cells C E (0,0)):=hrow
     obtain ⟨hfit,G',g1,g2⟩:=hc.appendIn (i0:=0) rfl rfl hroom (by omega) hxs news hnl hcell hrow
     have hf:=run_firstCells_some (P:=P) w i.size xs.length a xs.length c news (by rw [hnl,hce]) hnews
     have hst:=run_storeCells_at P b (q + es.length * P.cellsOf e) E news 0 C w hrow (by omega) hone
     simp only [Nat.add_zero] at hst
     refine .value ?_ ⟨_,H,G',hr,g1,g2⟩
     rw [hce] at hst
     rw [hce]
     simp [Builtin.append_,run_underlying hu,sizeOf,typeInfo,hi,Builtin.lenOf,hroom,hf,addr_add,hst]
   ·have hrun:=run_append_grow (P:=P) w t ty e i z hu hi hz' ⟨b,q,none⟩ es.length cap ((List.range (es.length * P.cellsOf e)).map f) (by simp [hce]) (fun j v hv => by
      have hj : j < es.length * P.cellsOf e:=by have:=(List.getElem?_eq_some_iff.1 hv).1; simpa using this
      simp [hj] at hv
      subst hv
      have hcl:=cat_length hes
      rw [addr_add]
      exact (hcs j _ (List.getElem?_eq_getElem (by omega))).2.2) a xs.length c news (by rw [hnl,hce]) hnews (by omega) (by omega) (growslice_fits (by omega) hb)
    obtain ⟨G',g1,g2⟩:=moved ((List.range (es.length * P.cellsOf e)).map f) news cap (by simp) hnl (fun i c hi' => by
      have hi2 : i < es.length * P.cellsOf e:=by have:=(List.getElem?_eq_some_iff.1 hi').1; rw [cat_length hes] at this; exact this
      exact ⟨(hcs i c hi').1,f i,by simp [hi2],hus i c hi'⟩) hcell
    exact .value (by rw [Sem.run_bind,hrun]; rfl) ⟨_,H,G',hr,g1,g2⟩
theorem src_ok {e : TypeId} {rd : Bool} {a b : AV} {u v : Value} {xs : List AV} (hc : CRel F G [a,b] H [u,v] w) (hs : asrc P e rd H b = some xs) (hn : ∀ x ∈ xs,x.cells.length = P.cellsOf e) : Src G w (P.cellsOf e) xs v:=by
 have hx:=hc.l.rel 1 _ _ rfl rfl
 unfold asrc at hs
 split at hs
 ·cases hs
  exact appended_cells hn hx
 ·rename_i ob off len sz
  split at hs
  ·rename_i cs ho
   split at hs
   ·rename_i hcond
    cases hs
    obtain ⟨hle,rfl,hag⟩:=hcond
    cases hx with
    | msl _ _ _ _ b cap hb hl hm hrow =>
     obtain ⟨C,E,hrow,hlC,hC⟩:=((hc.h.obj ob cs b ho hb).of_cells hrow.choose_spec.choose_spec.1).2
     have hsc : ∀ c ∈ (cs.drop off).map borrow1,c.scalar = true:=by
      intro c hcm
      obtain ⟨d,hd,rfl⟩:=List.mem_map.1 hcm
      obtain ⟨i,hi⟩:=List.getElem?_of_mem hd
      rw [List.getElem?_drop] at hi
      have hlt:=(List.getElem?_eq_some_iff.1 hi).1
      rw [scalar_borrow1]
      exact (hC _ d _ hi (Array.getElem?_eq_getElem (by omega))).1
     obtain ⟨hcat,_⟩:=chunk_cells (aggTy P e) (P.cellsOf e) hag len ((cs.drop off).map borrow1) (by simp; omega) hsc
     have hcell : ∀ j,j < len * P.cellsOf e -> ∃ x,C[off + j]? = some x /\ w.cell? ⟨b,off + j,none⟩ = some x /\ ∀ c,cs[off + j]? = some c -> c.scalar = true /\ VRel G w c x:=by
      intro j hj
      have hlt : off + j < C.size:=by omega
      refine ⟨C[off + j],Array.getElem?_eq_getElem hlt, ?_,fun c hcj => ?_⟩
      ·rw [cell_of_row _ _ _ C E _ hrow]; exact Array.getElem?_eq_getElem hlt
      ·have:=hC _ c _ hcj (Array.getElem?_eq_getElem hlt)
       exact ⟨this.1,this.2.1⟩
     refine .inr ⟨⟨b,off,none⟩,cap,((C.toList.drop off).take (len * P.cellsOf e)),by rw [chunk_length],by rw [chunk_length]; simp; omega,fun j x hx => ?_,fun x hx => ?_,fun i c hi => ?_⟩
     ·have hj : j < len * P.cellsOf e:=by have:=(List.getElem?_eq_some_iff.1 hx).1; simp at this; omega
      rw [List.getElem?_take_of_lt hj,List.getElem?_drop,Array.getElem?_toList] at hx
      obtain ⟨y,h1,h2,_⟩:=hcell j hj
      rw [h1] at hx; cases hx
      rw [addr_add]; exact h2
     ·obtain ⟨j,hj'⟩:=List.getElem?_of_mem hx
      have hj : j < len * P.cellsOf e:=by have:=(List.getElem?_eq_some_iff.1 hj').1; simp at this; omega
      rw [List.getElem?_take_of_lt hj,List.getElem?_drop,Array.getElem?_toList] at hj'
      obtain ⟨y,h1,_,h3⟩:=hcell j hj
      rw [h1] at hj'; cases hj'
      obtain ⟨s1,s2⟩:=h3 _ (List.getElem?_eq_getElem (by omega))
      exact oneCell_of s1 s2
     ·rw [hcat] at hi
      have hj : i < len * P.cellsOf e:=by have:=(List.getElem?_eq_some_iff.1 hi).1; simp at this; omega
      rw [List.getElem?_take_of_lt hj,List.getElem?_map,List.getElem?_drop] at hi
      obtain ⟨y,h1,_,h3⟩:=hcell i hj
      cases hd : cs[off + i]? with
      | none => rw [hd] at hi; cases hi
      | some d =>
       rw [hd] at hi; cases hi
       obtain ⟨s1,s2⟩:=h3 d hd
       exact ⟨(scalar_borrow1 d).trans s1,y,by rw [List.getElem?_take_of_lt hj,List.getElem?_drop,Array.getElem?_toList]; exact h1,s2.borrow1⟩
   ·cases hs
  ·cases hs
 ·cases hs
end
end Go.AI
