/- That the model's operations do what 'ares' says: appends and calls; all operations together. -/
import Derived.Test.YtofajkggflobkaaGreatDoorLa
import Derived.Maps.RangeRun
import Derived.Lib.AppendZerosOnto
import Derived.Lib.Overlaps
namespace Go.AI
section
variable {P : Program} {F : Nat -> Prop} {G : Gh} {w : World} {H : Heap} {R : AV -> Heap -> Prop}
theorem ok_slice_str {t : Nat} {s : ByteArray} {u : Value} {rest : List AV} {urest : List Value} {lo hi mx : Option Value} {l h : Option Int} (hc : CRel F G (.str s :: rest) H (u :: urest) w) (hu : P.underlying t = some .string)
  (hl : OptB lo l) (hh : OptB hi h) (hm : mx = none) (h0 : 0 <= l.getD 0) (h1 : l.getD 0 <= h.getD s.size) (h2 : h.getD s.size <= s.size)
  (hr : R (.str (s.extract (l.getD 0).toNat (h.getD s.size).toNat)) H) :
  OpRes P ((do let r <- Instr.sliceAt t u lo hi mx; pure (Next.value r) : Sem Next).run P w) (KOut F G w R):=by
 have hx:=hc.l.rel 0 _ _ rfl rfl
 cases hx
 subst hm
 have hb:=run_sliceBounds (P:=P) (isSlice:=false) (len:=s.size) (cap:=s.size) hl hh .none (fun h => by cases h) h0 h1 (by simpa using h2) (by simp) w
 refine .value (u:=.string _) (w':=w) ?_ (KOut.plain hc hr (.str _) (toks_scalar rfl rfl _))
 simp only [Instr.sliceAt,Instr.slice,Sem.run_bind,run_underlying hu,Result.andThen_ok]
 simp [hb]
theorem ok_len_sl {t e ty : Nat} {own : Option Nat} {es : List AV} {u : Value} {ts : Array TypeId} (hc : CRel F G [.sl own es] H [u] w) (ht : ts[0]? = some t) (hu : P.underlying t = some (.slice e)) (hr : R (.int .i64 es.length) H) :
  OpRes P ((do let r <- Builtin.len_ ts ty #[u]; pure (Next.value r) : Sem Next).run P w) (KOut F G w R):=by
 have hx:=hc.l.rel 0 _ _ rfl rfl
 cases hx with
 | slnil => exact .value (by simp [Builtin.len_,ht,run_underlying hu,goInt]) (KOut.plain hc hr (.int _ _) (toks_scalar rfl rfl _))
 | slany => exact .value (by simp [Builtin.len_,ht,run_underlying hu,goInt]) (KOut.plain hc hr (.int _ _) (toks_scalar rfl rfl _))
 | sl => exact .value (by simp [Builtin.len_,ht,run_underlying hu,goInt]) (KOut.plain hc hr (.int _ _) (toks_scalar rfl rfl _))
theorem ok_len_msl {t e ty ob off len sz : Nat} {u : Value} {ts : Array TypeId} (hc : CRel F G [.msl ob off len sz] H [u] w) (ht : ts[0]? = some t) (hu : P.underlying t = some (.slice e)) (hr : R (.int .i64 len) H) :
  OpRes P ((do let r <- Builtin.len_ ts ty #[u]; pure (Next.value r) : Sem Next).run P w) (KOut F G w R):=by
 have hx:=hc.l.rel 0 _ _ rfl rfl
 cases hx
 exact .value (by simp [Builtin.len_,ht,run_underlying hu,goInt]) (KOut.plain hc hr (.int _ _) (toks_scalar rfl rfl _))
theorem ok_len_str {t ty : Nat} {s : ByteArray} {u : Value} {ts : Array TypeId} (hc : CRel F G [.str s] H [u] w) (ht : ts[0]? = some t) (hu : P.underlying t = some .string) (hr : R (.int .i64 s.size) H) :
  OpRes P ((do let r <- Builtin.len_ ts ty #[u]; pure (Next.value r) : Sem Next).run P w) (KOut F G w R):=by
 have hx:=hc.l.rel 0 _ _ rfl rfl
 cases hx
 exact .value (by simp [Builtin.len_,ht,run_underlying hu,goInt]) (KOut.plain hc hr (.int _ _) (toks_scalar rfl rfl _))
theorem ok_len_arr {t e ty n : Nat} {x : AV} {u : Value} {ts : Array TypeId} (hc : CRel F G [x] H [u] w) (ht : ts[0]? = some t) (hu : P.underlying t = some (.array n e)) (hr : R (.int .i64 n) H) :
  OpRes P ((do let r <- Builtin.len_ ts ty #[u]; pure (Next.value r) : Sem Next).run P w) (KOut F G w R) :=
 .value (by simp [Builtin.len_,ht,run_underlying hu,goInt]) (KOut.plain hc hr (.int _ _) (toks_scalar rfl rfl _))
theorem ok_min {k : IntKind} {a b : Int} {u v : Value} {ts : Array TypeId} {ty : Nat} (hc : CRel F G [.int k a,.int k b] H [u,v] w) (hr : R (.int k (if b < a then b else a)) H) :
  OpRes P ((do let r <- Builtin.min_ ts ty #[u,v]; pure (Next.value r) : Sem Next).run P w) (KOut F G w R):=by
 have hx:=hc.l.rel 0 _ _ rfl rfl
 have hy:=hc.l.rel 1 _ _ rfl rfl
 cases hx; cases hy
 exact .value (by simp [Builtin.min_,Builtin.min2]) (KOut.plain hc hr (.int _ _) (toks_scalar rfl rfl _))
theorem ok_max {k : IntKind} {a b : Int} {u v : Value} {ts : Array TypeId} {ty : Nat} (hc : CRel F G [.int k a,.int k b] H [u,v] w) (hr : R (.int k (if b > a then b else a)) H) :
  OpRes P ((do let r <- Builtin.max_ ts ty #[u,v]; pure (Next.value r) : Sem Next).run P w) (KOut F G w R):=by
 have hx:=hc.l.rel 0 _ _ rfl rfl
 have hy:=hc.l.rel 1 _ _ rfl rfl
 cases hx; cases hy
 exact .value (by simp [Builtin.max_,Builtin.max2]) (KOut.plain hc hr (.int _ _) (toks_scalar rfl rfl _))
def Src (G : Gh) (w : World) (n : Nat) (xs : List AV) (u : Value) : Prop :=
 (u = .slice none 0 0 /\ xs = []) \/ ∃ (a : Addr) (c : Nat) (news : List Value),u = .slice (some a) xs.length c /\ news.length = xs.length * n /\ (∀ (j : Nat) (v : Value),news[j]? = some v -> w.cell? (a.add j) = some v) /\
   (∀ v ∈ news,v.oneCell' = true) /\ ∀ (i : Nat) (c : AV),(cat xs)[i]? = some c -> c.scalar = true /\ ∃ v,news[i]? = some v /\ VRel G w c v
theorem appended_cells {own : Option Nat} {xs : List AV} {n : Nat} (hn : ∀ x ∈ xs,x.cells.length = n) {u : Value} (h : VRel G w (.sl own xs) u) :
  (u = .slice none 0 0 /\ xs = []) \/ ∃ (a : Addr) (c : Nat) (news : List Value),u = .slice (some a) xs.length c /\ news.length = xs.length * n /\ (∀ (j : Nat) (v : Value),news[j]? = some v -> w.cell? (a.add j) = some v) /\
   (∀ v ∈ news,v.oneCell' = true) /\ ∀ (i : Nat) (c : AV),(cat xs)[i]? = some c -> c.scalar = true /\ ∃ v,news[i]? = some v /\ VRel G w c v:=by
 cases h with
 | slnil => exact .inl ⟨rfl,rfl⟩
 | slany _ a => exact .inr ⟨a,0,[],rfl,by simp,fun j v hv => by simp at hv,fun v hv => by simp at hv,fun i c hi => by simp [cat] at hi⟩
 | sl _ _ sz b q cap f hsz hown hl hm hcs hus =>
  have hcl:=cat_length hn
  have hget : ∀ i,i < xs.length * n -> ∃ c,(cat xs)[i]? = some c:=fun i hi => ⟨_,List.getElem?_eq_getElem (by omega)⟩
  refine .inr ⟨⟨b,q,none⟩,cap,(List.range (xs.length * n)).map f,rfl,by simp,fun j v hv => ?_,fun v hv => ?_,fun i c hi => ?_⟩
  ·have hj : j < xs.length * n:=by have:=(List.getElem?_eq_some_iff.1 hv).1; simpa using this
   simp [hj] at hv
   subst hv
   obtain ⟨c,hc⟩:=hget j hj
   rw [addr_add]
   exact (hcs j c hc).2.2
  ·obtain ⟨j,hj,rfl⟩:=List.mem_map.1 hv
   obtain ⟨c,hc⟩:=hget j (List.mem_range.1 hj)
   exact oneCell_of (hcs j c hc).1 (hus j c hc)
  ·have hi' : i < xs.length * n:=by have:=(List.getElem?_eq_some_iff.1 hi).1; omega
   exact ⟨(hcs i c hi).1,f i,by simp [hi'],hus i c hi⟩
theorem grown_get {olds news rest : List Value} (i : Nat) (h : i < olds.length + news.length) :
  (olds.toArray ++ news.toArray ++ rest.toArray)[i]? = (olds ++ news)[i]?:=by
 have e : olds.toArray ++ news.toArray ++ rest.toArray = (olds ++ news ++ rest).toArray:=by simp
 rw [e,List.getElem?_toArray,List.getElem?_append_left (by simpa using h)]
theorem ok_append {t e ty : Nat} {sv : AV} {es xs : List AV} {u v : Value} (hc : CRel F G [.sl (some (P.cellsOf e)) es,sv] H [u,v] w) (hx : Src G w (P.cellsOf e) xs v) (hu : P.underlying t = some (.slice e)) (hpos : 0 < P.cellsOf e)
  (hxs : ∀ x ∈ xs,x.cells.length = P.cellsOf e) (hz : zeroOk P e = true) (hb : (es.length + xs.length) * P.bytesOf e <= 140737488355328) (h63 : es.length + xs.length <= 9223372036854775807)
  (hr : R (.sl (some (P.cellsOf e)) (es ++ xs)) H) :
  OpRes P ((do let r <- Builtin.append_ #[t,t] ty #[u,v]; pure (Next.value r) : Sem Next).run P w) (KOut F G w R):=by
 have hs:=hc.l.rel 0 _ _ rfl rfl
 unfold zeroOk at hz
 split at hz
 case h_2 => cases hz
 rename_i i hi
 split at hz
 case h_2 => cases hz
 rename_i z hz'
 have hcz : z.cells.size = i.size:=by simpa using hz
 have hce : P.cellsOf e = i.size:=by simp [Program.cellsOf,hi]
 have hbe : P.bytesOf e = i.bytes:=by simp [Program.bytesOf,hi]
 rw [hbe] at hb
 have hes : ∀ x ∈ es,x.cells.length = P.cellsOf e:=by
  intro x hx'
  cases hs with
  | slnil => simp at hx'
  | slany => simp at hx'
  | sl _ _ sz b q cap f hsz hown _ _ _ _ => rw [hsz x hx',<- (hown _ rfl).1]
 have moved : ∀ (olds news : List Value) (old : Nat),olds.length = es.length * P.cellsOf e -> news.length = xs.length * P.cellsOf e ->
   (∀ (i : Nat) (c : AV),(cat es)[i]? = some c -> c.scalar = true /\ ∃ v,olds[i]? = some v /\ VRel G w c v) ->
   (∀ (i : Nat) (c : AV),(cat xs)[i]? = some c -> c.scalar = true /\ ∃ v,news[i]? = some v /\ VRel G w c v) ->
   ∃ G',CRel F G' [.sl (some (P.cellsOf e)) (es ++ xs)] H [.slice (some ⟨w.heap.size,0,none⟩) (es.length + xs.length) (grownCap w (es.length + xs.length) old e)]
    (w.drew.alloc (.cells (olds.toArray ++ news.toArray ++ Builtin.zeroCells z.cells (grownCap w (es.length + xs.length) old e - (es.length + xs.length))) e)) /\
    Ext F G w G' (w.drew.alloc (.cells (olds.toArray ++ news.toArray ++ Builtin.zeroCells z.cells (grownCap w (es.length + xs.length) old e - (es.length + xs.length))) e)):=by
  intro olds news old ho hn hoc hnc
  have hge:=grownCap_ge w (es.length + xs.length) old e
  have hcm : grownCap w (es.length + xs.length) old e <= maxLen:=grownCap_le_maxLen w _ old e (by unfold maxLen; omega)
  have hall : ∀ x ∈ es ++ xs,x.cells.length = P.cellsOf e:=fun x hx => by
   rcases List.mem_append.1 hx with h | h
   ·exact hes x h
   ·exact hxs x h
  have hd:=hc.draw
  have hce1:=cat_length hes
  have hce2:=cat_length hxs
  obtain ⟨G',h1,h2⟩:=hd.newList (es ++ xs) (P.cellsOf e) (grownCap w (es.length + xs.length) old e)
   (olds.toArray ++ news.toArray ++ Builtin.zeroCells z.cells (grownCap w (es.length + xs.length) old e - (es.length + xs.length))) e hpos hall (by simpa using hge) hcm (by
    simp only [Array.size_append,List.size_toArray,size_zeroCells,hcz,ho,hn,<- hce,<- Nat.add_mul]
    exact Nat.mul_le_mul_right _ (by omega)) (fun i c hi' => by
    rw [cat_append] at hi'
    have hlt:=(List.getElem?_eq_some_iff.1 hi').1
    simp only [List.length_append] at hlt
    have e0:=grown_get (olds:=olds) (news:=news) (rest:=(Builtin.zeroCells z.cells (grownCap w (es.length + xs.length) old e - (es.length + xs.length))).toList) i (by omega)
    rw [Array.toArray_toList] at e0
    rw [e0]
    by_cases hlo : i < (cat es).length
    ·rw [List.getElem?_append_left hlo] at hi'
     rw [List.getElem?_append_left (by omega)]
     obtain ⟨s1,v,s2,s3⟩:=hoc i c hi'
     exact ⟨s1,v,s2,s3.keep (ext_draw (F:=F)).keeps⟩
    ·rw [List.getElem?_append_right (by omega)] at hi'
     rw [List.getElem?_append_right (by omega),ho,<- hce1]
     obtain ⟨s1,v,s2,s3⟩:=hnc _ c hi'
     exact ⟨s1,v,s2,s3.keep (ext_draw (F:=F)).keeps⟩)
  simp only [List.length_append] at h1
  exact ⟨G',h1,ext_draw.trans h2⟩
 have hlenle : es.length + xs.length <= 9223372036854775807:=h63
 cases hs with
 | slnil own =>
  rcases hx with ⟨rfl,rfl⟩ | ⟨a,c,news,rfl,hnl,hnews,hone,hcell⟩
  ·refine .value (u:=.slice none 0 0) (w':=w) ?_ (KOut.plain (v:=.sl (some (P.cellsOf e)) []) hc (by simpa using hr) (.slnil _) (by simp [toks,prs,AV.flat,AV.cells,vflat,Value.cells,tok]))
   simp [Builtin.append_,run_underlying hu,sizeOf,typeInfo,hi,Builtin.lenOf,Builtin.firstCells]
  ·by_cases h0 : xs = []
   ·subst h0
    have : news = []:=List.eq_nil_of_length_eq_zero (by simpa using hnl)
    subst this
    refine .value (u:=.slice none 0 0) (w':=w) ?_ (KOut.plain (v:=.sl (some (P.cellsOf e)) []) hc (by simpa using hr) (.slnil _) (by simp [toks,prs,AV.flat,AV.cells,vflat,Value.cells,tok]))
    simp [Builtin.append_,run_underlying hu,sizeOf,typeInfo,hi,Builtin.lenOf,Builtin.firstCells,loadCells,loadCellsFrom]
   ·have hpos2 : 0 < xs.length:=List.length_pos_iff.2 h0
    have hrun:=run_append_nil (P:=P) w t ty e i z hu hi hz' a xs.length c news (by rw [hnl,hce]) hnews hpos2 (by simp at h63; omega) (by simp at hb; omega)
    obtain ⟨G',g1,g2⟩:=moved [] news 0 (by simp) hnl (fun i c hi' => by simp [cat] at hi') hcell
    simp only [List.length_nil,Nat.zero_add,Array.empty_append,List.nil_append] at g1 g2 hr
    have e0 : (#[] : Array Value) ++ news.toArray = news.toArray:=by simp
    exact .value (by rw [Sem.run_bind,hrun]; rfl) ⟨_,H,G',hr,by simpa using g1,by simpa using g2⟩
 | slany own ad =>
  rcases hx with ⟨rfl,rfl⟩ | ⟨a,c,news,rfl,hnl,hnews,hone,hcell⟩
  ·refine .value (u:=.slice (some ad) 0 0) (w':=w) ?_ (KOut.plain (v:=.sl (some (P.cellsOf e)) []) hc (by simpa using hr) (.slany _ _) (by simp [toks,prs,AV.flat,AV.cells,vflat,Value.cells,tok]))
   simp [Builtin.append_,run_underlying hu,sizeOf,typeInfo,hi,Builtin.lenOf,Builtin.firstCells,storeCells]
  ·by_cases h0 : xs = []
   ·subst h0
    have : news = []:=List.eq_nil_of_length_eq_zero (by simpa using hnl)
    subst this
    refine .value (u:=.slice (some ad) 0 0) (w':=w) ?_ (KOut.plain (v:=.sl (some (P.cellsOf e)) []) hc (by simpa using hr) (.slany _ _) (by simp [toks,prs,AV.flat,AV.cells,vflat,Value.cells,tok]))
    simp [Builtin.append_,run_underlying hu,sizeOf,typeInfo,hi,Builtin.lenOf,Builtin.firstCells,loadCells,loadCellsFrom,storeCells]
   ·have hpos2 : 0 < xs.length:=List.length_pos_iff.2 h0
    have hrun:=run_append_grow (P:=P) w t ty e i z hu hi hz' ad 0 0 [] (by simp) (fun j v hv => by simp at hv) a xs.length c news (by rw [hnl,hce]) hnews (by omega) (by omega) (growslice_fits (by simpa using hpos2) (by simpa using hb))
    obtain ⟨G',g1,g2⟩:=moved [] news 0 (by simp) hnl (fun i c hi' => by simp [cat] at hi') hcell
    simp only [List.length_nil,Nat.zero_add,Array.empty_append,List.nil_append] at g1 g2 hr
    exact .value (by rw [Sem.run_bind,hrun]; rfl) ⟨_,H,G',hr,by simpa using g1,by simpa using g2⟩
 | sl own es' sz b q cap f hsz hown hle hmx hcs hus =>
  have hs' : VRel G w (.sl (some (P.cellsOf e)) es) (.slice (some ⟨b,q,none⟩) es.length cap):=.sl _ es sz b q cap f hsz hown hle hmx hcs hus
  rcases hx with ⟨rfl,rfl⟩ | ⟨a,c,news,rfl,hnl,hnews,hone,hcell⟩
  ·refine .value (u:=.slice (some ⟨b,q,none⟩) es.length cap) (w':=w) ?_ (KOut.same (hc.get (i:=0) rfl rfl) (by simpa using hr))
   simp [Builtin.append_,run_underlying hu,sizeOf,typeInfo,hi,Builtin.lenOf,Builtin.firstCells,hle,storeCells]
  ·by_cases hroom : es.length + xs.length <= cap
   ·by_cases h0 : xs = []
    ·subst h0
     have : news = []:=List.eq_nil_of_length_eq_zero (by simpa using hnl)
     subst this
     refine .value (u:=.slice (some ⟨b,q,none⟩) es.length cap) (w':=w) ?_ (KOut.same (hc.get (i:=0) rfl rfl) (by simpa using hr))
     simp [Builtin.append_,run_underlying hu,sizeOf,typeInfo,hi,Builtin.lenOf,Builtin.firstCells,loadCells,loadCellsFrom,hle,storeCells]
    ·have hpos2 : 0 < xs.length:=List.length_pos_iff.2 h0
     have htok:=hc.l.tok 0 _ _ rfl rfl (.sl (some (P.cellsOf e)) es,.slice (some ⟨b,q,none⟩) es.length cap) (by rw [prs_sl _ _ _ _ _ _ rfl]; simp)
     obtain ⟨_,_,C,E,hrow,_⟩:=htok (by omega)
     replace hrow : w.heap[b]? = some (.cells C E (0,0)):=hrow
     obtain ⟨hfit,G',g1,g2⟩:=hc.appendIn (i0:=0) rfl rfl hroom (by omega) hxs news hnl hcell hrow
     have hf:=run_firstCells_some (P:=P) w i.size xs.length a xs.length c news (by rw [hnl,hce]) hnews
     have hst:=run_storeCells_at P b (q + es.length * P.cellsOf e) E news 0 C w hrow (by omega) hone
     simp only [Nat.add_zero] at hst
     refine .value ?_ ⟨_,H,G',hr,g1,g2⟩
     rw [hce] at hst
     rw [hce]
     simp [Builtin.append_,run_underlying hu,sizeOf,typeInfo,hi,Builtin.lenOf,hroom,hf,addr_add,hst]
   ·have hrun:=run_append_grow (P:=P) w t ty e i z hu hi hz' ⟨b,q,none⟩ es.length cap ((List.range (es.length * P.cellsOf e)).map f) (by simp [hce]) (fun j v hv => by
      have hj : j < es.length * P.cellsOf e:=by have:=(List.getElem?_eq_some_iff.1 hv).1; simpa using this
      simp [hj] at hv
      subst hv
      have hcl:=cat_length hes
      rw [addr_add]
      exact (hcs j _ (List.getElem?_eq_getElem (by omega))).2.2) a xs.length c news (by rw [hnl,hce]) hnews (by omega) (by omega) (growslice_fits (by omega) hb)
    obtain ⟨G',g1,g2⟩:=moved ((List.range (es.length * P.cellsOf e)).map f) news cap (by simp) hnl (fun i c hi' => by
      have hi2 : i < es.length * P.cellsOf e:=by have:=(List.getElem?_eq_some_iff.1 hi').1; rw [cat_length hes] at this; exact this
      exact ⟨(hcs i c hi').1,f i,by simp [hi2],hus i c hi'⟩) hcell
    exact .value (by rw [Sem.run_bind,hrun]; rfl) ⟨_,H,G',hr,g1,g2⟩
theorem src_ok {e : TypeId} {rd : Bool} {a b : AV} {u v : Value} {xs : List AV} (hc : CRel F G [a,b] H [u,v] w) (hs : asrc P e rd H b = some xs) (hn : ∀ x ∈ xs,x.cells.length = P.cellsOf e) : Src G w (P.cellsOf e) xs v:=by
 have hx:=hc.l.rel 1 _ _ rfl rfl
 unfold asrc at hs
 split at hs
 ·cases hs
  exact appended_cells hn hx
 ·rename_i ob off len sz
  split at hs
  ·rename_i cs ho
   split at hs
   ·rename_i hcond
    cases hs
    obtain ⟨hle,rfl,hag⟩:=hcond
    cases hx with
    | msl _ _ _ _ b cap hb hl hm hrow =>
     obtain ⟨C,E,hrow,hlC,hC⟩:=((hc.h.obj ob cs b ho hb).of_cells hrow.choose_spec.choose_spec.1).2
     have hsc : ∀ c ∈ (cs.drop off).map borrow1,c.scalar = true:=by
      intro c hcm
      obtain ⟨d,hd,rfl⟩:=List.mem_map.1 hcm
      obtain ⟨i,hi⟩:=List.getElem?_of_mem hd
      rw [List.getElem?_drop] at hi
      have hlt:=(List.getElem?_eq_some_iff.1 hi).1
      rw [scalar_borrow1]
      exact (hC _ d _ hi (Array.getElem?_eq_getElem (by omega))).1
     obtain ⟨hcat,_⟩:=chunk_cells (aggTy P e) (P.cellsOf e) hag len ((cs.drop off).map borrow1) (by simp; omega) hsc
     have hcell : ∀ j,j < len * P.cellsOf e -> ∃ x,C[off + j]? = some x /\ w.cell? ⟨b,off + j,none⟩ = some x /\ ∀ c,cs[off + j]? = some c -> c.scalar = true /\ VRel G w c x:=by
      intro j hj
      have hlt : off + j < C.size:=by omega
      refine ⟨C[off + j],Array.getElem?_eq_getElem hlt, ?_,fun c hcj => ?_⟩
      ·rw [cell_of_row _ _ _ C E _ hrow]; exact Array.getElem?_eq_getElem hlt
      ·have:=hC _ c _ hcj (Array.getElem?_eq_getElem hlt)
       exact ⟨this.1,this.2.1⟩
     refine .inr ⟨⟨b,off,none⟩,cap,((C.toList.drop off).take (len * P.cellsOf e)),by rw [chunk_length],by rw [chunk_length]; simp; omega,fun j x hx => ?_,fun x hx => ?_,fun i c hi => ?_⟩
     ·have hj : j < len * P.cellsOf e:=by have:=(List.getElem?_eq_some_iff.1 hx).1; simp at this; omega
      rw [List.getElem?_take_of_lt hj,List.getElem?_drop,Array.getElem?_toList] at hx
      obtain ⟨y,h1,h2,_⟩:=hcell j hj
      rw [h1] at hx; cases hx
      rw [addr_add]; exact h2
     ·obtain ⟨j,hj'⟩:=List.getElem?_of_mem hx
      have hj : j < len * P.cellsOf e:=by have:=(List.getElem?_eq_some_iff.1 hj').1; simp at this; omega
      rw [List.getElem?_take_of_lt hj,List.getElem?_drop,Array.getElem?_toList] at hj'
      obtain ⟨y,h1,_,h3⟩:=hcell j hj
      rw [h1] at hj'; cases hj'
      obtain ⟨s1,s2⟩:=h3 _ (List.getElem?_eq_getElem (by omega))
      exact oneCell_of s1 s2
     ·rw [hcat] at hi
      have hj : i < len * P.cellsOf e:=by have:=(List.getElem?_eq_some_iff.1 hi).1; simp at this; omega
      rw [List.getElem?_take_of_lt hj,List.getElem?_map,List.getElem?_drop] at hi
      obtain ⟨y,h1,_,h3⟩:=hcell i hj
      cases hd : cs[off + i]? with
      | none => rw [hd] at hi; cases hi
      | some d =>
       rw [hd] at hi; cases hi
       obtain ⟨s1,s2⟩:=h3 d hd
       exact ⟨(scalar_borrow1 d).trans s1,y,by rw [List.getElem?_take_of_lt hj,List.getElem?_drop,Array.getElem?_toList]; exact h1,s2.borrow1⟩
   ·cases hs
  ·cases hs
 ·cases hs
end
end Go.AI
namespace Go.AI
section
variable {P : Program} {F : Nat -> Prop} {G : Gh} {w : World} {H : Heap} {R : AV -> Heap -> Prop}
theorem flatten_replicate_get {α : Type} (l : List α) : ∀ (n i : Nat),(List.replicate n l).flatten[i]? = if i < n * l.length then l[i % l.length]? else none
 | 0,i => by simp
 | n + 1,i => by
  rw [List.replicate_succ,List.flatten_cons,List.getElem?_append]
  by_cases h : i < l.length
  ·rw [if_pos h,if_pos (by rw [Nat.add_mul]; omega),Nat.mod_eq_of_lt h]
  ·rw [if_neg h,flatten_replicate_get l n (i - l.length)]
   have e : (i - l.length) % l.length = i % l.length:=by
    rw [Nat.mod_eq_sub_mod (Nat.le_of_not_lt h)]
   rw [e]
   by_cases h2 : i < (n + 1) * l.length
   ·rw [if_pos h2,if_pos (by rw [Nat.add_mul] at h2; omega)]
   ·rw [if_neg h2,if_neg (by rw [Nat.add_mul] at h2; omega)]
theorem ok_makeSlice {t e : Nat} {k k' : IntKind} {n c : Int} {u v : Value} {z : AV} (h : CRel F G [.int k n,.int k' c] H [u,v] w) (hu : P.underlying t = some (.slice e)) (hnc : n = c) (h0 : 0 <= n) (hb : n * P.bytesOf e <= 140737488355328)
  (hmax : n <= 9223372036854775807) (hi : (P.info? e).isSome = true) (hz : zeroAV P e = some z) (hzl : z.cells.length = P.cellsOf e) (hpos : 0 < P.cellsOf e)
  (hr : R (.msl H.length 0 n.toNat (P.cellsOf e)) (H ++ [some (List.replicate n.toNat z.cells).flatten])) :
  OpRes P ((do let r <- Instr.makeSlice t u v; pure (Next.value r) : Sem Next).run P w) (KOut F G w R):=by
 have h1:=h.l.rel 0 _ _ rfl rfl
 have h2:=h.l.rel 1 _ _ rfl rfl
 subst hnc
 cases h1; cases h2
 obtain ⟨i,hi⟩:=Option.isSome_iff_exists.1 hi
 obtain ⟨zv,hrun,hval,hc,ht⟩:=zero_sem hz
 have hc':=hc F G w
 have hzs : zv.cells.size = P.cellsOf e:=by have:=hc'.len; simp at this; omega
 obtain ⟨m,rfl⟩ : ∃ m : Nat,n = m:=⟨n.toNat,by omega⟩
 have hw : IntKind.i64.wrap (m : Int) = m:=by
  rw [IntKind.wrap_i64]; omega
 have hai : ∀ (k : IntKind) (n : Int),(asInt (.int k n)).run P w = .ok n w:=fun k n => by simp [asInt,asIntOf]
 have hbytes : P.bytesOf e = i.bytes:=by simp [Program.bytesOf,hi]
 have hti : (typeInfo e).run P w = .ok i w:=by simp [typeInfo,hi]
 rw [hbytes] at hb
 have hb' : (i.bytes : Int) * (m : Int) <= 140737488355328:=by rw [Int.mul_comm]; exact hb
 have hd1 : decide ((i.bytes : Int) * (m : Int) > 2 ^ 48) = false:=by
  rw [decide_eq_false_iff_not]; omega
 have hd2 : decide ((m : Int) < 0) = false:=by
  rw [decide_eq_false_iff_not]; omega
 have hd3 : decide ((m : Int) > (m : Int)) = false:=by
  rw [decide_eq_false_iff_not]; omega
 have hs : (sizeOf e).run P w = .ok (P.cellsOf e) w:=run_sizeOf_pos hpos w
 have hmake : ∃ C : Array Value,C = (Array.range (m * P.cellsOf e)).map (zv.cells[· % zv.cells.size]!) /\ (Instr.makeSlice t (.int k m) (.int k' m)).run P w = .ok (.slice (some ⟨w.heap.size,0,none⟩) m m) (w.alloc (.cells C e)):=by
  refine ⟨_,rfl, ?_⟩
  simp only [Instr.makeSlice,Sem.run_bind,run_underlying hu,Result.andThen_ok,hai,Sem.run_pure,hti,hw,hd1,hd2,hd3,Bool.or_false,Bool.false_or,Bool.false_eq_true,if_false,run_askRoom,hs,Int.toNat_natCast]
  by_cases hm0 : m * P.cellsOf e = 0
  ·have hr0 : Array.range 0 = #[]:=rfl
   simp [hm0,newRow,hr0]
  ·simp [hm0,hrun,newRow]
 obtain ⟨C,hC,hrunM⟩:=hmake
 have hCs : C.size = m * P.cellsOf e:=by rw [hC]; simp
 have hpair : ∀ (i : Nat) (c : AV) (v : Value),(List.replicate m z.cells).flatten[i]? = some c -> C[i]? = some v -> z.cells[i % z.cells.length]? = some c /\ zv.cells.toList[i % z.cells.length]? = some v:=fun i c v h1 h2 => by
  rw [flatten_replicate_get] at h1
  split at h1
  ·rename_i hlt
   refine ⟨h1, ?_⟩
   rw [hC] at h2
   rw [hzl] at hlt
   have : i % zv.cells.size < zv.cells.size:=Nat.mod_lt _ (by omega)
   simp [hlt] at h2
   rw [Array.getElem?_toList,hzl,<- hzs,Array.getElem?_eq_getElem this,<- h2]
   simp [this]
  ·cases h1
 refine .value (u:=.slice (some ⟨w.heap.size,0,none⟩) m m) (w':=w.alloc (.cells C e)) (by rw [Sem.run_bind,hrunM]; rfl) ⟨_,_,_,hr, ?_,ext_newObj h.h.fore _⟩
 simp only [Int.toNat_natCast]
 have hfl : (List.replicate m z.cells).flatten.length = m * P.cellsOf e:=by simp [hzl]
 refine h.newObj (List.replicate m z.cells).flatten C e (by rw [hfl,hCs]; exact Nat.le_refl _) (fun i c x h1 h2 => ?_) (fun b => ?_) (.msl _ _ _ _ w.heap.size m ?_ (Nat.le_refl _) (by unfold maxLen; omega) ⟨C,e,heap_alloc_new w (.cells C e),by omega⟩) (toks_scalar rfl rfl _)
 ·obtain ⟨g1,g2⟩:=hpair i c x h1 h2
  exact hc'.at_ _ c x g1 g2
 ·have hnil : ((List.replicate m z.cells).flatten.zip C.toList).filterMap tok = []:=by
   rw [List.filterMap_eq_nil_iff]
   intro p hp
   obtain ⟨i,hi⟩:=List.getElem?_of_mem hp
   rw [List.getElem?_zip_eq_some] at hi
   obtain ⟨g1,g2⟩:=hpair i p.1 p.2 hi.1 (by rw [<- Array.getElem?_toList]; exact hi.2)
   have hmem : (p.1,p.2) ∈ z.cells.zip zv.cells.toList:=List.mem_of_getElem? (i:=i % z.cells.length) (by rw [List.getElem?_zip_eq_some]; exact ⟨g1,g2⟩)
   exact List.filterMap_eq_nil_iff.1 ht _ hmem
  rw [hnil]; simp
 ·show (G.obs ++ [w.heap.size])[H.length]? = _
  rw [<- h.h.len,List.getElem?_append_right (Nat.le_refl _)]
  simp
theorem ok_buildSlice_mut {t e len : Nat} {ps : List (Nat × Operand)} {ρ : Operand -> Value} {vs : List AV} (h : CRel F G vs H (ps.map fun p => ρ p.2) w) (hu : P.underlying t = some (.slice e)) (hpos : 0 < P.cellsOf e) (hsmall : len * P.cellsOf e <= 16777216)
  (hidx : ps.map (·.1) = List.range len) (hvs : ∀ v ∈ vs,v.isVal = true /\ v.cells.length = P.cellsOf e) (hz : zeroOk P e = true) (hr : R (.msl H.length 0 len (P.cellsOf e)) (H ++ [some (cat (vs.map AV.borrow))])) :
  OpRes P ((do let r <- Instr.buildSlice t len (ps.map fun p => (p.1,ρ p.2)).toArray; pure (Next.value r) : Sem Next).run P w) (KOut F G w R):=by
 have hpl : ps.length = len:=by have:=congrArg List.length hidx; simpa using this
 have hvl : vs.length = len:=by have:=h.l.len; simp at this; omega
 have hus : ∀ u ∈ ps.map (fun p => ρ p.2),u.cells.size = P.cellsOf e:=by
  intro u hu'
  obtain ⟨i,hi⟩:=List.getElem?_of_mem hu'
  have hlt:=(List.getElem?_eq_some_iff.1 hi).1
  simp at hlt
  have hv : vs[i]? = some (vs[i]'(by omega)):=List.getElem?_eq_getElem _
  obtain ⟨g1,g2⟩:=hvs _ (List.mem_of_getElem? hv)
  have:=(val_shape g1 (h.l.rel i _ u hv hi)).2.2
  omega
 unfold zeroOk at hz
 split at hz
 ·rename_i i hi
  split at hz
  ·rename_i z hz'
   have key : ∀ zc : Array Value,Instr.fill (fun i => some (i * P.cellsOf e,P.cellsOf e)) ((Array.range (len * P.cellsOf e)).map (zc[· % zc.size]!)) (ps.map fun p => (p.1,ρ p.2)) =
     some ((ps.map fun p => ρ p.2).flatMap fun u => u.cells.toList).toArray:=fun zc => by
    have hfill:=fill_row (P.cellsOf e) (ps.map fun p => ρ p.2) 0 ((Array.range (len * P.cellsOf e)).map (zc[· % zc.size]!)) hus (by simp [hpl])
    rw [show (List.range' 0 (ps.map fun p => ρ p.2).length) = ps.map (·.1) by rw [hidx,List.range_eq_range']; simp [hpl],zip_parts] at hfill
    simpa using hfill
   have hcc:=cells_cat vs _ h.l fun v hv => (hvs v hv).1
   have hrun : (Instr.buildSlice t len (ps.map fun p => (p.1,ρ p.2)).toArray).run P w = .ok (.slice (some ⟨w.heap.size,0,none⟩) len len) (w.alloc (.cells ((ps.map fun p => ρ p.2).flatMap fun u => u.cells.toList).toArray e)):=by
    have hs : (sizeOf e).run P w = .ok (P.cellsOf e) w:=run_sizeOf_pos hpos w
    simp only [Instr.buildSlice,Sem.run_bind,run_underlying hu,Result.andThen_ok,hs,Sem.run_ite]
    rw [if_neg (by omega)]
    simp only [Sem.run_pure,Result.andThen_ok]
    by_cases h0 : len * P.cellsOf e = 0
    ·simp only [if_pos h0,key]
     simp [newRow]
    ·simp only [if_neg h0,zeroValue,typeInfo,Sem.run_bind,run_program,Result.andThen_ok,hi,hz',Sem.run_pure,key]
     simp [newRow]
   have hul : ((ps.map fun p => ρ p.2).flatMap fun u => u.cells.toList).length = len * P.cellsOf e:=by
    have:=hcc.len
    rw [cat_length (n:=P.cellsOf e) fun x hx => by
     obtain ⟨v,hv,rfl⟩:=List.mem_map.1 hx
     rw [cells_borrow_len]; exact (hvs v hv).2] at this
    simp only [List.length_map,hvl] at this
    omega
   refine .value (by rw [Sem.run_bind,hrun]; rfl) ⟨_,_,_,hr, ?_,ext_newObj h.h.fore _⟩
   refine h.newObj (cat (vs.map AV.borrow)) _ e (by have:=hcc.len; simp; simp at this; omega) (fun i c x h1 h2 => hcc.at_ i c x h1 (by simpa using h2)) (fun b => ?_) (.msl _ _ _ _ w.heap.size len ?_ (Nat.le_refl _) (by
      have : len <= len * P.cellsOf e:=Nat.le_mul_of_pos_right _ hpos
      unfold maxLen; omega) ⟨_,e,heap_alloc_new w _,by rw [List.size_toArray,hul]; omega⟩) (toks_scalar rfl rfl _)
   ·have hnil : ((cat (vs.map AV.borrow)).zip ((ps.map fun p => ρ p.2).flatMap fun u => u.cells.toList)).filterMap tok = []:=by
     rw [List.filterMap_eq_nil_iff]
     intro p hp
     have hm:=(List.of_mem_zip hp).1
     simp only [cat,List.mem_flatMap,List.mem_map] at hm
     obtain ⟨x,⟨v,hv,rfl⟩,hm⟩:=hm
     have hval:=(hvs v hv).1
     have e1 : v.borrow = borrow0 v:=by cases v <;> first | rfl | cases hval
     rw [e1,cells_borrow0] at hm
     obtain ⟨c,_,hc⟩:=List.mem_map.1 hm
     obtain ⟨p1,p2⟩:=p
     simp only at hc
     rw [<- hc]
     exact tok_borrow1 c p2
    rw [hnil]; simp
   ·show (G.obs ++ [w.heap.size])[H.length]? = _
    rw [<- h.h.len,List.getElem?_append_right (Nat.le_refl _)]
    simp
  ·cases hz
 ·cases hz
theorem push_fold (f : Value -> ByteArray -> Sem (ForInStep ByteArray)) (hf : ∀ n s,f (.int .u8 n) s = pure (.yield (s.push (UInt8.ofNat n.toNat)))) : ∀ (l : List Value) (s : ByteArray),(∀ v ∈ l,∃ n,v = .int .u8 n) ->
  (forIn l s f : Sem ByteArray).run P w = .ok ⟨s.data ++ (l.map fun | .int _ n => UInt8.ofNat n.toNat | _ => 0).toArray⟩ w
 | [],s,_ => by simp
 | v :: l,s,h => by
  obtain ⟨n,rfl⟩:=h v (by simp)
  rw [List.forIn_cons,Sem.run_bind,hf]
  simp only [Sem.run_pure,Result.andThen_ok]
  rw [push_fold f hf l _ fun x hx => h x (by simp [hx])]
  congr 2
  simp [ByteArray.push]
theorem ok_convert_bytes {src dst el : TypeId} {own : Option Nat} {es : List AV} {x : Value} (h : CRel F G [.sl own es] H [x] w) (hs : P.underlying src = some (.slice el)) (hd : P.underlying dst = some .string) (he : P.underlying el = some (.int .u8))
  (hb : ∀ x ∈ es,isByte x = true) (hr : R (.str (byteStr es)) H) :
  OpRes P ((do let v <- convert src dst x; pure (Next.value v) : Sem Next).run P w) (KOut F G w R):=by
 have hx:=h.l.rel 0 _ _ rfl rfl
 have hlen : ∀ x ∈ es,x.cells.length = 1:=fun x hm => by
  have:=hb x hm
  unfold isByte at this
  split at this
  ·rfl
  ·cases this
 have hout : ∀ r : ByteArray,(convert src dst x).run P w = .ok (.string r) w -> r = byteStr es -> OpRes P ((do let v <- convert src dst x; pure (Next.value v) : Sem Next).run P w) (KOut F G w R):=fun r hrun e => by
  subst e
  exact .value (by rw [Sem.run_bind,hrun]; rfl) (KOut.plain h hr (.str _) (toks_scalar rfl rfl _))
 have hcat : cat es = es:=by
  have : ∀ (es : List AV),(∀ x ∈ es,isByte x = true) -> cat es = es:=by
   intro es
   induction es with
   | nil => intro _; rfl
   | cons a as ih =>
    intro hb
    have h1:=hb a (by simp)
    have h2:=ih fun x hx => hb x (by simp [hx])
    unfold isByte at h1
    split at h1
    ·simp only [cat,List.flatMap_cons] at h2 ⊢
     rw [h2]; rfl
    ·cases h1
  exact this es hb
 rcases appended_cells hlen hx with ⟨rfl,rfl⟩ | ⟨a,c,news,rfl,hl,hcell,_,hrel⟩
 ·exact hout .empty (by simp [convert,run_underlying hs,run_underlying hd,run_underlying he,Conv.bytesToString]) rfl
 ·rw [hcat] at hrel
  rw [Nat.mul_one] at hl
  have hnews : ∀ (i : Nat) (v : Value),news[i]? = some v -> ∃ n,es[i]? = some (.int .u8 n) /\ v = .int .u8 n:=fun i v hv => by
   have hi : i < es.length:=by have:=(List.getElem?_eq_some_iff.1 hv).1; omega
   have h1:=List.getElem?_eq_getElem hi
   obtain ⟨_,v',hv',hr'⟩:=hrel i _ h1
   have h2:=hb _ (List.mem_of_getElem? h1)
   generalize es[i] = e0 at h1 hr' h2
   unfold isByte at h2
   split at h2
   ·rw [hv] at hv'
    cases hv'
    cases hr'
    exact ⟨_,h1,rfl⟩
   ·cases h2
  refine hout ⟨(news.map fun | .int _ n => UInt8.ofNat n.toNat | _ => 0).toArray⟩ ?_ ?_
  ·have hld:=run_loadCells_list (P:=P) w a news hcell
   rw [hl] at hld
   simp only [convert,Sem.run_bind,run_underlying hs,run_underlying hd,run_underlying he,Result.andThen_ok,Conv.bytesToString,hld]
   rw [<- Array.forIn_toList]
   simp only [List.toList_toArray]
   rw [push_fold (P:=P) (w:=w) _ (fun _ _ => rfl) news .empty fun v hv => by
    obtain ⟨i,hi⟩:=List.getElem?_of_mem hv
    obtain ⟨n,_,hn⟩:=hnews i v hi
    exact ⟨n,hn⟩]
   simp
  ·unfold byteStr
   congr 2
   apply List.ext_getElem?
   intro i
   rw [List.getElem?_map,List.getElem?_map]
   cases hv : news[i]? with
   | none =>
    rw [List.getElem?_eq_none (by have:=List.getElem?_eq_none_iff.1 hv; omega)]
    rfl
   | some v =>
    obtain ⟨n,hn,rfl⟩:=hnews i v hv
    rw [hn]; rfl
end
end Go.AI
namespace Go.AI
section
variable {P : Program} {F : Nat -> Prop} {G : Gh} {w : World} {H : Heap} {vals : List AV} {us : List Value} {R : AV -> Heap -> Prop}
theorem VRel.msl_cells {ob off len sz b : Nat} {u : Value} (hv : VRel G w (.msl ob off len sz) u) (hb : G.obs[ob]? = some b) : ∃ (C : Array Value) (E : TypeId),w.heap[b]? = some (.cells C E (0,0)):=by
 generalize hx : AV.msl ob off len sz = x at hv
 cases hv <;> cases hx
 rename_i b0 cap hcap hob hlcap hcc
 rw [hb] at hob
 cases hob
 obtain ⟨C,E,h1,_⟩:=hcc
 exact ⟨C,E,h1⟩
theorem CRel.freeze (h : CRel F G vals H us w) {ob b : Nat} {cs : List AV} (ho : H[ob]? = some (some cs)) (hb : G.obs[ob]? = some b) (hbc : ∃ (C : Array Value) (E : TypeId),w.heap[b]? = some (.cells C E (0,0))) :
  CRel F (G.setKind b .imm) vals (H.set ob none) us w /\ Ext F G w (G.setKind b .imm) w:=by
 have hobj:=h.h.obj ob cs b ho hb
 have hkd : G.kind b = .obj:=(hobj.of_cells hbc.choose_spec.choose_spec).1
 have hk : Keeps G w (G.setKind b .imm) w:=⟨fun _ _ h => h,fun _ C _ h => ⟨C,h,rfl⟩,fun b' hb' hs => ⟨hb',G.kind_set_ne .imm (fun e => by rw [e,hkd] at hs; cases hs)⟩,fun b' o v hs hc => ⟨by
  by_cases e : b' = b
  ·subst e
   unfold Gh.safe at hs
   rw [hkd] at hs
   exact hs.elim
  ·exact (G.safe_set_ne .imm e).2 hs,hc⟩⟩
 have hE : ∀ F' : Nat -> Prop,(∀ b',F' b' -> b' ≠ b) -> Ext F' G w (G.setKind b .imm) w:=fun F' hF => ⟨Nat.le_refl _,hk,fun b' hb' => G.kind_set_ne .imm (hF b' hb'),fun _ _ => rfl,⟨rfl,rfl,rfl⟩⟩
 have hbuf : ∀ {p : AV × Value} {b' : Nat},TokOk F G w p -> tok p = some b' -> b' ≠ b:=fun {p b'} ht hb' e => by
  obtain ⟨_,⟨q,hq⟩,_⟩:=ht.of_tok hb'
  rw [e,hkd] at hq
  cases hq
 refine ⟨⟨h.l.ext (F':=fun b' => b' ≠ b) (hE _ fun _ h => h) (fun b' hp => ?_),⟨by rw [List.length_set]; exact h.h.len,fun o cs2 b2 h1 h2 => ?_,fun o o' cs2 cs3 b2 h1 h2 h3 h4 => ?_,h.h.fore,h.h.glob.keep hk⟩,fun b' => ?_⟩,hE F fun b' hF e => hobj.own (e ▸ hF)⟩
 ·obtain ⟨_,⟨q,hq⟩,_⟩:=h.l.tok_of_pos hp
  intro e
  rw [e,hkd] at hq
  cases hq
 ·have hne : o ≠ ob:=by
   rintro rfl
   rw [List.getElem?_set_self (by exact (List.getElem?_eq_some_iff.1 ho).1)] at h1
   cases h1
  rw [List.getElem?_set_ne (Ne.symm hne)] at h1
  have hbne : b2 ≠ b:=by
   rintro rfl
   exact hne (h.h.inj _ _ _ _ _ h1 ho h2 hb)
  exact (h.h.obj o cs2 b2 h1 h2).keep hk (h.h.obj o cs2 b2 h1 h2).own (G.kind_set_ne .imm hbne) rfl fun C E _ i c v hc hv s3 => s3.keep fun b' ht => ⟨(s3.of_tok ht).1,G.kind_set_ne .imm (hbuf s3 ht),rfl⟩
 ·have e1 : o ≠ ob:=by
   rintro rfl
   rw [List.getElem?_set_self (by exact (List.getElem?_eq_some_iff.1 ho).1)] at h1
   cases h1
  have e2 : o' ≠ ob:=by
   rintro rfl
   rw [List.getElem?_set_self (by exact (List.getElem?_eq_some_iff.1 ho).1)] at h2
   cases h2
  rw [List.getElem?_set_ne (Ne.symm e1)] at h1
  rw [List.getElem?_set_ne (Ne.symm e2)] at h2
  exact h.h.inj _ _ _ _ _ h1 h2 h3 h4
 ·have hle : hcnt (G.setKind b .imm) (H.set ob none) w b' <= hcnt G H w b':=by
   have hd:=(List.getElem?_eq_some_iff.1 ho).1
   have hs:=sum_range_one (n:=H.length) (f:=fun o => (otoks (G.setKind b .imm) (H.set ob none) w o).count b') (g:=fun o => (otoks G H w o).count b') hd fun o ho' hne => by
    unfold otoks
    rw [List.getElem?_set_ne (Ne.symm hne)]
    rfl
   have hz : (otoks (G.setKind b .imm) (H.set ob none) w ob) = []:=by
    unfold otoks
    rw [List.getElem?_set_self hd]
   simp only [hz,List.count_nil,Nat.add_zero] at hs
   unfold hcnt
   rw [List.length_set]
   omega
  have:=h.cnt b'
  omega
theorem CRel.moveObj (h : CRel F G vals H us w) {ob b : Nat} {cs : List AV} (ho : H[ob]? = some (some cs)) (hb : G.obs[ob]? = some b) :
  CRel F { G with obs:=G.obs ++ [b] } vals (H.set ob none ++ [some cs]) us w /\ Ext F G w { G with obs:=G.obs ++ [b] } w:=by
 have hlen:=h.h.len
 have hob:=(List.getElem?_eq_some_iff.1 ho).1
 have hk : Keeps G w { G with obs:=G.obs ++ [b] } w:=⟨fun o x hx => getElem?_append_some hx,fun _ C _ hC => ⟨C,hC,rfl⟩,fun _ hb' _ => ⟨hb',rfl⟩,fun b' o v hs hc => ⟨hs,hc⟩⟩
 have he : Ext F G w { G with obs:=G.obs ++ [b] } w:=⟨Nat.le_refl _,hk,fun _ _ => rfl,fun _ _ => rfl,⟨rfl,rfl,rfl⟩⟩
 have hat : ∀ (o b' : Nat) (cs' : List AV),(H.set ob none ++ [some cs])[o]? = some (some cs') -> (G.obs ++ [b])[o]? = some b' ->
   (o ≠ ob /\ o < H.length /\ H[o]? = some (some cs') /\ G.obs[o]? = some b') \/ (o = H.length /\ cs' = cs /\ b' = b):=by
  intro o b' cs' h1 h2
  have hlt:=(List.getElem?_eq_some_iff.1 h1).1
  simp only [List.length_append,List.length_set,List.length_cons,List.length_nil] at hlt
  by_cases hol : o < H.length
  ·rw [List.getElem?_append_left (by simpa using hol)] at h1
   rw [List.getElem?_append_left (by omega)] at h2
   have hne : o ≠ ob:=by
    rintro rfl
    rw [List.getElem?_set_self hob] at h1; cases h1
   rw [List.getElem?_set_ne (Ne.symm hne)] at h1
   exact .inl ⟨hne,hol,h1,h2⟩
  ·have : o = H.length:=by omega
   subst this
   rw [List.getElem?_append_right (by simp)] at h1
   rw [List.getElem?_append_right (by omega),hlen] at h2
   simp only [List.length_set,Nat.sub_self,List.getElem?_cons_zero,Option.some.injEq] at h1 h2
   exact .inr ⟨rfl,h1.symm,h2.symm⟩
 refine ⟨⟨⟨h.l.len,fun i a u h1 h2 => (h.l.rel i a u h1 h2).keep hk,fun i a u h1 h2 p hp => h.l.tok i a u h1 h2 p hp⟩,
  ⟨by simp [hlen],fun o cs' b' h1 h2 => ?_,fun o o' cs1 cs2 b' h1 h2 h3 h4 => ?_,h.h.fore,h.h.glob.same rfl⟩,fun x => ?_⟩,he⟩
 ·have lift2 : ∀ (cs : List AV) (b2 : Nat),ORel F G w cs b2 -> ORel F { G with obs:=G.obs ++ [b] } w cs b2:=fun cs b2 hor => by
   exact hor.keep hk hor.own rfl rfl fun _ _ _ _ _ _ _ _ s3 => s3
  rcases hat o b' cs' h1 h2 with ⟨_,_,g1,g2⟩ | ⟨rfl,rfl,rfl⟩
  ·exact lift2 _ _ (h.h.obj o cs' b' g1 g2)
  ·exact lift2 _ _ (h.h.obj ob _ _ ho hb)
 ·rcases hat o b' cs1 h1 h3 with ⟨n1,l1,g1,g2⟩ | ⟨rfl,_,rfl⟩ <;> rcases hat o' _ cs2 h2 h4 with ⟨n2,l2,g3,g4⟩ | ⟨rfl,_,hb2⟩
  ·exact h.h.inj _ _ _ _ _ g1 g3 g2 g4
  ·subst hb2; exact absurd (h.h.inj _ _ _ _ _ g1 ho g2 hb) n1
  ·exact absurd (h.h.inj _ _ _ _ _ g3 ho g4 hb) n2
  ·rfl
 ·have h0:=h.cnt x
  have e : hcnt { G with obs:=G.obs ++ [b] } (H.set ob none ++ [some cs]) w x = hcnt G H w x:=by
   unfold hcnt
   simp only [List.length_append,List.length_set,List.length_cons,List.length_nil,Nat.zero_add,List.range_succ,List.map_append,List.sum_append,List.map_cons,List.map_nil,List.sum_cons,List.sum_nil,Nat.add_zero]
   have enew : otoks { G with obs:=G.obs ++ [b] } (H.set ob none ++ [some cs]) w H.length = otoks G H w ob:=by
    unfold otoks
    rw [List.getElem?_append_right (by simp),List.getElem?_append_right (by omega),hlen,ho,hb]
    simp
   have eold : otoks { G with obs:=G.obs ++ [b] } (H.set ob none ++ [some cs]) w ob = []:=by
    unfold otoks
    rw [List.getElem?_append_left (by simpa using hob),List.getElem?_set_self hob]
   have hone:=sum_range_one (n:=H.length) (f:=fun o => (otoks { G with obs:=G.obs ++ [b] } (H.set ob none ++ [some cs]) w o).count x) (g:=fun o => (otoks G H w o).count x) hob fun o ho' hne => by
    show List.count x _ = List.count x _
    congr 1
    unfold otoks
    rw [List.getElem?_append_left (by simpa using ho'),List.getElem?_append_left (by omega),List.getElem?_set_ne (Ne.symm hne)]
   simp only [eold,List.count_nil,Nat.add_zero] at hone
   rw [enew]
   exact hone
  rw [e]; exact h0
theorem tok_nil_borrowed (cs : List AV) (vs : List Value) : (((cs.map borrow1).zip vs).filterMap tok) = []:=by
 rw [List.filterMap_eq_nil_iff]
 intro p hp
 have hm:=(List.of_mem_zip (show (p.1,p.2) ∈ (cs.map borrow1).zip vs from hp)).1
 obtain ⟨d,_,hd⟩:=List.mem_map.1 hm
 obtain ⟨p1,p2⟩:=p
 simp only at hd
 subst hd
 exact tok_borrow1 d p2
theorem ok_append_row {t e ty ob len sz : Nat} {sv : AV} {xs cs : List AV} {u v : Value} (hc : CRel F G [.msl ob 0 len sz,sv] H [u,v] w) (hx : Src G w (P.cellsOf e) xs v) (ho : H[ob]? = some (some cs)) (hu : P.underlying t = some (.slice e)) (hpos : 0 < P.cellsOf e)
  (hsz : sz = P.cellsOf e) (hcl0 : cs.length = len * sz) (hcb : cs.map borrow1 = cs) (hxs : ∀ x ∈ xs,x.cells.length = P.cellsOf e) (hz : zeroOk P e = true) (hb : (len + xs.length) * P.bytesOf e <= 140737488355328) (h63 : len + xs.length <= 9223372036854775807)
  (hr : R (.msl H.length 0 (len + xs.length) (P.cellsOf e)) (H.set ob none ++ [some (cs ++ (cat xs).map borrow1)])) :
  OpRes P ((do let r <- Builtin.append_ #[t,t] ty #[u,v]; pure (Next.value r) : Sem Next).run P w) (KOut F G w R):=by
 subst hsz
 have hs:=hc.l.rel 0 _ _ rfl rfl
 unfold zeroOk at hz
 split at hz
 case h_2 => cases hz
 rename_i i hi
 split at hz
 case h_2 => cases hz
 rename_i z hz'
 have hcz : z.cells.size = i.size:=by simpa using hz
 have hce : P.cellsOf e = i.size:=by simp [Program.cellsOf,hi]
 have hbe : P.bytesOf e = i.bytes:=by simp [Program.bytesOf,hi]
 rw [hbe] at hb
 have hcl:=cat_length hxs
 have hlen:=hc.h.len
 have hcs' : cs ++ (cat xs).map borrow1 = (cs ++ cat xs).map borrow1:=by rw [List.map_append,hcb]
 cases hs with
 | msl _ _ _ _ b cap hob hl hm hrow0 =>
  obtain ⟨C0,E0,hrow0,hfit0⟩:=hrow0
  obtain ⟨C,E,hrow,hCs,hC⟩:=hc.h.at_obj ho hob ⟨C0,E0,hrow0⟩
  have hfit : 0 + cap * P.cellsOf e <= C.size:=by
   rw [hrow0] at hrow
   cases hrow
   exact hfit0
  have same : xs = [] -> KOut F G w R (.slice (some ⟨b,0,none⟩) len cap) w:=by
   intro h0
   subst h0
   obtain ⟨h1,h2⟩:=hc.moveObj ho hob
   refine ⟨_,_,_,by simpa [cat] using hr, ?_,h2⟩
   have hnew : VRel { G with obs:=G.obs ++ [b] } w (.msl H.length 0 len (P.cellsOf e)) (.slice (some ⟨b,0,none⟩) len cap) :=
    .msl _ _ _ _ b cap (by show (G.obs ++ [b])[H.length]? = some b; rw [List.getElem?_append_right (by omega),hlen]; simp) hl hm ⟨C,E,hrow,hfit⟩
   exact (h1.one hnew (tok_nil_all (toks_scalar rfl rfl _) _ _ _) fun b' => by rw [toks_scalar rfl rfl]; simp)
  rcases hx with ⟨rfl,rfl⟩ | ⟨a,c,news,rfl,hnl,hnews,hone,hcell⟩
  ·refine .value (u:=.slice (some ⟨b,0,none⟩) len cap) (w':=w) ?_ (same rfl)
   simp [Builtin.append_,run_underlying hu,sizeOf,typeInfo,hi,Builtin.lenOf,Builtin.firstCells,hl,storeCells]
  ·by_cases h0 : xs = []
   ·subst h0
    have : news = []:=List.eq_nil_of_length_eq_zero (by simpa using hnl)
    subst this
    refine .value (u:=.slice (some ⟨b,0,none⟩) len cap) (w':=w) ?_ (same rfl)
    simp [Builtin.append_,run_underlying hu,sizeOf,typeInfo,hi,Builtin.lenOf,Builtin.firstCells,loadCells,loadCellsFrom,hl,storeCells]
   ·have hpos2 : 0 < xs.length:=List.length_pos_iff.2 h0
    have hget : ∀ (i : Nat) (d : AV),((cat xs).map borrow1)[i]? = some d -> ∃ c v,d = borrow1 c /\ c.scalar = true /\ news[i]? = some v /\ VRel G w c v:=by
     intro i d hd
     rw [List.getElem?_map] at hd
     cases hci : (cat xs)[i]? with
     | none => rw [hci] at hd; cases hd
     | some c =>
      rw [hci] at hd
      cases hd
      obtain ⟨s1,v,s2,s3⟩:=hcell i c hci
      exact ⟨c,v,rfl,s1,s2,s3⟩
    have hold : ∀ (i : Nat) (d : AV) (x : Value),cs[i]? = some d -> C[i]? = some x -> d.scalar = true /\ VRel G w d x /\ d = borrow1 d:=by
     intro i d x hd hx'
     have hi':=(List.getElem?_eq_some_iff.1 hd).1
     obtain ⟨g1,g2,_⟩:=hC.at_ i d x hd (by rw [List.getElem?_take,if_pos hi',Array.getElem?_toList]; exact hx')
     refine ⟨g1,g2, ?_⟩
     have : (cs.map borrow1)[i]? = some (borrow1 d):=by rw [List.getElem?_map,hd]; rfl
     rw [hcb,hd] at this
     exact Option.some.inj this
    by_cases hroom : len + xs.length <= cap
    ·have hf:=run_firstCells_some (P:=P) w i.size xs.length a xs.length c news (by rw [hnl,hce]) hnews
     have hfit2 : len * P.cellsOf e + news.length <= C.size:=by
      rw [hnl,<- Nat.add_mul]
      have:=Nat.mul_le_mul_right (P.cellsOf e) hroom
      omega
     have hst:=run_storeCells_at P b (len * P.cellsOf e) E news 0 C w hrow (by omega) hone
     simp only [Nat.add_zero] at hst
     let C' : Array Value:=(C.toList.take (len * P.cellsOf e) ++ news ++ C.toList.drop (len * P.cellsOf e + news.length)).toArray
     have hC' : C' = (C.toList.take (len * P.cellsOf e) ++ news ++ C.toList.drop (len * P.cellsOf e + news.length)).toArray:=rfl
     have htl : (C.toList.take (len * P.cellsOf e)).length = len * P.cellsOf e:=by simp; omega
     have hset:=hc.setObj ho hob hrow (C':=C') (by rw [hC']; simp; omega) (cs':=cs ++ (cat xs).map borrow1) (by rw [hC']; simp; omega)
      (fun i d x hd hx' => by
       rw [hC',List.getElem?_toArray] at hx'
       by_cases hlt : i < cs.length
       ·rw [List.getElem?_append_left hlt] at hd
        rw [List.append_assoc,List.getElem?_append_left (by omega),List.getElem?_take,if_pos (by omega),Array.getElem?_toList] at hx'
        obtain ⟨g1,g2,g3⟩:=hold i d x hd hx'
        exact ⟨g1,g2,TokOk.of_none (by rw [g3]; exact tok_borrow1 d _)⟩
       ·rw [List.getElem?_append_right (by omega)] at hd
        obtain ⟨c,v,rfl,s1,s2,s3⟩:=hget _ d hd
        have hlt2:=(List.getElem?_eq_some_iff.1 s2).1
        rw [List.append_assoc,List.getElem?_append_right (by omega),htl,<- hcl0,List.getElem?_append_left hlt2,s2] at hx'
        cases hx'
        exact ⟨(scalar_borrow1 c).trans s1,s3.borrow1,TokOk.of_none (tok_borrow1 c _)⟩) (vs:=[]) (us':=[]) (.nil F G w) (fun x => by rw [hcs',tok_nil_borrowed]; simp [tcnt_nil])
     have hlenset : (H.set ob (some (cs ++ (cat xs).map borrow1)))[ob]? = some (some (cs ++ (cat xs).map borrow1)):=List.getElem?_set_self (List.getElem?_eq_some_iff.1 ho).1
     obtain ⟨h1,h2⟩:=hset.1.moveObj hlenset hob
     refine .value (u:=.slice (some ⟨b,0,none⟩) (len + xs.length) cap) (w':=w.setRow b C') ?_ ⟨_,_,_,hr, ?_,hset.2.trans h2⟩
     ·rw [hce] at hst
      simp [Builtin.append_,run_underlying hu,sizeOf,typeInfo,hi,Builtin.lenOf,hroom,hf,addr_add,hst,hC',hce]
     ·rw [List.set_set] at h1
      have hrow' : (w.setRow b C').heap[b]? = some (.cells C' E (0,0)):=setRow_heap w b C _ E _ hrow
      have hnew : VRel { G with obs:=G.obs ++ [b] } (w.setRow b C') (.msl H.length 0 (len + xs.length) (P.cellsOf e)) (.slice (some ⟨b,0,none⟩) (len + xs.length) cap) :=
       .msl _ _ _ _ b cap (by show (G.obs ++ [b])[H.length]? = some b; rw [List.getElem?_append_right (by omega),hlen]; simp) hroom hm ⟨_,E,hrow',by rw [hC']; simp; omega⟩
      exact (h1.one hnew (tok_nil_all (toks_scalar rfl rfl _) _ _ _) fun b' => by rw [toks_scalar rfl rfl]; simp)
    ·let olds : List Value:=C.toList.take (len * P.cellsOf e)
     have holds : olds = C.toList.take (len * P.cellsOf e):=rfl
     have hol : olds.length = len * P.cellsOf e:=by rw [holds]; simp; omega
     have hrun:=run_append_grow (P:=P) (ty:=ty) w t e i z hu hi hz' ⟨b,0,none⟩ len cap olds (by rw [hol,hce]) (fun j v hv => by
       rw [addr_add,Nat.zero_add,cell_of_row _ _ j C E _ hrow]
       rw [holds,List.getElem?_take] at hv
       split at hv
       ·rwa [Array.getElem?_toList] at hv
       ·cases hv) a xs.length c news (by rw [hnl,hce]) hnews (by omega) (by omega) (growslice_fits (by omega) (by simpa using hb))
     obtain ⟨h1,h2⟩:=hc.freeze ho hob ⟨_,_,hrow⟩
     have hd:=h1.draw
     have hge:=grownCap_ge w (len + xs.length) cap e
     have hcm : grownCap w (len + xs.length) cap e <= maxLen:=grownCap_le_maxLen w _ cap e (by unfold maxLen; omega)
     have hsize : (olds.toArray ++ news.toArray ++ Builtin.zeroCells z.cells (grownCap w (len + xs.length) cap e - (len + xs.length))).size = grownCap w (len + xs.length) cap e * P.cellsOf e:=by
      simp only [Array.size_append,List.size_toArray,size_zeroCells,hcz,hol,hnl,<- hce,<- Nat.add_mul]
      congr 1; omega
     have hk:=h2.keeps
     refine .value (by rw [Sem.run_bind,hrun]; rfl) ⟨_,_,_,hr, ?_,(h2.trans ext_draw).trans (ext_newObj hd.h.fore _)⟩
     have hl2 : (H.set ob none).length = H.length:=by simp
     have:=hd.newObj (cs ++ (cat xs).map borrow1) (olds.toArray ++ news.toArray ++ Builtin.zeroCells z.cells (grownCap w (len + xs.length) cap e - (len + xs.length))) e (by rw [hsize]; simp; rw [hcl,hcl0,<- Nat.add_mul]; exact Nat.mul_le_mul_right _ hge)
      (fun i d x hd' hx' => by
       by_cases hlt : i < cs.length
       ·rw [List.getElem?_append_left hlt] at hd'
        have hxo : olds[i]? = some x:=by
         have e0:=grown_get (olds:=olds) (news:=news) (rest:=(Builtin.zeroCells z.cells (grownCap w (len + xs.length) cap e - (len + xs.length))).toList) i (by omega)
         rw [Array.toArray_toList] at e0
         rw [e0,List.getElem?_append_left (by omega)] at hx'
         exact hx'
        rw [holds,List.getElem?_take,if_pos (by omega),Array.getElem?_toList] at hxo
        obtain ⟨g1,g2,g3⟩:=hold i d x hd' hxo
        exact ⟨g1,(g2.keep hk).keep (ext_draw (F:=F)).keeps,TokOk.of_none (by rw [g3]; exact tok_borrow1 d _)⟩
       ·rw [List.getElem?_append_right (by omega)] at hd'
        obtain ⟨c,v,rfl,s1,s2,s3⟩:=hget _ d hd'
        have hlt2:=(List.getElem?_eq_some_iff.1 s2).1
        have e0:=grown_get (olds:=olds) (news:=news) (rest:=(Builtin.zeroCells z.cells (grownCap w (len + xs.length) cap e - (len + xs.length))).toList) i (by omega)
        rw [Array.toArray_toList] at e0
        rw [e0,List.getElem?_append_right (by omega),hol,<- hcl0,s2] at hx'
        cases hx'
        exact ⟨(scalar_borrow1 c).trans s1,((s3.keep hk).keep (ext_draw (F:=F)).keeps).borrow1,TokOk.of_none (tok_borrow1 c _)⟩) (fun x => by rw [hcs',tok_nil_borrowed]; simp)
      (v:=.msl H.length 0 (len + xs.length) (P.cellsOf e)) (u:=.slice (some ⟨w.heap.size,0,none⟩) (len + xs.length) (grownCap w (len + xs.length) cap e))
      (.msl _ _ _ _ w.heap.size _ (by
       show ((G.setKind b .imm).obs ++ [w.drew.heap.size])[H.length]? = _
       rw [List.getElem?_append_right (by show G.obs.length <= _; omega)]
       show [w.drew.heap.size][H.length - G.obs.length]? = _
       rw [hlen]; simp) hge hcm ⟨_,e,heap_alloc_new _ _,by rw [hsize]; omega⟩) (toks_scalar rfl rfl _)
     exact this
theorem ok_append_nil {t e ty : Nat} {sv : AV} {xs : List AV} {u v : Value} (hc : CRel F G [.sl (some 0) [],sv] H [u,v] w) (hx : Src G w (P.cellsOf e) xs v) (hu : P.underlying t = some (.slice e)) (hpos : 0 < P.cellsOf e)
  (hxs : ∀ x ∈ xs,x.cells.length = P.cellsOf e) (hz : zeroOk P e = true) (hpos2 : 0 < xs.length) (hb : xs.length * P.bytesOf e <= 140737488355328) (h63 : xs.length <= 9223372036854775807)
  (hr : R (.msl H.length 0 xs.length (P.cellsOf e)) (H ++ [some ((cat xs).map borrow1)])) :
  OpRes P ((do let r <- Builtin.append_ #[t,t] ty #[u,v]; pure (Next.value r) : Sem Next).run P w) (KOut F G w R):=by
 have hs:=hc.l.rel 0 _ _ rfl rfl
 unfold zeroOk at hz
 split at hz
 case h_2 => cases hz
 rename_i i hi
 split at hz
 case h_2 => cases hz
 rename_i z hz'
 have hcz : z.cells.size = i.size:=by simpa using hz
 have hce : P.cellsOf e = i.size:=by simp [Program.cellsOf,hi]
 have hbe : P.bytesOf e = i.bytes:=by simp [Program.bytesOf,hi]
 rw [hbe] at hb
 have hcl:=cat_length hxs
 have hlen:=hc.h.len
 rcases hx with ⟨rfl,rfl⟩ | ⟨a,c,news,rfl,hnl,hnews,hone,hcell⟩
 ·simp at hpos2
 have hget : ∀ (i : Nat) (d : AV),((cat xs).map borrow1)[i]? = some d -> ∃ c v,d = borrow1 c /\ c.scalar = true /\ news[i]? = some v /\ VRel G w c v:=by
  intro i d hd
  rw [List.getElem?_map] at hd
  cases hci : (cat xs)[i]? with
  | none => rw [hci] at hd; cases hd
  | some c =>
   rw [hci] at hd
   cases hd
   obtain ⟨s1,v,s2,s3⟩:=hcell i c hci
   exact ⟨c,v,rfl,s1,s2,s3⟩
 have done : ∀ (C : Array Value) (cap : Nat),xs.length <= cap -> cap <= maxLen -> (∀ (i : Nat) (v : Value),news[i]? = some v -> C[i]? = some v) -> cap * P.cellsOf e <= C.size ->
   KOut F G w R (.slice (some ⟨w.heap.size,0,none⟩) xs.length cap) (w.drew.alloc (.cells C e)):=by
  intro C cap h1 h2 h3 h4
  have hd:=hc.draw
  have hle:=Nat.mul_le_mul_right (P.cellsOf e) h1
  refine ⟨_,_,_,hr, ?_,ext_draw.trans (ext_newObj hd.h.fore _)⟩
  exact hd.newObj ((cat xs).map borrow1) C e (by simp; rw [hcl]; omega)
   (fun i d x hd' hx' => by
    obtain ⟨c,v,rfl,s1,s2,s3⟩:=hget i d hd'
    rw [h3 i v s2] at hx'
    cases hx'
    exact ⟨(scalar_borrow1 c).trans s1,(s3.keep (ext_draw (F:=F)).keeps).borrow1,TokOk.of_none (tok_borrow1 c _)⟩) (fun x => by rw [tok_nil_borrowed]; simp)
   (v:=.msl H.length 0 xs.length (P.cellsOf e)) (u:=.slice (some ⟨w.heap.size,0,none⟩) xs.length cap)
   (.msl _ _ _ _ w.heap.size _ (by
    show (G.obs ++ [w.drew.heap.size])[H.length]? = _
    rw [List.getElem?_append_right (by omega),hlen]; simp) h1 h2 ⟨_,e,heap_alloc_new _ _,by omega⟩) (toks_scalar rfl rfl _)
 have hzs : ∀ k,(Builtin.zeroCells z.cells k).size = k * P.cellsOf e:=fun k => by rw [size_zeroCells,hcz,hce]
 have grown : ∀ cap0,(xs.length <= grownCap w xs.length cap0 e /\ grownCap w xs.length cap0 e <= maxLen):=fun cap0 => ⟨grownCap_ge w xs.length cap0 e,grownCap_le_maxLen w _ cap0 e (by unfold maxLen; omega)⟩
 generalize hA : AV.sl (some 0) [] = A at hs
 cases hs <;> cases hA
 ·have hrun:=run_append_nil (P:=P) w t ty e i z hu hi hz' a xs.length c news (by rw [hnl,hce]) hnews hpos2 (by omega) (by omega)
  refine .value (by rw [Sem.run_bind,hrun]; rfl) (done _ _ (grown 0).1 (grown 0).2 (fun i v hv => ?_) ?_)
  ·have hlt:=(List.getElem?_eq_some_iff.1 hv).1
   rw [Array.getElem?_append_left (by simpa using hlt),List.getElem?_toArray]; exact hv
  ·have:=(grown 0).1
   simp only [Array.size_append,List.size_toArray,hzs,hnl,<- Nat.add_mul]
   exact Nat.mul_le_mul_right _ (by omega)
 ·rename_i ad
  have hrun:=run_append_grow (P:=P) (ty:=ty) w t e i z hu hi hz' ad 0 0 [] (by simp) (fun j v hv => by simp at hv) a xs.length c news (by rw [hnl,hce]) hnews (by omega) (by omega) (growslice_fits (by omega) (by simpa using hb))
  simp only [Nat.zero_add] at hrun
  refine .value (by rw [Sem.run_bind,hrun]; rfl) (done _ _ (grown 0).1 (grown 0).2 (fun i v hv => ?_) ?_)
  ·have hlt:=(List.getElem?_eq_some_iff.1 hv).1
   have e0:=grown_get (olds:=[]) (news:=news) (rest:=(Builtin.zeroCells z.cells (grownCap w xs.length 0 e - xs.length)).toList) i (by simpa using hlt)
   rw [Array.toArray_toList] at e0
   rw [e0]; simpa using hv
  ·have:=(grown 0).1
   simp only [Array.size_append,List.size_toArray,hzs,hnl,<- Nat.add_mul,List.length_nil,Nat.zero_add]
   exact Nat.mul_le_mul_right _ (by omega)
 ·rename_i hown _ _ _ _
  have:=(hown 0 rfl).2
  omega
theorem ok_clear {t e ty ob off len sz : Nat} {cs : List AV} {z : AV} {u : Value} (hc : CRel F G [.msl ob off len sz] H [u] w) (ho : H[ob]? = some (some cs)) (hu : P.underlying t = some (.slice e)) (hzv : zeroAV P e = some z) (hsz : sz = z.cells.length) (hn : 0 < len)
  (hle : off + len * sz <= cs.length) (hr : R (.tup []) (H.set ob (some (splice cs off (zerosN z len))))) :
  OpRes P ((do let r <- Builtin.clear_ #[t] ty #[u]; pure (Next.value r) : Sem Next).run P w) (KOut F G w R):=by
 subst hsz
 have hp:=hc.l.rel 0 _ _ rfl rfl
 obtain ⟨zv,hrun,hval,hcz,htz⟩:=zero_sem hzv
 have hz0:=hcz F G w
 have hzl : z.cells.length = zv.cells.size:=by simpa using hz0.len
 cases hp with
 | msl _ _ _ _ b cap hob hlc hmx hrw =>
  obtain ⟨C0,E0,hrow0,_⟩:=hrw
  obtain ⟨C,E,hrow,hCs,hC⟩:=hc.h.at_obj ho hob ⟨C0,E0,hrow0⟩
  let L : List Value:=(Builtin.zeroCells zv.cells len).toList
  have hL : L = (List.range (len * zv.cells.size)).map fun i => zv.cells[i % zv.cells.size]!:=by
   show (Builtin.zeroCells zv.cells len).toList = _
   simp [Builtin.zeroCells]
  have hXl : (zerosN z len).length = len * z.cells.length:=by simp [zerosN]
  have hLl : L.length = len * z.cells.length:=by rw [hL,hzl]; simp
  have pair : ∀ (i : Nat) (c : AV) (v : Value),(zerosN z len)[i]? = some c -> L[i]? = some v -> ∃ j : Nat,z.cells[j]? = some c /\ zv.cells.toList[j]? = some v:=by
   intro i c v h1 h2
   have hi : i < len * z.cells.length:=by have:=(List.getElem?_eq_some_iff.1 h1).1; omega
   have hpos : 0 < z.cells.length:=Nat.pos_of_ne_zero fun h => by rw [h] at hi; simp at hi
   have hj : i % z.cells.length < z.cells.length:=Nat.mod_lt _ hpos
   refine ⟨i % z.cells.length, ?_, ?_⟩
   ·unfold zerosN at h1
    rw [List.getElem?_map,List.getElem?_range hi] at h1
    simp only [Option.map_some,Option.some.injEq] at h1
    rw [List.getElem?_eq_getElem hj] at h1 ⊢
    simpa using h1
   ·rw [hL,List.getElem?_map,<- hzl,List.getElem?_range hi] at h2
    simp only [Option.map_some,Option.some.injEq] at h2
    have hj2 : i % z.cells.length < zv.cells.size:=by omega
    rw [Array.getElem?_toList,Array.getElem?_eq_getElem hj2,<- h2,getElem!_pos zv.cells _ hj2]
  have hcv : Cells F G w (zerosN z len) L:=⟨by rw [hXl,hLl],fun i c v h1 h2 => by obtain ⟨j,g1,g2⟩:=pair i c v h1 h2; exact hz0.at_ j c v g1 g2⟩
  have htk : ctoks (zerosN z len) L = []:=by
   unfold ctoks at htz ⊢
   rw [List.filterMap_eq_nil_iff] at htz ⊢
   intro p hp
   obtain ⟨i,hi⟩:=List.getElem?_of_mem hp
   rw [List.getElem?_zip_eq_some] at hi
   obtain ⟨j,g1,g2⟩:=pair i _ _ hi.1 hi.2
   exact htz p (List.mem_of_getElem? (List.getElem?_zip_eq_some.2 ⟨g1,g2⟩))
  have hst:=run_storeCells_at P b off E L 0 C w hrow (by rw [hLl]; omega) hcv.oneCell
  simp only [Nat.add_zero] at hst
  let C' : Array Value:=(C.toList.take off ++ L ++ C.toList.drop (off + L.length)).toArray
  have hC' : C' = (C.toList.take off ++ L ++ C.toList.drop (off + L.length)).toArray:=rfl
  have hsize : C'.size = C.size:=by rw [hC']; simp; omega
  have hrun2 : (Builtin.clear_ #[t] ty #[.slice (some ⟨b,off,none⟩) len cap]).run P w = .ok (.tuple #[]) (w.setRow b C'):=by
   obtain ⟨m,rfl⟩ : ∃ m,len = m + 1:=⟨len - 1,by omega⟩
   simp [Builtin.clear_,run_underlying hu,hrun,hst,hC',L]
  have hlen2 : (splice cs off (zerosN z len)).length = cs.length:=splice_length (by omega)
  have hspl : C'.toList.take cs.length = spliceV (C.toList.take cs.length) off L:=by
   rw [hC']
   have:=take_splice C.toList L off cs.length (by omega) (by simpa using hCs)
   simpa [spliceV] using this
  have hCC:=hC.splice (off:=off) hcv
  have hset:=hc.setObj ho hob hrow (C':=C') hsize (cs':=splice cs off (zerosN z len)) (by rw [hlen2,hsize]; exact hCs) (fun i c y hc' hy => ?_) (vs:=[.tup []]) (us':=[.tuple #[]])
   (.cons (.tup [] #[] rfl (fun _ h => by cases h) (fun _ _ _ h => by cases h)) (tok_nil_all (by simp [toks,prs,AV.flat,vflat]) F G w) (.nil F G w)) (fun y => ?_)
  ·exact .value (by rw [Sem.run_bind,hrun2]; rfl) ⟨.tup [],_,G,hr,hset.1,hset.2⟩
  ·have hi:=(List.getElem?_eq_some_iff.1 hc').1
   refine hCC.at_ i c y hc' ?_
   rw [<- hspl,List.getElem?_take,if_pos (by omega)]
   simpa using hy
  ·have e0 : toks (.tup []) (.tuple #[]) = []:=by simp [toks,prs,AV.flat,vflat]
   rw [tcnt_cons,tcnt_nil,e0,tcnt_cons,tcnt_nil,toks_scalar rfl rfl]
   have z1 : (splice cs off (zerosN z len)).zip C'.toList = (splice cs off (zerosN z len)).zip (spliceV (C.toList.take cs.length) off L):=by
    have:=zip_take (splice cs off (zerosN z len)) C'.toList
    rw [hlen2,hspl] at this; exact this
   rw [z1,zip_take cs C.toList]
   have h1:=ctoks_splice (cs:=cs) (xs:=zerosN z len) (vs:=C.toList.take cs.length) (ys:=L) (off:=off) hC.len (by omega) y
   rw [htk] at h1
   unfold ctoks at h1
   simp only [List.count_nil] at h1 ⊢
   omega
end
end Go.AI
namespace Go.AI
open Go.MapKept
section
variable {P : Program} {F : Nat -> Prop} {G : Gh} {w : World} {H : Heap} {R : AV -> Heap -> Prop}
theorem cat_scalars {es : List AV} (h : ∀ c ∈ es,c.scalar = true) : cat es = es:=by
 induction es with
 | nil => rfl
 | cons c es ih =>
  simp only [cat,List.flatMap_cons,cells_scalar (h c (by simp))]
  have:=ih fun c' hc' => h c' (by simp [hc'])
  simp only [cat] at this
  rw [this]; rfl
theorem ok_slice_carr {t ta e n : Nat} {cs : List AV} {off : Nat} {u : Value} {rest : List AV} {urest : List Value} (hc : CRel F G (.cptr cs off :: rest) H (u :: urest) w) (hu : P.underlying t = some (.pointer ta)) (ha : P.underlying ta = some (.array n e))
  (h1 : P.cellsOf e = 1) (hle : off + n <= cs.length) (hm : n <= 9223372036854775807) (hr : R (.sl none ((cs.drop off).take n)) H) :
  OpRes P ((do let r <- Instr.sliceAt t u none none none; pure (Next.value r) : Sem Next).run P w) (KOut F G w R):=by
 have hx:=hc.l.rel 0 _ _ rfl rfl
 cases hx with
 | cptr _ _ b q f g1 g2 =>
  have hb:=run_sliceBounds (P:=P) (isSlice:=false) (len:=n) (cap:=n) (.none) (.none) .none (fun h => by cases h) (by simp) (by simp) (by simp) (by simp) w
  have hsz:=run_sizeOf_pos (P:=P) (t:=e) (by rw [h1]; exact Nat.one_pos) w
  have hlen : ((cs.drop off).take n).length = n:=by simp; omega
  have hget : ∀ (i : Nat) (c : AV),((cs.drop off).take n)[i]? = some c -> cs[off + i]? = some c:=fun i c hi => by
   rw [List.getElem?_take] at hi
   split at hi
   ·rwa [List.getElem?_drop] at hi
   ·cases hi
  have hsc : ∀ c ∈ (cs.drop off).take n,c.scalar = true:=fun c hc' => by
   obtain ⟨i,hi⟩:=List.getElem?_of_mem hc'
   exact (g1 _ c (hget i c hi)).1
  refine .value (u:=.slice (some ⟨b,q + off,none⟩) n n) (w':=w) ?_ (KOut.plain hc hr ?_ (toks_owned rfl _))
  ·simp only [Instr.sliceAt,Instr.slice,Sem.run_bind,run_underlying hu,Result.andThen_ok,asAddr,Sem.run_pure,run_underlying ha,hb,hsz,h1]
   simp [addr_add]
  ·have hv:=VRel.sl (G:=G) (w:=w) none ((cs.drop off).take n) 1 b (q + off) n (fun i => f (off + i)) (fun x hx => by rw [cells_scalar (hsc x hx)]; rfl) (fun _ h => by cases h) (by omega) (by unfold maxLen; omega)
    (fun i c hi => by
     rw [cat_scalars hsc] at hi
     have:=g1 _ c (hget i c hi)
     rw [Nat.add_assoc]; exact this)
    (fun i c hi => by
     rw [cat_scalars hsc] at hi
     exact g2 _ c (hget i c hi))
   rw [hlen] at hv
   exact hv
theorem ok_slice_carr2 {t e n : Nat} {cs : List AV} {off : Nat} {u : Value} {rest : List AV} {urest : List Value} (hc : CRel F G (.cptr cs off :: rest) H (u :: urest) w) (ha : P.underlying t = some (.array n e))
  (h1 : P.cellsOf e = 1) (hle : off + n <= cs.length) (hm : n <= 9223372036854775807) (hr : R (.sl none ((cs.drop off).take n)) H) :
  OpRes P ((do let r <- Instr.sliceAt t u none none none; pure (Next.value r) : Sem Next).run P w) (KOut F G w R):=by
 have hx:=hc.l.rel 0 _ _ rfl rfl
 cases hx with
 | cptr _ _ b q f g1 g2 =>
  have hb:=run_sliceBounds (P:=P) (isSlice:=false) (len:=n) (cap:=n) (.none) (.none) .none (fun h => by cases h) (by simp) (by simp) (by simp) (by simp) w
  have hsz:=run_sizeOf_pos (P:=P) (t:=e) (by rw [h1]; exact Nat.one_pos) w
  have hlen : ((cs.drop off).take n).length = n:=by simp; omega
  have hget : ∀ (i : Nat) (c : AV),((cs.drop off).take n)[i]? = some c -> cs[off + i]? = some c:=fun i c hi => by
   rw [List.getElem?_take] at hi
   split at hi
   ·rwa [List.getElem?_drop] at hi
   ·cases hi
  have hsc : ∀ c ∈ (cs.drop off).take n,c.scalar = true:=fun c hc' => by
   obtain ⟨i,hi⟩:=List.getElem?_of_mem hc'
   exact (g1 _ c (hget i c hi)).1
  refine .value (u:=.slice (some ⟨b,q + off,none⟩) n n) (w':=w) ?_ (KOut.plain hc hr ?_ (toks_owned rfl _))
  ·simp only [Instr.sliceAt,Instr.sureAddr,Sem.run_bind,Result.andThen_ok,Sem.run_pure,run_underlying ha,hb,hsz,h1]
   simp [addr_add]
  ·have hv:=VRel.sl (G:=G) (w:=w) none ((cs.drop off).take n) 1 b (q + off) n (fun i => f (off + i)) (fun x hx => by rw [cells_scalar (hsc x hx)]; rfl) (fun _ h => by cases h) (by omega) (by unfold maxLen; omega)
    (fun i c hi => by
     rw [cat_scalars hsc] at hi
     have:=g1 _ c (hget i c hi)
     rw [Nat.add_assoc]; exact this)
    (fun i c hi => by
     rw [cat_scalars hsc] at hi
     exact g2 _ c (hget i c hi))
   rw [hlen] at hv
   exact hv
theorem ok_slice_obj {t e n o off : Nat} {cs : List AV} {u : Value} {rest : List AV} {urest : List Value} (hc : CRel F G (.ptr o off :: rest) H (u :: urest) w) (ha : P.underlying t = some (.array n e))
  (hi : (P.info? e).isSome = true) (ho : H[o]? = some (some cs)) (hle : off + n * P.cellsOf e <= cs.length) (hm : n <= 9223372036854775807) (hr : R (.msl o off n (P.cellsOf e)) H) :
  OpRes P ((do let r <- Instr.sliceAt t u none none none; pure (Next.value r) : Sem Next).run P w) (KOut F G w R):=by
 have hx:=hc.l.rel 0 _ _ rfl rfl
 obtain ⟨i,hi'⟩:=Option.isSome_iff_exists.1 hi
 have hsize : ∀ w,(sizeOf e).run P w = .ok (P.cellsOf e) w:=fun w => by simp [sizeOf,typeInfo,hi',Program.cellsOf]
 cases hx with
 | ptr _ _ b hob hcell =>
  obtain ⟨C0,E0,hcell⟩:=hcell
  obtain ⟨_,C,E,g2,g3,_⟩:=(hc.h.obj o cs b ho hob).of_cells hcell
  have hb:=run_sliceBounds (P:=P) (isSlice:=false) (len:=n) (cap:=n) (.none) (.none) .none (fun h => by cases h) (by simp) (by simp) (by simp) (by simp) w
  refine .value (u:=.slice (some ⟨b,off,none⟩) n n) (w':=w) ?_ (KOut.plain hc hr (.msl _ _ _ _ b n hob (Nat.le_refl _) (by unfold maxLen; omega) ⟨C,E,g2,by omega⟩) (toks_scalar rfl rfl _))
  simp only [Instr.sliceAt,Instr.sureAddr,Sem.run_bind,Result.andThen_ok,Sem.run_pure,run_underlying ha,hb,hsize]
  simp [addr_add]
theorem ok_slice_cap0 {t e : Nat} {own : Option Nat} {es : List AV} {u : Value} {rest : List AV} {urest : List Value} {hi mx : Option Value} (hc : CRel F G (.sl own es :: rest) H (u :: urest) w) (hu : P.underlying t = some (.slice e))
  (hh : OptB hi (some 0)) (hm : OptB mx (some 0)) (hz : (P.info? e).isSome = true) (hr : R (.sl (some 0) []) H) :
  OpRes P ((do let r <- Instr.sliceAt t u none hi mx; pure (Next.value r) : Sem Next).run P w) (KOut F G w R):=by
 have hx:=hc.l.rel 0 _ _ rfl rfl
 obtain ⟨i,hi'⟩:=Option.isSome_iff_exists.1 hz
 have hsize : ∀ w,(sizeOf e).run P w = .ok (P.cellsOf e) w:=fun w => by simp [sizeOf,typeInfo,hi',Program.cellsOf]
 have run : ∀ (a : Option Addr) (len cap : Nat),(Instr.sliceAt t (.slice a len cap) none hi mx).run P w = .ok (.slice a 0 0) w:=fun a len cap => by
  have hb:=run_sliceBounds (P:=P) (isSlice:=true) (len:=len) (cap:=cap) .none hh hm (fun _ => rfl) (by simp) (by simp) (by simp) (by simp) w
  simp only [Instr.sliceAt,Instr.slice,Sem.run_bind,run_underlying hu,Result.andThen_ok,hb,hsize]
  simp
 have nt : ∀ a : Option Addr,toks (.sl (some 0) []) (.slice a 0 0) = []:=fun a => by cases a <;> simp [toks,prs,AV.flat,AV.cells,vflat,Value.cells,tok]
 cases hx with
 | slnil => exact .value (by rw [Sem.run_bind,run]; rfl) (KOut.plain hc hr (.slnil _) (nt _))
 | slany _ a => exact .value (by rw [Sem.run_bind,run]; rfl) (KOut.plain hc hr (.slany _ _) (nt _))
 | sl _ _ sz b q cap f hsz hown hl hmx hcs hus => exact .value (by rw [Sem.run_bind,run]; rfl) (KOut.plain hc hr (.slany _ _) (nt _))
theorem zero_rel {t : TypeId} {z : AV} (h : zeroAV P t = some z) : ∃ zv,(∀ w,(zeroValue t).run P w = .ok zv w) /\ z.isVal = true /\ VRel G w z zv:=by
 obtain ⟨zv0,hrun,hval,hcells,_⟩:=zero_sem (P:=P) h
 refine ⟨zv0,hrun,hval, ?_⟩
 unfold zeroAV at h
 split at h
 ·rename_i cs hz
  split at h
  ·cases h
   cases hi : P.info? t with
   | none => rw [hi] at hz; cases hz
   | some i =>
    rw [hi] at hz
    have hz' : i.zero = some (.agg cs):=hz
    have h2 : (zeroValue t).run P default = .ok (.agg cs) default:=by simp [zeroValue,typeInfo,hi,hz']
    rw [hrun default] at h2
    cases h2
    have:=(agg_of (hcells (fun _ => False) G w)).1
    exact this
  ·cases h
 ·rename_i zv hne hz
  split at h
  ·cases h
   cases hi : P.info? t with
   | none => rw [hi] at hz; cases hz
   | some i =>
    rw [hi] at hz
    have hz' : i.zero = some zv:=hz
    have h2 : (zeroValue t).run P default = .ok zv default:=by simp [zeroValue,typeInfo,hi,hz']
    rw [hrun default] at h2
    cases h2
    exact VRel.constT G w _ _
  ·cases h
 ·cases h
theorem map_lays {t : TypeId} {r : Option Value} {vs : List AV} {us : List Value} (hc : CRel F G vs H us w) (hrun : (Instr.makeMap t r).run P w = .ok (.map (some w.heap.size)) (w.alloc (.map #[] 0))) (hr : R (.mapr H.length) (H ++ [some (mapc [])])) :
  OpRes P ((do let v <- Instr.makeMap t r; pure (Next.value v) : Sem Next).run P w) (KOut F G w R):=by
 refine .value (by rw [Sem.run_bind,hrun]; rfl) ⟨_,_,G.newK w.heap.size .map,hr, ?_,ext_newK hc.h.fore _ _⟩
 have hkn : (G.newK w.heap.size .map).kind w.heap.size = .map:=G.kind_set _ _
 have hlen:=hc.h.len
 refine hc.newG .map (.map #[] 0) (mapc []) ⟨fun hF => absurd (hc.h.fore _ hF) (Nat.lt_irrefl _), ?_⟩ (.cons (.mapr _ _ ?_ (by rw [size_alloc]; omega) hkn) (tok_nil_all (toks_owned rfl _) F _ _) (.nil F _ _)) (fun b => ?_)
 ·rw [hkn]
  exact ⟨[],#[],0,heap_alloc_new _ _,rfl,rfl,(fun i p m h => by simp at h),rfl,fun i m h => by simp at h⟩
 ·show (G.obs ++ [w.heap.size])[H.length]? = _
  rw [List.getElem?_append_right (by omega),hlen,Nat.sub_self]; rfl
 ·rw [tcnt_cons,tcnt_nil,toks_owned rfl]; simp [btoks]
theorem ok_makeMap {t : TypeId} (hc : CRel F G [] H [] w) (hr : R (.mapr H.length) (H ++ [some (mapc [])])) :
  OpRes P ((do let v <- Instr.makeMap t none; pure (Next.value v) : Sem Next).run P w) (KOut F G w R) :=
 map_lays hc (by simp [Instr.makeMap]) hr
theorem ok_makeMap_hint {t kt et : TypeId} {k : IntKind} {n : Int} {u : Value} (hc : CRel F G [.int k n] H [u] w) (hu : P.underlying t = some (.map kt et)) (hr : R (.mapr H.length) (H ++ [some (mapc [])])) :
  OpRes P ((do let v <- Instr.makeMap t (some u); pure (Next.value v) : Sem Next).run P w) (KOut F G w R):=by
 have hx:=hc.l.rel 0 _ _ rfl rfl
 cases hx
 exact map_lays hc (by simp [Instr.makeMap,run_underlying hu,asInt,asIntOf,Result.andThen]) hr
theorem map_at {m : AV} {um : Value} {es : List (AV × AV)} {vs : List AV} {us : List Value} (hc : CRel F G vs H us w) (hm : VRel G w m um) (he : mapOf H m = some es) :
  (m = .nilm /\ um = .map none /\ es = []) \/ ∃ o b ms cl,m = .mapr o /\ um = .map (some b) /\ G.obs[o]? = some b /\ G.kind b = .map /\ w.heap[b]? = some (.map ms cl) /\ es.length = ms.size /\ H[o]? = some (some (mapc es)) /\
   ∀ (i : Nat) (p : AV × AV) (x : MapEntry),es[i]? = some p -> ms[i]? = some x -> p.1.isVal = true /\ p.2.isVal = true /\ VRel G w p.1 x.key /\ VRel G w p.2 x.val:=by
 cases hm with
 | nilm => simp only [mapOf,Option.some.injEq] at he; exact .inl ⟨rfl,rfl,he.symm⟩
 | mapr o b h hb hk =>
  refine .inr ?_
  simp only [mapOf] at he
  split at he
  ·rename_i cs hcs
   have hi:=(hc.h.obj o cs b hcs h).is
   rw [hk] at hi
   obtain ⟨es',ms,cl,g1,g2,g3,g4,_⟩:=hi
   subst g2
   rw [unmapc_mapc] at he
   cases he
   exact ⟨o,b,ms,cl,rfl,rfl,h,hk,g1,g3,hcs,g4⟩
  ·cases he
 | _ => simp [mapOf] at he
theorem map_births {o b : Nat} {ms : Array MapEntry} {cl : Nat} {cs : List AV} {vs : List AV} {us : List Value} (hc : CRel F G vs H us w) (ho : H[o]? = some (some cs)) (hb : G.obs[o]? = some b) (hk : G.kind b = .map) (hms : w.heap[b]? = some (.map ms cl)) :
  cl = ms.size /\ ∀ (i : Nat) (m : MapEntry),ms[i]? = some m -> m.born = i:=by
 have hi:=(hc.h.obj o cs b ho hb).is
 rw [hk] at hi
 obtain ⟨es',ms',cl',g1,_,_,_,g5⟩:=hi
 rw [hms] at g1; cases g1
 exact g5
theorem find_at {kt : TypeId} {D : Value -> Prop} (K : KLaw P kt D) {k : AV} {uk : Value} {es : List (AV × AV)} {ms : Array MapEntry} (hk : VRel G w k uk) (hkD : ∃ v,keyV k = some v /\ D v) (hl : es.length = ms.size)
  (hD : ∀ a ∈ es.map (·.1),∃ v,keyV a = some v /\ D v) (hd : distK es)
  (hr : ∀ (i : Nat) (p : AV × AV) (x : MapEntry),es[i]? = some p -> ms[i]? = some x -> p.1.isVal = true /\ p.2.isVal = true /\ VRel G w p.1 x.key /\ VRel G w p.2 x.val) :
  D uk /\ ((afind k es 0 = none /\ (Instr.findKey kt uk ms.toList).run P w = .ok none w) \/
   ∃ j p x,afind k es 0 = some (j,p.2) /\ es[j]? = some p /\ ms[j]? = some x /\ x.key = uk /\ (Instr.findKey kt uk ms.toList).run P w = .ok (some (j,x.val)) w):=by
 obtain ⟨vk,hvk,hDk⟩:=hkD
 have huk:=keyV_rel hvk hk
 subst huk
 have at_ : ∀ (j : Nat) (x : MapEntry),ms[j]? = some x -> ∃ p,es[j]? = some p /\ keyV p.1 = some x.key /\ D x.key:=fun j x hj => by
  have hlt:=(Array.getElem?_eq_some_iff.1 hj).1
  have hp : es[j]? = some es[j]:=List.getElem?_eq_getElem (by omega)
  obtain ⟨v,hv,hDv⟩:=hD es[j].1 (List.mem_map.2 ⟨_,List.mem_of_getElem? hp,rfl⟩)
  have:=keyV_rel hv (hr j _ x hp hj).2.2.1
  subst this
  exact ⟨_,hp,hv,hDv⟩
 refine ⟨hDk, ?_⟩
 rcases K.find w hDk ms.toList (fun x hx => by
  obtain ⟨j,hj⟩:=List.getElem?_of_mem hx
  rw [Array.getElem?_toList] at hj
  obtain ⟨p,_,_,h⟩:=at_ j x hj
  exact h) with ⟨h1,h2⟩ | ⟨j,x,h1,h2,h3⟩
 ·refine .inl ⟨afind_none fun p hp => ?_,h1⟩
  obtain ⟨j,hj⟩:=List.getElem?_of_mem hp
  have hlt:=(List.getElem?_eq_some_iff.1 hj).1
  have hx : ms[j]? = some (ms[j]'(by omega)):=Array.getElem?_eq_getElem _
  obtain ⟨p',hp',hv',_⟩:=at_ j _ hx
  rw [hj] at hp'; cases hp'
  cases hq : keyEq p.1 k with
  | false => rfl
  | true =>
   exact absurd ((keyEq_iff hv' hvk).1 hq) (h2 _ (by rw [<- Array.getElem?_toList] at hx; exact List.mem_of_getElem? hx))
 ·rw [Array.getElem?_toList] at h2
  obtain ⟨p,hp,hv,_⟩:=at_ j x h2
  have hke : keyEq p.1 k = true:=(keyEq_iff hv hvk).2 h3
  refine .inr ⟨j,p,x, ?_,hp,h2,h3,h1⟩
  have:=afind_at (k:=k) (i:=0) hp hke (fun l q hq hlt => by
   have h4:=List.pairwise_iff_getElem.1 hd l j (List.getElem?_eq_some_iff.1 hq).1 (List.getElem?_eq_some_iff.1 hp).1 hlt
   rw [(List.getElem?_eq_some_iff.1 hq).2,(List.getElem?_eq_some_iff.1 hp).2] at h4
   have hq2 : ms[l]? = some (ms[l]'(by have:=(List.getElem?_eq_some_iff.1 hq).1; omega)):=Array.getElem?_eq_getElem _
   obtain ⟨q',hq',hvq,_⟩:=at_ l _ hq2
   rw [hq] at hq'; cases hq'
   cases hqe : keyEq q.1 k with
   | false => rfl
   | true =>
    have e1:=(keyEq_iff hvq hvk).1 hqe
    have e2 : keyEq q.1 p.1 = true:=(keyEq_iff hvq hv).2 (e1.trans h3.symm)
    rw [e2] at h4; cases h4)
  rw [Nat.zero_add] at this
  exact this
theorem ok_lookup {t kt et : TypeId} {ok : Bool} {m k : AV} {um uk : Value} {es : List (AV × AV)} {z : AV} (hc : CRel F G [m,k] H [um,uk] w) (hu : P.underlying t = some (.map kt et)) (he : mapOf H m = some es)
  (hk : keysIn P kt (k :: es.map (·.1))) (hd : distK es) (hz : zeroAV P et = some z) (hr : R (lkres ok z (afind k es 0)) H) :
  OpRes P ((do let r <- Instr.lookup t um uk ok; pure (Next.value r) : Sem Next).run P w) (KOut F G w R):=by
 have hm:=hc.l.rel 0 _ _ rfl rfl
 have hkr:=hc.l.rel 1 _ _ rfl rfl
 obtain ⟨D,K,hD⟩:=hk
 obtain ⟨zv,hzr,hzval,hzv⟩:=zero_rel (P:=P) (G:=G) (w:=w) hz
 have out : ∀ (v : AV) (u : Value) (b : Bool),VRel G w v u -> v.isVal = true -> R (if ok = true then .tup [v.borrow,.bool b] else v.borrow) H ->
   OpRes P (.ok (.value (if ok = true then .tuple #[u,.bool b] else u)) w) (KOut F G w R):=by
  intro v u b hv hval hR
  cases ok with
  | false => exact KOut.plain hc hR hv.borrow (toks_borrow _ _)
  | true =>
   refine KOut.plain hc hR ?_ ?_
   ·refine .tup _ _ rfl (fun c hc' => ?_) (fun i c x h1 h2 => ?_)
    ·simp only [List.mem_cons,List.not_mem_nil,or_false] at hc'
     rcases hc' with rfl | rfl
     ·cases v <;> first | rfl | cases hval
     ·rfl
    ·match i with
     | 0 => simp at h1 h2; subst h1; subst h2; exact hv.borrow
     | 1 => simp at h1 h2; subst h1; subst h2; exact .bool b
     | i + 2 => simp at h1
   ·refine toks_owned ?_ _
    show ((([v.borrow,AV.bool b] : List AV).flatMap AV.cells).any owned1) = false
    have : ∀ c ∈ v.borrow.cells,owned1 c = false:=fun c hc' => by
     have hb : v.borrow.cells = v.cells.map borrow1:=by cases v <;> first | rfl | cases hval
     rw [hb] at hc'
     obtain ⟨d,_,rfl⟩:=List.mem_map.1 hc'
     cases d <;> rfl
    simp only [List.flatMap_cons,List.flatMap_nil,List.append_nil,List.any_append,Bool.or_eq_false_iff]
    refine ⟨?_,rfl⟩
    rw [List.any_eq_false]
    intro c hc' h
    rw [this c hc'] at h
    cases h
 rcases map_at hc hm he with ⟨rfl,rfl,rfl⟩ | ⟨o,b,ms,cl,rfl,rfl,hob,hkb,hms,hl,hH,hrel⟩
 ·obtain ⟨v,hv,hDv⟩:=hD k (by simp)
  have huk:=keyV_rel hv hkr
  subst huk
  have hfind : (Instr.findKey kt uk []).run P w = .ok none w:=by
   rcases K.find w hDv [] (fun _ h => by cases h) with ⟨h1,_⟩ | ⟨j,e,_,h2,_⟩
   ·exact h1
   ·simp at h2
  have hrun : (do let r <- Instr.lookup t (.map none) uk ok; pure (Next.value r) : Sem Next).run P w = .ok (.value (if ok = true then .tuple #[zv,.bool false] else zv)) w:=by
   simp [Instr.lookup,run_underlying hu,Result.andThen,K.check w _ hDv,hfind,hzr]
  rw [hrun]
  exact out z zv false hzv hzval hr
 ·obtain ⟨hDk,hf⟩:=find_at K hkr (hD k (by simp)) hl (fun a ha => hD a (by simp at ha ⊢; exact .inr ha)) hd hrel
  rcases hf with ⟨f1,f2⟩ | ⟨j,p,x,f1,f2,f3,f4,f5⟩
  ·have hrun : (do let r <- Instr.lookup t (.map (some b)) uk ok; pure (Next.value r) : Sem Next).run P w = .ok (.value (if ok = true then .tuple #[zv,.bool false] else zv)) w:=by
    simp [Instr.lookup,run_underlying hu,Result.andThen,MapKept.run_getObj_map hms,K.check w _ hDk,f2,hzr]
   rw [hrun]
   rw [f1] at hr
   exact out z zv false hzv hzval hr
  ·have hrun : (do let r <- Instr.lookup t (.map (some b)) uk ok; pure (Next.value r) : Sem Next).run P w = .ok (.value (if ok = true then .tuple #[x.val,.bool true] else x.val)) w:=by
    simp [Instr.lookup,run_underlying hu,Result.andThen,MapKept.run_getObj_map hms,K.check w _ hDk,f5]
   rw [hrun]
   rw [f1] at hr
   exact out p.2 x.val true (hrel j p x f2 f3).2.2.2 (hrel j p x f2 f3).2.1 hr
theorem ok_mapUpdate {t kt et : TypeId} {o : Nat} {k v : AV} {um uk uv : Value} {es : List (AV × AV)} (hc : CRel F G [.mapr o,k,v] H [um,uk,uv] w) (hu : P.underlying t = some (.map kt et)) (he : mapOf H (.mapr o) = some es)
  (hk : keysIn P kt (k :: es.map (·.1))) (hd : distK es) (hval : v.isVal = true) (hr : R .undef (H.set o (some (mapc (mapUpd es k v))))) :
  OpRes P ((do Instr.mapUpdate t um uk uv; pure Next.skip : Sem Next).run P w) (KOut F G w R):=by
 have hm:=hc.l.rel 0 _ _ rfl rfl
 have hkr:=hc.l.rel 1 _ _ rfl rfl
 have hvr:=hc.l.rel 2 _ _ rfl rfl
 obtain ⟨D,K,hD⟩:=hk
 rcases map_at hc hm he with ⟨h,_⟩ | ⟨o',b,ms,cl,ho,rfl,hob,hkb,hms,hl,hH,hrel⟩
 ·cases h
 cases ho
 obtain ⟨hDk,hf⟩:=find_at K hkr (hD k (by simp)) hl (fun a ha => hD a (by simp at ha ⊢; exact .inr ha)) hd hrel
 have hkval : k.isVal = true:=keyV_val (hD k (by simp)).choose_spec.1
 have hsp : (G.kind b).sp = true:=by rw [hkb]; rfl
 have hor:=hc.h.obj o _ b hH hob
 obtain ⟨hcl,hborn⟩:=map_births hc hH hob hkb hms
 have lay : ∀ (ms' : Array MapEntry) (cl' : Nat) (es' : List (AV × AV)),es'.length = ms'.size -> (cl' = ms'.size /\ ∀ (i : Nat) (m : MapEntry),ms'[i]? = some m -> m.born = i) -> R .undef (H.set o (some (mapc es'))) ->
   (∀ (i : Nat) (p : AV × AV) (x : MapEntry),es'[i]? = some p -> ms'[i]? = some x -> p.1.isVal = true /\ p.2.isVal = true /\ VRel G w p.1 x.key /\ VRel G w p.2 x.val) ->
   KOut F G w R Go.undef (w.putObj b (.map ms' cl')):=by
  intro ms' cl' es' hl' hbo hR hrel'
  have he2 : Ext F G w G (w.putObj b (.map ms' cl')):=ext_putObj hor.own hms (fun _ _ _ e => by cases e)
  obtain ⟨h1,h2⟩:=hc.setSp (X:=.map ms' cl') hH hob hsp (fun _ _ _ e => by cases e) (cs':=mapc es') ⟨hor.own,by
   rw [hkb]
   exact ⟨es',ms',cl',World.putObj_heap_same hor.lt,rfl,hl',(fun i p x g1 g2 =>
    let ⟨a1,a2,a3,a4⟩:=hrel' i p x g1 g2; ⟨a1,a2,a3.keep he2.keeps,a4.keep he2.keeps⟩),hbo⟩⟩
   (vs:=[.undef]) (us':=[Go.undef]) (.cons (.undef _) (tok_nil_all (toks_undef _) F G w) (.nil F G w)) (fun x => by rw [tcnt_cons,tcnt_nil,toks_undef]; simp)
  exact ⟨_,_,G,hR,h1,h2⟩
 rcases hf with ⟨f1,f2⟩ | ⟨j,p,x,f1,f2,f3,f4,f5⟩
 ·have hrun : (do Instr.mapUpdate t (.map (some b)) uk uv; pure Next.skip : Sem Next).run P w = .ok .skip (w.putObj b (.map (ms.push { key:=uk,val:=uv,born:=cl }) (cl + 1))):=by
   simp [Instr.mapUpdate,run_underlying hu,Result.andThen,MapKept.run_getObj_map hms,K.check w _ hDk,f2,MapKept.run_setObj_map _ hms,World.putObj]
  rw [hrun]
  simp only [mapUpd,f1] at hr
  refine lay _ _ (es ++ [(k,v)]) (by simp [hl]) ⟨by simp [hcl],fun i m g => ?_⟩ hr fun i p x g1 g2 => ?_
  ·by_cases hi : i < ms.size
   ·rw [Array.getElem?_push_lt hi] at g
    exact hborn i m (by rw [Array.getElem?_eq_getElem hi]; exact g)
   ·have hlt:=(Array.getElem?_eq_some_iff.1 g).1
    simp only [Array.size_push] at hlt
    have : i = ms.size:=by omega
    subst this
    rw [Array.getElem?_push_size] at g
    cases g
    exact hcl
  by_cases hi : i < es.length
  ·rw [List.getElem?_append_left hi] at g1
   rw [Array.getElem?_push_lt (by omega)] at g2
   exact hrel i p x g1 (by rw [Array.getElem?_eq_getElem (by omega)]; exact g2)
  ·have hlt:=(List.getElem?_eq_some_iff.1 g1).1
   simp only [List.length_append,List.length_cons,List.length_nil] at hlt
   have hie : i = es.length:=by omega
   subst hie
   rw [List.getElem?_append_right (Nat.le_refl _),Nat.sub_self] at g1
   rw [hl,Array.getElem?_push_size] at g2
   cases g1; cases g2
   exact ⟨hkval,hval,hkr,hvr⟩
 ·have hrun : (do Instr.mapUpdate t (.map (some b)) uk uv; pure Next.skip : Sem Next).run P w = .ok .skip (w.putObj b (.map (ms.modify j fun e => { e with key:=uk,val:=uv }) cl)):=by
   simp [Instr.mapUpdate,run_underlying hu,Result.andThen,MapKept.run_getObj_map hms,K.check w _ hDk,f5,f3,f4,K.stays w hDk,MapKept.run_setObj_map _ hms,World.putObj]
  rw [hrun]
  simp only [mapUpd,f1] at hr
  refine lay _ _ (es.set j (k,v)) (by simp [hl]) ⟨by simp [hcl],fun i m g => ?_⟩ hr fun i q y g1 g2 => ?_
  ·rw [Array.getElem?_modify] at g
   split at g
   ·rename_i hij
    subst hij
    rw [f3] at g
    simp only [Option.map_some,Option.some.injEq] at g
    rw [<- g]
    have hb : x.born = j:=hborn _ _ f3
    exact hb
   ·exact hborn i m g
  rw [List.getElem?_set] at g1
  rw [Array.getElem?_modify] at g2
  split at g1
  ·rename_i hij
   subst hij
   split at g1
   ·rw [if_pos rfl,f3] at g2
    cases g1; cases g2
    exact ⟨hkval,hval,hkr,hvr⟩
   ·cases g1
  ·rename_i hij
   rw [if_neg hij] at g2
   exact hrel i q y g1 g2
end
end Go.AI
namespace Go.AI
section
variable {P : Program} {F : Nat -> Prop} {G : Gh} {w : World} {H : Heap} {R : AV -> Heap -> Prop}
theorem seenOf_map (l : List Nat) : seenOf (l.map fun (i : Nat) => AV.int .i64 (i : Int)) = l.map fun (i : Nat) => (i : Int):=by
 induction l with
 | nil => rfl
 | cons x xs ih =>
  show (x : Int) :: seenOf (xs.map fun (i : Nat) => AV.int .i64 (i : Int)) = _
  rw [ih]; rfl
theorem iter_lays {t : TypeId} {u : Value} {X : Obj} {cs : List AV} {vs : List AV} {us : List Value} (hc : CRel F G vs H us w) (hrun : (Instr.range t u).run P w = .ok (.pointer (some ⟨w.heap.size,0,none⟩)) (w.alloc X))
  (hX : ∀ C E f,X ≠ .cells C E f) (his : IterIs (G.newK w.heap.size .iter) (w.alloc X) cs w.heap.size) (hr : R (.it H.length) (H ++ [some cs])) :
  OpRes P ((do let v <- Instr.range t u; pure (Next.value v) : Sem Next).run P w) (KOut F G w R):=by
 refine .value (by rw [Sem.run_bind,hrun]; rfl) ⟨_,_,G.newK w.heap.size .iter,hr, ?_,ext_newK hc.h.fore _ _⟩
 have hkn : (G.newK w.heap.size .iter).kind w.heap.size = .iter:=G.kind_set _ _
 have hlen:=hc.h.len
 refine hc.newG .iter X cs ⟨fun hF => absurd (hc.h.fore _ hF) (Nat.lt_irrefl _),by rw [hkn]; exact his⟩ (.cons (.it _ _ ?_ (by rw [size_alloc]; omega) hkn) (tok_nil_all (toks_owned rfl _) F _ _) (.nil F _ _)) (fun b => ?_)
 ·show (G.obs ++ [w.heap.size])[H.length]? = _
  rw [List.getElem?_append_right (by omega),hlen,Nat.sub_self]; rfl
 ·rw [tcnt_cons,tcnt_nil,toks_owned rfl]
  have : btoks cs X = []:=by cases X <;> first | rfl | exact absurd rfl (hX _ _ _)
  rw [this]; simp
theorem ok_range {t : TypeId} {x : AV} {u : Value} (hc : CRel F G [x] H [u] w) (hr : arange P t H x R) :
  OpRes P ((do let v <- Instr.range t u; pure (Next.value v) : Sem Next).run P w) (KOut F G w R):=by
 have hx:=hc.l.rel 0 _ _ rfl rfl
 unfold arange at hr
 split at hr
 ·rename_i s hu
  cases hx
  exact iter_lays hc (by simp [Instr.range,run_underlying hu,Result.andThen]) (fun _ _ _ e => by cases e) (.inl ⟨s,0,heap_alloc_new _ _,rfl⟩) hr
 ·rename_i hu
  cases hx
  exact iter_lays hc (by simp [Instr.range,run_underlying hu,Result.andThen]) (fun _ _ _ e => by cases e) (.inr (.inl ⟨heap_alloc_new _ _,rfl⟩)) hr
 ·rename_i kt et o' hu
  split at hr
  ·rename_i es he
   rcases map_at hc hx he with ⟨h,_⟩ | ⟨o,b,ms,cl,ho,rfl,hob,hkb,hms,hl,hH,hrel⟩
   ·cases h
   cases ho
   obtain ⟨hcl,hborn⟩:=map_births hc hH hob hkb hms
   have hext:=ext_newK (F:=F) (G:=G) hc.h.fore (.mapIter (some b) cl #[] cl) .iter
   refine iter_lays (X:=.mapIter (some b) cl #[] cl) hc (by simp [Instr.range,run_underlying hu,Result.andThen,MapKept.run_getObj_map hms]) (fun _ _ _ e => by cases e) (.inr (.inr ⟨o',b,cl,[],heap_alloc_new _ _, ?_,hx.keep hext.keeps⟩)) hr
   rw [hcl,<- hl]
  ·exact hr.elim
 ·exact hr.elim
theorem iter_at {o : Nat} {u : Value} {cs : List AV} {vs : List AV} {us : List Value} (hc : CRel F G vs H us w) (hx : VRel G w (.it o) u) (ho : H[o]? = some (some cs)) : ∃ b,u = .pointer (some ⟨b,0,none⟩) /\ G.obs[o]? = some b /\ G.kind b = .iter /\ IterIs G w cs b:=by
 cases hx with
 | it _ b h hb hk =>
  have hi:=(hc.h.obj o cs b ho h).is
  rw [hk] at hi
  exact ⟨b,rfl,h,hk,hi⟩
theorem tup_out {vs : List AV} {us : Array Value} (hc : ∃ a ua,CRel F G a H ua w) (hl : vs.length = us.size) (hv : ∀ (i : Nat) (c : AV) (u : Value),vs[i]? = some c -> us[i]? = some u -> c.isVal = true /\ c.borrow = c /\ VRel G w c u) :
  VRel G w (.tup vs) (.tuple us) /\ toks (.tup vs) (.tuple us) = []:=by
 have hget : ∀ c ∈ vs,c.isVal = true /\ c.borrow = c:=fun c hc' => by
  obtain ⟨i,hi⟩:=List.getElem?_of_mem hc'
  have hlt:=(List.getElem?_eq_some_iff.1 hi).1
  obtain ⟨h1,h2,_⟩:=hv i c _ hi (Array.getElem?_eq_getElem (by omega))
  exact ⟨h1,h2⟩
 refine ⟨.tup _ _ hl (fun c hc' => (hget c hc').1) fun i c x h1 h2 => (hv i c x h1 h2).2.2,toks_owned ?_ _⟩
 show ((vs.flatMap AV.cells).any owned1) = false
 rw [List.any_eq_false]
 intro c hc' h
 obtain ⟨v,hv',hcv⟩:=List.mem_flatMap.1 hc'
 obtain ⟨h1,h2⟩:=hget v hv'
 have hb : v.borrow.cells = v.cells.map borrow1:=by cases v <;> first | rfl | cases h1
 rw [<- h2,hb] at hcv
 obtain ⟨d,_,rfl⟩:=List.mem_map.1 hcv
 cases d <;> cases h
theorem borrow_val {v : AV} (h : v.isVal = true) : v.borrow.borrow = v.borrow /\ v.borrow.isVal = true:=by
 refine ⟨?_,by cases v <;> first | rfl | cases h⟩
 cases v with
 | agg cs =>
  show AV.agg ((cs.map borrow1).map borrow1) = AV.agg (cs.map borrow1)
  rw [List.map_map]
  congr 1
  apply List.map_congr_left
  intro c _
  cases c <;> rfl
 | tup _ => cases h
 | _ => rfl
theorem ok_next {o' : Nat} {u : Value} {str : Bool} {ty : TypeId} (hc : CRel F G [.it o'] H [u] w) (hr : anext str H o' R) :
  OpRes P ((do let v <- Instr.next u str ty; pure (Next.value v) : Sem Next).run P w) (KOut F G w R):=by
 have hx:=hc.l.rel 0 _ _ rfl rfl
 unfold anext at hr
 have over : (∃ a ua,CRel F G a H ua w) -> VRel G w (.tup [.bool false]) (.tuple #[.bool false]) /\ toks (.tup [.bool false]) (.tuple #[.bool false]) = []:=fun h => tup_out h rfl fun i c x h1 h2 => by
  match i with
  | 0 => simp at h1 h2; subst h1; subst h2; exact ⟨rfl,rfl,.bool false⟩
  | i + 1 => simp at h1
 split at hr
 ·-- over a string
  rename_i s pos ho
  obtain ⟨b,rfl,hob,hkb,hi⟩:=iter_at hc hx ho
  rcases hi with ⟨s',p',h1,h2⟩ | ⟨_,h2⟩ | ⟨_,_,_,_,_,h2,_⟩
  ·cases h2
   rw [Int.toNat_natCast] at hr
   by_cases hp : p' < s.size
   ·rw [if_pos hp] at hr
    have hrun : (do let v <- Instr.next (.pointer (some ⟨b,0,none⟩)) true ty; pure (Next.value v) : Sem Next).run P w = .ok (.value (.tuple #[.bool true,goInt p',.int .i32 (Utf8.decode s p').1])) (w.putObj b (.stringIter s (p' + (Utf8.decode s p').2))):=by
     simp [Instr.next,getObj,setObj,Sem.run,h1,Result.andThen,hp,World.putObj]
    have hor:=hc.h.obj o' _ b ho hob
    have he2 : Ext F G w G (w.putObj b (.stringIter s (p' + (Utf8.decode s p').2))):=ext_putObj hor.own h1 (fun _ _ _ e => by cases e)
    obtain ⟨g1,g2⟩:=tup_out (G:=G) (w:=w) (F:=F) (H:=H) (vs:=[.bool true,.int .i64 p',.int .i32 (Utf8.decode s p').1]) (us:=#[.bool true,goInt p',.int .i32 (Utf8.decode s p').1]) ⟨_,_,hc⟩ rfl fun i c x k1 k2 => by
     match i with
     | 0 => simp at k1 k2; subst k1; subst k2; exact ⟨rfl,rfl,.bool true⟩
     | 1 => simp at k1 k2; subst k1; subst k2; exact ⟨rfl,rfl,.int _ _⟩
     | 2 => simp at k1 k2; subst k1; subst k2; exact ⟨rfl,rfl,.int _ _⟩
     | i + 3 => simp at k1
    obtain ⟨h3,h4⟩:=hc.setSp (X:=.stringIter s (p' + (Utf8.decode s p').2)) ho hob (by rw [hkb]; rfl) (fun _ _ _ e => by cases e) (cs':=iterS s ((p' + (Utf8.decode s p').2 : Nat) : Int)) ⟨hor.own,by
     rw [hkb]; exact .inl ⟨s,_,World.putObj_heap_same hor.lt,rfl⟩⟩ (.cons g1 (tok_nil_all g2 F G w) (.nil F G w)) (fun x => by rw [tcnt_cons,tcnt_nil,g2]; simp)
    rw [hrun]
    exact ⟨_,_,G,hr,h3,h4⟩
   ·rw [if_neg hp] at hr
    have hrun : (do let v <- Instr.next (.pointer (some ⟨b,0,none⟩)) true ty; pure (Next.value v) : Sem Next).run P w = .ok (.value (.tuple #[.bool false])) w:=by
     simp [Instr.next,getObj,Sem.run,h1,Result.andThen,hp]
    rw [hrun]
    exact KOut.plain hc hr (over ⟨_,_,hc⟩).1 (over ⟨_,_,hc⟩).2
  ·cases h2
  ·cases h2
 ·-- over no map
  rename_i ho
  obtain ⟨b,rfl,hob,hkb,hi⟩:=iter_at hc hx ho
  rcases hi with ⟨s',p',h1,h2⟩ | ⟨h1,h2⟩ | ⟨_,_,_,_,_,h2,_⟩
  ·cases h2
  ·have hrun : (do let v <- Instr.next (.pointer (some ⟨b,0,none⟩)) false ty; pure (Next.value v) : Sem Next).run P w = .ok (.value (.tuple #[.bool false])) w:=by
    simp [Instr.next,getObj,Sem.run,h1,Result.andThen]
   rw [hrun]
   exact KOut.plain hc hr (over ⟨_,_,hc⟩).1 (over ⟨_,_,hc⟩).2
  ·cases h2
 ·-- over a map
  rename_i m since seen ho
  obtain ⟨b,rfl,hob,hkb,hi⟩:=iter_at hc hx ho
  rcases hi with ⟨s',p',h1,h2⟩ | ⟨h1,h2⟩ | ⟨om,mb,si,se,h1,h2,h3⟩
  ·cases h2
  ·cases h2
  ·simp only [iterM,List.cons.injEq,AV.mapr.injEq,AV.int.injEq,AV.tup.injEq,and_true,true_and] at h2
   obtain ⟨rfl,rfl,rfl⟩:=h2
   split at hr
   ·rename_i es he
    obtain ⟨hs,hend,hstep⟩:=hr
    rw [seenOf_map] at hend hstep
    rcases map_at hc h3 he with ⟨h,_⟩ | ⟨o,b2,ms,cl,ho2,hb2,hob2,hkb2,hms,hl,hH,hrel⟩
    ·cases h
    cases ho2; cases hb2
    obtain ⟨hcl,hborn⟩:=map_births hc hH hob2 hkb2 hms
    have hsi : si = es.length:=by omega
    have hin : ∀ e ∈ (leftOf ms se.toArray).toList,∃ i : Nat,ms[i]? = some e /\ e.born = i /\ i ∉ se:=fun e he' => by
     unfold leftOf at he'
     rw [Array.toList_filter,List.mem_filter] at he'
     obtain ⟨i,hi⟩:=List.getElem?_of_mem he'.1
     rw [Array.getElem?_toList] at hi
     refine ⟨i,hi,hborn i e hi,fun hse => ?_⟩
     have:=he'.2
     rw [hborn i e hi] at this
     simp [hse] at this
    rcases run_next_at (P:=P) w ty b mb si si se.toArray ms cl h1 hms (fun x hx' => by
      obtain ⟨i,hi⟩:=List.getElem?_of_mem hx'
      rw [Array.getElem?_toList] at hi
      rw [hborn i x hi]
      have:=(Array.getElem?_eq_some_iff.1 hi).1
      omega) (Nat.le_refl _) with ⟨g1,g2⟩ | ⟨e,g1,w1,g2,g3⟩
    ·rw [Sem.run_bind,g2]
     refine KOut.plain hc (hend fun i hi => ?_) (over ⟨_,_,hc⟩).1 (over ⟨_,_,hc⟩).2
     cases hd : decide (i ∈ se) with
     | true => exact List.mem_map.2 ⟨i,of_decide_eq_true hd,rfl⟩
     | false =>
      exfalso
      have hlt : i < ms.size:=by omega
      have hm : ms[i] ∈ (leftOf ms se.toArray).toList:=by
       unfold leftOf
       rw [Array.toList_filter,List.mem_filter]
       refine ⟨by simp, ?_⟩
       rw [hborn i ms[i] (Array.getElem?_eq_getElem hlt)]
       simpa using hd
      have : (leftOf ms se.toArray).toList.length = 0:=by simpa using g1
      rw [List.length_eq_zero_iff.1 this] at hm
      cases hm
    ·obtain ⟨i,hi,hbi,hns⟩:=hin e g1
     have hlt:=(Array.getElem?_eq_some_iff.1 hi).1
     obtain ⟨p,hp⟩ : ∃ p,es[i]? = some p:=⟨_,List.getElem?_eq_getElem (by omega)⟩
     obtain ⟨r1,r2,r3,r4⟩:=hrel i p e hp hi
     have hstep:=hstep i p hp (fun hm => by
      obtain ⟨j,hj,hj2⟩:=List.mem_map.1 hm
      have : j = i:=by omega
      subst this
      exact hns hj)
     rw [Sem.run_bind,g3]
     have fin : ∀ w1 : World,CRel F G [.it o'] H [.pointer (some ⟨b,0,none⟩)] w1 -> Ext F G w G w1 -> w1.heap = w.heap ->
       KOut F G w R (.tuple #[.bool true,e.key,e.val]) (ChangeMaps.setBlock w1 b (.mapIter (some mb) si (se.toArray.push e.born) cl)):=by
      intro w1 hc1 hext1 hh1
      have hor:=hc1.h.obj o' _ b ho hob
      have hb1 : w1.heap[b]? = some (.mapIter (some mb) si se.toArray si):=by rw [hh1]; exact h1
      have he2 : Ext F G w1 G (w1.putObj b (.mapIter (some mb) si (se.toArray.push e.born) cl)):=ext_putObj hor.own hb1 (fun _ _ _ e => by cases e)
      obtain ⟨k1,k2⟩:=tup_out (G:=G) (w:=w1) (F:=F) (H:=H) (vs:=[.bool true,p.1.borrow,p.2.borrow]) (us:=#[.bool true,e.key,e.val]) ⟨_,_,hc1⟩ rfl fun j c x m1 m2 => by
       match j with
       | 0 => simp at m1 m2; subst m1; subst m2; exact ⟨rfl,rfl,.bool true⟩
       | 1 => simp at m1 m2; subst m1; subst m2; exact ⟨(borrow_val r1).2,(borrow_val r1).1,(r3.keep hext1.keeps).borrow⟩
       | 2 => simp at m1 m2; subst m1; subst m2; exact ⟨(borrow_val r2).2,(borrow_val r2).1,(r4.keep hext1.keeps).borrow⟩
       | j + 3 => simp at m1
      obtain ⟨h5,h6⟩:=hc1.setSp (X:=.mapIter (some mb) si (se.toArray.push e.born) cl) ho hob (by rw [hkb]; rfl) (fun _ _ _ e => by cases e) (cs':=[.mapr m,.int .i64 (si : Int),.tup ((se.map fun (i : Nat) => AV.int .i64 (i : Int)) ++ [.int .i64 (i : Int)])]) ⟨hor.own,by
       rw [hkb]
       refine .inr (.inr ⟨m,mb,si,se ++ [i], ?_,by simp [iterM],((h3.keep hext1.keeps).keep he2.keeps)⟩)
       have e1 : cl = si:=by omega
       have e2 : se.toArray.push e.born = (se ++ [i]).toArray:=by rw [hbi]; simp
       rw [World.putObj_heap_same hor.lt,e1,e2]⟩ (.cons k1 (tok_nil_all k2 F G w1) (.nil F G w1)) (fun x => by rw [tcnt_cons,tcnt_nil,k2]; simp)
      exact ⟨_,_,G,hstep,h5,hext1.trans h6⟩
     rcases g2 with rfl | rfl
     ·exact fin _ hc (Ext.refl F G _) rfl
     ·exact fin _ hc.draw ext_draw rfl
   ·exact hr.elim
 ·exact hr.elim
theorem ok_entry {o' : Nat} {u : Value} (hc : CRel F G [.it o'] H [u] w) (hr : aentry H o' R) :
  OpRes P ((do let v <- Instr.entry u; pure (Next.value v) : Sem Next).run P w) (KOut F G w R):=by
 have hx:=hc.l.rel 0 _ _ rfl rfl
 unfold aentry at hr
 split at hr
 ·rename_i m since seen ho
  obtain ⟨b,rfl,hob,hkb,hi⟩:=iter_at hc hx ho
  rcases hi with ⟨s',p',h1,h2⟩ | ⟨h1,h2⟩ | ⟨om,mb,si,se,h1,h2,h3⟩
  ·cases h2
  ·cases h2
  ·simp only [iterM,List.cons.injEq,AV.mapr.injEq,AV.int.injEq,AV.tup.injEq,and_true,true_and] at h2
   obtain ⟨rfl,rfl,rfl⟩:=h2
   split at hr
   ·rename_i es i he hlast
    obtain ⟨hs,p,hp,hR⟩:=hr
    rcases map_at hc h3 he with ⟨h,_⟩ | ⟨o,b2,ms,cl,ho2,hb2,hob2,hkb2,hms,hl,hH,hrel⟩
    ·cases h
    cases ho2; cases hb2
    obtain ⟨hcl,hborn⟩:=map_births hc hH hob2 hkb2 hms
    have hlast2 : ∃ j : Nat,se.getLast? = some j /\ i = (j : Int):=by
     rw [List.getLast?_map] at hlast
     cases hj : se.getLast? with
     | none => rw [hj] at hlast; cases hlast
     | some j => rw [hj] at hlast; simp at hlast; exact ⟨j,rfl,hlast.symm⟩
    obtain ⟨j,hj,rfl⟩:=hlast2
    rw [Int.toNat_natCast] at hp
    have hlt:=(List.getElem?_eq_some_iff.1 hp).1
    have hmj : ms[j]? = some (ms[j]'(by omega)):=Array.getElem?_eq_getElem _
    obtain ⟨se',rfl⟩ : ∃ se',se = se' ++ [j]:=⟨se.dropLast,by
     cases hse : se with
     | nil => rw [hse] at hj; cases hj
     | cons x xs =>
      rw [hse] at hj
      rw [List.getLast?_eq_some_getLast (by simp)] at hj
      cases hj
      exact (List.dropLast_concat_getLast (by simp)).symm⟩
    have e2 : ((se' ++ [j]).toArray : Array Nat) = se'.toArray.push (ms[j]'(by omega)).born:=by rw [hborn j _ hmj]; simp
    have e1 : cl = si:=by omega
    have hrun:=run_entry_at (P:=P) w b mb si se'.toArray ms cl (ms[j]'(by omega)) (by rw [<- e2,e1]; exact h1) hms (by simp) (by
     have : ms.toList.map (·.born) = List.range ms.size:=by
      refine List.ext_getElem? fun k => ?_
      rw [List.getElem?_map,Array.getElem?_toList]
      by_cases hk : k < ms.size
      ·rw [Array.getElem?_eq_getElem hk,List.getElem?_range hk]
       simp [hborn k _ (Array.getElem?_eq_getElem hk)]
      ·rw [Array.getElem?_eq_none (by omega),List.getElem?_eq_none (by simp; omega)]; rfl
     rw [this]; exact List.nodup_range)
    rw [Sem.run_bind,hrun]
    obtain ⟨r1,r2,r3,r4⟩:=hrel j p _ hp hmj
    obtain ⟨k1,k2⟩:=tup_out (G:=G) (w:=w) (F:=F) (H:=H) (vs:=[p.1.borrow,p.2.borrow]) (us:=#[(ms[j]'(by omega)).key,(ms[j]'(by omega)).val]) ⟨_,_,hc⟩ rfl fun k c x m1 m2 => by
     match k with
     | 0 => simp at m1 m2; subst m1; subst m2; exact ⟨(borrow_val r1).2,(borrow_val r1).1,r3.borrow⟩
     | 1 => simp at m1 m2; subst m1; subst m2; exact ⟨(borrow_val r2).2,(borrow_val r2).1,r4.borrow⟩
     | k + 2 => simp at m1
    exact KOut.plain hc hR k1 k2
   ·exact hr.elim
 ·exact hr.elim
end
end Go.AI
namespace Go.AI
section
variable {P : Program} {F : Nat -> Prop} {G : Gh} {w : World} {H : Heap} {R : AV -> Heap -> Prop}
theorem ok_len_mslc {t e ty ob off len sz c : Nat} {u : Value} {ts : Array TypeId} (hc : CRel F G [.mslc ob off len sz c] H [u] w) (ht : ts[0]? = some t) (hu : P.underlying t = some (.slice e)) (hr : R (.int .i64 len) H) :
  OpRes P ((do let r <- Builtin.len_ ts ty #[u]; pure (Next.value r) : Sem Next).run P w) (KOut F G w R):=by
 have hx:=hc.l.rel 0 _ _ rfl rfl
 cases hx
 exact .value (by simp [Builtin.len_,ht,run_underlying hu,goInt]) (KOut.plain hc hr (.int _ _) (toks_scalar rfl rfl _))
theorem ok_cap_mslc {t e ty ob off len sz c : Nat} {u : Value} {ts : Array TypeId} (hc : CRel F G [.mslc ob off len sz c] H [u] w) (ht : ts[0]? = some t) (hu : P.underlying t = some (.slice e)) (hr : R (.int .i64 c) H) :
  OpRes P ((do let r <- Builtin.cap_ ts ty #[u]; pure (Next.value r) : Sem Next).run P w) (KOut F G w R):=by
 have hx:=hc.l.rel 0 _ _ rfl rfl
 cases hx
 exact .value (by simp [Builtin.cap_,ht,run_underlying hu,goInt]) (KOut.plain hc hr (.int _ _) (toks_scalar rfl rfl _))
theorem ok_slice_mslc {t e ob off len sz c : Nat} {u : Value} {rest : List AV} {urest : List Value} {lo hi mx : Option Value} {l h : Option Int} (hc : CRel F G (.mslc ob off len sz c :: rest) H (u :: urest) w) (hu : P.underlying t = some (.slice e))
  (hl : OptB lo l) (hh : OptB hi h) (hm : OptB mx none)
  (h0 : 0 <= l.getD 0) (h1 : l.getD 0 <= h.getD len) (h2 : h.getD len <= c) (hs : sz = P.cellsOf e) (hz : ∃ i,P.info? e = some i)
  (hr : R (if l.getD 0 = c /\ 0 < l.getD 0 then .sl none [] else .mslc ob (off + (l.getD 0).toNat * sz) ((h.getD len).toNat - (l.getD 0).toNat) sz (c - (l.getD 0).toNat)) H) :
  OpRes P ((do let r <- Instr.sliceAt t u lo hi mx; pure (Next.value r) : Sem Next).run P w) (KOut F G w R):=by
 have hrel:=hc.l.rel 0 _ _ rfl rfl
 obtain ⟨i,hi'⟩:=hz
 have hsize : ∀ w,(sizeOf e).run P w = .ok (P.cellsOf e) w:=fun w => by simp [sizeOf,typeInfo,hi',Program.cellsOf]
 cases hrel with
 | mslc _ _ _ _ _ b hob hlc hmx hrow =>
  obtain ⟨C,E,hrow,hfit⟩:=hrow
  have hb:=run_sliceBounds (P:=P) (isSlice:=true) (len:=len) (cap:=c) hl hh hm (fun h => by cases h) h0 h1 (by simp only [Option.getD_none]; omega) (by simp) w
  by_cases hb0 : l.getD 0 = c /\ 0 < l.getD 0
  ·rw [if_pos hb0] at hr
   have hcl : c = (l.getD 0).toNat:=by omega
   have hrun : (Instr.sliceAt t (.slice (some ⟨b,off,none⟩) len c) lo hi mx).run P w = .ok (.slice (some ⟨b,off,none⟩) 0 0) w:=by
    simp only [Instr.sliceAt,Instr.slice,Sem.run_bind,run_underlying hu,Result.andThen_ok,hb,hsize,Option.getD_none,Int.toNat_natCast]
    have e1 : (h.getD len).toNat - (l.getD 0).toNat = 0:=by omega
    have e2 : c - (l.getD 0).toNat = 0:=by omega
    rw [if_pos hcl,e1,e2]; simp
   exact .value (by rw [Sem.run_bind,hrun]; rfl) (KOut.plain hc hr (.slany none _) (by simp [toks,prs,AV.flat,AV.cells,vflat,Value.cells,tok]))
  rw [if_neg hb0] at hr
  have h3 : l.getD 0 = 0 \/ l.getD 0 < c:=by omega
  have hrun : (Instr.sliceAt t (.slice (some ⟨b,off,none⟩) len c) lo hi mx).run P w = .ok (.slice (some ⟨b,off + (l.getD 0).toNat * sz,none⟩) ((h.getD len).toNat - (l.getD 0).toNat) (c - (l.getD 0).toNat)) w:=by
   simp only [Instr.sliceAt,Instr.slice,Sem.run_bind,run_underlying hu,Result.andThen_ok,hb,hsize,Option.getD_none,Int.toNat_natCast]
   subst hs
   by_cases hcl : c = (l.getD 0).toNat
   ·have e0 : (l.getD 0).toNat = 0:=by omega
    rw [if_pos hcl,e0]; simp
   ·rw [if_neg hcl]
    simp [addr_add]
  have hmul : c * sz = (l.getD 0).toNat * sz + (c - (l.getD 0).toNat) * sz:=by
   rw [<- Nat.add_mul]; congr 1; omega
  exact .value (by rw [Sem.run_bind,hrun]; rfl) (KOut.plain hc hr (.mslc _ _ _ _ _ b hob (by omega) (by omega) ⟨C,E,hrow,by omega⟩) (toks_scalar rfl rfl _))
theorem csrc_row {e : TypeId} {vals : List AV} {us : List Value} {ob off k b len cap : Nat} {cs : List AV} (hc : CRel F G vals H us w) (ho : H[ob]? = some (some cs)) (hb : G.obs[ob]? = some b) (hbc : ∃ (C : Array Value) (E : TypeId),w.heap[b]? = some (.cells C E (0,0)))
  (hle : off + k * P.cellsOf e <= cs.length) : ∃ news : List Value,(Builtin.firstCells (P.cellsOf e) k (.slice (some ⟨b,off,none⟩) len cap)).run P w = .ok news.toArray w /\ news.length = k * P.cellsOf e /\ (∀ v ∈ news,v.oneCell' = true) /\
   ∀ (i : Nat) (c : AV),((cs.drop off).take (k * P.cellsOf e))[i]? = some c -> c.scalar = true /\ ∃ v,news[i]? = some v /\ VRel G w c v:=by
 obtain ⟨C,E,hrow,hCs,hC⟩:=hc.h.at_obj ho hb hbc
 refine ⟨(C.toList.drop off).take (k * P.cellsOf e),run_firstCells_some (P:=P) w (P.cellsOf e) k _ _ _ _ (by simp; omega) (fun j v hv => ?_),by simp; omega,fun v hv => ?_,fun i c hi => ?_⟩
 ·rw [List.getElem?_take] at hv
  split at hv
  ·rw [List.getElem?_drop,Array.getElem?_toList] at hv
   rw [addr_add,cell_of_row _ _ _ C E _ hrow]; exact hv
  ·cases hv
 ·obtain ⟨j,hj⟩:=List.getElem?_of_mem hv
  rw [List.getElem?_take] at hj
  split at hj
  ·rename_i hlt
   rw [List.getElem?_drop] at hj
   have hd : cs[off + j]? = some (cs[off + j]'(by omega)):=List.getElem?_eq_getElem _
   obtain ⟨g1,g2,_⟩:=hC.at_ (off + j) _ v hd (by rw [List.getElem?_take,if_pos (by omega)]; exact hj)
   exact oneCell_of g1 g2
  ·cases hj
 ·rw [List.getElem?_take] at hi
  split at hi
  ·rename_i hlt
   rw [List.getElem?_drop] at hi
   have hlt2 : off + i < C.size:=by omega
   have hv : C[off + i]? = some (C[off + i]):=Array.getElem?_eq_getElem hlt2
   obtain ⟨g1,g2,_⟩:=hC.at_ (off + i) c (C[off + i]) hi (by rw [List.getElem?_take,if_pos (by omega),Array.getElem?_toList]; exact hv)
   exact ⟨g1,_,by rw [List.getElem?_take,if_pos hlt,List.getElem?_drop,Array.getElem?_toList]; exact hv,g2⟩
  ·cases hi
theorem csrc_ok {e : TypeId} {a b : AV} {u v : Value} {X : List AV} {k n : Nat} (hc : CRel F G [a,b] H [u,v] w) (hs : csrc P e H k b = some X) (hn : slen b = some n) :
  (Builtin.lenOf v).run P w = .ok n w /\ ∃ news : List Value,(Builtin.firstCells (P.cellsOf e) k v).run P w = .ok news.toArray w /\ news.length = k * P.cellsOf e /\ X.length = k * P.cellsOf e /\ (∀ v ∈ news,v.oneCell' = true) /\
   ∀ (i : Nat) (c : AV),X[i]? = some c -> c.scalar = true /\ ∃ v,news[i]? = some v /\ VRel G w c v:=by
 have hx:=hc.l.rel 1 _ _ rfl rfl
 unfold csrc at hs
 split at hs
 ·rename_i own xs
  split at hs
  ·rename_i hcond
   cases hs
   cases hn
   have hcl:=cat_length hcond.1
   have hkl : k * P.cellsOf e <= xs.length * P.cellsOf e:=Nat.mul_le_mul_right _ hcond.2
   rcases appended_cells hcond.1 hx with ⟨rfl,rfl⟩ | ⟨ad,c,news,rfl,hnl,hnews,hone,hcell⟩
   ·have hk0 : k = 0:=by simpa using hcond.2
    subst hk0
    refine ⟨by simp [Builtin.lenOf],[],by simp [Builtin.firstCells],by simp,by simp,fun v hv => by simp at hv,fun i c hi => by simp at hi⟩
   ·refine ⟨by simp [Builtin.lenOf],news.take (k * P.cellsOf e),run_firstCells_some (P:=P) w (P.cellsOf e) k _ _ _ _ (by simp; omega) (fun j v hv => ?_),by simp; omega,by simp; omega,fun v hv => hone v (List.mem_of_mem_take hv),fun i c hi => ?_⟩
    ·rw [List.getElem?_take] at hv
     split at hv
     ·exact hnews j v hv
     ·cases hv
    ·rw [List.getElem?_take] at hi
     split at hi
     ·rename_i hlt
      obtain ⟨s1,v,s2,s3⟩:=hcell i c hi
      exact ⟨s1,v,by rw [List.getElem?_take,if_pos hlt]; exact s2,s3⟩
     ·cases hi
  ·cases hs
 ·rename_i ob off len sz
  split at hs
  ·rename_i cs ho
   split at hs
   ·rename_i hcond
    cases hs; cases hn
    obtain ⟨hle,rfl,hkl⟩:=hcond
    cases hx with
    | msl _ _ _ _ b cap hb hl hm hrow =>
     obtain ⟨C,E,hrow,_⟩:=hrow
     obtain ⟨news,h1,h2,h3,h4⟩:=csrc_row (P:=P) (e:=e) (len:=n) (cap:=cap) hc ho hb ⟨C,E,hrow⟩ hle
     exact ⟨by simp [Builtin.lenOf],news,h1,h2,by simp; omega,h3,h4⟩
   ·cases hs
  ·cases hs
 ·rename_i ob off len sz c
  split at hs
  ·rename_i cs ho
   split at hs
   ·rename_i hcond
    cases hs; cases hn
    obtain ⟨hle,rfl,hkl⟩:=hcond
    cases hx with
    | mslc _ _ _ _ _ b hb hl hm hrow =>
     obtain ⟨C,E,hrow,_⟩:=hrow
     obtain ⟨news,h1,h2,h3,h4⟩:=csrc_row (P:=P) (e:=e) (len:=n) (cap:=c) hc ho hb ⟨C,E,hrow⟩ hle
     exact ⟨by simp [Builtin.lenOf],news,h1,h2,by simp; omega,h3,h4⟩
   ·cases hs
  ·cases hs
 ·cases hs
theorem ok_copy {t t2 e ty ob off len sz n : Nat} {dst sv : AV} {X cs : List AV} {u v : Value} {b cap : Nat} (hc : CRel F G [dst,sv] H [u,v] w) (hu : P.underlying t = some (.slice e)) (hsz : sz = P.cellsOf e) (hz : (P.info? e).isSome = true)
  (hub : u = .slice (some ⟨b,off,none⟩) len cap) (hob : G.obs[ob]? = some b) (hrow0 : ∃ (C : Array Value) (E : TypeId),w.heap[b]? = some (.cells C E (0,0)) /\ off + cap * sz <= C.size) (hlc : len <= cap)
  (ho : H[ob]? = some (some cs)) (hcb : cs.map borrow1 = cs) (hoff : off <= cs.length) (hn : slen sv = some n) (hs : csrc P e H (Nat.min n len) sv = some X)
  (hr : R (.int .i64 (Nat.min n len : Nat)) (H.set ob (some (cs.take off ++ X.map borrow1 ++ cs.drop (off + Nat.min n len * sz))))) :
  OpRes P ((do let r <- Builtin.copy_ #[t,t2] ty #[u,v]; pure (Next.value r) : Sem Next).run P w) (KOut F G w R):=by
 subst hsz hub
 obtain ⟨hlen,news,hf,hnl,hXl,hone,hcell⟩:=csrc_ok hc hs hn
 obtain ⟨i,hi'⟩:=Option.isSome_iff_exists.1 hz
 have hsize : ∀ w,(sizeOf e).run P w = .ok (P.cellsOf e) w:=fun w => by simp [sizeOf,typeInfo,hi',Program.cellsOf]
 obtain ⟨C0,E0,hrow0,hfit0⟩:=hrow0
 obtain ⟨C,E,hrow,hCs,hC⟩:=hc.h.at_obj ho hob ⟨C0,E0,hrow0⟩
 have hfit : off + Nat.min n len * P.cellsOf e <= C.size:=by
  rw [hrow0] at hrow
  cases hrow
  have h1 : Nat.min n len <= cap:=Nat.le_trans (Nat.min_le_right _ _) hlc
  have:=Nat.mul_le_mul_right (P.cellsOf e) h1
  omega
 generalize hk : Nat.min n len = k at *
 have hst:=run_storeCells_at P b off E news 0 C w hrow (by omega) hone
 simp only [Nat.add_zero] at hst
 let C' : Array Value:=(C.toList.take off ++ news ++ C.toList.drop (off + news.length)).toArray
 have hC' : C' = (C.toList.take off ++ news ++ C.toList.drop (off + news.length)).toArray:=rfl
 have hsize' : C'.size = C.size:=by rw [hC']; simp; omega
 have hrun : (Builtin.copy_ #[t,t2] ty #[.slice (some ⟨b,off,none⟩) len cap,v]).run P w = .ok (goInt k) (w.setRow b C'):=by
  simp [Builtin.copy_,run_underlying hu,hlen,hk,hsize,hf,hst,hC']
 have hold : ∀ (i : Nat) (d : AV) (x : Value),cs[i]? = some d -> C[i]? = some x -> d.scalar = true /\ VRel G w d x /\ d = borrow1 d:=by
  intro i d x hd hx'
  have hi':=(List.getElem?_eq_some_iff.1 hd).1
  obtain ⟨g1,g2,_⟩:=hC.at_ i d x hd (by rw [List.getElem?_take,if_pos hi',Array.getElem?_toList]; exact hx')
  refine ⟨g1,g2, ?_⟩
  have : (cs.map borrow1)[i]? = some (borrow1 d):=by rw [List.getElem?_map,hd]; rfl
  rw [hcb,hd] at this
  exact Option.some.inj this
 have hcs' : cs.take off ++ X.map borrow1 ++ cs.drop (off + k * P.cellsOf e) = (cs.take off ++ X ++ cs.drop (off + k * P.cellsOf e)).map borrow1:=by
  rw [List.map_append,List.map_append,List.map_take,List.map_drop,hcb]
 have htl : (C.toList.take off).length = off:=by simp; omega
 have hct : (cs.take off).length = off:=by simp; omega
 have hset:=hc.setObj ho hob hrow (C':=C') hsize' (cs':=cs.take off ++ X.map borrow1 ++ cs.drop (off + k * P.cellsOf e)) (by rw [hsize']; simp; omega)
  (fun i d x hd hx' => by
   rw [hC',List.getElem?_toArray] at hx'
   by_cases hlt : i < off
   ·rw [List.append_assoc,List.getElem?_append_left (by omega),List.getElem?_take,if_pos hlt] at hd
    rw [List.append_assoc,List.getElem?_append_left (by omega),List.getElem?_take,if_pos hlt,Array.getElem?_toList] at hx'
    obtain ⟨g1,g2,g3⟩:=hold i d x hd hx'
    exact ⟨g1,g2,TokOk.of_none (by rw [g3]; exact tok_borrow1 d _)⟩
   ·rw [List.append_assoc,List.getElem?_append_right (by omega),hct] at hd
    rw [List.append_assoc,List.getElem?_append_right (by omega),htl] at hx'
    by_cases hlt2 : i - off < k * P.cellsOf e
    ·rw [List.getElem?_append_left (by simpa [hXl] using hlt2),List.getElem?_map] at hd
     rw [List.getElem?_append_left (by omega)] at hx'
     cases hci : X[i - off]? with
     | none => rw [hci] at hd; cases hd
     | some c =>
      rw [hci] at hd
      cases hd
      obtain ⟨s1,v,s2,s3⟩:=hcell _ c hci
      rw [s2] at hx'
      cases hx'
      exact ⟨(scalar_borrow1 c).trans s1,s3.borrow1,TokOk.of_none (tok_borrow1 c _)⟩
    ·rw [List.getElem?_append_right (by simpa [hXl] using hlt2),List.getElem?_drop,List.length_map,hXl] at hd
     rw [List.getElem?_append_right (by omega),List.getElem?_drop,hnl,Array.getElem?_toList] at hx'
     have e1 : off + k * P.cellsOf e + (i - off - k * P.cellsOf e) = i:=by omega
     rw [e1] at hd hx'
     obtain ⟨g1,g2,g3⟩:=hold i d x hd hx'
     exact ⟨g1,g2,TokOk.of_none (by rw [g3]; exact tok_borrow1 d _)⟩) (vs:=[.int .i64 (k : Int)]) (us':=[goInt k]) (.cons (.int _ _) (tok_nil_all (toks_scalar rfl rfl _) F G w) (.nil F G w)) (fun x => by
  rw [hcs',tok_nil_borrowed,tcnt_cons,tcnt_nil,toks_scalar rfl rfl]; simp)
 exact .value (by rw [Sem.run_bind,hrun]; rfl) ⟨_,_,G,hr,hset.1,hset.2⟩
theorem ok_append_zeros {t t2 e ty ob off len sz c m : Nat} {kq kn : IntKind} {cs : List AV} {z : AV} {u v : Value} (hc : CRel F G [.mslc ob off len sz c,.int kq (m : Int)] H [u,v] w) (ho : H[ob]? = some (some cs)) (hu : P.underlying t = some (.slice e)) (hu2 : P.underlying t2 = some (.int kn))
  (hpos : 0 < P.cellsOf e) (hsz : sz = P.cellsOf e) (hle : off + len * sz <= cs.length) (hzv : zeroAV P e = some z) (hzl : z.cells.length = P.cellsOf e) (hz : zeroOk P e = true) (hm0 : 0 < m) (hroom : c < len + m) (hb : (len + m) * P.bytesOf e <= 140737488355328) (h63 : len + m <= 9223372036854775807)
  (hr : R (.msl H.length 0 (len + m) (P.cellsOf e)) (H ++ [some (((cs.drop off).take (len * sz)).map borrow1 ++ (zerosN z m).map borrow1)])) :
  OpRes P ((do let r <- Builtin.append_ #[t,t2] ty #[u,v]; pure (Next.value r) : Sem Next).run P w) (KOut F G w R):=by
 subst hsz
 have hs:=hc.l.rel 0 _ _ rfl rfl
 have hv:=hc.l.rel 1 _ _ rfl rfl
 cases hv
 unfold zeroOk at hz
 split at hz
 case h_2 => cases hz
 rename_i i hi
 split at hz
 case h_2 => cases hz
 rename_i zv hz'
 have hcz : zv.cells.size = i.size:=by simpa using hz
 have hce : P.cellsOf e = i.size:=by simp [Program.cellsOf,hi]
 have hbe : P.bytesOf e = i.bytes:=by simp [Program.bytesOf,hi]
 rw [hbe] at hb
 have hlen:=hc.h.len
 obtain ⟨zv2,hrunz,hval,hczz,htz⟩:=zero_sem hzv
 have hzz : zv = zv2:=by
  have:=hrunz w
  simpa [zeroValue,typeInfo,hi,hz'] using this
 subst hzz
 have hz0:=hczz F G w
 cases hs with
 | mslc _ _ _ _ _ b hob hl hm hrow0 =>
  obtain ⟨C0,E0,hrow0,hfit0⟩:=hrow0
  obtain ⟨C,E,hrow,hCs,hC⟩:=hc.h.at_obj ho hob ⟨C0,E0,hrow0⟩
  let olds : List Value:=(C.toList.drop off).take (len * P.cellsOf e)
  have holds : olds = (C.toList.drop off).take (len * P.cellsOf e):=rfl
  have hol : olds.length = len * P.cellsOf e:=by rw [holds]; simp; omega
  have hof:=run_firstCells_some (P:=P) w.drew i.size len ⟨b,off,none⟩ len c olds (by rw [hol,hce]) (fun j v hv => by
   show w.drew.cell? _ = _
   rw [addr_add]
   have : w.cell? ⟨b,off + j,none⟩ = some v:=by
    rw [cell_of_row _ _ _ C E _ hrow]
    rw [holds,List.getElem?_take] at hv
    split at hv
    ·rwa [List.getElem?_drop,Array.getElem?_toList] at hv
    ·cases hv
   simpa using this)
  have hrun:=Go.Lib.run_append_grow_zeros (P:=P) w t t2 ty e i zv kq kn hu hu2 hi hz' (some ⟨b,off,none⟩) len c olds hof m hm0 (by omega) hroom (by omega) (Nat.le_trans (Nat.mul_le_mul_right i.bytes (Nat.le_add_left m len)) (by omega)) (growslice_fits (by omega) hb)
  have hd:=hc.draw
  have hge:=grownCap_ge w (len + m) c e
  have hcm : grownCap w (len + m) c e <= maxLen:=grownCap_le_maxLen w _ c e (by unfold maxLen; omega)
  have hzs : ∀ k,(Builtin.zeroCells zv.cells k).size = k * P.cellsOf e:=fun k => by rw [size_zeroCells,hcz,hce]
  have hXl : (zerosN z m).length = m * P.cellsOf e:=by simp [zerosN,hzl]
  have hsize : (olds.toArray ++ Builtin.zeroCells zv.cells m ++ Builtin.zeroCells zv.cells (grownCap w (len + m) c e - (len + m))).size = grownCap w (len + m) c e * P.cellsOf e:=by
   simp only [Array.size_append,List.size_toArray,hzs,hol,<- Nat.add_mul]
   congr 1; omega
  have hgl : ∀ j,j < m * P.cellsOf e -> (zerosN z m)[j]? = z.cells[j % P.cellsOf e]? /\ (olds.toArray ++ Builtin.zeroCells zv.cells m ++ Builtin.zeroCells zv.cells (grownCap w (len + m) c e - (len + m)))[len * P.cellsOf e + j]? = zv.cells.toList[j % P.cellsOf e]?:=by
   intro j hj
   have hmod : j % P.cellsOf e < P.cellsOf e:=Nat.mod_lt _ hpos
   constructor
   ·unfold zerosN
    rw [List.getElem?_map,List.getElem?_range (by rw [hzl]; exact hj),hzl,Option.map_some,List.getElem?_eq_getElem (by omega)]; rfl
   ·rw [Array.getElem?_append_left (by simp [hzs,hol]; omega),Array.getElem?_append_right (by simp [hol])]
    have e0 : len * P.cellsOf e + j - olds.toArray.size = j:=by simp [hol]
    rw [e0]
    have e1 : (Builtin.zeroCells zv.cells m)[j]? = some (zv.cells[j % zv.cells.size]!):=by
     simp [Builtin.zeroCells,hcz,<- hce,hj]
    rw [e1,hcz,<- hce,Array.getElem?_toList]
    have : j % P.cellsOf e < zv.cells.size:=by omega
    rw [Array.getElem?_eq_getElem this,getElem!_pos zv.cells _ this]
  have hrel : ∀ (i : Nat) (d : AV) (x : Value),(((cs.drop off).take (len * P.cellsOf e)).map borrow1 ++ (zerosN z m).map borrow1)[i]? = some d -> (olds.toArray ++ Builtin.zeroCells zv.cells m ++ Builtin.zeroCells zv.cells (grownCap w (len + m) c e - (len + m)))[i]? = some x -> d.scalar = true /\ VRel G w d x /\ d = borrow1 d:=by
   intro i d x hd hx
   have hl1 : (((cs.drop off).take (len * P.cellsOf e)).map borrow1).length = len * P.cellsOf e:=by simp; omega
   by_cases hlt : i < len * P.cellsOf e
   ·rw [List.getElem?_append_left (by omega),List.getElem?_map,List.getElem?_take,if_pos hlt,List.getElem?_drop] at hd
    rw [Array.append_assoc,Array.getElem?_append_left (by simpa [hol] using hlt),List.getElem?_toArray,holds,List.getElem?_take,if_pos hlt,List.getElem?_drop] at hx
    cases hci : cs[off + i]? with
    | none => rw [hci] at hd; cases hd
    | some c0 =>
     rw [hci] at hd; cases hd
     have hlt3:=(List.getElem?_eq_some_iff.1 hci).1
     obtain ⟨g1,g2,_⟩:=hC.at_ _ c0 x hci (by rw [List.getElem?_take,if_pos hlt3]; exact hx)
     exact ⟨(scalar_borrow1 c0).trans g1,g2.borrow1,(by cases c0 <;> rfl)⟩
   ·obtain ⟨j,rfl⟩ : ∃ j,i = len * P.cellsOf e + j:=⟨i - len * P.cellsOf e,by omega⟩
    rw [List.getElem?_append_right (by omega),hl1,Nat.add_sub_cancel_left] at hd
    rw [List.getElem?_map] at hd
    have hj : j < m * P.cellsOf e:=by
     have:=(List.getElem?_eq_some_iff.1 ((List.getElem?_map ..).trans hd)).1
     rw [List.length_map] at this; omega
    obtain ⟨g1,g2⟩:=hgl j hj
    rw [g1] at hd
    rw [g2] at hx
    cases hz1 : z.cells[j % P.cellsOf e]? with
    | none => rw [hz1] at hd; cases hd
    | some d0 =>
     rw [hz1] at hd; cases hd
     obtain ⟨s1,s2,_⟩:=hz0.at_ _ d0 x hz1 hx
     exact ⟨(scalar_borrow1 d0).trans s1,s2.borrow1,by cases d0 <;> rfl⟩
  refine .value (by rw [Sem.run_bind,hrun]; rfl) ⟨_,_,_,hr, ?_,ext_draw.trans (ext_newObj hd.h.fore _)⟩
  exact hd.newObj (((cs.drop off).take (len * P.cellsOf e)).map borrow1 ++ (zerosN z m).map borrow1) (olds.toArray ++ Builtin.zeroCells zv.cells m ++ Builtin.zeroCells zv.cells (grownCap w (len + m) c e - (len + m))) e
   (by rw [hsize]; simp [hXl]; rw [Nat.min_eq_left (by omega),<- Nat.add_mul]; exact Nat.mul_le_mul_right _ hge)
   (fun i d x h1 h2 => by
    obtain ⟨g1,g2,g3⟩:=hrel i d x h1 h2
    exact ⟨g1,g2.keep (ext_draw (F:=F)).keeps,TokOk.of_none (by rw [g3]; exact tok_borrow1 d _)⟩)
   (fun x => by
    have : ((((cs.drop off).take (len * P.cellsOf e)).map borrow1 ++ (zerosN z m).map borrow1).zip (olds.toArray ++ Builtin.zeroCells zv.cells m ++ Builtin.zeroCells zv.cells (grownCap w (len + m) c e - (len + m))).toList).filterMap tok = []:=by
     rw [List.filterMap_eq_nil_iff]
     intro p hp
     obtain ⟨i,hi⟩:=List.getElem?_of_mem hp
     rw [List.getElem?_zip_eq_some] at hi
     obtain ⟨g1,g2,g3⟩:=hrel i p.1 p.2 hi.1 (by rw [<- Array.getElem?_toList]; exact hi.2)
     obtain ⟨p1,p2⟩:=p
     simp only at g3
     rw [g3]; exact tok_borrow1 p1 p2
    rw [this]; simp)
   (v:=.msl H.length 0 (len + m) (P.cellsOf e)) (u:=.slice (some ⟨w.heap.size,0,none⟩) (len + m) (grownCap w (len + m) c e))
   (.msl _ _ _ _ w.heap.size _ (by
    show (G.obs ++ [w.drew.heap.size])[H.length]? = _
    rw [List.getElem?_append_right (by omega),hlen]; simp) hge hcm ⟨_,e,heap_alloc_new _ _,by rw [hsize]; omega⟩) (toks_scalar rfl rfl _)
theorem ok_overlaps {tS tR e ob ob2 off off2 len len2 sz sz2 c2 : Nat} {u v : Value} (hc : CRel F G [.msl ob off len sz,.mslc ob2 off2 len2 sz2 c2] H [u,v] w) (hne : ob ≠ ob2) (hu : P.underlying tS = some (.slice e)) (hz : (P.info? e).isSome = true) (hl : ∃ cs,H[ob]? = some (some cs)) (hl2 : ∃ cs,H[ob2]? = some (some cs)) (hp : 0 < len2 * sz2)
  : (Extern.SlicesOverlaps.overlaps #[tS,tS] #[tR] #[u,v]).run P w = .ok (.bool false) w:=by
 have hx:=hc.l.rel 0 _ _ rfl rfl
 have hy:=hc.l.rel 1 _ _ rfl rfl
 obtain ⟨i,hi'⟩:=Option.isSome_iff_exists.1 hz
 have hsize : ∀ w,(sizeOf e).run P w = .ok (P.cellsOf e) w:=fun w => by simp [sizeOf,typeInfo,hi',Program.cellsOf]
 obtain ⟨cs,hl⟩:=hl
 obtain ⟨cs2,hl2⟩:=hl2
 cases hx with
 | msl _ _ _ _ b cap hb hlc hm hrow =>
  cases hy with
  | mslc _ _ _ _ _ b2 hb2 hlc2 hm2 hrow2 =>
   obtain ⟨C,E,hrow,hfit⟩:=hrow
   obtain ⟨C2,E2,hrow2,hfit2⟩:=hrow2
   have hbb : b ≠ b2:=by
    rintro rfl
    exact hne (hc.h.inj _ _ _ _ _ hl hl2 hb hb2)
   have hcs : 0 < C2.size:=by
    have:=Nat.mul_le_mul_right sz2 hlc2
    omega
   refine Go.Lib.run_overlaps_apart w tS tR e hu _ hsize ⟨b,off,none⟩ ⟨b2,off2,none⟩ len cap len2 c2 hbb E E2 C.size C2.size ?_ ?_ (by omega) ?_ ?_
   ·simp [World.shape?,hrow]
   ·simp [World.shape?,hrow2]
   ·simp [World.frozen?,hrow]
   ·simp [World.frozen?,hrow]
theorem ok_acopy {t t2 ty : Nat} {a b : AV} {u v : Value} (hc : CRel F G [a,b] H [u,v] w) (hr : acopy P t a b H R) :
  OpRes P ((do let r <- Builtin.copy_ #[t,t2] ty #[u,v]; pure (Next.value r) : Sem Next).run P w) (KOut F G w R):=by
 unfold acopy at hr
 split at hr
 ·rename_i e ob off len sz gr n hu hrow hn
  split at hr
  ·rename_i cs ho
   obtain ⟨⟨h1,h2,h3,h4,h5⟩,hr⟩:=hr
   split at hr
   ·rename_i X hs
    have hx:=hc.l.rel 0 _ _ rfl rfl
    cases a <;> simp only [crow] at hrow <;> cases hrow
    ·cases hx with
     | msl _ _ _ _ b cap hb hl hm hrw => exact ok_copy hc hu h1 h2 rfl hb hrw hl ho h3 h4 hn hs hr
    ·cases hx with
     | mslc _ _ _ _ _ b hb hl hm hrw => exact ok_copy hc hu h1 h2 rfl hb hrw hl ho h3 h4 hn hs hr
   ·exact hr.elim
  ·exact hr.elim
 ·exact hr.elim
theorem ok_apz {t t2 ty : Nat} {mt : Bool} {a b : AV} {u v : Value} (hc : CRel F G [a,b] H [u,v] w) (hr : apz P t t2 mt a b H R) :
  OpRes P ((do let r <- Builtin.append_ #[t,t2] ty #[u,v]; pure (Next.value r) : Sem Next).run P w) (KOut F G w R):=by
 unfold apz at hr
 split at hr
 ·rename_i e kn ob off len sz c k m hu hu2
  split at hr
  ·rename_i cs ho
   obtain ⟨z,h1,⟨h3,h4,h5,h6,h7,h8,h9,h10,h11⟩,hr⟩:=hr
   obtain ⟨m,rfl⟩ : ∃ j : Nat,m = (j : Int):=⟨m.toNat,by omega⟩
   rw [Int.toNat_natCast] at h10 h11 hr
   exact ok_append_zeros hc ho hu hu2 h5 h6 h7 h1 h3 h4 (by omega) (by omega) h10 h11 hr
  ·exact hr.elim
 ·exact hr.elim
end
end Go.AI
namespace Go.AI
section
variable {P : Program} {F : Nat -> Prop} {G : Gh} {w : World} {H : Heap} {R : AV -> Heap -> Prop}
theorem map_borrow_LRel {first : List AV} {fi : List Value} (hl : first.length = fi.length) (h : ∀ (i : Nat) (c : AV) (v : Value),first[i]? = some c -> fi[i]? = some v -> VRel G w c v) : LRel F G (first.map AV.borrow) fi w /\ ∀ b,tcnt b (first.map AV.borrow) fi = 0:=by
 refine ⟨⟨by simpa using hl,fun i a u h1 h2 => ?_,fun i a u h1 h2 => ?_⟩,fun b => ?_⟩
 ·rw [List.getElem?_map] at h1
  cases hc : first[i]? with
  | none => rw [hc] at h1; cases h1
  | some c => rw [hc] at h1; cases h1; exact (h i c u hc h2).borrow
 ·rw [List.getElem?_map] at h1
  cases hc : first[i]? with
  | none => rw [hc] at h1; cases h1
  | some c => rw [hc] at h1; cases h1; exact tok_nil_all (toks_borrow c u) F G w
 ·clear h
  induction first generalizing fi with
  | nil => simp [tcnt]
  | cons c cs ih =>
   match fi,hl with
   | u :: us,hl => rw [List.map_cons,tcnt_cons,toks_borrow,ih (by simpa using hl)]; simp
theorem ok_call {f : FuncId} {first captured args : List AV} {fv : Value} {uargs : Array Value} (hc : CRel F G (.fn (.func f) first captured :: args) H (fv :: uargs.toList) w)
  (hcall : ACall P f (first.map AV.borrow ++ args ++ captured.map AV.borrow) H R) :
  OpRes P ((do let d <- Deferred.ofValue fv uargs; invoke d.target d.args : Sem Next).run P w) (KOut F G w R):=by
 have hx:=hc.l.rel 0 _ _ rfl rfl
 obtain ⟨_,_,hargs⟩:=hc.l.uncons
 cases hx with
 | fn _ _ _ fi ca h1 h2 h3 h4 =>
  obtain ⟨hcallable,hcall⟩:=hcall
  obtain ⟨l1,t1⟩:=map_borrow_LRel (F:=F) (G:=G) (w:=w) (first:=first) (fi:=fi.toList) (by simpa using h1) (fun i c v a b => h3 i c v a (by simpa using b))
  obtain ⟨l2,t2⟩:=map_borrow_LRel (F:=F) (G:=G) (w:=w) (first:=captured) (fi:=ca.toList) (by simpa using h2) (fun i c v a b => h4 i c v a (by simpa using b))
  have hcr : CRel F G (first.map AV.borrow ++ args ++ captured.map AV.borrow) H (fi.toList ++ uargs.toList ++ ca.toList) w:=by
   refine ⟨(l1.append hargs).append l2,hc.h,fun b => ?_⟩
   rw [tcnt_append _ _ _ _ _ (l1.append hargs).len,tcnt_append _ _ _ _ _ l1.len,t1,t2]
   have:=hc.cnt b
   rw [tcnt_cons] at this
   omega
  have hC:=hcall F G w _ hcr
  have e : (do let d <- Deferred.ofValue (.func (.func f) fi ca) uargs; invoke d.target d.args : Sem Next).run P w = .ok (.enter f (fi ++ uargs ++ ca)) w:=by
   unfold callable at hcallable
   split at hcallable
   ·rename_i fn hfn
    simp only [Bool.and_eq_true,Bool.not_eq_true',beq_eq_false_iff_ne,ne_eq] at hcallable
    obtain ⟨g1,g2⟩:=hcallable
    have g3 : fn.body.isNone = false:=by cases hb : fn.body <;> simp_all
    simp only [Deferred.ofValue,Sem.run_bind,Sem.run_pure,Result.andThen_ok,invoke,callFunc,run_program,hfn,Sem.run_ite,beq_eq_false_iff_ne.2 g1,g3,Bool.false_eq_true,if_false]
   ·cases hcallable
  rw [e]
  have e2 : (fi.toList ++ uargs.toList ++ ca.toList).toArray = fi ++ uargs ++ ca:=by
   apply Array.ext'
   simp
  rw [e2] at hC
  refine hC.mono fun en w'' hen => ?_
  obtain ⟨u,rfl,v,H',G',hr,g1,g2⟩:=hen
  exact ⟨u,rfl,v,H',G',hr,g1,g2⟩
theorem ok_xcall {f : FuncId} {first captured args : List AV} {fv : Value} {uargs : Array Value} {v : AV} (hc : CRel F G (.fn (.func f) first captured :: args) H (fv :: uargs.toList) w)
  (hcall : XCall P f (first.map AV.borrow ++ args ++ captured.map AV.borrow) H v) (hr : R v H) :
  OpRes P ((do let d <- Deferred.ofValue fv uargs; invoke d.target d.args : Sem Next).run P w) (KOut F G w R):=by
 have hx:=hc.l.rel 0 _ _ rfl rfl
 obtain ⟨_,_,hargs⟩:=hc.l.uncons
 cases hx with
 | fn _ _ _ fi ca h1 h2 h3 h4 =>
  unfold XCall at hcall
  split at hcall
  ·rename_i ob off len sz ob2 off2 len2 sz2 c2 heq
   obtain ⟨hne,⟨fn,tS,tR,e,g1,g2,g3,g4,g5,g6,g7⟩,hl,hl2,hp,rfl⟩:=hcall
   have hcr : CRel F G [.msl ob off len sz,.mslc ob2 off2 len2 sz2 c2] H (fi.toList ++ uargs.toList ++ ca.toList) w:=by
    rw [<- heq]
    obtain ⟨l1,t1⟩:=map_borrow_LRel (F:=F) (G:=G) (w:=w) (first:=first) (fi:=fi.toList) (by simpa using h1) (fun i c v a b => h3 i c v a (by simpa using b))
    obtain ⟨l2,t2⟩:=map_borrow_LRel (F:=F) (G:=G) (w:=w) (first:=captured) (fi:=ca.toList) (by simpa using h2) (fun i c v a b => h4 i c v a (by simpa using b))
    refine ⟨(l1.append hargs).append l2,hc.h,fun b => ?_⟩
    rw [tcnt_append _ _ _ _ _ (l1.append hargs).len,tcnt_append _ _ _ _ _ l1.len,t1,t2]
    have:=hc.cnt b
    rw [tcnt_cons] at this
    omega
   have e2 : (fi.toList ++ uargs.toList ++ ca.toList).toArray = fi ++ uargs ++ ca:=by
    apply Array.ext'
    simp
   generalize hus : fi.toList ++ uargs.toList ++ ca.toList = us at hcr e2
   match us,hcr,e2 with
   | [u,v],hcr,e2 =>
    have hov:=ok_overlaps (tR:=tR) hcr hne g6 g7 hl hl2 hp
    have hrun:=run_callFunc_extern (P:=P) g1 g2 g3 g4 g5 #[u,v] w
    rw [hov] at hrun
    refine .value (u:=.bool false) (w':=w) ?_ (KOut.plain hc hr (.bool _) (toks_scalar rfl rfl _))
    simp only [Deferred.ofValue,Sem.run_bind,Sem.run_pure,Result.andThen_ok,invoke,<- e2]
    exact hrun
   | [],hcr,_ => have:=hcr.l.len; simp at this
   | [_],hcr,_ => have:=hcr.l.len; simp at this
   | _ :: _ :: _ :: _,hcr,_ => have:=hcr.l.len; simp at this
  ·exact hcall.elim
theorem CRel.rest {v : AV} {L : List AV} {u : Value} {tm : List Value} (hc : CRel F G (v :: L) H (u :: tm) w) : CRel F G L H tm w :=
 ⟨hc.l.uncons.2.2,hc.h,fun b => by have:=hc.cnt b; rw [tcnt_cons] at this; omega⟩
theorem ok_yield {o : Nat} {L : LoopRec} {args : List AV} {fv : Value} {uargs : Array Value} (hc : CRel F G (.yld o L :: args) H (fv :: uargs.toList) w) (hcall : YCall P o L args H R) :
  OpRes P ((do let d <- Deferred.ofValue fv uargs; invoke d.target d.args : Sem Next).run P w) (KOut F G w R):=by
 have hx:=hc.l.rel 0 _ _ rfl rfl
 cases hx with
 | yld _ b _ h hb hk =>
  obtain ⟨r,h1,h2,h3⟩:=hcall F G w _ b hc.rest h hk
  have hs : uargs.size = r.params.size:=by simpa using h2
  have e : (do let d <- Deferred.ofValue (.func (.yield b) #[] #[]) uargs; invoke d.target d.args : Sem Next).run P w = .ok (.round b r.fn ((r.params.zip uargs).foldl (fun tmps (t,a) => tmps.setIfInBounds t a) r.tmps) r.assign r.body) w:=by
   simp only [Deferred.ofValue,Sem.run_bind,Sem.run_pure,Result.andThen_ok,invoke,Array.empty_append]
   exact run_yield h1 hs
  rw [e]
  have e2 : uargs.toList.toArray = uargs:=by simp
  rw [e2] at h3
  exact h3
theorem optB_of {lo hi mx : Option Operand} {ρ : Operand -> Value} {rest : List AV} {l h m : Option Int} (hb : bounds3 lo.isSome hi.isSome mx.isSome rest = some (l,h,m))
  (hl : LRel F G rest ((lo.toArray ++ hi.toArray ++ mx.toArray).toList.map ρ) w) :
  OptB (lo.map ρ) l /\ OptB (hi.map ρ) h /\ OptB (mx.map ρ) m /\ (m.isSome = true -> h.isSome = true):=by
 have int : ∀ {k : IntKind} {i : Int} {u : Value},VRel G w (.int k i) u -> u = .int k i:=fun h => by cases h; rfl
 unfold bounds3 at hb
 split at hb <;> first | cases hb | skip
 all_goals
  rename_i e1 e2 e3
  cases lo <;> first | cases e1 | skip
  all_goals cases hi <;> first | cases e2 | skip
  all_goals cases mx <;> first | cases e3 | skip
  all_goals simp only [Option.toArray,Array.toList_append,List.map_append,List.map_cons,List.map_nil,List.nil_append,List.singleton_append,List.append_nil] at hl
  all_goals simp only [Option.map_none,Option.map_some]
 ·exact ⟨.none,.none,.none,by simp⟩
 ·have g1:=int (hl.rel 0 _ _ rfl rfl)
  rw [g1]; exact ⟨.some _ _,.none,.none,by simp⟩
 ·have g1:=int (hl.rel 0 _ _ rfl rfl)
  rw [g1]; exact ⟨.none,.some _ _,.none,by simp⟩
 ·have g1:=int (hl.rel 0 _ _ rfl rfl)
  have g2:=int (hl.rel 1 _ _ rfl rfl)
  rw [g1,g2]; exact ⟨.some _ _,.some _ _,.none,by simp⟩
 ·have g1:=int (hl.rel 0 _ _ rfl rfl)
  have g2:=int (hl.rel 1 _ _ rfl rfl)
  rw [g1,g2]; exact ⟨.none,.some _ _,.some _ _,by simp⟩
 ·have g1:=int (hl.rel 0 _ _ rfl rfl)
  have g2:=int (hl.rel 1 _ _ rfl rfl)
  have g3:=int (hl.rel 2 _ _ rfl rfl)
  rw [g1,g2,g3]; exact ⟨.some _ _,.some _ _,.some _ _,by simp⟩
theorem arr_one {us : Array Value} (h : us.toList.length = 1) : ∃ u,us = #[u]:=by
 obtain ⟨l⟩:=us
 match l,h with
 | [u],_ => exact ⟨u,rfl⟩
theorem arr_two {us : Array Value} (h : us.toList.length = 2) : ∃ u v,us = #[u,v]:=by
 obtain ⟨l⟩:=us
 match l,h with
 | [u,v],_ => exact ⟨u,v,rfl⟩
set_option maxHeartbeats 1000000 in
theorem crel_lend1 {v : AV} {u : Value} (h : CRel F G [v] H [u] w) : CRel F G [v.borrow] H [u] w:=by
 obtain ⟨h1,h2,_⟩:=h.l.uncons
 refine ⟨.cons h1.borrow (tok_nil_all (toks_borrow _ _) F G w) (.nil F G w),h.h,fun b => ?_⟩
 rw [tcnt_cons,tcnt_nil,toks_borrow]
 have:=h.cnt b
 simp only [List.count_nil]
 omega
theorem opRes_lend {r : Result Next} (h : OpRes P r (KOut F G w fun v H' => R v.borrow H')) : OpRes P r (KOut F G w R):=by
 have key : ∀ u w',KOut F G w (fun v H' => R v.borrow H') u w' -> KOut F G w R u w':=by
  rintro u w' ⟨v,H',G',hR,hc,he⟩
  exact ⟨v.borrow,H',G',hR,crel_lend1 hc,he⟩
 unfold OpRes at h ⊢
 cases r with
 | ok nx w' =>
  cases nx <;> simp only at h ⊢
  ·exact key _ _ h
  ·exact key _ _ h
  ·refine Calls.mono h fun e w'' he => ?_
   obtain ⟨u,rfl,hk⟩:=he
   exact ⟨u,rfl,key _ _ hk⟩
  ·refine RoundIn.mono h fun e w'' he => ?_
   obtain ⟨u,rfl,hk⟩:=he
   exact ⟨u,rfl,key _ _ hk⟩
 | halt x w' => exact h
theorem ares_ok (h : Hint) (o : Oper) (ρ : Operand -> Value) (hρ : ∀ v,ρ (.const v) = v) (vals : List AV) (hc : CRel F G vals H (o.op.operands.toList.map ρ) w) (hr : ares P h o vals H R) :
  OpRes P ((execOp ρ o).run P w) (KOut F G w R):=by
 unfold ares at hr
 split at hr <;> rename_i heq <;> simp only [heq,Op.operands] at hc <;> simp only [execOp,heq]
 ·exact .value rfl (KOut.same hc hr)
 ·exact .value rfl (KOut.same hc hr)
 ·exact ok_pick hc hr
 ·exact ok_box hc hr.1 hr.2
 ·split at hr
  ·exact ok_alloc_nil hc hr.1 hr.2
  ·obtain ⟨z,hz,hr⟩:=hr
   exact ok_alloc hc hz hr
 ·-- build
  rename_i t ps
  rw [show (Array.map (fun x : Nat × Operand => (x.1,ρ x.2)) ps) = (ps.toList.map fun p => (p.1,ρ p.2)).toArray by apply Array.ext'; simp]
  rw [show ((ps.toList.map (·.2)).toArray.toList.map ρ) = ps.toList.map fun p => ρ p.2 by simp] at hc
  split at hr
  ·rename_i fs hu
   obtain ⟨z,cs,h1,h2,h3,h4⟩:=hr
   exact ok_build_struct hc hu h1 h2 h3 h4
  ·rename_i n e hu
   obtain ⟨z,cs,h1,h2,h3,h4⟩:=hr
   exact ok_build_array hc hu h1 h2 h3 h4
  ·exact hr.elim
 ·rename_i t len ps
  rw [show (Array.map (fun x : Nat × Operand => (x.1,ρ x.2)) ps) = (ps.toList.map fun p => (p.1,ρ p.2)).toArray by apply Array.ext'; simp]
  rw [show ((ps.toList.map (·.2)).toArray.toList.map ρ) = ps.toList.map fun p => ρ p.2 by simp] at hc
  split at hr
  ·rename_i e hu
   obtain ⟨h1,h2,h3,h4,h5,h6⟩:=hr
   split at h6
   ·exact ok_buildSlice_mut hc hu h1 h2 h3 h4 h5 h6
   ·exact ok_buildSlice hc hu h1 h2 h3 h4 h5 h6
  ·exact hr.elim
 ·split at hr
  ·rename_i e hu
   obtain ⟨h1,h2,h3,h4,h5,z,h6,h7,h8,h9⟩:=hr
   exact ok_makeSlice hc hu h1 h2 h3 h4 h5 h6 h7 h8 h9
  ·exact hr.elim
 ·-- load from an object
  split at hr
  ·rename_i cs ho
   split at hr
   ·rename_i v hl
    split at hr
    ·exact ok_load_ptr hc ho hl (.inr hr.2.2)
    ·exact ok_load_ptr hc ho hl (.inl hr)
   ·exact hr.elim
  ·exact hr.elim
 ·split at hr
  ·rename_i v hl
   exact ok_load_cptr hc hl hr
  ·exact hr.elim
 ·split at hr
  ·rename_i cs ho
   obtain ⟨h1,h2,h3,h4,h5⟩:=hr
   exact ok_store hc ho h1 h2 h3 h4 h5
  ·exact hr.elim
 ·obtain ⟨a,ha,hk⟩:=ok_nilCheck_ptr hc hr
  rw [ha] at hk ⊢
  exact .value rfl hk
 ·obtain ⟨a,ha,hk⟩:=ok_nilCheck_cptr hc hr
  rw [ha] at hk ⊢
  exact .value rfl hk
 ·rename_i x f a b
  simp only [List.map_cons,List.map_nil] at hc
  have hx:=hc.l.rel 0 _ _ rfl rfl
  generalize ρ x = fx at hx hc ⊢
  cases hx
  exact .value rfl (KOut.same hc hr)
 ·rename_i x o' L
  simp only [List.map_cons,List.map_nil] at hc
  have hx:=hc.l.rel 0 _ _ rfl rfl
  generalize ρ x = fx at hx hc ⊢
  cases hx
  exact .value rfl (KOut.same hc hr)
 ·split at hr
  ·rename_i y _ _ _ hy
   refine ok_nilcmp hc ?_ hr
   unfold nilSide at hy
   split at hy
   ·exact hρ _
   ·cases hy
  ·exact ok_binOp hc hr
 ·split at hr
  ·exact ok_unOp_neg hc hr
  ·exact ok_unOp_not hc hr
  ·exact hr.elim
 ·split at hr
  ·exact ok_convert_int hc ‹_› ‹_› hr
  ·exact ok_convert_str hc ‹_› ‹_› hr
  ·exact ok_convert_bytes hc ‹_› ‹_› hr.1 hr.2.1 hr.2.2
  ·exact hr.elim
 ·rename_i fn first captured
  have:=ok_makeFunc (P:=P) (fn:=fn) (first:=first.toList) (captured:=captured.toList) (ρ:=ρ) (R:=R) (by simpa using hc) (by simpa using hr)
  rw [show (first.toList.map ρ).toArray = first.map ρ by apply Array.ext'; simp,show (captured.toList.map ρ).toArray = captured.map ρ by apply Array.ext'; simp] at this
  exact this
 ·rename_i t x lo hi mx a rest
  simp only [Array.toList_append,List.map_append,List.map_cons,List.map_nil,List.singleton_append,List.cons_append,List.nil_append] at hc
  split at hr
  ·rename_i l hh m hb
   obtain ⟨hx,htx,hrest⟩:=hc.l.uncons
   obtain ⟨o1,o2,o3,o4⟩:=optB_of (ρ:=ρ) hb (by simpa using hrest)
   split at hr
   ·unfold apslice at hr
    split at hr
    ·rename_i n e o off hu
     obtain ⟨⟨rfl,rfl,rfl⟩,g1,g2,hr⟩:=hr
     have nn : ∀ {x : Option Value},OptB x none -> x = none:=fun {x} h => by
      cases x with
      | none => rfl
      | some z => cases h
     split at hr
     ·rename_i cs ho
      rw [nn o1,nn o2,nn o3]
      exact ok_slice_obj hc hu g2 ho hr.1 g1 hr.2
     ·exact hr.elim
    ·rename_i e own es hu
     obtain ⟨⟨rfl,rfl,rfl⟩,g1,hr⟩:=hr
     have nn : ∀ {x : Option Value},OptB x none -> x = none:=fun {x} h => by
      cases x with
      | none => rfl
      | some z => cases h
     rw [nn o1]
     exact ok_slice_cap0 hc hu o2 o3 g1 hr
    ·exact hr.elim
   unfold aslice at hr
   split at hr
   ·rename_i s hu
    obtain ⟨h1,h2,h3,h4,h5⟩:=hr
    subst h1
    have : mx.map ρ = none:=by cases o3' : mx.map ρ with
     | none => rfl
     | some z => rw [o3'] at o3; cases o3
    exact ok_slice_str hc hu o1 o2 this h2 h3 h4 h5
   ·rename_i e own es hu
    obtain ⟨h1,h2,h3,h4,hz,h5⟩:=hr
    refine ok_slice_sl hc hu o1 o2 o3 o4 h1 h2 h3 h4 ?_ ?_
    ·cases m with
     | none => exact h5
     | some mm => exact h5
    ·cases hi : P.info? e with
     | none => rw [hi] at hz; cases hz
     | some i => exact ⟨i,rfl⟩
   ·rename_i e ob off len sz hu
    obtain ⟨⟨h1,h2,h3,h4,hz,rfl,h5⟩,hr⟩:=hr
    refine ok_slice_msl hc hu o1 o2 o3 h1 h2 h3 h4 ?_ h5 hr
    cases hi : P.info? e with
    | none => rw [hi] at hz; cases hz
    | some i => exact ⟨i,rfl⟩
   ·rename_i e ob off len sz c hu
    obtain ⟨⟨h1,h2,h3,h4,hz,rfl⟩,hr⟩:=hr
    refine ok_slice_mslc hc hu o1 o2 o3 h1 h2 h3 h4 ?_ hr
    cases hi : P.info? e with
    | none => rw [hi] at hz; cases hz
    | some i => exact ⟨i,rfl⟩
   ·rename_i ta cs off hu
    obtain ⟨rfl,rfl,rfl,hr⟩:=hr
    have nn : ∀ {x : Option Value},OptB x none -> x = none:=fun {x} h => by
     cases x with
     | none => rfl
     | some z => cases h
    split at hr
    ·rename_i n e ha
     obtain ⟨g1,g2,g3,g4⟩:=hr
     rw [nn o1,nn o2,nn o3]
     exact ok_slice_carr hc hu ha g1 g2 g3 g4
    ·exact hr.elim
   ·rename_i n e cs off hu
    obtain ⟨⟨rfl,rfl,rfl⟩,g1,g2,g3,g4⟩:=hr
    have nn : ∀ {x : Option Value},OptB x none -> x = none:=fun {x} h => by
     cases x with
     | none => rfl
     | some z => cases h
    rw [nn o1,nn o2,nn o3]
    exact ok_slice_carr2 hc hu g1 g2 g3 g4
   ·exact hr.elim
  ·exact hr.elim
 ·-- fieldAddr
  split at hr
  ·rename_i fs hu
   split at hr
   ·rename_i fd hf
    exact ok_fieldAddr hc hu hf hr.1 hr.2
   ·exact hr.elim
  ·exact hr.elim
 ·split at hr
  ·rename_i fs hu
   split at hr
   ·rename_i fd hf
    split at hr
    ·rename_i v hl
     exact ok_field hc hu hf hl hr
    ·exact hr.elim
   ·exact hr.elim
  ·exact hr.elim
 ·obtain ⟨v,hv,hr⟩:=hr
  exact ok_extract hc hv hr
 ·-- indexAddr
  split at hr
  ·rename_i e own es hu
   obtain ⟨h0,v,h1,h2,h3,h4⟩:=hr
   exact ok_indexAddr_sl hc hu h0 h1 h2 h3 h4
  ·rename_i e ob off len sz hu
   obtain ⟨h0,h1,h2,h3,h4⟩:=hr
   exact ok_indexAddr_msl hc hu h0 h1 h2 h3 h4
  ·rename_i n e ob off hu
   obtain ⟨h0,h1,h2,h3⟩:=hr
   exact ok_indexAddr_arr hc hu h0 h1 h2 h3
  ·rename_i n e cs off hu
   obtain ⟨h0,h1,h2,h3⟩:=hr
   exact ok_indexAddr_arr hc hu h0 h1 h2 h3
  ·exact hr.elim
 ·split at hr
  ·rename_i s hu
   obtain ⟨h0,h1,h2⟩:=hr
   exact ok_index_str hc hu h0 h1 h2
  ·rename_i n e cs hu
   obtain ⟨h0,h1,h2,v,h3,h4⟩:=hr
   exact ok_index_agg hc hu h0 h1 h2 h3 h4
  ·exact hr.elim
 ·simp only [Option.toArray_none,List.map_nil] at hc
  exact ok_makeMap hc hr
 ·obtain ⟨hu,hr⟩:=hr
  split at hu
  ·rename_i kt et hu'
   simp only [Option.toArray_some,List.map_cons,List.map_nil] at hc
   exact ok_makeMap_hint hc hu' hr
  ·cases hu
 ·simp only [List.map_cons,List.map_nil] at hc
  split at hr
  ·rename_i kt et hu
   split at hr
   ·rename_i es he
    obtain ⟨g1,g2,z,g3,g4⟩:=hr
    exact ok_lookup hc hu he g1 g2 g3 g4
   ·exact hr.elim
  ·exact hr.elim
 ·simp only [List.map_cons,List.map_nil] at hc
  split at hr
  ·rename_i kt et hu
   split at hr
   ·rename_i es he
    obtain ⟨g1,g2,g3,g4⟩:=hr
    exact ok_mapUpdate hc hu he g1 g2 g3 g4
   ·exact hr.elim
  ·exact hr.elim
 ·simp only [List.map_cons,List.map_nil] at hc
  exact ok_range hc hr
 ·simp only [List.map_cons,List.map_nil] at hc
  exact ok_next hc hr
 ·simp only [List.map_cons,List.map_nil] at hc
  exact ok_entry hc hr
 ·-- calls
  rename_i c
  obtain ⟨callee,args,argTypes⟩:=c
  cases callee with
  | invoke r m => exact hr.elim
  | value fo =>
   simp only at hr
   split at hr
   ·simp only [Call.operands] at hc
    split at hr
    ·split at hr
     ·obtain ⟨v,hcall,hr⟩:=hr
      rcases hcall with hcall | hcall
      ·have:=ok_call (P:=P) (fv:=ρ fo) (uargs:=args.map ρ) (R:=R) (by simpa using hc) ((hcall H rfl).mono fun v' H' hq => by obtain ⟨rfl,rfl⟩:=hq; exact hr)
       simpa [resolve] using this
      ·have:=ok_xcall (P:=P) (fv:=ρ fo) (uargs:=args.map ρ) (R:=R) (by simpa using hc) hcall hr
       simpa [resolve] using this
     ·obtain ⟨v,hcall,hr⟩:=hr
      have:=ok_call (P:=P) (fv:=ρ fo) (uargs:=args.map ρ) (R:=R) (by simpa using hc) ((hcall H).mono fun v' H' hq => by obtain ⟨rfl,rfl⟩:=hq; exact hr)
      simpa [resolve] using this
    ·split at hr
     ·obtain ⟨v,ext,hcall,hr⟩:=hr
      have:=ok_call (P:=P) (fv:=ρ fo) (uargs:=args.map ρ) (R:=R) (by simpa using hc) (hcall.mono fun v2 H2 hq => by obtain ⟨rfl,rfl⟩:=hq; exact hr)
      simpa [resolve] using this
     ·have hcall:=hr
      have:=ok_call (P:=P) (fv:=ρ fo) (uargs:=args.map ρ) (R:=R) (by simpa using hc) hcall
      simpa [resolve] using this
   ·simp only [Call.operands] at hc
    have:=ok_yield (P:=P) (fv:=ρ fo) (uargs:=args.map ρ) (R:=R) (by simpa using hc) hr.2
    simpa [resolve] using this
   ·exact hr.elim
  | builtin b =>
   simp only [Call.operands] at hc
   have e0 : ∀ (as : Array Operand),List.map ρ ((#[] : Array Operand) ++ as).toList = (as.map ρ).toList:=by intro as; simp
   cases b <;> simp only at hr <;> first | exact hr.elim | skip
   case append =>
    split at hr
    ·rename_i a b t t' hat
     by_cases htt : t = t'
     case neg =>
      rw [if_neg htt] at hr
      have hat' : argTypes = #[t,t']:=by rw [<- Array.toArray_toList (xs:=argTypes),hat]
      subst hat'
      obtain ⟨u,v,huv⟩:=arr_two (us:=args.map ρ) (by have:=hc.l.len; simp at this; simp; omega)
      rw [e0,huv] at hc
      simp only [resolve,huv,Sem.run_bind,Sem.run_pure,Result.andThen_ok,invoke,builtin]
      simpa only [Sem.run_bind,Sem.run_pure] using ok_apz (ty:=o.type) hc hr
     subst htt
     rw [if_pos rfl] at hr
     split at hr
     ·rename_i e hu
      obtain ⟨h1,h3,hr⟩:=hr
      have hat' : argTypes = #[t,t]:=by rw [<- Array.toArray_toList (xs:=argTypes),hat]
      subst hat'
      obtain ⟨u,v,huv⟩:=arr_two (us:=args.map ρ) (by have:=hc.l.len; simp at this; simp; omega)
      rw [e0,huv] at hc
      simp only [resolve,huv,Sem.run_bind,Sem.run_pure,Result.andThen_ok,invoke,builtin]
      split at hr
      ·rename_i xs hs
       obtain ⟨h2,hr⟩:=hr
       have hsrc:=src_ok hc hs h2
       split at hr
       ·obtain ⟨rfl,h4,h5,h6⟩:=hr
        cases hln : o.dst.any h.pc.contains
        ·rw [hln] at h6
         simpa only [Sem.run_bind,Sem.run_pure] using ok_append (ty:=o.type) hc hsrc hu h1 h2 h3 h4 h5 h6
        ·rw [hln] at h6
         have h7:=ok_append (ty:=o.type) (R:=fun v H' => R v.borrow H') hc hsrc hu h1 h2 h3 h4 h5 h6
         have h8:=opRes_lend h7
         simpa only [Sem.run_bind,Sem.run_pure] using h8
       ·obtain ⟨rfl,h4,h6,h7,hr⟩:=hr
        split at hr
        ·rename_i cs ho
         obtain ⟨h8,h9,h10⟩:=hr
         simpa only [Sem.run_bind,Sem.run_pure] using ok_append_row (ty:=o.type) hc hsrc ho hu h1 h4 h8 h9 h2 h3 h6 h7 h10
        ·exact hr.elim
       ·rename_i ob off len sz c hmt
        obtain ⟨rfl,h4,h6,h7,hr⟩:=hr
        split at hr
        ·rename_i cs ho
         obtain ⟨h8,h9,h10⟩:=hr
         have hc' : CRel F G [.msl ob 0 len sz,b] H [u,v] w:=by
          obtain ⟨hv1,_,hr1⟩:=hc.l.uncons
          cases hv1 with
          | mslc _ _ _ _ _ b' hb hl hm hcc =>
           refine ⟨.cons (.msl ob 0 len sz b' c hb hl hm hcc) (tok_nil_all (toks_scalar rfl rfl _) _ _ _) hr1,hc.h,fun x => ?_⟩
           have:=hc.cnt x
           rw [tcnt_cons,toks_scalar rfl rfl] at this ⊢
           exact this
         simpa only [Sem.run_bind,Sem.run_pure] using ok_append_row (ty:=o.type) hc' hsrc ho hu h1 h4 h8 h9 h2 h3 h6 h7 h10
        ·exact hr.elim
       ·obtain ⟨h4,h5,h6,h7⟩:=hr
        simpa only [Sem.run_bind,Sem.run_pure] using ok_append_nil (ty:=o.type) hc hsrc hu h1 h2 h3 h4 h5 h6 h7
       ·exact hr.elim
      ·exact hr.elim
     ·exact hr.elim
    ·exact hr.elim
   case cap =>
    split at hr
    ·rename_i ob off len sz cp
     obtain ⟨u,hu1⟩:=arr_one (us:=args.map ρ) (by have:=hc.l.len; simp at this; simp; omega)
     rw [e0,hu1] at hc
     simp only [resolve,hu1,Sem.run_bind,Sem.run_pure,Result.andThen_ok,invoke,builtin]
     split at hr
     ·rename_i e hb
      obtain ⟨t,h1,h2⟩:=Option.bind_eq_some_iff.1 hb
      simpa only [Sem.run_bind,Sem.run_pure] using ok_cap_mslc (ty:=o.type) hc h1 h2 hr
     ·exact hr.elim
    ·exact hr.elim
   case copy =>
    split at hr
    ·rename_i a b t t' hat
     have hat' : argTypes = #[t,t']:=by rw [<- Array.toArray_toList (xs:=argTypes),hat]
     subst hat'
     obtain ⟨u,v,huv⟩:=arr_two (us:=args.map ρ) (by have:=hc.l.len; simp at this; simp; omega)
     rw [e0,huv] at hc
     simp only [resolve,huv,Sem.run_bind,Sem.run_pure,Result.andThen_ok,invoke,builtin]
     simpa only [Sem.run_bind,Sem.run_pure] using ok_acopy (ty:=o.type) hc hr
    ·exact hr.elim
   case clear =>
    split at hr
    ·rename_i ob off len sz t hat
     split at hr
     ·rename_i e hu
      split at hr
      ·rename_i cs ho
       obtain ⟨z,h1,h2,h3,h4,h5⟩:=hr
       have hat' : argTypes = #[t]:=by rw [<- Array.toArray_toList (xs:=argTypes),hat]
       subst hat'
       obtain ⟨u,hu1⟩:=arr_one (us:=args.map ρ) (by have:=hc.l.len; simp at this; simp; omega)
       rw [e0,hu1] at hc
       simp only [resolve,hu1,Sem.run_bind,Sem.run_pure,Result.andThen_ok,invoke,builtin]
       simpa only [Sem.run_bind,Sem.run_pure] using ok_clear (ty:=o.type) hc ho hu h1 h2 h3 h4 h5
      ·exact hr.elim
     ·exact hr.elim
    ·exact hr.elim
   case len =>
    split at hr
    ·rename_i x
     obtain ⟨u,hu1⟩:=arr_one (us:=args.map ρ) (by have:=hc.l.len; simp at this; simp; omega)
     rw [e0,hu1] at hc
     simp only [resolve,hu1,Sem.run_bind,Sem.run_pure,Result.andThen_ok,invoke,builtin]
     split at hr
     ·rename_i e own es hb
      obtain ⟨t,h1,h2⟩:=Option.bind_eq_some_iff.1 hb
      simpa only [Sem.run_bind,Sem.run_pure] using ok_len_sl (ty:=o.type) hc h1 h2 hr
     ·rename_i e ob off len sz hb
      obtain ⟨t,h1,h2⟩:=Option.bind_eq_some_iff.1 hb
      simpa only [Sem.run_bind,Sem.run_pure] using ok_len_msl (ty:=o.type) hc h1 h2 hr
     ·rename_i e ob off len sz c hb
      obtain ⟨t,h1,h2⟩:=Option.bind_eq_some_iff.1 hb
      simpa only [Sem.run_bind,Sem.run_pure] using ok_len_mslc (ty:=o.type) hc h1 h2 hr
     ·rename_i s hb
      obtain ⟨t,h1,h2⟩:=Option.bind_eq_some_iff.1 hb
      simpa only [Sem.run_bind,Sem.run_pure] using ok_len_str (ty:=o.type) hc h1 h2 hr
     ·rename_i n e hb
      obtain ⟨t,h1,h2⟩:=Option.bind_eq_some_iff.1 hb
      simpa only [Sem.run_bind,Sem.run_pure] using ok_len_arr (ty:=o.type) hc h1 h2 hr
     ·exact hr.elim
    ·exact hr.elim
   case max =>
    split at hr
    ·obtain ⟨rfl,hr⟩:=hr
     obtain ⟨u,v,huv⟩:=arr_two (us:=args.map ρ) (by have:=hc.l.len; simp at this; simp; omega)
     rw [e0,huv] at hc
     simp only [resolve,huv,Sem.run_bind,Sem.run_pure,Result.andThen_ok,invoke,builtin]
     simpa only [Sem.run_bind,Sem.run_pure] using ok_max (P:=P) (ts:=argTypes) (ty:=o.type) hc hr
    ·exact hr.elim
   case min =>
    split at hr
    ·obtain ⟨rfl,hr⟩:=hr
     obtain ⟨u,v,huv⟩:=arr_two (us:=args.map ρ) (by have:=hc.l.len; simp at this; simp; omega)
     rw [e0,huv] at hc
     simp only [resolve,huv,Sem.run_bind,Sem.run_pure,Result.andThen_ok,invoke,builtin]
     simpa only [Sem.run_bind,Sem.run_pure] using ok_min (P:=P) (ts:=argTypes) (ty:=o.type) hc hr
    ·exact hr.elim
 ·exact hr.elim
end
end Go.AI
namespace Go.AI
def agd (ops : Array Oper) (env : Env) (o : Oper) : Option Bool :=
 match o.guard with
 | none => some true
 | some (j,want) => match (ops[j]?).bind (·.dst) with
  | some d => match look env d with
   | .bool b => some (b == want)
   | .tup _ => some false
   | _ => none
  | none => none
def dstOk (n : Nat) : Option Tmp -> Prop
 | some d => d < n
 | none => True
def put (d : Option Tmp) (v : AV) (env : Env) : Env :=
 match d with
 | some t => (t,v) :: env
 | none => env
def aop (P : Program) (n : Nat) (h : Hint) (ops : Array Oper) (o : Oper) (K : Env -> Heap -> Prop) (env : Env) (H : Heap) : Prop :=
 match agd ops env o with
 | some true => dstOk n o.dst /\ ares P h o (evs P (opTy o) (taking h o) o.op.operands.toList env).1 H fun v H' => K (put o.dst v (evs P (opTy o) (taking h o) o.op.operands.toList env).2) H'
 | some false => dstOk n o.dst /\ K (put o.dst (.tup []) env) H
 | none => False
def arun (P : Program) (n : Nat) (h : Hint) (ops : Array Oper) : List Oper -> (Env -> Heap -> Prop) -> Env -> Heap -> Prop
 | [],K => K
 | o :: rest,K => aop P n h ops o (arun P n h ops rest K)
abbrev fen (ro : Option Nat) : Fence:={ Fence.wide with round:=ro }
def isD (w : World) (b : Nat) : Prop:=w.heap[b]? = some (.deferred (some []))
def DOk (F : Nat -> Prop) (w : World) (ds : List Deferred) : Prop :=
 ∃ bs : List Nat,ds = bs.map (fun b => { target:=.collected b,args:=#[] }) /\ bs.Nodup /\ ∀ b ∈ bs,¬ F b /\ isD w b
theorem DOk.nil (F : Nat -> Prop) (w : World) : DOk F w []:=⟨[],rfl,List.nodup_nil,fun b hb => by cases hb⟩
theorem DOk.keep {F : Nat -> Prop} {w w' : World} {ds : List Deferred} (h : DOk F w ds) (hk : ∀ b,isD w b -> isD w' b) : DOk F w' ds:=by
 obtain ⟨bs,h1,h2,h3⟩:=h
 exact ⟨bs,h1,h2,fun b hb => ⟨(h3 b hb).1,hk b (h3 b hb).2⟩⟩
theorem ORel.not_isD {F : Nat -> Prop} {G : Gh} {w : World} {cs : List AV} {b : Nat} (h : ORel F G w cs b) : ¬ isD w b:=fun hd => by
 have hi:=h.is
 unfold isD at hd
 split at hi
 ·obtain ⟨C,E,h1,_⟩:=hi; rw [hd] at h1; cases h1
 ·obtain ⟨es,ms,cl,h1,_⟩:=hi; rw [hd] at h1; cases h1
 ·rcases hi with ⟨s,pos,h1,_⟩ | ⟨h1,_⟩ | ⟨_,_,_,_,h1,_⟩ <;> (rw [hd] at h1; cases h1)
 ·obtain ⟨s,p,t,D,st,vals,h1,_⟩:=hi; rw [hd] at h1; cases h1
 ·exact hi.elim
theorem CRel.addD {F : Nat -> Prop} {G : Gh} {vs : List AV} {H : Heap} {us : List Value} {w : World} (h : CRel F G vs H us w) : CRel (fun b => F b \/ isD w b) G vs H us w:=by
 have hto : ∀ {p : AV × Value},TokOk F G w p -> TokOk (fun b => F b \/ isD w b) G w p:=fun hp => hp.keep fun b hb => by
  obtain ⟨h1,_,C,E,h3⟩:=hp.of_tok hb
  refine ⟨?_,rfl,rfl⟩
  rintro (hF | hd)
  ·exact h1 hF
  ·unfold isD at hd; rw [h3] at hd; cases hd
 refine ⟨⟨h.l.len,h.l.rel,fun i a u h1 h2 p hp => hto (h.l.tok i a u h1 h2 p hp)⟩,⟨h.h.len,fun o cs b h1 h2 => ?_,h.h.inj,fun b hb => ?_,h.h.glob⟩,h.cnt⟩
 ·refine (h.h.obj o cs b h1 h2).change ?_ fun _ _ _ _ _ _ _ _ hp => hto hp
  rintro (hF | hd)
  ·exact (h.h.obj o cs b h1 h2).own hF
  ·exact (h.h.obj o cs b h1 h2).not_isD hd
 ·rcases hb with hF | hd
  ·exact h.h.fore b hF
  ·exact (Array.getElem?_eq_some_iff.1 hd).1
structure SRel (F : Nat -> Prop) (G : Gh) (n : Nat) (env : Env) (H : Heap) (a : Act) (w : World) : Prop where
 size : a.tmps.size = n
 defers : DOk F w a.defers
 out : ∀ t,n <= t -> look env t = .undef
 c : CRel F G (elist n env) H a.tmps.toList w
section
variable {P : Program} {F : Nat -> Prop} {G : Gh} {w : World} {H : Heap} {n : Nat} {env : Env} {a : Act} {h : Hint} {ops : Array Oper}
def After (F : Nat -> Prop) (G : Gh) (w : World) (n : Nat) (K : Env -> Heap -> Prop) (a' : Act) (w' : World) : Prop :=
 ∃ env' H' G',K env' H' /\ SRel F G' n env' H' a' w' /\ Ext F G w G' w'
theorem CRel.setSlot {v : AV} {L : List AV} {u : Value} {tm : List Value} (hc : CRel F G (v :: L) H (u :: tm) w) {d : Nat} (hd : d < tm.length) : CRel F G (L.set d v) H (tm.set d u) w:=by
 obtain ⟨hv,ht,hl⟩:=hc.l.uncons
 have hlen:=hl.len
 have old1 : L[d]? = some (L[d]'(by omega)):=List.getElem?_eq_getElem _
 have old2 : tm[d]? = some tm[d]:=List.getElem?_eq_getElem _
 refine ⟨⟨by simp [hlen],fun i x y h1 h2 => ?_,fun i x y h1 h2 => ?_⟩,hc.h,fun b => ?_⟩
 ·rw [List.getElem?_set] at h1 h2
  split at h1
  ·rename_i e
   subst e
   rw [if_pos rfl,if_pos hd] at h2
   rw [if_pos (by omega)] at h1
   cases h1; cases h2; exact hv
  ·rename_i e
   rw [if_neg e] at h2
   exact hl.rel i x y h1 h2
 ·rw [List.getElem?_set] at h1 h2
  split at h1
  ·rename_i e
   subst e
   rw [if_pos rfl,if_pos hd] at h2
   rw [if_pos (by omega)] at h1
   cases h1; cases h2; exact ht
  ·rename_i e
   rw [if_neg e] at h2
   exact hl.tok i x y h1 h2
 ·have h1:=tcnt_set b L tm d v _ u _ old1 old2
  have h2:=hc.cnt b
  rw [tcnt_cons] at h2
  omega
theorem CRel.tail {v : AV} {L : List AV} {u : Value} {tm : List Value} (hc : CRel F G (v :: L) H (u :: tm) w) : CRel F G L H tm w :=
 ⟨hc.l.uncons.2.2,hc.h,fun b => by have:=hc.cnt b; rw [tcnt_cons] at this; omega⟩
theorem srel_put {v : AV} {u : Value} (hs : a.tmps.size = n) (hd : DOk F w a.defers) (ho : ∀ t,n <= t -> look env t = .undef) (hc : CRel F G (v :: elist n env) H (u :: a.tmps.toList) w) (dst : Option Tmp) (hdst : dstOk n dst) :
  SRel F G n (put dst v env) H (a.put dst u) w:=by
 cases dst with
 | none => exact ⟨hs,hd,ho,hc.tail⟩
 | some d =>
  have hdn : d < n:=hdst
  refine ⟨by simp [Act.put,hs],hd,fun t ht => ?_, ?_⟩
  ·simp only [put,look]
   rw [if_neg (fun e => by subst e; exact absurd hdn (Nat.not_lt.2 ht))]
   exact ho t ht
  ·simp only [put,Act.put,Array.toList_setIfInBounds]
   rw [elist_put env v hdn]
   exact hc.setSlot (by simp [hs]; exact hdn)
theorem wanted_of {o : Oper} {b : Bool} (hs : SRel F G n env H a w) (hg : agd ops env o = some b) : Region.wanted o (yielded ops a.tmps) = b:=by
 unfold agd at hg
 unfold Region.wanted
 cases hgd : o.guard with
 | none => rw [hgd] at hg; simp only [Option.some.injEq] at hg; exact hg
 | some p =>
  obtain ⟨j,want⟩:=p
  rw [hgd] at hg
  simp only at hg ⊢
  cases hd : (ops[j]?).bind (·.dst) with
  | none => rw [hd] at hg; cases hg
  | some d =>
   rw [hd] at hg
   simp only at hg
   split at hg
   ·rename_i b' hl
    have hdn : d < n:=by
     by_cases hdn : d < n
     ·exact hdn
     ·rw [hs.out d (Nat.le_of_not_lt hdn)] at hl; cases hl
    obtain ⟨x,hx⟩ : ∃ x,a.tmps[d]? = some x:=⟨_,Array.getElem?_eq_getElem (by rw [hs.size]; exact hdn)⟩
    have hr:=hs.c.l.rel d (look env d) x (elist_get env hdn) (by rw [Array.getElem?_toList]; exact hx)
    rw [hl] at hr
    have hv : a.tmps[d]? = some (.bool b'):=by rw [hx]; cases hr; rfl
    simp only [Option.some.injEq] at hg
    unfold yielded
    rw [hd]
    simp only [Option.bind_some,hv]
    rw [<- hg]
    cases b' <;> cases want <;> rfl
   ·rename_i vs hl
    have hdn : d < n:=by
     by_cases hdn : d < n
     ·exact hdn
     ·rw [hs.out d (Nat.le_of_not_lt hdn)] at hl; cases hl
    obtain ⟨x,hx⟩ : ∃ x,a.tmps[d]? = some x:=⟨_,Array.getElem?_eq_getElem (by rw [hs.size]; exact hdn)⟩
    have hr:=hs.c.l.rel d (look env d) x (elist_get env hdn) (by rw [Array.getElem?_toList]; exact hx)
    rw [hl] at hr
    simp only [Option.some.injEq] at hg
    subst hg
    unfold yielded
    rw [hd]
    simp only [Option.bind_some,hx]
    cases hr
    rfl
   ·cases hg
theorem ares_no_defer {o : Oper} {vals : List AV} {R : AV -> Heap -> Prop} (ha : ares P h o vals H R) : ∀ c,o.op ≠ .defer c:=fun c hc => by
 unfold ares at ha
 rw [hc] at ha
 exact ha
theorem aop_step {ro : Option Nat} {nn : Nat} {o : Oper} {K : Env -> Heap -> Prop} (hs : SRel F G n env H a w) (ha : aop P n h ops o K env H) (Q : Exit -> Act -> World -> Prop) :
  if Region.wanted o (yielded ops a.tmps) then o.wpIn (fen ro) nn P a w (After F G w n K) Q else After F G w n K (a.put o.dst Go.undef) w:=by
 unfold aop at ha
 split at ha
 ·rename_i hg
  rw [wanted_of hs hg,if_pos rfl]
  obtain ⟨hdst,ha⟩:=ha
  obtain ⟨hev,hout⟩:=evs_ok (P:=P) (w:=w) (F:=F) (G:=G) (H:=H) (a:=a) (opTy o) (taking h o) hs.size o.op.operands.toList env [] [] hs.c rfl hs.out
  simp only [List.nil_append] at hev
  generalize evs P (opTy o) (taking h o) o.op.operands.toList env = r at *
  have hlen : r.1.length = (o.op.operands.toList.map a.eval).length:=by
   have:=hev.l.len
   simp only [List.length_append,elist_length,Array.length_toList,hs.size] at this
   omega
  obtain ⟨_,hB⟩:=hev.l.split hlen
  have hA:=(hev.split hlen).addD
  have hcb : ∀ b,tcnt b (elist n r.2) a.tmps.toList <= 1:=fun b => by
   have:=hev.cnt b
   rw [tcnt_append _ _ _ _ _ hlen] at this
   omega
  have hres:=ares_ok h o a.eval (fun _ => rfl) r.1 hA ha
  have back : ∀ u w',KOut (fun b => (F b \/ 0 < tcnt b (elist n r.2) a.tmps.toList) \/ isD w b) G w (fun v H' => K (put o.dst v r.2) H') u w' -> After F G w n K (a.put o.dst u) w':=by
   rintro u w' ⟨v,H',G',hK,hc,he⟩
   have hj:=CRel.join (F:=F) hB hcb (fun b hb => Or.inl (Or.inl hb)) (fun b hb => Or.inl (Or.inr hb)) he hc
   have hdk : DOk F w' a.defers:=hs.defers.keep fun b hb => (he.cells b (Or.inr hb)).trans hb
   exact ⟨_,H',G',hK,srel_put hs.size hdk hout hj o.dst hdst,he.mono fun b hb => Or.inl (Or.inl hb)⟩
  refine ⟨fun _ _ => trivial, ?_⟩
  rw [Oper.semAt_eq _ _ _ (ares_no_defer ha)]
  generalize (execOp a.eval o).run P w = res at hres
  cases res with
  | ok nx w' =>
   cases nx <;> simp only [OpRes] at hres
   case value u => exact back u w' hres
   case skip => exact back _ w' hres
   case enter f args =>
    show _ /\ CallsIn (fen ro) (nn - 1) P f args w' _
    refine ⟨fun hx => Bool.noConfusion hx, ?_⟩
    refine CallsIn.mono (show CallsIn (fen ro) (nn - 1) P f args w' _ from (callsIn_wide (n:=nn - 1)).2 hres) fun e w'' he => ?_
    obtain ⟨u,rfl,hk⟩:=he
    exact back u w'' hk
   case round l f tmps assign body =>
    show _ /\ RoundIn (fen ro) (nn - 1) P l f tmps assign body w' _
    refine ⟨fun hx => Bool.noConfusion hx, ?_⟩
    refine RoundIn.mono (show RoundIn (fen ro) (nn - 1) P l f tmps assign body w' _ from ⟨trivial,fun c cs _ => hres.2 c cs (room_wide _)⟩) fun e w'' he => ?_
    obtain ⟨u,rfl,hk⟩:=he
    exact back u w'' hk
  | halt x w' => exact hres.elim
 ·rename_i hg
  rw [wanted_of hs hg]
  obtain ⟨hdst,ha⟩:=ha
  refine ⟨_,H,G,ha,srel_put hs.size hs.defers hs.out ?_ o.dst hdst,.refl F G w⟩
  have htk : toks (.tup []) Go.undef = []:=rfl
  refine ⟨.cons (.tup [] #[] rfl (fun c hc => by simp at hc) (fun i c v hc => by simp at hc)) (tok_nil_all htk F G w) hs.c.l,hs.c.h,fun b => ?_⟩
  rw [tcnt_cons,htk]
  simpa using hs.c.cnt b
 ·exact ha.elim
theorem arun_list {ro : Option Nat} {nn : Nat} (Q : Exit -> Act -> World -> Prop) : ∀ (l : List Oper) (K : Env -> Heap -> Prop) (G : Gh) (env : Env) (H : Heap) (a : Act) (w : World),SRel F G n env H a w -> arun P n h ops l K env H ->
  (∀ a' w',After F G w n K a' w' -> Q .normal a' w') -> wpListIn (fen ro) nn P ops Q l a w
 | [],K,G,env,H,a,w,hs,ha,hQ => hQ a w ⟨env,H,G,ha,hs,.refl F G w⟩
 | o :: l,K,G,env,H,a,w,hs,ha,hQ => by
  have hst:=aop_step (ro:=ro) (nn:=nn) (K:=arun P n h ops l K) hs ha Q
  have next : ∀ a' w',After F G w n (arun P n h ops l K) a' w' -> wpListIn (fen ro) nn P ops Q l a' w':=by
   rintro a' w' ⟨env',H',G',hK,hs',he⟩
   refine arun_list Q l K G' env' H' a' w' hs' hK fun a'' w'' => ?_
   rintro ⟨env2,H2,G2,hK2,hs2,he2⟩
   exact hQ a'' w'' ⟨env2,H2,G2,hK2,hs2,he.trans he2⟩
  unfold wpListIn
  split
  ·rename_i hw
   rw [if_pos hw] at hst
   exact Oper.wpIn_mono next hst
  ·rename_i hw
   rw [if_neg hw] at hst
   exact ⟨fun _ _ => trivial,next _ _ hst⟩
theorem arun_region {ro : Option Nat} {nn : Nat} {id : Nat} (K : Env -> Heap -> Prop) (Q : Exit -> Act -> World -> Prop) (hs : SRel F G n env H a w) (ha : arun P n h ops ops.toList K env H) (hQ : ∀ a' w',After F G w n K a' w' -> Q .normal a' w') :
  (Code.region id ops false).wpIn (fen ro) nn P Q a w :=
 wpIn_region_list (arun_list Q ops.toList K G env H a w hs ha hQ)
end
end Go.AI
namespace Go.AI
def cls (h : Hint) (o : Oper) : Nat :=
 match o.op with
 | .box _ _ | .alloc _ | .makeSlice _ _ _ | .makeMap _ _ => 5
 | .store _ _ _ | .lookup _ _ _ _ | .mapUpdate _ _ _ _ => 3
 | .buildSlice _ _ _ => if o.dst.any h.mt.contains then 5 else 0
 | .slice _ _ _ _ _ => if o.dst.any h.mt.contains then 1 else 0
 | .load _ _ => if o.dst.any h.tk.contains then 2 else 1
 | .binOp _ _ _ y _ => if nilSide y then 4 else 0
 | .range _ _ | .next _ _ | .entry _ => 4
 | .call c => match c.callee with
  | .value _ => if o.dst.any h.pc.contains then (if o.dst.any h.mt.contains then 1 else 0) else if o.dst.any h.mt.contains then 5 else 4
  | .builtin .append => if o.dst.any h.mt.contains || o.dst.any h.tk.contains then 3 else 0
  | .builtin .clear => 3
  | .builtin .copy => 3
  | _ => 0
 | _ => 0
def isLd (h : Hint) (o : Oper) : Bool:=match o.op with
 | .load _ _ => !o.dst.any h.tk.contains
 | _ => false
theorem isLd_cls {h : Hint} {o : Oper} (hl : isLd h o = true) : cls h o = 1:=by
 unfold isLd at hl
 unfold cls
 split at hl
 ·rename_i heq
  rw [heq]
  simp only [Bool.not_eq_true'] at hl
  simp [hl]
 ·cases hl
section
variable {P : Program} {h : Hint} {o : Oper} {vals : List AV} {H : Heap} {R : AV -> Heap -> Prop}
structure Fact (P : Program) (h : Hint) (o : Oper) (vals : List AV) (H : Heap) (v : AV) (H' : Heap) : Prop where
 again : ∀ R',R' v H' -> ares P h o vals H R'
 c0 : cls h o = 0 -> H' = H /\ ∀ H2 R',R' v H2 -> ares P h o vals H2 R'
 c1 : cls h o = 1 -> H' = H /\ ∀ H2 R',hview H2 = hview H -> R' v H2 -> ares P h o vals H2 R'
 c2 : cls h o = 2 -> hview H' = hview H /\ ((H' = H /\ ∀ H2 R',R' v H2 -> ares P h o vals H2 R') \/
  ∃ (ob off : Nat) (cs : List AV),H[ob]? = some (some cs) /\ cs[off]? = some v /\ owned1 v = true /\ H' = H.set ob (some (cs.set off (borrow1 v))) /\
   ∀ (H2 : Heap) (cs2 : List AV) (R' : AV -> Heap -> Prop),H2[ob]? = some (some cs2) -> cs2[off]? = some v -> R' v (H2.set ob (some (cs2.set off (borrow1 v)))) -> ares P h o vals H2 R')
 ld : isLd h o = true -> ∀ H2 R',(∃ ext,hview H2 = hview H ++ ext) -> R' v H2 -> ares P h o vals H2 R'
 c5 : cls h o = 5 -> ∃ ext,H' = H ++ ext
theorem Fact.pure {v : AV} (hc : cls h o = 0) (ha : ∀ (H2 : Heap) (R' : AV -> Heap -> Prop),R' v H2 -> ares P h o vals H2 R') : Fact P h o vals H v H :=
 ⟨fun R' hr => ha H R' hr,fun _ => ⟨rfl,ha⟩,fun e => by omega,fun e => by omega,fun hl => by have:=isLd_cls hl; omega,fun e => by omega⟩
theorem Fact.any {v : AV} {H' : Heap} (hc : cls h o = 3) (ha : ∀ (R' : AV -> Heap -> Prop),R' v H' -> ares P h o vals H R') : Fact P h o vals H v H' :=
 ⟨ha,fun e => by omega,fun e => by omega,fun e => by omega,fun hl => by have:=isLd_cls hl; omega,fun e => by omega⟩
theorem Fact.ext {v : AV} {ext : Heap} (hc : cls h o = 5) (ha : ∀ (R' : AV -> Heap -> Prop),R' v (H ++ ext) -> ares P h o vals H R') : Fact P h o vals H v (H ++ ext) :=
 ⟨ha,fun e => by omega,fun e => by omega,fun e => by omega,fun hl => by have:=isLd_cls hl; omega,fun _ => ⟨ext,rfl⟩⟩
theorem borrow1_idem (a : AV) : borrow1 (borrow1 a) = borrow1 a:=by cases a <;> rfl
theorem hview_get {H H2 : Heap} (e : hview H2 = hview H) {ob : Nat} {cs : List AV} (ho : H[ob]? = some (some cs)) : ∃ cs2,H2[ob]? = some (some cs2) /\ cs2.map borrow1 = cs.map borrow1:=by
 have h1 : (hview H)[ob]? = some (some (cs.map borrow1)):=by simp [hview,ho]
 rw [<- e] at h1
 simp only [hview,List.getElem?_map,Option.map_eq_some_iff] at h1
 obtain ⟨x,hx,hx2⟩:=h1
 cases x with
 | none => simp at hx2
 | some cs2 =>
  exact ⟨cs2,hx,by simpa using hx2⟩
theorem hview_sub {H H2 : Heap} (e : ∃ ext,hview H2 = hview H ++ ext) {ob : Nat} {cs : List AV} (ho : H[ob]? = some (some cs)) : ∃ cs2,H2[ob]? = some (some cs2) /\ cs2.map borrow1 = cs.map borrow1:=by
 obtain ⟨ext,e⟩:=e
 have h1 : (hview H)[ob]? = some (some (cs.map borrow1)):=by simp [hview,ho]
 have h2 : (hview H2)[ob]? = some (some (cs.map borrow1)):=by
  rw [e,List.getElem?_append_left (List.getElem?_eq_some_iff.1 h1).1]; exact h1
 simp only [hview,List.getElem?_map,Option.map_eq_some_iff] at h2
 obtain ⟨x,hx,hx2⟩:=h2
 cases x with
 | none => simp at hx2
 | some cs2 => exact ⟨cs2,hx,by simpa using hx2⟩
theorem borrow_borrow1 (a : AV) : (borrow1 a).borrow = a.borrow:=by cases a <;> rfl
theorem ldv_view {t : TypeId} {cs cs2 : List AV} {off : Nat} {v : AV} (e : cs2.map borrow1 = cs.map borrow1) (hl : ldv P t cs off = some v) : ∃ v2,ldv P t cs2 off = some v2 /\ v2.borrow = v.borrow:=by
 have hlen : cs2.length = cs.length:=by have:=congrArg List.length e; simpa using this
 have agg : (AV.agg ((cs2.drop off).take (P.cellsOf t))).borrow = (AV.agg ((cs.drop off).take (P.cellsOf t))).borrow:=by
  simp only [AV.borrow,borrow0,List.map_take,List.map_drop,e]
 unfold ldv at hl ⊢
 split at hl
 ·split at hl
  ·cases hl
   exact ⟨_,by rw [if_pos (by omega)],agg⟩
  ·cases hl
 ·split at hl
  ·cases hl
   exact ⟨_,by rw [if_pos (by omega)],agg⟩
  ·cases hl
 ·have hlt:=(List.getElem?_eq_some_iff.1 hl).1
  have h2 : cs2[off]? = some (cs2[off]'(by omega)):=List.getElem?_eq_getElem _
  refine ⟨_,h2, ?_⟩
  have h3 : (cs2.map borrow1)[off]? = (cs.map borrow1)[off]?:=by rw [e]
  simp only [List.getElem?_map,h2,hl,Option.map_some,Option.some.injEq] at h3
  rw [<- borrow_borrow1,h3,borrow_borrow1]
 ·cases hl
theorem hview_set {H : Heap} {ob : Nat} {cs cs' : List AV} (ho : H[ob]? = some (some cs)) (e : cs'.map borrow1 = cs.map borrow1) : hview (H.set ob (some cs')) = hview H:=by
 unfold hview
 apply List.ext_getElem?
 intro i
 simp only [List.getElem?_map,List.getElem?_set]
 split
 ·rename_i hi
  subst hi
  rw [if_pos (List.getElem?_eq_some_iff.1 ho).1,ho]
  simp [e]
 ·rfl
theorem ldv_cells {t : TypeId} {cs : List AV} {off : Nat} {v : AV} (hl : ldv P t cs off = some v) (hag : v.scalar = true \/ aggTy P t = true) : (splice cs off (v.cells.map borrow1)).map borrow1 = cs.map borrow1:=by
 have gen : ∀ k,off + k <= cs.length -> (splice cs off (((cs.drop off).take k).map borrow1)).map borrow1 = cs.map borrow1:=by
  intro k hk
  have hlen : (((cs.drop off).take k).map borrow1).length = k:=by simp; omega
  unfold splice
  rw [hlen]
  simp only [List.map_append,List.map_map]
  have e1 : (borrow1 ∘ borrow1) = borrow1:=funext borrow1_idem
  rw [e1,<- List.map_append,<- List.map_append,List.append_assoc,<- List.drop_drop,List.take_append_drop,List.take_append_drop]
 unfold ldv at hl
 split at hl
 ·split at hl
  ·cases hl; exact gen _ ‹_›
  ·cases hl
 ·split at hl
  ·cases hl; exact gen _ ‹_›
  ·cases hl
 ·rename_i d hns hna hu
  have hlt:=(List.getElem?_eq_some_iff.1 hl).1
  have hsc : v.scalar = true:=by
   rcases hag with h1 | h1
   ·exact h1
   ·unfold aggTy at h1
    rw [hu] at h1
    cases d <;> first | exact (hns _ rfl).elim | exact (hna _ _ rfl).elim | cases h1
  have hcells : v.cells = [v]:=by cases v <;> first | rfl | cases hsc
  have:=gen 1 hlt
  rw [List.drop_eq_getElem_cons hlt] at this
  have e : cs[off] = v:=by rw [List.getElem?_eq_getElem hlt] at hl; exact Option.some.inj hl
  rw [hcells]
  simpa [e] using this
 ·cases hl
theorem abin_one {op : BinOp} {a b : AV} {R : AV -> Prop} (hr : abin op a b R) : ∃ v,R v /\ ∀ R' : AV -> Prop,R' v -> abin op a b R':=by
 unfold abin at hr ⊢
 split at hr
 ·cases op <;> first | exact ⟨_,hr.2,fun R' h' => ⟨hr.1,h'⟩⟩ | exact ⟨_,hr.2.2,fun R' h' => ⟨hr.1,hr.2.1,h'⟩⟩
 ·cases op <;> first | exact ⟨_,hr.2,fun R' h' => ⟨hr.1,h'⟩⟩ | exact ⟨_,hr,fun R' h' => h'⟩ | exact hr.elim
 ·exact hr.elim
theorem abinop_one {op : BinOp} {t : TypeId} {a b : AV} {R : AV -> Prop} (hr : abinop P op t a b R) : ∃ v,R v /\ ∀ R' : AV -> Prop,R' v -> abinop P op t a b R':=by
 unfold abinop at hr ⊢
 split at hr
 ·exact ⟨_,hr,fun R' h' => h'⟩
 ·exact ⟨_,hr,fun R' h' => h'⟩
 ·obtain ⟨v,h1,h2⟩:=abin_one hr
  exact ⟨v,h1,h2⟩
theorem XCall.view {f : FuncId} {vs : List AV} {H H2 : Heap} {v : AV} (hv : hview H2 = hview H) (h : XCall P f vs H v) : XCall P f vs H2 v:=by
 have get : ∀ o : Nat,(∃ cs : List AV,H[o]? = some (some cs)) -> ∃ cs : List AV,H2[o]? = some (some cs):=fun o ho => by
  obtain ⟨cs,ho⟩:=ho
  obtain ⟨cs2,g1,_⟩:=hview_get hv ho
  exact ⟨cs2,g1⟩
 unfold XCall at h ⊢
 split at h
 ·exact ⟨h.1,h.2.1,get _ h.2.2.1,get _ h.2.2.2.1,h.2.2.2.2⟩
 ·exact h.elim
theorem aslice_one {t : TypeId} {x : AV} {lo hi mx : Option Int} {R : AV -> Prop} (hr : aslice P t x lo hi mx R) : ∃ v,R v /\ ∀ R' : AV -> Prop,R' v -> aslice P t x lo hi mx R':=by
 unfold aslice at hr ⊢
 split at hr
 ·obtain ⟨h1,h2,h3,h4,h5⟩:=hr
  exact ⟨_,h5,fun R' h' => ⟨h1,h2,h3,h4,h'⟩⟩
 ·obtain ⟨h1,h2,h3,h4,h5,h6⟩:=hr
  split at h6
  ·exact ⟨_,h6,fun R' h' => ⟨h1,h2,h3,h4,h5,h'⟩⟩
  ·exact ⟨_,h6.2.2,fun R' h' => ⟨h1,h2,h3,h4,h5,h6.1,h6.2.1,h'⟩⟩
 ·exact ⟨_,hr.2,fun R' h' => ⟨hr.1,h'⟩⟩
 ·exact ⟨_,hr.2,fun R' h' => ⟨hr.1,h'⟩⟩
 ·obtain ⟨h1,h2,h3,h4⟩:=hr
  split at h4
  ·obtain ⟨g1,g2,g3,g4⟩:=h4
   exact ⟨_,g4,fun R' h' => ⟨h1,h2,h3,g1,g2,g3,h'⟩⟩
  ·exact h4.elim
 ·obtain ⟨h1,g1,g2,g3,g4⟩:=hr
  exact ⟨_,g4,fun R' h' => ⟨h1,g1,g2,g3,h'⟩⟩
 ·exact hr.elim
theorem acopy_one {t : TypeId} {a b : AV} (hr : acopy P t a b H R) : ∃ v H',R v H' /\ ∀ R' : AV -> Heap -> Prop,R' v H' -> acopy P t a b H R':=by
 unfold acopy at hr ⊢
 split at hr
 ·split at hr
  ·obtain ⟨h1,h2⟩:=hr
   split at h2
   ·exact ⟨_,_,h2,fun R' h' => ⟨h1,h'⟩⟩
   ·exact h2.elim
  ·exact hr.elim
 ·exact hr.elim
theorem apz_one {t t' : TypeId} {mt : Bool} {a b : AV} (hr : apz P t t' mt a b H R) : mt = true /\ ∃ v H',R v H' /\ ∀ R' : AV -> Heap -> Prop,R' v H' -> apz P t t' mt a b H R':=by
 unfold apz at hr ⊢
 split at hr
 ·split at hr
  ·obtain ⟨z,h1,h2,h3⟩:=hr
   exact ⟨rfl,_,_,h3,fun R' h' => ⟨z,h1,h2,h'⟩⟩
  ·exact hr.elim
 ·exact hr.elim
theorem apslice_one {t : TypeId} {x : AV} {lo hi mx : Option Int} {R : AV -> Prop} (hr : apslice P t x lo hi mx H R) : ∃ v,R v /\ ∀ (H2 : Heap) (R' : AV -> Prop),hview H2 = hview H -> R' v -> apslice P t x lo hi mx H2 R':=by
 unfold apslice at hr
 split at hr
 ·rename_i hu
  obtain ⟨h1,h2,h3,h4⟩:=hr
  split at h4
  ·rename_i cs ho
   refine ⟨_,h4.2,fun H2 R' hv h' => ?_⟩
   obtain ⟨cs2,g1,g2⟩:=hview_get hv ho
   have hl : cs2.length = cs.length:=by have:=congrArg List.length g2; simpa using this
   unfold apslice
   simp only [hu,g1,hl]
   exact ⟨h1,h2,h3,h4.1,h'⟩
  ·exact h4.elim
 ·rename_i hu
  obtain ⟨h1,h2,h3⟩:=hr
  refine ⟨_,h3,fun H2 R' _ h' => ?_⟩
  unfold apslice
  simp only [hu]
  exact ⟨h1,h2,h'⟩
 ·exact hr.elim
set_option maxHeartbeats 1000000 in
theorem ares_fact (hc4 : cls h o ≠ 4) (hr : ares P h o vals H R) : ∃ v H',R v H' /\ Fact P h o vals H v H':=by
 unfold ares at hr
 split at hr <;> rename_i heq
 ·exact ⟨_,_,hr,.pure (by simp [cls,heq]) fun H2 R' h' => by simp only [ares,heq]; exact h'⟩
 ·exact ⟨_,_,hr,.pure (by simp [cls,heq]) fun H2 R' h' => by simp only [ares,heq]; exact h'⟩
 ·exact ⟨_,_,hr,.pure (by simp [cls,heq]) fun H2 R' h' => by simp only [ares,heq]; exact h'⟩
 ·exact ⟨_,_,hr.2,.ext (by simp [cls,heq]) fun R' h' => by simp only [ares,heq]; exact ⟨hr.1,h'⟩⟩
 ·split at hr
  ·rename_i hm
   exact ⟨_,_,hr.2,.ext (by simp [cls,heq]) fun R' h' => by simp only [ares,heq,hm]; exact ⟨hr.1,h'⟩⟩
  ·rename_i hm
   obtain ⟨z,hz,hr⟩:=hr
   exact ⟨_,_,hr,.ext (by simp [cls,heq]) fun R' h' => by simp only [ares,heq,hm]; exact ⟨z,hz,h'⟩⟩
 ·split at hr
  ·rename_i hu
   obtain ⟨z,cs,h1,h2,h3,h4⟩:=hr
   exact ⟨_,_,h4,.pure (by simp [cls,heq]) fun H2 R' h' => by simp only [ares,heq,hu]; exact ⟨z,cs,h1,h2,h3,h'⟩⟩
  ·rename_i hu
   obtain ⟨z,cs,h1,h2,h3,h4⟩:=hr
   exact ⟨_,_,h4,.pure (by simp [cls,heq]) fun H2 R' h' => by simp only [ares,heq,hu]; exact ⟨z,cs,h1,h2,h3,h'⟩⟩
  ·exact hr.elim
 ·split at hr
  ·rename_i hu
   obtain ⟨h1,h2,h3,h4,h5,h6⟩:=hr
   split at h6
   ·rename_i hp
    exact ⟨_,_,h6,.ext (by simp [cls,heq,hp]) fun R' h' => by simp only [ares,heq,hu,hp]; exact ⟨h1,h2,h3,h4,h5,h'⟩⟩
   ·rename_i hp
    exact ⟨_,_,h6,.pure (by simp [cls,heq,hp]) fun H2 R' h' => by simp only [ares,heq,hu,hp]; exact ⟨h1,h2,h3,h4,h5,h'⟩⟩
  ·exact hr.elim
 ·split at hr
  ·rename_i hu
   obtain ⟨h1,h2,h3,h4,h5,z,h6,h7,h8,h9⟩:=hr
   exact ⟨_,_,h9,.ext (by simp [cls,heq]) fun R' h' => by simp only [ares,heq,hu]; exact ⟨h1,h2,h3,h4,h5,z,h6,h7,h8,h'⟩⟩
  ·exact hr.elim
 ·-- load from an object
  rename_i t _ ob off
  split at hr
  ·rename_i cs ho
   split at hr
   ·rename_i v hl
    split at hr
    ·rename_i ht
     obtain ⟨hown,hsc,hr⟩:=hr
     have hc1 : cls h o = 2:=by simp [cls,heq,ht]
     have hcells : v.cells = [v]:=by cases v <;> first | rfl | cases hsc
     have hat : cs[off]? = some v:=by
      have h1:=hl
      unfold ldv at h1
      split at h1
      ·split at h1
       ·cases h1; cases hsc
       ·cases h1
      ·split at h1
       ·cases h1; cases hsc
       ·cases h1
      ·exact h1
      ·cases h1
     have hone : ∀ cs2 : List AV,off < cs2.length -> splice cs2 off (v.cells.map borrow1) = cs2.set off (borrow1 v):=by
      intro cs2 hlt
      rw [hcells]
      simp only [List.map_cons,List.map_nil,splice,List.length_cons,List.length_nil,Nat.zero_add]
      rw [List.set_eq_take_append_cons_drop,if_pos hlt]
      simp
     have hldv : ∀ cs2 : List AV,cs2[off]? = some v -> ldv P t cs2 off = some v:=by
      intro cs2 h2
      unfold ldv at hl ⊢
      split at hl
      ·split at hl
       ·cases hl; cases hsc
       ·cases hl
      ·split at hl
       ·cases hl; cases hsc
       ·cases hl
      ·exact h2
      ·cases hl
     have hown1 : owned1 v = true:=by
      cases v <;> first | cases hsc | skip
      all_goals first | (simpa [AV.owned,AV.flat,AV.cells] using hown) | rfl
     refine ⟨_,_,hr,fun R' h' => by simp only [ares,heq,ho,hl,ht]; exact ⟨hown,hsc,h'⟩,fun e => by omega,fun e => by omega,fun _ => ⟨hview_set ho (ldv_cells hl (.inl hsc)),.inr ⟨ob,off,cs,ho,hat,hown1, ?_,fun H2 cs2 R' h1 h2 h' => ?_⟩⟩,fun hl => by have:=isLd_cls hl; omega,fun e => by omega⟩
     ·rw [hone cs (List.getElem?_eq_some_iff.1 hat).1]
     ·simp only [ares,heq,h1,hldv cs2 h2,ht]
      refine ⟨hown,hsc, ?_⟩
      rw [hone cs2 (List.getElem?_eq_some_iff.1 h2).1]; exact h'
    ·rename_i ht
     have hc1 : cls h o = 1:=by simp [cls,heq,ht]
     refine ⟨_,_,hr,fun R' h' => ?_,fun e => by omega,fun e => ⟨rfl,fun H2 R' hv h' => ?_⟩,fun e => by omega,fun _ H2 R' hv h' => ?_,fun e => by omega⟩
     ·simp only [ares,heq,ho,hl,ht]
      exact h'
     ·obtain ⟨cs2,ho2,e2⟩:=hview_get hv ho
      obtain ⟨v2,hl2,hb⟩:=ldv_view (P:=P) e2 hl
      simp only [ares,heq,ho2,hl2,ht]
      rw [hb]
      exact h'
     ·obtain ⟨cs2,ho2,e2⟩:=hview_sub hv ho
      obtain ⟨v2,hl2,hb⟩:=ldv_view (P:=P) e2 hl
      simp only [ares,heq,ho2,hl2,ht]
      rw [hb]
      exact h'
   ·exact hr.elim
  ·exact hr.elim
 ·split at hr
  ·rename_i v hl
   refine ⟨_,_,hr,fun R' h' => by simp only [ares,heq,hl]; exact h',fun e => ?_,fun e => ⟨rfl,fun H2 R' _ h' => by simp only [ares,heq,hl]; exact h'⟩,fun _ => ⟨rfl,.inl ⟨rfl,fun H2 R' h' => by simp only [ares,heq,hl]; exact h'⟩⟩,fun _ H2 R' _ h' => by simp only [ares,heq,hl]; exact h',fun e => by simp only [cls,heq] at e; split at e <;> omega⟩
   simp only [cls,heq] at e
   split at e <;> omega
  ·exact hr.elim
 ·split at hr
  ·rename_i cs ho
   obtain ⟨h1,h2,h3,h4,h5⟩:=hr
   exact ⟨_,_,h5,.any (by simp [cls,heq]) fun R' h' => by simp only [ares,heq,ho]; exact ⟨h1,h2,h3,h4,h'⟩⟩
  ·exact hr.elim
 ·exact ⟨_,_,hr,.pure (by simp [cls,heq]) fun H2 R' h' => by simp only [ares,heq]; exact h'⟩
 ·exact ⟨_,_,hr,.pure (by simp [cls,heq]) fun H2 R' h' => by simp only [ares,heq]; exact h'⟩
 ·exact ⟨_,_,hr,.pure (by simp [cls,heq]) fun H2 R' h' => by simp only [ares,heq]; exact h'⟩
 ·exact ⟨_,_,hr,.pure (by simp [cls,heq]) fun H2 R' h' => by simp only [ares,heq]; exact h'⟩
 ·split at hr
  ·rename_i hy
   exact absurd (by simp [cls,heq,hy]) hc4
  ·rename_i hy
   obtain ⟨v,h1,h2⟩:=abinop_one hr
   exact ⟨_,_,h1,.pure (by simp [cls,heq,hy]) fun H2 R' h' => by simp only [ares,heq,hy]; exact h2 _ h'⟩
 ·split at hr
  ·exact ⟨_,_,hr,.pure (by simp [cls,heq]) fun H2 R' h' => by simp only [ares,heq]; exact h'⟩
  ·exact ⟨_,_,hr,.pure (by simp [cls,heq]) fun H2 R' h' => by simp only [ares,heq]; exact h'⟩
  ·exact hr.elim
 ·split at hr
  ·rename_i h1 h2
   exact ⟨_,_,hr,.pure (by simp [cls,heq]) fun H2 R' h' => by simp only [ares,heq,h1,h2]; exact h'⟩
  ·rename_i h1 h2
   exact ⟨_,_,hr,.pure (by simp [cls,heq]) fun H2 R' h' => by simp only [ares,heq,h1,h2]; exact h'⟩
  ·rename_i h1 h2
   exact ⟨_,_,hr.2.2,.pure (by simp [cls,heq]) fun H2 R' h' => by simp only [ares,heq,h1,h2]; exact ⟨hr.1,hr.2.1,h'⟩⟩
  ·exact hr.elim
 ·exact ⟨_,_,hr,.pure (by simp [cls,heq]) fun H2 R' h' => by simp only [ares,heq]; exact h'⟩
 ·split at hr
  ·rename_i hb
   split at hr
   ·rename_i hm
    have hc1 : cls h o = 1:=by simp [cls,heq,hm]
    obtain ⟨v,h1,h2⟩:=apslice_one hr
    exact ⟨_,_,h1,⟨fun R' h' => by simp only [ares,heq,hb,hm]; exact h2 H _ rfl h',fun e => by omega,fun _ => ⟨rfl,fun H2 R' hv h' => by simp only [ares,heq,hb,hm]; exact h2 H2 _ hv h'⟩,fun e => by omega,fun hl => by simp [isLd,heq] at hl,fun e => by omega⟩⟩
   ·rename_i hm
    obtain ⟨v,h1,h2⟩:=aslice_one hr
    exact ⟨_,_,h1,.pure (by simp [cls,heq,hm]) fun H2 R' h' => by simp only [ares,heq,hb,hm]; exact h2 _ h'⟩
  ·exact hr.elim
 ·split at hr
  ·rename_i hu
   split at hr
   ·rename_i hf
    obtain ⟨h0,hr⟩:=hr
    split at hr
    ·exact ⟨_,_,hr,.pure (by simp [cls,heq]) fun H2 R' h' => by simp only [ares,heq,hu,hf]; exact ⟨h0,h'⟩⟩
    ·exact ⟨_,_,hr,.pure (by simp [cls,heq]) fun H2 R' h' => by simp only [ares,heq,hu,hf]; exact ⟨h0,h'⟩⟩
    ·exact hr.elim
   ·exact hr.elim
  ·exact hr.elim
 ·split at hr
  ·rename_i hu
   split at hr
   ·rename_i hf
    split at hr
    ·rename_i hl
     exact ⟨_,_,hr,.pure (by simp [cls,heq]) fun H2 R' h' => by simp only [ares,heq,hu,hf,hl]; exact h'⟩
    ·exact hr.elim
   ·exact hr.elim
  ·exact hr.elim
 ·obtain ⟨v,hv,hr⟩:=hr
  exact ⟨_,_,hr,.pure (by simp [cls,heq]) fun H2 R' h' => by simp only [ares,heq]; exact ⟨v,hv,h'⟩⟩
 ·split at hr
  ·rename_i hu
   obtain ⟨h0,v,h1,h2,h3,h4⟩:=hr
   exact ⟨_,_,h4,.pure (by simp [cls,heq]) fun H2 R' h' => by simp only [ares,heq,hu]; exact ⟨h0,v,h1,h2,h3,h'⟩⟩
  ·rename_i hu
   obtain ⟨h0,h1,h2,h3,h4⟩:=hr
   exact ⟨_,_,h4,.pure (by simp [cls,heq]) fun H2 R' h' => by simp only [ares,heq,hu]; exact ⟨h0,h1,h2,h3,h'⟩⟩
  ·rename_i hu
   obtain ⟨h0,h1,h2,h4⟩:=hr
   exact ⟨_,_,h4,.pure (by simp [cls,heq]) fun H2 R' h' => by simp only [ares,heq,hu]; exact ⟨h0,h1,h2,h'⟩⟩
  ·rename_i hu
   obtain ⟨h0,h1,h2,h4⟩:=hr
   exact ⟨_,_,h4,.pure (by simp [cls,heq]) fun H2 R' h' => by simp only [ares,heq,hu]; exact ⟨h0,h1,h2,h'⟩⟩
  ·exact hr.elim
 ·split at hr
  ·rename_i hu
   obtain ⟨h0,h1,h4⟩:=hr
   exact ⟨_,_,h4,.pure (by simp [cls,heq]) fun H2 R' h' => by simp only [ares,heq,hu]; exact ⟨h0,h1,h'⟩⟩
  ·rename_i hu
   obtain ⟨h0,h1,h2,v,h3,h4⟩:=hr
   exact ⟨_,_,h4,.pure (by simp [cls,heq]) fun H2 R' h' => by simp only [ares,heq,hu]; exact ⟨h0,h1,h2,v,h3,h'⟩⟩
  ·exact hr.elim
 ·exact ⟨_,_,hr,.ext (by simp [cls,heq]) fun R' h' => by simp only [ares,heq]; exact h'⟩
 ·exact ⟨_,_,hr.2,.ext (by simp [cls,heq]) fun R' h' => by simp only [ares,heq]; exact ⟨hr.1,h'⟩⟩
 ·split at hr
  ·rename_i hu
   split at hr
   ·rename_i es he
    obtain ⟨g1,g2,z,g3,g4⟩:=hr
    exact ⟨_,_,g4,.any (by simp [cls,heq]) fun R' h' => by simp only [ares,heq,hu,he]; exact ⟨g1,g2,z,g3,h'⟩⟩
   ·exact hr.elim
  ·exact hr.elim
 ·split at hr
  ·rename_i hu
   split at hr
   ·rename_i es he
    obtain ⟨g1,g2,g3,g4⟩:=hr
    exact ⟨_,_,g4,.any (by simp [cls,heq]) fun R' h' => by simp only [ares,heq,hu,he]; exact ⟨g1,g2,g3,h'⟩⟩
   ·exact hr.elim
  ·exact hr.elim
 ·exact absurd (by simp [cls,heq]) hc4
 ·exact absurd (by simp [cls,heq]) hc4
 ·exact absurd (by simp [cls,heq]) hc4
 ·-- calls
  rename_i c
  obtain ⟨callee,args,argTypes⟩:=c
  cases callee with
  | invoke r m => exact hr.elim
  | value fo =>
   simp only at hr
   split at hr
   ·split at hr
    ·rename_i hp
     split at hr
     ·rename_i hq
      obtain ⟨v,hcall,hr⟩:=hr
      have hc1 : cls h o = 1:=by simp [cls,heq,hp,hq]
      exact ⟨_,_,hr,fun R' h' => by simp only [ares,heq,hp,hq]; exact ⟨v,hcall,h'⟩,fun e => by omega,fun _ => ⟨rfl,fun H2 R' hv h' => by
       simp only [ares,heq,hp,hq]
       exact ⟨v,hcall.imp (fun hcall H3 h3 => hcall H3 (h3.trans hv)) (fun hx => XCall.view hv hx),h'⟩⟩,fun e => by omega,fun hl => by simp [isLd,heq] at hl,fun e => by omega⟩
     ·rename_i hq
      obtain ⟨v,hcall,hr⟩:=hr
      exact ⟨_,_,hr,.pure (by simp [cls,heq,hp,hq]) fun H2 R' h' => by simp only [ares,heq,hp,hq]; exact ⟨v,hcall,h'⟩⟩
    ·rename_i hp
     split at hr
     ·rename_i hq
      obtain ⟨v,ext,hcall,hr⟩:=hr
      exact ⟨_,_,hr,.ext (by simp [cls,heq,hp,hq]) fun R' h' => by simp only [ares,heq,hp,hq]; exact ⟨v,ext,hcall,h'⟩⟩
     ·rename_i hq
      exact absurd (by simp [cls,heq,hp,hq]) hc4
   ·obtain ⟨⟨hp,hq⟩,_⟩:=hr
    exact absurd (by simp [cls,heq,hp,hq]) hc4
   ·exact hr.elim
  | builtin b =>
   cases b <;> simp only at hr <;> first | exact hr.elim | skip
   case append =>
    split at hr
    ·rename_i a b t t' hat
     by_cases htt : t = t'
     case neg =>
      rw [if_neg htt] at hr
      obtain ⟨hmt,v,H',g1,g2⟩:=apz_one hr
      have hc3 : cls h o = 3:=by simp only [cls,heq,hmt,Bool.true_or]; rfl
      exact ⟨_,_,g1,.any hc3 fun R' h' => by simp only [ares,heq,hat,if_neg htt]; exact g2 R' h'⟩
     rw [if_pos htt] at hr
     split at hr
     ·rename_i e hu
      obtain ⟨h1,h2,hr⟩:=hr
      have again : ∀ (rd : Bool) (H2 : Heap) (R' : AV -> Heap -> Prop) (xs : List AV),(o.dst.any h.mt.contains || o.dst.any h.tk.contains) = rd -> asrc P e rd H2 b = some xs -> aappend P e (o.dst.any h.mt.contains) (o.dst.any h.pc.contains) H2 a xs R' -> ares P h o [a,b] H2 R':=by
       intro rd H2 R' xs hrd hs ha
       simp only [ares,heq,hat,if_pos htt,hu,hrd,hs]
       exact ⟨h1,h2,ha⟩
      split at hr
      ·rename_i xs hs
       by_cases hrd : (o.dst.any h.mt.contains || o.dst.any h.tk.contains) = true
       ·have hc3 : cls h o = 3:=by simp only [cls,heq,hrd]; rfl
        obtain ⟨g1,hr⟩:=hr
        split at hr
        ·rename_i hmt
         obtain ⟨g2,g3,g4,g5⟩:=hr
         exact ⟨_,_,g5,.any hc3 fun R' h' => again _ _ _ xs rfl hs ⟨g1,by rw [hmt]; exact ⟨g2,g3,g4,h'⟩⟩⟩
        ·rename_i hmt
         obtain ⟨g2,g3,g4,g5,hr⟩:=hr
         split at hr
         ·rename_i cs ho
          obtain ⟨g6,g7,g8⟩:=hr
          exact ⟨_,_,g8,.any hc3 fun R' h' => again _ _ _ xs rfl hs ⟨g1,by rw [hmt]; simp only [ho]; exact ⟨g2,g3,g4,g5,g6,g7,h'⟩⟩⟩
         ·exact hr.elim
        ·rename_i hmt
         obtain ⟨g2,g3,g4,g5,hr⟩:=hr
         split at hr
         ·rename_i cs ho
          obtain ⟨g6,g7,g8⟩:=hr
          exact ⟨_,_,g8,.any hc3 fun R' h' => again _ _ _ xs rfl hs ⟨g1,by rw [hmt]; simp only [ho]; exact ⟨g2,g3,g4,g5,g6,g7,h'⟩⟩⟩
         ·exact hr.elim
        ·rename_i hmt
         obtain ⟨g2,g3,g4,g5⟩:=hr
         exact ⟨_,_,g5,.any hc3 fun R' h' => again _ _ _ xs rfl hs ⟨g1,by rw [hmt]; exact ⟨g2,g3,g4,h'⟩⟩⟩
        ·exact hr.elim
       ·have hrd' : (o.dst.any h.mt.contains || o.dst.any h.tk.contains) = false:=by simpa using hrd
        have hc0 : cls h o = 0:=by simp only [cls,heq,hrd']; rfl
        have hmt : o.dst.any h.mt.contains = false:=by
         rw [Bool.or_eq_false_iff] at hrd'; exact hrd'.1
        obtain ⟨g1,hr⟩:=hr
        rw [hrd'] at hs
        have hs2 : ∀ H2,asrc P e false H2 b = some xs:=fun H2 => by
         unfold asrc at hs ⊢
         split at hs
         ·exact hs
         ·split at hs
          ·rename_i h _; cases h
          ·cases hs
         ·cases hs
        split at hr
        ·rename_i hmt'
         obtain ⟨g2,g3,g4,g5⟩:=hr
         exact ⟨_,_,g5,.pure hc0 fun H2 R' h' => again _ _ _ xs hrd' (hs2 H2) ⟨g1,by rw [hmt']; exact ⟨g2,g3,g4,h'⟩⟩⟩
        ·rename_i hmt'
         rw [hmt] at hmt'; cases hmt'
        ·rename_i hmt'
         rw [hmt] at hmt'; cases hmt'
        ·rename_i hmt'
         rw [hmt] at hmt'; cases hmt'
        ·exact hr.elim
      ·exact hr.elim
     ·exact hr.elim
    ·exact hr.elim
   case cap =>
    split at hr
    ·split at hr
     ·rename_i hu
      exact ⟨_,_,hr,.pure (by simp [cls,heq]) fun H2 R' h' => by simp only [ares,heq,hu]; exact h'⟩
     ·exact hr.elim
    ·exact hr.elim
   case copy =>
    split at hr
    ·rename_i hat
     obtain ⟨v,H',g1,g2⟩:=acopy_one hr
     exact ⟨_,_,g1,.any (by simp [cls,heq]) fun R' h' => by simp only [ares,heq,hat]; exact g2 R' h'⟩
    ·exact hr.elim
   case clear =>
    split at hr
    ·rename_i hat
     split at hr
     ·rename_i hu
      split at hr
      ·rename_i ho
       obtain ⟨z,h1,h2,h3,h4,h5⟩:=hr
       exact ⟨_,_,h5,.any (by simp [cls,heq]) fun R' h' => by simp only [ares,heq,hat,hu,ho]; exact ⟨z,h1,h2,h3,h4,h'⟩⟩
      ·exact hr.elim
     ·exact hr.elim
    ·exact hr.elim
   case len =>
    split at hr
    ·split at hr
     ·rename_i hu
      exact ⟨_,_,hr,.pure (by simp [cls,heq]) fun H2 R' h' => by simp only [ares,heq,hu]; exact h'⟩
     ·rename_i hu
      exact ⟨_,_,hr,.pure (by simp [cls,heq]) fun H2 R' h' => by simp only [ares,heq,hu]; exact h'⟩
     ·rename_i hu
      exact ⟨_,_,hr,.pure (by simp [cls,heq]) fun H2 R' h' => by simp only [ares,heq,hu]; exact h'⟩
     ·rename_i hu
      exact ⟨_,_,hr,.pure (by simp [cls,heq]) fun H2 R' h' => by simp only [ares,heq,hu]; exact h'⟩
     ·rename_i hu
      exact ⟨_,_,hr,.pure (by simp [cls,heq]) fun H2 R' h' => by simp only [ares,heq,hu]; exact h'⟩
     ·exact hr.elim
    ·exact hr.elim
   case max =>
    split at hr
    ·exact ⟨_,_,hr.2,.pure (by simp [cls,heq]) fun H2 R' h' => by simp only [ares,heq]; exact ⟨hr.1,h'⟩⟩
    ·exact hr.elim
   case min =>
    split at hr
    ·exact ⟨_,_,hr.2,.pure (by simp [cls,heq]) fun H2 R' h' => by simp only [ares,heq]; exact ⟨hr.1,h'⟩⟩
    ·exact hr.elim
 ·exact hr.elim
end
end Go.AI
namespace Go.AI
theorem splice_get {cs xs : List AV} {off : Nat} (h : off + xs.length <= cs.length) (i : Nat) : (splice cs off xs)[i]? = if off <= i /\ i < off + xs.length then xs[i - off]? else cs[i]?:=by
 unfold splice
 have h1 : (cs.take off).length = off:=by simp; omega
 by_cases hi : i < off
 ·rw [if_neg (by omega),List.append_assoc,List.getElem?_append_left (by omega),List.getElem?_take_of_lt hi]
 ·by_cases hj : i < off + xs.length
  ·rw [if_pos ⟨by omega,hj⟩,List.append_assoc,List.getElem?_append_right (by omega),h1,List.getElem?_append_left (by omega)]
  ·rw [if_neg (by omega),List.getElem?_append_right (by simp; omega),List.length_append,h1,List.getElem?_drop]
   congr 1
   omega
theorem splice_len {cs xs : List AV} {off : Nat} (h : off + xs.length <= cs.length) : (splice cs off xs).length = cs.length:=by
 unfold splice
 simp
 omega
theorem splice_comm {cs xs ys : List AV} {f g : Nat} (hd : f + xs.length <= g \/ g + ys.length <= f) (h1 : f + xs.length <= cs.length) (h2 : g + ys.length <= cs.length) :
  splice (splice cs f xs) g ys = splice (splice cs g ys) f xs:=by
 apply List.ext_getElem?
 intro i
 rw [splice_get (by rw [splice_len h1]; exact h2),splice_get h1,splice_get (by rw [splice_len h2]; exact h1),splice_get h2]
 by_cases ha : g <= i /\ i < g + ys.length
 ·rw [if_pos ha,if_neg (by omega),if_pos ha]
 ·rw [if_neg ha]
  by_cases hb : f <= i /\ i < f + xs.length
  ·rw [if_pos hb,if_pos hb]
  ·rw [if_neg hb,if_neg hb,if_neg ha]
def ldLen (P : Program) (t : TypeId) : Nat :=
 match P.underlying t with
 | some (.struct _) | some (.array _ _) => P.cellsOf t
 | _ => 1
theorem ldv_splice {P : Program} {t : TypeId} {cs xs : List AV} {f g : Nat} (hd : f + ldLen P t <= g \/ g + xs.length <= f) (h2 : g + xs.length <= cs.length) : ldv P t (splice cs g xs) f = ldv P t cs f:=by
 have agg : ∀ k,(f + k <= g \/ g + xs.length <= f) -> ((splice cs g xs).drop f).take k = (cs.drop f).take k:=by
  intro k hk
  apply List.ext_getElem?
  intro i
  rw [List.getElem?_take,List.getElem?_take]
  split
  ·rw [List.getElem?_drop,List.getElem?_drop,splice_get h2,if_neg (by omega)]
  ·rfl
 unfold ldv
 unfold ldLen at hd
 split
 ·rename_i fs hu
  simp only [hu] at hd
  rw [splice_len h2,agg _ hd]
 ·rename_i n e hu
  simp only [hu] at hd
  rw [splice_len h2,agg _ hd]
 ·rename_i d hns hna hu
  have h1 : f + 1 <= g \/ g + xs.length <= f:=by
   have e : (match some d with | some (TypeDesc.struct _) => P.cellsOf t | some (TypeDesc.array _ _) => P.cellsOf t | _ => 1) = 1:=by
    cases d <;> first | rfl | exact absurd rfl (hns _) | exact absurd rfl (hna _ _)
   rw [hu] at hd
   rw [e] at hd
   exact hd
  rw [splice_get h2,if_neg (by omega)]
 ·rfl
end Go.AI
