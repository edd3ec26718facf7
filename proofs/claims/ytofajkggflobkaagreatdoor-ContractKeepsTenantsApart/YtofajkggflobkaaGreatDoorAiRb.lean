/- That the model's operations do what 'ares' says: rows that are made to be written, texts of bytes. -/
import Derived.Test.YtofajkggflobkaaGreatDoorAiR
set_option linter.unusedSimpArgs false
set_option linter.unusedVariables false
namespace Go.AI
section
variable {P : Program} {F : Nat -> Prop} {G : Gh} {w : World} {H : Heap} {R : AV -> Heap -> Prop}
theorem flatten_replicate_get {α : Type} (l : List α) : ∀ (n i : Nat),(List.replicate n l).flatten[i]? = if i < n * l.length then l[i % l.length]? else none
 | 0,i => by simp
 | n + 1,i => by
  rw [List.replicate_succ,List.flatten_cons,List.getElem?_append]
  by_cases h : i < l.length
  ·rw [if_pos h,if_pos (by rw [Nat.add_mul]; omega),Nat.mod_eq_of_lt h]
  ·rw [if_neg h,flatten_replicate_get l n (i - l.length)]
   have e : (i - l.length) % l.length = i % l.length:=by
    rw [Nat.mod_eq_sub_mod (Nat.le_of_not_lt h)]
   rw [e]
   by_cases h2 : i < (n + 1) * l.length
   ·rw [if_pos h2,if_pos (by rw [Nat.add_mul] at h2; omega)]
   ·rw [if_neg h2,if_neg (by rw [Nat.add_mul] at h2; omega)]
theorem ok_makeSlice {t e : Nat} {k k' : IntKind} {n c : Int} {u v : Value} {z : AV} (h : CRel F G [.int k n,.int k' c] H [u,v] w) (hu : P.underlying t = some (.slice e)) (hnc : n = c) (h0 : 0 <= n) (hb : n * P.bytesOf e <= 140737488355328)
  (hmax : n <= 9223372036854775807) (hi : (P.info? e).isSome = true) (hz : zeroAV P e = some z) (hzl : z.cells.length = P.cellsOf e) (hpos : 0 < P.cellsOf e)
  (hr : R (.msl H.length 0 n.toNat (P.cellsOf e)) (H ++ [some (List.replicate n.toNat z.cells).flatten])) :
  OpRes P ((do let r <- Instr.makeSlice t u v; pure (Next.value r) : Sem Next).run P w) (KOut F G w R):=by
 have h1:=h.l.rel 0 _ _ rfl rfl
 have h2:=h.l.rel 1 _ _ rfl rfl
 subst hnc
 cases h1; cases h2
 obtain ⟨i,hi⟩:=Option.isSome_iff_exists.1 hi
 obtain ⟨zv,hrun,hval,hc,ht⟩:=zero_sem hz
 have hc':=hc F G w
 have hzs : zv.cells.size = P.cellsOf e:=by have:=hc'.len; simp at this; omega
 obtain ⟨m,rfl⟩ : ∃ m : Nat,n = m:=⟨n.toNat,by omega⟩
 have hw : IntKind.i64.wrap (m : Int) = m:=by
  rw [IntKind.wrap_i64]; omega
 have hai : ∀ (k : IntKind) (n : Int),(asInt (.int k n)).run P w = .ok n w:=fun k n => by simp [asInt,asIntOf]
 have hbytes : P.bytesOf e = i.bytes:=by simp [Program.bytesOf,hi]
 have hti : (typeInfo e).run P w = .ok i w:=by simp [typeInfo,hi]
 rw [hbytes] at hb
 have hb' : (i.bytes : Int) * (m : Int) <= 140737488355328:=by rw [Int.mul_comm]; exact hb
 have hd1 : decide ((i.bytes : Int) * (m : Int) > 2 ^ 48) = false:=by
  rw [decide_eq_false_iff_not]; omega
 have hd2 : decide ((m : Int) < 0) = false:=by
  rw [decide_eq_false_iff_not]; omega
 have hd3 : decide ((m : Int) > (m : Int)) = false:=by
  rw [decide_eq_false_iff_not]; omega
 have hs : (sizeOf e).run P w = .ok (P.cellsOf e) w:=run_sizeOf_pos hpos w
 have hmake : ∃ C : Array Value,C = (Array.range (m * P.cellsOf e)).map (zv.cells[· % zv.cells.size]!) /\ (Instr.makeSlice t (.int k m) (.int k' m)).run P w = .ok (.slice (some ⟨w.heap.size,0,none⟩) m m) (w.alloc (.cells C e)):=by
  refine ⟨_,rfl, ?_⟩
  simp only [Instr.makeSlice,Sem.run_bind,run_underlying hu,Result.andThen_ok,hai,Sem.run_pure,hti,hw,hd1,hd2,hd3,Bool.or_false,Bool.false_or,Bool.false_eq_true,if_false,run_askRoom,hs,Int.toNat_natCast]
  by_cases hm0 : m * P.cellsOf e = 0
  ·have hr0 : Array.range 0 = #[]:=rfl
   simp [hm0,newRow,hr0]
  ·simp [hm0,hrun,newRow]
 obtain ⟨C,hC,hrunM⟩:=hmake
 have hCs : C.size = m * P.cellsOf e:=by rw [hC]; simp
 have hpair : ∀ (i : Nat) (c : AV) (v : Value),(List.replicate m z.cells).flatten[i]? = some c -> C[i]? = some v -> z.cells[i % z.cells.length]? = some c /\ zv.cells.toList[i % z.cells.length]? = some v:=fun i c v h1 h2 => by
  rw [flatten_replicate_get] at h1
  split at h1
  ·rename_i hlt
   refine ⟨h1, ?_⟩
   rw [hC] at h2
   rw [hzl] at hlt
   have : i % zv.cells.size < zv.cells.size:=Nat.mod_lt _ (by omega)
   simp [hlt] at h2
   rw [Array.getElem?_toList,hzl,<- hzs,Array.getElem?_eq_getElem this,<- h2]
   simp [this]
  ·cases h1
 refine .value (u:=.slice (some ⟨w.heap.size,0,none⟩) m m) (w':=w.alloc (.cells C e)) (by rw [Sem.run_bind,hrunM]; rfl) ⟨_,_,_,hr, ?_,ext_newObj h.h.fore _⟩
 simp only [Int.toNat_natCast]
 have hfl : (List.replicate m z.cells).flatten.length = m * P.cellsOf e:=by simp [hzl]
 refine h.newObj (List.replicate m z.cells).flatten C e (by rw [hfl,hCs]; exact Nat.le_refl _) (fun i c x h1 h2 => ?_) (fun b => ?_) (.msl _ _ _ _ w.heap.size m ?_ (Nat.le_refl _) (by unfold maxLen; omega) ⟨C,e,heap_alloc_new w (.cells C e),by omega⟩) (toks_scalar rfl rfl _)
 ·obtain ⟨g1,g2⟩:=hpair i c x h1 h2
  exact hc'.at_ _ c x g1 g2
 ·have hnil : ((List.replicate m z.cells).flatten.zip C.toList).filterMap tok = []:=by
   rw [List.filterMap_eq_nil_iff]
   intro p hp
   obtain ⟨i,hi⟩:=List.getElem?_of_mem hp
   rw [List.getElem?_zip_eq_some] at hi
   obtain ⟨g1,g2⟩:=hpair i p.1 p.2 hi.1 (by rw [<- Array.getElem?_toList]; exact hi.2)
   have hmem : (p.1,p.2) ∈ z.cells.zip zv.cells.toList:=List.mem_of_getElem? (i:=i % z.cells.length) (by rw [List.getElem?_zip_eq_some]; exact ⟨g1,g2⟩)
   exact List.filterMap_eq_nil_iff.1 ht _ hmem
  rw [hnil]; simp
 ·show (G.obs ++ [w.heap.size])[H.length]? = _
  rw [<- h.h.len,List.getElem?_append_right (Nat.le_refl _)]
  simp
theorem ok_buildSlice_mut {t e len : Nat} {ps : List (Nat × Operand)} {ρ : Operand -> Value} {vs : List AV} (h : CRel F G vs H (ps.map fun p => ρ p.2) w) (hu : P.underlying t = some (.slice e)) (hpos : 0 < P.cellsOf e) (hsmall : len * P.cellsOf e <= 16777216)
  (hidx : ps.map (·.1) = List.range len) (hvs : ∀ v ∈ vs,v.isVal = true /\ v.cells.length = P.cellsOf e) (hz : zeroOk P e = true) (hr : R (.msl H.length 0 len (P.cellsOf e)) (H ++ [some (cat (vs.map AV.borrow))])) :
  OpRes P ((do let r <- Instr.buildSlice t len (ps.map fun p => (p.1,ρ p.2)).toArray; pure (Next.value r) : Sem Next).run P w) (KOut F G w R):=by
 have hpl : ps.length = len:=by have:=congrArg List.length hidx; simpa using this
 have hvl : vs.length = len:=by have:=h.l.len; simp at this; omega
 have hus : ∀ u ∈ ps.map (fun p => ρ p.2),u.cells.size = P.cellsOf e:=by
  intro u hu'
  obtain ⟨i,hi⟩:=List.getElem?_of_mem hu'
  have hlt:=(List.getElem?_eq_some_iff.1 hi).1
  simp at hlt
  have hv : vs[i]? = some (vs[i]'(by omega)):=List.getElem?_eq_getElem _
  obtain ⟨g1,g2⟩:=hvs _ (List.mem_of_getElem? hv)
  have:=(val_shape g1 (h.l.rel i _ u hv hi)).2.2
  omega
 unfold zeroOk at hz
 split at hz
 ·rename_i i hi
  split at hz
  ·rename_i z hz'
   have key : ∀ zc : Array Value,Instr.fill (fun i => some (i * P.cellsOf e,P.cellsOf e)) ((Array.range (len * P.cellsOf e)).map (zc[· % zc.size]!)) (ps.map fun p => (p.1,ρ p.2)) =
     some ((ps.map fun p => ρ p.2).flatMap fun u => u.cells.toList).toArray:=fun zc => by
    have hfill:=fill_row (P.cellsOf e) (ps.map fun p => ρ p.2) 0 ((Array.range (len * P.cellsOf e)).map (zc[· % zc.size]!)) hus (by simp [hpl])
    rw [show (List.range' 0 (ps.map fun p => ρ p.2).length) = ps.map (·.1) by rw [hidx,List.range_eq_range']; simp [hpl],zip_parts] at hfill
    simpa using hfill
   have hcc:=cells_cat vs _ h.l fun v hv => (hvs v hv).1
   have hrun : (Instr.buildSlice t len (ps.map fun p => (p.1,ρ p.2)).toArray).run P w = .ok (.slice (some ⟨w.heap.size,0,none⟩) len len) (w.alloc (.cells ((ps.map fun p => ρ p.2).flatMap fun u => u.cells.toList).toArray e)):=by
    have hs : (sizeOf e).run P w = .ok (P.cellsOf e) w:=run_sizeOf_pos hpos w
    simp only [Instr.buildSlice,Sem.run_bind,run_underlying hu,Result.andThen_ok,hs,Sem.run_ite]
    rw [if_neg (by omega)]
    simp only [Sem.run_pure,Result.andThen_ok]
    by_cases h0 : len * P.cellsOf e = 0
    ·simp only [if_pos h0,key]
     simp [newRow]
    ·simp only [if_neg h0,zeroValue,typeInfo,Sem.run_bind,run_program,Result.andThen_ok,hi,hz',Sem.run_pure,key]
     simp [newRow]
   have hul : ((ps.map fun p => ρ p.2).flatMap fun u => u.cells.toList).length = len * P.cellsOf e:=by
    have:=hcc.len
    rw [cat_length (n:=P.cellsOf e) fun x hx => by
     obtain ⟨v,hv,rfl⟩:=List.mem_map.1 hx
     rw [cells_borrow_len]; exact (hvs v hv).2] at this
    simp only [List.length_map,hvl] at this
    omega
   refine .value (by rw [Sem.run_bind,hrun]; rfl) ⟨_,_,_,hr, ?_,ext_newObj h.h.fore _⟩
   refine h.newObj (cat (vs.map AV.borrow)) _ e (by have:=hcc.len; simp; simp at this; omega) (fun i c x h1 h2 => hcc.at_ i c x h1 (by simpa using h2)) (fun b => ?_) (.msl _ _ _ _ w.heap.size len ?_ (Nat.le_refl _) (by
      have : len <= len * P.cellsOf e:=Nat.le_mul_of_pos_right _ hpos
      unfold maxLen; omega) ⟨_,e,heap_alloc_new w _,by rw [List.size_toArray,hul]; omega⟩) (toks_scalar rfl rfl _)
   ·have hnil : ((cat (vs.map AV.borrow)).zip ((ps.map fun p => ρ p.2).flatMap fun u => u.cells.toList)).filterMap tok = []:=by
     rw [List.filterMap_eq_nil_iff]
     intro p hp
     have hm:=(List.of_mem_zip hp).1
     simp only [cat,List.mem_flatMap,List.mem_map] at hm
     obtain ⟨x,⟨v,hv,rfl⟩,hm⟩:=hm
     have hval:=(hvs v hv).1
     have e1 : v.borrow = borrow0 v:=by cases v <;> first | rfl | cases hval
     rw [e1,cells_borrow0] at hm
     obtain ⟨c,_,hc⟩:=List.mem_map.1 hm
     obtain ⟨p1,p2⟩:=p
     simp only at hc
     rw [<- hc]
     exact tok_borrow1 c p2
    rw [hnil]; simp
   ·show (G.obs ++ [w.heap.size])[H.length]? = _
    rw [<- h.h.len,List.getElem?_append_right (Nat.le_refl _)]
    simp
  ·cases hz
 ·cases hz
theorem push_fold (f : Value -> ByteArray -> Sem (ForInStep ByteArray)) (hf : ∀ n s,f (.int .u8 n) s = pure (.yield (s.push (UInt8.ofNat n.toNat)))) : ∀ (l : List Value) (s : ByteArray),(∀ v ∈ l,∃ n,v = .int .u8 n) ->
  (forIn l s f : Sem ByteArray).run P w = .ok ⟨s.data ++ (l.map fun | .int _ n => UInt8.ofNat n.toNat | _ => 0).toArray⟩ w
 | [],s,_ => by simp
 | v :: l,s,h => by
  obtain ⟨n,rfl⟩:=h v (by simp)
  rw [List.forIn_cons,Sem.run_bind,hf]
  simp only [Sem.run_pure,Result.andThen_ok]
  rw [push_fold f hf l _ fun x hx => h x (by simp [hx])]
  congr 2
  simp [ByteArray.push]
theorem ok_convert_bytes {src dst el : TypeId} {own : Option Nat} {es : List AV} {x : Value} (h : CRel F G [.sl own es] H [x] w) (hs : P.underlying src = some (.slice el)) (hd : P.underlying dst = some .string) (he : P.underlying el = some (.int .u8))
  (hb : ∀ x ∈ es,isByte x = true) (hr : R (.str (byteStr es)) H) :
  OpRes P ((do let v <- convert src dst x; pure (Next.value v) : Sem Next).run P w) (KOut F G w R):=by
 have hx:=h.l.rel 0 _ _ rfl rfl
 have hlen : ∀ x ∈ es,x.cells.length = 1:=fun x hm => by
  have:=hb x hm
  unfold isByte at this
  split at this
  ·rfl
  ·cases this
 have hout : ∀ r : ByteArray,(convert src dst x).run P w = .ok (.string r) w -> r = byteStr es -> OpRes P ((do let v <- convert src dst x; pure (Next.value v) : Sem Next).run P w) (KOut F G w R):=fun r hrun e => by
  subst e
  exact .value (by rw [Sem.run_bind,hrun]; rfl) (KOut.plain h hr (.str _) (toks_scalar rfl rfl _))
 have hcat : cat es = es:=by
  have : ∀ (es : List AV),(∀ x ∈ es,isByte x = true) -> cat es = es:=by
   intro es
   induction es with
   | nil => intro _; rfl
   | cons a as ih =>
    intro hb
    have h1:=hb a (by simp)
    have h2:=ih fun x hx => hb x (by simp [hx])
    unfold isByte at h1
    split at h1
    ·simp only [cat,List.flatMap_cons] at h2 ⊢
     rw [h2]; rfl
    ·cases h1
  exact this es hb
 rcases appended_cells hlen hx with ⟨rfl,rfl⟩ | ⟨a,c,news,rfl,hl,hcell,_,hrel⟩
 ·exact hout .empty (by simp [convert,run_underlying hs,run_underlying hd,run_underlying he,Conv.bytesToString]) rfl
 ·rw [hcat] at hrel
  rw [Nat.mul_one] at hl
  have hnews : ∀ (i : Nat) (v : Value),news[i]? = some v -> ∃ n,es[i]? = some (.int .u8 n) /\ v = .int .u8 n:=fun i v hv => by
   have hi : i < es.length:=by have:=(List.getElem?_eq_some_iff.1 hv).1; omega
   have h1:=List.getElem?_eq_getElem hi
   obtain ⟨_,v',hv',hr'⟩:=hrel i _ h1
   have h2:=hb _ (List.mem_of_getElem? h1)
   generalize es[i] = e0 at h1 hr' h2
   unfold isByte at h2
   split at h2
   ·rw [hv] at hv'
    cases hv'
    cases hr'
    exact ⟨_,h1,rfl⟩
   ·cases h2
  refine hout ⟨(news.map fun | .int _ n => UInt8.ofNat n.toNat | _ => 0).toArray⟩ ?_ ?_
  ·have hld:=run_loadCells_list (P:=P) w a news hcell
   rw [hl] at hld
   simp only [convert,Sem.run_bind,run_underlying hs,run_underlying hd,run_underlying he,Result.andThen_ok,Conv.bytesToString,hld]
   rw [<- Array.forIn_toList]
   simp only [List.toList_toArray]
   rw [push_fold (P:=P) (w:=w) _ (fun _ _ => rfl) news .empty fun v hv => by
    obtain ⟨i,hi⟩:=List.getElem?_of_mem hv
    obtain ⟨n,_,hn⟩:=hnews i v hi
    exact ⟨n,hn⟩]
   simp
  ·unfold byteStr
   congr 2
   apply List.ext_getElem?
   intro i
   rw [List.getElem?_map,List.getElem?_map]
   cases hv : news[i]? with
   | none =>
    rw [List.getElem?_eq_none (by have:=List.getElem?_eq_none_iff.1 hv; omega)]
    rfl
   | some v =>
    obtain ⟨n,hn,rfl⟩:=hnews i v hv
    rw [hn]; rfl
end
end Go.AI
