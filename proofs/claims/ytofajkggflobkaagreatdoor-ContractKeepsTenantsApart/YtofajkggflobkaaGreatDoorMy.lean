/- A row that a call has made becomes a list that nobody writes. -/
import Derived.Test.YtofajkggflobkaaGreatDoorLi
import Derived.Test.YtofajkggflobkaaGreatDoorMt
import Derived.Test.YtofajkggflobkaaGreatDoorMg
import Derived.Test.YtofajkggflobkaaGreatDoorMp
namespace Go.AI
def rowV (es : List (List AV)) (v : AV) (H H' : Heap) : Prop :=
 (es = [] /\ (∃ w,v = .sl w []) /\ ∃ ext,H' = H ++ ext) \/ ∃ ob cs,v = .msl ob 0 es.length 10 /\ H.length <= ob /\ (∃ ext,H' = H ++ ext) /\ H'[ob]? = some (some cs) /\ (∃ r,cs = es.flatten ++ r)
section
variable {P : Program}
theorem CRel.borrowArgs {F : Nat -> Prop} {G : Gh} {w : World} {H : Heap} {vs : List AV} {us : List Value} (h : CRel F G vs H us w) : CRel F G (vs.map AV.borrow) H us w:=by
 obtain ⟨l1,t1⟩:=map_borrow_LRel (F:=F) (G:=G) (w:=w) (first:=vs) (fi:=us) h.l.len (fun i c v a b => h.l.rel i c v a b)
 exact ⟨l1,h.h,fun b => by
  rw [t1]
  have:=h.cnt b
  omega⟩
theorem ACall.weak {f : FuncId} {vs : List AV} {H : Heap} {R : AV -> Heap -> Prop} (h : ACall P f (vs.map AV.borrow) H R) : ACall P f vs H R:=⟨h.1,fun F G w us hc => h.2 F G w us hc.borrowArgs⟩
theorem PCall.weak {f : FuncId} {vs : List AV} {v : AV} (h : PCall P f (vs.map AV.borrow) v) : PCall P f vs v:=fun H => (h H).weak
theorem CRel.swap1 {F : Nat -> Prop} {G : Gh} {w : World} {H : Heap} {v v' : AV} {u : Value} (h : CRel F G [v] H [u] w) (hv : VRel G w v' u) (ho : v'.owned = false) : CRel F G [v'] H [u] w :=
 ⟨.cons hv (tok_nil_all (toks_owned ho u) _ _ _) ⟨rfl,by simp,by simp⟩,h.h,fun x => by
  have:=h.cnt x
  rw [tcnt_cons,toks_owned ho u]
  rw [tcnt_cons] at this
  simp only [List.count_nil] at this ⊢
  omega⟩
theorem ext_set {H ext : Heap} {ob : Nat} (h : H.length <= ob) : (H ++ ext).set ob none = H ++ ext.set (ob - H.length) none:=List.set_append_right _ _ h
theorem CRel.frzRow {F : Nat -> Prop} {G : Gh} {w : World} {H ext : Heap} {vals : List AV} {us : List Value} {u : Value} {ob len sz : Nat} {cs : List AV} (ag : Bool) (h : CRel F G vals (H ++ ext) us w)
  (ho : (H ++ ext)[ob]? = some (some cs)) (hb : H.length <= ob) (hv : VRel G w (.msl ob 0 len sz) u) (hl : len * sz <= cs.length) (hs : ag = true \/ sz = 1) :
  ∃ G' ext',CRel F G' vals (H ++ ext') us w /\ Ext F G w G' w /\ VRel G' w (.sl none (chunk ag sz len (cs.map borrow1))) u:=by
 have hf : frzSlot ag (.msl ob 0 len sz) (H ++ ext) = some (.sl none (chunk ag sz len (cs.map borrow1)),(H ++ ext).set ob none):=by
  simp only [frzSlot,ho]
  rw [if_pos ⟨by omega,hs⟩,List.drop_zero]
 obtain ⟨ob',b,es,e1,e2,_,g1,g2,g3,_⟩:=frzSlot_ok hf h hv
 rw [ext_set hb] at g1
 exact ⟨_,_,g1,g2,g3⟩
theorem CRel.cutExt {F : Nat -> Prop} {G G' : Gh} {w w' : World} {H ext : Heap} {vs : List AV} {us : List Value} {v : AV} {u : Value} (hc : CRel F G vs H us w) (hcr : CRel F G' [v] (H ++ ext) [u] w') (hext : Ext F G w G' w') (hv : v.bnd H.length = true) :
  ∃ G'',CRel F G'' [v] H [u] w' /\ Ext F G w G'' w' :=
 ⟨_,hcr.cut hv hc.h.closed,⟨hext.size,⟨fun o b ho => by
  have hlt:=(List.getElem?_eq_some_iff.1 ho).1
  show (G'.obs.take H.length)[o]? = some b
  rw [List.getElem?_take_of_lt (by have:=hc.h.len; omega)]
  exact hext.keeps.obs o b ho,hext.keeps.shape,hext.keeps.sp,hext.keeps.safe⟩,hext.kind,hext.cells,hext.io⟩⟩
theorem chunk_rows : ∀ (es : List (List AV)) (r : List AV) (sz : Nat),(∀ e ∈ es,e.length = sz) -> chunk true sz es.length (es.flatten ++ r) = es.map .agg
 | [],_,_,_ => rfl
 | e :: es,r,sz,h => by
  have he:=h e (by simp)
  simp only [List.length_cons,chunk,if_true,List.flatten_cons,List.append_assoc,List.map_cons]
  rw [List.take_append_of_le_length (by omega),List.take_of_length_le (by omega),List.drop_append_of_le_length (by omega),List.drop_of_length_le (by omega),List.nil_append,chunk_rows es r sz fun x hx => h x (by simp [hx])]
theorem rows_len : ∀ (es : List (List AV)) (sz : Nat),(∀ e ∈ es,e.length = sz) -> es.flatten.length = es.length * sz
 | [],_,_ => by simp
 | e :: es,sz,h => by
  rw [List.flatten_cons,List.length_append,rows_len es sz fun x hx => h x (by simp [hx]),h e (by simp),List.length_cons,Nat.add_mul]; omega
theorem row_bnd {es : List (List AV)} {n : Nat} (hs : ∀ e ∈ es,bndL n e = true) : (AV.sl none (es.map .agg)).bnd n = true:=by
 simp only [AV.bnd]
 refine bndL_iff.2 fun c hc => ?_
 obtain ⟨e,he,rfl⟩:=List.mem_map.1 hc
 simpa [AV.bnd] using hs e he
theorem ACall.frz {f : FuncId} {vs : List AV} {H : Heap} {es : List (List AV)} (hn : ∀ e ∈ es,e.length = 10) (hs : ∀ e ∈ es,bndL H.length e = true) (hb : ∀ e ∈ es,e.map borrow1 = e)
  (h : ACall P f vs H fun v' H' => rowV es v' H H') : ACall P f vs H fun v' H' => v' = .sl none (es.map .agg) /\ H' = H :=
 ⟨h.1,fun F G w us hc => Calls.mono (h.2 F G w us hc) fun e w' he => by
  obtain ⟨u,rfl,v',H2,G',hr,hcr,hext⟩:=he
  rcases hr with ⟨rfl,⟨w0,rfl⟩,ext,rfl⟩ | ⟨ob,cs,rfl,hob,⟨ext,rfl⟩,ho,r,rfl⟩
  ·have hv : VRel G' w' (.sl none []) u:=by
    have:=hcr.l.rel 0 _ _ rfl rfl
    cases this with
    | slnil => exact .slnil _
    | slany => exact .slany _ _
    | sl own es sz b q cap u' hsz hown hl hm h1 h2 => exact .sl none [] sz b q cap u' hsz (fun n hn => by cases hn) hl hm h1 h2
   obtain ⟨G2,k1,k2⟩:=hc.cutExt (hcr.swap1 hv rfl) hext rfl
   exact ⟨u,rfl,_,H,G2,⟨rfl,rfl⟩,k1,k2⟩
  ·have hv:=hcr.l.rel 0 _ _ rfl rfl
   have hlen:=rows_len es 10 hn
   obtain ⟨G2,ext2,k1,k2,k3⟩:=hcr.frzRow true ho hob hv (by rw [List.length_append,hlen]; omega) (.inl rfl)
   have e1 : (es.flatten ++ r).map borrow1 = es.flatten ++ r.map borrow1:=by
    rw [List.map_append,List.map_flatten]
    congr 2
    exact List.map_congr_left (f:=List.map borrow1) (g:=id) (fun e he => hb e he) |>.trans (List.map_id _)
   rw [e1,chunk_rows es _ 10 hn] at k3
   obtain ⟨G3,k4,k5⟩:=hc.cutExt (k1.swap1 k3 rfl) (hext.trans k2) (row_bnd hs)
   exact ⟨u,rfl,_,H,G3,⟨rfl,rfl⟩,k4,k5⟩⟩
theorem ACall.frz2 {f : FuncId} {vs : List AV} {H : Heap} {es : List (List AV)} {b : Bool} (hn : ∀ e ∈ es,e.length = 10) (hs : ∀ e ∈ es,bndL H.length e = true) (hb : ∀ e ∈ es,e.map borrow1 = e)
  (h : ACall P f vs H fun v' H' => ∃ v0,v' = .tup [v0,.bool b] /\ rowV es v0 H H') : ACall P f vs H fun v' H' => v' = .tup [.sl none (es.map .agg),.bool b] /\ H' = H :=
 ⟨h.1,fun F G w us hc => Calls.mono (h.2 F G w us hc) fun e w' he => by
  obtain ⟨u,rfl,v',H2,G',⟨v0,rfl,hr⟩,hcr,hext⟩:=he
  have hv:=hcr.l.rel 0 _ _ rfl rfl
  cases hv with
  | tup _ vs' hl hsv hg =>
   have h0 : ∃ x,vs'[0]? = some x:=⟨_,Array.getElem?_eq_getElem (by rw [<- hl]; exact Nat.zero_lt_succ _)⟩
   obtain ⟨x,hx⟩:=h0
   have hvx:=hg 0 _ x rfl hx
   have put : ∀ {G2 : Gh} {w2 : World} {a : AV},a.isVal = true -> VRel G2 w2 a x -> VRel G2 w2 (.tup [a,.bool b]) (.tuple vs'):=fun {G2 w2 a} ha hax => by
    refine .tup _ _ hl (fun c hc => ?_) fun i c v hc hv => ?_
    ·rcases List.mem_cons.1 hc with rfl | hc
     ·exact ha
     ·rw [List.mem_singleton.1 hc]; rfl
    ·match i with
     | 0 => simp only [List.getElem?_cons_zero,Option.some.injEq] at hc; subst hc; rw [hx] at hv; cases hv; exact hax
     | 1 =>
      have:=hg 1 (.bool b) v rfl hv
      simp only [List.getElem?_cons_succ,List.getElem?_cons_zero,Option.some.injEq] at hc; subst hc
      cases this; exact .bool _
     | i + 2 => simp at hc
   rcases hr with ⟨rfl,⟨w0,rfl⟩,ext,rfl⟩ | ⟨ob,cs,rfl,hob,⟨ext,rfl⟩,ho,r,rfl⟩
   ·have hv0 : VRel G' w' (.sl none []) x:=by
     cases hvx with
     | slnil => exact .slnil _
     | slany => exact .slany _ _
     | sl own es sz b q cap u' hsz hown hl hm h1 h2 => exact .sl none [] sz b q cap u' hsz (fun n hn => by cases hn) hl hm h1 h2
    obtain ⟨G2,k1,k2⟩:=hc.cutExt (hcr.swap1 (put rfl hv0) rfl) hext rfl
    exact ⟨_,rfl,_,H,G2,⟨rfl,rfl⟩,k1,k2⟩
   ·have hlen:=rows_len es 10 hn
    obtain ⟨G2,ext2,k1,k2,k3⟩:=hcr.frzRow true ho hob hvx (by rw [List.length_append,hlen]; omega) (.inl rfl)
    have e1 : (es.flatten ++ r).map borrow1 = es.flatten ++ r.map borrow1:=by
     rw [List.map_append,List.map_flatten]
     congr 2
     exact List.map_congr_left (f:=List.map borrow1) (g:=id) (fun e he => hb e he) |>.trans (List.map_id _)
    rw [e1,chunk_rows es _ 10 hn] at k3
    obtain ⟨G3,k4,k5⟩:=hc.cutExt (k1.swap1 (put rfl k3) rfl) (hext.trans k2) (by
     have:=row_bnd hs
     simp only [AV.bnd,bndL] at this ⊢
     simp [this])
    exact ⟨_,rfl,_,H,G3,⟨rfl,rfl⟩,k4,k5⟩⟩
end
end Go.AI
namespace Go.AI
open Go.Proofs
set_option maxRecDepth 50000
theorem half2 {i j n : Nat} (hn : n <= 4611686018427387903) (hj : j <= n) (hi : i < j) : IntKind.i64.wrap ((IntKind.u64.wrap (IntKind.i64.wrap ((i : Int) + (j : Int)))).fdiv 2) = (((i + j) / 2 : Nat) : Int):=by
 have e1 : IntKind.i64.wrap ((i : Int) + (j : Int)) = ((i + j : Nat) : Int):=w64 (by omega) (by omega)
 rw [e1]
 have e2 : IntKind.u64.wrap ((i + j : Nat) : Int) = ((i + j : Nat) : Int):=by
  simp [IntKind.wrap,IntKind.signed,IntKind.bits]; omega
 rw [e2]
 have e3 : ((i + j : Nat) : Int).fdiv 2 = (((i + j) / 2 : Nat) : Int):=by
  rw [Int.fdiv_eq_ediv_of_nonneg _ (by decide)]; omega
 rw [e3]
 exact w64 (by omega) (by omega)
theorem p_nanI (x : Int) : PCall Tryz.prog 192 [.int .i64 x] (.bool false):=by
 refine pC h192_k rfl ?_
 simp only [Tryz.f192,go_sem,bne_self_eq_false]
def cmpZ (a b : Int) : Int:=if a < b then -1 else if b < a then 1 else 0
theorem p_cmpZ (a b : Int) : PCall Tryz.prog 117 [.int .i64 a,.int .i64 b] (.int .i64 (cmpZ a b)):=by
 have c1:=p_nanI a
 have c2:=p_nanI b
 refine pC h117_k rfl ?_
 simp only [Tryz.f117,go_sem]
 repeat' (first
  | ((first | refine pK (c1) ?_ | refine pK (c2) ?_); simp only [go_sem])
  | ((first | refine cS ?_ ?_ | refine gS ?_ ?_) <;> (intro hc; simp only [go_sem,hc])))
 all_goals (unfold cmpZ; grind)
theorem p_CompareL (a b : Head) (H : Heap) (oa ob : Nat) (hA : H[oa]? = some (some a.c)) (hB : H[ob]? = some (some b.c)) : SCall Tryz.prog 66 [.msl oa 0 10 1,.msl ob 0 10 1] H (.int .i64 (cmpH a b)):=by
 refine aC h66_k rfl ?_
 simp only [Tryz.f66,go_sem]
 refine awp_wh (σ:=Nat) (fun k => [(0,.msl oa 0 10 1),(1,.msl ob 0 10 1),(9,.msl oa 0 10 1),(10,.int .i64 10),(11,.int .i64 k)]) (fun _ => H) (fun k => k <= 10 /\ cmpH a b = cmpI (a.l.drop k) (b.l.drop k)) (fun k => 10 - k) 0 ⟨by decide,rfl⟩ rfl rfl ?_
 rintro k ⟨hk,hI⟩
 rw [cmpI_range a b k hk] at hI
 by_cases h : k < 10
 ·rw [if_pos h] at hI
  have i0 : (0 : Int) <= (k : Int):=by omega
  have i1 : (k : Int) < ((10 : Nat) : Int):=by omega
  have i2 : (k : Int) < 10:=by omega
  have i3 : ¬ ((10 : Nat) : Int) <= (k : Int):=by omega
  have a1:=Head.c_at a h
  have a2:=Head.c_at b h
  have hw:=w64s (k:=k) (by omega)
  have c1:=p_cmpZ (wordAt a k) (wordAt b k)
  simp only [go_sem,i0,i1,i2,i3,decide_true,decide_false,Int.toNat_natCast,hA,hB,a1,a2]
  repeat' (first
   | (refine pK (c1) ?_; simp only [go_sem,i0,i1,i2,i3,decide_true,decide_false,Int.toNat_natCast,hA,hB,a1,a2,hw])
   | ((first | refine cS ?_ ?_ | refine gS ?_ ?_) <;> (intro hc; simp only [go_sem,hc,i0,i1,i2,i3,decide_true,decide_false,Int.toNat_natCast,hA,hB,a1,a2,hw])))
  ·have hne : cmpZ (wordAt a k) (wordAt b k) ≠ 0:=by simpa using hc
   rw [hI]
   unfold cmpZ at hne ⊢
   by_cases h1 : wordAt a k < wordAt b k
   ·rw [if_pos h1,if_pos h1]
   ·rw [if_neg h1] at hne ⊢
    rw [if_neg h1]
    by_cases h2 : wordAt b k < wordAt a k
    ·rw [if_pos h2,if_pos h2]
    ·rw [if_neg h2] at hne; exact absurd rfl hne
  ·have heq : cmpZ (wordAt a k) (wordAt b k) = 0:=by simpa using hc
   unfold cmpZ at heq
   have h1 : ¬ wordAt a k < wordAt b k:=fun h1 => by rw [if_pos h1] at heq; cases heq
   have h2 : ¬ wordAt b k < wordAt a k:=fun h2 => by rw [if_neg h1,if_pos h2] at heq; cases heq
   rw [if_neg h1,if_neg h2] at hI
   exact ⟨k + 1,⟨by omega,hI⟩,by omega,rfl,rfl⟩
 ·rw [if_neg h] at hI
  have : k = 10:=by omega
  subst this
  have g : decide (((10 : Nat) : Int) < 10) = false:=by decide
  have g2 : decide (((10 : Nat) : Int) < ((10 : Nat) : Int)) = false:=by decide
  simp only [go_sem,g,g2]
  rw [hI]
theorem p_CmpHeads (a b : Head) : PCall Tryz.prog 299 [.agg a.c,.agg b.c] (.int .i64 (cmpH a b)):=by
 refine pC h299_k rfl ?_
 simp only [Tryz.f299,go_sem]
 repeat' (first
  | (refine aS (p_CompareL a b _ _ _ rfl rfl) ?_; simp only [go_sem])
  | ((first | refine cS ?_ ?_ | refine gS ?_ ?_) <;> (intro hc; simp only [go_sem,hc])))
def posH (x : Head) : List Head -> Nat
 | [] => 0
 | y :: r => if cmpH y x < 0 then posH x r + 1 else 0
theorem posH_at (x : Head) : ∀ (l : List Head) (i : Nat),i <= l.length -> (∀ k y,l[k]? = some y -> k < i -> cmpH y x < 0) -> (∀ y,l[i]? = some y -> ¬ cmpH y x < 0) -> posH x l = i
 | [],i,h,_,_ => by
  have : i = 0:=by simpa using h
  rw [this]; rfl
 | y :: r,0,_,_,h2 => by rw [posH,if_neg (h2 y rfl)]
 | y :: r,i + 1,h,h1,h2 => by
  rw [posH,if_pos (h1 0 y rfl (by omega)),posH_at x r i (by simpa using h) (fun k z hk hl => h1 (k + 1) z (by simpa using hk) (by omega)) fun z hz => h2 z (by simpa using hz)]
theorem srt_at {l : List Head} (h : srtH l) {i j : Nat} {a b : Head} (ha : l[i]? = some a) (hb : l[j]? = some b) (hij : i < j) : cmpH a b < 0:=by
 obtain ⟨h1,rfl⟩:=List.getElem?_eq_some_iff.1 ha
 obtain ⟨h2,rfl⟩:=List.getElem?_eq_some_iff.1 hb
 exact List.pairwise_iff_getElem.1 h i j h1 h2 hij
theorem any_at {l : List Head} (h : srtH l) (x : Head) {i : Nat} (h1 : ∀ k y,l[k]? = some y -> k < i -> cmpH y x < 0) (h2 : ∀ k y,l[k]? = some y -> i <= k -> ¬ cmpH y x < 0) : (l.any fun y => decide (y = x)) = match l[i]? with | some y => decide (cmpH y x = 0) | none => false:=by
 have key : x ∈ l -> l[i]? = some x:=fun hx => by
  obtain ⟨k,hk⟩:=List.getElem?_of_mem hx
  rcases Nat.lt_or_ge k i with hl | hl
  ·have:=h1 k x hk hl; rw [cmpH_self] at this; omega
  ·rcases Nat.lt_or_ge i k with hl2 | hl2
   ·have hlt : i < l.length:=by have:=(List.getElem?_eq_some_iff.1 hk).1; omega
    have hi:=List.getElem?_eq_getElem hlt
    exact absurd (srt_at h hi hk hl2) (h2 i _ hi (Nat.le_refl _))
   ·have : k = i:=by omega
    subst this; exact hk
 cases hi : l[i]? with
 | none =>
  dsimp only
  rw [List.any_eq_false]
  intro y hy hc
  have:=of_decide_eq_true hc
  subst this
  rw [key hy] at hi; cases hi
 | some y =>
  dsimp only
  rw [Bool.eq_iff_iff,List.any_eq_true,decide_eq_true_eq]
  constructor
  ·rintro ⟨z,hz,hc⟩
   have:=of_decide_eq_true hc
   subst this
   rw [key hz] at hi; cases hi; exact cmpH_self _
  ·intro hc
   exact ⟨y,List.mem_of_getElem? hi,decide_eq_true (cmpH_eq hc)⟩
theorem p_bsf (l : List Head) (hs : srtH l) (hl : l.length <= 4611686018427387903) (x : Head) : PCall Tryz.prog 301 [.sl none (lHead l),.agg x.c,.fn (.func 299) [] []] (.tup [.int .i64 (posH x l),.bool (l.any fun y => decide (y = x))]):=by
 refine pB h301_k rfl ?_
 simp only [Tryz.f301,go_sem]
 refine awp_wh (σ:=Nat × Nat) (fun s => [(0,.sl none (lHead l)),(2,.fn (.func 299) [] []),(4,.ptr 0 0),(8,.int .i64 l.length),(9,.int .i64 s.1),(10,.int .i64 s.2)]) (fun _ => [some x.c]) (fun s => s.1 <= s.2 /\ s.2 <= l.length /\ (∀ k y,l[k]? = some y -> k < s.1 -> cmpH y x < 0) /\ (∀ k y,l[k]? = some y -> s.2 <= k -> ¬ cmpH y x < 0)) (fun s => s.2 - s.1) (0,l.length) ⟨by omega,by omega,fun k y hk => by omega,fun k y h1 h2 => by have:=(List.getElem?_eq_some_iff.1 h1).1; omega⟩ rfl rfl ?_
 rintro ⟨i,j⟩ ⟨hij,hj,h1,h2⟩
 dsimp only at hij hj h1 h2 ⊢
 by_cases hlt : i < j
 ·have g1 : (i : Int) < (j : Int):=by omega
  have g2 : (0 : Int) <= (((i + j) / 2 : Nat) : Int):=by omega
  have g3 : (((i + j) / 2 : Nat) : Int).toNat = (i + j) / 2:=by omega
  have hm : (i + j) / 2 < l.length:=by omega
  have g4 : (((i + j) / 2 : Nat) : Int) < (l.length : Int):=by omega
  have hw:=w64s (k:=(i + j) / 2) (by omega)
  have hgm:=List.getElem?_eq_getElem hm
  have a1:=lHead_get hgm
  have c1:=p_CmpHeads l[(i + j) / 2] x
  simp only [go_sem,g1,decide_true,half2 hl hj hlt,g2,g3,g4,a1]
  repeat' (first
   | (refine pK (c1) ?_; simp only [go_sem,g1,half2 hl hj hlt,g2,g3,g4,a1,hw])
   | ((first | refine cS ?_ ?_ | refine gS ?_ ?_) <;> (intro hc; simp only [go_sem,hc,g1,half2 hl hj hlt,g2,g3,g4,a1,hw])))
  ·have hc:=of_decide_eq_true hc
   exact ⟨((i + j) / 2 + 1,j),⟨by dsimp only; omega,hj,fun k y hk hki => by
    rcases Nat.lt_or_ge k ((i + j) / 2) with h | h
    ·exact cmpH_trans (srt_at hs hk hgm h) hc
    ·have : k = (i + j) / 2:=by dsimp only at hki; omega
     subst this
     rw [hgm] at hk; cases hk; exact hc,h2⟩,by dsimp only; omega,rfl,rfl⟩
  ·have hc:=of_decide_eq_false hc
   exact ⟨(i,(i + j) / 2),⟨by dsimp only; omega,by dsimp only; omega,h1,fun k y hk hki => by
    rcases Nat.lt_or_ge ((i + j) / 2) k with h | h
    ·intro hlt2; exact hc (cmpH_trans (srt_at hs hgm hk h) hlt2)
    ·have : k = (i + j) / 2:=by dsimp only at hki; omega
     subst this
     rw [hgm] at hk; cases hk; exact hc⟩,by dsimp only; omega,rfl,rfl⟩
 ·have hij : i = j:=by omega
  subst hij
  have g1 : ¬ (i : Int) < (i : Int):=by omega
  have hany:=any_at hs x h1 h2
  have hpos:=posH_at x l i hj h1 fun y hy => h2 i y hy (Nat.le_refl _)
  rw [hpos]
  by_cases hil : i < l.length
  ·have g3 : (i : Int) < (l.length : Int):=by omega
   have g4 : (0 : Int) <= (i : Int):=by omega
   have hgi:=List.getElem?_eq_getElem hil
   have a1:=lHead_get hgi
   have c1:=p_CmpHeads l[i] x
   rw [hgi] at hany
   dsimp only at hany
   rw [hany]
   simp only [go_sem,g1,decide_false,g3,g4,decide_true,a1]
   repeat' (first
    | (refine pK (c1) ?_; simp only [go_sem,g1,g3,g4,a1,decide_true,Int.toNat_natCast])
    | ((first | refine cS ?_ ?_ | refine gS ?_ ?_) <;> (intro hc; simp only [go_sem,hc,g1,g3,g4,a1,decide_true,Int.toNat_natCast])))
   all_goals rfl
  ·have g3 : ¬ (i : Int) < (l.length : Int):=by omega
   rw [List.getElem?_eq_none (by omega)] at hany
   dsimp only at hany
   rw [hany]
   simp only [go_sem,g1,decide_false,g3]
   repeat' (first
    | ((first | refine cS ?_ ?_ | refine gS ?_ ?_) <;> (intro hc; simp only [go_sem,hc,g1,g3])))
theorem p_In (l : List Head) (hs : srtH l) (hl : l.length <= 4611686018427387903) (x : Head) : PCall Tryz.prog 252 [.sl none (lHead l),.agg x.c] (.bool (l.any fun y => decide (y = x))):=by
 have c1:=p_bsf l hs hl x
 refine pC h252_k rfl ?_
 simp only [Tryz.f252,go_sem]
 repeat' (first
  | (refine pK (c1) ?_; simp only [go_sem])
  | ((first | refine cS ?_ ?_ | refine gS ?_ ?_) <;> (intro hc; simp only [go_sem,hc])))
theorem p_star1 (l : List Head) (hs : srtH l) (hl : l.length <= 4611686018427387903) (x : Head) (H : Heap) (oa : Nat) (w : Option Nat) (hA : H[oa]? = some (some [.sl w (lHead l)])) : SCall Tryz.prog 251 [.agg x.c,.ptr oa 0] H (.bool (l.any fun y => decide (y = x))):=by
 have c1:=p_In l hs hl x
 refine ACall.drop rfl ?_
 refine aC h251_k rfl ?_
 have hA' : ∀ z,(H ++ z)[oa]? = some (some [.sl w (lHead l)]):=fun z => by
  have:=(List.getElem?_eq_some_iff.1 hA).1
  rw [List.getElem?_append_left this]; exact hA
 simp only [Tryz.f251,go_sem,hA']
 repeat' (first
  | (refine pK (c1) ?_; simp only [go_sem,hA'])
  | ((first | refine cS ?_ ?_ | refine gS ?_ ?_) <;> (intro hc; simp only [go_sem,hc,hA'])))
end Go.AI
namespace Go.AI
open Go.Proofs
set_option maxRecDepth 50000
theorem mrgGo_fuel : ∀ (n m : Nat) (a b : List Head),a.length + b.length < n -> a.length + b.length < m -> mrgGo n a b = mrgGo m a b
 | 0,_,a,b,h,_ => by omega
 | _,0,a,b,_,h => by omega
 | n + 1,m + 1,[],b,_,_ => rfl
 | n + 1,m + 1,x :: a,[],_,_ => rfl
 | n + 1,m + 1,x :: a,y :: b,h1,h2 => by
  simp only [List.length_cons] at h1 h2
  rw [mrgGo,mrgGo,mrgGo_fuel n m a (y :: b) (by simp only [List.length_cons]; omega) (by simp only [List.length_cons]; omega),mrgGo_fuel n m a b (by omega) (by omega),mrgGo_fuel n m (x :: a) b (by simp only [List.length_cons]; omega) (by simp only [List.length_cons]; omega)]
theorem mrgH_r (a : List Head) : mrgH a [] = a:=by cases a <;> rfl
theorem mrgH_two (x : Head) (a : List Head) (y : Head) (b : List Head) : mrgH (x :: a) (y :: b) = if cmpH x y < 0 then x :: mrgH a (y :: b) else if cmpH x y = 0 then y :: mrgH a b else y :: mrgH (x :: a) b:=by
 unfold mrgH
 rw [mrgGo]
 simp only [List.length_cons]
 rw [mrgGo_fuel (a.length + 1 + (b.length + 1)) (a.length + (b.length + 1) + 1) a (y :: b) (by simp only [List.length_cons]; omega) (by simp only [List.length_cons]; omega),mrgGo_fuel (a.length + 1 + (b.length + 1)) (a.length + b.length + 1) a b (by omega) (by omega),mrgGo_fuel (a.length + 1 + (b.length + 1)) (a.length + 1 + b.length + 1) (x :: a) b (by simp only [List.length_cons]; omega) (by simp only [List.length_cons]; omega)]
theorem mrgH_len : ∀ (n : Nat) (a b : List Head),(mrgGo n a b).length <= a.length + b.length
 | 0,_,_ => by simp [mrgGo]
 | n + 1,[],b => by simp [mrgGo]
 | n + 1,x :: a,[] => by simp [mrgGo]
 | n + 1,x :: a,y :: b => by
  have h1:=mrgH_len n a (y :: b)
  have h2:=mrgH_len n a b
  have h3:=mrgH_len n (x :: a) b
  rw [mrgGo]
  simp only [List.length_cons] at h1 h3 ⊢
  split
  ·simp only [List.length_cons]; omega
  ·split <;> simp only [List.length_cons] <;> omega
theorem lHead_drop1 (x : Head) (l : List Head) : (lHead (x :: l)).drop 1 = lHead l:=rfl
def apartQ (x y : Option (Tmp × Nat × Bool)) (e : Env) : Prop :=
 match x,y with
 | some (a,k,s),some (b,l,s') => (s = true \/ s' = true) /\ match look e a,look e b with
  | .ptr o1 f1,.ptr o2 f2 => o1 ≠ o2 \/ f1 + k <= f2 \/ f2 + l <= f1
  | _,_ => False
 | _,_ => False
theorem dyn_of {P : Program} {h : Hint} {ops : Array Oper} {e : Env} (L : List (Option (Tmp × Nat × Bool) × Option (Tmp × Nat × Bool))) (hT : ((dynPairs h ops).map fun p => (adrOf P h p.1,adrOf P h p.2)) = L) (hL : ∀ q ∈ L,apartQ q.1 q.2 e) : dynAll P h ops e:=fun p hp => by
 have:=hL _ (by rw [<- hT]; exact List.mem_map.2 ⟨p,hp,rfl⟩)
 exact this
def mCell (l : List Head) : Option (List AV):=some [.sl none (lHead l)]
theorem p_mergedIt (o pa pb : Nat) (L : LoopRec) (Inv : List Head -> List Head -> List Head -> Heap -> Prop) (hne : pa ≠ pb) (m : List Head) (hm : m.length <= 4611686018427387903)
  (hA : ∀ out a b X,Inv out a b X -> X[pa]? = some (mCell a)) (hB : ∀ out a b X,Inv out a b X -> X[pb]? = some (mCell b)) (hG : ∀ out a b X x,Inv out a b X -> Inv out a b (X ++ [x]))
  (hsA : ∀ out a b X a',Inv out a b X -> Inv out a' b (X.set pa (mCell a'))) (hsB : ∀ out a b X b',Inv out a b X -> Inv out a b' (X.set pb (mCell b')))
  (round : ∀ out a b x X,out ++ [x] <+: m -> Inv out a b X -> YCall Tryz.prog o L [.agg (Head.c x)] X fun v X' => v = .bool true /\ Inv (out ++ [x]) a b X')
  (a b : List Head) (X : Heap) (hab : mrgH a b = m) (hl : a.length + b.length <= 4611686018427387903) (h0 : Inv [] a b X) : ACall Tryz.prog 298 [.yld o L,.ptr pa 0,.ptr pb 0] X fun _ X' => Inv m [] [] X':=by
 refine aC h298_k rfl ?_
 simp only [Tryz.f298,go_sem]
 refine awp_wh (σ:=List Head × List Head × List Head × Heap × Env) (fun s => (0,.yld o L) :: (1,.ptr pa 0) :: (2,.ptr pb 0) :: s.2.2.2.2) (fun s => s.2.2.2.1) (fun s => Inv s.1 s.2.1 s.2.2.1 s.2.2.2.1 /\ s.1 ++ mrgH s.2.1 s.2.2.1 = m /\ s.2.1.length + s.2.2.1.length <= 4611686018427387903) (fun s => s.2.1.length + s.2.2.1.length) ([],a,b,X,[]) ⟨h0,hab,hl⟩ rfl rfl ?_
 rintro ⟨out,a,b,X,rest⟩ ⟨hI,hab,hl⟩
 clear h0
 dsimp only at hI hab hl ⊢
 have a0:=hA _ _ _ _ hI
 have b0:=hB _ _ _ _ hI
 have la:=(List.getElem?_eq_some_iff.1 a0).1
 have lb:=(List.getElem?_eq_some_iff.1 b0).1
 have eA : ∀ z,(X ++ z)[pa]? = some (mCell a):=fun z => by rw [List.getElem?_append_left la]; exact a0
 have eB : ∀ z,(X ++ z)[pb]? = some (mCell b):=fun z => by rw [List.getElem?_append_left lb]; exact b0
 have sA : ∀ y v,(X ++ [y]).set pa v = X.set pa v ++ [y]:=fun y v => List.set_append_left _ _ la
 have sB : ∀ y v,(X ++ [y]).set pb v = X.set pb v ++ [y]:=fun y v => List.set_append_left _ _ lb
 have tA : ∀ v x y,(X.set pa v ++ [x]).set X.length y = X.set pa v ++ [y]:=fun v x y => by
  have:=set_end (X.set pa v) x y
  rwa [List.length_set] at this
 have tB : ∀ v x y,(X.set pb v ++ [x]).set X.length y = X.set pb v ++ [y]:=fun v x y => by
  have:=set_end (X.set pb v) x y
  rwa [List.length_set] at this
 have gA : ∀ v x,(X.set pa v ++ [x])[X.length]? = some x:=fun v x => by rw [List.getElem?_append_right (by simp)]; simp
 have gB : ∀ v x,(X.set pb v ++ [x])[X.length]? = some x:=fun v x => by rw [List.getElem?_append_right (by simp)]; simp
 have nA : X.length ≠ pa:=by omega
 have nB : X.length ≠ pb:=by omega
 have nA2 : pa ≠ X.length:=by omega
 have nB2 : pb ≠ X.length:=by omega
 unfold mCell at a0 b0 eA eB
 have z1 : ((0 : Int) < ((0 : Nat) : Int)) = False:=by decide
 have z2 : (((0 : Nat) : Int) == (0 : Int)) = true:=rfl
 cases a with
 | nil =>
  cases b with
  | nil =>
   have hm : out = m:=by rw [<- hab]; exact (List.append_nil _).symm
   rw [hm] at hI
   simp only [go_sem,a0,b0,List.length_nil,z1,z2,decide_false]
   repeat' (first
    | ((first | refine cS ?_ ?_ | refine gS ?_ ?_) <;> (intro hc; simp only [go_sem,hc,a0,b0,List.length_nil,z1,z2,decide_false])))
   all_goals first | exact hI | skip
  | cons y b =>
   simp only [List.length_cons] at hl
   have n1 : ((0 : Int) < ((b.length + 1 : Nat) : Int)) = True:=eq_true (by omega)
   have n2 : (((b.length + 1 : Nat) : Int) == (0 : Int)) = false:=by
    rw [beq_eq_false_iff_ne]; omega
   have n3:=lHead_drop1 y b
   have n4 : (lHead (y :: b))[0]? = some (.agg y.c):=rfl
   have hab2 : out ++ [y] ++ mrgH [] b = m:=by rw [<- hab,List.append_assoc]; rfl
   simp only [go_sem,a0,b0,eA,eB,sA,sB,tA,tB,gA,gB,List.length_nil,List.length_cons,z1,z2,n1,n2,n3,n4,decide_true,decide_false]
   rw [awp_regionD _ _ _ (by simp only [go_sem]) rfl rfl]
   simp only [go_sem,a0,b0,eA,eB,sA,sB,tA,tB,gA,gB,List.length_nil,List.length_cons,z1,z2,n1,n2,n3,n4,decide_true,decide_false]
   refine ⟨by omega,dyn_of [(some (2,1,false),some (5,10,true))] (by kernel_rfl) ?_, ?_⟩
   ·intro q hq
    rw [List.mem_singleton.1 hq]
    exact ⟨.inr rfl,.inl nB2⟩
   simp only [go_sem,a0,b0,eA,eB,sA,sB,tA,tB,gA,gB,List.length_nil,List.length_cons,z1,z2,n1,n2,n3,n4,decide_true,decide_false]
   refine YCallK.intro (round out [] b y _ ⟨_,hab2⟩ (hG _ _ _ _ _ (hsB _ _ _ _ b hI))) fun v X' hr => ?_
   obtain ⟨rfl,hi⟩:=hr
   simp only [go_sem]
   exact ⟨(out ++ [y],[],b,X',[(46,.bool false)]),⟨hi,hab2,by simp only [List.length_nil]; omega⟩,by simp,rfl,rfl⟩
 | cons x a =>
  simp only [List.length_cons] at hl
  have m1 : ((0 : Int) < ((a.length + 1 : Nat) : Int)) = True:=eq_true (by omega)
  have m2 : (((a.length + 1 : Nat) : Int) == (0 : Int)) = false:=by
   rw [beq_eq_false_iff_ne]; omega
  have m3:=lHead_drop1 x a
  have m4 : (lHead (x :: a))[0]? = some (.agg x.c):=rfl
  cases b with
  | nil =>
   have hab2 : out ++ [x] ++ mrgH a [] = m:=by rw [<- hab,List.append_assoc,mrgH_r,mrgH_r]; rfl
   simp only [go_sem,a0,b0,eA,eB,sA,sB,tA,tB,gA,gB,List.length_nil,List.length_cons,z1,z2,m1,m2,m3,m4,decide_true,decide_false]
   rw [awp_regionD _ _ _ (by simp only [go_sem]) rfl rfl]
   simp only [go_sem,a0,b0,eA,eB,sA,sB,tA,tB,gA,gB,List.length_nil,List.length_cons,z1,z2,m1,m2,m3,m4,decide_true,decide_false]
   refine ⟨by omega,dyn_of [(some (1,1,false),some (5,10,true))] (by kernel_rfl) ?_, ?_⟩
   ·intro q hq
    rw [List.mem_singleton.1 hq]
    exact ⟨.inr rfl,.inl nA2⟩
   simp only [go_sem,a0,b0,eA,eB,sA,sB,tA,tB,gA,gB,List.length_nil,List.length_cons,z1,z2,m1,m2,m3,m4,decide_true,decide_false]
   refine YCallK.intro (round out a [] x _ ⟨_,hab2⟩ (hG _ _ _ _ _ (hsA _ _ _ _ a hI))) fun v X' hr => ?_
   obtain ⟨rfl,hi⟩:=hr
   simp only [go_sem]
   exact ⟨(out ++ [x],a,[],X',[(46,.bool false)]),⟨hi,hab2,by simp only [List.length_nil]; omega⟩,by simp,rfl,rfl⟩
  | cons y b =>
   simp only [List.length_cons] at hl
   have n1 : ((0 : Int) < ((b.length + 1 : Nat) : Int)) = True:=eq_true (by omega)
   have n2 : (((b.length + 1 : Nat) : Int) == (0 : Int)) = false:=by
    rw [beq_eq_false_iff_ne]; omega
   have n3:=lHead_drop1 y b
   have n4 : (lHead (y :: b))[0]? = some (.agg y.c):=rfl
   have c1:=p_CmpHeads x y
   rw [mrgH_two] at hab
   by_cases q1 : cmpH x y < 0
   ·rw [if_pos q1] at hab
    have k1 : ¬ 0 <= cmpH x y:=by omega
    have k2 : cmpH x y <= 0:=by omega
    have hab2 : out ++ [x] ++ mrgH a (y :: b) = m:=by rw [<- hab,List.append_assoc]; rfl
    simp only [go_sem,a0,b0,eA,eB,sA,sB,tA,tB,gA,gB,List.length_nil,List.length_cons,z1,z2,n1,n2,n3,n4,m1,m2,m3,m4,decide_true,decide_false]
    repeat' (first
     | (refine pK (c1) ?_; simp only [go_sem,a0,b0,eA,eB,sA,sB,tA,tB,gA,gB,List.length_nil,List.length_cons,z1,z2,n1,n2,n3,n4,m1,m2,m3,m4,k1,k2,decide_true,decide_false])
     | ((first | refine cS ?_ ?_ | refine gS ?_ ?_) <;> (intro hc; simp only [go_sem,hc,a0,b0,eA,eB,sA,sB,tA,tB,gA,gB,List.length_nil,List.length_cons,z1,z2,n1,n2,n3,n4,m1,m2,m3,m4,k1,k2,decide_true,decide_false])))
    rw [awp_regionD _ _ _ (by simp only [go_sem]) rfl rfl]
    simp only [go_sem,a0,b0,eA,eB,sA,sB,tA,tB,gA,gB,List.length_nil,List.length_cons,z1,z2,m1,m2,m3,m4,decide_true,decide_false]
    refine ⟨by omega,dyn_of [(some (1,1,false),some (5,10,true))] (by kernel_rfl) ?_, ?_⟩
    ·intro q hq
     rw [List.mem_singleton.1 hq]
     exact ⟨.inr rfl,.inl nA2⟩
    simp only [go_sem,a0,b0,eA,eB,sA,sB,tA,tB,gA,gB,List.length_nil,List.length_cons,z1,z2,m1,m2,m3,m4,decide_true,decide_false]
    refine YCallK.intro (round out a (y :: b) x _ ⟨_,hab2⟩ (hG _ _ _ _ _ (hsA _ _ _ _ a hI))) fun v X' hr => ?_
    obtain ⟨rfl,hi⟩:=hr
    simp only [go_sem]
    exact ⟨(out ++ [x],a,y :: b,X',[(46,.bool false)]),⟨hi,hab2,by simp only [List.length_cons]; omega⟩,by simp only [List.length_cons]; omega,rfl,rfl⟩
   ·rw [if_neg q1] at hab
    have k1 : 0 <= cmpH x y:=by omega
    by_cases q2 : cmpH x y = 0
    ·rw [if_pos q2] at hab
     have hxy:=cmpH_eq q2
     subst hxy
     have k2 : cmpH x x <= 0:=by omega
     have hab2 : out ++ [x] ++ mrgH a b = m:=by rw [<- hab,List.append_assoc]; rfl
     have la' : pa < (X.set pb (some [.sl none (lHead b)])).length:=by simpa using la
     have eA2 : ∀ v,(X.set pb v)[pa]? = some (some [.sl none (lHead (x :: a))]):=fun v => by rw [List.getElem?_set_ne hne.symm]; exact a0
     have eA3 : ∀ v z,(X.set pb v ++ z)[pa]? = some (some [.sl none (lHead (x :: a))]):=fun v z => by rw [List.getElem?_append_left (by simpa using la)]; exact eA2 v
     have sA3 : ∀ w y v,(X.set pb w ++ [y]).set pa v = (X.set pb w).set pa v ++ [y]:=fun w y v => List.set_append_left _ _ (by simpa using la)
     have tA3 : ∀ w v x y,((X.set pb w).set pa v ++ [x]).set X.length y = (X.set pb w).set pa v ++ [y]:=fun w v x y => by
      have:=set_end ((X.set pb w).set pa v) x y
      rwa [List.length_set,List.length_set] at this
     have gA3 : ∀ w v x,((X.set pb w).set pa v ++ [x])[X.length]? = some x:=fun w v x => by rw [List.getElem?_append_right (by simp)]; simp
     simp only [go_sem,a0,b0,eA,eB,sA,sB,tA,tB,gA,gB,List.length_nil,List.length_cons,z1,z2,n1,n2,n3,n4,m1,m2,m3,m4,decide_true,decide_false]
     repeat' (first
      | (refine pK (c1) ?_; simp only [go_sem,a0,b0,eA,eB,sA,sB,tA,tB,gA,gB,List.length_nil,List.length_cons,z1,z2,n1,n2,n3,n4,m1,m2,m3,m4,k1,k2,decide_true,decide_false])
      | ((first | refine cS ?_ ?_ | refine gS ?_ ?_) <;> (intro hc; simp only [go_sem,hc,a0,b0,eA,eB,sA,sB,tA,tB,gA,gB,List.length_nil,List.length_cons,z1,z2,n1,n2,n3,n4,m1,m2,m3,m4,k1,k2,decide_true,decide_false])))
     rw [awp_regionD _ _ _ (by simp only [go_sem]) rfl rfl]
     simp only [go_sem,a0,b0,eA,eB,sA,sB,tA,tB,gA,gB,List.length_nil,List.length_cons,z1,z2,n1,n2,n3,n4,decide_true,decide_false]
     refine ⟨by omega,dyn_of [(some (2,1,false),some (5,10,true))] (by kernel_rfl) ?_, ?_⟩
     ·intro q hq
      rw [List.mem_singleton.1 hq]
      exact ⟨.inr rfl,.inl nB2⟩
     simp only [go_sem,a0,b0,eA,eB,sA,sB,tA,tB,gA,gB,List.length_nil,List.length_cons,z1,z2,n1,n2,n3,n4,k2,eA3,decide_true,decide_false]
     rw [awp_regionD _ _ _ (by simp only [go_sem]) rfl rfl]
     simp only [go_sem,a0,b0,eA,eB,sA,sB,tA,tB,gA,gB,List.length_nil,List.length_cons,z1,z2,m1,m2,m3,m4,eA3,sA3,tA3,gA3,decide_true,decide_false]
     refine ⟨by omega,dyn_of [(some (1,1,false),some (5,10,true))] (by kernel_rfl) ?_, ?_⟩
     ·intro q hq
      rw [List.mem_singleton.1 hq]
      exact ⟨.inr rfl,.inl nA2⟩
     simp only [go_sem,a0,b0,eA,eB,sA,sB,tA,tB,gA,gB,List.length_nil,List.length_cons,z1,z2,m1,m2,m3,m4,eA3,sA3,tA3,gA3,decide_true,decide_false]
     refine YCallK.intro (round out a b x _ ⟨_,hab2⟩ (hG _ _ _ _ _ (hsA _ _ _ _ a (hsB _ _ _ _ b hI)))) fun v X' hr => ?_
     obtain ⟨rfl,hi⟩:=hr
     simp only [go_sem]
     exact ⟨(out ++ [x],a,b,X',[(46,.bool false)]),⟨hi,hab2,by simp only [List.length_cons]; omega⟩,by simp only [List.length_cons]; omega,rfl,rfl⟩
    ·rw [if_neg q2] at hab
     have k2 : ¬ cmpH x y <= 0:=by omega
     have hab2 : out ++ [y] ++ mrgH (x :: a) b = m:=by rw [<- hab,List.append_assoc]; rfl
     simp only [go_sem,a0,b0,eA,eB,sA,sB,tA,tB,gA,gB,List.length_nil,List.length_cons,z1,z2,n1,n2,n3,n4,m1,m2,m3,m4,decide_true,decide_false]
     repeat' (first
      | (refine pK (c1) ?_; simp only [go_sem,a0,b0,eA,eB,sA,sB,tA,tB,gA,gB,List.length_nil,List.length_cons,z1,z2,n1,n2,n3,n4,m1,m2,m3,m4,k1,k2,decide_true,decide_false])
      | ((first | refine cS ?_ ?_ | refine gS ?_ ?_) <;> (intro hc; simp only [go_sem,hc,a0,b0,eA,eB,sA,sB,tA,tB,gA,gB,List.length_nil,List.length_cons,z1,z2,n1,n2,n3,n4,m1,m2,m3,m4,k1,k2,decide_true,decide_false])))
     rw [awp_regionD _ _ _ (by simp only [go_sem]) rfl rfl]
     simp only [go_sem,a0,b0,eA,eB,sA,sB,tA,tB,gA,gB,List.length_nil,List.length_cons,z1,z2,n1,n2,n3,n4,decide_true,decide_false]
     refine ⟨by omega,dyn_of [(some (2,1,false),some (5,10,true))] (by kernel_rfl) ?_, ?_⟩
     ·intro q hq
      rw [List.mem_singleton.1 hq]
      exact ⟨.inr rfl,.inl nB2⟩
     simp only [go_sem,a0,b0,eA,eB,sA,sB,tA,tB,gA,gB,List.length_nil,List.length_cons,z1,z2,n1,n2,n3,n4,k2,decide_true,decide_false]
     refine YCallK.intro (round out (x :: a) b y _ ⟨_,hab2⟩ (hG _ _ _ _ _ (hsB _ _ _ _ b hI))) fun v X' hr => ?_
     obtain ⟨rfl,hi⟩:=hr
     simp only [go_sem]
     exact ⟨(out ++ [y],x :: a,b,X',[(46,.bool false)]),⟨hi,hab2,by simp only [List.length_cons]; omega⟩,by simp only [List.length_cons]; omega,rfl,rfl⟩
end Go.AI
namespace Go.AI
open Go.Proofs
set_option maxRecDepth 50000
def cellsH (l : List Head) : List AV:=(l.map Head.c).flatten
theorem cellsH_cons (x : Head) (l : List Head) : cellsH (x :: l) = x.c ++ cellsH l:=rfl
theorem cellsH_len : ∀ l : List Head,(cellsH l).length = l.length * 10
 | [] => rfl
 | x :: l => by
  rw [cellsH_cons,List.length_append,cellsH_len l,List.length_cons]
  have : x.c.length = 10:=rfl
  omega
theorem cells_at : ∀ (l : List Head) (r : List AV) (k : Nat) (y : Head),l[k]? = some y -> ((cellsH l ++ r).drop (k * 10)).take 10 = y.c
 | [],_,_,_,h => by simp at h
 | x :: l,r,0,y,h => by
  simp only [List.getElem?_cons_zero,Option.some.injEq] at h
  subst h
  rfl
 | x :: l,r,k + 1,y,h => by
  rw [cellsH_cons,List.append_assoc]
  have e : (k + 1) * 10 = x.c.length + k * 10:=by
   have : x.c.length = 10:=rfl
   omega
  rw [e,<- List.drop_drop,List.drop_left]
  exact cells_at l r k y (by simpa using h)
theorem cells_le {l : List Head} (r : List AV) {k : Nat} {y : Head} (h : l[k]? = some y) : k * 10 + 10 <= (cellsH l ++ r).length:=by
 have:=(List.getElem?_eq_some_iff.1 h).1
 rw [List.length_append,cellsH_len]
 omega
def idxH (d : Head -> Bool) : Nat -> List Head -> Int
 | _,[] => -1
 | k,x :: r => if d x = true then (k : Int) else idxH d (k + 1) r
theorem p_IndexH (l : List Head) (hl : l.length <= 9223372036854775807) (r : List AV) (H : Heap) (o : Nat) (ho : H[o]? = some (some (cellsH l ++ r))) (f : Nat) (first cap : List AV) (d : Head -> Bool) (hd : ∀ x ∈ l,SCall Tryz.prog f (first.map AV.borrow ++ (.agg (Head.c x) :: cap.map AV.borrow)) H (.bool (d x))) :
  SCall Tryz.prog 300 [.msl o 0 l.length 10,.fn (.func f) first cap] H (.int .i64 (idxH d 0 l)):=by
 refine aC h300_k rfl ?_
 simp only [Tryz.f300,go_sem]
 refine awp_all l (fun r => idxH d (l.length - r.length) r) (fun k => [(0,.msl o 0 l.length 10),(1,.fn (.func f) first cap),(7,.int .i64 l.length),(8,.int .i64 k)]) hl rfl ?_ ?_
 ·intro k y ys hdr hx hF h0 h1 hw
  have c1:=hd y (List.mem_of_getElem? hx)
  have g1:=cells_le r hx
  have g2:=cells_at l r k y hx
  have hk2:=drop_len hdr
  have e1 : l.length - (ys.length + 1) = k:=by omega
  have e2 : l.length - ys.length = k + 1:=by omega
  simp only [List.length_cons,e1,Nat.sub_self] at hF
  simp only [go_sem,h0,h1,ho,g1,g2,e1,e2]
  repeat' (first
   | (refine aS (c1) ?_; simp only [go_sem,h0,h1,hw,ho,g1,g2,e1,e2])
   | ((first | refine cS ?_ ?_ | refine gS ?_ ?_) <;> (intro hc; simp only [go_sem,hc,h0,h1,hw,ho,g1,g2,e1,e2])))
  ·rw [hF,idxH,if_pos hc]
  ·rw [idxH,if_neg (by rw [hc]; decide)]
 ·intro hF hlt
  simp only [go_sem,hlt,decide_false]
  rw [Nat.sub_self] at hF
  rw [hF]; rfl
end Go.AI
namespace Go.AI
open Go.Proofs
set_option maxRecDepth 50000
def hM2 : Hint:={ h183 with tk:=[] }
@[go_sem] theorem hM2_l : hM2.lv 3 = [5,6] /\ hM2.lv 4 = [0]:=by decide +kernel
set_option linter.defProp false in
@[go_sem] def hM2_q:=hplain hM2 rfl rfl rfl
@[go_sem] theorem hM2_t : hM2.tk = [] /\ hM2.mt = [5,14] /\ hM2.pc = []:=⟨rfl,rfl,rfl⟩
theorem p_merged (a b : List Head) (H : Heap) : ACall Tryz.prog 249 [.sl none (lHead a),.sl none (lHead b)] H fun v H' => v = .fn (.func 298) [] [.ptr H.length 0,.ptr (H.length + 1) 0] /\ H' = H ++ [mCell a,mCell b]:=by
 refine aC h249_k rfl ?_
 simp only [Tryz.f249,go_sem,List.length_append,List.append_assoc,List.cons_append,List.nil_append]
 all_goals first | rfl | exact ⟨rfl,rfl⟩
theorem rfK_at {P : Program} {n tag N : Nat} {h : Hint} {g : Operand} {rs : Array Tmp} {assign body : Code} {Q : Exit -> Kt} {e : Env} {H : Heap} {f : FuncId} {first captured : List AV} (hN : H.length = N)
  (hg : evo P none e g = .fn (.func f) first captured)
  (hc : ACall P f (first.map AV.borrow ++ [.yld N ⟨tag,rs,assign,body⟩] ++ captured.map AV.borrow) (H ++ [some (loopc 0 (frameVals n e))]) (fun _ H2 => rfPost N Q e H2)) : rfK P n h none g rs assign body Q e H:=by
 subst hN
 exact rfK_intro hg hc
def MI (H : Heap) (fv : List AV) (out a b : List Head) (X : Heap) : Prop :=
 H.length + 4 <= X.length /\ X.take H.length = H /\ X[H.length + 1]? = some (mCell a) /\ X[H.length + 2]? = some (mCell b) /\ X[H.length + 3]? = some (some (loopc 0 fv)) /\
  ∃ ov,X[H.length]? = some (some [ov]) /\ ((out = [] /\ ov = .sl (some 0) []) \/ ∃ ob,ov = .msl ob 0 out.length 10 /\ out ≠ [] /\ H.length + 4 <= ob /\ X[ob]? = some (some (cellsH out)))
theorem get_grow {X : Heap} {i : Nat} {c : Option (List AV)} (h : X[i]? = some c) (z : Heap) : (X ++ z)[i]? = some c:=by
 rw [List.getElem?_append_left (List.getElem?_eq_some_iff.1 h).1]; exact h
theorem get_other {X : Heap} {i j : Nat} {c : Option (List AV)} (h : X[i]? = some c) (hne : j ≠ i) (v : Option (List AV)) : (X.set j v)[i]? = some c:=by
 rw [List.getElem?_set_ne hne]; exact h
theorem get_self {X : Heap} {i : Nat} (h : i < X.length) (v : Option (List AV)) : (X.set i v)[i]? = some v:=by
 rw [List.getElem?_set_self h]
theorem MI.grow {H : Heap} {fv : List AV} {out a b : List Head} {X : Heap} (h : MI H fv out a b X) (x : Option (List AV)) : MI H fv out a b (X ++ [x]):=by
 obtain ⟨h1,h2,h3,h4,h5,ov,h6,h7⟩:=h
 refine ⟨by simp; omega,by rw [List.take_append_of_le_length (by omega)]; exact h2,get_grow h3 _,get_grow h4 _,get_grow h5 _,ov,get_grow h6 _, ?_⟩
 rcases h7 with h7 | ⟨ob,g1,g2,g3,g4⟩
 ·exact .inl h7
 ·exact .inr ⟨ob,g1,g2,g3,get_grow g4 _⟩
theorem MI.setA {H : Heap} {fv : List AV} {out a b : List Head} {X : Heap} (h : MI H fv out a b X) (a' : List Head) : MI H fv out a' b (X.set (H.length + 1) (mCell a')):=by
 obtain ⟨h1,h2,h3,h4,h5,ov,h6,h7⟩:=h
 refine ⟨by simpa using h1,by rw [List.take_set_of_le (by omega)]; exact h2,get_self (by omega) _,get_other h4 (by omega) _,get_other h5 (by omega) _,ov,get_other h6 (by omega) _, ?_⟩
 rcases h7 with h7 | ⟨ob,g1,g2,g3,g4⟩
 ·exact .inl h7
 ·exact .inr ⟨ob,g1,g2,g3,get_other g4 (by omega) _⟩
theorem MI.setB {H : Heap} {fv : List AV} {out a b : List Head} {X : Heap} (h : MI H fv out a b X) (b' : List Head) : MI H fv out a b' (X.set (H.length + 2) (mCell b')):=by
 obtain ⟨h1,h2,h3,h4,h5,ov,h6,h7⟩:=h
 refine ⟨by simpa using h1,by rw [List.take_set_of_le (by omega)]; exact h2,get_other h3 (by omega) _,get_self (by omega) _,get_other h5 (by omega) _,ov,get_other h6 (by omega) _, ?_⟩
 rcases h7 with h7 | ⟨ob,g1,g2,g3,g4⟩
 ·exact .inl h7
 ·exact .inr ⟨ob,g1,g2,g3,get_other g4 (by omega) _⟩
theorem MI.put {H : Heap} {fv : List AV} {a b : List Head} {X : Heap} (h1 : H.length + 4 <= X.length) (h2 : X.take H.length = H) (h3 : X[H.length + 1]? = some (mCell a)) (h4 : X[H.length + 2]? = some (mCell b)) (z : Heap) {out : List Head} {ob : Nat} (hne : out ≠ []) (hob : H.length + 4 <= ob)
  (hr : ((X.set H.length (some [.msl ob 0 out.length 10])).set (H.length + 3) (some (loopc 0 fv)) ++ z)[ob]? = some (some (cellsH out))) : MI H fv out a b ((X.set H.length (some [.msl ob 0 out.length 10])).set (H.length + 3) (some (loopc 0 fv)) ++ z):=by
 refine ⟨by simp; omega, ?_,get_grow (get_other (get_other h3 (by omega) _) (by omega) _) _,get_grow (get_other (get_other h4 (by omega) _) (by omega) _) _,get_grow (get_self (by simp; omega) _) _,_,get_grow (get_other (get_self (by omega) _) (by omega) _) _,.inr ⟨ob,rfl,hne,hob,hr⟩⟩
 rw [List.take_append_of_le_length (by simp; omega),List.take_set_of_le (by omega),List.take_set_of_le (by omega)]
 exact h2
theorem cellsH_b : ∀ l : List Head,(cellsH l).map borrow1 = cellsH l
 | [] => rfl
 | x :: l => by
  rw [cellsH_cons,List.map_append,cellsH_b l]
  rfl
theorem cellsH_snoc (l : List Head) (x : Head) : cellsH (l ++ [x]) = cellsH l ++ x.c:=by
 unfold cellsH
 simp
theorem ext_take {H X : Heap} (h : X.take H.length = H) : ∃ ext,X = H ++ ext:=⟨X.drop H.length,by
 have:=List.take_append_drop H.length X
 rw [h] at this
 exact this.symm⟩
def mFv (n : Nat) : List AV:=frameVals 16 [(5,.ptr n 0),(9,.fn (.func 298) [] [.ptr (n + 1) 0,.ptr (n + 2) 0])]
theorem p_MergeRow (a b : List Head) (hl : a.length + b.length <= 1048576) (H : Heap) : ACall Tryz.prog 183 [.sl none (lHead a),.sl none (lHead b)] H fun v H' => rowV ((mrgH a b).map Head.c) v H H':=by
 have hml : (mrgH a b).length <= 1048576:=Nat.le_trans (mrgH_len _ a b) hl
 refine aC h183_k rfl ?_
 simp only [Tryz.f183,go_sem]
 refine ⟨by first | rfl | kernel_rfl,ACallK.intro (p_merged a b _) fun v H' hr => ?_⟩
 obtain ⟨rfl,rfl⟩:=hr
 simp only [go_sem,List.length_append,List.append_assoc,List.cons_append,List.nil_append,List.length_cons,List.length_nil,Nat.add_assoc,Nat.reduceAdd]
 refine rfK_at (tag:=183) (N:=H.length + 3) (by simp) rfl (ACall.mono (p_mergedIt (H.length + 3) (H.length + 1) (H.length + 2) _ (MI H (mFv H.length)) (by omega) (mrgH a b) (by omega) (fun _ _ _ _ h => h.2.2.1) (fun _ _ _ _ h => h.2.2.2.1) (fun _ _ _ _ x h => h.grow x) (fun _ _ _ _ a' h => h.setA a') (fun _ _ _ _ b' h => h.setB b') ?_ a b _ rfl (by omega) ?_) fun v H2 hq => ?_)
 ·intro out a b x X hpre hI
  have hlen:=hpre.length_le
  simp only [List.length_append,List.length_cons,List.length_nil] at hlen
  obtain ⟨h1,h2,h3,h4,h5,ov,h6,h7⟩:=hI
  have f1 : ∀ z,(X ++ z)[H.length + 3]? = some (some (loopc 0 (mFv H.length))):=get_grow h5
  have f2 : ∀ y v,(X ++ [y]).set (H.length + 3) v = X.set (H.length + 3) v ++ [y]:=fun y v => List.set_append_left _ _ (by omega)
  have f3 : ∀ v z,(X.set (H.length + 3) v ++ z)[H.length]? = some (some [ov]):=fun v z => get_grow (get_other h6 (by omega) v) z
  have f4 : ∀ v y,(X.set (H.length + 3) v ++ [y])[X.length]? = some y:=fun v y => by
   have : X.length = (X.set (H.length + 3) v).length:=by simp
   rw [this]; exact List.getElem?_concat_length
  rcases h7 with ⟨rfl,rfl⟩ | ⟨ob,rfl,hne,hob,hrow⟩
  ·have f5 : ∀ v z w,(X.set (H.length + 3) v ++ z).set H.length w = (X.set (H.length + 3) v).set H.length w ++ z:=fun v z w => List.set_append_left _ _ (by simp; omega)
   have f6 : ∀ v w z,((X.set (H.length + 3) v).set H.length w ++ z)[H.length + 3]? = some v:=fun v w z => get_grow (get_other (get_self (by omega) v) (by omega) w) z
   have f7 : ∀ v w z u,((X.set (H.length + 3) v).set H.length w ++ z).set (H.length + 3) u = (X.set H.length w).set (H.length + 3) u ++ z:=fun v w z u => by
    rw [List.set_append_left _ _ (by simp; omega),List.set_comm _ _ (by omega),List.set_set,List.set_comm _ _ (by omega)]
   have f8 : ∀ v w y z,((X.set (H.length + 3) v).set H.length w ++ (y :: z))[X.length]? = some y:=fun v w y z => by
    have : X.length = ((X.set (H.length + 3) v).set H.length w).length:=by simp
    rw [this,List.getElem?_append_right (Nat.le_refl _),Nat.sub_self]; rfl
   have f9 : ∀ v w z u,((X.set (H.length + 3) v).set H.length w ++ z).set H.length u = (X.set (H.length + 3) v).set H.length u ++ z:=fun v w z u => by
    rw [List.set_append_left _ _ (by simp; omega),List.set_set]
   have f10 : ∀ v w z,((X.set (H.length + 3) v).set H.length w ++ z)[H.length]? = some w:=fun v w z => get_grow (get_self (by simp; omega) w) z
   have hc1 : x.c.length = 10:=rfl
   have hc2 : x.c.take 10 = x.c:=rfl
   have hb1 : List.map borrow1 (cat [AV.agg x.c]) = cellsH [x]:=rfl
   refine ycall_of_awp (h:=h183) (n:=16) mixed rfl ⟨by kernel_rfl,by kernel_rfl⟩ (by decide) _ _ _ _ h5 rfl rfl ?_
   show awp _ _ _ _ _ _ [(10,.agg x.c),(0,.undef),(1,.undef),(2,.undef),(3,.undef),(4,.undef),(5,.ptr H.length 0),(6,.undef),(7,.undef),(8,.undef),(9,.fn (.func 298) [] [.ptr (H.length + 1) 0,.ptr (H.length + 2) 0]),(10,.undef),(11,.undef),(12,.undef),(13,.undef),(14,.undef),(15,.undef)] _
   simp only [go_sem,f1]
   refine ⟨_,rfl, ?_⟩
   simp only [go_sem,f1,f2,f3,f4,f5,f6,f7,f8,f9,f10,hb1,hc1,hc2,List.append_assoc,List.cons_append,List.nil_append,List.length_append,List.length_set,List.length_cons,List.length_nil,Nat.zero_add]
   refine ⟨_,rfl, ?_⟩
   have hlX : ∀ w u,((X.set H.length w).set (H.length + 3) u).length = X.length:=fun w u => by simp
   have:=MI.put (fv:=mFv H.length) h1 h2 h3 h4 [some x.c,some (cellsH [x])] (out:=[x]) (ob:=X.length + 1) (by simp) (by omega) (by rw [List.getElem?_append_right (by rw [hlX]; omega),hlX,Nat.add_sub_cancel_left]; rfl)
   exact this
  ·have hX2 : ∀ v,X.set (H.length + 3) v = X.set (H.length + 3) v:=fun _ => rfl
   have hoX:=(List.getElem?_eq_some_iff.1 hrow).1
   have f5 : ∀ v z,(X.set (H.length + 3) v ++ z)[ob]? = some (some (cellsH out)):=fun v z => get_grow (get_other hrow (by omega) v) z
   have f6 : ∀ v z,(X.set (H.length + 3) v ++ z).set ob none = (X.set (H.length + 3) v).set ob none ++ z:=fun v z => List.set_append_left _ _ (by simp; omega)
   have f8 : ∀ v z,((X.set (H.length + 3) v).set ob none ++ z)[H.length]? = some (some [.msl ob 0 out.length 10]):=fun v z => get_grow (get_other (get_other h6 (by omega) v) (by omega) none) z
   have f9 : ∀ v z w,((X.set (H.length + 3) v).set ob none ++ z).set H.length w = ((X.set (H.length + 3) v).set ob none).set H.length w ++ z:=fun v z w => List.set_append_left _ _ (by simp; omega)
   have f10 : ∀ v w z,(((X.set (H.length + 3) v).set ob none).set H.length w ++ z)[H.length + 3]? = some v:=fun v w z => get_grow (get_other (get_other (get_self (by omega) v) (by omega) none) (by omega) w) z
   have f11 : ∀ v w z u,(((X.set (H.length + 3) v).set ob none).set H.length w ++ z).set (H.length + 3) u = ((X.set ob none).set H.length w).set (H.length + 3) u ++ z:=fun v w z u => by
    rw [List.set_append_left _ _ (by simp; omega)]
    congr 1
    rw [List.set_comm _ _ (show H.length ≠ H.length + 3 by omega),List.set_comm _ _ (show ob ≠ H.length + 3 by omega),List.set_set,List.set_comm _ _ (show H.length + 3 ≠ ob by omega),List.set_comm _ _ (show H.length + 3 ≠ H.length by omega)]
   have hcl : (cellsH out).length = out.length * 10:=cellsH_len out
   have hcb : (cellsH out).map borrow1 = cellsH out:=cellsH_b out
   have hc1 : x.c.length = 10:=rfl
   have hc2 : x.c.take 10 = x.c:=rfl
   have hb1 : List.map borrow1 (cat [AV.agg x.c]) = x.c:=rfl
   refine ycall_of_awp (h:=hM2) (n:=16) mixed rfl ⟨by kernel_rfl,by kernel_rfl⟩ (by decide) _ _ _ _ h5 rfl rfl ?_
   show awp _ _ _ _ _ _ [(10,.agg x.c),(0,.undef),(1,.undef),(2,.undef),(3,.undef),(4,.undef),(5,.ptr H.length 0),(6,.undef),(7,.undef),(8,.undef),(9,.fn (.func 298) [] [.ptr (H.length + 1) 0,.ptr (H.length + 2) 0]),(10,.undef),(11,.undef),(12,.undef),(13,.undef),(14,.undef),(15,.undef)] _
   simp only [go_sem,f1]
   refine ⟨_,rfl, ?_⟩
   simp only [go_sem,f1,f2,f3,f4,f5,f6,f8,f9,f10,f11,hcl,hcb,hc1,hc2,hb1,List.append_assoc,List.cons_append,List.nil_append,List.length_append,List.length_set,List.length_cons,List.length_nil,Nat.zero_add]
   have hX1 : H.length + 4 <= (X.set ob none).length:=by simpa using h1
   have hX2 : (X.set ob none).take H.length = H:=by rw [List.take_set_of_le (by omega)]; exact h2
   have hlX : ∀ w u,(((X.set ob none).set H.length w).set (H.length + 3) u).length = X.length:=fun w u => by simp
   refine ⟨by omega,by omega,_,rfl, ?_⟩
   have:=MI.put (fv:=mFv H.length) hX1 hX2 (get_other h3 (by omega) none) (get_other h4 (by omega) none) [some x.c,some (cellsH out ++ x.c)] (out:=out ++ [x]) (ob:=X.length + 1) (by simp) (by omega) (by rw [List.getElem?_append_right (by rw [hlX]; omega),hlX,Nat.add_sub_cancel_left,cellsH_snoc]; rfl)
   simpa only [List.length_append,List.length_cons,List.length_nil,Nat.zero_add] using this
 ·refine ⟨by simp,by rw [List.append_assoc,List.take_left], ?_, ?_, ?_,.sl (some 0) [], ?_,.inl ⟨rfl,rfl⟩⟩
  ·rw [List.append_assoc,List.getElem?_append_right (by omega),Nat.add_sub_cancel_left]; rfl
  ·rw [List.append_assoc,List.getElem?_append_right (by omega),Nat.add_sub_cancel_left]; rfl
  ·rw [List.append_assoc,List.getElem?_append_right (by omega),Nat.add_sub_cancel_left]; rfl
  ·rw [List.append_assoc,List.getElem?_append_right (Nat.le_refl _),Nat.sub_self]; rfl
 ·obtain ⟨h1,h2,h3,h4,h5,ov,h6,h7⟩:=hq
  refine ⟨0,_,h5,.inl ⟨rfl, ?_⟩⟩
  have hext : ∃ ext,H2.set (H.length + 3) none = H ++ ext:=ext_take (by rw [List.take_set_of_le (by omega)]; exact h2)
  have g6:=get_other h6 (show H.length + 3 ≠ H.length by omega) none
  rcases h7 with ⟨e,rfl⟩ | ⟨ob,rfl,hne,hob,hrow⟩
  ·simp only [go_sem,g6]
   exact .inl ⟨by rw [e]; rfl,⟨_,rfl⟩,hext⟩
  ·simp only [go_sem,g6]
   exact .inr ⟨ob,_,by rw [List.length_map],by omega,hext,get_other hrow (by omega) none,[],(List.append_nil _).symm⟩
theorem headsC_len {l : List Head} : ∀ e ∈ l.map Head.c,e.length = 10:=fun e he => by
 obtain ⟨x,_,rfl⟩:=List.mem_map.1 he
 rfl
theorem headsC_b {l : List Head} : ∀ e ∈ l.map Head.c,e.map borrow1 = e:=fun e he => by
 obtain ⟨x,_,rfl⟩:=List.mem_map.1 he
 rfl
theorem headsC_bnd {l : List Head} {n : Nat} : ∀ e ∈ l.map Head.c,bndL n e = true:=fun e he => by
 obtain ⟨x,_,rfl⟩:=List.mem_map.1 he
 rfl
theorem headsC_l (l : List Head) : (l.map Head.c).map AV.agg = lHead l:=by rw [List.map_map]; rfl
theorem p_Merge (a b : List Head) (hl : a.length + b.length <= 1048576) (H : Heap) : SCall Tryz.prog 183 [.sl none (lHead a),.sl none (lHead b)] H (.sl none (lHead (mrgH a b))):=by
 have:=ACall.frz headsC_len headsC_bnd headsC_b (p_MergeRow a b hl H)
 rw [headsC_l] at this
 exact this
end Go.AI
namespace Go.AI
open Go.Proofs
set_option maxRecDepth 50000
def resA : Option (List Head) -> AV
 | some r => .tup [.sl none (lHead r),.bool true]
 | none => .tup [.sl none [],.bool false]
@[go_sem] theorem resA_pure (o : Option (List Head)) : (resA o).pure = true:=by
 cases o <;> simp [resA,AV.pure,pureL,go_sem]
end Go.AI
namespace Go.AI
open Go.Proofs
set_option maxRecDepth 50000
theorem p_smallL (r : List Head) (b : Bool) : PCall Tryz.prog 182 [.sl none (lHead r),.bool b] (resA (if b = true then bndO r else none)):=by
 refine pB h182_k rfl ?_
 cases b with
 | false =>
  simp only [Tryz.f182,go_sem]
  rfl
 | true =>
  simp only [Tryz.f182,go_sem]
  repeat' (first
   | ((first | refine cS ?_ ?_ | refine gS ?_ ?_) <;> (intro hc; simp only [go_sem,hc])))
  ·rw [bndO,if_pos (by have:=of_decide_eq_true hc; omega)]; rfl
  ·rw [bndO,if_neg (by have:=of_decide_eq_false hc; omega)]; rfl
theorem p_smallR (o n : Nat) (b : Bool) (H : Heap) : ACall Tryz.prog 182 [.msl o 0 n 10,.bool b] H fun v H' => H' = H /\ ((b = true /\ n <= 256 /\ v = .tup [.msl o 0 n 10,.bool true]) \/ ((b = false \/ 256 < n) /\ ∃ w,v = .tup [.sl w [],.bool false])):=by
 refine aC h182_k rfl ?_
 cases b with
 | false =>
  simp only [Tryz.f182,go_sem]
  exact .inr ⟨.inl trivial,_,rfl⟩
 | true =>
  simp only [Tryz.f182,go_sem]
  repeat' (first
   | ((first | refine cS ?_ ?_ | refine gS ?_ ?_) <;> (intro hc; simp only [go_sem,hc])))
  ·have hc:=of_decide_eq_true hc
   first | exact ⟨rfl,.inr ⟨.inr (by omega),_,rfl⟩⟩ | exact .inr ⟨.inr (by omega),_,rfl⟩ | skip
  ·have hc:=of_decide_eq_false hc
   exact .inl (by omega)
theorem p_smallN (w : Option Nat) (b : Bool) (H : Heap) : ACall Tryz.prog 182 [.sl w [],.bool b] H fun v H' => H' = H /\ ∃ w2,v = .tup [.sl w2 [],.bool b]:=by
 have z1 : decide ((256 : Int) < ((0 : Nat) : Int)) = false:=by decide
 refine aC h182_k rfl ?_
 cases b <;> cases w <;> simp only [Tryz.f182,go_sem,List.length_nil,z1]
 all_goals first | exact ⟨_,rfl⟩ | exact ⟨rfl,_,rfl⟩ | skip
theorem take_succ_set {α : Type} (l : List α) (i : Nat) (x : α) (h : i < l.length) : (l.set i x).take (i + 1) = l.take i ++ [x]:=by
 rw [List.take_add_one,List.getElem?_set_self h,List.take_set_of_le (Nat.le_refl _)]; rfl
theorem cells_take : ∀ (l : List Head) (r : List AV) (i : Nat),i <= l.length -> (cellsH l ++ r).take (i * 10) = cellsH (l.take i)
 | _,r,0,_ => by simp [cellsH]
 | [],r,i + 1,h => by simp at h
 | x :: l,r,i + 1,h => by
  have e : (i + 1) * 10 = x.c.length + i * 10:=by
   have : x.c.length = 10:=rfl
   omega
  rw [cellsH_cons,List.append_assoc,e,List.take_length_add_append,cells_take l r i (by simpa using h),List.take_succ_cons,cellsH_cons]
theorem cells_drop : ∀ (l : List Head) (r : List AV) (i : Nat),i <= l.length -> (cellsH l ++ r).drop (i * 10) = cellsH (l.drop i) ++ r
 | _,r,0,_ => by simp
 | [],r,i + 1,h => by simp at h
 | x :: l,r,i + 1,h => by
  have e : (i + 1) * 10 = x.c.length + i * 10:=by
   have : x.c.length = 10:=rfl
   omega
  rw [cellsH_cons,List.append_assoc,e,List.drop_length_add_append,cells_drop l r i (by simpa using h),List.drop_succ_cons]
theorem cellsH_app (a b : List Head) : cellsH (a ++ b) = cellsH a ++ cellsH b:=by unfold cellsH; simp
theorem splice_cells {l : List Head} (r : List AV) {i : Nat} (h : i < l.length) (x : Head) : splice (cellsH l ++ r) (i * 10) x.c = cellsH (l.set i x) ++ r:=by
 have e : i * 10 + x.c.length = (i + 1) * 10:=by
  have : x.c.length = 10:=rfl
  omega
 unfold splice
 rw [e,cells_take l r i (by omega),cells_drop l r (i + 1) (by omega),List.set_eq_take_append_cons_drop,if_pos h,cellsH_app,cellsH_cons]
 simp only [List.append_assoc]
theorem idxH_spec (d : Head -> Bool) : ∀ (l : List Head) (k : Nat),(idxH d k l = -1 /\ ∀ x ∈ l,d x = false) \/ ∃ (i : Nat) (x : Head),idxH d k l = ((k + i : Nat) : Int) /\ l[i]? = some x /\ d x = true /\ ∀ y ∈ l.take i,d y = false
 | [],k => .inl ⟨rfl,by simp⟩
 | x :: r,k => by
  rw [idxH]
  by_cases h : d x = true
  ·rw [if_pos h]
   exact .inr ⟨0,x,rfl,rfl,h,by simp⟩
  ·rw [if_neg h]
   have h : d x = false:=by simpa using h
   rcases idxH_spec d r (k + 1) with ⟨e,h2⟩ | ⟨i,y,e,h2,h3,h4⟩
   ·exact .inl ⟨e,by simpa [h] using h2⟩
   ·refine .inr ⟨i + 1,y,by rw [e]; congr 1; omega,h2,h3, ?_⟩
    rw [List.take_succ_cons]
    intro z hz
    rcases List.mem_cons.1 hz with rfl | hz
    ·exact h
    ·exact h4 z hz
theorem p_IndexNil (H : Heap) (f : Nat) (first cap : List AV) : SCall Tryz.prog 300 [.sl none [],.fn (.func f) first cap] H (.int .i64 (-1)):=by
 refine aC h300_k rfl ?_
 simp only [Tryz.f300,go_sem]
 refine awp_all ([] : List Head) (fun _ => ()) (fun k => [(0,.sl none []),(1,.fn (.func f) first cap),(7,.int .i64 ((0 : Nat) : Int)),(8,.int .i64 k)]) (by simp) rfl ?_ ?_
 ·intro k y ys hd
  rw [List.drop_nil] at hd; cases hd
 ·intro _ hlt
  have z2 : decide (((0 : Nat) : Int) < ((0 : Nat) : Int)) = false:=by decide
  simp only [go_sem,z2]
theorem p_DeleteNone (w : Option Nat) (H : Heap) (f : Nat) (first cap : List AV) : ACall Tryz.prog 250 [.sl w [],.fn (.func f) first cap] H fun v H' => H' = H /\ ∃ w2,v = .sl w2 []:=by
 have c1:=p_IndexNil H f first cap
 have z1 : ((-1 : Int) == -1) = true:=rfl
 refine aC h250_k rfl ?_
 cases w with
 | none =>
  simp only [Tryz.f250,go_sem]
  repeat' (first
   | (refine aS (c1) ?_; simp only [go_sem,z1])
   | ((first | refine cS ?_ ?_ | refine gS ?_ ?_) <;> (intro hc; simp only [go_sem,hc,z1])))
  all_goals first | exact ⟨_,rfl⟩ | exact ⟨rfl,_,rfl⟩ | skip
 | some w =>
  simp only [Tryz.f250,go_sem]
  repeat' (first
   | (refine aS (c1) ?_; simp only [go_sem,z1])
   | ((first | refine cS ?_ ?_ | refine gS ?_ ?_) <;> (intro hc; simp only [go_sem,hc,z1])))
  all_goals first | exact ⟨_,rfl⟩ | exact ⟨rfl,_,rfl⟩ | skip
theorem p_DeleteH (l : List Head) (hl : l.length <= 1048576) (r : List AV) (H : Heap) (o : Nat) (ho : H[o]? = some (some (cellsH l ++ r))) (f : Nat) (first cap : List AV) (d : Head -> Bool)
  (hd : ∀ x ∈ l,∀ c J,SCall Tryz.prog f (first.map AV.borrow ++ (.agg (Head.c x) :: cap.map AV.borrow)) (H.set o (some c) ++ J) (.bool (d x))) :
  ACall Tryz.prog 250 [.msl o 0 l.length 10,.fn (.func f) first cap] H fun v H' => ∃ r' J,v = .msl o 0 (l.filter fun x => !d x).length 10 /\ H' = H.set o (some (cellsH (l.filter fun x => !d x) ++ r')) ++ J:=by
 have hset : H.set o (some (cellsH l ++ r)) = H:=by
  obtain ⟨hlt,he⟩:=List.getElem?_eq_some_iff.1 ho
  apply List.ext_getElem?
  intro i
  rw [List.getElem?_set]
  split
  ·rename_i hi; subst hi; rw [ho]
  ·rfl
 have hd0 : ∀ x ∈ l,SCall Tryz.prog f (first.map AV.borrow ++ (.agg (Head.c x) :: cap.map AV.borrow)) H (.bool (d x)):=fun x hx => by
  have:=hd x hx (cellsH l ++ r) []
  rw [hset,List.append_nil] at this
  exact this
 have c1:=p_IndexH l (by omega) r H o ho f first cap d hd0
 refine aC h250_k rfl ?_
 rcases idxH_spec d l 0 with ⟨e,hall⟩ | ⟨i,x,e,hx,hdx,hpre⟩
 ·rw [e] at c1
  have hf : l.filter (fun x => !d x) = l:=List.filter_eq_self.2 fun x hx => by rw [hall x hx]; rfl
  simp only [Tryz.f250,go_sem]
  repeat' (first
   | (refine aS (c1) ?_; simp only [go_sem,Int.reduceBEq])
   | ((first | refine cS ?_ ?_ | refine gS ?_ ?_) <;> (intro hc; simp only [go_sem,hc,Int.reduceBEq])))
  all_goals first | exact ⟨r,[],by rw [hf],by rw [hf,hset,List.append_nil]⟩ | skip
 ·rw [e,Nat.zero_add] at c1
  have hn1 : (((i : Nat) : Int) == -1) = false:=by rw [beq_eq_false_iff_ne]; omega
  have hi:=(List.getElem?_eq_some_iff.1 hx).1
  have hw0:=w64s (k:=i) (by omega)
  simp only [Tryz.f250,go_sem]
  repeat' (first
   | (refine aS (c1) ?_; simp only [go_sem,hn1,hw0])
   | ((first | refine cS ?_ ?_ | refine gS ?_ ?_) <;> (intro hc; simp only [go_sem,hc,hn1,hw0])))
  refine awp_wh (σ:=Nat × Nat × List Head × Heap × Env) (fun s => (0,.msl o 0 l.length 10) :: (1,.fn (.func f) first cap) :: (5,.int .i64 s.1) :: (6,.int .i64 s.2.1) :: s.2.2.2.2) (fun s => H.set o (some (cellsH s.2.2.1 ++ r)) ++ s.2.2.2.1)
   (fun s => s.1 < s.2.1 /\ s.2.1 <= l.length /\ s.2.2.1.length = l.length /\ s.2.2.1.take s.1 = (l.take s.2.1).filter (fun x => !d x) /\ s.2.2.1.drop s.2.1 = l.drop s.2.1) (fun s => l.length - s.2.1) (i,i + 1,l,[],[]) ⟨by dsimp only; omega,by dsimp only; omega,rfl, ?_,rfl⟩ ?_ ?_ ?_
  ·dsimp only
   rw [List.take_add_one,hx,List.filter_append]
   have h1 : (l.take i).filter (fun x => !d x) = l.take i:=List.filter_eq_self.2 fun z hz => by rw [hpre z hz]; rfl
   rw [h1]
   simp [hdx]
  ·rfl
  ·dsimp only
   rw [hset,List.append_nil]
  ·rintro ⟨i,j,row,J,rest⟩ ⟨hij,hj,hrl,htk,hdr⟩
   dsimp only at hij hj hrl htk hdr ⊢
   have hoL:=(List.getElem?_eq_some_iff.1 ho).1
   have fO : ∀ c z,(H.set o c ++ z)[o]? = some c:=fun c z => get_grow (get_self hoL c) z
   have fW : ∀ c z c',(H.set o c ++ z).set o c' = H.set o c' ++ z:=fun c z c' => by rw [List.set_append_left _ _ (by simpa using hoL),List.set_set]
   by_cases hlt : j < l.length
   ·have hy:=List.getElem?_eq_getElem hlt
    have hry : row[j]? = some l[j]:=by
     have:=congrArg (·[0]?) hdr
     simpa [hy] using this
    have j0 : (0 : Int) <= (j : Int):=by omega
    have j1 : (j : Int) < (l.length : Int):=by omega
    have k0 : (0 : Int) <= (i : Int):=by omega
    have k1 : (i : Int) < (l.length : Int):=by omega
    have hwj:=w64s (k:=j) (by omega)
    have hwi:=w64s (k:=i) (by omega)
    have g1:=cells_le r hry
    rw [List.length_append] at g1
    have g2:=cells_at row r j _ hry
    have fS : ∀ c z y,(H.set o c ++ (J ++ [z])).set (H.length + J.length) y = H.set o c ++ (J ++ [y]):=fun c z y => by
     rw [<- List.append_assoc,<- List.append_assoc]
     simp
    have fL : ∀ c y,(H.set o c ++ (J ++ [y]))[H.length + J.length]? = some y:=fun c y => by
     rw [<- List.append_assoc]
     have : H.length + J.length = (H.set o c ++ J).length:=by simp
     rw [this]; exact List.getElem?_concat_length
    have c2:=hd _ (List.mem_of_getElem? hy) (cellsH row ++ r) (J ++ [some (Head.c l[j])])
    have hfil : (l.take (j + 1)).filter (fun x => !d x) = (l.take j).filter (fun x => !d x) ++ (if d l[j] = true then [] else [l[j]]):=by
     rw [List.take_add_one,hy,List.filter_append]
     congr 1
     cases hd2 : d l[j] <;> simp [hd2]
    have hc1 : (Head.c l[j]).length = 10:=rfl
    have hc2 : (Head.c l[j]).take 10 = Head.c l[j]:=rfl
    cases hdy : d l[j] with
    | false =>
     rw [hdy] at c2
     simp only [go_sem,j0,j1,k0,k1,decide_true,fO,g1,g2,fS,fL,fW,hc1,hc2,List.append_assoc,List.length_append,List.length_set]
     repeat' (first
      | (refine aS (c2) ?_; simp only [go_sem,j0,j1,k0,k1,decide_true,fO,g1,g2,fS,fL,fW,hwi,hwj,hc1,hc2,List.append_assoc,List.length_append,List.length_set])
      | ((first | refine cS ?_ ?_ | refine gS ?_ ?_) <;> (intro hc; simp only [go_sem,hc,j0,j1,k0,k1,decide_true,fO,g1,g2,fS,fL,fW,hwi,hwj,hc1,hc2,List.append_assoc,List.length_append,List.length_set])))
     have k2 : i * 10 + 10 <= (cellsH row).length + r.length:=by rw [cellsH_len]; omega
     rw [if_pos k2,splice_cells r (by omega)]
     refine ⟨(i + 1,j + 1,row.set i l[j],J ++ [some (Head.c l[j])],[]),⟨by dsimp only; omega,by dsimp only; omega,by simpa using hrl, ?_, ?_⟩,by dsimp only; omega,rfl,rfl⟩
     ·dsimp only
      rw [hfil,hdy,if_neg (by decide),<- htk,take_succ_set row i l[j] (by omega)]
     ·dsimp only
      rw [List.drop_set_of_lt (by omega),<- List.drop_drop,hdr,List.drop_drop]
    | true =>
     rw [hdy] at c2
     simp only [go_sem,j0,j1,k0,k1,decide_true,fO,g1,g2,fS,fL,fW,hc1,hc2,List.append_assoc,List.length_append,List.length_set]
     repeat' (first
      | (refine aS (c2) ?_; simp only [go_sem,j0,j1,k0,k1,decide_true,fO,g1,g2,fS,fL,fW,hwi,hwj,hc1,hc2,List.append_assoc,List.length_append,List.length_set])
      | ((first | refine cS ?_ ?_ | refine gS ?_ ?_) <;> (intro hc; simp only [go_sem,hc,j0,j1,k0,k1,decide_true,fO,g1,g2,fS,fL,fW,hwi,hwj,hc1,hc2,List.append_assoc,List.length_append,List.length_set])))
     refine ⟨(i,j + 1,row,J ++ [some (Head.c l[j])],[]),⟨by dsimp only; omega,by dsimp only; omega,hrl, ?_, ?_⟩,by dsimp only; omega,rfl,rfl⟩
     ·dsimp only
      rw [hfil,hdy,if_pos rfl,List.append_nil,htk]
     ·dsimp only
      rw [<- List.drop_drop,hdr,List.drop_drop]
   ·have hjl : j = l.length:=by omega
    subst hjl
    simp only [go_sem,Int.lt_irrefl,decide_false]
    refine ⟨⟨by omega,by omega,by omega⟩, ?_⟩
    simp only [go_sem,clrK,fO,fW,List.length_append]
    rw [List.take_length] at htk
    have hkl : (l.filter fun x => !d x).length = i:=by rw [<- htk,List.length_take]; omega
    refine ⟨by omega,by rw [cellsH_len]; omega,⟨by omega,by omega,.inl trivial⟩,zerosN (AV.agg Head.z.c) (l.length - i) ++ (cellsH row ++ r).drop (i * 10 + (zerosN (AV.agg Head.z.c) (l.length - i)).length),J,by rw [hkl]; rfl, ?_⟩
    unfold splice
    rw [cells_take row r i (by omega),htk,List.append_assoc]
end Go.AI
namespace Go.AI
open Go.Proofs
set_option maxRecDepth 50000
theorem rK {P : Program} {f : FuncId} {vs : List AV} {d : Option Tmp} {K : Kt} {e : Env} {H : Heap} {v : AV} (hc : RCall P f vs H v) (hk : K (put d v e) H) : RCallK P f vs d K e H:=⟨v,.inl hc,hk⟩
def isW (l : List Fld) (t : Int) (ot ow ol o : Nat) (H : Heap) : Prop :=
 H[ot]? = some (some [.int .i64 t]) /\ H[ow]? = some (some [.ptr o 0]) /\ (∃ w,H[ol]? = some (some [.sl w (lFld l)])) /\
  H[o]? = some (some [.fn (.func 173) [] [.ptr ot 0,.ptr ow 0,.ptr ol 0],.fn (.func 179) [] [.ptr ow 0,.ptr ol 0]])
@[go_sem] theorem frzS_none (t : Tmp) (zs : List (Tmp × Option Nat × Bool)) (Q : Exit -> Kt) (e : Env) (H : Heap) : frzS none t zs Q e H = frzK zs Q e H:=Eq.trans rfl rfl
@[go_sem] theorem borrow0_msl (a b c k : Nat) : borrow0 (.msl a b c k) = .msl a b c k:=rfl
theorem ACall.res {P : Program} {f : FuncId} {vs : List AV} {H : Heap} {R : AV -> Heap -> Prop} (h : ACall P f vs H R) : ACall P f vs H fun v H' => ∃ v0,R v0 H' /\ v = v0.borrow :=
 ⟨h.1,fun F G w us hc => Calls.mono (h.2 F G w us hc) fun e w' he => by
  obtain ⟨u,rfl,v,H',G',h1,h2,h3⟩:=he
  exact ⟨u,rfl,v.borrow,H',G',⟨v,h1,rfl⟩,h2.borrowArgs,h3⟩⟩
theorem p_MergeRow' (a b : List Head) (hl : a.length + b.length <= 1048576) (w : Option Nat) (H : Heap) : ACall Tryz.prog 183 [.sl w (lHead a),.sl none (lHead b)] H fun v H' => rowV ((mrgH a b).map Head.c) v H H' /\ v.borrow = v :=
 (ACall.res (ACall.weak (vs:=[.sl w (lHead a),.sl none (lHead b)]) (p_MergeRow a b hl H))).mono fun v H' h => by
  obtain ⟨v0,h1,rfl⟩:=h
  refine ⟨?_,borrow_idem v0⟩
  rcases h1 with ⟨e,⟨w,rfl⟩,h⟩ | ⟨ob,cs,rfl,h⟩
  ·exact .inl ⟨e,⟨none,rfl⟩,h⟩
  ·exact .inr ⟨ob,cs,rfl,h⟩
theorem p_smallN' (b : Bool) (H : Heap) : ACall Tryz.prog 182 [.sl none [],.bool b] H fun v H' => H' = H /\ v = .tup [.sl none [],.bool b] :=
 (ACall.res (p_smallN none b H)).mono fun v H' h => by
  obtain ⟨v0,⟨rfl,w,rfl⟩,rfl⟩:=h
  exact ⟨rfl,rfl⟩
theorem p_smallR' (o n : Nat) (b : Bool) (H : Heap) : ACall Tryz.prog 182 [.msl o 0 n 10,.bool b] H fun v H' => H' = H /\ ((b = true /\ n <= 256 /\ v = .tup [.msl o 0 n 10,.bool true]) \/ ((b = false \/ 256 < n) /\ v = .tup [.sl none [],.bool false])) :=
 (ACall.res (p_smallR o n b H)).mono fun v H' h => by
  obtain ⟨v0,⟨rfl,h⟩,rfl⟩:=h
  rcases h with ⟨h1,h2,rfl⟩ | ⟨h1,w,rfl⟩
  ·exact ⟨rfl,.inl ⟨h1,h2,rfl⟩⟩
  ·exact ⟨rfl,.inr ⟨h1,rfl⟩⟩
theorem map1 {f : AV -> AV} {c : List AV} {a : AV} (h : c.map f = [a].map f) : ∃ x,c = [x] /\ f x = f a:=by
 match c,h with
 | [],h => cases h
 | [x],h => exact ⟨x,rfl,(List.cons.inj h).1⟩
 | _ :: _ :: _,h => exact absurd (congrArg List.length h) (by simp)
theorem map2 {f : AV -> AV} {c : List AV} {a b : AV} (h : c.map f = [a,b].map f) : ∃ x y,c = [x,y] /\ f x = f a /\ f y = f b:=by
 match c,h with
 | [],h => cases h
 | [x],h => exact absurd (congrArg List.length h) (by simp)
 | [x,y],h => exact ⟨x,y,rfl,(List.cons.inj h).1,(List.cons.inj (List.cons.inj h).2).1⟩
 | _ :: _ :: _ :: _,h => exact absurd (congrArg List.length h) (by simp)
section
variable {l : List Fld} {t : Int} {ot ow ol o : Nat}
theorem isW.grow {H : Heap} (h : isW l t ot ow ol o H) (z : Heap) : isW l t ot ow ol o (H ++ z) :=
 let ⟨h1,h2,⟨w,h3⟩,h4⟩:=h; ⟨get_grow h1 z,get_grow h2 z,⟨w,get_grow h3 z⟩,get_grow h4 z⟩
theorem borrow1_eq {x a : AV} (h : borrow1 x = borrow1 a) (ha : ∀ w es,a ≠ .sl w es) : x = a:=by
 cases x <;> cases a <;> first | (exact h) | (exact absurd rfl (ha _ _)) | (cases h)
theorem isW.view {H H2 : Heap} (hv : hview H2 = hview H) (h : isW l t ot ow ol o H) : isW l t ot ow ol o H2:=by
 obtain ⟨h1,h2,⟨w,h3⟩,h4⟩:=h
 obtain ⟨c1,g1,e1⟩:=hview_get hv h1
 obtain ⟨c2,g2,e2⟩:=hview_get hv h2
 obtain ⟨c3,g3,e3⟩:=hview_get hv h3
 obtain ⟨c4,g4,e4⟩:=hview_get hv h4
 refine ⟨?_, ?_, ?_, ?_⟩
 ·obtain ⟨x,rfl,hx⟩:=map1 e1
  rw [g1,borrow1_eq hx (by intro w es h; cases h)]
 ·obtain ⟨x,rfl,hx⟩:=map1 e2
  rw [g2,borrow1_eq hx (by intro w es h; cases h)]
 ·obtain ⟨x,rfl,hx⟩:=map1 e3
  cases x <;> first | (cases hx; done) | skip
  rename_i w' es
  have : es = lFld l:=by
   have h5 : AV.sl none es = AV.sl none (lFld l):=hx
   cases h5; rfl
  subst this
  exact ⟨w',g3⟩
 ·obtain ⟨x,y,rfl,hx,hy⟩:=map2 e4
  rw [g4,borrow1_eq hx (by intro w es h; cases h),borrow1_eq hy (by intro w es h; cases h)]
end
def gvs (l : List Fld) (t : Int) (ot ow ol o : Nat) (p : Policy) (F : Head -> Option (List Head)) : Prop :=
 ∀ h,rightH h = true -> ∀ H,isW l t ot ow ol o H -> SCall Tryz.prog 179 [.agg p.c,.agg h.c,.ptr ow 0,.ptr ol 0] H (resA (F h))
theorem rowV.base {es : List (List AV)} {v : AV} {B e X : Heap} (h : rowV es v (B ++ e) X) : rowV es v B X:=by
 rcases h with ⟨h1,h2,ext,rfl⟩ | ⟨ob,cs,h1,h2,⟨ext,rfl⟩,h4,h5⟩
 ·exact .inl ⟨h1,h2,e ++ ext,by rw [List.append_assoc]⟩
 ·exact .inr ⟨ob,cs,h1,by rw [List.length_append] at h2; omega,⟨e ++ ext,by rw [List.append_assoc]⟩,h4,h5⟩
theorem rowV.ext {es : List (List AV)} {v : AV} {B X : Heap} (h : rowV es v B X) : ∃ ext,X = B ++ ext:=by
 rcases h with ⟨_,_,h⟩ | ⟨_,_,_,_,h,_⟩ <;> exact h
theorem resA_eq (o : Option (List Head)) : resA o = .tup [.sl none (lHead (o.getD [])),.bool o.isSome]:=by cases o <;> rfl
theorem chunk_heads (l : List Head) (r : List AV) : chunk true 10 l.length ((cellsH l ++ r).map borrow1) = lHead l:=by
 rw [List.map_append,cellsH_b]
 have:=chunk_rows (l.map Head.c) (r.map borrow1) 10 headsC_len
 rw [List.length_map] at this
 rw [<- headsC_l]
 exact this
theorem imgGo_step (F : Head -> Option (List Head)) (out : List Head) (y : Head) (ys : List Head) (hs : srtH out) (hg : ∀ r,F y = some r -> srtH r) :
  imgGo F out (y :: ys) = if (F y).isSome = true /\ (mrgH out ((F y).getD [])).length <= 256 then imgGo F (mrgH out ((F y).getD [])) ys else none:=by
 rw [imgGo]
 cases h : F y with
 | none => rw [if_neg (by simp)]
 | some a =>
  have e:=mrgH_eq hs (hg a h)
  simp only [Option.isSome_some,Option.getD_some,true_and,e]
  by_cases hl : 256 < (mergeH out a).length
  ·rw [if_pos hl,if_neg (by omega)]
  ·rw [if_neg hl,if_pos (by omega)]
theorem p_imageRow (l : List Fld) (t : Int) (ot ow ol o : Nat) (p : Policy) (F : Head -> Option (List Head)) (hF : gvs l t ot ow ol o p F) (hg : ∀ h r, rightH h = true -> F h = some r -> goodS r) (xs : List Head) (hx : ∀ z ∈ xs, rightH z = true) (hl : xs.length <= 1048576) (H : Heap) (hW : isW l t ot ow ol o H) :
    ACall Tryz.prog 184 [.ptr o 0, .agg p.c, .sl none (lHead xs)] H fun v H' => (imgGo F [] xs = none /\ (∃ w, v = .tup [.sl w [], .bool false]) /\ ∃ ext, H' = H ++ ext) \/ ∃ r v0, imgGo F [] xs = some r /\ v = .tup [v0, .bool true] /\ rowV (r.map Head.c) v0 H H' := by
  refine aC h184_k rfl ?_
  simp only [Tryz.f184, go_sem]
  refine awp_lst xs (fun (s : List Head × AV × Heap × Env) r => imgGo F s.1 r) (fun _ s => goodS s.1 /\ rowV (s.1.map Head.c) s.2.1 (H ++ [some p.c]) s.2.2.1) (fun k s => (0, .ptr o 0) :: (4, .ptr H.length 0) :: (8, s.2.1) :: (9, .bool true) :: (14, .sl none (lHead xs)) :: (15, .int .i64 xs.length) :: (16, .int .i64 k) :: s.2.2.2) (fun k s => s.2.2.1) ([], .sl (some 10) [], H ++ [some p.c], []) (by omega) ⟨goodS_nil, .inl ⟨rfl, ⟨_, rfl⟩, [], (List.append_nil _).symm⟩⟩ rfl rfl ?_ ?_
  · rintro k ⟨out, ov, X, rest⟩ y ys hd hx' ⟨go, hrow⟩ hI h0 h1 hw
    dsimp only at go hrow hI ⊢
    have hr := hx y (List.mem_of_getElem? hx')
    obtain ⟨ext0, hX0⟩ := hrow.ext
    have hWX : isW l t ot ow ol o X := by rw [hX0, List.append_assoc]; exact hW.grow _
    have hpX : X[H.length]? = some (some p.c) := by
      rw [hX0, List.append_assoc, List.getElem?_append_right (Nat.le_refl _), Nat.sub_self]; rfl
    have eP : ∀ z, (X ++ z)[H.length]? = some (some p.c) := get_grow hpX
    have eW : ∀ z, (X ++ z)[o]? = some (some [.fn (.func 173) [] [.ptr ot 0, .ptr ow 0, .ptr ol 0], .fn (.func 179) [] [.ptr ow 0, .ptr ol 0]]) := get_grow hWX.2.2.2
    have hc : ∀ z, RCall Tryz.prog 179 [.agg p.c, .agg y.c, .ptr ow 0, .ptr ol 0] (X ++ z) (resA (F y)) := fun z H2 hv => hF y hr H2 ((hWX.grow z).view hv)
    rw [resA_eq] at hc
    have hst := imgGo_step F out y ys go.1 (fun r h => (hg y r hr h).1)
    have ga : goodS ((F y).getD []) := by
      cases h : F y with
      | none => exact goodS_nil
      | some a => exact hg y a hr h
    generalize hA : (F y).getD [] = a at hc hst ga
    generalize hB : (F y).isSome = b at hc hst
    have hml := mrgH_len (out.length + a.length + 1) out a
    have hll : out.length + a.length <= 1048576 := by have := go.2.1; have := ga.2.1; omega
    rcases hrow with ⟨e0, ⟨w, rfl⟩, _⟩ | ⟨ob, cs, rfl, hob, _, hcs, r, rfl⟩
    · have e0 : out = [] := by simpa using e0
      subst e0
      have hX2 : ∃ e2, X ++ [some y.c] = (H ++ [some p.c]) ++ e2 := ⟨ext0 ++ [some y.c], by rw [hX0, List.append_assoc]⟩
      cases w with
      | none =>
        simp only [go_sem, h0, h1, lHead_get hx', eP, eW]
        repeat' (first
          | (refine rK (hc _) ?_; simp only [go_sem, h0, h1, hw, lHead_get hx', eP, eW])
          | ((first | refine cS ?_ ?_ | refine gS ?_ ?_) <;> (intro hc; simp only [go_sem, hc, h0, h1, hw, lHead_get hx', eP, eW])))
        refine ACallK.intro (p_MergeRow' [] a hll _ _) fun v X3 hr3 => ?_
        obtain ⟨e2, hX2⟩ := hX2
        obtain ⟨hr3, hbw⟩ := hr3
        rw [hX2] at hr3
        have hrb := hr3.base
        have hex := hrb.ext
        have hgm : b = true -> (mrgH ([] : List Head) a).length <= 256 -> goodS (mrgH ([] : List Head) a) := fun _ hle => by
          have e := mrgH_eq go.1 ga.1
          rw [e] at hle ⊢
          exact goodS_merge go ga.2.2 (by omega)
        rcases hr3 with ⟨e3, ⟨w3, rfl⟩, _⟩ | ⟨ob3, cs3, rfl, hob3, _, hcs3, r3, rfl⟩
        · have hw3 : w3 = none := by cases w3 with
            | none => rfl
            | some w3 => cases hbw
          subst hw3
          simp only [go_sem]
          refine ACallK.intro (p_smallN' b _) fun v4 X4 hr4 => ?_
          obtain ⟨rfl, rfl⟩ := hr4
          have e3 := List.map_eq_nil_iff.1 e3
          have hle3 : (mrgH ([] : List Head) a).length <= 256 := by rw [e3]; simp
          cases b with
          | true =>
            rw [if_pos ⟨rfl, hle3⟩] at hst
            simp only [go_sem, hw]
            exact ⟨(mrgH ([] : List Head) a, _, _, []), hst, ⟨hgm rfl hle3, hrb⟩, rfl, rfl⟩
          | false =>
            rw [if_neg (by simp)] at hst
            simp only [go_sem]
            exact .inl ⟨hI.trans hst, ⟨_, rfl⟩, by obtain ⟨ext, he⟩ := hex; exact ⟨_, by rw [he, List.append_assoc]⟩⟩
        · simp only [go_sem, List.length_map]
          refine ACallK.intro (p_smallR' ob3 _ b _) fun v4 X4 hr4 => ?_
          obtain ⟨rfl, hr4⟩ := hr4
          rw [List.length_map] at hrb
          rcases hr4 with ⟨rfl, hle, rfl⟩ | ⟨hno, rfl⟩
          · rw [if_pos ⟨rfl, hle⟩] at hst
            simp only [go_sem, hw]
            exact ⟨(mrgH ([] : List Head) a, _, _, []), hst, ⟨hgm rfl hle, hrb⟩, rfl, rfl⟩
          · rw [if_neg (by rintro ⟨g1, g2⟩; rcases hno with hno | hno
                           · rw [g1] at hno; cases hno
                           · omega)] at hst
            simp only [go_sem]
            exact .inl ⟨hI.trans hst, ⟨_, rfl⟩, by obtain ⟨ext, he⟩ := hex; exact ⟨_, by rw [he, List.append_assoc]⟩⟩
      | some w =>
        simp only [go_sem, h0, h1, lHead_get hx', eP, eW]
        repeat' (first
          | (refine rK (hc _) ?_; simp only [go_sem, h0, h1, hw, lHead_get hx', eP, eW])
          | ((first | refine cS ?_ ?_ | refine gS ?_ ?_) <;> (intro hc; simp only [go_sem, hc, h0, h1, hw, lHead_get hx', eP, eW])))
        refine ACallK.intro (p_MergeRow' [] a hll (some w) _) fun v X3 hr3 => ?_
        obtain ⟨e2, hX2⟩ := hX2
        obtain ⟨hr3, hbw⟩ := hr3
        rw [hX2] at hr3
        have hrb := hr3.base
        have hex := hrb.ext
        have hgm : b = true -> (mrgH ([] : List Head) a).length <= 256 -> goodS (mrgH ([] : List Head) a) := fun _ hle => by
          have e := mrgH_eq go.1 ga.1
          rw [e] at hle ⊢
          exact goodS_merge go ga.2.2 (by omega)
        rcases hr3 with ⟨e3, ⟨w3, rfl⟩, _⟩ | ⟨ob3, cs3, rfl, hob3, _, hcs3, r3, rfl⟩
        · have hw3 : w3 = none := by cases w3 with
            | none => rfl
            | some w3 => cases hbw
          subst hw3
          simp only [go_sem]
          refine ACallK.intro (p_smallN' b _) fun v4 X4 hr4 => ?_
          obtain ⟨rfl, rfl⟩ := hr4
          have e3 := List.map_eq_nil_iff.1 e3
          have hle3 : (mrgH ([] : List Head) a).length <= 256 := by rw [e3]; simp
          cases b with
          | true =>
            rw [if_pos ⟨rfl, hle3⟩] at hst
            simp only [go_sem, hw]
            exact ⟨(mrgH ([] : List Head) a, _, _, []), hst, ⟨hgm rfl hle3, hrb⟩, rfl, rfl⟩
          | false =>
            rw [if_neg (by simp)] at hst
            simp only [go_sem]
            exact .inl ⟨hI.trans hst, ⟨_, rfl⟩, by obtain ⟨ext, he⟩ := hex; exact ⟨_, by rw [he, List.append_assoc]⟩⟩
        · simp only [go_sem, List.length_map]
          refine ACallK.intro (p_smallR' ob3 _ b _) fun v4 X4 hr4 => ?_
          obtain ⟨rfl, hr4⟩ := hr4
          rw [List.length_map] at hrb
          rcases hr4 with ⟨rfl, hle, rfl⟩ | ⟨hno, rfl⟩
          · rw [if_pos ⟨rfl, hle⟩] at hst
            simp only [go_sem, hw]
            exact ⟨(mrgH ([] : List Head) a, _, _, []), hst, ⟨hgm rfl hle, hrb⟩, rfl, rfl⟩
          · rw [if_neg (by rintro ⟨g1, g2⟩; rcases hno with hno | hno
                           · rw [g1] at hno; cases hno
                           · omega)] at hst
            simp only [go_sem]
            exact .inl ⟨hI.trans hst, ⟨_, rfl⟩, by obtain ⟨ext, he⟩ := hex; exact ⟨_, by rw [he, List.append_assoc]⟩⟩
    · have hcs' : ∀ z, (X ++ z)[ob]? = some (some (cellsH out ++ r)) := get_grow hcs
      have hle : (cellsH out ++ r).length ≥ out.length * 10 := by rw [List.length_append, cellsH_len]; omega
      have hle2 : out.length * 10 <= (cellsH out ++ r).length := hle
      have hch := chunk_heads out r
      have hX2 : ∃ e2, (X ++ [some y.c]).set ob none = (H ++ [some p.c]) ++ e2 := by
        rw [hX0, List.append_assoc, ext_set hob]
        exact ⟨_, rfl⟩
      simp only [go_sem, h0, h1, lHead_get hx', eP, eW, List.length_map]
      repeat' (first
        | (refine rK (hc _) ?_; simp only [go_sem, h0, h1, hw, lHead_get hx', eP, eW, List.length_map, hcs', hle2, hch])
        | ((first | refine cS ?_ ?_ | refine gS ?_ ?_) <;> (intro hc; simp only [go_sem, hc, h0, h1, hw, lHead_get hx', eP, eW, List.length_map, hcs', hle2, hch])))
      refine ACallK.intro (p_MergeRow' out a hll _ _) fun v X3 hr3 => ?_
      obtain ⟨e2, hX2⟩ := hX2
      obtain ⟨hr3, hbw⟩ := hr3
      rw [hX2] at hr3
      have hrb := hr3.base
      have hex := hrb.ext
      have hgm : b = true -> (mrgH out a).length <= 256 -> goodS (mrgH out a) := fun _ hle => by
        have e := mrgH_eq go.1 ga.1
        rw [e] at hle ⊢
        exact goodS_merge go ga.2.2 (by omega)
      rcases hr3 with ⟨e3, ⟨w3, rfl⟩, _⟩ | ⟨ob3, cs3, rfl, hob3, _, hcs3, r3, rfl⟩
      · have hw3 : w3 = none := by cases w3 with
          | none => rfl
          | some w3 => cases hbw
        subst hw3
        simp only [go_sem]
        refine ACallK.intro (p_smallN' b _) fun v4 X4 hr4 => ?_
        obtain ⟨rfl, rfl⟩ := hr4
        have e3 := List.map_eq_nil_iff.1 e3
        have hle3 : (mrgH out a).length <= 256 := by rw [e3]; simp
        cases b with
        | true =>
          rw [if_pos ⟨rfl, hle3⟩] at hst
          simp only [go_sem, hw]
          exact ⟨(mrgH out a, _, _, []), hst, ⟨hgm rfl hle3, hrb⟩, rfl, rfl⟩
        | false =>
          rw [if_neg (by simp)] at hst
          simp only [go_sem]
          exact .inl ⟨hI.trans hst, ⟨_, rfl⟩, by obtain ⟨ext, he⟩ := hex; exact ⟨_, by rw [he, List.append_assoc]⟩⟩
      · simp only [go_sem, List.length_map]
        refine ACallK.intro (p_smallR' ob3 _ b _) fun v4 X4 hr4 => ?_
        obtain ⟨rfl, hr4⟩ := hr4
        rw [List.length_map] at hrb
        rcases hr4 with ⟨rfl, hle, rfl⟩ | ⟨hno, rfl⟩
        · rw [if_pos ⟨rfl, hle⟩] at hst
          simp only [go_sem, hw]
          exact ⟨(mrgH out a, _, _, []), hst, ⟨hgm rfl hle, hrb⟩, rfl, rfl⟩
        · rw [if_neg (by rintro ⟨g1, g2⟩; rcases hno with hno | hno
                         · rw [g1] at hno; cases hno
                         · omega)] at hst
          simp only [go_sem]
          exact .inl ⟨hI.trans hst, ⟨_, rfl⟩, by obtain ⟨ext, he⟩ := hex; exact ⟨_, by rw [he, List.append_assoc]⟩⟩
  · rintro ⟨out, ov, X, rest⟩ ⟨go, hrow⟩ hI
    dsimp only at go hrow hI ⊢
    have hfin : rowV (out.map Head.c) ov H X := hrow.base
    rcases hrow with ⟨e0, ⟨w, rfl⟩, _⟩ | ⟨ob, cs, rfl, hob, _, hcs, r, rfl⟩
    · cases w with
      | none =>
        simp only [go_sem, Int.lt_irrefl, decide_false]
        exact .inr ⟨out, _, by rw [hI]; rfl, rfl, hfin⟩
      | some w =>
        simp only [go_sem, Int.lt_irrefl, decide_false]
        exact .inr ⟨out, _, by rw [hI]; rfl, rfl, hfin⟩
    · simp only [go_sem, Int.lt_irrefl, decide_false]
      exact .inr ⟨out, _, by rw [hI]; rfl, rfl, hfin⟩
end Go.AI
namespace Go.AI
open Go.Proofs
set_option maxRecDepth 50000
theorem p_imageRow' (l : List Fld) (t : Int) (ot ow ol o : Nat) (p : Policy) (F : Head -> Option (List Head)) (hF : gvs l t ot ow ol o p F) (hg : ∀ h r,rightH h = true -> F h = some r -> goodS r) (xs : List Head) (hx : ∀ z ∈ xs,rightH z = true) (hl : xs.length <= 1048576) (H : Heap) (hW : isW l t ot ow ol o H) :
  ACall Tryz.prog 184 [.ptr o 0,.agg p.c,.sl none (lHead xs)] H fun v H' => (imgGo F [] xs = none /\ v = .tup [.sl none [],.bool false] /\ ∃ ext,H' = H ++ ext) \/ ∃ r v0,imgGo F [] xs = some r /\ v = .tup [v0,.bool true] /\ rowV (r.map Head.c) v0 H H' /\ v0.borrow = v0 :=
 (ACall.res (p_imageRow l t ot ow ol o p F hF hg xs hx hl H hW)).mono fun v H' h => by
  obtain ⟨v1,h1,rfl⟩:=h
  rcases h1 with ⟨h1,⟨w,rfl⟩,h2⟩ | ⟨r,v0,h1,rfl,h2⟩
  ·exact .inl ⟨h1,rfl,h2⟩
  ·rcases h2 with ⟨e,⟨w,rfl⟩,h⟩ | ⟨ob,cs,rfl,h⟩
   ·exact .inr ⟨r,.sl none [],h1,rfl,.inl ⟨e,⟨none,rfl⟩,h⟩,rfl⟩
   ·exact .inr ⟨r,_,h1,rfl,.inr ⟨ob,cs,rfl,h⟩,rfl⟩
theorem p_image (l : List Fld) (t : Int) (ot ow ol o : Nat) (p : Policy) (F : Head -> Option (List Head)) (hF : gvs l t ot ow ol o p F) (hg : ∀ h r,rightH h = true -> F h = some r -> goodS r) (xs : List Head) (hx : ∀ z ∈ xs,rightH z = true) (hl : xs.length <= 1048576) (H : Heap) (hW : isW l t ot ow ol o H) :
  SCall Tryz.prog 184 [.ptr o 0,.agg p.c,.sl none (lHead xs)] H (resA (imgGo F [] xs)):=by
 have h:=p_imageRow l t ot ow ol o p F hF hg xs hx hl H hW
 cases e : imgGo F [] xs with
 | none =>
  have:=ACall.frz2 (es:=[]) (b:=false) (by simp) (by simp) (by simp) (h.mono fun v H' hr => by
   rcases hr with ⟨_,⟨w,rfl⟩,he⟩ | ⟨r,v0,h1,_⟩
   ·exact ⟨_,rfl,.inl ⟨rfl,⟨w,rfl⟩,he⟩⟩
   ·rw [e] at h1; cases h1)
  exact this
 | some r =>
  have:=ACall.frz2 (es:=r.map Head.c) (b:=true) headsC_len headsC_bnd headsC_b (h.mono fun v H' hr => by
   rcases hr with ⟨h1,_⟩ | ⟨r',v0,h1,rfl,h2⟩
   ·rw [e] at h1; cases h1
   ·rw [e] at h1; cases h1
    exact ⟨v0,rfl,h2⟩)
  rw [headsC_l] at this
  exact this
theorem p_DeleteNone' (H : Heap) (f : Nat) (first cap : List AV) : ACall Tryz.prog 250 [.sl none [],.fn (.func f) first cap] H fun v H' => H' = H /\ v = .sl none [] :=
 (ACall.res (p_DeleteNone none H f first cap)).mono fun v H' h => by
  obtain ⟨v0,⟨rfl,w,rfl⟩,rfl⟩:=h
  exact ⟨rfl,rfl⟩
def cloJ (F : Head -> Option (List Head)) : Nat -> List Head -> List Head -> Nat -> Nat
 | 0,_,_,j => j
 | k + 1,o,n,j => match imgGo F [] n with
  | none => 0
  | some m => if newH o m = [] then j else cloJ F k (mergeH o (newH o m)) (newH o m) (j + 1)
def resD : Option (List Head) -> Nat -> AV
 | some r,n => .tup [.sl none (lHead r),.int .i64 n,.bool true]
 | none,_ => .tup [.sl none [],.int .i64 0,.bool false]
theorem newH_srt {o n : List Head} (h : srtH n) : srtH (newH o n):=List.Pairwise.filter _ h
theorem ext_set2 {H Y : Heap} (h : ∃ e,Y = H ++ e) (i : Nat) (hi : H.length <= i) (c : Option (List AV)) : ∃ e,Y.set i c = H ++ e:=by
 obtain ⟨e,rfl⟩:=h
 exact ⟨_,List.set_append_right _ _ hi⟩
theorem p_starA (l : List Fld) (t : Int) (ot ow ol o : Nat) (p : Policy) (F : Head -> Option (List Head)) (hF : gvs l t ot ow ol o p F) (hg : ∀ h r, rightH h = true -> F h = some r -> goodS r) (h : Head) (hr : rightH h = true) (H : Heap) (hW : isW l t ot ow ol o H) :
    ACall Tryz.prog 185 [.ptr o 0, .agg p.c, .agg h.c] H fun v H' => v.borrow = resD (cloGo F 300 [h] [h]) (cloJ F 300 [h] [h] 0) /\ ∃ ext, H' = H ++ ext := by
  refine aC h185_k rfl ?_
  have q0 : ∀ (a b c : Option (List AV)) z, (H ++ (a :: b :: c :: z))[H.length]? = some a := fun a b c z => by rw [List.getElem?_append_right (Nat.le_refl _), Nat.sub_self]; rfl
  have q1 : ∀ (a b c : Option (List AV)) z, (H ++ (a :: b :: c :: z))[H.length + 1]? = some b := fun a b c z => by rw [List.getElem?_append_right (by omega), Nat.add_sub_cancel_left]; rfl
  have q2 : ∀ (a b c : Option (List AV)) z, (H ++ (a :: b :: c :: z))[H.length + 2]? = some c := fun a b c z => by rw [List.getElem?_append_right (by omega), Nat.add_sub_cancel_left]; rfl
  have q3 : ∀ (a b : Option (List AV)), (H ++ [a, b])[H.length + 1]? = some b := fun a b => by rw [List.getElem?_append_right (by omega), Nat.add_sub_cancel_left]; rfl
  have q4 : ∀ (a b c d : Option (List AV)), (H ++ [a, b, c]).set (H.length + 2) d = H ++ [a, b, d] := fun a b c d => by rw [List.set_append_right _ _ (by omega), Nat.add_sub_cancel_left]; rfl
  simp only [Tryz.f185, go_sem, q0, q1, q2, q3, q4, List.length_append, List.append_assoc, List.cons_append, List.nil_append, List.length_cons, List.length_nil, Nat.add_assoc, Nat.reduceAdd]
  refine awp_wh (σ := Nat × List Head × List Head × Heap × Env) (fun s => (0, .ptr o 0) :: (4, .ptr H.length 0) :: (9, .ptr (H.length + 2) 0) :: (10, .int .i64 s.1) :: (11, .sl none (lHead s.2.2.1)) :: s.2.2.2.2) (fun s => s.2.2.2.1)
    (fun s => goodS s.2.1 /\ (∀ z ∈ s.2.2.1, rightH z = true) /\ s.2.2.1.length <= 256 /\ s.2.2.1 ≠ [] /\ s.1 + 1 <= s.2.1.length /\ H.length + 3 <= s.2.2.2.1.length /\ (∃ ext, s.2.2.2.1 = H ++ ext) /\ s.2.2.2.1[H.length]? = some (some p.c) /\ (∃ w, s.2.2.2.1[H.length + 2]? = some (some [.sl w (lHead s.2.1)])) /\
      cloGo F 300 [h] [h] = cloGo F (300 - s.1) s.2.1 s.2.2.1 /\ cloJ F 300 [h] [h] 0 = cloJ F (300 - s.1) s.2.1 s.2.2.1 s.1)
    (fun s => 300 - s.1) (0, [h], [h], _, []) ⟨goodS_one hr, by simpa using hr, by simp, by simp, by simp, by simp, ⟨_, rfl⟩, q0 _ _ _ _, ⟨_, q2 _ _ _ _⟩, rfl, rfl⟩ rfl rfl ?_
  rintro ⟨j, all, last, X, rest⟩ ⟨go, gl, hll, hne, hj, hX3, ⟨ext, hXe⟩, hp0, ⟨w, hc0⟩, hG, hJ⟩
  dsimp only at go gl hll hne hj hX3 hXe hp0 hc0 hG hJ ⊢
  generalize cloGo F 300 [h] [h] = R at hG ⊢
  generalize cloJ F 300 [h] [h] 0 = N at hJ ⊢
  have hal := go.2.1
  obtain ⟨k, hk⟩ : ∃ k, 300 - j = k + 1 := ⟨299 - j, by omega⟩
  have e300 : 300 - (j + 1) = k := by omega
  rw [hk, cloGo, if_neg hne] at hG
  rw [hk, cloJ] at hJ
  have hWX : isW l t ot ow ol o X := by rw [hXe]; exact hW.grow _
  have c1 := p_imageRow' l t ot ow ol o p F hF hg last gl (by omega) X hWX
  simp only [go_sem, hp0]
  refine ACallK.intro c1 fun v X1 hr1 => ?_
  rcases hr1 with ⟨hn, rfl, ext1, rfl⟩ | ⟨m, v0, hm, rfl, hrow, hbw⟩
  · rw [hn] at hG hJ
    have hc1 : ∀ z, (X ++ z)[H.length + 2]? = some (some [.sl w (lHead all)]) := get_grow hc0
    have s1 : ∀ z c, (X ++ z).set (H.length + 2) c = X.set (H.length + 2) c ++ z := fun z c => List.set_append_left _ _ (by omega)
    have c3 := p_Merge all [] (by simp; omega) (X ++ ext1)
    have c4 := p_smallL (mrgH all []) false
    rw [if_neg (by decide), show resA none = .tup [.sl none [], .bool false] from rfl] at c4
    have hfe := ext_set2 (H := H) (Y := X ++ ext1) ⟨ext ++ ext1, by rw [hXe, List.append_assoc]⟩ (H.length + 2) (by omega)
    simp only [go_sem]
    refine ACallK.intro (p_DeleteNone' _ _ _ _) fun v X2 hr2 => ?_
    obtain ⟨rfl, rfl⟩ := hr2
    simp only [go_sem, hc1]
    repeat' (first
      | ((first | refine aS (c3) ?_ | refine aP (c4) ?_); simp only [go_sem, hc1])
      | ((first | refine cS ?_ ?_ | refine gS ?_ ?_) <;> (intro hc; simp only [go_sem, hc, hc1])))
    exact ⟨by rw [hG]; rfl, hfe _⟩
  · have gm := goodS_img hg last [] m goodS_nil gl hm
    rw [hm] at hG hJ
    dsimp only at hG hJ
    obtain ⟨ext1, hX1⟩ := hrow.ext
    have hc1 : X1[H.length + 2]? = some (some [.sl w (lHead all)]) := by rw [hX1]; exact get_grow hc0 _
    have hp1 : X1[H.length]? = some (some p.c) := by rw [hX1]; exact get_grow hp0 _
    rcases hrow with ⟨e0, ⟨w3, rfl⟩, _⟩ | ⟨ob, cs, rfl, hob, _, hcs, r, rfl⟩
    · have hw3 : w3 = none := by cases w3 with
        | none => rfl
        | some w3 => cases hbw
      subst hw3
      have e0 : m = [] := List.map_eq_nil_iff.1 e0
      subst e0
      have hn0 : newH all [] = [] := rfl
      rw [hn0] at hG hJ
      rw [if_pos rfl] at hJ
      have hme : mergeH all [] = all := rfl
      rw [hme, if_neg (by omega)] at hG
      have hG2 : R = some all := by
        rw [hG]
        obtain ⟨k', rfl⟩ : ∃ k', k = k' + 1 := ⟨k - 1, by omega⟩
        rw [cloGo, if_pos rfl]
      have hfe := ext_set2 (H := H) (Y := X1) ⟨ext ++ ext1, by rw [hX1, hXe, List.append_assoc]⟩ (H.length + 2) (by omega)
      have hl1 : H.length + 2 < X1.length := (List.getElem?_eq_some_iff.1 hc1).1
      have fG : ∀ c, (X1.set (H.length + 2) c)[H.length + 2]? = some c := fun c => get_self hl1 c
      simp only [go_sem]
      refine ACallK.intro (p_DeleteNone' _ _ _ _) fun v X2 hr2 => ?_
      obtain ⟨rfl, rfl⟩ := hr2
      have c3 := p_Merge all [] (by simp; omega) X2
      have c4 := p_smallL (mrgH all []) true
      rw [mrgH_r] at c3 c4
      rw [if_pos rfl, bndO, if_neg (by omega), show resA (some all) = .tup [.sl none (lHead all), .bool true] from rfl] at c4
      have z2 : (((0 : Nat) : Int) == (0 : Int)) = true := rfl
      simp only [go_sem, hc1]
      repeat' (first
        | ((first | refine aS (c3) ?_ | refine aP (c4) ?_); simp only [go_sem, hc1, fG, z2])
        | ((first | refine cS ?_ ?_ | refine gS ?_ ?_) <;> (intro hc; simp only [go_sem, hc, hc1, fG, z2])))
      all_goals first | (exact ⟨by rw [hG2, hJ]; rfl, hfe _⟩) | skip
    · have hcs' : X1[ob]? = some (some (cellsH m ++ r)) := hcs
      have hnob : ob ≠ H.length + 2 := by omega
      have hd : ∀ x ∈ m, ∀ c J, SCall Tryz.prog 251 (([] : List AV).map AV.borrow ++ (.agg (Head.c x) :: ([.ptr (H.length + 2) 0] : List AV).map AV.borrow)) (X1.set ob (some c) ++ J) (.bool (all.any fun y => decide (y = x))) := fun x _ c J =>
        p_star1 all go.1 (by omega) x _ (H.length + 2) w (get_grow (get_other hc1 hnob _) J)
      have c2 := p_DeleteH m (by have := gm.2.1; omega) r X1 ob hcs' 251 [] [.ptr (H.length + 2) 0] (fun x => all.any fun y => decide (y = x)) hd
      simp only [go_sem, List.length_map]
      refine ACallK.intro c2 fun v X2 hr2 => ?_
      obtain ⟨r', J, rfl, rfl⟩ := hr2
      have hkept : (m.filter fun x => !(all.any fun y => decide (y = x))) = newH all m := rfl
      rw [hkept]
      have hob1 : ob < X1.length := (List.getElem?_eq_some_iff.1 hcs').1
      have hg1 : (X1.set ob (some (cellsH (newH all m) ++ r')) ++ J)[ob]? = some (some (cellsH (newH all m) ++ r')) := get_grow (get_self hob1 _) J
      have hg2 : (newH all m).length * 10 <= (cellsH (newH all m) ++ r').length := by rw [List.length_append, cellsH_len]; omega
      have hg3 := chunk_heads (newH all m) r'
      have hg4 : (X1.set ob (some (cellsH (newH all m) ++ r')) ++ J).set ob none = X1.set ob none ++ J := by rw [List.set_append_left _ _ (by simpa using hob1), List.set_set]
      have gn : srtH (newH all m) := newH_srt gm.1
      have hgnew : ∀ z ∈ newH all m, rightH z = true := fun z hz => gm.2.2 z (newH_mem.1 hz).1
      have hnl : (newH all m).length <= m.length := newH_len all m
      have hml := gm.2.1
      have hY2 : (X1.set ob none ++ J)[H.length + 2]? = some (some [.sl w (lHead all)]) := get_grow (get_other hc1 hnob _) J
      have hY0 : (X1.set ob none ++ J)[H.length]? = some (some p.c) := get_grow (get_other hp1 (by omega) _) J
      have hYe : ∃ e, X1.set ob none ++ J = H ++ e := by
        rw [hX1, hXe, List.append_assoc, ext_set (by have : X.length = H.length + ext.length := by rw [hXe, List.length_append]
                                                     omega), List.append_assoc]
        exact ⟨_, rfl⟩
      have c3 := p_Merge all (newH all m) (by omega) (X1.set ob none ++ J)
      have c4 := p_smallL (mrgH all (newH all m)) true
      rw [mrgH_eq go.1 gn] at c3 c4
      generalize hY : X1.set ob none ++ J = Y at hg4 hY2 hY0 hYe c3
      have hYl : H.length + 2 < Y.length := (List.getElem?_eq_some_iff.1 hY2).1
      have hfe := ext_set2 (H := H) (Y := Y) hYe (H.length + 2) (by omega)
      have fG : ∀ c, (Y.set (H.length + 2) c)[H.length + 2]? = some c := fun c => get_self hYl c
      by_cases hbig : 256 < (mergeH all (newH all m)).length
      · rw [if_pos hbig] at hG
        rw [if_pos rfl, bndO, if_pos hbig, show resA none = .tup [.sl none [], .bool false] from rfl] at c4
        simp only [go_sem, hg1, hg2, hg3, hg4, hY2]
        repeat' (first
          | ((first | refine aS (c3) ?_ | refine aP (c4) ?_); simp only [go_sem, hY2, fG])
          | ((first | refine cS ?_ ?_ | refine gS ?_ ?_) <;> (intro hc; simp only [go_sem, hc, hY2, fG])))
        all_goals first | (exact ⟨by rw [hG]; rfl, hfe _⟩) | skip
      · rw [if_neg hbig] at hG
        rw [if_pos rfl, bndO, if_neg hbig, show ∀ r, resA (some r) = .tup [.sl none (lHead r), .bool true] from fun _ => rfl] at c4
        by_cases hn0 : newH all m = []
        · have hme : mergeH all (newH all m) = all := by rw [hn0]; rfl
          rw [if_pos hn0] at hJ
          have hG2 : R = some (mergeH all (newH all m)) := by
            rw [hG, hn0]
            obtain ⟨k', rfl⟩ : ∃ k', k = k' + 1 := ⟨k - 1, by omega⟩
            rw [cloGo, if_pos rfl]
          have z1 : (((newH all m).length : Int) == 0) = true := by rw [hn0]; rfl
          simp only [go_sem, hg1, hg2, hg3, hg4, hY2]
          repeat' (first
            | ((first | refine aS (c3) ?_ | refine aP (c4) ?_); simp only [go_sem, hY2, fG, z1])
            | ((first | refine cS ?_ ?_ | refine gS ?_ ?_) <;> (intro hc; simp only [go_sem, hc, hY2, fG, z1])))
          all_goals first | (exact ⟨by rw [hG2, hJ]; rfl, hfe _⟩) | skip
        · rw [if_neg hn0] at hJ
          have hpos : 0 < (newH all m).length := List.length_pos_iff.2 hn0
          have hmn := merge_new hn0
          have z1 : (((newH all m).length : Int) == 0) = false := by rw [beq_eq_false_iff_ne]; omega
          have hwj := w64s (k := j) (by omega)
          simp only [go_sem, hg1, hg2, hg3, hg4, hY2]
          repeat' (first
            | ((first | refine aS (c3) ?_ | refine aP (c4) ?_); simp only [go_sem, hY2, fG, z1, hwj])
            | ((first | refine cS ?_ ?_ | refine gS ?_ ?_) <;> (intro hc; simp only [go_sem, hc, hY2, fG, z1, hwj])))
          refine ⟨(j + 1, mergeH all (newH all m), newH all m, _, []), ⟨goodS_merge go hgnew hbig, hgnew, by dsimp only; omega, hn0, by dsimp only; omega, by simp; omega, hfe _, get_other hY0 (by omega) _, ⟨none, fG _⟩, by dsimp only; rw [e300]; exact hG, by dsimp only; rw [e300]; exact hJ⟩, by dsimp only; omega, rfl, rfl⟩
theorem p_star (l : List Fld) (t : Int) (ot ow ol o : Nat) (p : Policy) (F : Head -> Option (List Head)) (hF : gvs l t ot ow ol o p F) (hg : ∀ h r,rightH h = true -> F h = some r -> goodS r) (h : Head) (hr : rightH h = true) (H : Heap) (hW : isW l t ot ow ol o H) :
  SCall Tryz.prog 185 [.ptr o 0,.agg p.c,.agg h.c] H (resD (cloGo F 300 [h] [h]) (cloJ F 300 [h] [h] 0)):=by
 refine ACall.drop ?_ ((ACall.res (p_starA l t ot ow ol o p F hF hg h hr H hW)).mono fun v H' hx => ?_)
 ·cases cloGo F 300 [h] [h] with
  | none => rfl
  | some r =>
   show bndL _ _ = true
   simp only [bndL,AV.bnd,Bool.and_true]
   have:=row_bnd (n:=H.length) (es:=r.map Head.c) headsC_bnd
   rw [headsC_l] at this
   simpa [AV.bnd] using this
 ·obtain ⟨v0,⟨h1,h2⟩,rfl⟩:=hx
  exact ⟨h1,h2⟩
end Go.AI
namespace Go.AI
open Go.Proofs
set_option maxRecDepth 50000
theorem right_z : rightH Head.z = true:=by decide
theorem right_pat {f : Fld} (hf : okFld f) {n m : Nat} (hn : n < 2 ^ fW f) : rightH (patN f n m).mask = true /\ rightH (patN f n m).bits = true :=
 ⟨right_setN hf (maskN_lt _ _) right_z,right_setN hf (Nat.lt_of_le_of_lt Nat.and_le_left hn) right_z⟩
theorem q_0 (H : Heap) (a : Option (List AV)) (z : Heap) : (H ++ (a :: z))[H.length]? = some a:=by rw [List.getElem?_append_right (Nat.le_refl _),Nat.sub_self]; rfl
theorem q_1 (H : Heap) (a b : Option (List AV)) (z : Heap) : (H ++ (a :: b :: z))[H.length + 1]? = some b:=by rw [List.getElem?_append_right (by omega),Nat.add_sub_cancel_left]; rfl
theorem q_2 (H : Heap) (a b c : Option (List AV)) (z : Heap) : (H ++ (a :: b :: c :: z))[H.length + 2]? = some c:=by rw [List.getElem?_append_right (by omega),Nat.add_sub_cancel_left]; rfl
theorem q_s2 (H : Heap) (a b c d : Option (List AV)) : (H ++ [a,b,c]).set (H.length + 2) d = H ++ [a,b,d]:=by rw [List.set_append_right _ _ (by omega),Nat.add_sub_cancel_left]; rfl
theorem p_wHolds (l : List Fld) (hl : okFs l) (hln : l.length <= 9223372036854775807) (t : Int) (ot ow ol o : Nat) : ∀ x : Pred, goodP l x -> ∀ h, rightH h = true -> ∀ H, isW l t ot ow ol o H -> SCall Tryz.prog 173 [.agg x.c, .agg h.c, .ptr ot 0, .ptr ow 0, .ptr ol 0] H (.bool (hP l t x h)) := by
  refine Pred.ind _ fun x ih => fun hx h hr H hW => ?_
  have hc : ∀ a, a ∈ x.args -> goodP l a -> ∀ z, RCall Tryz.prog 173 [.agg a.c, .agg h.c, .ptr ot 0, .ptr ow 0, .ptr ol 0] (H ++ z) (.bool (hP l t a h)) := fun a ha ga z H2 hv => ih a ha ga h hr H2 ((hW.grow z).view hv)
  obtain ⟨w1, w2, ⟨w, w3⟩, w4⟩ := hW
  have eT := get_grow w1
  have eO := get_grow w2
  have eL := get_grow w3
  have eF := get_grow w4
  have q0 := q_0 H
  have q1 := q_1 H
  have q2 := q_2 H
  have s2 := q_s2 H
  rw [hP_eq]
  refine ACall.drop rfl ?_
  rcases goodP_kind hl hx with k | k | k | ⟨k, a, ha, ga⟩ | ⟨k, a, b, ha, ga, gb⟩ | ⟨k, hf, hfo, hn, hn2⟩ | ⟨k, ⟨hf, hfo, hn, hn2⟩, hm, hm2⟩ | ⟨k, hf, hfo, hn, hnm, hm2⟩
  · refine aC h173_k rfl ?_
    simp only [Tryz.f173, go_sem, eT, eO, eL, eF, q0, q1, q2, s2, List.length_append, List.append_assoc, List.cons_append, List.nil_append, List.length_cons, List.length_nil, Nat.add_assoc, Nat.reduceAdd, k, Int.reduceBEq]
    repeat' (first
      | ((first | refine cS ?_ ?_ | refine gS ?_ ?_) <;> (intro hc; simp only [go_sem, hc, Int.reduceBEq, k, eT, eO, eL, eF, q0, q1, q2, s2, List.length_append, List.append_assoc, List.cons_append, List.nil_append, List.length_cons, List.length_nil, Nat.add_assoc, Nat.reduceAdd])))
    all_goals first | rfl | skip
  · refine aC h173_k rfl ?_
    simp only [Tryz.f173, go_sem, eT, eO, eL, eF, q0, q1, q2, s2, List.length_append, List.append_assoc, List.cons_append, List.nil_append, List.length_cons, List.length_nil, Nat.add_assoc, Nat.reduceAdd, k, Int.reduceBEq]
    repeat' (first
      | ((first | refine cS ?_ ?_ | refine gS ?_ ?_) <;> (intro hc; simp only [go_sem, hc, Int.reduceBEq, k, eT, eO, eL, eF, q0, q1, q2, s2, List.length_append, List.append_assoc, List.cons_append, List.nil_append, List.length_cons, List.length_nil, Nat.add_assoc, Nat.reduceAdd])))
    all_goals first | rfl | skip
  · refine aC h173_k rfl ?_
    simp only [Tryz.f173, go_sem, eT, eO, eL, eF, q0, q1, q2, s2, List.length_append, List.append_assoc, List.cons_append, List.nil_append, List.length_cons, List.length_nil, Nat.add_assoc, Nat.reduceAdd, k, Int.reduceBEq]
    repeat' (first
      | ((first | refine cS ?_ ?_ | refine gS ?_ ?_) <;> (intro hc; simp only [go_sem, hc, Int.reduceBEq, k, eT, eO, eL, eF, q0, q1, q2, s2, List.length_append, List.append_assoc, List.cons_append, List.nil_append, List.length_cons, List.length_nil, Nat.add_assoc, Nat.reduceAdd])))
    all_goals first
      | (show AV.bool _ = AV.bool (decide (x.n <= t) && decide (t < x.m))
         rw [hc]; rfl)
      | skip
  · have c1 := hc a (by rw [ha]; simp) ga
    have e1 : fnth (hPs l t x.args) 0 h = hP l t a h := hPs_at l t (by rw [ha]; rfl) h
    have g1 : (0 : Int) < (x.args.length : Int) := by rw [ha]; simp
    have g2 := lPred_get (l := x.args) (i := 0) (x := a) (by rw [ha]; rfl)
    refine aC h173_k rfl ?_
    simp only [Tryz.f173, go_sem, eT, eO, eL, eF, q0, q1, q2, s2, List.length_append, List.append_assoc, List.cons_append, List.nil_append, List.length_cons, List.length_nil, Nat.add_assoc, Nat.reduceAdd, k, Int.reduceBEq, g1, g2]
    repeat' (first
      | (refine rK (c1 _) ?_; simp only [go_sem, Int.reduceBEq, k, eT, eO, eL, eF, q0, q1, q2, s2, List.length_append, List.append_assoc, List.cons_append, List.nil_append, List.length_cons, List.length_nil, Nat.add_assoc, Nat.reduceAdd, g1, g2])
      | ((first | refine cS ?_ ?_ | refine gS ?_ ?_) <;> (intro hc; simp only [go_sem, hc, Int.reduceBEq, k, eT, eO, eL, eF, q0, q1, q2, s2, List.length_append, List.append_assoc, List.cons_append, List.nil_append, List.length_cons, List.length_nil, Nat.add_assoc, Nat.reduceAdd, g1, g2])))
    all_goals first
      | (show _ = AV.bool (!fnth (hPs l t x.args) 0 h)
         rw [e1])
      | skip
  · have c1 := hc a (by rw [ha]; simp) ga
    have c2 := hc b (by rw [ha]; simp) gb
    have e1 : fnth (hPs l t x.args) 0 h = hP l t a h := hPs_at l t (by rw [ha]; rfl) h
    have e2 : fnth (hPs l t x.args) 1 h = hP l t b h := hPs_at l t (by rw [ha]; rfl) h
    have g1 : (0 : Int) < (x.args.length : Int) := by rw [ha]; simp
    have g2 := lPred_get (l := x.args) (i := 0) (x := a) (by rw [ha]; rfl)
    have g3 : (1 : Int) < (x.args.length : Int) := by rw [ha]; simp
    have g4 := lPred_get (l := x.args) (i := 1) (x := b) (by rw [ha]; rfl)
    rcases k with k | k
    · refine aC h173_k rfl ?_
      simp only [Tryz.f173, go_sem, eT, eO, eL, eF, q0, q1, q2, s2, List.length_append, List.append_assoc, List.cons_append, List.nil_append, List.length_cons, List.length_nil, Nat.add_assoc, Nat.reduceAdd, k, Int.reduceBEq, g1, g2, g3, g4]
      repeat' (first
        | ((first | refine rK (c1 _) ?_ | refine rK (c2 _) ?_); simp only [go_sem, Int.reduceBEq, k, eT, eO, eL, eF, q0, q1, q2, s2, List.length_append, List.append_assoc, List.cons_append, List.nil_append, List.length_cons, List.length_nil, Nat.add_assoc, Nat.reduceAdd, g1, g2, g3, g4])
        | ((first | refine cS ?_ ?_ | refine gS ?_ ?_) <;> (intro hc; simp only [go_sem, hc, Int.reduceBEq, k, eT, eO, eL, eF, q0, q1, q2, s2, List.length_append, List.append_assoc, List.cons_append, List.nil_append, List.length_cons, List.length_nil, Nat.add_assoc, Nat.reduceAdd, g1, g2, g3, g4])))
      all_goals first
        | (show _ = AV.bool (fnth (hPs l t x.args) 0 h && fnth (hPs l t x.args) 1 h)
           rw [e1, e2]
           revert hc
           cases hP l t a h <;> simp)
        | skip
    · refine aC h173_k rfl ?_
      simp only [Tryz.f173, go_sem, eT, eO, eL, eF, q0, q1, q2, s2, List.length_append, List.append_assoc, List.cons_append, List.nil_append, List.length_cons, List.length_nil, Nat.add_assoc, Nat.reduceAdd, k, Int.reduceBEq, g1, g2, g3, g4]
      repeat' (first
        | ((first | refine rK (c1 _) ?_ | refine rK (c2 _) ?_); simp only [go_sem, Int.reduceBEq, k, eT, eO, eL, eF, q0, q1, q2, s2, List.length_append, List.append_assoc, List.cons_append, List.nil_append, List.length_cons, List.length_nil, Nat.add_assoc, Nat.reduceAdd, g1, g2, g3, g4])
        | ((first | refine cS ?_ ?_ | refine gS ?_ ?_) <;> (intro hc; simp only [go_sem, hc, Int.reduceBEq, k, eT, eO, eL, eF, q0, q1, q2, s2, List.length_append, List.append_assoc, List.cons_append, List.nil_append, List.length_cons, List.length_nil, Nat.add_assoc, Nat.reduceAdd, g1, g2, g3, g4])))
      all_goals first
        | (show _ = AV.bool (fnth (hPs l t x.args) 0 h || fnth (hPs l t x.args) 1 h)
           rw [e1, e2]
           revert hc
           cases hP l t a h <;> simp)
        | skip
  · have c1 := p_Find l hln x.field
    have c2 := p_Equal _ hfo x.n.toNat hn2
    have hrp := right_pat hfo (m := fW (findF l x.field).1) hn2
    have c3 := p_Match _ hrp.1 hrp.2 h hr
    rw [match_pat hfo hn2 (Nat.le_refl _) h] at c3
    rw [Int.toNat_of_nonneg hn] at c2
    refine aC h173_k rfl ?_
    simp only [Tryz.f173, go_sem, eT, eO, eL, eF, q0, q1, q2, s2, List.length_append, List.append_assoc, List.cons_append, List.nil_append, List.length_cons, List.length_nil, Nat.add_assoc, Nat.reduceAdd, k, Int.reduceBEq]
    repeat' (first
      | ((first | refine pK (c1) ?_ | refine pK (c2) ?_ | refine pK (c3) ?_); simp only [go_sem, Int.reduceBEq, k, eT, eO, eL, eF, q0, q1, q2, s2, List.length_append, List.append_assoc, List.cons_append, List.nil_append, List.length_cons, List.length_nil, Nat.add_assoc, Nat.reduceAdd])
      | ((first | refine cS ?_ ?_ | refine gS ?_ ?_) <;> (intro hc; simp only [go_sem, hc, Int.reduceBEq, k, eT, eO, eL, eF, q0, q1, q2, s2, List.length_append, List.append_assoc, List.cons_append, List.nil_append, List.length_cons, List.length_nil, Nat.add_assoc, Nat.reduceAdd])))
    all_goals first
      | (show AV.bool _ = AV.bool (decide ((getN (findF l x.field).1 h : Int) = x.n))
         congr 1
         rw [Nat.sub_self, Nat.pow_zero, Nat.div_one, Nat.div_one, Bool.eq_iff_iff, decide_eq_true_eq, decide_eq_true_eq]
         omega)
      | skip
  · have hm' : 0 <= x.m := hm
    have hm3 : x.m.toNat <= fW (findF l x.field).1 := hm2
    have c1 := p_Find l hln x.field
    have c2 := p_Prefix _ hfo x.n.toNat x.m.toNat hn2 hm3
    have hrp := right_pat hfo (m := x.m.toNat) hn2
    have c3 := p_Match _ hrp.1 hrp.2 h hr
    rw [match_pat hfo hn2 hm3 h] at c3
    rw [Int.toNat_of_nonneg hn, Int.toNat_of_nonneg hm'] at c2
    refine aC h173_k rfl ?_
    simp only [Tryz.f173, go_sem, eT, eO, eL, eF, q0, q1, q2, s2, List.length_append, List.append_assoc, List.cons_append, List.nil_append, List.length_cons, List.length_nil, Nat.add_assoc, Nat.reduceAdd, k, Int.reduceBEq]
    repeat' (first
      | ((first | refine pK (c1) ?_ | refine pK (c2) ?_ | refine pK (c3) ?_); simp only [go_sem, Int.reduceBEq, k, eT, eO, eL, eF, q0, q1, q2, s2, List.length_append, List.append_assoc, List.cons_append, List.nil_append, List.length_cons, List.length_nil, Nat.add_assoc, Nat.reduceAdd])
      | ((first | refine cS ?_ ?_ | refine gS ?_ ?_) <;> (intro hc; simp only [go_sem, hc, Int.reduceBEq, k, eT, eO, eL, eF, q0, q1, q2, s2, List.length_append, List.append_assoc, List.cons_append, List.nil_append, List.length_cons, List.length_nil, Nat.add_assoc, Nat.reduceAdd])))
    all_goals first | rfl | skip
  · have c1 := p_Find l hln x.field
    have c2 := p_fGet _ hfo h hr
    refine aC h173_k rfl ?_
    simp only [Tryz.f173, go_sem, eT, eO, eL, eF, q0, q1, q2, s2, List.length_append, List.append_assoc, List.cons_append, List.nil_append, List.length_cons, List.length_nil, Nat.add_assoc, Nat.reduceAdd, k, Int.reduceBEq]
    repeat' (first
      | ((first | refine pK (c1) ?_ | refine pK (c2) ?_); simp only [go_sem, Int.reduceBEq, k, eT, eO, eL, eF, q0, q1, q2, s2, List.length_append, List.append_assoc, List.cons_append, List.nil_append, List.length_cons, List.length_nil, Nat.add_assoc, Nat.reduceAdd])
      | ((first | refine cS ?_ ?_ | refine gS ?_ ?_) <;> (intro hc; simp only [go_sem, hc, Int.reduceBEq, k, eT, eO, eL, eF, q0, q1, q2, s2, List.length_append, List.append_assoc, List.cons_append, List.nil_append, List.length_cons, List.length_nil, Nat.add_assoc, Nat.reduceAdd])))
    all_goals first
      | (show AV.bool _ = AV.bool (decide (x.n <= getN (findF l x.field).1 h) && decide ((getN (findF l x.field).1 h : Int) <= x.m))
         rw [hc]; rfl)
      | skip
end Go.AI
namespace Go.AI
open Go.Proofs
set_option maxRecDepth 50000
theorem dK {P : Program} {f : FuncId} {vs : List AV} {d : Option Tmp} {K : Kt} {e : Env} {H : Heap} {v : AV} (hc : SCall P f vs H v) (hk : K (put d v e) H) : DCallK P f vs d K e H :=
 ⟨v,[],by simp only [List.append_nil]; exact hc,by rw [List.append_nil]; exact hk⟩
@[go_sem] theorem resA_some (r : List Head) : resA (some r) = .tup [.sl none (lHead r),.bool true]:=rfl
@[go_sem] theorem resA_none : resA none = .tup [.sl none [],.bool false]:=rfl
@[go_sem] theorem resD_some (r : List Head) (n : Nat) : resD (some r) n = .tup [.sl none (lHead r),.int .i64 n,.bool true]:=rfl
@[go_sem] theorem resD_none (n : Nat) : resD none n = .tup [.sl none [],.int .i64 0,.bool false]:=rfl
theorem resA_bnd (o : Option (List Head)) (n : Nat) : (resA o).bnd n = true:=by
 cases o with
 | none => rfl
 | some r =>
  simp only [resA,AV.bnd,bndL,Bool.and_true]
  have:=row_bnd (n:=n) (es:=r.map Head.c) headsC_bnd
  rw [headsC_l] at this
  simpa [AV.bnd] using this
theorem p_wGivesA (l : List Fld) (hl : okFs l) (hln : l.length <= 9223372036854775807) (t : Int) (ot ow ol o : Nat) : ∀ x : Policy, goodO l x -> gvs l t ot ow ol o x (vO l t x) := by
  refine Policy.ind _ fun x ih => fun hx h hr H hW => ?_
  have hh : goodP l x.pred -> ∀ z, RCall Tryz.prog 173 [.agg x.pred.c, .agg h.c, .ptr ot 0, .ptr ow 0, .ptr ol 0] (H ++ z) (.bool (hP l t x.pred h)) := fun gp z H2 hv => p_wHolds l hl hln t ot ow ol o x.pred gp h hr H2 ((hW.grow z).view hv)
  have hc : ∀ a, a ∈ x.args -> goodO l a -> ∀ z, RCall Tryz.prog 179 [.agg a.c, .agg h.c, .ptr ow 0, .ptr ol 0] (H ++ z) (resA (vO l t a h)) := fun a ha ga z H2 hv => ih a ha ga h hr H2 ((hW.grow z).view hv)
  have hWg := hW.grow
  obtain ⟨w1, w2, ⟨w, w3⟩, w4⟩ := hW
  have eO := get_grow w2
  have eL := get_grow w3
  have eF := get_grow w4
  have q0 := q_0 H
  have q1 := q_1 H
  have q2 := q_2 H
  have s2 := q_s2 H
  rw [vO_eq]
  suffices hs : ACall Tryz.prog 179 [.agg x.c, .agg h.c, .ptr ow 0, .ptr ol 0] H fun v H' => v.borrow = resA (stepO l t x.kind x.pred x.field x.n (vOs l t x.args) h) /\ ∃ ext, H' = H ++ ext by
    refine ACall.drop (resA_bnd _ _) ((ACall.res hs).mono fun v H' hx => ?_)
    obtain ⟨v0, ⟨h1, h2⟩, rfl⟩ := hx
    exact ⟨h1, h2⟩
  rcases goodO_kind hl hx with ⟨k, gp⟩ | ⟨k, hfo, hft, hn, hn2⟩ | ⟨k, a, b, ha, ga, gb⟩ | ⟨k, a, ha, ga⟩
  · have c1 := hh gp
    refine aC h179_k rfl ?_
    simp only [Tryz.f179, go_sem, eO, eL, eF, q0, q1, q2, s2, List.length_append, List.append_assoc, List.cons_append, List.nil_append, List.length_cons, List.length_nil, Nat.add_assoc, Nat.reduceAdd, k, Int.reduceBEq]
    repeat' (first
      | (refine rK (c1 _) ?_; simp only [go_sem, Int.reduceBEq, k, eO, eL, eF, q0, q1, q2, s2, List.length_append, List.append_assoc, List.cons_append, List.nil_append, List.length_cons, List.length_nil, Nat.add_assoc, Nat.reduceAdd])
      | ((first | refine cS ?_ ?_ | refine gS ?_ ?_) <;> (intro hc; simp only [go_sem, hc, Int.reduceBEq, k, eO, eL, eF, q0, q1, q2, s2, List.length_append, List.append_assoc, List.cons_append, List.nil_append, List.length_cons, List.length_nil, Nat.add_assoc, Nat.reduceAdd])))
    all_goals first
      | (show _ = resA (some (if hP l t x.pred h = true then [h] else []))
         revert hc
         cases hP l t x.pred h <;> intro hc <;> first | rfl | cases hc)
      | skip
  · have c1 := p_Find l hln x.field
    have c2 := p_Mod _ hfo x.n.toNat hn2
    have hrp := right_pat hfo (m := fW (findF l x.field).1) hn2
    have c3 := p_Apply _ hrp.1 hrp.2 h hr
    rw [apply_pat hfo hn2 hr] at c3
    rw [Int.toNat_of_nonneg hn] at c2
    refine aC h179_k rfl ?_
    simp only [Tryz.f179, go_sem, eO, eL, eF, q0, q1, q2, s2, List.length_append, List.append_assoc, List.cons_append, List.nil_append, List.length_cons, List.length_nil, Nat.add_assoc, Nat.reduceAdd, k, Int.reduceBEq]
    repeat' (first
      | ((first | refine pK (c1) ?_ | refine pK (c2) ?_ | refine pK (c3) ?_); simp only [go_sem, Int.reduceBEq, k, eO, eL, eF, q0, q1, q2, s2, List.length_append, List.append_assoc, List.cons_append, List.nil_append, List.length_cons, List.length_nil, Nat.add_assoc, Nat.reduceAdd])
      | ((first | refine cS ?_ ?_ | refine gS ?_ ?_) <;> (intro hc; simp only [go_sem, hc, Int.reduceBEq, k, eO, eL, eF, q0, q1, q2, s2, List.length_append, List.append_assoc, List.cons_append, List.nil_append, List.length_cons, List.length_nil, Nat.add_assoc, Nat.reduceAdd])))
    all_goals first | rfl | skip
  · have e0 : onth (vOs l t x.args) 0 = vO l t a := vOs_at l t (by rw [ha]; rfl)
    have e1 : onth (vOs l t x.args) 1 = vO l t b := vOs_at l t (by rw [ha]; rfl)
    have v0 := vO_good l hl t a ga
    have v1 := vO_good l hl t b gb
    have g1 : (0 : Int) < (x.args.length : Int) := by rw [ha]; simp
    have g2 := lPolicy_get (l := x.args) (i := 0) (x := a) (by rw [ha]; rfl)
    have g3 : (1 : Int) < (x.args.length : Int) := by rw [ha]; simp
    have g4 := lPolicy_get (l := x.args) (i := 1) (x := b) (by rw [ha]; rfl)
    have c1 := hc a (by rw [ha]; simp) ga
    have c2 := hc b (by rw [ha]; simp) gb
    have hb := ih b (by rw [ha]; simp) gb
    rcases k with k | k
    · have hst : stepO l t x.kind x.pred x.field x.n (vOs l t x.args) h = match vO l t a h, vO l t b h with | some a, some b => bndO (mergeH a b) | _, _ => none := by
        rw [k]
        show (match onth (vOs l t x.args) 0 h, onth (vOs l t x.args) 1 h with | some a, some b => bndO (mergeH a b) | _, _ => none) = _
        rw [e0, e1]
      rw [hst]
      cases ea : vO l t a h with
      | none =>
        rw [ea] at c1
        cases eb : vO l t b h with
        | none =>
          rw [eb] at c2
          have c3 := p_Merge [] [] (by simp)
          have c4 := p_smallL (mrgH [] []) false
          rw [if_neg (by decide)] at c4
          refine aC h179_k rfl ?_
          simp only [Tryz.f179, go_sem, eO, eL, eF, q0, q1, q2, s2, List.length_append, List.append_assoc, List.cons_append, List.nil_append, List.length_cons, List.length_nil, Nat.add_assoc, Nat.reduceAdd, k, Int.reduceBEq, g1, g2, g3, g4]
          repeat' (first
            | ((first | refine rK (c1 _) ?_ | refine rK (c2 _) ?_ | refine aS (c3 _) ?_ | refine pK (c4) ?_); simp only [go_sem, Int.reduceBEq, k, eO, eL, eF, q0, q1, q2, s2, List.length_append, List.append_assoc, List.cons_append, List.nil_append, List.length_cons, List.length_nil, Nat.add_assoc, Nat.reduceAdd, g1, g2, g3, g4])
            | ((first | refine cS ?_ ?_ | refine gS ?_ ?_) <;> (intro hc; simp only [go_sem, hc, Int.reduceBEq, k, eO, eL, eF, q0, q1, q2, s2, List.length_append, List.append_assoc, List.cons_append, List.nil_append, List.length_cons, List.length_nil, Nat.add_assoc, Nat.reduceAdd, g1, g2, g3, g4])))
        | some v =>
          rw [eb] at c2
          have gv := v1 h v hr eb
          have c3 := p_Merge [] v (by have := gv.2.1; simp; omega)
          have c4 := p_smallL (mrgH [] v) false
          rw [if_neg (by decide)] at c4
          refine aC h179_k rfl ?_
          simp only [Tryz.f179, go_sem, eO, eL, eF, q0, q1, q2, s2, List.length_append, List.append_assoc, List.cons_append, List.nil_append, List.length_cons, List.length_nil, Nat.add_assoc, Nat.reduceAdd, k, Int.reduceBEq, g1, g2, g3, g4]
          repeat' (first
            | ((first | refine rK (c1 _) ?_ | refine rK (c2 _) ?_ | refine aS (c3 _) ?_ | refine pK (c4) ?_); simp only [go_sem, Int.reduceBEq, k, eO, eL, eF, q0, q1, q2, s2, List.length_append, List.append_assoc, List.cons_append, List.nil_append, List.length_cons, List.length_nil, Nat.add_assoc, Nat.reduceAdd, g1, g2, g3, g4])
            | ((first | refine cS ?_ ?_ | refine gS ?_ ?_) <;> (intro hc; simp only [go_sem, hc, Int.reduceBEq, k, eO, eL, eF, q0, q1, q2, s2, List.length_append, List.append_assoc, List.cons_append, List.nil_append, List.length_cons, List.length_nil, Nat.add_assoc, Nat.reduceAdd, g1, g2, g3, g4])))
      | some u =>
        rw [ea] at c1
        have gu := v0 h u hr ea
        cases eb : vO l t b h with
        | none =>
          rw [eb] at c2
          have c3 := p_Merge u [] (by have := gu.2.1; simp; omega)
          have c4 := p_smallL (mrgH u []) false
          rw [if_neg (by decide)] at c4
          refine aC h179_k rfl ?_
          simp only [Tryz.f179, go_sem, eO, eL, eF, q0, q1, q2, s2, List.length_append, List.append_assoc, List.cons_append, List.nil_append, List.length_cons, List.length_nil, Nat.add_assoc, Nat.reduceAdd, k, Int.reduceBEq, g1, g2, g3, g4]
          repeat' (first
            | ((first | refine rK (c1 _) ?_ | refine rK (c2 _) ?_ | refine aS (c3 _) ?_ | refine pK (c4) ?_); simp only [go_sem, Int.reduceBEq, k, eO, eL, eF, q0, q1, q2, s2, List.length_append, List.append_assoc, List.cons_append, List.nil_append, List.length_cons, List.length_nil, Nat.add_assoc, Nat.reduceAdd, g1, g2, g3, g4])
            | ((first | refine cS ?_ ?_ | refine gS ?_ ?_) <;> (intro hc; simp only [go_sem, hc, Int.reduceBEq, k, eO, eL, eF, q0, q1, q2, s2, List.length_append, List.append_assoc, List.cons_append, List.nil_append, List.length_cons, List.length_nil, Nat.add_assoc, Nat.reduceAdd, g1, g2, g3, g4])))
        | some v =>
          rw [eb] at c2
          have gv := v1 h v hr eb
          have c3 := p_Merge u v (by have := gu.2.1; have := gv.2.1; omega)
          have c4 := p_smallL (mrgH u v) true
          rw [if_pos rfl] at c4
          rw [mrgH_eq gu.1 gv.1] at c3 c4
          dsimp only
          cases eo : bndO (mergeH u v) with
          | none =>
            rw [eo] at c4
            refine aC h179_k rfl ?_
            simp only [Tryz.f179, go_sem, eO, eL, eF, q0, q1, q2, s2, List.length_append, List.append_assoc, List.cons_append, List.nil_append, List.length_cons, List.length_nil, Nat.add_assoc, Nat.reduceAdd, k, Int.reduceBEq, g1, g2, g3, g4]
            repeat' (first
              | ((first | refine rK (c1 _) ?_ | refine rK (c2 _) ?_ | refine aS (c3 _) ?_ | refine pK (c4) ?_); simp only [go_sem, Int.reduceBEq, k, eO, eL, eF, q0, q1, q2, s2, List.length_append, List.append_assoc, List.cons_append, List.nil_append, List.length_cons, List.length_nil, Nat.add_assoc, Nat.reduceAdd, g1, g2, g3, g4])
              | ((first | refine cS ?_ ?_ | refine gS ?_ ?_) <;> (intro hc; simp only [go_sem, hc, Int.reduceBEq, k, eO, eL, eF, q0, q1, q2, s2, List.length_append, List.append_assoc, List.cons_append, List.nil_append, List.length_cons, List.length_nil, Nat.add_assoc, Nat.reduceAdd, g1, g2, g3, g4])))
          | some r =>
            rw [eo] at c4
            refine aC h179_k rfl ?_
            simp only [Tryz.f179, go_sem, eO, eL, eF, q0, q1, q2, s2, List.length_append, List.append_assoc, List.cons_append, List.nil_append, List.length_cons, List.length_nil, Nat.add_assoc, Nat.reduceAdd, k, Int.reduceBEq, g1, g2, g3, g4]
            repeat' (first
              | ((first | refine rK (c1 _) ?_ | refine rK (c2 _) ?_ | refine aS (c3 _) ?_ | refine pK (c4) ?_); simp only [go_sem, Int.reduceBEq, k, eO, eL, eF, q0, q1, q2, s2, List.length_append, List.append_assoc, List.cons_append, List.nil_append, List.length_cons, List.length_nil, Nat.add_assoc, Nat.reduceAdd, g1, g2, g3, g4])
              | ((first | refine cS ?_ ?_ | refine gS ?_ ?_) <;> (intro hc; simp only [go_sem, hc, Int.reduceBEq, k, eO, eL, eF, q0, q1, q2, s2, List.length_append, List.append_assoc, List.cons_append, List.nil_append, List.length_cons, List.length_nil, Nat.add_assoc, Nat.reduceAdd, g1, g2, g3, g4])))
    · have hst : stepO l t x.kind x.pred x.field x.n (vOs l t x.args) h = match vO l t a h with | some a => imgGo (vO l t b) [] a | none => none := by
        rw [k]
        show (match onth (vOs l t x.args) 0 h with | some a => imgGo (onth (vOs l t x.args) 1) [] a | none => none) = _
        rw [e0, e1]
      rw [hst]
      cases ea : vO l t a h with
      | none =>
        rw [ea] at c1
        refine aC h179_k rfl ?_
        simp only [Tryz.f179, go_sem, eO, eL, eF, q0, q1, q2, s2, List.length_append, List.append_assoc, List.cons_append, List.nil_append, List.length_cons, List.length_nil, Nat.add_assoc, Nat.reduceAdd, k, Int.reduceBEq, g1, g2, g3, g4]
        repeat' (first
          | (refine rK (c1 _) ?_; simp only [go_sem, Int.reduceBEq, k, eO, eL, eF, q0, q1, q2, s2, List.length_append, List.append_assoc, List.cons_append, List.nil_append, List.length_cons, List.length_nil, Nat.add_assoc, Nat.reduceAdd, g1, g2, g3, g4])
          | ((first | refine cS ?_ ?_ | refine gS ?_ ?_) <;> (intro hc; simp only [go_sem, hc, Int.reduceBEq, k, eO, eL, eF, q0, q1, q2, s2, List.length_append, List.append_assoc, List.cons_append, List.nil_append, List.length_cons, List.length_nil, Nat.add_assoc, Nat.reduceAdd, g1, g2, g3, g4])))
      | some u =>
        rw [ea] at c1
        have gu := v0 h u hr ea
        have c3 := fun z => p_image l t ot ow ol o b _ hb v1 u gu.2.2 (by have := gu.2.1; omega) (H ++ z) (hWg z)
        dsimp only
        cases eo : imgGo (vO l t b) [] u with
        | none =>
          rw [eo] at c3
          refine aC h179_k rfl ?_
          simp only [Tryz.f179, go_sem, eO, eL, eF, q0, q1, q2, s2, List.length_append, List.append_assoc, List.cons_append, List.nil_append, List.length_cons, List.length_nil, Nat.add_assoc, Nat.reduceAdd, k, Int.reduceBEq, g1, g2, g3, g4]
          repeat' (first
            | ((first | refine rK (c1 _) ?_ | refine dK (c3 _) ?_); simp only [go_sem, Int.reduceBEq, k, eO, eL, eF, q0, q1, q2, s2, List.length_append, List.append_assoc, List.cons_append, List.nil_append, List.length_cons, List.length_nil, Nat.add_assoc, Nat.reduceAdd, g1, g2, g3, g4])
            | ((first | refine cS ?_ ?_ | refine gS ?_ ?_) <;> (intro hc; simp only [go_sem, hc, Int.reduceBEq, k, eO, eL, eF, q0, q1, q2, s2, List.length_append, List.append_assoc, List.cons_append, List.nil_append, List.length_cons, List.length_nil, Nat.add_assoc, Nat.reduceAdd, g1, g2, g3, g4])))
        | some r =>
          rw [eo] at c3
          refine aC h179_k rfl ?_
          simp only [Tryz.f179, go_sem, eO, eL, eF, q0, q1, q2, s2, List.length_append, List.append_assoc, List.cons_append, List.nil_append, List.length_cons, List.length_nil, Nat.add_assoc, Nat.reduceAdd, k, Int.reduceBEq, g1, g2, g3, g4]
          repeat' (first
            | ((first | refine rK (c1 _) ?_ | refine dK (c3 _) ?_); simp only [go_sem, Int.reduceBEq, k, eO, eL, eF, q0, q1, q2, s2, List.length_append, List.append_assoc, List.cons_append, List.nil_append, List.length_cons, List.length_nil, Nat.add_assoc, Nat.reduceAdd, g1, g2, g3, g4])
            | ((first | refine cS ?_ ?_ | refine gS ?_ ?_) <;> (intro hc; simp only [go_sem, hc, Int.reduceBEq, k, eO, eL, eF, q0, q1, q2, s2, List.length_append, List.append_assoc, List.cons_append, List.nil_append, List.length_cons, List.length_nil, Nat.add_assoc, Nat.reduceAdd, g1, g2, g3, g4])))
  · have e0 : onth (vOs l t x.args) 0 = vO l t a := vOs_at l t (by rw [ha]; rfl)
    have g1 : (0 : Int) < (x.args.length : Int) := by rw [ha]; simp
    have g2 := lPolicy_get (l := x.args) (i := 0) (x := a) (by rw [ha]; rfl)
    have c3 := fun z => p_star l t ot ow ol o a _ (ih a (by rw [ha]; simp) ga) (vO_good l hl t a ga) h hr (H ++ z) (hWg z)
    have hst : stepO l t x.kind x.pred x.field x.n (vOs l t x.args) h = cloGo (vO l t a) 300 [h] [h] := by
      rw [k]
      show cloGo (onth (vOs l t x.args) 0) 300 [h] [h] = _
      rw [e0]
    rw [hst]
    cases eo : cloGo (vO l t a) 300 [h] [h] with
    | none =>
      rw [eo] at c3
      refine aC h179_k rfl ?_
      simp only [Tryz.f179, go_sem, eO, eL, eF, q0, q1, q2, s2, List.length_append, List.append_assoc, List.cons_append, List.nil_append, List.length_cons, List.length_nil, Nat.add_assoc, Nat.reduceAdd, k, Int.reduceBEq, g1, g2]
      repeat' (first
        | (refine dK (c3 _) ?_; simp only [go_sem, Int.reduceBEq, k, eO, eL, eF, q0, q1, q2, s2, List.length_append, List.append_assoc, List.cons_append, List.nil_append, List.length_cons, List.length_nil, Nat.add_assoc, Nat.reduceAdd, g1, g2])
        | ((first | refine cS ?_ ?_ | refine gS ?_ ?_) <;> (intro hc; simp only [go_sem, hc, Int.reduceBEq, k, eO, eL, eF, q0, q1, q2, s2, List.length_append, List.append_assoc, List.cons_append, List.nil_append, List.length_cons, List.length_nil, Nat.add_assoc, Nat.reduceAdd, g1, g2])))
    | some r =>
      rw [eo] at c3
      refine aC h179_k rfl ?_
      simp only [Tryz.f179, go_sem, eO, eL, eF, q0, q1, q2, s2, List.length_append, List.append_assoc, List.cons_append, List.nil_append, List.length_cons, List.length_nil, Nat.add_assoc, Nat.reduceAdd, k, Int.reduceBEq, g1, g2]
      repeat' (first
        | (refine dK (c3 _) ?_; simp only [go_sem, Int.reduceBEq, k, eO, eL, eF, q0, q1, q2, s2, List.length_append, List.append_assoc, List.cons_append, List.nil_append, List.length_cons, List.length_nil, Nat.add_assoc, Nat.reduceAdd, g1, g2])
        | ((first | refine cS ?_ ?_ | refine gS ?_ ?_) <;> (intro hc; simp only [go_sem, hc, Int.reduceBEq, k, eO, eL, eF, q0, q1, q2, s2, List.length_append, List.append_assoc, List.cons_append, List.nil_append, List.length_cons, List.length_nil, Nat.add_assoc, Nat.reduceAdd, g1, g2])))
end Go.AI
namespace Go.AI
open Go.Proofs
set_option maxRecDepth 50000
def wldC (n : Nat) : List AV:=[.fn (.func 173) [] [.ptr (n + 1) 0,.ptr (n + 3) 0,.ptr n 0],.fn (.func 179) [] [.ptr (n + 3) 0,.ptr n 0]]
theorem q_3 (H : Heap) (a b c d : Option (List AV)) : (H ++ [a,b,c,d])[H.length + 3]? = some d:=by rw [List.getElem?_append_right (by omega),Nat.add_sub_cancel_left]; rfl
theorem q_s3 (H : Heap) (a b c d e : Option (List AV)) : (H ++ [a,b,c,d]).set (H.length + 3) e = H ++ [a,b,c,e]:=by rw [List.set_append_right _ _ (by omega),Nat.add_sub_cancel_left]; rfl
theorem q_s23 (H : Heap) (a b c d e : Option (List AV)) : (H ++ [a,b,c,d]).set (H.length + 2) e = H ++ [a,b,e,d]:=by rw [List.set_append_right _ _ (by omega),Nat.add_sub_cancel_left]; rfl
theorem p_in (l : List Fld) (t : Int) (H : Heap) : ACall Tryz.prog 106 [.sl none (lFld l),.int .i64 t] H fun v H' => v = .ptr (H.length + 2) 0 /\ H' = H ++ [some [.sl none (lFld l)],some [.int .i64 t],some (wldC H.length),some [.ptr (H.length + 2) 0]]:=by
 have q3:=q_3 H
 have q2:=q_2 H
 have s3:=q_s3 H
 have s2:=q_s23 H
 refine aC h106_k rfl ?_
 simp only [Tryz.f106,go_sem,q3,q2,s3,s2,List.length_append,List.append_assoc,List.cons_append,List.nil_append,List.length_cons,List.length_nil,Nat.add_assoc,Nat.reduceAdd]
 all_goals first | rfl | exact ⟨rfl,rfl⟩ | skip
theorem p_result (r : List Head) (b : Bool) : PCall Tryz.prog 105 [.sl none (lHead r),.bool b] (resO (if b = true then some r else none)):=by
 refine pB h105_k rfl ?_
 cases b <;> simp only [Tryz.f105,go_sem] <;> rfl
theorem p_mEval (l : List Fld) (hl : okFs l) (hln : l.length <= 9223372036854775807) (x : Policy) (hx : goodO l x) (t : Int) (h : Head) (hr : rightH h = true) : PCall Tryz.prog 53 [.sl none (lFld l),.agg x.c,.agg h.c,.int .i64 t] (resO (vO l t x h)):=by
 have c1 : ACall Tryz.prog 106 [.sl none (lFld l),.int .i64 t] [some x.c,some h.c] fun v H' => v = .ptr 4 0 /\ H' = [some x.c,some h.c] ++ [some [.sl none (lFld l)],some [.int .i64 t],some (wldC 2),some [.ptr 4 0]]:=p_in l t [some x.c,some h.c]
 have hW : isW l t 3 5 2 4 ([some x.c,some h.c] ++ [some [.sl none (lFld l)],some [.int .i64 t],some (wldC 2),some [.ptr 4 0]]):=⟨rfl,rfl,⟨none,rfl⟩,rfl⟩
 have c2 : RCall Tryz.prog 179 [.agg x.c,.agg h.c,.ptr 5 0,.ptr 2 0] ([some x.c,some h.c] ++ [some [.sl none (lFld l)],some [.int .i64 t],some (wldC 2),some [.ptr 4 0]]) (resA (vO l t x h)):=fun H2 hv => p_wGivesA l hl hln t 3 5 2 4 x hx h hr H2 (hW.view hv)
 have ho : ∀ ops,h53.ord 1 ops = (ordI [6,7] ops.size).filterMap fun i => ops[i]?:=fun ops => rfl
 have hI : ordI [6,7] 16 = [6,7,0,1,2,3,4,5,8,9,10,11,12,13,14,15]:=by decide
 have w1 : ∀ z,([some x.c,some h.c] ++ z)[0]? = some (some x.c):=fun z => rfl
 simp only [wldC] at c1 c2
 cases ev : vO l t x h with
 | none =>
  rw [ev] at c2
  have c3:=p_result [] false
  refine pB h53_k rfl ?_
  simp only [Tryz.f53,go_sem]
  rw [awp_regionO _ _ _ (by simp only [go_sem]) rfl,ho]
  simp only [List.size_toArray,List.length_cons,List.length_nil,Nat.reduceAdd,hI,List.filterMap_cons,List.getElem?_toArray,List.getElem?_cons_succ,List.getElem?_cons_zero,List.filterMap_nil]
  simp only [go_sem]
  refine ⟨_,_,c1, ?_⟩
  simp only [go_sem]
  repeat' (first
   | ((first | refine rK (c2) ?_ | refine pK (c3) ?_); simp only [go_sem])
   | ((first | refine cS ?_ ?_ | refine gS ?_ ?_) <;> (intro hc; simp only [go_sem,hc])))
  all_goals first | rfl | skip
 | some r =>
  rw [ev] at c2
  have c3:=p_result r true
  refine pB h53_k rfl ?_
  simp only [Tryz.f53,go_sem]
  rw [awp_regionO _ _ _ (by simp only [go_sem]) rfl,ho]
  simp only [List.size_toArray,List.length_cons,List.length_nil,Nat.reduceAdd,hI,List.filterMap_cons,List.getElem?_toArray,List.getElem?_cons_succ,List.getElem?_cons_zero,List.filterMap_nil]
  simp only [go_sem]
  refine ⟨_,_,c1, ?_⟩
  simp only [go_sem]
  repeat' (first
   | ((first | refine rK (c2) ?_ | refine pK (c3) ?_); simp only [go_sem])
   | ((first | refine cS ?_ ?_ | refine gS ?_ ?_) <;> (intro hc; simp only [go_sem,hc])))
  all_goals first | rfl | skip
end Go.AI
namespace Go.AI
open Go.Proofs
set_option maxRecDepth 50000
theorem ckF_ok {l : List Fld} (h : ckF l = 0) : okFs l:=by
 have : ∀ (r : List Fld) (i : Nat),ckFGo l i r = 0 -> ∀ f ∈ r,okFld f:=by
  intro r
  induction r with
  | nil => intro i _ f hf; cases hf
  | cons x r ih =>
   intro i h f hf
   rw [ckFGo] at h
   split at h
   ·cases h
   split at h
   ·cases h
   split at h
   ·cases h
   split at h
   ·cases h
   rename_i hp _
   rcases List.mem_cons.1 hf with rfl | hf
   ·simp only [placeB,Bool.not_eq_true',Bool.and_eq_false_iff,not_or,Bool.not_eq_false,decide_eq_true_eq] at hp
    unfold okFld
    omega
   ·exact ih _ h f hf
 unfold ckF at h
 split at h
 ·cases h
 ·exact this l 0 h
end Go.AI
