/- Rows of a known capacity; rows of any width that become lists. -/
import Derived.Test.YtofajkggflobkaaGreatDoorMy
import Derived.Test.YtofajkggflobkaaGreatDoorMp
import Derived.Test.YtofajkggflobkaaGreatDoorMx
import Derived.Test.YtofajkggflobkaaGreatDoorMt
namespace Go.AI
section
variable {P : Program}
theorem ACall.cap {f : FuncId} {o off len sz : Nat} {vs : List AV} {H : Heap} {R : AV -> Heap -> Prop} (hcal : callable P f = true) (h : ∀ c,len <= c -> c <= 9223372036854775807 -> ACall P f (.mslc o off len sz c :: vs) H R) : ACall P f (.msl o off len sz :: vs) H R :=
 ⟨hcal,fun F G w us hc => by
  match us,hc with
  | [],hc => have:=hc.l.len; simp at this
  | u :: us,hc =>
   obtain ⟨hv,ht,hr⟩:=hc.l.uncons
   cases hv with
   | msl _ _ _ _ b cap hb hl hm hcc =>
    refine (h cap hl (by unfold maxLen at hm; omega)).2 F G w _ ⟨.cons (.mslc o off len sz cap b hb hl hm hcc) (tok_nil_all (toks_scalar rfl rfl _) _ _ _) hr,hc.h,fun x => ?_⟩
    have:=hc.cnt x
    rw [tcnt_cons,toks_scalar rfl rfl] at this ⊢
    exact this⟩
theorem ACall.uncap {f : FuncId} {vs : List AV} {H : Heap} {R : AV -> Heap -> Prop} (h : ACall P f vs H fun v H' => R v H' \/ ∃ o off len sz c,v = .mslc o off len sz c /\ R (.msl o off len sz) H') : ACall P f vs H R :=
 ⟨h.1,fun F G w us hc => Calls.mono (h.2 F G w us hc) fun e w' he => by
  obtain ⟨u,rfl,v',H2,G',hr,hcr,hext⟩:=he
  rcases hr with hr | ⟨o,off,len,sz,c,rfl,hr⟩
  ·exact ⟨u,rfl,v',H2,G',hr,hcr,hext⟩
  ·have hv:=hcr.l.rel 0 _ _ rfl rfl
   cases hv with
   | mslc _ _ _ _ _ b hb hl hm hcc => exact ⟨_,rfl,_,H2,G',hr,hcr.swap1 (.msl o off len sz b c hb hl hm hcc) rfl,hext⟩⟩
def rowW (n : Nat) (es : List (List AV)) (v : AV) (H H' : Heap) : Prop :=
 (es = [] /\ (∃ w,v = .sl w []) /\ ∃ ext,H' = H ++ ext) \/ ∃ ob cs,v = .msl ob 0 es.length n /\ H.length <= ob /\ (∃ ext,H' = H ++ ext) /\ H'[ob]? = some (some cs) /\ (∃ r,cs = es.flatten ++ r)
theorem ACall.frzW {f : FuncId} {vs : List AV} {H : Heap} {es : List (List AV)} {n : Nat} (hn : ∀ e ∈ es,e.length = n) (hs : ∀ e ∈ es,bndL H.length e = true) (hb : ∀ e ∈ es,e.map borrow1 = e)
  (h : ACall P f vs H fun v' H' => rowW n es v' H H') : ACall P f vs H fun v' H' => v' = .sl none (es.map .agg) /\ H' = H :=
 ⟨h.1,fun F G w us hc => Calls.mono (h.2 F G w us hc) fun e w' he => by
  obtain ⟨u,rfl,v',H2,G',hr,hcr,hext⟩:=he
  rcases hr with ⟨rfl,⟨w0,rfl⟩,ext,rfl⟩ | ⟨ob,cs,rfl,hob,⟨ext,rfl⟩,ho,r,rfl⟩
  ·have hv : VRel G' w' (.sl none []) u:=by
    have:=hcr.l.rel 0 _ _ rfl rfl
    cases this with
    | slnil => exact .slnil _
    | slany => exact .slany _ _
    | sl own es sz b q cap u' hsz hown hl hm h1 h2 => exact .sl none [] sz b q cap u' hsz (fun n hn => by cases hn) hl hm h1 h2
   obtain ⟨G2,k1,k2⟩:=hc.cutExt (hcr.swap1 hv rfl) hext rfl
   exact ⟨u,rfl,_,H,G2,⟨rfl,rfl⟩,k1,k2⟩
  ·have hv:=hcr.l.rel 0 _ _ rfl rfl
   have hlen:=rows_len es n hn
   obtain ⟨G2,ext2,k1,k2,k3⟩:=hcr.frzRow true ho hob hv (by rw [List.length_append,hlen]; omega) (.inl rfl)
   have e1 : (es.flatten ++ r).map borrow1 = es.flatten ++ r.map borrow1:=by
    rw [List.map_append,List.map_flatten]
    congr 2
    exact List.map_congr_left (f:=List.map borrow1) (g:=id) (fun e he => hb e he) |>.trans (List.map_id _)
   rw [e1,chunk_rows es _ n hn] at k3
   obtain ⟨G3,k4,k5⟩:=hc.cutExt (k1.swap1 k3 rfl) (hext.trans k2) (row_bnd hs)
   exact ⟨u,rfl,_,H,G3,⟨rfl,rfl⟩,k4,k5⟩⟩
def rowX (n : Nat) (es : List (List AV)) (v : AV) (H H' : Heap) : Prop:=rowW n es v H H' \/ ((∃ w,v = .sl w (es.map .agg)) /\ ∃ ext,H' = H ++ ext)
theorem ACall.frzX {f : FuncId} {vs : List AV} {H : Heap} {es : List (List AV)} {n : Nat} (hn : ∀ e ∈ es,e.length = n) (hs : ∀ e ∈ es,bndL H.length e = true) (hb : ∀ e ∈ es,e.map borrow1 = e)
  (h : ACall P f vs H fun v' H' => rowX n es v' H H') : ACall P f vs H fun v' H' => v' = .sl none (es.map .agg) /\ H' = H :=
 ⟨h.1,fun F G w us hc => Calls.mono (h.2 F G w us hc) fun e w' he => by
  obtain ⟨u,rfl,v',H2,G',hr,hcr,hext⟩:=he
  rcases hr with (⟨rfl,⟨w0,rfl⟩,ext,rfl⟩ | ⟨ob,cs,rfl,hob,⟨ext,rfl⟩,ho,r,rfl⟩) | ⟨⟨w0,rfl⟩,ext,rfl⟩
  ·have hv : VRel G' w' (.sl none []) u:=by
    have:=hcr.l.rel 0 _ _ rfl rfl
    cases this with
    | slnil => exact .slnil _
    | slany => exact .slany _ _
    | sl own es sz b q cap u' hsz hown hl hm h1 h2 => exact .sl none [] sz b q cap u' hsz (fun n hn => by cases hn) hl hm h1 h2
   obtain ⟨G2,k1,k2⟩:=hc.cutExt (hcr.swap1 hv rfl) hext rfl
   exact ⟨u,rfl,_,H,G2,⟨rfl,rfl⟩,k1,k2⟩
  ·have hv:=hcr.l.rel 0 _ _ rfl rfl
   have hlen:=rows_len es n hn
   obtain ⟨G2,ext2,k1,k2,k3⟩:=hcr.frzRow true ho hob hv (by rw [List.length_append,hlen]; omega) (.inl rfl)
   have e1 : (es.flatten ++ r).map borrow1 = es.flatten ++ r.map borrow1:=by
    rw [List.map_append,List.map_flatten]
    congr 2
    exact List.map_congr_left (f:=List.map borrow1) (g:=id) (fun e he => hb e he) |>.trans (List.map_id _)
   rw [e1,chunk_rows es _ n hn] at k3
   obtain ⟨G3,k4,k5⟩:=hc.cutExt (k1.swap1 k3 rfl) (hext.trans k2) (row_bnd hs)
   exact ⟨u,rfl,_,H,G3,⟨rfl,rfl⟩,k4,k5⟩
  ·have hv:=(hcr.l.rel 0 _ _ rfl rfl).borrow1
   obtain ⟨G2,k1,k2⟩:=hc.cutExt (hcr.swap1 hv rfl) hext (row_bnd hs)
   exact ⟨u,rfl,_,H,G2,⟨rfl,rfl⟩,k1,k2⟩⟩
end
end Go.AI
namespace Go.AI
open Go.Proofs
set_option maxRecDepth 50000
def cmpB (a b : ByteArray) : Int:=if ltB a b = true then -1 else if a = b then 0 else 1
def cmpL : List Int -> List Int -> Int
 | [],[] => 0
 | [],_ :: _ => -1
 | _ :: _,[] => 1
 | x :: a,y :: b => if cmpZ x y ≠ 0 then cmpZ x y else cmpL a b
def cmpE (a b : Entry) : Int:=if cmpB a.var b.var ≠ 0 then cmpB a.var b.var else cmpL a.key b.key
theorem p_cmpB (a b : ByteArray) : PCall Tryz.prog 65 [.str a,.str b] (.int .i64 (cmpB a b)):=by
 refine pC h65_k rfl ?_
 simp only [Tryz.f65,go_sem]
 repeat' (first
  | ((first | refine pK (p_nan1 a) ?_ | refine pK (p_nan1 b) ?_); simp only [go_sem,toList_beq])
  | ((first | refine cS ?_ ?_ | refine gS ?_ ?_) <;> (intro hc; simp only [go_sem,hc,toList_beq])))
 all_goals first | (simp only [cmpB,ltB]; simp_all; done) | skip
theorem p_cmpL (a b : List Int) (ha : a.length <= 1073741824) : PCall Tryz.prog 66 [.sl none (lI64 a),.sl none (lI64 b)] (.int .i64 (cmpL a b)):=by
 have ea : (lI64 a).length = a.length:=lI64_len a
 have eb : (lI64 b).length = b.length:=lI64_len b
 refine pC h66_k rfl ?_
 simp only [Tryz.f66,go_sem,ea,eb]
 refine awp_all a (fun r => cmpL r (b.drop (a.length - r.length))) (fun k => [(0,.sl none (lI64 a)),(1,.sl none (lI64 b)),(9,.sl none (lI64 a)),(10,.int .i64 a.length),(11,.int .i64 k)]) (by omega) rfl ?_ ?_
 ·intro k x xs hd hx hF h0 h1 hw
  have hk:=drop_len hd
  have e1 : a.length - (xs.length + 1) = k:=by omega
  have e2 : a.length - xs.length = k + 1:=by omega
  simp only [List.length_cons,e1,e2,Nat.sub_self,List.drop_zero] at hF ⊢
  by_cases hkb : k < b.length
  ·obtain ⟨y,hy⟩ : ∃ y,b[k]? = some y:=⟨_,List.getElem?_eq_getElem hkb⟩
   have hnb : ¬ (b.length : Int) <= (k : Int):=by omega
   rw [drop_at hy,cmpL] at hF
   simp only [go_sem,h0,h1,lI64_get hx,lI64_get hy,eb,hnb,decide_false]
   repeat' (first
    | (refine pK (p_cmpZ x y) ?_; simp only [go_sem,hw])
    | ((first | refine cS ?_ ?_ | refine gS ?_ ?_) <;> (intro hc; simp only [go_sem,hc,hw])))
   ·have hne : cmpZ x y ≠ 0:=by simpa using hc
    rw [if_pos hne] at hF
    rw [hF]
   ·have hne : ¬ cmpZ x y ≠ 0:=by simpa using hc
    rw [e1,e2,drop_at hy,cmpL,if_neg hne]
  ·have hnb : (b.length : Int) <= (k : Int):=by omega
   rw [List.drop_eq_nil_of_le (by omega),cmpL] at hF
   simp only [go_sem,h0,h1,lI64_get hx,eb,hnb,decide_true]
   rw [hF]
 ·intro hF hlt
  rw [Nat.sub_self,List.drop_zero] at hF
  simp only [go_sem,hlt,decide_false,ea,eb]
  cases hr : b.drop a.length with
  | nil =>
   have hlen : b.length <= a.length:=by simpa using hr
   have hnl : ¬ (a.length : Int) < (b.length : Int):=by omega
   rw [List.length_nil,Nat.sub_zero,hr,cmpL] at hF
   simp only [go_sem,hnl,decide_false]
   rw [hF]
  | cons y ys =>
   have hlen : a.length < b.length:=by have:=drop_len hr; omega
   have hnl : (a.length : Int) < (b.length : Int):=by omega
   rw [List.length_nil,Nat.sub_zero,hr,cmpL] at hF
   simp only [go_sem,hnl,decide_true]
   rw [hF]
theorem p_Or (l : List Int) (hl : l.length <= 1073741824) : PCall Tryz.prog 64 [.sl none (lI64 l)] (.int .i64 ((l.find? fun z => z != 0).getD 0)):=by
 have el : (lI64 l).length = l.length:=lI64_len l
 refine pC h64_k rfl ?_
 simp only [Tryz.f64,go_sem,el]
 refine awp_all l (fun r => (r.find? fun z => z != 0).getD 0) (fun k => [(3,.int .i64 0),(6,.sl none (lI64 l)),(7,.int .i64 l.length),(8,.int .i64 k)]) (by omega) rfl ?_ ?_
 ·intro k z zs hd hx hF h0 h1 hw
  simp only [go_sem,h0,h1,lI64_get hx]
  repeat' (first
   | ((first | refine cS ?_ ?_ | refine gS ?_ ?_) <;> (intro hc; simp only [go_sem,hc,hw])))
  ·rw [hF,List.find?_cons,hc]; rfl
  ·rw [List.find?_cons,hc]
 ·intro hF hlt
  simp only [go_sem,hlt,decide_false]
  rw [hF]; rfl
theorem p_Or2 (x y : Int) : PCall Tryz.prog 64 [.sl none [.int .i64 x,.int .i64 y]] (.int .i64 (if x ≠ 0 then x else y)):=by
 have h:=p_Or [x,y] (by simp)
 have e : (([x,y].find? fun z => z != 0).getD 0) = if x ≠ 0 then x else y:=by
  rw [List.find?_cons,List.find?_cons]
  by_cases hx : x = 0
  ·subst hx
   by_cases hy : y = 0
   ·subst hy; rfl
   ·have : (y != 0) = true:=by simp [hy]
    rw [this]; rfl
  ·have : (x != 0) = true:=by simp [hx]
   rw [this,if_pos hx]; rfl
 rw [e] at h
 exact h
theorem p_cmpE (a b : Entry) (ha : a.key.length <= 1073741824) : PCall Tryz.prog 37 [.agg a.c,.agg b.c] (.int .i64 (cmpE a b)):=by
 refine pC h37_k rfl ?_
 simp only [Tryz.f37,go_sem]
 repeat' (first
  | ((first | refine pK (p_cmpB a.var b.var) ?_ | refine pK (p_cmpL a.key b.key ha) ?_ | refine pK (PCall.weak (p_Or2 _ _)) ?_); simp only [go_sem])
  | ((first | refine cS ?_ ?_ | refine gS ?_ ?_) <;> (intro hc; simp only [go_sem,hc])))
 all_goals first | rfl | skip
def bsGo (l : List Entry) (x : Entry) : Nat -> Nat -> Nat -> Nat
 | 0,i,_ => i
 | f + 1,i,j => if i < j then (match l[(i + j) / 2]? with
   | some y => if cmpE y x < 0 then bsGo l x f ((i + j) / 2 + 1) j else bsGo l x f i ((i + j) / 2)
   | none => i) else i
def bsP (l : List Entry) (x : Entry) : Nat:=bsGo l x (l.length + 1) 0 l.length
def bsT (l : List Entry) (x : Entry) : Bool:=match l[bsP l x]? with
 | some y => cmpE y x == 0
 | none => false
theorem bsGo_le (l : List Entry) (x : Entry) : ∀ (f i j : Nat),i <= j -> j <= l.length -> bsGo l x f i j <= l.length
 | 0,i,j,h1,h2 => by rw [bsGo]; omega
 | f + 1,i,j,h1,h2 => by
  rw [bsGo]
  split
  ·rename_i hlt
   have hm : (i + j) / 2 < l.length:=by omega
   rw [List.getElem?_eq_getElem hm]
   dsimp only
   split
   ·exact bsGo_le l x f _ _ (by omega) h2
   ·exact bsGo_le l x f _ _ (by omega) (by omega)
  ·omega
theorem bsP_le (l : List Entry) (x : Entry) : bsP l x <= l.length:=bsGo_le l x _ _ _ (Nat.zero_le _) (Nat.le_refl _)
theorem p_bsE (l : List Entry) (hl : l.length <= 4611686018427387903) (hk : ∀ y ∈ l,y.key.length <= 1073741824) (x : Entry) : PCall Tryz.prog 256 [.sl none (lEntry l),.agg x.c,.fn (.func 37) [] []] (.tup [.int .i64 (bsP l x),.bool (bsT l x)]):=by
 refine pB h256_k rfl ?_
 simp only [Tryz.f256,go_sem]
 refine awp_wh (σ:=Nat × Nat) (fun s => [(0,.sl none (lEntry l)),(2,.fn (.func 37) [] []),(4,.ptr 0 0),(8,.int .i64 l.length),(9,.int .i64 s.1),(10,.int .i64 s.2)]) (fun _ => [some x.c]) (fun s => s.1 <= s.2 /\ s.2 <= l.length /\ ∃ f,s.2 - s.1 < f /\ bsP l x = bsGo l x f s.1 s.2) (fun s => s.2 - s.1) (0,l.length) ⟨Nat.zero_le _,Nat.le_refl _,l.length + 1,by dsimp only; omega,rfl⟩ rfl rfl ?_
 rintro ⟨i,j⟩ ⟨hij,hj,f,hf,hF⟩
 dsimp only at hij hj hf hF ⊢
 obtain ⟨f,rfl⟩ : ∃ f',f = f' + 1:=⟨f - 1,by omega⟩
 rw [bsGo] at hF
 by_cases hlt : i < j
 ·have g1 : (i : Int) < (j : Int):=by omega
  have g2 : (0 : Int) <= (((i + j) / 2 : Nat) : Int):=by omega
  have g3 : (((i + j) / 2 : Nat) : Int).toNat = (i + j) / 2:=by omega
  have hm : (i + j) / 2 < l.length:=by omega
  have hw:=w64s (k:=(i + j) / 2) (by omega)
  have hgm:=List.getElem?_eq_getElem hm
  have a1:=lEntry_get hgm
  have c1:=p_cmpE l[(i + j) / 2] x (hk _ (List.getElem_mem hm))
  rw [if_pos hlt,hgm] at hF
  dsimp only at hF
  simp only [go_sem,g1,decide_true,half2 hl hj hlt,g2,g3,a1]
  repeat' (first
   | (refine pK (c1) ?_; simp only [go_sem,g1,half2 hl hj hlt,g2,g3,a1,hw])
   | ((first | refine cS ?_ ?_ | refine gS ?_ ?_) <;> (intro hc; simp only [go_sem,hc,g1,half2 hl hj hlt,g2,g3,a1,hw])))
  ·have hc:=of_decide_eq_true hc
   rw [if_pos hc] at hF
   exact ⟨((i + j) / 2 + 1,j),⟨by dsimp only; omega,hj,f,by dsimp only; omega,hF⟩,by dsimp only; omega,rfl,rfl⟩
  ·have hc:=of_decide_eq_false hc
   rw [if_neg hc] at hF
   exact ⟨(i,(i + j) / 2),⟨by dsimp only; omega,by dsimp only; omega,f,by dsimp only; omega,hF⟩,by dsimp only; omega,rfl,rfl⟩
 ·have hij : i = j:=by omega
  subst hij
  rw [if_neg hlt] at hF
  have g1 : ¬ (i : Int) < (i : Int):=by omega
  unfold bsT
  rw [hF]
  by_cases hil : i < l.length
  ·have g3 : (i : Int) < (l.length : Int):=by omega
   have g4 : (0 : Int) <= (i : Int):=by omega
   have hgi:=List.getElem?_eq_getElem hil
   have a1:=lEntry_get hgi
   have c1:=p_cmpE l[i] x (hk _ (List.getElem_mem hil))
   rw [hgi]
   simp only [go_sem,g1,decide_false,g3,g4,decide_true,a1]
   repeat' (first
    | (refine pK (c1) ?_; simp only [go_sem,g1,g3,g4,a1,decide_true,Int.toNat_natCast])
    | ((first | refine cS ?_ ?_ | refine gS ?_ ?_) <;> (intro hc; simp only [go_sem,hc,g1,g3,g4,a1,decide_true,Int.toNat_natCast])))
   all_goals first | rfl | skip
  ·have g3 : ¬ (i : Int) < (l.length : Int):=by omega
   rw [List.getElem?_eq_none (by omega)]
   simp only [go_sem,g1,decide_false,g3]
   repeat' (first
    | ((first | refine cS ?_ ?_ | refine gS ?_ ?_) <;> (intro hc; simp only [go_sem,hc,g1,g3])))
   all_goals first | rfl | skip
theorem p_place (l : List Entry) (hl : l.length <= 4611686018427387903) (hk : ∀ y ∈ l,y.key.length <= 1073741824) (x : Entry) : PCall Tryz.prog 191 [.sl none (lEntry l),.agg x.c,.fn (.func 37) [] []] (.tup [.int .i64 (bsP l x),.bool (bsT l x)]):=by
 refine pC h191_k rfl ?_
 simp only [Tryz.f191,go_sem]
 repeat' (first
  | (refine pK (p_bsE l hl hk x) ?_; simp only [go_sem])
  | ((first | refine cS ?_ ?_ | refine gS ?_ ?_) <;> (intro hc; simp only [go_sem,hc])))
 all_goals first | rfl | skip
def findE (l : List Entry) (v : ByteArray) (key : List Int) : Option Entry:=if bsT l ⟨v,key,0,0⟩ = true then l[bsP l ⟨v,key,0,0⟩]? else none
theorem p_findE (l : List Entry) (hl : l.length <= 4611686018427387903) (hk : ∀ y ∈ l,y.key.length <= 1073741824) (v : ByteArray) (key : List Int) : PCall Tryz.prog 114 [.sl none (lEntry l),.str v,.sl none (lI64 key)] (.tup [.agg ((findE l v key).getD Entry.z).c,.bool (findE l v key).isSome]):=by
 have c1:=p_place l hl hk ⟨v,key,0,0⟩
 refine pB h114_k rfl ?_
 unfold findE
 cases hb : bsT l ⟨v,key,0,0⟩ with
 | false =>
  rw [hb] at c1
  simp only [Tryz.f114,go_sem]
  refine pK c1 ?_
  simp only [go_sem]
  first | rfl | skip
 | true =>
  rw [hb] at c1
  obtain ⟨y,hy⟩ : ∃ y,l[bsP l ⟨v,key,0,0⟩]? = some y:=by
   unfold bsT at hb
   split at hb
   ·exact ⟨_,by assumption⟩
   ·cases hb
  have hy2:=lEntry_get hy
  have h0 : (0 : Int) <= ((bsP l ⟨v,key,0,0⟩ : Nat) : Int):=by omega
  rw [if_pos rfl,hy]
  simp only [Tryz.f114,go_sem]
  refine pK c1 ?_
  simp only [go_sem,h0,Int.toNat_natCast,hy2]
  first | rfl | skip
end Go.AI
namespace Go.AI
open Go.Proofs
set_option maxRecDepth 50000
def cellsE (l : List Entry) : List AV:=(l.map Entry.c).flatten
theorem cellsE_cons (x : Entry) (l : List Entry) : cellsE (x :: l) = x.c ++ cellsE l:=rfl
theorem cellsE_len : ∀ l : List Entry,(cellsE l).length = l.length * 4
 | [] => rfl
 | x :: l => by
  rw [cellsE_cons,List.length_append,cellsE_len l,List.length_cons]
  have : x.c.length = 4:=rfl
  omega
theorem cellsE_at : ∀ (l : List Entry) (r : List AV) (k : Nat) (y : Entry),l[k]? = some y -> ((cellsE l ++ r).drop (k * 4)).take 4 = y.c
 | [],_,_,_,h => by simp at h
 | x :: l,r,0,y,h => by
  simp only [List.getElem?_cons_zero,Option.some.injEq] at h
  subst h
  rfl
 | x :: l,r,k + 1,y,h => by
  rw [cellsE_cons,List.append_assoc]
  have e : (k + 1) * 4 = x.c.length + k * 4:=by
   have : x.c.length = 4:=rfl
   omega
  rw [e,<- List.drop_drop,List.drop_left]
  exact cellsE_at l r k y (by simpa using h)
theorem cellsE_le {l : List Entry} (r : List AV) {k : Nat} {y : Entry} (h : l[k]? = some y) : k * 4 + 4 <= (cellsE l ++ r).length:=by
 have:=(List.getElem?_eq_some_iff.1 h).1
 rw [List.length_append,cellsE_len]
 omega
def idxE (d : Entry -> Bool) : Nat -> List Entry -> Int
 | _,[] => -1
 | k,x :: r => if d x = true then (k : Int) else idxE d (k + 1) r
theorem p_IndexE (l : List Entry) (hl : l.length <= 9223372036854775807) (r : List AV) (H : Heap) (o : Nat) (ho : H[o]? = some (some (cellsE l ++ r))) (f : Nat) (first cap : List AV) (d : Entry -> Bool) (hd : ∀ x ∈ l,SCall Tryz.prog f (first.map AV.borrow ++ (.agg (Entry.c x) :: cap.map AV.borrow)) H (.bool (d x))) :
  SCall Tryz.prog 189 [.msl o 0 l.length 4,.fn (.func f) first cap] H (.int .i64 (idxE d 0 l)):=by
 refine aC h189_k rfl ?_
 simp only [Tryz.f189,go_sem]
 refine awp_all l (fun r => idxE d (l.length - r.length) r) (fun k => [(0,.msl o 0 l.length 4),(1,.fn (.func f) first cap),(7,.int .i64 l.length),(8,.int .i64 k)]) hl rfl ?_ ?_
 ·intro k y ys hdr hx hF h0 h1 hw
  have c1:=hd y (List.mem_of_getElem? hx)
  have g1:=cellsE_le r hx
  have g2:=cellsE_at l r k y hx
  have hk2:=drop_len hdr
  have e1 : l.length - (ys.length + 1) = k:=by omega
  have e2 : l.length - ys.length = k + 1:=by omega
  simp only [List.length_cons,e1,Nat.sub_self] at hF
  simp only [go_sem,h0,h1,ho,g1,g2,e1,e2]
  repeat' (first
   | (refine aS (c1) ?_; simp only [go_sem,h0,h1,hw,ho,g1,g2,e1,e2])
   | ((first | refine cS ?_ ?_ | refine gS ?_ ?_) <;> (intro hc; simp only [go_sem,hc,h0,h1,hw,ho,g1,g2,e1,e2])))
  ·rw [hF,idxE,if_pos hc]
  ·rw [idxE,if_neg (by rw [hc]; decide)]
 ·intro hF hlt
  simp only [go_sem,hlt,decide_false]
  rw [Nat.sub_self] at hF
  rw [hF]; rfl
theorem cellsE_take : ∀ (l : List Entry) (r : List AV) (i : Nat),i <= l.length -> (cellsE l ++ r).take (i * 4) = cellsE (l.take i)
 | _,r,0,_ => by simp [cellsE]
 | [],r,i + 1,h => by simp at h
 | x :: l,r,i + 1,h => by
  have e : (i + 1) * 4 = x.c.length + i * 4:=by
   have : x.c.length = 4:=rfl
   omega
  rw [cellsE_cons,List.append_assoc,e,List.take_length_add_append,cellsE_take l r i (by simpa using h),List.take_succ_cons,cellsE_cons]
theorem cellsE_drop : ∀ (l : List Entry) (r : List AV) (i : Nat),i <= l.length -> (cellsE l ++ r).drop (i * 4) = cellsE (l.drop i) ++ r
 | _,r,0,_ => by simp
 | [],r,i + 1,h => by simp at h
 | x :: l,r,i + 1,h => by
  have e : (i + 1) * 4 = x.c.length + i * 4:=by
   have : x.c.length = 4:=rfl
   omega
  rw [cellsE_cons,List.append_assoc,e,List.drop_length_add_append,cellsE_drop l r i (by simpa using h),List.drop_succ_cons]
theorem cellsE_app (a b : List Entry) : cellsE (a ++ b) = cellsE a ++ cellsE b:=by unfold cellsE; simp
theorem splice_cellsE {l : List Entry} (r : List AV) {i : Nat} (h : i < l.length) (x : Entry) : splice (cellsE l ++ r) (i * 4) x.c = cellsE (l.set i x) ++ r:=by
 have e : i * 4 + x.c.length = (i + 1) * 4:=by
  have : x.c.length = 4:=rfl
  omega
 unfold splice
 rw [e,cellsE_take l r i (by omega),cellsE_drop l r (i + 1) (by omega),List.set_eq_take_append_cons_drop,if_pos h,cellsE_app,cellsE_cons]
 simp only [List.append_assoc]
theorem idxE_spec (d : Entry -> Bool) : ∀ (l : List Entry) (k : Nat),(idxE d k l = -1 /\ ∀ x ∈ l,d x = false) \/ ∃ (i : Nat) (x : Entry),idxE d k l = ((k + i : Nat) : Int) /\ l[i]? = some x /\ d x = true /\ ∀ y ∈ l.take i,d y = false
 | [],k => .inl ⟨rfl,by simp⟩
 | x :: r,k => by
  rw [idxE]
  by_cases h : d x = true
  ·rw [if_pos h]
   exact .inr ⟨0,x,rfl,rfl,h,by simp⟩
  ·rw [if_neg h]
   have h : d x = false:=by simpa using h
   rcases idxE_spec d r (k + 1) with ⟨e,h2⟩ | ⟨i,y,e,h2,h3,h4⟩
   ·exact .inl ⟨e,by simpa [h] using h2⟩
   ·refine .inr ⟨i + 1,y,by rw [e]; congr 1; omega,h2,h3, ?_⟩
    rw [List.take_succ_cons]
    intro z hz
    rcases List.mem_cons.1 hz with rfl | hz
    ·exact h
    ·exact h4 z hz
theorem p_IndexNilE (H : Heap) (f : Nat) (first cap : List AV) : SCall Tryz.prog 189 [.sl none [],.fn (.func f) first cap] H (.int .i64 (-1)):=by
 refine aC h189_k rfl ?_
 simp only [Tryz.f189,go_sem]
 refine awp_all ([] : List Entry) (fun _ => ()) (fun k => [(0,.sl none []),(1,.fn (.func f) first cap),(7,.int .i64 ((0 : Nat) : Int)),(8,.int .i64 k)]) (by simp) rfl ?_ ?_
 ·intro k y ys hd
  rw [List.drop_nil] at hd; cases hd
 ·intro _ hlt
  have z2 : decide (((0 : Nat) : Int) < ((0 : Nat) : Int)) = false:=by decide
  simp only [go_sem,z2]
theorem p_DeleteNoneE (w : Option Nat) (H : Heap) (f : Nat) (first cap : List AV) : ACall Tryz.prog 304 [.sl w [],.fn (.func f) first cap] H fun v H' => H' = H /\ ∃ w2,v = .sl w2 []:=by
 have c1:=p_IndexNilE H f first cap
 have z1 : ((-1 : Int) == -1) = true:=rfl
 refine aC h304_k rfl ?_
 cases w with
 | none =>
  simp only [Tryz.f304,go_sem]
  repeat' (first
   | (refine aS (c1) ?_; simp only [go_sem,z1])
   | ((first | refine cS ?_ ?_ | refine gS ?_ ?_) <;> (intro hc; simp only [go_sem,hc,z1])))
  all_goals first | exact ⟨_,rfl⟩ | exact ⟨rfl,_,rfl⟩ | skip
 | some w =>
  simp only [Tryz.f304,go_sem]
  repeat' (first
   | (refine aS (c1) ?_; simp only [go_sem,z1])
   | ((first | refine cS ?_ ?_ | refine gS ?_ ?_) <;> (intro hc; simp only [go_sem,hc,z1])))
  all_goals first | exact ⟨_,rfl⟩ | exact ⟨rfl,_,rfl⟩ | skip
theorem p_DeleteE (l : List Entry) (hl : l.length <= 1073741823) (r : List AV) (H : Heap) (o : Nat) (ho : H[o]? = some (some (cellsE l ++ r))) (f : Nat) (first cap : List AV) (d : Entry -> Bool)
  (hd : ∀ x ∈ l,∀ c J,SCall Tryz.prog f (first.map AV.borrow ++ (.agg (Entry.c x) :: cap.map AV.borrow)) (H.set o (some c) ++ J) (.bool (d x))) :
  ACall Tryz.prog 304 [.msl o 0 l.length 4,.fn (.func f) first cap] H fun v H' => ∃ r' J,v = .msl o 0 (l.filter fun x => !d x).length 4 /\ H' = H.set o (some (cellsE (l.filter fun x => !d x) ++ r')) ++ J:=by
 have hset : H.set o (some (cellsE l ++ r)) = H:=by
  obtain ⟨hlt,he⟩:=List.getElem?_eq_some_iff.1 ho
  apply List.ext_getElem?
  intro i
  rw [List.getElem?_set]
  split
  ·rename_i hi; subst hi; rw [ho]
  ·rfl
 have hd0 : ∀ x ∈ l,SCall Tryz.prog f (first.map AV.borrow ++ (.agg (Entry.c x) :: cap.map AV.borrow)) H (.bool (d x)):=fun x hx => by
  have:=hd x hx (cellsE l ++ r) []
  rw [hset,List.append_nil] at this
  exact this
 have c1:=p_IndexE l (by omega) r H o ho f first cap d hd0
 refine aC h304_k rfl ?_
 rcases idxE_spec d l 0 with ⟨e,hall⟩ | ⟨i,x,e,hx,hdx,hpre⟩
 ·rw [e] at c1
  have hf : l.filter (fun x => !d x) = l:=List.filter_eq_self.2 fun x hx => by rw [hall x hx]; rfl
  simp only [Tryz.f304,go_sem]
  repeat' (first
   | (refine aS (c1) ?_; simp only [go_sem,Int.reduceBEq])
   | ((first | refine cS ?_ ?_ | refine gS ?_ ?_) <;> (intro hc; simp only [go_sem,hc,Int.reduceBEq])))
  all_goals first | exact ⟨r,[],by rw [hf],by rw [hf,hset,List.append_nil]⟩ | skip
 ·rw [e,Nat.zero_add] at c1
  have hn1 : (((i : Nat) : Int) == -1) = false:=by rw [beq_eq_false_iff_ne]; omega
  have hi:=(List.getElem?_eq_some_iff.1 hx).1
  have hw0:=w64s (k:=i) (by omega)
  simp only [Tryz.f304,go_sem]
  repeat' (first
   | (refine aS (c1) ?_; simp only [go_sem,hn1,hw0])
   | ((first | refine cS ?_ ?_ | refine gS ?_ ?_) <;> (intro hc; simp only [go_sem,hc,hn1,hw0])))
  refine awp_wh (σ:=Nat × Nat × List Entry × Heap × Env) (fun s => (0,.msl o 0 l.length 4) :: (1,.fn (.func f) first cap) :: (5,.int .i64 s.1) :: (6,.int .i64 s.2.1) :: s.2.2.2.2) (fun s => H.set o (some (cellsE s.2.2.1 ++ r)) ++ s.2.2.2.1)
   (fun s => s.1 < s.2.1 /\ s.2.1 <= l.length /\ s.2.2.1.length = l.length /\ s.2.2.1.take s.1 = (l.take s.2.1).filter (fun x => !d x) /\ s.2.2.1.drop s.2.1 = l.drop s.2.1) (fun s => l.length - s.2.1) (i,i + 1,l,[],[]) ⟨by dsimp only; omega,by dsimp only; omega,rfl, ?_,rfl⟩ ?_ ?_ ?_
  ·dsimp only
   rw [List.take_add_one,hx,List.filter_append]
   have h1 : (l.take i).filter (fun x => !d x) = l.take i:=List.filter_eq_self.2 fun z hz => by rw [hpre z hz]; rfl
   rw [h1]
   simp [hdx]
  ·rfl
  ·dsimp only
   rw [hset,List.append_nil]
  ·rintro ⟨i,j,row,J,rest⟩ ⟨hij,hj,hrl,htk,hdr⟩
   dsimp only at hij hj hrl htk hdr ⊢
   have hoL:=(List.getElem?_eq_some_iff.1 ho).1
   have fO : ∀ c z,(H.set o c ++ z)[o]? = some c:=fun c z => get_grow (get_self hoL c) z
   have fW : ∀ c z c',(H.set o c ++ z).set o c' = H.set o c' ++ z:=fun c z c' => by rw [List.set_append_left _ _ (by simpa using hoL),List.set_set]
   by_cases hlt : j < l.length
   ·have hy:=List.getElem?_eq_getElem hlt
    have hry : row[j]? = some l[j]:=by
     have:=congrArg (·[0]?) hdr
     simpa [hy] using this
    have j0 : (0 : Int) <= (j : Int):=by omega
    have j1 : (j : Int) < (l.length : Int):=by omega
    have k0 : (0 : Int) <= (i : Int):=by omega
    have k1 : (i : Int) < (l.length : Int):=by omega
    have hwj:=w64s (k:=j) (by omega)
    have hwi:=w64s (k:=i) (by omega)
    have g1:=cellsE_le r hry
    rw [List.length_append] at g1
    have g2:=cellsE_at row r j _ hry
    have fS : ∀ c z y,(H.set o c ++ (J ++ [z])).set (H.length + J.length) y = H.set o c ++ (J ++ [y]):=fun c z y => by
     rw [<- List.append_assoc,<- List.append_assoc]
     simp
    have fL : ∀ c y,(H.set o c ++ (J ++ [y]))[H.length + J.length]? = some y:=fun c y => by
     rw [<- List.append_assoc]
     have : H.length + J.length = (H.set o c ++ J).length:=by simp
     rw [this]; exact List.getElem?_concat_length
    have c2:=hd _ (List.mem_of_getElem? hy) (cellsE row ++ r) (J ++ [some (Entry.c l[j])])
    have hfil : (l.take (j + 1)).filter (fun x => !d x) = (l.take j).filter (fun x => !d x) ++ (if d l[j] = true then [] else [l[j]]):=by
     rw [List.take_add_one,hy,List.filter_append]
     congr 1
     cases hd2 : d l[j] <;> simp [hd2]
    have hc1 : (Entry.c l[j]).length = 4:=rfl
    have hc2 : (Entry.c l[j]).take 4 = Entry.c l[j]:=rfl
    cases hdy : d l[j] with
    | false =>
     rw [hdy] at c2
     simp only [go_sem,j0,j1,k0,k1,decide_true,fO,g1,g2,fS,fL,fW,hc1,hc2,List.append_assoc,List.length_append,List.length_set]
     repeat' (first
      | (refine aS (c2) ?_; simp only [go_sem,j0,j1,k0,k1,decide_true,fO,g1,g2,fS,fL,fW,hwi,hwj,hc1,hc2,List.append_assoc,List.length_append,List.length_set])
      | ((first | refine cS ?_ ?_ | refine gS ?_ ?_) <;> (intro hc; simp only [go_sem,hc,j0,j1,k0,k1,decide_true,fO,g1,g2,fS,fL,fW,hwi,hwj,hc1,hc2,List.append_assoc,List.length_append,List.length_set])))
     have k2 : i * 4 + 4 <= (cellsE row).length + r.length:=by rw [cellsE_len]; omega
     rw [if_pos k2,splice_cellsE r (by omega)]
     refine ⟨(i + 1,j + 1,row.set i l[j],J ++ [some (Entry.c l[j])],[]),⟨by dsimp only; omega,by dsimp only; omega,by simpa using hrl, ?_, ?_⟩,by dsimp only; omega,rfl,rfl⟩
     ·dsimp only
      rw [hfil,hdy,if_neg (by decide),<- htk,take_succ_set row i l[j] (by omega)]
     ·dsimp only
      rw [List.drop_set_of_lt (by omega),<- List.drop_drop,hdr,List.drop_drop]
    | true =>
     rw [hdy] at c2
     simp only [go_sem,j0,j1,k0,k1,decide_true,fO,g1,g2,fS,fL,fW,hc1,hc2,List.append_assoc,List.length_append,List.length_set]
     repeat' (first
      | (refine aS (c2) ?_; simp only [go_sem,j0,j1,k0,k1,decide_true,fO,g1,g2,fS,fL,fW,hwi,hwj,hc1,hc2,List.append_assoc,List.length_append,List.length_set])
      | ((first | refine cS ?_ ?_ | refine gS ?_ ?_) <;> (intro hc; simp only [go_sem,hc,j0,j1,k0,k1,decide_true,fO,g1,g2,fS,fL,fW,hwi,hwj,hc1,hc2,List.append_assoc,List.length_append,List.length_set])))
     refine ⟨(i,j + 1,row,J ++ [some (Entry.c l[j])],[]),⟨by dsimp only; omega,by dsimp only; omega,hrl, ?_, ?_⟩,by dsimp only; omega,rfl,rfl⟩
     ·dsimp only
      rw [hfil,hdy,if_pos rfl,List.append_nil,htk]
     ·dsimp only
      rw [<- List.drop_drop,hdr,List.drop_drop]
   ·have hjl : j = l.length:=by omega
    subst hjl
    simp only [go_sem,Int.lt_irrefl,decide_false]
    refine ⟨⟨by omega,by omega,by omega⟩, ?_⟩
    simp only [go_sem,clrK,fO,fW,List.length_append]
    rw [List.take_length] at htk
    have hkl : (l.filter fun x => !d x).length = i:=by rw [<- htk,List.length_take]; omega
    refine ⟨by omega,by rw [cellsE_len]; omega,⟨by omega,by omega,.inl trivial⟩,zerosN (AV.agg (Entry.z.cf (some 1))) (l.length - i) ++ (cellsE row ++ r).drop (i * 4 + (zerosN (AV.agg (Entry.z.cf (some 1))) (l.length - i)).length),J,by rw [hkl]; rfl, ?_⟩
    unfold splice
    rw [cellsE_take row r i (by omega),htk,List.append_assoc]
end Go.AI
namespace Go.AI
open Go.Proofs
set_option maxRecDepth 50000
theorem cat_lEntry (l : List Entry) : (cat (lEntry l)).map borrow1 = cellsE l:=by
 induction l with
 | nil => rfl
 | cons x l ih =>
  have : cat (lEntry (x :: l)) = x.c ++ cat (lEntry l):=rfl
  rw [this,List.map_append,ih]; rfl
theorem cellsE_b (l : List Entry) : (cellsE l).map borrow1 = cellsE l:=by
 induction l with
 | nil => rfl
 | cons x l ih => rw [cellsE_cons,List.map_append,ih]; rfl
theorem p_CloneE (l : List Entry) (hl : l.length <= 1073741824) (H : Heap) : ACall Tryz.prog 302 [.sl none (lEntry l)] H fun v H' => (l = [] /\ v = .sl (some 4) [] /\ H' = H) \/ (v = .msl (H.length + 1) 0 l.length 4 /\ H' = H ++ [none,some (cellsE l)]):=by
 have el : (lEntry l).length = l.length:=lEntry_len l
 have g1 : ∀ (x : Option (List AV)),(H ++ [x])[H.length]? = some x:=fun x => by simp
 have g2 : ∀ (x y : Option (List AV)),(H ++ [x]).set H.length y = H ++ [y]:=fun x y => by simp
 refine aC h302_k rfl ?_
 cases l with
 | nil =>
  simp only [Tryz.f302,go_sem,g1,g2]
  exact .inr ⟨by simp,rfl⟩
 | cons x l =>
  have hcs : lEntry (x :: l) = .agg x.c :: lEntry l:=rfl
  have hcat:=cat_lEntry (x :: l)
  rw [hcs] at hcat el ⊢
  simp only [List.length_cons] at hl
  simp only [Tryz.f302,go_sem,g1,g2]
  exact ⟨by omega,by omega,.inr ⟨by simp,by rw [hcat]⟩⟩
section
variable {P : Program} {d : Tmp} {K : Kt} {ev : Env} {H : Heap}
theorem apzK_at {t t' el : TypeId} {kn k : IntKind} {ob off len sz c m : Nat} {cs : List AV} {z : AV} (hu : P.underlying t = some (.slice el)) (hu2 : P.underlying t' = some (.int kn)) (hz : zeroAV P el = some z) (h1 : z.cells.length = sz) (h2 : P.cellsOf el = sz) (h3 : zeroOk P el = true) (hp : 0 < sz)
  (ho : H[ob]? = some (some cs)) (h5 : off + len * sz <= cs.length) (h6 : 0 < m) (h7 : c < len + m) (h8 : (len + m) * P.bytesOf el <= 140737488355328) (h9 : len + m <= 9223372036854775807)
  (hk : K ((d,.msl H.length 0 (len + m) sz) :: ev) (H ++ [some (((cs.drop off).take (len * sz)).map borrow1 ++ (zerosN z m).map borrow1)])) : apzK P t t' true [.mslc ob off len sz c,.int k (m : Int)] d K ev H:=by
 subst h2
 unfold apzK apz
 simp only [hu,hu2,ho,Int.toNat_natCast]
 exact ⟨z,hz,⟨h1,h3,hp,trivial,h5,by omega,by omega,h8,h9⟩,hk⟩
end
theorem csrc_at {P : Program} {H : Heap} {el : TypeId} {k ob off len sz : Nat} {cs X : List AV} {b : AV} (hb : crow b = some (ob,off,len,sz,false) \/ crow b = some (ob,off,len,sz,true)) (ho : H[ob]? = some (some cs)) (h1 : off + k * sz <= cs.length) (h2 : sz = P.cellsOf el) (h3 : k <= len) (hX : (cs.drop off).take (k * sz) = X) : csrc P el H k b = some X:=by
 subst hX
 cases b <;> simp only [crow,reduceCtorEq,Option.some.injEq,Prod.mk.injEq,or_self,Bool.true_eq_false,Bool.false_eq_true,and_false,and_true,false_or,or_false] at hb
 all_goals
  obtain ⟨rfl,rfl,rfl,rfl⟩:=hb
  simp only [csrc,ho]
  rw [if_pos ⟨h1,h2,h3⟩]
theorem cpyK_at {P : Program} {d : Tmp} {K : Kt} {ev : Env} {H : Heap} {t el : TypeId} {a b : AV} {ob off len sz m k : Nat} {gr : Bool} {cs X R : List AV} (hk : Nat.min m len = k) (hu : P.underlying t = some (.slice el)) (hrow : crow a = some (ob,off,len,sz,gr)) (hm : slen b = some m) (ho : H[ob]? = some (some cs)) (h1 : sz = P.cellsOf el)
  (h2 : (P.info? el).isSome = true) (h3 : cs.map borrow1 = cs) (h4 : off <= cs.length) (h5 : gr = true \/ off + k * sz <= cs.length) (hs : csrc P el H k b = some X) (hR : cs.take off ++ X.map borrow1 ++ cs.drop (off + k * sz) = R)
  (hK : K ((d,.int .i64 (k : Nat)) :: ev) (H.set ob (some R))) : cpyK P t a b d K ev H:=by
 subst hk hR
 exact cpyK_row hu hrow hm ho h1 h2 h3 h4 h5 hs hK
theorem row_put {A Z E : List AV} {k : Nat} (hA : A.length = k) (m : Nat) : (A ++ Z).take k ++ E ++ (A ++ Z).drop (k + m) = A ++ E ++ Z.drop m:=by
 rw [List.take_left' hA,<- List.drop_drop,List.drop_left' hA]
def insE (l : List Entry) (i : Nat) (e : Entry) : List Entry:=l.take i ++ e :: l.drop i
theorem insE_len {l : List Entry} {i : Nat} (h : i <= l.length) (e : Entry) : (insE l i e).length = l.length + 1:=by simp [insE]; omega
def insV (l : List Entry) (i : Nat) (e : Entry) (o : Nat) (H : Heap) (v : AV) (H' : Heap) : Prop :=
 ∃ ob r,v = .msl ob 0 (l.length + 1) 4 /\ H'[ob]? = some (some (cellsE (insE l i e) ++ r)) /\ (ob = o \/ H.length <= ob) /\ ∃ c ext,H' = H.set o c ++ ext
set_option maxHeartbeats 1000000 in
theorem p_InsertC (l : List Entry) (hl : l.length <= 1073741824) (i : Nat) (hi : i <= l.length) (e : Entry) (o vo : Nat) (hov : vo ≠ o) (H : Heap) (ho : H[o]? = some (some (cellsE l))) (hv : H[vo]? = some (some e.c)) (c : Nat) (hc1 : l.length <= c) (hc2 : c <= 9223372036854775807) :
  ACall Tryz.prog 303 [.mslc o 0 l.length 4 c,.int .i64 i,.msl vo 0 1 4] H fun v H' => insV l i e o H v H' \/ ∃ ob off len sz cp,v = .mslc ob off len sz cp /\ insV l i e o H (.msl ob off len sz) H':=by
 have i0 : (0 : Int) <= (i : Int):=by omega
 have hil : (i : Int) <= (l.length : Int):=by omega
 have hlc : (l.length : Int) <= (c : Int):=by omega
 have hcl : (cellsE l).length = l.length * 4:=cellsE_len l
 have z1 : (((1 : Nat) : Int) == 0) = false:=rfl
 have hw1 : IntKind.i64.wrap ((l.length : Int) + ((1 : Nat) : Int)) = ((l.length + 1 : Nat) : Int):=by rw [w64 (by omega) (by omega)]; rfl
 have hw2 : IntKind.i64.wrap ((i : Int) + ((1 : Nat) : Int)) = ((i + 1 : Nat) : Int):=by rw [w64 (by omega) (by omega)]; rfl
 have hw3 : IntKind.i64.wrap (((l.length + 1 : Nat) : Int) - (i : Int)) = ((l.length + 1 - i : Nat) : Int):=by rw [w64 (by omega) (by omega)]; omega
 have hzv : zeroAV Tryz.prog 107 = some (.agg (Entry.z.cf (some 1))):=by kernel_rfl
 have hzo : zeroOk Tryz.prog 107 = true:=by kernel_rfl
 have hby : Tryz.prog.bytesOf 107 = 56:=by kernel_rfl
 have hinf : (Tryz.prog.info? 107).isSome = true:=by kernel_rfl
 have hag : aggTy Tryz.prog 107 = true:=by kernel_rfl
 have hcz : Tryz.prog.cellsOf 107 = 4:=by kernel_rfl
 have hsrc : asrc Tryz.prog 107 true H (.msl vo 0 1 4) = some [.agg e.c]:=by
  have h:=asrc_msl (P:=Tryz.prog) (el:=107) hv (off:=0) (len:=1) (sz:=4) (Nat.le_refl 4) hcz.symm (.inl hag)
  rw [hag] at h
  exact h
 have hus : Tryz.prog.underlying 49 = some (.slice 107):=by kernel_rfl
 have hui : Tryz.prog.underlying 3 = some (.int .i64):=by kernel_rfl
 have hcap : ∀ (d : Tmp) (K : Kt) (ev : Env) (H2 : Heap),capK Tryz.prog 49 (.mslc o 0 l.length 4 c) d K ev H2 = K ((d,.int .i64 c) :: ev) H2:=fun d K ev H2 => by
  unfold capK
  rw [hus]
 have h00 : ¬ ((0 : Int) = (c : Int) /\ (0 : Int) < 0):=by omega
 refine aC h303_k rfl ?_
 by_cases hin : i = l.length
 ·subst hin
  have hee : ((l.length : Int) == (l.length : Int)) = true:=by simp
  simp only [Tryz.f303,go_sem,i0,hlc,z1,hee,hsrc,ho]
  refine ⟨by omega,by omega,hcl,cellsE_b l,.inl ⟨H.length,[],rfl, ?_,.inr (Nat.le_refl _),none,[some (cellsE l ++ e.c)],rfl⟩⟩
  rw [List.getElem?_append_right (by simp)]
  have : insE l l.length e = l ++ [e]:=by simp [insE]
  rw [this,cellsE_app]
  simp [cellsE]
  rfl
 ·have hne : ((i : Int) == (l.length : Int)) = false:=by rw [beq_eq_false_iff_ne]; omega
  have hic : ¬ ((i : Int) = (c : Int) /\ (0 : Int) < (i : Int)):=by omega
  by_cases hroom : c < l.length + 1
  ·have hr1 : (c : Int) < ((l.length + 1 : Nat) : Int):=by omega
   simp only [Tryz.f303,go_sem,i0,hlc,hil,hne,z1,hw1,hr1,decide_true,hic,hcap,h00,hw3,Nat.sub_zero,Nat.zero_mul,Nat.zero_add]
   refine ⟨by omega,apzK_at (z:=.agg (Entry.z.cf (some 1))) hus hui hzv rfl hcz hzo (by decide) ho (by omega) (by omega) (by omega) (by rw [hby]; omega) (by omega) ?_⟩
   have hn1 : i + (l.length + 1 - i) = l.length + 1:=by omega
   have hA : (((cellsE l).drop 0).take (i * 4)).map borrow1 = cellsE (l.take i):=by
    have:=cellsE_take l [] i hi
    rw [List.append_nil] at this
    rw [List.drop_zero,this,cellsE_b]
   rw [hn1,hA]
   have hZ : ((zerosN (.agg (Entry.z.cf (some 1))) (l.length + 1 - i)).map borrow1).length = (l.length + 1 - i) * 4 /\ ((zerosN (.agg (Entry.z.cf (some 1))) (l.length + 1 - i)).map borrow1).map borrow1 = (zerosN (.agg (Entry.z.cf (some 1))) (l.length + 1 - i)).map borrow1:=by
    refine ⟨by rw [List.length_map]; simp [zerosN]; rfl, ?_⟩
    rw [List.map_map]
    exact List.map_congr_left fun a _ => by cases a <;> rfl
   generalize (zerosN (.agg (Entry.z.cf (some 1))) (l.length + 1 - i)).map borrow1 = Z at hZ
   have hZb : Z.map borrow1 = Z:=hZ.2
   replace hZ:=hZ.1
   simp only [go_sem,i0,hil,hw2,Nat.sub_zero,Nat.zero_mul,Nat.zero_add]
   refine ⟨⟨by omega,.inr (by omega)⟩, ?_⟩
   have hAl : (cellsE (l.take i)).length = i * 4:=by rw [cellsE_len,List.length_take]; omega
   have hDl : (cellsE (l.drop i)).length = (l.length - i) * 4:=by rw [cellsE_len,List.length_drop]
   have gv : ∀ x,(H ++ [x])[vo]? = some (some e.c):=fun x => get_grow hv _
   have go : ∀ x,(H ++ [x])[o]? = some (some (cellsE l)):=fun x => get_grow ho _
   have gn : ∀ x : Option (List AV),(H ++ [x])[H.length]? = some x:=fun x => by simp
   have gs : ∀ x y : Option (List AV),(H ++ [x]).set H.length y = H ++ [y]:=fun x y => by simp
   refine cpyK_at (k:=1) (ob:=H.length) (cs:=cellsE (l.take i) ++ Z) (X:=e.c) (R:=cellsE (l.take i) ++ e.c ++ Z.drop 4) (by simp [Nat.min_def]; omega) hus rfl rfl (gn _) hcz.symm hinf (by rw [List.map_append,cellsE_b,hZb]) (by rw [List.length_append]; omega) (.inr (by rw [List.length_append]; omega)) (csrc_at (.inl rfl) (gv _) (Nat.le_refl 4) hcz.symm (Nat.le_refl 1) rfl) (row_put hAl 4) ?_
   have hn2 : l.length + 1 - (i + 1) = l.length - i:=by omega
   simp only [go_sem,gs,hw2,i0,hil,hic,hn2,Nat.sub_zero,Nat.zero_mul,Nat.zero_add]
   have hdr : ((cellsE l).drop (i * 4)).take ((l.length - i) * 4) = cellsE (l.drop i):=by
    have:=cellsE_drop l [] i hi
    rw [List.append_nil,List.append_nil] at this
    rw [this,List.take_of_length_le (by omega)]
   have hel : e.c.length = 4:=rfl
   have heb : e.c.map borrow1 = e.c:=rfl
   have hZd : (Z.drop 4).length = (l.length - i) * 4:=by rw [List.length_drop]; omega
   have hset : H.set o (some (cellsE l)) = H:=by
    apply List.ext_getElem?
    intro j
    rw [List.getElem?_set]
    split
    ·rename_i hj; subst hj; rw [ho,if_pos (List.getElem?_eq_some_iff.1 ho).1]
    ·rfl
   refine ⟨⟨by omega,by omega,.inr (by omega)⟩,by omega,cpyK_at (k:=l.length - i) (ob:=H.length) (cs:=cellsE (l.take i) ++ e.c ++ Z.drop 4) (X:=cellsE (l.drop i)) (R:=cellsE (l.take i) ++ e.c ++ cellsE (l.drop i)) (by simp [Nat.min_def]) hus rfl rfl (by rw [<- List.append_assoc]; exact gn _) hcz.symm hinf (by rw [List.map_append,List.map_append,cellsE_b,heb,List.map_drop,hZb]) (by simp only [List.length_append]; omega) (.inr (by simp only [List.length_append]; omega))
    (csrc_at (.inr rfl) (go _) (by omega) hcz.symm (by omega) hdr) ?_ ?_⟩
   ·rw [cellsE_b,row_put (A:=cellsE (l.take i) ++ e.c) (by rw [List.length_append]; omega),List.drop_of_length_le (l:=Z.drop 4) (by omega),List.append_nil]
   ·simp only [go_sem,gs]
    exact .inl ⟨H.length,[],rfl,by rw [gn,insE,cellsE_app,cellsE_cons,List.append_nil],.inr (Nat.le_refl _),some (cellsE l),_,by rw [hset]⟩
  ·have hr1 : ¬ (c : Int) < ((l.length + 1 : Nat) : Int):=by omega
   simp only [Tryz.f303,go_sem,i0,hlc,hil,hne,z1,hw1,hw2,hr1,decide_false,hic,hcap,h00,Nat.sub_zero,Nat.zero_mul,Nat.zero_add]
   have hno : ¬ (((i + 1 : Nat) : Int) = (c : Int) /\ (0 : Int) < ((i + 1 : Nat) : Int)):=by omega
   have hsub : l.length + 1 - (i + 1) = l.length - i:=by omega
   rw [if_neg hno,hsub]
   refine ⟨⟨by omega,by omega⟩,⟨by omega,by omega,by omega⟩,xK (v:=.bool false) ⟨hov,⟨Tryz.f333,49,4,107,by kernel_rfl,by kernel_rfl,by kernel_rfl,by kernel_rfl,by kernel_rfl,hus,hinf⟩,⟨_,hv⟩,⟨_,ho⟩,by omega,rfl⟩ ?_⟩
   simp only [go_sem,hw2,i0,hil,hno,hic,hsub]
   have hDl : (cellsE (l.drop i)).length = (l.length - i) * 4:=by rw [cellsE_len,List.length_drop]
   have hTl : (cellsE (l.take (i + 1))).length = (i + 1) * 4:=by rw [cellsE_len,List.length_take]; congr 1; omega
   have hdr : ((cellsE l).drop (i * 4)).take ((l.length - i) * 4) = cellsE (l.drop i):=by
    have:=cellsE_drop l [] i hi
    rw [List.append_nil,List.append_nil] at this
    rw [this,List.take_of_length_le (by omega)]
   have htk : (cellsE l).take ((i + 1) * 4) = cellsE (l.take (i + 1)):=by
    have:=cellsE_take l [] (i + 1) (by omega)
    rwa [List.append_nil] at this
   have htk2 : (cellsE (l.take (i + 1)) ++ cellsE (l.drop i)).take (i * 4) = cellsE (l.take i):=by
    have:=cellsE_take (l.take (i + 1)) (cellsE (l.drop i)) i (by rw [List.length_take]; omega)
    rw [this,List.take_take,Nat.min_eq_left (by omega)]
   have hol:=(List.getElem?_eq_some_iff.1 ho).1
   have go2 : ∀ x : Option (List AV),(H.set o x)[o]? = some x:=fun x => List.getElem?_set_self hol
   have gv2 : ∀ x : Option (List AV),(H.set o x)[vo]? = some (some e.c):=fun x => by rw [List.getElem?_set_ne (Ne.symm hov)]; exact hv
   have gs2 : ∀ x y : Option (List AV),(H.set o x).set o y = H.set o y:=fun x y => List.set_set ..
   refine ⟨⟨by omega,by omega,by omega⟩,⟨by omega,by omega⟩,cpyK_at (k:=l.length - i) (ob:=o) (cs:=cellsE l) (X:=cellsE (l.drop i)) (R:=cellsE (l.take (i + 1)) ++ cellsE (l.drop i)) (by simp [Nat.min_def]; omega) hus rfl rfl ho hcz.symm hinf (cellsE_b l) (by omega) (.inl rfl) (csrc_at (.inr rfl) ho (by omega) hcz.symm (by omega) hdr)
    (by rw [htk,cellsE_b,List.drop_of_length_le (l:=cellsE l) (by omega),List.append_nil]) ?_⟩
   simp only [go_sem,hw2,i0,hil,hic,Nat.sub_zero,Nat.zero_mul,Nat.zero_add]
   refine ⟨⟨by omega,by omega⟩,cpyK_at (k:=1) (ob:=o) (cs:=cellsE (l.take (i + 1)) ++ cellsE (l.drop i)) (X:=e.c) (R:=cellsE (l.take i) ++ e.c ++ cellsE (l.drop i)) (by simp [Nat.min_def]; omega) hus rfl rfl (go2 _) hcz.symm hinf (by rw [List.map_append,cellsE_b,cellsE_b]) (by rw [List.length_append]; omega) (.inl rfl) (csrc_at (.inl rfl) (gv2 _) (Nat.le_refl 4) hcz.symm (Nat.le_refl 1) rfl)
    (by rw [htk2,show i * 4 + 1 * 4 = (i + 1) * 4 by omega,List.drop_left' hTl]; rfl) ?_⟩
   simp only [go_sem,gs2]
   exact .inr ⟨o,0,l.length + 1,4,c,rfl,o,[],rfl,by rw [go2,insE,cellsE_app,cellsE_cons,List.append_nil],.inl rfl,_,[],by rw [List.append_nil]⟩
theorem p_Insert (l : List Entry) (hl : l.length <= 1073741824) (i : Nat) (hi : i <= l.length) (e : Entry) (o vo : Nat) (hov : vo ≠ o) (H : Heap) (ho : H[o]? = some (some (cellsE l))) (hv : H[vo]? = some (some e.c)) :
  ACall Tryz.prog 303 [.msl o 0 l.length 4,.int .i64 i,.msl vo 0 1 4] H (insV l i e o H) :=
 ACall.uncap (ACall.cap h303_k.c fun c h1 h2 => p_InsertC l hl i hi e o vo hov H ho hv c h1 h2)
end Go.AI
namespace Go.AI
open Go.Proofs
set_option maxRecDepth 50000
theorem p_IndexEL {H : Heap} (l : List Entry) (hl : l.length <= 9223372036854775807) (g : FuncId) (fi ca : List AV) (p : Entry -> Bool)
  (h : ∀ x ∈ l,SCall Tryz.prog g (fi.map AV.borrow ++ (.agg x.c :: ca.map AV.borrow)) H (.bool (p x))) :
  SCall Tryz.prog 189 [.sl none (lEntry l),.fn (.func g) fi ca] H (.int .i64 (idxI p l)):=by
 unfold SCall
 refine aC h189_k rfl ?_
 simp only [Tryz.f189,go_sem]
 refine awp_all l (fun r => idxGo p (l.length - r.length) r) (fun k => [(0,.sl none (lEntry l)),(1,.fn (.func g) fi ca),(7,.int .i64 l.length),(8,.int .i64 k)]) hl rfl ?_ ?_
 ·intro k x xs hd hx hF h0 h1 hw
  have hk2:=drop_len hd
  have e1 : l.length - (xs.length + 1) = k:=by omega
  have e2 : l.length - xs.length = k + 1:=by omega
  simp only [List.length_cons,e1,Nat.sub_self] at hF
  simp only [go_sem,h0,h1,lEntry_get hx,e1,e2]
  repeat' (first
   | (refine aS (h x (List.mem_of_getElem? hx)) ?_; simp only [go_sem,h0,h1,hw,lEntry_get hx,e1,e2])
   | ((first | refine cS ?_ ?_ | refine gS ?_ ?_) <;> (intro hc; simp only [go_sem,hc,h0,h1,hw,lEntry_get hx,e1,e2])))
  ·rw [idxI,hF,idxGo,if_pos hc]
  ·rw [idxGo,if_neg (by rw [hc]; decide)]
 ·intro hF hlt
  simp only [go_sem,hlt,decide_false]
  rw [Nat.sub_self] at hF
  rw [idxI,hF]; rfl
def hInE : Hint:={ h303 with mt:=[40,67],tk:=25 :: h303.tk }
@[go_sem] theorem hInE_lv (k : Nat) : hInE.lv k = h303.lv k:=Eq.trans rfl rfl
set_option linter.defProp false in
@[go_sem] def hInE_q:=hplain hInE rfl rfl rfl
@[go_sem] theorem hInE_t : hInE.tk = [25,17,23,24,44,51,55,56,81,83,87,94] /\ hInE.mt = [40,67] /\ hInE.pc = [67,93]:=⟨rfl,rfl,rfl⟩
theorem hInE_k : FK Tryz.prog 303 Tryz.f303 hInE:=⟨by kernel_rfl,by kernel_rfl,Tryz.func303,by kernel_rfl⟩
theorem p_InsertN (e : Entry) (vo : Nat) (H : Heap) (hv : H[vo]? = some (some e.c)) :
  ACall Tryz.prog 303 [.sl (some 4) [],.int .i64 ((0 : Nat) : Int),.msl vo 0 1 4] H fun v H' => v = .sl (some 4) [.agg e.c] /\ H' = H:=by
 have z1 : (((1 : Nat) : Int) == 0) = false:=rfl
 have z0 : (((0 : Nat) : Int) == ((0 : Nat) : Int)) = true:=rfl
 have hag : aggTy Tryz.prog 107 = true:=by kernel_rfl
 have hcz : Tryz.prog.cellsOf 107 = 4:=by kernel_rfl
 have hsrc : asrc Tryz.prog 107 true H (.msl vo 0 1 4) = some [.agg e.c]:=by
  have h:=asrc_msl (P:=Tryz.prog) (el:=107) hv (off:=0) (len:=1) (sz:=4) (Nat.le_refl 4) hcz.symm (.inl hag)
  rw [hag] at h
  exact h
 refine aC hInE_k rfl ?_
 simp only [Tryz.f303,go_sem,z1,z0,hsrc]
 exact Int.le_refl _
def putE (l : List Entry) (e : Entry) : List Entry:=if bsT l e = true then l.set (bsP l e) e else insE l (bsP l e) e
theorem lEntry_map (l : List Entry) : (l.map Entry.c).map AV.agg = lEntry l:=by
 induction l with
 | nil => rfl
 | cons x l ih => rw [List.map_cons,List.map_cons,ih]; rfl
set_option maxHeartbeats 1000000 in
theorem p_putE (st : List Entry) (hl : st.length <= 1073741823) (hk : ∀ y ∈ st,y.key.length <= 1073741824) (e : Entry) : PCall Tryz.prog 253 [.sl none (lEntry st),.agg e.c] (.sl none (lEntry (putE st e))):=by
 have c1:=p_place st (by omega) hk e
 have hle:=bsP_le st e
 have h0 : ACall Tryz.prog 253 [.sl none (lEntry st),.agg e.c] [] fun v H' => rowX 4 ((putE st e).map Entry.c) v [] H':=by
  refine aN h253_k rfl ?_
  simp only [Tryz.f253,go_sem]
  refine pK c1 ?_
  simp only [go_sem]
  refine ACallK.intro (p_CloneE st (by omega) [some e.c]) fun v H' hq => ?_
  have k0 : (0 : Int) <= ((bsP st e : Nat) : Int):=by omega
  rcases hq with ⟨rfl,rfl,rfl⟩ | ⟨rfl,rfl⟩
  ·have hb : bsT [] e = false:=rfl
   have hp : bsP [] e = 0:=rfl
   simp only [go_sem,hb]
   rw [hp]
   refine ACallK.intro (p_InsertN e 1 _ rfl) fun v H' hq => ?_
   obtain ⟨rfl,rfl⟩:=hq
   simp only [go_sem]
   exact .inr ⟨⟨_,rfl⟩,_,rfl⟩
  ·simp only [go_sem,List.length_cons,List.length_nil,List.cons_append,List.nil_append,Nat.zero_add,Nat.reduceAdd]
   cases hb : bsT st e with
   | true =>
    have hlt : bsP st e < st.length:=by
     unfold bsT at hb
     split at hb
     ·rename_i y hy; exact (List.getElem?_eq_some_iff.1 hy).1
     ·cases hb
    have k1 : ((bsP st e : Nat) : Int) < (st.length : Int):=by omega
    have k2 : bsP st e * 4 + 4 <= (cellsE st).length:=by rw [cellsE_len]; omega
    have k3 : splice (cellsE st) (bsP st e * 4) (e.cf none) = cellsE (st.set (bsP st e) e):=by
     have:=splice_cellsE [] hlt e
     rw [List.append_nil,List.append_nil] at this
     exact this
    have k4 : putE st e = st.set (bsP st e) e:=by rw [putE,if_pos hb]
    simp only [go_sem,k0,k1,k2,k3]
    refine .inl (.inr ⟨2,cellsE (st.set (bsP st e) e), ?_,by simp,⟨_,rfl⟩,rfl,[], ?_⟩)
    ·rw [k4,List.length_map,List.length_set]
    ·rw [k4,List.append_nil]; rfl
   | false =>
    have k4 : putE st e = insE st (bsP st e) e:=by rw [putE,if_neg (by rw [hb]; decide)]
    simp only [go_sem,k0]
    refine ACallK.intro (p_Insert st (by omega) (bsP st e) hle e 2 3 (by decide) _ rfl rfl) fun v H' hq => ?_
    obtain ⟨ob,r,rfl,ho,hob,c,ext,rfl⟩:=hq
    simp only [go_sem]
    refine .inl (.inr ⟨ob,_, ?_,by simp,⟨_,rfl⟩,ho,r, ?_⟩)
    ·rw [k4,List.length_map,insE_len hle]
    ·rw [k4]; rfl
 have h1:=ACall.frzX (n:=4) (es:=(putE st e).map Entry.c) (fun x hx => by obtain ⟨y,_,rfl⟩:=List.mem_map.1 hx; rfl) (fun x hx => by obtain ⟨y,_,rfl⟩:=List.mem_map.1 hx; exact y.c_bnd _) (fun x hx => by obtain ⟨y,_,rfl⟩:=List.mem_map.1 hx; rfl) h0
 rw [lEntry_map] at h1
 refine PCall.of_nil (h1.mono fun v H' h => h.1) ?_ ?_
 ·simp [pureL,AV.pure,lEntry_pure,Entry.c_pure]
 ·simp [AV.pure,lEntry_pure]
theorem p_chooseE (l : List Entry) (hl : l.length <= 1073741823) (H : Heap) (g : FuncId) (ca : List AV) (hca : ca.map AV.borrow = ca) (d : Entry -> Bool) (hd : ∀ x ∈ l,∀ J,SCall Tryz.prog g (.agg x.c :: ca) (H ++ J) (.bool (d x))) :
  ACall Tryz.prog 254 [.sl none (lEntry l),.fn (.func g) [] ca] H fun v H' => v = .sl none (lEntry (l.filter d)) /\ H' = H:=by
 have h1 : ∀ x ∈ l,∀ J,SCall Tryz.prog 305 [.agg x.c,.ptr H.length 0] (H ++ some [.fn (.func g) [] ca] :: J) (.bool (!d x)):=by
  intro x hx J
  refine ACall.drop rfl ?_
  have c1:=hd x hx (some [.fn (.func g) [] ca] :: (J ++ [some (Entry.c x)]))
  have e1 : H ++ some [.fn (.func g) [] ca] :: (J ++ [some (Entry.c x)]) = H ++ some [.fn (.func g) [] ca] :: J ++ [some (Entry.c x)]:=by simp
  rw [e1] at c1
  refine aC h305_k rfl ?_
  have g1 : ∀ L,(H ++ some [AV.fn (.func g) [] ca] :: L)[H.length]? = some (some [AV.fn (.func g) [] ca]):=fun L => by simp
  have g2 : ∀ X y,(H ++ X :: (J ++ [y]))[List.length (H ++ X :: J)]? = some y:=fun X y => by
   have : H ++ X :: (J ++ [y]) = (H ++ X :: J) ++ [y]:=by simp
   rw [this]; exact List.getElem?_concat_length
  have hc2 : (Entry.c x).take 4 = Entry.c x:=rfl
  have hc3 : (Entry.c x).length = 4:=rfl
  simp only [Tryz.f305,go_sem,g1,g2,hc2,hc3,hca]
  rw [<- e1] at c1
  repeat' (first
   | (refine aS (c1) ?_; simp only [go_sem,g1,g2])
   | ((first | refine cS ?_ ?_ | refine gS ?_ ?_) <;> (intro hc; simp only [go_sem,hc,g1,g2])))
  exact ⟨_,rfl⟩
 have h0 : ACall Tryz.prog 254 [.sl none (lEntry l),.fn (.func g) [] ca] H fun v H' => rowW 4 ((l.filter d).map Entry.c) v H H':=by
  refine aC h254_k rfl ?_
  simp only [Tryz.f254,go_sem]
  refine ACallK.intro (p_CloneE l (by omega) _) fun v H' hq => ?_
  rcases hq with ⟨rfl,rfl,rfl⟩ | ⟨rfl,rfl⟩
  ·simp only [go_sem]
   refine ACallK.intro (p_DeleteNoneE _ _ _ _ _) fun v H' hq => ?_
   obtain ⟨rfl,w2,rfl⟩:=hq
   simp only [go_sem]
   exact .inl ⟨rfl,⟨_,rfl⟩,_,rfl⟩
  ·simp only [go_sem]
   have f2 : List.filter (fun x => !!d x) l = l.filter d:=by simp
   have eo : List.length (H ++ [some [AV.fn (.func g) [] ca]]) + 1 = H.length + 2:=by simp
   have eS : ∀ (c : Option (List AV)) (J : Heap),(H ++ [some [AV.fn (.func g) [] ca],none,some (cellsE l)]).set (H.length + 2) c ++ J = H ++ some [.fn (.func g) [] ca] :: ([none,c] ++ J):=fun c J => by
    rw [List.set_append_right _ _ (by omega)]
    simp
   rw [eo]
   refine ACallK.intro (p_DeleteE l hl [] _ (H.length + 2) (by simp) _ [] [.ptr H.length 0] (fun x => !d x) fun x hx c J => by rw [eS]; exact h1 x hx _) fun v H' hq => ?_
   obtain ⟨r,J,rfl,rfl⟩:=hq
   simp only [go_sem,f2,eS]
   refine .inr ⟨H.length + 2,cellsE (l.filter d) ++ r, ?_,by omega,⟨_,rfl⟩, ?_,r,rfl⟩
   ·rw [List.length_map]
   ·simp
 have h2:=ACall.frzW (n:=4) (es:=(l.filter d).map Entry.c) (fun x hx => by obtain ⟨y,_,rfl⟩:=List.mem_map.1 hx; rfl) (fun x hx => by obtain ⟨y,_,rfl⟩:=List.mem_map.1 hx; exact y.c_bnd _) (fun x hx => by obtain ⟨y,_,rfl⟩:=List.mem_map.1 hx; rfl) h0
 rwa [lEntry_map] at h2
def ofE (st : List Entry) (v : ByteArray) : List Entry:=st.filter fun e => decide (e.var = v)
theorem p_OfE (l : List Entry) (hl : l.length <= 1073741823) (v : ByteArray) : PCall Tryz.prog 188 [.sl none (lEntry l),.str v] (.sl none (lEntry (ofE l v))):=by
 have h1 : ∀ x ∈ l,∀ J,SCall Tryz.prog 255 [.agg x.c,.ptr 0 0] ([some [.str v]] ++ J) (.bool (decide (x.var = v))):=by
  intro x hx J
  refine ACall.drop rfl ?_
  refine aC h255_k rfl ?_
  simp only [Tryz.f255,go_sem]
  exact ⟨by rw [toList_beq],_,rfl⟩
 refine pB h188_k rfl ?_
 simp only [Tryz.f188,go_sem]
 refine ACallK.intro (p_chooseE l hl _ _ _ rfl _ h1) fun w H' hq => ?_
 obtain ⟨rfl,rfl⟩:=hq
 simp only [go_sem]
 rfl
end Go.AI
namespace Go.AI
open Go.Proofs
set_option maxRecDepth 50000
def goodF (f : Fld × Bool) : Prop:=f.2 = true -> okFld f.1
def wrH (l : List Fld) (h : Head) (nm : ByteArray) (n : Int) : Head:=if (findF l nm).2 = true then setN (findF l nm).1 h (if maxF (findF l nm).1 < n then maxF (findF l nm).1 else n).toNat else h
theorem findF_good {l : List Fld} (hl : okFs l) (s : ByteArray) : goodF (findF l s):=fun h => okFld_find hl h
theorem set_get {α : Type} {H : List α} {o : Nat} {x : α} (h : H[o]? = some x) : H.set o x = H:=by
 apply List.ext_getElem?
 intro j
 rw [List.getElem?_set]
 split
 ·rename_i hj; subst hj; rw [h,if_pos (List.getElem?_eq_some_iff.1 h).1]
 ·rfl
theorem set_app {α : Type} {H : List α} {o : Nat} {x : α} (h : o < H.length) (L : List α) : (H ++ L).set o x = H.set o x ++ L:=List.set_append_left _ _ h
theorem wrH_right {l : List Fld} (hl : okFs l) {h : Head} (hr : rightH h = true) (nm : ByteArray) {n : Int} (hn : 0 <= n) : rightH (wrH l h nm n) = true:=by
 unfold wrH
 split
 ·rename_i hf
  have hg:=findF_good hl nm hf
  have hm:=maxF_ok hg
  have hp : 0 < 2 ^ fW (findF l nm).1:=Nat.two_pow_pos _
  refine right_setN hg ?_ hr
  rw [hm]
  split <;> omega
 ·exact hr
theorem p_write (D : Doing) (hl : okFs D.fields) (hln : D.fields.length <= 9223372036854775807) (hr : rightH D.head = true) (nm : ByteArray) (n : Int) (hn : 0 <= n) (H : Heap) (od : Nat) (o0 o1 o2 o3 : Option Nat) (ho : H[od]? = some (some (D.cf o0 o1 o2 o3))) :
  ACall Tryz.prog 187 [.ptr od 0,.str nm,.int .i64 n] H fun v H' => v = .tup [] /\ ∃ ext,H' = H.set od (some (({ D with head:=wrH D.fields D.head nm n } : Doing).cf o0 o1 o2 o3)) ++ ext:=by
 have hlt:=(List.getElem?_eq_some_iff.1 ho).1
 have c1:=p_Find D.fields hln nm
 have q0:=q_0 H
 have g1:=get_grow ho
 refine aC h187_k rfl ?_
 cases hf : (findF D.fields nm).2 with
 | false =>
  rw [hf] at c1
  simp only [Tryz.f187,go_sem,ho,g1]
  refine pK c1 ?_
  simp only [go_sem,ho,g1,q0]
  have e1 : wrH D.fields D.head nm n = D.head:=by unfold wrH; rw [if_neg (by rw [hf]; decide)]
  rw [e1,set_get ho]
  exact ⟨_,rfl⟩
 | true =>
  rw [hf] at c1
  have hg:=findF_good hl nm hf
  have hm:=maxF_ok hg
  have c2:=p_Max (findF D.fields nm).1 (by have:=hg; unfold okFld at this; omega) (by have:=hg; unfold okFld at this; omega)
  have hp : 0 < 2 ^ fW (findF D.fields nm).1:=Nat.two_pow_pos _
  have e1 : wrH D.fields D.head nm n = setN (findF D.fields nm).1 D.head (if maxF (findF D.fields nm).1 < n then maxF (findF D.fields nm).1 else n).toNat:=by unfold wrH; rw [if_pos hf]
  have e2 : (((if maxF (findF D.fields nm).1 < n then maxF (findF D.fields nm).1 else n).toNat : Nat) : Int) = if maxF (findF D.fields nm).1 < n then maxF (findF D.fields nm).1 else n:=Int.toNat_of_nonneg (by rw [hm]; split <;> omega)
  have c3:=p_fSet (findF D.fields nm).1 hg D.head hr (if maxF (findF D.fields nm).1 < n then maxF (findF D.fields nm).1 else n).toNat (by rw [hm]; split <;> omega)
  rw [e2,<- e1] at c3
  simp only [Tryz.f187,go_sem,ho,g1]
  refine pK c1 ?_
  simp only [go_sem,ho,g1,q0]
  refine pK c2 ?_
  simp only [go_sem,ho,g1,q0]
  refine pK c3 ?_
  simp only [go_sem,ho,g1,q0,hlt]
  rw [set_app hlt]
  exact ⟨_,rfl⟩
def keepD (D : Doing) : Doing × Bool:=if D.is = false /\ 100 <= (ofE D.st D.step.var).length then (D,false) else ({ D with st:=putE D.st D.entry },true)
theorem keepD_same (D : Doing) : (keepD D).1.fields = D.fields /\ (keepD D).1.step = D.step /\ (keepD D).1.head = D.head /\ (keepD D).1.entry = D.entry:=by
 unfold keepD; split <;> exact ⟨rfl,rfl,rfl,rfl⟩
def setD (od : Nat) (o0 o1 o3 : Option Nat) (H : Heap) (r : Doing × Bool) (v : AV) (H' : Heap) : Prop:=v = .bool r.2 /\ ∃ o2 ext,H' = H.set od (some (r.1.cf o0 o1 o2 o3)) ++ ext
theorem p_keep (D : Doing) (hst : D.st.length <= 1073741823) (hk : ∀ y ∈ D.st,y.key.length <= 1073741824) (H : Heap) (od : Nat) (o0 o1 o2 o3 : Option Nat) (ho : H[od]? = some (some (D.cf o0 o1 o2 o3))) :
  ACall Tryz.prog 186 [.ptr od 0] H (setD od o0 o1 o3 H (keepD D)):=by
 have hlt:=(List.getElem?_eq_some_iff.1 ho).1
 have c1:=p_OfE D.st (by omega) D.step.var
 have c2:=p_putE D.st (by omega) hk D.entry
 refine aC h186_k rfl ?_
 cases hi : D.is with
 | true =>
  simp only [Tryz.f186,go_sem,ho,hi,Bool.not_true]
  refine pK c2 ?_
  simp only [go_sem,ho,hlt]
  have e1 : keepD D = ({ D with st:=putE D.st D.entry },true):=by unfold keepD; rw [if_neg (by rw [hi]; simp)]
  rw [e1]
  exact ⟨rfl,none,[],by simp⟩
 | false =>
  simp only [Tryz.f186,go_sem,ho,hi,Bool.not_false]
  refine pK c1 ?_
  simp only [go_sem,ho,hlt]
  refine cS ?_ ?_ <;> intro hc
  ·have e1 : keepD D = (D,false):=by unfold keepD; rw [if_pos ⟨hi,by simp at hc; omega⟩]
   simp only [go_sem,e1]
   exact ⟨rfl,o2,[],by rw [set_get ho,List.append_nil]⟩
  ·have e1 : keepD D = ({ D with st:=putE D.st D.entry },true):=by unfold keepD; rw [if_neg (by simp at hc ⊢; omega)]
   simp only [go_sem,ho,hlt]
   refine pK c2 ?_
   simp only [go_sem,ho,hlt,e1]
   exact ⟨rfl,none,[],by simp [hi]⟩
theorem set_at {α : Type} {H : List α} {o : Nat} (h : o < H.length) (x : α) (L : List α) : (H.set o x ++ L)[o]? = some x:=by
 rw [List.getElem?_append_left (by rw [List.length_set]; exact h)]
 exact List.getElem?_set_self h
def openD (D : Doing) : Doing × Bool:=keepD { D with entry:={ D.entry with at_:=D.tick } }
def checkD (D : Doing) : Doing × Bool:=(D,D.is && decide (IntKind.i64.wrap (D.tick - D.step.n) <= D.entry.at_))
def wrD (r : Doing × Bool) : Doing × Bool:=if r.2 = true then ({ r.1 with head:=wrH r.1.fields r.1.head r.1.step.field r.1.entry.n },true) else (r.1,false)
def minI (a b : Int) : Int:=if b < a then b else a
def countD (D : Doing) : Doing × Bool:=wrD (keepD { D with entry:={ D.entry with n:=minI (D.entry.n + 1) 65535,at_:=D.tick } })
def hDcn : Hint:={ h107 with pc:=[] }
@[go_sem] theorem hDcn_lv (k : Nat) : hDcn.lv k = h107.lv k:=Eq.trans rfl rfl
@[go_sem] theorem hDcn_ct (k : Nat) : hDcn.ct k = h107.ct k:=Eq.trans rfl rfl
@[go_sem] theorem hDcn_at (k : Nat) : hDcn.at k = h107.at k:=Eq.trans rfl rfl
@[go_sem] theorem hDcn_dn (k : Nat) : hDcn.dn k = h107.dn k:=Eq.trans rfl rfl
@[go_sem] theorem hDcn_t : hDcn.tk = [] /\ hDcn.mt = [] /\ hDcn.pc = []:=⟨rfl,rfl,rfl⟩
theorem hDcn_k : FK Tryz.prog 107 Tryz.f107 hDcn:=⟨by kernel_rfl,by kernel_rfl,Tryz.func107,by kernel_rfl⟩
def hDop : Hint:={ h108 with pc:=[] }
@[go_sem] theorem hDop_lv (k : Nat) : hDop.lv k = h108.lv k:=Eq.trans rfl rfl
@[go_sem] theorem hDop_ct (k : Nat) : hDop.ct k = h108.ct k:=Eq.trans rfl rfl
@[go_sem] theorem hDop_at (k : Nat) : hDop.at k = h108.at k:=Eq.trans rfl rfl
@[go_sem] theorem hDop_dn (k : Nat) : hDop.dn k = h108.dn k:=Eq.trans rfl rfl
@[go_sem] theorem hDop_t : hDop.tk = [] /\ hDop.mt = [] /\ hDop.pc = []:=⟨rfl,rfl,rfl⟩
theorem hDop_k : FK Tryz.prog 108 Tryz.f108 hDop:=⟨by kernel_rfl,by kernel_rfl,Tryz.func108,by kernel_rfl⟩
section
variable (D : Doing) (hl : okFs D.fields) (hln : D.fields.length <= 9223372036854775807) (hst : D.st.length <= 1073741823) (hk : ∀ y ∈ D.st,y.key.length <= 1073741824) (hr : rightH D.head = true) (he : 0 <= D.entry.n /\ D.entry.n <= 65535)
variable (H : Heap) (od : Nat) (o0 o1 o2 o3 : Option Nat) (ho : H[od]? = some (some (D.cf o0 o1 o2 o3)))
include hst hk ho
theorem p_openS : ACall Tryz.prog 108 [.ptr od 0] H (setD od o0 o1 o3 H (openD D)):=by
 have hlt:=(List.getElem?_eq_some_iff.1 ho).1
 refine aC hDop_k rfl ?_
 simp only [Tryz.f108,go_sem,ho,hlt]
 refine ACallK.intro (p_keep { D with entry:={ D.entry with at_:=D.tick } } hst hk _ od o0 o1 o2 o3 (List.getElem?_set_self hlt)) fun v H' hq => ?_
 obtain ⟨rfl,w,ext,rfl⟩:=hq
 simp only [go_sem]
 exact ⟨rfl,w,ext,by rw [List.set_set]; rfl⟩
theorem p_checkS : ACall Tryz.prog 109 [.ptr od 0] H (setD od o0 o1 o3 H (checkD D)):=by
 have hlt:=(List.getElem?_eq_some_iff.1 ho).1
 refine aC h109_k rfl ?_
 cases hi : D.is <;> simp only [Tryz.f109,go_sem,ho,hi]
 ·exact ⟨by rw [checkD,hi]; rfl,o2,[],by rw [List.append_nil]; exact (set_get ho).symm⟩
 ·exact ⟨by rw [checkD,hi]; rfl,o2,[],by rw [List.append_nil]; exact (set_get ho).symm⟩
include hl hln hr he
theorem p_countS : ACall Tryz.prog 107 [.ptr od 0] H (setD od o0 o1 o3 H (countD D)):=by
 have hlt:=(List.getElem?_eq_some_iff.1 ho).1
 have hw : IntKind.i64.wrap (D.entry.n + 1) = D.entry.n + 1:=w64 (by omega) (by omega)
 refine aC hDcn_k rfl ?_
 have gS : ∀ x,(H.set od x)[od]? = some x:=fun x => List.getElem?_set_self hlt
 have gL : ∀ x,od < (H.set od x).length:=fun x => by rw [List.length_set]; exact hlt
 have sS : ∀ x y,(H.set od x).set od y = H.set od y:=fun x y => List.set_set ..
 simp only [Tryz.f107,go_sem,ho,hlt,hw,gS,gL,sS]
 refine ACallK.intro (p_keep { D with entry:={ D.entry with n:=minI (D.entry.n + 1) 65535,at_:=D.tick } } hst hk _ od o0 o1 o2 o3 (gS _)) fun v H' hq => ?_
 obtain ⟨rfl,w,ext,rfl⟩:=hq
 have hD : countD D = wrD (keepD { D with entry:={ D.entry with n:=minI (D.entry.n + 1) 65535,at_:=D.tick } }):=rfl
 rw [hD]
 have k1:=keepD_same { D with entry:={ D.entry with n:=minI (D.entry.n + 1) 65535,at_:=D.tick } }
 generalize keepD { D with entry:={ D.entry with n:=minI (D.entry.n + 1) 65535,at_:=D.tick } } = r at k1 ⊢
 obtain ⟨D2,b⟩:=r
 obtain ⟨k2,k3,k4,k5⟩:=k1
 dsimp only at k2 k3 k4 k5
 rw [sS]
 cases b with
 | false =>
  simp only [go_sem,Bool.not_false]
  exact ⟨rfl,w,ext,rfl⟩
 | true =>
  have hA:=set_at hlt (some (D2.cf o0 o1 w o3)) ext
  simp only [go_sem,Bool.not_true,hA]
  refine ACallK.intro (p_write D2 (by rw [k2]; exact hl) (by rw [k2]; exact hln) (by rw [k4]; exact hr) _ _ (by rw [k5]; unfold minI; split <;> simp <;> omega) _ od o0 o1 w o3 hA) fun v H' hq => ?_
  obtain ⟨rfl,ext2,rfl⟩:=hq
  simp only [go_sem]
  refine ⟨rfl,w,ext ++ ext2, ?_⟩
  rw [set_app (gL _),sS,List.append_assoc]
  rfl
end
end Go.AI
namespace Go.AI
open Go.Proofs
set_option maxRecDepth 50000
theorem freeU_dec (U : List Int) (m : Int) (h : m ∈ U) : (U.filter fun x => decide (m + 1 <= x)).length < (U.filter fun x => decide (m <= x)).length:=by
 have e : U.filter (fun x => decide (m + 1 <= x)) = (U.filter fun x => decide (m <= x)).filter fun x => !decide (x = m):=by
  rw [List.filter_filter]
  congr 1
  funext x
  rw [Bool.eq_iff_iff]
  simp
  omega
 rw [e]
 exact List.length_filter_lt_length_iff_exists.2 ⟨m,by simp [h],by simp⟩
def freeU (U : List Int) (m : Int) : Int:=if m ∈ U then freeU U (m + 1) else m
termination_by (U.filter fun x => decide (m <= x)).length
decreasing_by exact freeU_dec U m (by assumption)
theorem freeU_in {U : List Int} {m : Int} (h : m ∈ U) : freeU U m = freeU U (m + 1):=by rw [freeU,if_pos h]
theorem freeU_out {U : List Int} {m : Int} (h : m ∉ U) : freeU U m = m:=by rw [freeU,if_neg h]
theorem freeU_le (U : List Int) (m B : Int) (hU : ∀ x ∈ U,x <= B) (hm : m <= B + 1) : m <= freeU U m /\ freeU U m <= B + 1:=by
 fun_induction freeU U m with
 | case1 m h ih =>
  have:=hU m h
  have:=ih (by omega)
  omega
 | case2 m h => omega
def usedN (D : Doing) : List Int:=(ofE D.st D.step.var).map (·.n)
def transD (D : Doing) : Doing × Bool :=
 if D.is = true then wrD (keepD { D with entry:={ D.entry with at_:=D.tick } })
 else if D.step.m < freeU (usedN D) D.step.n then ({ D with entry:={ D.entry with n:=freeU (usedN D) D.step.n,at_:=D.tick } },false)
 else wrD (keepD { D with entry:={ D.entry with n:=freeU (usedN D) D.step.n,at_:=D.tick } })
def hDtr : Hint:={ h110 with pc:=[29] }
@[go_sem] theorem hDtr_lv (k : Nat) : hDtr.lv k = h110.lv k:=Eq.trans rfl rfl
@[go_sem] theorem hDtr_ct (k : Nat) : hDtr.ct k = h110.ct k:=Eq.trans rfl rfl
@[go_sem] theorem hDtr_at (k : Nat) : hDtr.at k = h110.at k:=Eq.trans rfl rfl
@[go_sem] theorem hDtr_dn (k : Nat) : hDtr.dn k = h110.dn k:=Eq.trans rfl rfl
@[go_sem] theorem hDtr_t : hDtr.tk = [] /\ hDtr.mt = [] /\ hDtr.pc = [29]:=⟨rfl,rfl,rfl⟩
theorem hDtr_k : FK Tryz.prog 110 Tryz.f110 hDtr:=⟨by kernel_rfl,by kernel_rfl,Tryz.func110,by kernel_rfl⟩
def isBk (D : Doing) (e : Entry) : Bool:=decide (e.var = D.step.var) && (e.n == (getN (findF D.fields D.step.field).1 D.head : Nat))
def bkH (l : List Fld) (h : Head) (q : List (ByteArray × Int)) : Head:=q.foldl (fun h p => wrH l h p.1 p.2) h
def backD (D : Doing) : Doing × Bool:=match D.st.find? (isBk D) with
 | none => (D,false)
 | some y => ({ D with head:=bkH D.fields D.head (D.step.key.zip y.key) },true)
theorem zip_snoc {α β : Type} (x : α) {y : β} : ∀ {a : List α} {b : List β},b[a.length]? = some y -> (a ++ [x]).zip b = a.zip b ++ [(x,y)]
 | [],[],h => by simp at h
 | [],z :: b,h => by simp at h; subst h; rfl
 | w :: a,[],h => by simp at h
 | w :: a,z :: b,h => by
  have h2 : b[a.length]? = some y:=by simpa using h
  rw [List.cons_append,List.zip_cons_cons,zip_snoc x h2,List.zip_cons_cons]; rfl
theorem idxGo_find {α : Type} (p : α -> Bool) : ∀ (l : List α) (k : Nat),(idxGo p k l = -1 /\ l.find? p = none) \/ ∃ (i : Nat) (y : α),idxGo p k l = ((k + i : Nat) : Int) /\ l[i]? = some y /\ l.find? p = some y
 | [],k => .inl ⟨rfl,rfl⟩
 | x :: l,k => by
  rw [idxGo]
  by_cases h : p x = true
  ·rw [if_pos h]
   exact .inr ⟨0,x,rfl,rfl,by rw [List.find?_cons,h]⟩
  ·rw [if_neg h]
   have h2 : p x = false:=by simpa using h
   rcases idxGo_find p l (k + 1) with ⟨h3,h4⟩ | ⟨i,y,h3,h4,h5⟩
   ·exact .inl ⟨h3,by rw [List.find?_cons,h2]; exact h4⟩
   ·exact .inr ⟨i + 1,y,by rw [h3]; congr 1; omega,h4,by rw [List.find?_cons,h2]; exact h5⟩
def hDbk : Hint:={ h111 with pc:=[19,27] }
@[go_sem] theorem hDbk_lv (k : Nat) : hDbk.lv k = h111.lv k:=Eq.trans rfl rfl
@[go_sem] theorem hDbk_ct (k : Nat) : hDbk.ct k = h111.ct k:=Eq.trans rfl rfl
@[go_sem] theorem hDbk_at (k : Nat) : hDbk.at k = h111.at k:=Eq.trans rfl rfl
@[go_sem] theorem hDbk_dn (k : Nat) : hDbk.dn k = h111.dn k:=Eq.trans rfl rfl
@[go_sem] theorem hDbk_t : hDbk.tk = [] /\ hDbk.mt = [] /\ hDbk.pc = [19,27]:=⟨rfl,rfl,rfl⟩
theorem hDbk_k : FK Tryz.prog 111 Tryz.f111 hDbk:=⟨by kernel_rfl,by kernel_rfl,Tryz.func111,by kernel_rfl⟩
def tok1 (s : Stp) (e : Entry) (is : Bool) (tick : Int) : Entry:=if is = true then e else { e with n:=s.n,at_:=tick }
def tokM (s : Stp) (e : Entry) (tick : Int) : Int:=(if 0 < tick - e.at_ then tick - e.at_ else 0) / s.m
def tok2 (s : Stp) (e : Entry) (tick : Int) : Entry:=if s.n <= e.n + tokM s e tick then { e with n:=s.n,at_:=tick } else { e with n:=e.n + tokM s e tick,at_:=e.at_ + tokM s e tick * s.m }
def tok3 (e : Entry) : Entry:=if 0 < e.n then { e with n:=e.n - 1 } else e
theorem tok_pos {s : Stp} {e : Entry} {tick : Int} (hm : 1 <= s.m) : 0 <= tokM s e tick /\ tokM s e tick * s.m <= (if 0 < tick - e.at_ then tick - e.at_ else 0):=by
 unfold tokM
 have h0 : 0 <= (if 0 < tick - e.at_ then tick - e.at_ else 0):=by split <;> omega
 generalize (if 0 < tick - e.at_ then tick - e.at_ else 0) = x at h0 ⊢
 exact ⟨Int.ediv_nonneg h0 (by omega),Int.ediv_mul_le _ (by omega)⟩
theorem tok_facts {s : Stp} {e : Entry} {tick : Int} (hm : 1 <= s.m /\ s.m <= 1073741824) (he : 0 <= e.n /\ e.n <= 65536) (ht : 0 <= tick /\ tick <= 1073741824) (ha : 0 <= e.at_ /\ e.at_ <= 1073741824) :
  IntKind.i64.wrap (tick - e.at_) = tick - e.at_ /\ IntKind.i64.wrap ((if tick - e.at_ > 0 then tick - e.at_ else 0).tdiv s.m) = tokM s e tick /\ IntKind.i64.wrap (e.n + tokM s e tick) = e.n + tokM s e tick /\ IntKind.i64.wrap (tokM s e tick * s.m) = tokM s e tick * s.m /\ IntKind.i64.wrap (e.at_ + tokM s e tick * s.m) = e.at_ + tokM s e tick * s.m /\
   0 <= tokM s e tick /\ tokM s e tick * s.m <= 1073741824 /\ tokM s e tick <= 1073741824 /\ 0 <= tokM s e tick * s.m:=by
 obtain ⟨p1,p2⟩:=tok_pos (s:=s) (e:=e) (tick:=tick) hm.1
 have p3 : (if 0 < tick - e.at_ then tick - e.at_ else 0) <= 1073741824:=by split <;> omega
 have p4 : tokM s e tick <= tokM s e tick * s.m:=by
  have:=Int.mul_le_mul_of_nonneg_left hm.1 p1
  omega
 have p5 : (if tick - e.at_ > 0 then tick - e.at_ else 0).tdiv s.m = tokM s e tick:=by
  unfold tokM
  rw [Int.tdiv_eq_ediv_of_nonneg (by split <;> omega)]
 rw [p5]
 exact ⟨w64 (by omega) (by omega),w64 (by omega) (by omega),w64 (by omega) (by omega),w64 (by omega) (by omega),w64 (by omega) (by omega),p1,by omega,by omega,by omega⟩
def hDtk : Hint:={ h112 with pc:=[] }
@[go_sem] theorem hDtk_lv (k : Nat) : hDtk.lv k = h112.lv k:=Eq.trans rfl rfl
@[go_sem] theorem hDtk_ct (k : Nat) : hDtk.ct k = h112.ct k:=Eq.trans rfl rfl
@[go_sem] theorem hDtk_at (k : Nat) : hDtk.at k = h112.at k:=Eq.trans rfl rfl
@[go_sem] theorem hDtk_dn (k : Nat) : hDtk.dn k = h112.dn k:=Eq.trans rfl rfl
@[go_sem] theorem hDtk_t : hDtk.tk = [] /\ hDtk.mt = [] /\ hDtk.pc = []:=⟨rfl,rfl,rfl⟩
theorem hDtk_k : FK Tryz.prog 112 Tryz.f112 hDtk:=⟨by kernel_rfl,by kernel_rfl,Tryz.func112,by kernel_rfl⟩
def tokenD (D : Doing) : Doing × Bool :=
 let e2:=tok2 D.step (tok1 D.step D.entry D.is D.tick) D.tick
 let r:=keepD { D with entry:=tok3 e2 }
 (r.1,r.2 && decide (0 < e2.n))
section
variable (D : Doing) (hl : okFs D.fields) (hln : D.fields.length <= 9223372036854775807) (hst : D.st.length <= 1073741823) (hk : ∀ y ∈ D.st,y.key.length <= 1073741824) (hr : rightH D.head = true) (he : 0 <= D.entry.n /\ D.entry.n <= 65535)
variable (H : Heap) (od : Nat) (o0 o1 o2 o3 : Option Nat) (ho : H[od]? = some (some (D.cf o0 o1 o2 o3)))
include hst hk ho hl hln hr he
set_option maxHeartbeats 1000000 in
theorem p_translateS (hn : 0 <= D.step.n /\ D.step.n <= 65536) (hen : ∀ y ∈ D.st,y.n <= 65535) : ACall Tryz.prog 110 [.ptr od 0] H (setD od o0 o1 o3 H (transD D)):=by
 have hlt:=(List.getElem?_eq_some_iff.1 ho).1
 have gS : ∀ x,(H.set od x)[od]? = some x:=fun x => List.getElem?_set_self hlt
 have gL : ∀ x,od < (H.set od x).length:=fun x => by rw [List.length_set]; exact hlt
 have sS : ∀ x y,(H.set od x).set od y = H.set od y:=fun x y => List.set_set ..
 have gA : ∀ x L,(H.set od x ++ L)[od]? = some x:=fun x L => set_at hlt x L
 have sA : ∀ x L y,(H.set od x ++ L).set od y = H.set od y ++ L:=fun x L y => by rw [set_app (gL _),sS]
 refine aC hDtr_k rfl ?_
 cases hi : D.is with
 | true =>
  have e1 : transD D = wrD (keepD { D with entry:={ D.entry with at_:=D.tick },is:=true }):=by unfold transD; rw [if_pos hi,<- hi]
  rw [e1]
  simp only [Tryz.f110,go_sem,ho,hlt,gS,gL,sS,hi,Bool.not_true]
  have hEnd : ∀ (x : Option (List AV)) ext,(H.set od (some (({ D with entry:={ D.entry with at_:=D.tick },is:=true } : Doing).cf o0 o1 o2 o3))).set od x ++ ext = H.set od x ++ ([] ++ ext):=fun x ext => by rw [sS,List.nil_append]
  refine ACallK.intro (p_keep ({ D with entry:={ D.entry with at_:=D.tick },is:=true } : Doing) hst hk _ od o0 o1 o2 o3 (gS _)) fun v H' hq => ?_
  obtain ⟨rfl,w,ext,rfl⟩:=hq
  have k1:=keepD_same ({ D with entry:={ D.entry with at_:=D.tick },is:=true } : Doing)
  have kn : 0 <= ({ D with entry:={ D.entry with at_:=D.tick },is:=true } : Doing).entry.n:=he.1
  generalize keepD ({ D with entry:={ D.entry with at_:=D.tick },is:=true } : Doing) = r at k1 ⊢
  obtain ⟨D2,b⟩:=r
  obtain ⟨k2,k3,k4,k5⟩:=k1
  dsimp only at k2 k3 k4 k5 kn
  cases b with
  | false =>
   simp only [go_sem,Bool.not_false]
   exact ⟨rfl,w,_,hEnd _ _⟩
  | true =>
   rw [hEnd]
   simp only [go_sem,Bool.not_true,gA]
   refine ACallK.intro (p_write D2 (by rw [k2]; exact hl) (by rw [k2]; exact hln) (by rw [k4]; exact hr) _ _ (by rw [k5]; exact kn) _ od o0 o1 w o3 (gA _ _)) fun v H' hq => ?_
   obtain ⟨rfl,ext2,rfl⟩:=hq
   simp only [go_sem]
   refine ⟨rfl,w,([] : Heap) ++ ext ++ ext2, ?_⟩
   rw [sA,<- List.append_assoc]
   rfl
 | false =>
  simp only [Tryz.f110,go_sem,ho,hlt,gS,gL,sS,gA,hi,Bool.not_false]
  refine pK (p_OfE D.st (by omega) D.step.var) ?_
  simp only [go_sem,gA]
  have hint : Tryz.prog.underlying 3 = some (.int .i64):=by simp only [go_sem]
  have hln2 : (ofE D.st D.step.var).length <= D.st.length:=List.length_filter_le _ _
  have gM : ∀ x y L,(H.set od x ++ y :: L)[H.length]? = some y:=fun x y L => by
   rw [List.getElem?_append_right (by simp)]; simp
  have sM : ∀ x y L z,(H.set od x ++ y :: L).set H.length z = H.set od x ++ z :: L:=fun x y L z => by
   rw [List.set_append_right _ _ (by simp)]; simp
  have gN : ∀ x y L z,(H.set od x ++ y :: (L ++ [z]))[List.length (H.set od x ++ y :: L)]? = some z:=fun x y L z => by
   have : H.set od x ++ y :: (L ++ [z]) = (H.set od x ++ y :: L) ++ [z]:=by simp
   rw [this]; exact List.getElem?_concat_length
  have sN : ∀ x y L z z2,(H.set od x ++ y :: (L ++ [z])).set (List.length (H.set od x ++ y :: L)) z2 = H.set od x ++ y :: (L ++ [z2]):=fun x y L z z2 => by
   have : H.set od x ++ y :: (L ++ [z]) = (H.set od x ++ y :: L) ++ [z]:=by simp
   rw [this]; simp
  refine awp_lst (ofE D.st D.step.var) (fun (_ : List Int × Heap) (_ : List Entry) => ()) (fun k s => distL iKey s.1 /\ ∀ x,x ∈ s.1 ↔ x ∈ ((ofE D.st D.step.var).take k).map (·.n)) (fun k _ => [(0,.ptr od 0),(3,.mapr H.length),(29,.sl none (lEntry (ofE D.st D.step.var))),(30,.int .i64 (ofE D.st D.step.var).length),(31,.int .i64 k)])
   (fun _ s => H.set od (some (({ D with entry:={ D.entry with at_:=D.tick },is:=false } : Doing).cf o0 o1 o2 o3)) ++ some (mapc (setE iKey s.1)) :: s.2) ([],[]) (by omega) ⟨trivial,fun x => by simp⟩ ?_ rfl ?_ ?_
  ·rw [List.length_set]; rfl
  ·rintro k ⟨B,L⟩ x xs hd hx hI _ h0 h1 hw
   dsimp only at hI ⊢
   have hc2 : (Entry.c x).take 4 = Entry.c x:=rfl
   have hc3 : (Entry.c x).length = 4:=rfl
   have hc4 : (Entry.c x)[2]? = some (.int .i64 x.n):=rfl
   have htk : (ofE D.st D.step.var).take (k + 1) = (ofE D.st D.step.var).take k ++ [x]:=by rw [List.take_add_one,hx]; rfl
   simp only [go_sem,h0,h1,lEntry_get hx,gM,gN,sN,hc2,hc3,hc4]
   refine updK_setI (kt:=3) (et:=4) B x.n (by first | simp only [go_sem] | kernel_rfl) (gM _ _ _) (keysIn_int hint fun a ha => by
    rcases List.mem_cons.1 ha with rfl | ha
    ·exact ⟨_,rfl⟩
    ·obtain ⟨z,_,rfl⟩:=List.mem_map.1 ha; exact ⟨_,rfl⟩) hI.1 ?_
   simp only [go_sem,hw,sM]
   refine ⟨(if B.any (fun z => z == x.n) then B else B ++ [x.n],L ++ [some (Entry.c x)]),⟨dist_add _ hI.1,fun y => ?_⟩,rfl,rfl⟩
   rw [htk,List.map_append,List.mem_append,<- hI.2 y,List.map_cons,List.map_nil,List.mem_singleton]
   dsimp only
   split
   ·rename_i hany
    have : x.n ∈ B:=by simpa using hany
    exact ⟨.inl,fun h => h.elim id fun h => h ▸ this⟩
   ·rw [List.mem_append,List.mem_singleton]
  ·rintro ⟨B,L⟩ hI _
   dsimp only at hI ⊢
   rw [List.take_length] at hI
   have hU : ∀ x,x ∈ B ↔ x ∈ usedN D:=hI.2
   have hUB : ∀ x ∈ usedN D,x <= 65535:=fun x hx => by
    obtain ⟨y,hy,rfl⟩:=List.mem_map.1 hx
    exact hen y (List.mem_filter.1 hy).1
   simp only [go_sem,Int.lt_irrefl,decide_false,gA,sA]
   refine awp_wh (σ:=Int) (fun _ => [(0,.ptr od 0),(3,.mapr H.length)])
    (fun m => H.set od (some (({ D with entry:={ D.entry with n:=m,at_:=D.tick },is:=false } : Doing).cf o0 o1 o2 o3)) ++ some (mapc (setE iKey B)) :: L) (fun m => 0 <= m /\ m <= 65536 /\ freeU (usedN D) D.step.n = freeU (usedN D) m) (fun m => ((usedN D).filter fun x => decide (m <= x)).length) D.step.n ⟨hn.1,hn.2,rfl⟩ rfl rfl ?_
   rintro m ⟨m0,m1,m2⟩
   have hwm : IntKind.i64.wrap (m + 1) = m + 1:=w64 (by omega) (by omega)
   simp only [go_sem,gA,sA]
   refine lkpK_set (kt:=3) (et:=4) iKey B (iKey m) (by first | simp only [go_sem] | kernel_rfl) (by first | simp only [go_sem] | kernel_rfl) (gM _ _ _) (keysIn_int hint fun a ha => by
    rcases List.mem_cons.1 ha with rfl | ha
    ·exact ⟨_,rfl⟩
    ·obtain ⟨z,_,rfl⟩:=List.mem_map.1 ha; exact ⟨_,rfl⟩) hI.1 ?_
   rw [any_i]
   simp only [go_sem]
   refine cS ?_ ?_ <;> intro hc
   ·have hm : m ∈ usedN D:=(hU m).1 (by simpa using hc)
    have:=hUB m hm
    simp only [go_sem,gA,sA,hwm]
    exact ⟨m + 1,⟨by omega,by omega,by rw [m2,freeU_in hm]⟩,freeU_dec _ _ hm,rfl,rfl⟩
   ·have hm : m ∉ usedN D:=fun h => by
     have:=(hU m).2 h
     simp at hc
     exact hc m this rfl
    have hf : freeU (usedN D) D.step.n = m:=by rw [m2,freeU_out hm]
    simp only [go_sem,gA,sA]
    refine cS ?_ ?_ <;> intro hc2
    ·have hlt2 : D.step.m < m:=by simpa using hc2
     have e1 : transD D = ({ D with entry:={ D.entry with n:=m,at_:=D.tick },is:=false },false):=by unfold transD; rw [if_neg (by rw [hi]; decide),hf,if_pos hlt2,<- hi]
     rw [e1]
     simp only [go_sem]
     exact ⟨rfl,o2,_,rfl⟩
    ·have hlt2 : ¬ D.step.m < m:=by simpa using hc2
     have e1 : transD D = wrD (keepD { D with entry:={ D.entry with n:=m,at_:=D.tick },is:=false }):=by unfold transD; rw [if_neg (by rw [hi]; decide),hf,if_neg hlt2,<- hi]
     rw [e1]
     have hEnd : ∀ (x : Option (List AV)) ext,(H.set od (some (({ D with entry:={ D.entry with n:=m,at_:=D.tick },is:=false } : Doing).cf o0 o1 o2 o3)) ++ some (mapc (setE iKey B)) :: L).set od x ++ ext = H.set od x ++ ((some (mapc (setE iKey B)) :: L) ++ ext):=fun x ext => by rw [sA,List.append_assoc]
     simp only [go_sem]
     refine ACallK.intro (p_keep ({ D with entry:={ D.entry with n:=m,at_:=D.tick },is:=false } : Doing) hst hk _ od o0 o1 o2 o3 (gA _ _)) fun v H' hq => ?_
     obtain ⟨rfl,w,ext,rfl⟩:=hq
     have k1:=keepD_same ({ D with entry:={ D.entry with n:=m,at_:=D.tick },is:=false } : Doing)
     have kn : 0 <= ({ D with entry:={ D.entry with n:=m,at_:=D.tick },is:=false } : Doing).entry.n:=m0
     generalize keepD ({ D with entry:={ D.entry with n:=m,at_:=D.tick },is:=false } : Doing) = r at k1 ⊢
     obtain ⟨D2,b⟩:=r
     obtain ⟨k2,k3,k4,k5⟩:=k1
     dsimp only at k2 k3 k4 k5 kn
     cases b with
     | false =>
      simp only [go_sem,Bool.not_false]
      exact ⟨rfl,w,_,hEnd _ _⟩
     | true =>
      rw [hEnd]
      simp only [go_sem,Bool.not_true,gA]
      refine ACallK.intro (p_write D2 (by rw [k2]; exact hl) (by rw [k2]; exact hln) (by rw [k4]; exact hr) _ _ (by rw [k5]; exact kn) _ od o0 o1 w o3 (gA _ _)) fun v H' hq => ?_
      obtain ⟨rfl,ext2,rfl⟩:=hq
      simp only [go_sem]
      refine ⟨rfl,w,(some (mapc (setE iKey B)) :: L) ++ ext ++ ext2, ?_⟩
      rw [sA,<- List.append_assoc]
      rfl
omit hk he in
set_option maxHeartbeats 1000000 in
theorem p_backS (hf : (findF D.fields D.step.field).2 = true) (hkl : ∀ y ∈ D.st,y.var = D.step.var -> D.step.key.length <= y.key.length) (hkp : ∀ y ∈ D.st,∀ x ∈ y.key,0 <= x) (hskl : D.step.key.length <= 1048576) : ACall Tryz.prog 111 [.ptr od 0] H (setD od o0 o1 o3 H (backD D)):=by
 have hlt:=(List.getElem?_eq_some_iff.1 ho).1
 have gS : ∀ x,(H.set od x)[od]? = some x:=fun x => List.getElem?_set_self hlt
 have gL : ∀ x,od < (H.set od x).length:=fun x => by rw [List.length_set]; exact hlt
 have sS : ∀ x y,(H.set od x).set od y = H.set od y:=fun x y => List.set_set ..
 have gA : ∀ x L,(H.set od x ++ L)[od]? = some x:=fun x L => set_at hlt x L
 have sA : ∀ x L y,(H.set od x ++ L).set od y = H.set od y ++ L:=fun x L y => by rw [set_app (gL _),sS]
 have g1:=get_grow ho
 have hg:=okFld_find hl hf
 have c1:=p_Find D.fields hln D.step.field
 have c2:=p_fGet (findF D.fields D.step.field).1 hg D.head hr
 have q0:=q_0 H
 have gB : ∀ y L,(H ++ y :: L)[H.length]? = some y:=fun y L => by simp
 have gB1 : ∀ x y L,(H ++ x :: y :: L)[H.length + 1]? = some y:=fun x y L => by simp
 have gB2 : ∀ x y z L,(H ++ x :: y :: z :: L)[H.length + 2]? = some z:=fun x y z L => by simp
 have gB3 : ∀ x y z a L,(H ++ x :: y :: z :: a :: L)[H.length + 3]? = some a:=fun x y z a L => by simp
 have sB1 : ∀ x y a,(H ++ [x,y]).set (H.length + 1) a = H ++ [x,a]:=fun x y a => by simp
 have sB2 : ∀ x y z a,(H ++ [x,y,z]).set (H.length + 2) a = H ++ [x,y,a]:=fun x y z a => by simp
 refine aC hDbk_k rfl ?_
 simp only [Tryz.f111,go_sem,ho,g1,gB,gB1,gB2,gB3,sB1,sB2,List.length_append,List.length_cons,List.length_nil,Nat.zero_add,Nat.reduceAdd]
 refine pK c1 ?_
 simp only [go_sem,ho,g1,gB,gB1,gB2,gB3,sB1,sB2,List.length_append,List.length_cons,List.length_nil,Nat.zero_add,Nat.reduceAdd]
 refine pK c2 ?_
 simp only [go_sem,ho,g1,gB,gB1,gB2,gB3,sB1,sB2,List.length_append,List.length_cons,List.length_nil,Nat.zero_add,Nat.reduceAdd]
 have k1 : ∀ x ∈ D.st,SCall Tryz.prog 190 ([].map AV.borrow ++ (.agg x.c :: [AV.ptr H.length 0,.ptr (H.length + 2) 0].map AV.borrow)) (H ++ [some [.ptr od 0],some (findF D.fields D.step.field).1.c,some [.int .i64 (getN (findF D.fields D.step.field).1 D.head : Nat)]]) (.bool (isBk D x)):=by
  intro x hx
  refine ACall.drop rfl ?_
  have hc3 : (Entry.c x).length = 4:=rfl
  have hc4 : (Entry.c x)[0]? = some (.str x.var):=rfl
  have hc5 : (Entry.c x)[2]? = some (.int .i64 x.n):=rfl
  refine aC h190_k rfl ?_
  cases hv : decide (x.var = D.step.var) with
  | true =>
   simp only [Tryz.f190,go_sem,ho,g1,gB,gB1,gB2,gB3,hc3,hc4,hc5,List.length_append,List.length_cons,List.length_nil,Nat.zero_add,Nat.reduceAdd,toList_beq,hv]
   exact ⟨by rw [isBk,hv,Bool.true_and],_,rfl⟩
  | false =>
   simp only [Tryz.f190,go_sem,ho,g1,gB,gB1,gB2,gB3,hc3,hc4,hc5,List.length_append,List.length_cons,List.length_nil,Nat.zero_add,Nat.reduceAdd,toList_beq,hv]
   exact ⟨by rw [isBk,hv,Bool.false_and],_,rfl⟩
 refine aS (p_IndexEL D.st (by omega) _ [] _ (isBk D) k1) ?_
 simp only [go_sem]
 rcases idxGo_find (isBk D) D.st 0 with ⟨h3,h4⟩ | ⟨i,y,h3,h4,h5⟩
 ·have e1 : backD D = (D,false):=by unfold backD; rw [h4]
  have e2 : idxI (isBk D) D.st = -1:=h3
  rw [e1,e2]
  simp only [go_sem]
  exact ⟨rfl,o2,_,by rw [set_get ho]⟩
 ·have e1 : backD D = ({ D with head:=bkH D.fields D.head (D.step.key.zip y.key) },true):=by unfold backD; rw [h5]
  have e2 : idxI (isBk D) D.st = (i : Int):=by rw [idxI,h3,Nat.zero_add]
  have hym:=List.mem_of_getElem? h4
  have hyb : isBk D y = true:=List.find?_some h5
  have hyv : y.var = D.step.var:=by unfold isBk at hyb; rw [Bool.and_eq_true,decide_eq_true_eq] at hyb; exact hyb.1
  have hyl:=hkl y hym hyv
  have i0 : ¬ ((i : Int) < 0):=by omega
  have i1 : (0 : Int) <= (i : Int):=by omega
  rw [e1,e2]
  simp only [go_sem,i0,decide_false,g1,gB,gB1,gB2]
  refine awp_lst D.step.key (fun (_ : Head × Heap) (_ : List ByteArray) => ()) (fun k s => s.1 = bkH D.fields D.head ((D.step.key.take k).zip y.key) /\ rightH s.1 = true) (fun k _ => [(1,.ptr H.length 0),(6,.int .i64 (i : Int)),(40,.sl none (lStr D.step.key)),(41,.int .i64 D.step.key.length),(42,.int .i64 k)])
   (fun _ s => H.set od (some (({ D with head:=s.1 } : Doing).cf o0 o1 o2 o3)) ++ some [.ptr od 0] :: s.2) (D.head,[some (findF D.fields D.step.field).1.c,some [.int .i64 (getN (findF D.fields D.step.field).1 D.head : Nat)]]) (by omega) ⟨rfl,hr⟩ rfl (by rw [set_get ho]) ?_ ?_
  ·rintro k ⟨h,L⟩ x xs hd hx ⟨hI,hrh⟩ _ h0 h1 hw
   dsimp only at hI hrh ⊢
   have hkl2 : k < y.key.length:=by omega
   have hyk : y.key[k]? = some y.key[k]:=List.getElem?_eq_getElem hkl2
   have h12 : (k : Int) < (y.key.length : Int):=by omega
   have h22 : (i : Int) < (D.st.length : Int):=by have:=(List.getElem?_eq_some_iff.1 h4).1; omega
   have gM : ∀ x y L,(H.set od x ++ y :: L)[H.length]? = some y:=fun x y L => by
    rw [List.getElem?_append_right (by simp)]; simp
   simp only [go_sem,h0,h1,lStr_get hx,gA,gM,i1,h22,lEntry_get h4,h12,lI64_get hyk]
   have hn0 : 0 <= y.key[k]:=hkp y hym _ (List.getElem_mem hkl2)
   refine ACallK.intro (p_write { D with head:=h } hl hln hrh x y.key[k] hn0 _ od o0 o1 o2 o3 (gA _ _)) fun v H' hq => ?_
   obtain ⟨rfl,ext,rfl⟩:=hq
   have htk : (D.step.key.take (k + 1)).zip y.key = (D.step.key.take k).zip y.key ++ [(x,y.key[k])]:=by
    rw [List.take_add_one,hx]
    have hkk : (D.step.key.take k).length = k:=by rw [List.length_take]; omega
    exact zip_snoc x (by rw [hkk]; exact hyk)
   simp only [go_sem,hw]
   refine ⟨(wrH D.fields h x y.key[k],L ++ ext),⟨?_,wrH_right hl hrh _ hn0⟩,rfl, ?_⟩
   ·show wrH D.fields h x y.key[k] = _
    rw [htk]
    unfold bkH at hI ⊢
    rw [List.foldl_append,<- hI]; rfl
   ·rw [sA]; simp
  ·rintro ⟨h,L⟩ ⟨hI,hrh⟩ _
   dsimp only at hI hrh ⊢
   rw [List.take_length] at hI
   simp only [go_sem,Int.lt_irrefl,decide_false]
   exact ⟨rfl,o2,_,by rw [hI]⟩
omit hl hln hr in
set_option maxHeartbeats 1000000 in
theorem p_tokenS (hm : 1 <= D.step.m /\ D.step.m <= 1073741824) (hn : 0 <= D.step.n /\ D.step.n <= 65536) (ht : 0 <= D.tick /\ D.tick <= 1073741824) (hat : 0 <= D.entry.at_ /\ D.entry.at_ <= 1073741824) : ACall Tryz.prog 112 [.ptr od 0] H (setD od o0 o1 o3 H (tokenD D)):=by
 have hlt:=(List.getElem?_eq_some_iff.1 ho).1
 have gS : ∀ x,(H.set od x)[od]? = some x:=fun x => List.getElem?_set_self hlt
 have gL : ∀ x,od < (H.set od x).length:=fun x => by rw [List.length_set]; exact hlt
 have sS : ∀ x y,(H.set od x).set od y = H.set od y:=fun x y => List.set_set ..
 have gA : ∀ x L,(H.set od x ++ L)[od]? = some x:=fun x L => set_at hlt x L
 have sA : ∀ x L y,(H.set od x ++ L).set od y = H.set od y ++ L:=fun x L y => by rw [set_app (gL _),sS]
 have g1:=get_grow ho
 have gB : ∀ y L,(H ++ y :: L)[H.length]? = some y:=fun y L => by simp
 have q0:=q_0 H
 have s1 : ∀ (L : Heap) y,(H ++ L).set od y = H.set od y ++ L:=fun L y => set_app hlt L
 have gM : ∀ x y L,(H.set od x ++ y :: L)[H.length]? = some y:=fun x y L => by
  rw [List.getElem?_append_right (by simp)]; simp
 have m0 : ¬ D.step.m = 0:=by omega
 refine aC hDtk_k rfl ?_
 cases hi : D.is with
 | true =>
  obtain ⟨f1,f2,f3,f4,f5,f6,f7,f8,f9⟩:=tok_facts (s:=D.step) (e:=D.entry) (tick:=D.tick) hm (by omega) ht hat
  simp only [Tryz.f112,go_sem,ho,g1,gB,q0,hi,Bool.not_true,f1,f2,f3,m0]
  have eT : tok1 D.step D.entry D.is D.tick = D.entry:=by unfold tok1; rw [if_pos hi]
  refine cS ?_ ?_ <;> intro hc
  ·have hc:=of_decide_eq_true hc
   have eE : tok2 D.step (tok1 D.step D.entry D.is D.tick) D.tick = { D.entry with n:=D.step.n,at_:=D.tick }:=by rw [eT]; unfold tok2; rw [if_pos hc]
   simp only [go_sem,ho,g1,gB,q0,s1,gA,sA]
   refine cS ?_ ?_ <;> intro hp
   ·have hp2 : 0 < (({ D.entry with n:=D.step.n,at_:=D.tick } : Entry)).n:=of_decide_eq_true hp
    have hwn : IntKind.i64.wrap (D.step.n - 1) = D.step.n - 1:=w64 (by dsimp only at hp2; omega) (by omega)
    have e3 : tok3 (({ D.entry with n:=D.step.n,at_:=D.tick } : Entry)) = { ({ D.entry with n:=D.step.n,at_:=D.tick } : Entry) with n:=D.step.n - 1 }:=by unfold tok3; rw [if_pos hp2]
    have e4 : tokenD D = ((keepD ({ D with entry:={ ({ D.entry with n:=D.step.n,at_:=D.tick } : Entry) with n:=D.step.n - 1 },is:=D.is } : Doing)).1,(keepD ({ D with entry:={ ({ D.entry with n:=D.step.n,at_:=D.tick } : Entry) with n:=D.step.n - 1 },is:=D.is } : Doing)).2 && true):=by
     unfold tokenD; dsimp only; rw [eE,e3,hp]
    simp only [go_sem,ho,g1,gB,q0,s1,gA,sA,gM,hwn]
    refine ACallK.intro (p_keep ({ D with entry:={ ({ D.entry with n:=D.step.n,at_:=D.tick } : Entry) with n:=D.step.n - 1 },is:=D.is } : Doing) hst hk _ od o0 o1 o2 o3 (gA _ _)) fun v H' hq => ?_
    obtain ⟨rfl,w,ext,rfl⟩:=hq
    rw [e4]
    generalize keepD ({ D with entry:={ ({ D.entry with n:=D.step.n,at_:=D.tick } : Entry) with n:=D.step.n - 1 },is:=D.is } : Doing) = r
    obtain ⟨D2,b⟩:=r
    cases b <;> simp only [go_sem,hp]
    ·exact ⟨rfl,w,[some (D.step.cf none)] ++ ext,by rw [sA,List.append_assoc]⟩
    ·exact ⟨rfl,w,[some (D.step.cf none)] ++ ext,by rw [sA,List.append_assoc]⟩
   ·have hp2 : ¬ 0 < (({ D.entry with n:=D.step.n,at_:=D.tick } : Entry)).n:=of_decide_eq_false hp
    have e3 : tok3 (({ D.entry with n:=D.step.n,at_:=D.tick } : Entry)) = ({ D.entry with n:=D.step.n,at_:=D.tick } : Entry):=by unfold tok3; rw [if_neg hp2]
    have e4 : tokenD D = ((keepD ({ D with entry:=({ D.entry with n:=D.step.n,at_:=D.tick } : Entry),is:=D.is } : Doing)).1,(keepD ({ D with entry:=({ D.entry with n:=D.step.n,at_:=D.tick } : Entry),is:=D.is } : Doing)).2 && false):=by
     unfold tokenD; dsimp only; rw [eE,e3,hp]
    simp only [go_sem,ho,g1,gB,q0,s1,gA,sA,gM]
    refine ACallK.intro (p_keep ({ D with entry:=({ D.entry with n:=D.step.n,at_:=D.tick } : Entry),is:=D.is } : Doing) hst hk _ od o0 o1 o2 o3 (gA _ _)) fun v H' hq => ?_
    obtain ⟨rfl,w,ext,rfl⟩:=hq
    rw [e4]
    generalize keepD ({ D with entry:=({ D.entry with n:=D.step.n,at_:=D.tick } : Entry),is:=D.is } : Doing) = r
    obtain ⟨D2,b⟩:=r
    cases b <;> simp only [go_sem,hp]
    ·exact ⟨rfl,w,[some (D.step.cf none)] ++ ext,by rw [sA,List.append_assoc]⟩
    ·exact ⟨rfl,w,[some (D.step.cf none)] ++ ext,by rw [sA,List.append_assoc]⟩
  ·have hc:=of_decide_eq_false hc
   have eE : tok2 D.step (tok1 D.step D.entry D.is D.tick) D.tick = { D.entry with n:=D.entry.n + tokM D.step D.entry D.tick,at_:=D.entry.at_ + tokM D.step D.entry D.tick * D.step.m }:=by rw [eT]; unfold tok2; rw [if_neg hc]
   rw [awp_regionD _ _ _ (by simp only [go_sem]) rfl rfl]
   simp only [go_sem,ho,g1,gB,q0,s1,gA,sA,gM,f3,f4,f5]
   refine ⟨dyn_of [(some (78,1,false),some (83,1,true))] (by kernel_rfl) ?_, ?_⟩
   ·intro q hq
    rw [List.mem_singleton.1 hq]
    exact ⟨.inr rfl,.inl (by omega)⟩
   simp only [go_sem,ho,g1,gB,q0,s1,gA,sA,gM,f3,f4,f5]
   refine cS ?_ ?_ <;> intro hp
   ·have hp2 : 0 < (({ D.entry with n:=D.entry.n + tokM D.step D.entry D.tick,at_:=D.entry.at_ + tokM D.step D.entry D.tick * D.step.m } : Entry)).n:=of_decide_eq_true hp
    have hwn : IntKind.i64.wrap ((D.entry.n + tokM D.step D.entry D.tick) - 1) = (D.entry.n + tokM D.step D.entry D.tick) - 1:=w64 (by dsimp only at hp2; omega) (by omega)
    have e3 : tok3 (({ D.entry with n:=D.entry.n + tokM D.step D.entry D.tick,at_:=D.entry.at_ + tokM D.step D.entry D.tick * D.step.m } : Entry)) = { ({ D.entry with n:=D.entry.n + tokM D.step D.entry D.tick,at_:=D.entry.at_ + tokM D.step D.entry D.tick * D.step.m } : Entry) with n:=(D.entry.n + tokM D.step D.entry D.tick) - 1 }:=by unfold tok3; rw [if_pos hp2]
    have e4 : tokenD D = ((keepD ({ D with entry:={ ({ D.entry with n:=D.entry.n + tokM D.step D.entry D.tick,at_:=D.entry.at_ + tokM D.step D.entry D.tick * D.step.m } : Entry) with n:=(D.entry.n + tokM D.step D.entry D.tick) - 1 },is:=D.is } : Doing)).1,(keepD ({ D with entry:={ ({ D.entry with n:=D.entry.n + tokM D.step D.entry D.tick,at_:=D.entry.at_ + tokM D.step D.entry D.tick * D.step.m } : Entry) with n:=(D.entry.n + tokM D.step D.entry D.tick) - 1 },is:=D.is } : Doing)).2 && true):=by
     unfold tokenD; dsimp only; rw [eE,e3,hp]
    simp only [go_sem,ho,g1,gB,q0,s1,gA,sA,gM,hwn]
    refine ACallK.intro (p_keep ({ D with entry:={ ({ D.entry with n:=D.entry.n + tokM D.step D.entry D.tick,at_:=D.entry.at_ + tokM D.step D.entry D.tick * D.step.m } : Entry) with n:=(D.entry.n + tokM D.step D.entry D.tick) - 1 },is:=D.is } : Doing) hst hk _ od o0 o1 o2 o3 (gA _ _)) fun v H' hq => ?_
    obtain ⟨rfl,w,ext,rfl⟩:=hq
    rw [e4]
    generalize keepD ({ D with entry:={ ({ D.entry with n:=D.entry.n + tokM D.step D.entry D.tick,at_:=D.entry.at_ + tokM D.step D.entry D.tick * D.step.m } : Entry) with n:=(D.entry.n + tokM D.step D.entry D.tick) - 1 },is:=D.is } : Doing) = r
    obtain ⟨D2,b⟩:=r
    cases b <;> simp only [go_sem,hp]
    ·exact ⟨rfl,w,[some (D.step.cf none)] ++ ext,by rw [sA,List.append_assoc]⟩
    ·exact ⟨rfl,w,[some (D.step.cf none)] ++ ext,by rw [sA,List.append_assoc]⟩
   ·have hp2 : ¬ 0 < (({ D.entry with n:=D.entry.n + tokM D.step D.entry D.tick,at_:=D.entry.at_ + tokM D.step D.entry D.tick * D.step.m } : Entry)).n:=of_decide_eq_false hp
    have e3 : tok3 (({ D.entry with n:=D.entry.n + tokM D.step D.entry D.tick,at_:=D.entry.at_ + tokM D.step D.entry D.tick * D.step.m } : Entry)) = ({ D.entry with n:=D.entry.n + tokM D.step D.entry D.tick,at_:=D.entry.at_ + tokM D.step D.entry D.tick * D.step.m } : Entry):=by unfold tok3; rw [if_neg hp2]
    have e4 : tokenD D = ((keepD ({ D with entry:=({ D.entry with n:=D.entry.n + tokM D.step D.entry D.tick,at_:=D.entry.at_ + tokM D.step D.entry D.tick * D.step.m } : Entry),is:=D.is } : Doing)).1,(keepD ({ D with entry:=({ D.entry with n:=D.entry.n + tokM D.step D.entry D.tick,at_:=D.entry.at_ + tokM D.step D.entry D.tick * D.step.m } : Entry),is:=D.is } : Doing)).2 && false):=by
     unfold tokenD; dsimp only; rw [eE,e3,hp]
    simp only [go_sem,ho,g1,gB,q0,s1,gA,sA,gM]
    refine ACallK.intro (p_keep ({ D with entry:=({ D.entry with n:=D.entry.n + tokM D.step D.entry D.tick,at_:=D.entry.at_ + tokM D.step D.entry D.tick * D.step.m } : Entry),is:=D.is } : Doing) hst hk _ od o0 o1 o2 o3 (gA _ _)) fun v H' hq => ?_
    obtain ⟨rfl,w,ext,rfl⟩:=hq
    rw [e4]
    generalize keepD ({ D with entry:=({ D.entry with n:=D.entry.n + tokM D.step D.entry D.tick,at_:=D.entry.at_ + tokM D.step D.entry D.tick * D.step.m } : Entry),is:=D.is } : Doing) = r
    obtain ⟨D2,b⟩:=r
    cases b <;> simp only [go_sem,hp]
    ·exact ⟨rfl,w,[some (D.step.cf none)] ++ ext,by rw [sA,List.append_assoc]⟩
    ·exact ⟨rfl,w,[some (D.step.cf none)] ++ ext,by rw [sA,List.append_assoc]⟩
 | false =>
  obtain ⟨f1,f2,f3,f4,f5,f6,f7,f8,f9⟩:=tok_facts (s:=D.step) (e:={ D.entry with n:=D.step.n,at_:=D.tick }) (tick:=D.tick) hm (by dsimp only; omega) ht (by dsimp only; omega)
  dsimp only at f1 f2 f3 f4 f5 f6 f7 f8 f9
  have hcc : D.step.n <= D.step.n + tokM D.step { D.entry with n:=D.step.n,at_:=D.tick } D.tick:=Int.le_add_of_nonneg_right f6
  have eE : tok2 D.step (tok1 D.step D.entry D.is D.tick) D.tick = { D.entry with n:=D.step.n,at_:=D.tick }:=by unfold tok1; rw [if_neg (by rw [hi]; decide)]; unfold tok2; rw [if_pos hcc]
  simp only [Tryz.f112,go_sem,ho,g1,gB,q0,hi,Bool.not_false,s1,gA,sA,gM,f1,f2,f3,m0,hcc,decide_true]
  refine cS ?_ ?_ <;> intro hp
  ·have hp2 : 0 < (({ D.entry with n:=D.step.n,at_:=D.tick } : Entry)).n:=of_decide_eq_true hp
   have hwn : IntKind.i64.wrap (D.step.n - 1) = D.step.n - 1:=w64 (by dsimp only at hp2; omega) (by omega)
   have e3 : tok3 (({ D.entry with n:=D.step.n,at_:=D.tick } : Entry)) = { ({ D.entry with n:=D.step.n,at_:=D.tick } : Entry) with n:=D.step.n - 1 }:=by unfold tok3; rw [if_pos hp2]
   have e4 : tokenD D = ((keepD ({ D with entry:={ ({ D.entry with n:=D.step.n,at_:=D.tick } : Entry) with n:=D.step.n - 1 },is:=false } : Doing)).1,(keepD ({ D with entry:={ ({ D.entry with n:=D.step.n,at_:=D.tick } : Entry) with n:=D.step.n - 1 },is:=false } : Doing)).2 && true):=by
    unfold tokenD; dsimp only; rw [eE,e3,hp,hi]
   simp only [go_sem,ho,g1,gB,q0,s1,gA,sA,gM,hwn]
   refine ACallK.intro (p_keep ({ D with entry:={ ({ D.entry with n:=D.step.n,at_:=D.tick } : Entry) with n:=D.step.n - 1 },is:=false } : Doing) hst hk _ od o0 o1 o2 o3 (gA _ _)) fun v H' hq => ?_
   obtain ⟨rfl,w,ext,rfl⟩:=hq
   rw [e4]
   generalize keepD ({ D with entry:={ ({ D.entry with n:=D.step.n,at_:=D.tick } : Entry) with n:=D.step.n - 1 },is:=false } : Doing) = r
   obtain ⟨D2,b⟩:=r
   cases b <;> simp only [go_sem,hp]
   ·exact ⟨rfl,w,[some (D.step.cf none)] ++ ext,by rw [sA,List.append_assoc]⟩
   ·exact ⟨rfl,w,[some (D.step.cf none)] ++ ext,by rw [sA,List.append_assoc]⟩
  ·have hp2 : ¬ 0 < (({ D.entry with n:=D.step.n,at_:=D.tick } : Entry)).n:=of_decide_eq_false hp
   have e3 : tok3 (({ D.entry with n:=D.step.n,at_:=D.tick } : Entry)) = ({ D.entry with n:=D.step.n,at_:=D.tick } : Entry):=by unfold tok3; rw [if_neg hp2]
   have e4 : tokenD D = ((keepD ({ D with entry:=({ D.entry with n:=D.step.n,at_:=D.tick } : Entry),is:=false } : Doing)).1,(keepD ({ D with entry:=({ D.entry with n:=D.step.n,at_:=D.tick } : Entry),is:=false } : Doing)).2 && false):=by
    unfold tokenD; dsimp only; rw [eE,e3,hp,hi]
   simp only [go_sem,ho,g1,gB,q0,s1,gA,sA,gM]
   refine ACallK.intro (p_keep ({ D with entry:=({ D.entry with n:=D.step.n,at_:=D.tick } : Entry),is:=false } : Doing) hst hk _ od o0 o1 o2 o3 (gA _ _)) fun v H' hq => ?_
   obtain ⟨rfl,w,ext,rfl⟩:=hq
   rw [e4]
   generalize keepD ({ D with entry:=({ D.entry with n:=D.step.n,at_:=D.tick } : Entry),is:=false } : Doing) = r
   obtain ⟨D2,b⟩:=r
   cases b <;> simp only [go_sem,hp]
   ·exact ⟨rfl,w,[some (D.step.cf none)] ++ ext,by rw [sA,List.append_assoc]⟩
   ·exact ⟨rfl,w,[some (D.step.cf none)] ++ ext,by rw [sA,List.append_assoc]⟩
end
end Go.AI
namespace Go.AI
open Go.Proofs
set_option maxRecDepth 50000
def keyF (l : List Fld) (names : List ByteArray) (h : Head) : List Int:=names.map fun nm => ((getN (findF l nm).1 h : Nat) : Int)
theorem keyF_len (l : List Fld) (names : List ByteArray) (h : Head) : (keyF l names h).length = names.length:=by simp [keyF]
theorem p_KeyS (l : List Fld) (hl : okFs l) (hln : l.length <= 9223372036854775807) (names : List ByteArray) (hn : names.length <= 1073741824) (hf : ∀ nm ∈ names,(findF l nm).2 = true) (h : Head) (hr : rightH h = true) :
  PCall Tryz.prog 113 [.sl none (lFld l),.sl none (lStr names),.agg h.c] (.tup [.sl none (lI64 (keyF l names h)),.bool true]):=by
 refine pB h113_k rfl ?_ (hv:=by simp only [AV.pure,pureL,lI64_pure,Bool.and_true])
 simp only [Tryz.f113,go_sem]
 have gN : ∀ x (L : Heap) z,(x :: (L ++ [z]))[List.length (x :: L)]? = some z:=fun x L z => by
  have : x :: (L ++ [z]) = (x :: L) ++ [z]:=by simp
  rw [this]; exact List.getElem?_concat_length
 have sN : ∀ x (L : Heap) z z2,(x :: (L ++ [z])).set (List.length (x :: L)) z2 = x :: (L ++ [z2]):=fun x L z z2 => by
  have : x :: (L ++ [z]) = (x :: L) ++ [z]:=by simp
  rw [this]; simp
 refine awp_lst names (fun (_ : Heap) (_ : List ByteArray) => ()) (fun _ _ => True) (fun k _ => [(0,.sl none (lFld l)),(5,.ptr 0 0),(8,.sl (some 1) (lI64 (keyF l (names.take k) h))),(13,.sl none (lStr names)),(14,.int .i64 names.length),(15,.int .i64 k)])
  (fun _ L => some h.c :: L) [] (by omega) trivial rfl rfl ?_ ?_
 ·intro k L x xs hd hx _ _ h0 h1 hw
  have hk2:=drop_len hd
  have hfx:=hf x (List.mem_of_getElem? hx)
  have hg:=okFld_find hl hfx
  have c1:=p_Find l hln x
  rw [hfx] at c1
  have c2:=p_fGet (findF l x).1 hg h hr
  have hlen : (lI64 (keyF l (names.take k) h)).length = k:=by rw [lI64_len,keyF_len,List.length_take]; omega
  have htk : keyF l (names.take (k + 1)) h = keyF l (names.take k) h ++ [((getN (findF l x).1 h : Nat) : Int)]:=by
   rw [List.take_add_one,hx]; simp [keyF]
  simp only [go_sem,h0,h1,lStr_get hx]
  refine pK c1 ?_
  simp only [go_sem,gN,sN]
  refine pK c2 ?_
  simp only [go_sem,hlen,hw]
  exact ⟨by omega,by omega,_,by rw [htk],rfl⟩
 ·intro L _ _
  simp only [go_sem,Int.lt_irrefl,decide_false,List.take_length]
def doD (l : List Fld) (s : Stp) (st : List Entry) (h : Head) (tick : Int) : Doing :=
 ⟨l,s,st,h,tick,(findE st s.var (keyF l s.key h)).getD ⟨s.var,keyF l s.key h,0,0⟩,(findE st s.var (keyF l s.key h)).isSome⟩
def doM (D : Doing) : Doing × Bool :=
 if D.step.kind = 1 then countD D else if D.step.kind = 2 then openD D else if D.step.kind = 3 then checkD D else if D.step.kind = 4 then transD D else if D.step.kind = 5 then backD D else tokenD D
def doS (l : List Fld) (s : Stp) (st : List Entry) (h : Head) (tick : Int) : Head × Bool × List Entry :=
 if s.kind = 0 then (h,true,st) else
  let r:=doM (doD l s st h tick)
  (if r.2 = true then r.1.head else h,r.2,r.1.st)
structure okStp (l : List Fld) (s : Stp) : Prop where
 kind : 0 <= s.kind /\ s.kind <= 6
 klen : s.key.length <= 1048576
 key : s.kind ≠ 0 -> ∀ nm ∈ s.key,(findF l nm).2 = true
 n : s.kind = 4 \/ s.kind = 6 -> 0 <= s.n /\ s.n <= 65535
 m4 : s.kind = 4 -> s.m <= 65535
 m : s.kind = 6 -> 1 <= s.m /\ s.m <= 1073741824
 back : s.kind = 5 -> (findF l s.field).2 = true
def okEnt (e : Entry) : Prop:=(0 <= e.n /\ e.n <= 65535) /\ (0 <= e.at_ /\ e.at_ <= 1073741824) /\ e.key.length <= 1048576 /\ ∀ x ∈ e.key,0 <= x
def okKey (s : Stp) (e : Entry) : Prop:=s.kind ≠ 0 -> e.var = s.var -> e.key.length = s.key.length
def kindFns : List AV:=[.nilf,.fn (.func 107) [] [],.fn (.func 108) [] [],.fn (.func 109) [] [],.fn (.func 110) [] [],.fn (.func 111) [] [],.fn (.func 112) [] []]
structure okDo (D : Doing) : Prop where
 fs : okFs D.fields
 fl : D.fields.length <= 1073741824
 sl : D.st.length <= 1073741823
 st : ∀ e ∈ D.st,okEnt e
 key : ∀ e ∈ D.st,okKey D.step e
 step : okStp D.fields D.step
 head : rightH D.head = true
 tick : 0 <= D.tick /\ D.tick <= 1073741824
 n : 0 <= D.entry.n /\ D.entry.n <= 65535
 at_ : 0 <= D.entry.at_ /\ D.entry.at_ <= 1073741824
theorem p_doM (D : Doing) (hD : okDo D) (h0 : D.step.kind ≠ 0) (H : Heap) (od : Nat) (o0 o1 o2 o3 : Option Nat) (ho : H[od]? = some (some (D.cf o0 o1 o2 o3))) (g : FuncId) (hg : kindFns[D.step.kind.toNat]? = some (.fn (.func g) [] [])) : ACall Tryz.prog g [.ptr od 0] H (setD od o0 o1 o3 H (doM D)):=by
 have hlk : ∀ y ∈ D.st,y.key.length <= 1073741824:=fun y hy => by have:=(hD.st y hy).2.2.1; omega
 have hln : D.fields.length <= 9223372036854775807:=by have:=hD.fl; omega
 have hs:=hD.step
 unfold doM
 have hk : D.step.kind = 1 \/ D.step.kind = 2 \/ D.step.kind = 3 \/ D.step.kind = 4 \/ D.step.kind = 5 \/ D.step.kind = 6:=by have:=hs.kind; omega
 rcases hk with e | e | e | e | e | e <;> rw [e] at hg ⊢ <;> simp only [kindFns,List.getElem?_cons_succ,List.getElem?_cons_zero,Option.some.injEq,AV.fn.injEq,Fn.func.injEq,and_true,show (1 : Int).toNat = 1 from rfl,show (2 : Int).toNat = 2 from rfl,show (3 : Int).toNat = 3 from rfl,show (4 : Int).toNat = 4 from rfl,show (5 : Int).toNat = 5 from rfl,show (6 : Int).toNat = 6 from rfl] at hg <;> subst hg
 ·rw [if_pos rfl]
  exact p_countS D hD.fs hln hD.sl hlk hD.head hD.n H od o0 o1 o2 o3 ho
 ·rw [if_neg (by decide),if_pos rfl]
  exact p_openS D hD.sl hlk H od o0 o1 o2 o3 ho
 ·rw [if_neg (by decide),if_neg (by decide),if_pos rfl]
  exact p_checkS D hD.sl hlk H od o0 o1 o2 o3 ho
 ·rw [if_neg (by decide),if_neg (by decide),if_neg (by decide),if_pos rfl]
  exact p_translateS D hD.fs hln hD.sl hlk hD.head hD.n H od o0 o1 o2 o3 ho (by have:=hs.n (.inl e); omega) fun y hy => (hD.st y hy).1.2
 ·rw [if_neg (by decide),if_neg (by decide),if_neg (by decide),if_neg (by decide),if_pos rfl]
  exact p_backS D hD.fs hln hD.sl hD.head H od o0 o1 o2 o3 ho (hs.back e) (fun y hy hv => by have:=hD.key y hy h0 hv; omega) (fun y hy => (hD.st y hy).2.2.2) hs.klen
 ·rw [if_neg (by decide),if_neg (by decide),if_neg (by decide),if_neg (by decide),if_neg (by decide)]
  exact p_tokenS D hD.sl hlk hD.n H od o0 o1 o2 o3 ho (hs.m e) (by have:=hs.n (.inr e); omega) hD.tick hD.at_
theorem findE_mem {l : List Entry} {v : ByteArray} {key : List Int} {y : Entry} (h : findE l v key = some y) : y ∈ l:=by
 unfold findE at h
 split at h
 ·exact List.mem_of_getElem? h
 ·cases h
theorem doD_ok {l : List Fld} (hl : okFs l) (hln : l.length <= 1073741824) {s : Stp} (hs : okStp l s) {st : List Entry} (hst : st.length <= 1073741823) (he : ∀ e ∈ st,okEnt e) (hk : ∀ e ∈ st,okKey s e) {h : Head} (hr : rightH h = true) {tick : Int} (ht : 0 <= tick /\ tick <= 1073741824) : okDo (doD l s st h tick):=by
 refine ⟨hl,hln,hst,he,hk,hs,hr,ht, ?_, ?_⟩ <;> unfold doD <;> dsimp only <;> cases hf : findE st s.var (keyF l s.key h) with
 | none => simp
 | some y => first | exact (he y (findE_mem hf)).1 | exact (he y (findE_mem hf)).2.1
set_option maxHeartbeats 2000000 in
theorem p_Do (l : List Fld) (hl : okFs l) (hln : l.length <= 1073741824) (s : Stp) (hs : okStp l s) (st : List Entry) (hst : st.length <= 1073741823) (he : ∀ e ∈ st,okEnt e) (hk : ∀ e ∈ st,okKey s e) (h : Head) (hr : rightH h = true) (tick : Int) (ht : 0 <= tick /\ tick <= 1073741824) :
  PCall Tryz.prog 54 [.sl none (lFld l),.agg s.c,.sl none (lEntry st),.agg h.c,.int .i64 tick] (.tup [.agg (doS l s st h tick).1.c,.bool (doS l s st h tick).2.1,.sl none (lEntry (doS l s st h tick).2.2)]):=by
 refine pB h54_k rfl ?_
 by_cases h0 : s.kind = 0
 ·have e1 : doS l s st h tick = (h,true,st):=by unfold doS; rw [if_pos h0]
  rw [e1]
  have h0b : (s.kind == 0) = true:=by rw [h0]; rfl
  simp only [Tryz.f54,go_sem,h0b]
 ·have h0b : (s.kind == 0) = false:=by rw [beq_eq_false_iff_ne]; exact h0
  have c1:=p_KeyS l hl (by omega) s.key (by have:=hs.klen; omega) (hs.key h0) h hr
  have c2:=p_findE st (by omega) (fun y hy => by have:=(he y hy).2.2.1; omega) s.var (keyF l s.key h)
  have hnv : AV.nilf.isVal = true:=rfl
  simp only [Tryz.f54,go_sem,h0b,hnv]
  refine pK c1 ?_
  simp only [go_sem]
  refine pK c2 ?_
  have hi0 : (0 : Int) <= s.kind:=hs.kind.1
  have hi1 : s.kind < ((7 : Nat) : Int):=by have:=hs.kind; omega
  have hD:=doD_ok hl hln hs hst he hk hr ht
  obtain ⟨g,hg⟩ : ∃ g,kindFns[s.kind.toNat]? = some (.fn (.func g) [] []):=by
   have hkc : s.kind = 1 \/ s.kind = 2 \/ s.kind = 3 \/ s.kind = 4 \/ s.kind = 5 \/ s.kind = 6:=by omega
   rcases hkc with e | e | e | e | e | e <;> rw [e] <;> exact ⟨_,rfl⟩
  have hM:=fun H od o0 o1 o2 o3 ho => p_doM (doD l s st h tick) hD h0 H od o0 o1 o2 o3 ho g hg
  unfold kindFns at hg
  have e1 : doS l s st h tick = (if (doM (doD l s st h tick)).2 = true then (doM (doD l s st h tick)).1.head else h,(doM (doD l s st h tick)).2,(doM (doD l s st h tick)).1.st):=by unfold doS; rw [if_neg h0]
  rw [e1]
  cases hfd : findE st s.var (keyF l s.key h) with
  | none =>
   simp only [go_sem,hfd,hi0,hi1,hg]
   refine ACallK.intro (hM _ 4 none none none none (by unfold doD; rw [hfd]; rfl)) fun v H' hq => ?_
   obtain ⟨rfl,w,ext,rfl⟩:=hq
   generalize doM (doD l s st h tick) = r
   obtain ⟨D2,b⟩:=r
   cases b
   ·simp only [go_sem]
    rw [awp_regionD _ _ _ (by simp only [go_sem]) rfl rfl]
    simp only [go_sem]
    refine ⟨dyn_of [(some (74,1,false),some (10,10,true))] (by kernel_rfl) ?_, ?_⟩
    ·intro q hq
     rw [List.mem_singleton.1 hq]
     exact ⟨.inr rfl,.inl (by decide)⟩
    simp only [go_sem]
   ·simp only [go_sem]
    rw [awp_regionD _ _ _ (by simp only [go_sem]) rfl rfl]
    simp only [go_sem]
    refine ⟨dyn_of [(some (82,1,false),some (10,10,true))] (by kernel_rfl) ?_, ?_⟩
    ·intro q hq
     rw [List.mem_singleton.1 hq]
     exact ⟨.inr rfl,.inl (by decide)⟩
    simp only [go_sem]
  | some y =>
   simp only [go_sem,hfd,hi0,hi1,hg]
   refine ACallK.intro (hM _ 4 none none none none (by unfold doD; rw [hfd]; rfl)) fun v H' hq => ?_
   obtain ⟨rfl,w,ext,rfl⟩:=hq
   generalize doM (doD l s st h tick) = r
   obtain ⟨D2,b⟩:=r
   cases b
   ·simp only [go_sem]
    rw [awp_regionD _ _ _ (by simp only [go_sem]) rfl rfl]
    simp only [go_sem]
    refine ⟨dyn_of [(some (74,1,false),some (10,10,true))] (by kernel_rfl) ?_, ?_⟩
    ·intro q hq
     rw [List.mem_singleton.1 hq]
     exact ⟨.inr rfl,.inl (by decide)⟩
    simp only [go_sem]
   ·simp only [go_sem]
    rw [awp_regionD _ _ _ (by simp only [go_sem]) rfl rfl]
    simp only [go_sem]
    refine ⟨dyn_of [(some (82,1,false),some (10,10,true))] (by kernel_rfl) ?_, ?_⟩
    ·intro q hq
     rw [List.mem_singleton.1 hq]
     exact ⟨.inr rfl,.inl (by decide)⟩
    simp only [go_sem]
end Go.AI
namespace Go.AI
open Go.Proofs
set_option maxRecDepth 50000
structure okPrg (l : List Fld) (p : List Stage) : Prop where
 stp : ∀ s ∈ p,okStp l s.step
 pol : ∀ s ∈ p,goodO l s.policy
 key : ∀ s ∈ p,∀ t ∈ p,s.step.kind ≠ 0 -> t.step.kind ≠ 0 -> s.step.var = t.step.var -> s.step.key.length = t.step.key.length
def okSt (p : List Stage) (st : List Entry) : Prop:=∀ e ∈ st,okEnt e /\ ∀ t ∈ p,okKey t.step e
theorem insE_mem {l : List Entry} {i : Nat} {e x : Entry} (h : x ∈ insE l i e) : x = e \/ x ∈ l:=by
 unfold insE at h
 rcases List.mem_append.1 h with h | h
 ·exact .inr (List.mem_of_mem_take h)
 ·rcases List.mem_cons.1 h with h | h
  ·exact .inl h
  ·exact .inr (List.mem_of_mem_drop h)
theorem putE_mem {l : List Entry} {e x : Entry} (h : x ∈ putE l e) : x = e \/ x ∈ l:=by
 unfold putE at h
 split at h
 ·exact (List.mem_or_eq_of_mem_set h).symm
 ·exact insE_mem h
theorem putE_len (l : List Entry) (e : Entry) : (putE l e).length <= l.length + 1:=by
 unfold putE
 split
 ·rw [List.length_set]; omega
 ·rw [insE_len (bsP_le l e)]; omega
def leaves (D : Doing) (r : Doing × Bool) (P : Entry -> Prop) : Prop:=rightH r.1.head = true /\ (r.1.st = D.st \/ ∃ e,P e /\ r.1.st = putE D.st e)
theorem keepD_leaves {D : Doing} (hr : rightH D.head = true) {P : Entry -> Prop} (he : P D.entry) : leaves D (keepD D) P:=by
 unfold keepD
 split
 ·exact ⟨hr,.inl rfl⟩
 ·exact ⟨hr,.inr ⟨_,he,rfl⟩⟩
theorem wrD_leaves {D : Doing} {r : Doing × Bool} {P : Entry -> Prop} (hl : okFs r.1.fields) (hn : 0 <= r.1.entry.n) (h : leaves D r P) : leaves D (wrD r) P:=by
 unfold wrD
 split
 ·exact ⟨wrH_right hl h.1 _ hn,h.2⟩
 ·exact h
theorem bkH_right {l : List Fld} (hl : okFs l) : ∀ (q : List (ByteArray × Int)) {h : Head},rightH h = true -> (∀ x ∈ q,0 <= x.2) -> rightH (bkH l h q) = true
 | [],_,hr,_ => hr
 | x :: q,h,hr,hq => bkH_right hl q (wrH_right hl hr _ (hq x (List.mem_cons_self ..))) fun y hy => hq y (List.mem_cons_of_mem _ hy)
theorem doM_leaves {D : Doing} (hD : okDo D) (h0 : D.step.kind ≠ 0) : leaves D (doM D) fun e => e.var = D.entry.var /\ e.key = D.entry.key /\ (0 <= e.n /\ e.n <= 65535) /\ (0 <= e.at_ /\ e.at_ <= 1073741824):=by
 have hs:=hD.step
 have hn:=hD.n
 have ha:=hD.at_
 have ht:=hD.tick
 have hk : D.step.kind = 1 \/ D.step.kind = 2 \/ D.step.kind = 3 \/ D.step.kind = 4 \/ D.step.kind = 5 \/ D.step.kind = 6:=by have:=hs.kind; omega
 unfold doM
 rcases hk with e | e | e | e | e | e <;> rw [e]
 ·rw [if_pos rfl]
  have k:=keepD_same { D with entry:={ D.entry with n:=minI (D.entry.n + 1) 65535,at_:=D.tick } }
  have hm : 0 <= minI (D.entry.n + 1) 65535 /\ minI (D.entry.n + 1) 65535 <= 65535:=by unfold minI; split <;> omega
  exact wrD_leaves (by rw [k.1]; exact hD.fs) (by rw [k.2.2.2]; exact hm.1) (keepD_leaves (D:={ D with entry:={ D.entry with n:=minI (D.entry.n + 1) 65535,at_:=D.tick } }) hD.head ⟨rfl,rfl,hm,ht⟩)
 ·rw [if_neg (by decide),if_pos rfl]
  exact keepD_leaves (D:={ D with entry:={ D.entry with at_:=D.tick } }) hD.head ⟨rfl,rfl,hn,ht⟩
 ·rw [if_neg (by decide),if_neg (by decide),if_pos rfl]
  exact ⟨hD.head,.inl rfl⟩
 ·rw [if_neg (by decide),if_neg (by decide),if_neg (by decide),if_pos rfl]
  have hn4:=hs.n (.inl e)
  have hm4:=hs.m4 e
  have hU:=freeU_le (usedN D) D.step.n 65535 (fun x hx => by
   obtain ⟨y,hy,rfl⟩:=List.mem_map.1 hx
   exact (hD.st y (List.mem_filter.1 hy).1).1.2) (by omega)
  unfold transD
  split
  ·have k:=keepD_same { D with entry:={ D.entry with at_:=D.tick } }
   exact wrD_leaves (by rw [k.1]; exact hD.fs) (by rw [k.2.2.2]; exact hn.1) (keepD_leaves (D:={ D with entry:={ D.entry with at_:=D.tick } }) hD.head ⟨rfl,rfl,hn,ht⟩)
  ·split
   ·exact ⟨hD.head,.inl rfl⟩
   ·rename_i hlt
    have k:=keepD_same { D with entry:={ D.entry with n:=freeU (usedN D) D.step.n,at_:=D.tick } }
    exact wrD_leaves (by rw [k.1]; exact hD.fs) (by rw [k.2.2.2]; dsimp only; omega) (keepD_leaves (D:={ D with entry:={ D.entry with n:=freeU (usedN D) D.step.n,at_:=D.tick } }) hD.head ⟨rfl,rfl,by dsimp only; omega,ht⟩)
 ·rw [if_neg (by decide),if_neg (by decide),if_neg (by decide),if_neg (by decide),if_pos rfl]
  unfold backD
  split
  ·exact ⟨hD.head,.inl rfl⟩
  ·rename_i y hy
   exact ⟨bkH_right hD.fs _ hD.head fun x hx => (hD.st y (List.mem_of_find?_eq_some hy)).2.2.2 x.2 (List.of_mem_zip hx).2,.inl rfl⟩
 ·rw [if_neg (by decide),if_neg (by decide),if_neg (by decide),if_neg (by decide),if_neg (by decide)]
  have hm6:=hs.m e
  have hn6:=hs.n (.inr e)
  unfold tokenD
  dsimp only
  have ht1 : (0 <= (tok1 D.step D.entry D.is D.tick).n /\ (tok1 D.step D.entry D.is D.tick).n <= 65535) /\ (0 <= (tok1 D.step D.entry D.is D.tick).at_ /\ (tok1 D.step D.entry D.is D.tick).at_ <= 1073741824) /\ (tok1 D.step D.entry D.is D.tick).var = D.entry.var /\ (tok1 D.step D.entry D.is D.tick).key = D.entry.key:=by
   unfold tok1
   split
   ·exact ⟨hn,ha,rfl,rfl⟩
   ·exact ⟨hn6,ht,rfl,rfl⟩
  generalize tok1 D.step D.entry D.is D.tick = e1 at ht1 ⊢
  have ht2 : (0 <= (tok2 D.step e1 D.tick).n /\ (tok2 D.step e1 D.tick).n <= 65535) /\ (0 <= (tok2 D.step e1 D.tick).at_ /\ (tok2 D.step e1 D.tick).at_ <= 1073741824) /\ (tok2 D.step e1 D.tick).var = D.entry.var /\ (tok2 D.step e1 D.tick).key = D.entry.key:=by
   obtain ⟨p1,p2⟩:=tok_pos (s:=D.step) (e:=e1) (tick:=D.tick) hm6.1
   have p3 : e1.at_ + (if 0 < D.tick - e1.at_ then D.tick - e1.at_ else 0) <= 1073741824:=by split <;> omega
   have p4 : 0 <= tokM D.step e1 D.tick * D.step.m:=Int.mul_nonneg p1 (by omega)
   unfold tok2
   split
   ·exact ⟨hn6,ht,ht1.2.2.1,ht1.2.2.2⟩
   ·exact ⟨by dsimp only; omega,by dsimp only; omega,ht1.2.2.1,ht1.2.2.2⟩
  generalize tok2 D.step e1 D.tick = e2 at ht2 ⊢
  refine keepD_leaves (D:={ D with entry:=tok3 e2 }) hD.head ?_
  dsimp only
  unfold tok3
  split
  ·exact ⟨ht2.2.2.1,ht2.2.2.2,by dsimp only; omega,ht2.2.1⟩
  ·exact ⟨ht2.2.2.1,ht2.2.2.2,ht2.1,ht2.2.1⟩
theorem doS_inv {l : List Fld} (hl : okFs l) (hln : l.length <= 1073741824) {p : List Stage} (hp : okPrg l p) {s : Stage} (hs : s ∈ p) {st : List Entry} (hst : st.length <= 1073741823) (he : okSt p st) {h : Head} (hr : rightH h = true) {tick : Int} (ht : 0 <= tick /\ tick <= 1073741824) :
  rightH (doS l s.step st h tick).1 = true /\ okSt p (doS l s.step st h tick).2.2 /\ (doS l s.step st h tick).2.2.length <= st.length + 1:=by
 unfold doS
 split
 ·exact ⟨hr,he,by dsimp only; omega⟩
 ·rename_i h0
  have hD:=doD_ok hl hln (hp.stp s hs) hst (fun e hx => (he e hx).1) (fun e hx => (he e hx).2 s hs) hr ht
  obtain ⟨l1,l2⟩:=doM_leaves hD h0
  have hent : (∀ t ∈ p,okKey t.step (doD l s.step st h tick).entry) /\ (doD l s.step st h tick).entry.key.length <= 1048576 /\ ∀ x ∈ (doD l s.step st h tick).entry.key,0 <= x:=by
   unfold doD
   dsimp only
   cases hf : findE st s.step.var (keyF l s.step.key h) with
   | none =>
    refine ⟨fun t ht h1 h2 => ?_, ?_, ?_⟩
    ·rw [Option.getD_none,keyF_len]
     exact hp.key s hs t ht h0 h1 h2
    ·rw [Option.getD_none,keyF_len]; exact (hp.stp s hs).klen
    ·rw [Option.getD_none]
     intro x hx
     obtain ⟨nm,_,rfl⟩:=List.mem_map.1 hx
     omega
   | some y =>
    have hy:=he y (findE_mem hf)
    exact ⟨hy.2,hy.1.2.2.1,hy.1.2.2.2⟩
  dsimp only
  refine ⟨by split <;> assumption, ?_, ?_⟩
  ·rcases l2 with l2 | ⟨e,⟨v1,v2,v3,v4⟩,l2⟩
   ·rw [l2]; exact he
   ·rw [l2]
    intro x hx
    rcases putE_mem hx with rfl | hx
    ·exact ⟨⟨v3,v4,by rw [v2]; exact hent.2.1,by rw [v2]; exact hent.2.2⟩,fun t ht h1 h2 => by rw [v2]; rw [v1] at h2; exact hent.1 t ht h1 h2⟩
    ·exact he x hx
  ·rcases l2 with l2 | ⟨e,_,l2⟩
   ·rw [l2]; exact Nat.le_succ _
   ·rw [l2]; exact putE_len _ _
end Go.AI
namespace Go.AI
open Go.Proofs
set_option maxRecDepth 50000
def gvG (l : List Fld) (tick : Int) (x : Policy) (given : List Head) : List Head -> Option (List Head)
 | [] => some given
 | g :: r => match vO l tick x g with
  | none => none
  | some some' => if 256 < (given ++ some').length then none else gvG l tick x (given ++ some') r
def doG (l : List Fld) (s : Stp) (tick : Int) (a : List Head × List Entry) : List Head -> List Head × List Entry
 | [] => a
 | g :: r => doG l s tick (if (doS l s a.2 g tick).2.1 = true then a.1 ++ [(doS l s a.2 g tick).1] else a.1,(doS l s a.2 g tick).2.2) r
def runG (l : List Fld) (tick : Int) (a : List Head × List Entry) : List Stage -> Option (List Head × List Entry)
 | [] => some a
 | s :: r => match gvG l tick s.policy [] a.1 with
  | none => none
  | some given => runG l tick (doG l s.step tick ([],a.2) given) r
def runS (l : List Fld) (p : List Stage) (st : List Entry) (h : Head) (tick : Int) : Option (List Head × List Entry):=runG l tick ([h],st) p
def resR (st : List Entry) : Option (List Head × List Entry) -> AV
 | some a => .tup [.sl none (lHead a.1),.sl none (lEntry a.2),.int .i64 0]
 | none => .tup [.sl none [],.sl none (lEntry st),.int .i64 2]
theorem resR_pure (st : List Entry) (o : Option (List Head × List Entry)) : (resR st o).pure = true:=by
 cases o <;> simp [resR,AV.pure,pureL,lHead_pure,lEntry_pure]
set_option maxHeartbeats 4000000 in
theorem p_Run (l : List Fld) (hl : okFs l) (hln : l.length <= 1073741824) (p : List Stage) (hp : okPrg l p) (st : List Entry) (hlen : st.length + p.length * 256 <= 1073741823) (hs : okSt p st) (h : Head) (hr : rightH h = true) (tick : Int) (ht : 0 <= tick /\ tick <= 1073741824) :
  PCall Tryz.prog 28 [.sl none (lFld l),.sl none (lStage p),.sl none (lEntry st),.agg h.c,.int .i64 tick] (resR st (runS l p st h tick)):=by
 refine pB h28_k rfl ?_ (hv:=resR_pure _ _)
 simp only [Tryz.f28,go_sem]
 refine awp_lst p (fun (s : (List Head × List Entry) × Heap) (r : List Stage) => runG l tick s.1 r) (fun k s => okSt p s.1.2 /\ (∀ z ∈ s.1.1,rightH z = true) /\ s.1.2.length <= st.length + k * 256 /\ s.1.1.length <= 256)
  (fun k s => [(0,.sl none (lFld l)),(2,.sl none (lEntry st)),(4,.int .i64 tick),(13,.sl (some 10) (lHead s.1.1)),(14,.sl none (lEntry s.1.2)),(28,.sl none (lStage p)),(29,.int .i64 p.length),(30,.int .i64 k)])
  (fun _ s => s.2) (([h],st),[some h.c]) (by omega) ⟨hs,by simpa using hr,by simp,by simp⟩ ?_ rfl ?_ ?_
 ·rfl
 ·rintro k ⟨⟨pk,now⟩,Y⟩ S Ss hd hx ⟨i1,i2,i3,i4⟩ hF h0 h1 hw
  dsimp only at i1 i2 i3 i4 hF ⊢
  have hSp:=List.mem_of_getElem? hx
  have hkl:=(List.getElem?_eq_some_iff.1 hx).1
  have gS : ∀ y L,(Y ++ y :: L)[Y.length]? = some y:=fun y L => by simp
  have gS0 : ∀ y,(Y ++ [y])[Y.length]? = some y:=fun y => by simp
  have sS0 : ∀ y z,(Y ++ [y]).set Y.length z = Y ++ [z]:=fun y z => by simp
  have gN : ∀ y L z,(Y ++ y :: (L ++ [z]))[List.length (Y ++ y :: L)]? = some z:=fun y L z => by
   have : Y ++ y :: (L ++ [z]) = (Y ++ y :: L) ++ [z]:=by simp
   rw [this]; exact List.getElem?_concat_length
  have sN : ∀ y L z z2,(Y ++ y :: (L ++ [z])).set (List.length (Y ++ y :: L)) z2 = Y ++ y :: (L ++ [z2]):=fun y L z z2 => by
   have : Y ++ y :: (L ++ [z]) = (Y ++ y :: L) ++ [z]:=by simp
   rw [this]; simp
  have b2 : ((2 : Int) != 0) = true:=rfl
  have b0 : ((0 : Int) != 0) = false:=rfl
  simp only [go_sem,h0,h1,lStage_get hx,gS,gS0,sS0]
  refine awp_lst pk (fun (s : List Head × Heap) (r : List Head) => gvG l tick S.policy s.1 r) (fun _ s => (∀ z ∈ s.1,rightH z = true) /\ s.1.length <= 256)
   (fun j s => [(0,.sl none (lFld l)),(2,.sl none (lEntry st)),(4,.int .i64 tick),(14,.sl none (lEntry now)),(16,.ptr Y.length 0),(17,.sl (some 10) (lHead s.1)),(28,.sl none (lStage p)),(29,.int .i64 p.length),(30,.int .i64 k),(34,.sl (some 10) (lHead pk)),(35,.int .i64 pk.length),(36,.int .i64 j)])
   (fun _ s => Y ++ some S.c :: s.2) ([],[]) (by omega) ⟨by simp,by simp⟩ ?_ rfl ?_ ?_
  ·rfl
  ·rintro j ⟨gv,L⟩ g gs hd2 hx2 ⟨j1,j2⟩ hF2 g0 g1 gw
   dsimp only at j1 j2 hF2 ⊢
   have hrg:=i2 g (List.mem_of_getElem? hx2)
   have c1:=p_mEval l hl (by omega) S.policy (hp.pol S hSp) tick g hrg
   have e2:=gvG.eq_2 l tick S.policy gv g gs
   simp only [go_sem,g0,g1,lHead_get hx2,gS,gN,sN]
   cases ev : vO l tick S.policy g with
   | none =>
    rw [ev] at c1 e2
    have hres : runS l p st h tick = none:=by rw [runS,hF,runG,hF2,e2]
    rw [hres]
    refine pK c1 ?_
    simp only [go_sem,b2]
    exact ⟨by omega,by omega,rfl⟩
   | some x =>
    rw [ev] at c1 e2
    have hgx:=vO_good l hl tick S.policy (hp.pol S hSp) g x hrg ev
    have hgl:=hgx.2.1
    refine pK c1 ?_
    simp only [go_sem,b0]
    refine ⟨by omega,by omega, ?_⟩
    by_cases h256 : 256 < (gv ++ x).length
    ·have hres : runS l p st h tick = none:=by rw [runS,hF,runG,hF2,e2]; simp only [if_pos h256]
     have h256b : (256 : Int) < ((gv ++ x).length : Int):=by omega
     rw [hres]
     simp only [go_sem,h256b,decide_true]
     rfl
    ·have h256b : ¬ (256 : Int) < ((gv ++ x).length : Int):=by omega
     simp only [if_neg h256] at e2
     simp only [go_sem,h256b,decide_false,gw]
     refine ⟨(gv ++ x,L ++ [some g.c]),by rw [e2],⟨fun z hz => ?_,by rw [List.length_append] at h256 ⊢; omega⟩, ?_, ?_⟩
     ·rcases List.mem_append.1 hz with hz | hz
      ·exact j1 z hz
      ·exact hgx.2.2 z hz
     ·rfl
     ·rfl
  ·rintro ⟨gv,L⟩ ⟨j1,j2⟩ hF2
   dsimp only at j1 j2 hF2 ⊢
   have hgv : gvG l tick S.policy [] pk = some gv:=hF2
   have hF4 : runG l tick ([h],st) p = runG l tick (doG l S.step tick ([],now) gv) Ss:=by rw [hF,runG,hgv]
   simp only [go_sem,Int.lt_irrefl,decide_false]
   refine awp_lst gv (fun (s : (List Head × List Entry) × Heap) (r : List Head) => doG l S.step tick s.1 r) (fun j s => okSt p s.1.2 /\ (∀ z ∈ s.1.1,rightH z = true) /\ s.1.2.length <= now.length + j /\ s.1.1.length <= j)
    (fun j s => [(0,.sl none (lFld l)),(2,.sl none (lEntry st)),(4,.int .i64 tick),(13,.sl (some 10) (lHead s.1.1)),(14,.sl none (lEntry s.1.2)),(16,.ptr Y.length 0),(28,.sl none (lStage p)),(29,.int .i64 p.length),(30,.int .i64 k),(61,.sl (some 10) (lHead gv)),(62,.int .i64 gv.length),(63,.int .i64 j)])
    (fun _ s => Y ++ some S.c :: s.2) (([],now),L) (by omega) ⟨i1,by simp,by simp,by simp⟩ ?_ rfl ?_ ?_
   ·rfl
   ·rintro j ⟨⟨pk2,now2⟩,L2⟩ g gs hd2 hx2 ⟨q1,q2,q3,q4⟩ hF3 g0 g1 gw
    dsimp only at q1 q2 q3 q4 hF3 ⊢
    have hrg:=j1 g (List.mem_of_getElem? hx2)
    have hjl:=(List.getElem?_eq_some_iff.1 hx2).1
    have c1:=p_Do l hl hln S.step (hp.stp S hSp) now2 (by omega) (fun e he => (q1 e he).1) (fun e he => (q1 e he).2 S hSp) g hrg tick ht
    obtain ⟨d1,d2,d3⟩:=doS_inv hl hln hp hSp (st:=now2) (by omega) q1 hrg ht
    have e2:=doG.eq_2 l S.step tick (pk2,now2) g gs
    dsimp only at e2
    generalize doS l S.step now2 g tick = R at c1 d1 d2 d3 e2
    obtain ⟨g',b,now'⟩:=R
    dsimp only at c1 d1 d2 d3 e2
    simp only [go_sem,g0,g1,lHead_get hx2,gS,gN,sN]
    refine pK c1 ?_
    cases b with
    | true =>
     simp only [go_sem,gS,gN,sN,gw]
     refine ⟨by omega,by omega,((pk2 ++ [g'],now'),L2 ++ [some g'.c]),by rw [e2,if_pos rfl],⟨d2,fun z hz => ?_,by dsimp only; omega,by rw [List.length_append]; exact Nat.succ_le_succ q4⟩,rfl,rfl⟩
     rcases List.mem_append.1 hz with hz | hz
     ·exact q2 z hz
     ·rcases List.mem_singleton.1 hz with rfl; exact d1
    | false =>
     simp only [go_sem,gS,gN,sN,gw]
     exact ⟨((pk2,now'),L2 ++ [some g'.c]),by rw [e2,if_neg (by decide)],⟨d2,q2,by dsimp only; omega,by dsimp only; omega⟩,rfl,rfl⟩
   ·rintro ⟨⟨pk2,now2⟩,L2⟩ ⟨q1,q2,q3,q4⟩ hF3
    dsimp only at q1 q2 q3 q4 hF3 ⊢
    simp only [go_sem,Int.lt_irrefl,decide_false,hw]
    exact ⟨((pk2,now2),_),by rw [<- hF,hF4,hF3]; rfl,⟨q1,q2,by dsimp only; omega,by dsimp only; omega⟩,rfl,rfl⟩
 ·rintro ⟨⟨pk,now⟩,Y⟩ ⟨i1,i2,i3,i4⟩ hF
  dsimp only at i1 i2 i3 i4 hF ⊢
  simp only [go_sem,Int.lt_irrefl,decide_false]
  rw [runS,hF]; rfl
end Go.AI
namespace Go.AI
open Go.Proofs
set_option maxRecDepth 50000
def lItem (l : List Item) : List AV:=l.map fun x => .agg x.c
@[go_sem] theorem lItem_len (l : List Item) : (lItem l).length = l.length:=by simp [lItem]
theorem lItem_get {l : List Item} {i : Nat} {x : Item} (h : l[i]? = some x) : (lItem l)[i]? = some (.agg x.c):=by simp [lItem,h]
@[go_sem] theorem lItem_snoc (a : List Item) (x : Item) : lItem a ++ [.agg x.c] = lItem (a ++ [x]):=by simp [lItem]
def lDelivery (l : List Delivery) : List AV:=l.map fun x => .agg x.c
@[go_sem] theorem lDelivery_len (l : List Delivery) : (lDelivery l).length = l.length:=by simp [lDelivery]
theorem lDelivery_get {l : List Delivery} {i : Nat} {x : Delivery} (h : l[i]? = some x) : (lDelivery l)[i]? = some (.agg x.c):=by simp [lDelivery,h]
@[go_sem] theorem lDelivery_snoc (a : List Delivery) (x : Delivery) : lDelivery a ++ [.agg x.c] = lDelivery (a ++ [x]):=by simp [lDelivery]
@[go_sem] theorem lDelivery_pure (l : List Delivery) : pureL (lDelivery l) = true:=by
 induction l with
 | nil => rfl
 | cons x xs ih => simpa [lDelivery,pureL,AV.pure] using ⟨Delivery.c_pure x,ih⟩
def lSts (l : List (List Entry)) : List AV:=l.map fun x => .sl none (lEntry x)
@[go_sem] theorem lSts_len (l : List (List Entry)) : (lSts l).length = l.length:=by simp [lSts]
theorem lSts_get {l : List (List Entry)} {i : Nat} {x : List Entry} (h : l[i]? = some x) : (lSts l)[i]? = some (.sl none (lEntry x)):=by simp [lSts,h]
@[go_sem] theorem lSts_cells' (l : List (List Entry)) : (∀ x ∈ lSts l,x.cells.length = 1) = True:=eq_true fun x hx => by
 obtain ⟨y,_,rfl⟩:=List.mem_map.1 hx; rfl
@[go_sem] theorem lSts_pure (l : List (List Entry)) : pureL (lSts l) = true:=by
 induction l with
 | nil => rfl
 | cons x xs ih => simpa [lSts,pureL,AV.pure] using ⟨lEntry_pure x,ih⟩
theorem lSts_cat (l : List (List Entry)) : (cat (lSts l)).map borrow1 = lSts l:=by
 induction l with
 | nil => rfl
 | cons x l ih =>
  have : cat (lSts (x :: l)) = .sl none (lEntry x) :: cat (lSts l):=rfl
  rw [this,List.map_cons,ih]; rfl
def hClS : Hint:={ h26 with mt:=[5,7],tk:=[] }
@[go_sem] theorem hClS_lv (k : Nat) : hClS.lv k = h26.lv k:=Eq.trans rfl rfl
@[go_sem] theorem hClS_ct (k : Nat) : hClS.ct k = h26.ct k:=Eq.trans rfl rfl
@[go_sem] theorem hClS_at (k : Nat) : hClS.at k = h26.at k:=Eq.trans rfl rfl
@[go_sem] theorem hClS_dn (k : Nat) : hClS.dn k = h26.dn k:=Eq.trans rfl rfl
@[go_sem] theorem hClS_t : hClS.tk = [] /\ hClS.mt = [5,7] /\ hClS.pc = []:=⟨rfl,rfl,rfl⟩
theorem hClS_k : FK Tryz.prog 26 Tryz.f26 hClS:=⟨by kernel_rfl,by kernel_rfl,Tryz.func26,by kernel_rfl⟩
theorem p_CloneS (l : List (List Entry)) (hl : l.length <= 1073741824) (H : Heap) : ACall Tryz.prog 26 [.sl none (lSts l)] H fun v H' => (l = [] /\ v = .sl (some 1) [] /\ H' = H) \/ (v = .msl (H.length + 1) 0 l.length 1 /\ H' = H ++ [none,some (lSts l)]):=by
 have el : (lSts l).length = l.length:=lSts_len l
 have g1 : ∀ (x : Option (List AV)),(H ++ [x])[H.length]? = some x:=fun x => by simp
 have g2 : ∀ (x y : Option (List AV)),(H ++ [x]).set H.length y = H ++ [y]:=fun x y => by simp
 refine aC hClS_k rfl ?_
 cases l with
 | nil =>
  have e0 : lSts [] = []:=rfl
  rw [e0]
  simp only [Tryz.f26,go_sem,g1,g2]
  simp
 | cons x l =>
  have hcs : lSts (x :: l) = .sl none (lEntry x) :: lSts l:=rfl
  have hcat:=lSts_cat (x :: l)
  rw [hcs] at hcat el ⊢
  simp only [List.length_cons] at hl
  simp only [Tryz.f26,go_sem,g1,g2]
  exact ⟨by omega,by omega,.inr ⟨by simp,by rw [hcat]⟩⟩
theorem p_put1 (q : List Item) (hq : q.length <= 1048576) (x : Item) (w : Option Nat) (H : Heap) (o : Nat) (ho : H[o]? = some (some [.sl (some 12) (lItem q)])) :
  ACall Tryz.prog 24 [.agg (x.cf w),.ptr o 0] H fun v H' => v = .tup [] /\ ∃ ext,H' = H.set o (some [.sl (some 12) (lItem (q ++ [x]))]) ++ ext:=by
 have hlt:=(List.getElem?_eq_some_iff.1 ho).1
 have g1:=get_grow ho
 have gB : ∀ y L,(H ++ y :: L)[H.length]? = some y:=fun y L => by simp
 have s1 : ∀ (L : Heap) y,(H ++ L).set o y = H.set o y ++ L:=fun L y => set_app hlt L
 have gS : ∀ x L,(H.set o x ++ L)[o]? = some x:=fun x L => set_at hlt x L
 have gM : ∀ x y L,(H.set o x ++ y :: L)[H.length]? = some y:=fun x y L => by
  rw [List.getElem?_append_right (by simp)]; simp
 have sA : ∀ x L y,(H.set o x ++ L).set o y = H.set o y ++ L:=fun x L y => by rw [set_app (by rw [List.length_set]; exact hlt),List.set_set]
 refine aC h24_k rfl ?_
 cases w <;> simp only [Tryz.f24,go_sem,ho,g1,gB,s1,gS,sA,gM]
 ·exact ⟨by omega,by omega⟩
 ·exact ⟨by omega,by omega⟩
end Go.AI
namespace Go.AI
open Go.Proofs
set_option maxRecDepth 50000
theorem gvG_inv {l : List Fld} (hl : okFs l) {tick : Int} {x : Policy} (hx : goodO l x) : ∀ (pk : List Head) {gv r : List Head},(∀ z ∈ pk,rightH z = true) -> (∀ z ∈ gv,rightH z = true) -> gv.length <= 256 -> gvG l tick x gv pk = some r -> (∀ z ∈ r,rightH z = true) /\ r.length <= 256
 | [],gv,r,_,hg,hn,e => by
  rw [gvG] at e
  cases e
  exact ⟨hg,hn⟩
 | g :: pk,gv,r,hp,hg,hn,e => by
  rw [gvG] at e
  have hrg:=hp g (List.mem_cons_self ..)
  cases ev : vO l tick x g with
  | none => rw [ev] at e; cases e
  | some y =>
   rw [ev] at e
   have hy:=vO_good l hl tick x hx g y hrg ev
   by_cases h256 : 256 < (gv ++ y).length
   ·simp only [if_pos h256] at e
    cases e
   ·simp only [if_neg h256] at e
    refine gvG_inv hl hx pk (fun z hz => hp z (List.mem_cons_of_mem _ hz)) (fun z hz => ?_) (by omega) e
    rcases List.mem_append.1 hz with hz | hz
    ·exact hg z hz
    ·exact hy.2.2 z hz
theorem doG_inv {l : List Fld} (hl : okFs l) (hln : l.length <= 1073741824) {p : List Stage} (hp : okPrg l p) {s : Stage} (hs : s ∈ p) {tick : Int} (ht : 0 <= tick /\ tick <= 1073741824) : ∀ (gv : List Head) {pk : List Head} {st : List Entry},(∀ z ∈ gv,rightH z = true) -> (∀ z ∈ pk,rightH z = true) -> okSt p st -> st.length + gv.length <= 1073741823 ->
  (∀ z ∈ (doG l s.step tick (pk,st) gv).1,rightH z = true) /\ okSt p (doG l s.step tick (pk,st) gv).2 /\ (doG l s.step tick (pk,st) gv).1.length <= pk.length + gv.length /\ (doG l s.step tick (pk,st) gv).2.length <= st.length + gv.length
 | [],pk,st,_,hpk,hst,_ => ⟨hpk,hst,Nat.le_refl _,Nat.le_refl _⟩
 | g :: gv,pk,st,hg,hpk,hst,hln2 => by
  rw [List.length_cons] at hln2
  have hrg:=hg g (List.mem_cons_self ..)
  obtain ⟨d1,d2,d3⟩:=doS_inv hl hln hp hs (st:=st) (by omega) hst hrg ht
  rw [doG]
  dsimp only
  generalize doS l s.step st g tick = R at d1 d2 d3
  obtain ⟨g',b,now'⟩:=R
  dsimp only at d1 d2 d3 ⊢
  have ih:=fun pk2 hpk2 => doG_inv hl hln hp hs ht gv (pk:=pk2) (st:=now') (fun z hz => hg z (List.mem_cons_of_mem _ hz)) hpk2 d2 (by omega)
  rw [List.length_cons]
  cases b with
  | true =>
   rw [if_pos rfl]
   obtain ⟨i1,i2,i3,i4⟩:=ih (pk ++ [g']) (fun z hz => by
    rcases List.mem_append.1 hz with hz | hz
    ·exact hpk z hz
    ·rcases List.mem_singleton.1 hz with rfl; exact d1)
   rw [List.length_append,List.length_singleton] at i3
   exact ⟨i1,i2,by omega,by omega⟩
  | false =>
   rw [if_neg (by decide)]
   obtain ⟨i1,i2,i3,i4⟩:=ih pk hpk
   exact ⟨i1,i2,by omega,by omega⟩
theorem runG_inv {l : List Fld} (hl : okFs l) (hln : l.length <= 1073741824) {p : List Stage} (hp : okPrg l p) {tick : Int} (ht : 0 <= tick /\ tick <= 1073741824) : ∀ (r : List Stage) {a b : List Head × List Entry},(∀ s ∈ r,s ∈ p) -> (∀ z ∈ a.1,rightH z = true) -> a.1.length <= 256 -> okSt p a.2 -> a.2.length + r.length * 256 <= 1073741823 -> runG l tick a r = some b ->
  (∀ z ∈ b.1,rightH z = true) /\ b.1.length <= 256 /\ okSt p b.2 /\ b.2.length <= a.2.length + r.length * 256
 | [],a,b,_,h1,h2,h3,_,e => by
  rw [runG] at e
  cases e
  exact ⟨h1,h2,h3,by omega⟩
 | s :: r,a,b,hr,h1,h2,h3,h4,e => by
  rw [List.length_cons] at h4
  rw [runG] at e
  have hs:=hr s (List.mem_cons_self ..)
  cases eg : gvG l tick s.policy [] a.1 with
  | none => rw [eg] at e; cases e
  | some gv =>
   rw [eg] at e
   dsimp only at e
   obtain ⟨g1,g2⟩:=gvG_inv hl (hp.pol s hs) a.1 h1 (by simp) (by simp) eg
   obtain ⟨d1,d2,d3,d4⟩:=doG_inv hl hln hp hs ht gv (pk:=[]) (st:=a.2) g1 (by simp) h3 (by omega)
   rw [List.length_nil] at d3
   obtain ⟨r1,r2,r3,r4⟩:=runG_inv hl hln hp ht r (fun z hz => hr z (List.mem_cons_of_mem _ hz)) d1 (by omega) d2 (by omega) e
   rw [List.length_cons]
   exact ⟨r1,r2,r3,by omega⟩
theorem runS_inv {l : List Fld} (hl : okFs l) (hln : l.length <= 1073741824) {p : List Stage} (hp : okPrg l p) {tick : Int} (ht : 0 <= tick /\ tick <= 1073741824) {st : List Entry} (hst : okSt p st) (hlen : st.length + p.length * 256 <= 1073741823) {h : Head} (hr : rightH h = true) {b : List Head × List Entry} (e : runS l p st h tick = some b) :
  (∀ z ∈ b.1,rightH z = true) /\ b.1.length <= 256 /\ okSt p b.2 /\ b.2.length <= st.length + p.length * 256 :=
 runG_inv hl hln hp ht p (a:=([h],st)) (fun _ h => h) (by simpa using hr) (by simp) hst hlen e
def exT (t : Tenant) (p : Head) : Head × Bool:=exitH (edgeOf t p.h0) p
def enT (t : Tenant) (h : Head) : Head × Bool:=enterH (portOf2 t (i64 (h.h0 - 10000))) h
def takC (s : Setup) (t : Tenant) (p : Head) (tick : Int) : Int:=idxI (takB s t.name p tick) s.contracts
def pk1 (s : Setup) (x : Item) (t : Tenant) (tick : Int) (a : List Item × List Delivery) (p : Head) : List Item × List Delivery :=
 if (exT t p).2 = false then a
 else if takC s t p tick < 0 then (a.1,a.2 ++ [⟨x.tenant,(exT t p).1,x.chain⟩])
 else match s.contracts[(takC s t p tick).toNat]? with
  | none => a
  | some d => (a.1 ++ [⟨tenI s d.dst,{ p with h0:=d.toPort },x.chain ++ [takC s t p tick]⟩],a.2)
def pkG (s : Setup) (x : Item) (t : Tenant) (tick : Int) (a : List Item × List Delivery) : List Head -> List Item × List Delivery
 | [] => a
 | p :: r => pkG s x t tick (pk1 s x t tick a p) r
def entG (h : Head) : Nat -> List Tenant -> List Item
 | _,[] => []
 | k,t :: r => if (enT t h).2 = true then ⟨(k : Nat),(enT t h).1,[]⟩ :: entG h (k + 1) r else entG h (k + 1) r
def cGo (s : Setup) (tick : Int) : Nat -> Nat -> List Item -> List (List Entry) -> List Delivery -> Option (List Delivery × List (List Entry))
 | 0,_,_,_,_ => none
 | f + 1,n,q,now,out => match q[n]? with
  | none => some (out,now)
  | some x => match s.tenants[x.tenant.toNat]?,now[x.tenant.toNat]? with
   | some t,some st => match runS s.fields (bWhole t).1 st x.head tick with
    | none => none
    | some b => if 256 < (pkG s x t tick (q,out) b.1).1.length then none else cGo s tick f (n + 1) (pkG s x t tick (q,out) b.1).1 (now.set x.tenant.toNat b.2) (pkG s x t tick (q,out) b.1).2
   | _,_ => none
def cRun (s : Setup) (sts : List (List Entry)) (h : Head) (tick : Int) : Option (List Delivery × List (List Entry)):=cGo s tick 600 0 (entG h 0 s.tenants) sts []
def resCR (sts : List (List Entry)) : Option (List Delivery × List (List Entry)) -> AV
 | some a => .tup [.sl none (lDelivery a.1),.sl none (lSts a.2),.int .i64 0]
 | none => .tup [.sl none [],.sl none (lSts sts),.int .i64 2]
theorem resCR_pure (sts : List (List Entry)) (o : Option (List Delivery × List (List Entry))) : (resCR sts o).pure = true:=by
 cases o <;> simp [resCR,AV.pure,pureL,lDelivery_pure,lSts_pure]
structure okRun (s : Setup) (sts : List (List Entry)) (h : Head) (tick : Int) : Prop where
 bulk : bulkL s.c <= 1048576
 fld : okFs s.fields
 ten : s.tenants.length <= 256
 tick : 0 <= tick /\ tick <= 1073741824
 len : sts.length = s.tenants.length
 prg : ∀ (k : Nat) (t : Tenant),s.tenants[k]? = some t -> okPrg s.fields (bWhole t).1 /\ (bWhole t).1.length <= 1000
 whole : ∀ t ∈ s.tenants,PCall Tryz.prog 27 [.agg t.c] (.tup [.sl none (lStage (bWhole t).1),.int .i64 (bWhole t).2])
 st : ∀ (k : Nat) (t : Tenant) (st : List Entry),s.tenants[k]? = some t -> sts[k]? = some st -> okSt (bWhole t).1 st /\ st.length <= 268435456
 pred : ∀ c ∈ s.contracts,goodP s.fields c.pred
 to : ∀ c ∈ s.contracts,0 <= tenI s c.dst /\ tenI s c.dst < (s.tenants.length : Int)
 port : ∀ c ∈ s.contracts,0 <= c.toPort /\ c.toPort <= 65535
 prt : ∀ t ∈ s.tenants,t.ports.length <= 1073741824
 ent : ∀ t ∈ s.tenants,(enT t h).2 = true -> rightH (enT t h).1 = true
end Go.AI
namespace Go.AI
open Go.Proofs
set_option maxRecDepth 50000
def hRn : Hint:={ h6 with pc:=[46,76,91,112,122,131,143,158],fz:=[(36,[(9,none,false)])] }
@[go_sem] theorem hRn_lv (k : Nat) : hRn.lv k = h6.lv k:=Eq.trans rfl rfl
@[go_sem] theorem hRn_ct (k : Nat) : hRn.ct k = h6.ct k:=Eq.trans rfl rfl
@[go_sem] theorem hRn_dn (k : Nat) : hRn.dn k = h6.dn k:=Eq.trans rfl rfl
@[go_sem] theorem hRn_at : hRn.at 0 = [] /\ hRn.at 1 = [] /\ hRn.at 2 = [] /\ hRn.at 3 = [] /\ hRn.at 4 = [] /\ hRn.at 5 = [] /\ hRn.at 6 = [] /\ hRn.at 7 = [] /\ hRn.at 8 = [] /\ hRn.at 9 = [] /\ hRn.at 10 = [] /\ hRn.at 11 = [] /\ hRn.at 12 = [] /\ hRn.at 13 = [] /\ hRn.at 14 = [] /\ hRn.at 15 = [] /\ hRn.at 16 = [] /\ hRn.at 17 = [] /\ hRn.at 18 = [] /\ hRn.at 19 = [] /\ hRn.at 20 = [] /\ hRn.at 21 = [] /\ hRn.at 22 = [] /\ hRn.at 23 = [] /\ hRn.at 24 = [] /\ hRn.at 25 = [] /\ hRn.at 26 = [] /\ hRn.at 27 = [] /\ hRn.at 28 = [] /\ hRn.at 29 = [] /\ hRn.at 30 = [] /\ hRn.at 31 = [] /\ hRn.at 32 = [] /\ hRn.at 33 = [] /\ hRn.at 34 = [] /\ hRn.at 35 = [] /\ hRn.at 36 = [(9,none,false)]:=⟨rfl,rfl,rfl,rfl,rfl,rfl,rfl,rfl,rfl,rfl,rfl,rfl,rfl,rfl,rfl,rfl,rfl,rfl,rfl,rfl,rfl,rfl,rfl,rfl,rfl,rfl,rfl,rfl,rfl,rfl,rfl,rfl,rfl,rfl,rfl,rfl,rfl⟩
@[go_sem] theorem hRn_t : hRn.tk = [82,97,101,103,125,168,169,170] /\ hRn.mt = [] /\ hRn.pc = [46,76,91,112,122,131,143,158]:=⟨rfl,rfl,rfl⟩
theorem hRn_k : FK Tryz.prog 6 Tryz.f6 hRn:=⟨by kernel_rfl,by kernel_rfl,Tryz.func6,by kernel_rfl⟩
theorem lSts_b (l : List (List Entry)) : (lSts l).map borrow1 = lSts l:=by
 induction l with
 | nil => rfl
 | cons x l ih =>
  have : lSts (x :: l) = .sl none (lEntry x) :: lSts l:=rfl
  rw [this,List.map_cons,ih]; rfl
theorem lSts_chunk (l : List (List Entry)) : chunk false 1 l.length (lSts l) = lSts l:=by
 have:=chunk_ones (lSts l)
 rwa [lSts_len] at this
structure okC6 (s : Setup) (sts : List (List Entry)) (h : Head) (tick : Int) (pn f n : Nat) (q : List Item) (now : List (List Entry)) (out : List Delivery) (X : Heap) : Prop where
 c0 : X[0]? = some (some s.c)
 c2 : X[2]? = some (some [.sl (some 12) (lItem q)])
 cn : X[pn]? = some (some (lSts now))
 fuel : n + f = 600
 res : cRun s sts h tick = cGo s tick f n q now out
 ql : q.length <= 256 /\ n <= q.length /\ out.length <= n * 256
 itm : ∀ (i : Nat) (x : Item),q[i]? = some x -> rightH x.head = true /\ (0 <= x.tenant /\ x.tenant < (s.tenants.length : Int)) /\ x.chain.length <= i
 nl : now.length = s.tenants.length
 st : ∀ (k : Nat) (t : Tenant) (st : List Entry),s.tenants[k]? = some t -> now[k]? = some st -> okSt (bWhole t).1 st /\ st.length <= 268435456 + n * 256000
structure okP6 (s : Setup) (x : Item) (t : Tenant) (n pn ox : Nat) (now : List (List Entry)) (q : List Item) (out : List Delivery) (Z : Heap) (j : Nat) : Prop where
 c0 : Z[0]? = some (some s.c)
 c2 : Z[2]? = some (some [.sl (some 12) (lItem q)])
 cn : Z[pn]? = some (some (lSts now))
 cx : Z[ox]? = some (some x.c)
 ct : Z[ox + 1]? = some (some t.c)
 len : ox + 2 <= Z.length
 itm : ∀ (i : Nat) (y : Item),q[i]? = some y -> rightH y.head = true /\ (0 <= y.tenant /\ y.tenant < (s.tenants.length : Int)) /\ y.chain.length <= i
 ql : n < q.length /\ q.length <= 256 + j
 ol : out.length <= n * 256 + j
theorem okP6.grow {s : Setup} {x : Item} {t : Tenant} {n pn ox : Nat} {now : List (List Entry)} {q : List Item} {out : List Delivery} {Z : Heap} {j : Nat} (h : okP6 s x t n pn ox now q out Z j) (L : Heap) : okP6 s x t n pn ox now q out (Z ++ L) (j + 1) :=
 ⟨get_grow h.c0 _,get_grow h.c2 _,get_grow h.cn _,get_grow h.cx _,get_grow h.ct _,by rw [List.length_append]; have:=h.len; omega,h.itm,⟨h.ql.1,by have:=h.ql.2; omega⟩,by have:=h.ol; omega⟩
theorem okP6.out {s : Setup} {x : Item} {t : Tenant} {n pn ox : Nat} {now : List (List Entry)} {q : List Item} {out : List Delivery} {Z : Heap} {j : Nat} (h : okP6 s x t n pn ox now q out Z j) (L : Heap) (d : Delivery) : okP6 s x t n pn ox now q (out ++ [d]) (Z ++ L) (j + 1) :=
 ⟨get_grow h.c0 _,get_grow h.c2 _,get_grow h.cn _,get_grow h.cx _,get_grow h.ct _,by rw [List.length_append]; have:=h.len; omega,h.itm,⟨h.ql.1,by have:=h.ql.2; omega⟩,by rw [List.length_append,List.length_singleton]; have:=h.ol; omega⟩
theorem okP6.put {s : Setup} {x : Item} {t : Tenant} {n pn ox : Nat} {now : List (List Entry)} {q : List Item} {out : List Delivery} {Z : Heap} {j : Nat} (h : okP6 s x t n pn ox now q out Z j) (L M : Heap) (d : Item) (hp : 2 < pn) (hox : 2 < ox) (hd : rightH d.head = true /\ (0 <= d.tenant /\ d.tenant < (s.tenants.length : Int)) /\ d.chain.length <= n + 1) :
  okP6 s x t n pn ox now (q ++ [d]) out ((Z ++ L).set 2 (some [.sl (some 12) (lItem (q ++ [d]))]) ++ M) (j + 1):=by
 have h2:=(List.getElem?_eq_some_iff.1 h.c2).1
 have hs : ∀ (i : Nat) (v : Option (List AV)),i ≠ 2 -> Z[i]? = some v -> ((Z ++ L).set 2 (some [.sl (some 12) (lItem (q ++ [d]))]) ++ M)[i]? = some v:=fun i v hi hv => get_grow (by rw [List.getElem?_set_ne (Ne.symm hi)]; exact get_grow hv _) _
 refine ⟨hs 0 _ (by omega) h.c0,get_grow (List.getElem?_set_self (by rw [List.length_append]; omega)) _,hs pn _ (by omega) h.cn,hs ox _ (by omega) h.cx,hs (ox + 1) _ (by omega) h.ct,by rw [List.length_append,List.length_set,List.length_append]; have:=h.len; omega,fun i y hy => ?_,⟨by rw [List.length_append]; have:=h.ql.1; omega,by rw [List.length_append,List.length_singleton]; have:=h.ql.2; omega⟩,by have:=h.ol; omega⟩
 rw [List.getElem?_append] at hy
 split at hy
 ·exact h.itm i y hy
 ·rename_i hi
  have hql:=h.ql.1
  have : i = q.length:=by
   by_cases he : i - q.length = 0
   ·omega
   ·rw [List.getElem?_eq_none (by rw [List.length_singleton]; omega)] at hy
    cases hy
  subst this
  rw [Nat.sub_self] at hy
  cases hy
  exact ⟨hd.1,hd.2.1,by have:=hd.2.2; omega⟩
theorem lSts_set (l : List (List Entry)) (i : Nat) (e : List Entry) (h : i < l.length) : splice (lSts l) i [.sl none (lEntry e)] = lSts (l.set i e):=by
 unfold splice
 rw [List.set_eq_take_append_cons_drop,if_pos h]
 simp [lSts]
set_option maxHeartbeats 4000000 in
theorem p_cRun (s : Setup) (sts : List (List Entry)) (h : Head) (tick : Int) (hr : rightH h = true) (R : okRun s sts h tick) : PCall Tryz.prog 6 [.agg s.c,.sl none (lSts sts),.agg h.c,.int .i64 tick] (resCR sts (cRun s sts h tick)):=by
 have hnt:=R.ten
 refine pB hRn_k rfl ?_ (hv:=resCR_pure _ _)
 simp only [Tryz.f6,go_sem]
 refine awp_lst s.tenants (fun (_ : List Item × Heap) (_ : List Tenant) => ()) (fun k a => a.1 ++ entG h k (s.tenants.drop k) = entG h 0 s.tenants /\ a.1.length <= k /\ ∀ x ∈ a.1,x.chain = [] /\ rightH x.head = true /\ 0 <= x.tenant /\ x.tenant < (s.tenants.length : Int))
  (fun k _ => [(1,.sl none (lSts sts)),(3,.int .i64 tick),(4,.ptr 0 0),(6,.ptr 1 0),(11,.ptr 2 0),(12,.fn (.func 24) [] [.ptr 2 0]),(36,.sl none (lTenant s.tenants)),(37,.int .i64 s.tenants.length),(38,.int .i64 k)])
  (fun _ a => some s.c :: some h.c :: some [.sl (some 12) (lItem a.1)] :: a.2) ([],[]) (by omega) ⟨rfl,by simp,by simp⟩ rfl rfl ?_ ?_
 ·rintro k ⟨q,J⟩ t ts hd hx ⟨i1,i2,i3⟩ _ h0 h1 hw
  dsimp only at i1 i2 i3 ⊢
  have htm:=List.mem_of_getElem? hx
  have hkl:=(List.getElem?_eq_some_iff.1 hx).1
  have c1:=c_Enter t (R.prt t htm) h
  have ht:=R.ent t htm
  rw [hd,entG] at i1
  have hd2 : s.tenants.drop (k + 1) = ts:=by rw [<- List.drop_drop,hd]; rfl
  have eT : enterH (portOf2 t (i64 (h.h0 - 10000))) h = enT t h:=rfl
  rw [eT] at c1
  have gN : ∀ a b c (L : Heap) z,(a :: b :: c :: (L ++ [z]))[List.length (a :: b :: c :: L)]? = some z:=fun a b c L z => by
   have : a :: b :: c :: (L ++ [z]) = (a :: b :: c :: L) ++ [z]:=by simp
   rw [this]; exact List.getElem?_concat_length
  have sN : ∀ a b c (L : Heap) z z2,(a :: b :: c :: (L ++ [z])).set (List.length (a :: b :: c :: L)) z2 = a :: b :: c :: (L ++ [z2]):=fun a b c L z z2 => by
   have : a :: b :: c :: (L ++ [z]) = (a :: b :: c :: L) ++ [z]:=by simp
   rw [this]; simp
  simp only [go_sem,h0,h1,lTenant_get hx,gN,sN]
  refine pK c1 ?_
  cases he : (enT t h).2 with
  | false =>
   rw [he,if_neg (by decide)] at i1
   simp only [go_sem,gN,sN,he,hw]
   exact ⟨(q,_),⟨by rw [hd2]; exact i1,by dsimp only; omega,i3⟩,rfl,rfl⟩
  | true =>
   rw [he,if_pos rfl] at i1
   simp only [go_sem,gN,sN,he,hw]
   refine ACallK.intro (p_put1 q (by omega) ⟨(k : Nat),(enT t h).1,[]⟩ (some 1) _ 2 rfl) fun v H' hq => ?_
   obtain ⟨rfl,ext,rfl⟩:=hq
   simp only [go_sem,hw]
   refine ⟨(q ++ [⟨(k : Nat),(enT t h).1,[]⟩],_),⟨by rw [hd2,List.append_assoc]; exact i1,by rw [List.length_append]; exact Nat.succ_le_succ i2,fun x hx => ?_⟩,rfl,rfl⟩
   rcases List.mem_append.1 hx with hx | hx
   ·exact i3 x hx
   ·rcases List.mem_singleton.1 hx with rfl
    exact ⟨rfl,ht he,by dsimp only; omega,by dsimp only; omega⟩
 ·rintro ⟨q,J⟩ ⟨i1,i2,i3⟩ _
  dsimp only at i1 i2 i3 ⊢
  have hq0 : q = entG h 0 s.tenants:=by rw [<- i1,List.drop_length,entG,List.append_nil]
  simp only [go_sem,Int.lt_irrefl,decide_false]
  refine ACallK.intro (p_CloneS sts (by have:=R.len; omega) _) fun v H' hq => ?_
  rcases hq with ⟨hnil,rfl,rfl⟩ | ⟨rfl,rfl⟩
  ·have ht0 : s.tenants = []:=List.length_eq_zero_iff.1 (by rw [<- R.len,hnil]; rfl)
   have hq1 : q = []:=by rw [hq0,ht0]; rfl
   have hres : cRun s sts h tick = some ([],[]):=by unfold cRun; rw [ht0,hnil]; rfl
   subst hq1
   rw [hres]
   simp only [go_sem]
   refine awp_wh (σ:=Unit) (fun _ => [(1,.sl none (lSts sts)),(3,.int .i64 tick),(4,.ptr 0 0),(11,.ptr 2 0),(12,.fn (.func 24) [] [.ptr 2 0]),(17,.sl (some 1) []),(18,.sl (some 12) []),(19,.int .i64 0)])
    (fun _ => some s.c :: some h.c :: some [.sl (some 12) (lItem [])] :: J) (fun _ => True) (fun _ => 0) () trivial rfl rfl fun _ _ => ?_
   have z0 : ¬ ((0 : Int) < ((0 : Nat) : Int)):=by decide
   simp only [go_sem,z0,decide_false,List.length_nil]
   rfl
  ·simp only [go_sem]
   generalize hpn : List.length (some s.c :: some h.c :: some [AV.sl (some 12) (lItem q)] :: J) + 1 = pn
   refine awp_wh (σ:=Nat × Nat × List Item × List (List Entry) × List Delivery × Heap) (fun a => [(1,.sl none (lSts sts)),(3,.int .i64 tick),(4,.ptr 0 0),(11,.ptr 2 0),(12,.fn (.func 24) [] [.ptr 2 0]),(17,.msl pn 0 sts.length 1),(18,.sl (some 12) (lDelivery a.2.2.2.2.1)),(19,.int .i64 a.2.1)])
    (fun a => a.2.2.2.2.2) (fun a => okC6 s sts h tick pn a.1 a.2.1 a.2.2.1 a.2.2.2.1 a.2.2.2.2.1 a.2.2.2.2.2) (fun a => a.1) (600,0,q,sts,[],_) ?_ rfl rfl ?_
   ·refine ⟨rfl,rfl, ?_,rfl,by rw [hq0]; rfl,⟨by dsimp only; omega,Nat.zero_le _,Nat.zero_le _⟩,fun i x hx => ?_,R.len,fun k t st h1 h2 => ?_⟩
    ·subst hpn
     simp
    ·obtain ⟨y1,y2,y3,y4⟩:=i3 x (List.mem_of_getElem? hx)
     exact ⟨y2,⟨y3,y4⟩,by rw [y1]; exact Nat.zero_le _⟩
    ·have:=R.st k t st h1 h2
     exact ⟨this.1,by have:=this.2; dsimp only; omega⟩
   rintro ⟨f,n,q,now,out,X⟩ hI
   dsimp only at hI ⊢
   clear i1 i2 i3 hq0
   obtain ⟨x1,x2,x3,x4,x5,x6,x7,x8,x9⟩:=hI
   simp only [go_sem,x2]
   refine cS ?_ ?_ <;> intro hc
   ·have hc:=of_decide_eq_true hc
    have hnl : n < q.length:=by omega
    obtain ⟨x,hx⟩ : ∃ x,q[n]? = some x:=⟨_,List.getElem?_eq_getElem hnl⟩
    obtain ⟨hxr,⟨hx0,hx1⟩,hxc⟩:=x7 n x hx
    obtain ⟨m,hm⟩ : ∃ m : Nat,x.tenant = (m : Int):=⟨x.tenant.toNat,by omega⟩
    have hmT : m < s.tenants.length:=by omega
    obtain ⟨t,ht⟩ : ∃ t,s.tenants[m]? = some t:=⟨_,List.getElem?_eq_getElem hmT⟩
    obtain ⟨st,hst⟩ : ∃ st,now[m]? = some st:=⟨_,List.getElem?_eq_getElem (by omega)⟩
    have htm:=List.mem_of_getElem? ht
    obtain ⟨p1,p2⟩:=R.prg m t ht
    obtain ⟨s1,s2⟩:=x9 m t st ht hst
    have c1:=R.whole t htm
    have hlenb : st.length + (bWhole t).1.length * 256 <= 1073741823:=by have:=x6.1; have:=x6.2.1; omega
    have hfl : s.fields.length <= 1073741824:=by have:=lFld_bn (Setup.bl_fields R.bulk); omega
    have c2:=p_Run s.fields R.fld hfl (bWhole t).1 p1 st hlenb s1 x.head hxr tick R.tick
    have l0:=(List.getElem?_eq_some_iff.1 x1).1
    have l2:=(List.getElem?_eq_some_iff.1 x2).1
    have ln:=(List.getElem?_eq_some_iff.1 x3).1
    have gX0:=get_grow x1
    have gX2:=get_grow x2
    have gXn:=get_grow x3
    have gx : ∀ y L,(X ++ y :: L)[X.length]? = some y:=fun y L => by simp
    have gx1 : ∀ y z L,(X ++ y :: z :: L)[X.length + 1]? = some z:=fun y z L => by simp
    have sx : ∀ y z,(X ++ [y]).set X.length z = X ++ [z]:=fun y z => by simp
    have sx1 : ∀ y z w,(X ++ [y,z]).set (X.length + 1) w = X ++ [y,w]:=fun y z w => by simp
    have hm0 : (0 : Int) <= (m : Int):=by omega
    have hm1 : (m : Int) < (s.tenants.length : Int):=by omega
    have hm2 : (m : Int) < (sts.length : Int):=by rw [R.len]; omega
    have hxi : (Item.c x)[0]? = some (.int .i64 x.tenant):=rfl
    have h0n : (0 : Int) <= (n : Int):=by omega
    simp only [go_sem,h0n,hc,x1,x2,x3,gX0,gX2,gXn,gx,gx1,sx,sx1,lItem_get hx,lTenant_get ht,lSts_get hst,hm,hm0,hm1,hm2,List.length_append,List.length_cons,List.length_nil,Nat.zero_add,Nat.reduceAdd]
    refine pK c1 ?_
    simp only [go_sem,x1,x2,x3,gX0,gX2,gXn,gx,gx1,sx,sx1,hxi,lTenant_get ht,lSts_get hst,hm,hm0,hm1,hm2,List.length_append,List.length_cons,List.length_nil,Nat.zero_add,Nat.reduceAdd]
    obtain ⟨f',rfl⟩ : ∃ f',f = f' + 1:=⟨f - 1,by omega⟩
    have hto : x.tenant.toNat = m:=by omega
    have b2 : ((2 : Int) != 0) = true:=rfl
    have b0 : ((0 : Int) != 0) = false:=rfl
    cases er : runS s.fields (bWhole t).1 st x.head tick with
    | none =>
     rw [er,resR] at c2
     have hres : cRun s sts h tick = none:=by rw [x5,cGo,hx]; dsimp only; rw [hto,ht,hst]; dsimp only; rw [er]
     rw [hres]
     refine pK c2 ?_
     simp only [go_sem,b2]
     rfl
    | some b =>
     rw [er,resR] at c2
     obtain ⟨r1,r2,r3,r4⟩:=runS_inv R.fld hfl p1 R.tick s1 hlenb hxr er
     have e5 : cGo s tick (f' + 1) n q now out = if 256 < (pkG s x t tick (q,out) b.1).1.length then none else cGo s tick f' (n + 1) (pkG s x t tick (q,out) b.1).1 (now.set m b.2) (pkG s x t tick (q,out) b.1).2:=by rw [cGo,hx]; dsimp only; rw [hto,ht,hst]; dsimp only; rw [er]
     rw [e5] at x5
     have sXn : ∀ (L : Heap) y,(X ++ L).set pn y = X.set pn y ++ L:=fun L y => set_app ln L
     refine pK c2 ?_
     have hml : m + 1 <= now.length:=by omega
     have hsp:=lSts_set now m b.2 (by omega)
     simp only [go_sem,b0,sXn,hml,hsp,x1,x2,x3,gX0,gX2,gXn,gx,gx1,sx,sx1,hxi,lTenant_get ht,lSts_get hst,hm,hm0,hm1,hm2,List.length_append,List.length_cons,List.length_nil,Nat.zero_add,Nat.reduceAdd]
     have hX2 : 2 ≠ pn:=by subst hpn; simp
     have hX0 : 0 ≠ pn:=by subst hpn; simp
     have lsn : (X.set pn (some (lSts (now.set m b.2)))).length = X.length:=List.length_set ..
     refine awp_lst b.1 (fun (a : List Item × List Delivery × Heap) (r : List Head) => pkG s x t tick (a.1,a.2.1) r) (fun j a => okP6 s x t n pn X.length (now.set m b.2) a.1 a.2.1 a.2.2 j) (fun j a => [(1,.sl none (lSts sts)),(3,.int .i64 tick),(4,.ptr 0 0),(11,.ptr 2 0),(12,.fn (.func 24) [] [.ptr 2 0]),(17,.msl pn 0 sts.length 1),(18,.sl (some 12) (lDelivery a.2.1)),(19,.int .i64 n),(20,.ptr X.length 0),(21,.ptr (X.length + 1) 0),(103,.sl none (lHead b.1)),(104,.int .i64 b.1.length),(105,.int .i64 j)])
      (fun _ a => a.2.2) (q,out,_) (by omega) ?_ ?_ rfl ?_ ?_
     ·have u0 : (X.set pn (some (lSts (now.set m b.2))))[0]? = some (some s.c):=by rw [List.getElem?_set_ne (Ne.symm hX0)]; exact x1
      have u2 : (X.set pn (some (lSts (now.set m b.2))))[2]? = some (some [.sl (some 12) (lItem q)]):=by rw [List.getElem?_set_ne (Ne.symm hX2)]; exact x2
      have un : (X.set pn (some (lSts (now.set m b.2))))[pn]? = some (some (lSts (now.set m b.2))):=List.getElem?_set_self ln
      refine ⟨get_grow u0 _,get_grow u2 _,get_grow un _, ?_, ?_, ?_,x7,⟨hnl,by dsimp only; omega⟩,by dsimp only; omega⟩
      ·dsimp only
       rw [<- lsn]; simp
      ·dsimp only
       rw [<- lsn]; simp
      ·dsimp only
       rw [List.length_append,lsn]; exact Nat.le_refl _
     ·rfl
     ·rintro j ⟨q2,out2,Z⟩ p ps hd2 hxp hI2 hF2 g0 g1 gw
      dsimp only at hI2 hF2 ⊢
      have hI3:=hI2
      obtain ⟨y0,y2,yn,yx,yt,yl,y7,y8,y9⟩:=hI2
      have hrp:=r1 p (List.mem_of_getElem? hxp)
      have hjl:=(List.getElem?_eq_some_iff.1 hxp).1
      have d1:=c_Exit t p
      have eX : exitH (edgeOf t p.h0) p = exT t p:=rfl
      rw [eX] at d1
      have d2:=p_Takes s R.fld (by omega) (by have:=lContract_bn (Setup.bl_contracts R.bulk); omega) m t ht p hrp tick R.pred
      have d3:=p_CloneI x.chain (by omega)
      have hxk : (Item.c x)[11]? = some (.sl none (lI64 x.chain)):=rfl
      have eK : idxI (takB s t.name p tick) s.contracts = takC s t p tick:=rfl
      rw [eK] at d2
      have l0':=(List.getElem?_eq_some_iff.1 y0).1
      have l2':=(List.getElem?_eq_some_iff.1 y2).1
      have gY0:=get_grow y0
      have gY2:=get_grow y2
      have gYx:=get_grow yx
      have gYt:=get_grow yt
      have gz : ∀ y L,(Z ++ y :: L)[Z.length]? = some y:=fun y L => by simp
      have gz1 : ∀ y z L,(Z ++ y :: z :: L)[Z.length + 1]? = some z:=fun y z L => by simp
      have sz : ∀ y z,(Z ++ [y]).set Z.length z = Z ++ [z]:=fun y z => by simp
      have sz0 : ∀ y a z,(Z ++ [y,a]).set Z.length z = Z ++ [z,a]:=fun y a z => by simp
      have sz1 : ∀ y z w,(Z ++ [y,z]).set (Z.length + 1) w = Z ++ [y,w]:=fun y z w => by simp
      have hpk : pkG s x t tick (q,out) b.1 = pkG s x t tick (pk1 s x t tick (q2,out2) p) ps:=hF2
      simp only [go_sem,g0,g1,lHead_get hxp,y0,y2,yx,yt,gY0,gY2,gYx,gYt,gz,gz1,sz,sz1,hm,List.length_append,List.length_cons,List.length_nil,Nat.zero_add,Nat.reduceAdd]
      refine pK d1 ?_
      cases he : (exT t p).2 with
      | false =>
       simp only [go_sem,he,gz,gz1,sz,sz1,gw,List.length_append,List.length_cons,List.length_nil,Nat.zero_add,Nat.reduceAdd,Bool.not_false]
       have e6 : pk1 s x t tick (q2,out2) p = (q2,out2):=by unfold pk1; rw [if_pos he]
       exact ⟨(q2,out2,_),by rw [pkG,e6],hI3.grow _,rfl,rfl⟩
      | true =>
       simp only [go_sem,he,gz,gz1,sz,sz1,y0,y2,yx,yt,gY0,gY2,gYx,gYt,hxi,hm,List.length_append,List.length_cons,List.length_nil,Nat.zero_add,Nat.reduceAdd,Bool.not_true]
       refine pK d2 ?_
       simp only [go_sem,he,gz,gz1,sz,sz1,y0,y2,yx,yt,gY0,gY2,gYx,gYt,hxi,hm,List.length_append,List.length_cons,List.length_nil,Nat.zero_add,Nat.reduceAdd,Bool.not_true]
       refine cS ?_ ?_ <;> intro hc3
       ·have hc3:=of_decide_eq_true hc3
        have e6 : pk1 s x t tick (q2,out2) p = (q2,out2 ++ [⟨x.tenant,(exT t p).1,x.chain⟩]):=by unfold pk1; rw [if_neg (by rw [he]; decide),if_pos hc3]
        simp only [go_sem,gz,gz1,sz,sz1,y0,y2,yx,yt,gY0,gY2,gYx,gYt,hxi,hxk,hm,List.length_append,List.length_cons,List.length_nil,Nat.zero_add,Nat.reduceAdd]
        refine pK d3 ?_
        simp only [go_sem,gz,gz1,sz,sz1,y0,y2,yx,yt,gY0,gY2,gYx,gYt,hxi,hxk,hm,gw,List.length_append,List.length_cons,List.length_nil,Nat.zero_add,Nat.reduceAdd]
        exact ⟨by omega,by omega,(q2,out2 ++ [⟨x.tenant,(exT t p).1,x.chain⟩],_),by rw [pkG,e6],hI3.out _ _,by rw [hm],rfl⟩
       ·have hc3:=of_decide_eq_false hc3
        obtain ⟨ci,d,hK,hd⟩ : ∃ (ci : Nat) (d : Contract),takC s t p tick = (ci : Int) /\ s.contracts[ci]? = some d:=by
         rcases idxGo_find (takB s t.name p tick) s.contracts 0 with ⟨w1,w2⟩ | ⟨i,y,w1,w2,w3⟩
         ·have : takC s t p tick = -1:=w1
          omega
         ·exact ⟨i,y,by unfold takC idxI; rw [w1,Nat.zero_add],w2⟩
        have hdm:=List.mem_of_getElem? hd
        obtain ⟨t1,t2⟩:=R.to d hdm
        obtain ⟨t3,t4⟩:=R.port d hdm
        have hcl:=(List.getElem?_eq_some_iff.1 hd).1
        have hcn : s.contracts.length <= 1048576:=lContract_bn (Setup.bl_contracts R.bulk)
        have k0 : (0 : Int) <= (ci : Int):=by omega
        have k1 : (ci : Int) < (s.contracts.length : Int):=by omega
        have hkt : (takC s t p tick).toNat = ci:=by omega
        have e6 : pk1 s x t tick (q2,out2) p = (q2 ++ [⟨tenI s d.dst,{ p with h0:=d.toPort },x.chain ++ [(ci : Int)]⟩],out2):=by unfold pk1; rw [if_neg (by rw [he]; decide),if_neg hc3,hkt,hd,hK]
        have d4:=p_Tenant s d.dst (by omega)
        have d5 : tenR (tenI s d.dst) = .tup [.int .i64 (tenI s d.dst),.bool true]:=by unfold tenR imax; rw [decide_eq_true t1]; congr; split <;> omega
        rw [d5] at d4
        simp only [go_sem,hK,k0,k1,lContract_get hd,gz,gz1,sz,sz1,y0,y2,yx,yt,gY0,gY2,gYx,gYt,hxi,hxk,hm,List.length_append,List.length_cons,List.length_nil,Nat.zero_add,Nat.reduceAdd]
        refine pK d4 ?_
        simp only [go_sem,hK,k0,k1,lContract_get hd,gz,gz1,sz,sz0,sz1,y0,y2,yx,yt,gY0,gY2,gYx,gYt,hxi,hxk,hm,List.length_append,List.length_cons,List.length_nil,Nat.zero_add,Nat.reduceAdd]
        refine pK d3 ?_
        simp only [go_sem,hK,k0,k1,lContract_get hd,gz,gz1,sz,sz0,sz1,y0,y2,yx,yt,gY0,gY2,gYx,gYt,hxi,hxk,hm,List.length_append,List.length_cons,List.length_nil,Nat.zero_add,Nat.reduceAdd]
        refine ⟨by omega,by omega, ?_⟩
        have hrp' : rightH { p with h0:=d.toPort } = true:=right_h0 hrp t3 t4
        refine ACallK.intro (p_put1 q2 (by omega) ⟨tenI s d.dst,{ p with h0:=d.toPort },x.chain ++ [(ci : Int)]⟩ (some 1) _ 2 (get_grow y2 _)) fun v H' hq => ?_
        obtain ⟨rfl,ext,rfl⟩:=hq
        simp only [go_sem,gw]
        exact ⟨(q2 ++ [⟨tenI s d.dst,{ p with h0:=d.toPort },x.chain ++ [(ci : Int)]⟩],out2,_),by rw [pkG,e6],hI3.put _ _ _ (by subst hpn; simp) (by omega) ⟨hrp',⟨t1,t2⟩,by rw [List.length_append]; exact Nat.succ_le_succ hxc⟩,rfl,rfl⟩
     ·rintro ⟨q2,out2,Z⟩ hI2 hF2
      dsimp only at hI2 hF2 ⊢
      obtain ⟨y0,y2,yn,yx,yt,yl,y7,y8,y9⟩:=hI2
      have hpk : pkG s x t tick (q,out) b.1 = (q2,out2):=hF2
      rw [hpk] at x5
      simp only [go_sem,Int.lt_irrefl,decide_false,y2]
      refine cS ?_ ?_ <;> intro hc3
      ·have hc3:=of_decide_eq_true hc3
       have hres : cRun s sts h tick = none:=by rw [x5]; exact if_pos (by dsimp only; omega)
       rw [hres]
       simp only [go_sem]
       rfl
      ·have hc3:=of_decide_eq_false hc3
       have hres : cRun s sts h tick = cGo s tick f' (n + 1) q2 (now.set m b.2) out2:=by rw [x5]; exact if_neg (by dsimp only; omega)
       have hwn : IntKind.i64.wrap ((n : Int) + 1) = ((n + 1 : Nat) : Int):=w64s (by omega)
       simp only [go_sem,hwn]
       refine ⟨(f',n + 1,q2,now.set m b.2,out2,Z),⟨y0,y2,yn,by dsimp only; omega,hres,⟨by dsimp only; omega,y8.1,by dsimp only; omega⟩,y7,by rw [List.length_set]; exact x8,fun k t2 st2 h1 h2 => ?_⟩,by dsimp only; omega,rfl,rfl⟩
       dsimp only at h2 ⊢
       rw [List.getElem?_set] at h2
       split at h2
       ·rename_i hkm
        subst hkm
        rw [ht] at h1
        cases h1
        split at h2
        ·cases h2
         exact ⟨r3,by omega⟩
        ·cases h2
       ·have:=x9 k t2 st2 h1 h2
        exact ⟨this.1,Nat.le_trans this.2 (Nat.add_le_add_left (Nat.mul_le_mul_right _ (Nat.le_succ n)) _)⟩
   ·have hc:=of_decide_eq_false hc
    have hq2 : q[n]? = none:=List.getElem?_eq_none (by omega)
    have hres : cRun s sts h tick = some (out,now):=by
     rw [x5]
     obtain ⟨f',rfl⟩ : ∃ f',f = f' + 1:=⟨f - 1,by omega⟩
     rw [cGo,hq2]
    rw [hres]
    simp only [go_sem,x3]
    have hlen2 : now.length = sts.length:=by rw [x8,R.len]
    rw [if_pos ⟨by omega,.inr trivial⟩,lSts_b,<- hlen2,lSts_chunk]
    simp only [go_sem]
    rfl
end Go.AI
namespace Go.AI
open Go.Proofs
def pthC (s : Setup) : Nat -> List Int -> Nat -> Prop
 | a,[],k => a = k
 | a,x :: r,k => ∃ d,0 <= x /\ s.contracts[x.toNat]? = some d /\ d.src = (tenAt s (a : Int)).name /\ pthC s (tenI s d.dst).toNat r k
theorem pthC_snoc {s : Setup} {x : Int} {d : Contract} (h0 : 0 <= x) (hd : s.contracts[x.toNat]? = some d) : ∀ {c : List Int} {a k : Nat},pthC s a c k -> d.src = (tenAt s (k : Int)).name -> pthC s a (c ++ [x]) (tenI s d.dst).toNat
 | [],a,k,h,hs => by
  have : a = k:=h
  subst this
  exact ⟨d,h0,hd,hs,rfl⟩
 | y :: c,a,k,h,hs => by
  obtain ⟨e,e0,e1,e2,e3⟩:=h
  exact ⟨e,e0,e1,e2,pthC_snoc h0 hd e3 hs⟩
theorem dst_lt {s : Setup} (hR : R19 s) {d : Contract} (hd : d ∈ s.contracts) : (tenI s d.dst).toNat < s.tenants.length:=by
 have h0:=(conE_dst (hR.con d hd)).2
 obtain ⟨v,_,_,_,hv⟩:=tenI_get h0
 omega
theorem pthC_rank {s : Setup} (hR : R19 s) : ∀ {c : List Int} {a k : Nat},a < s.tenants.length -> pthC s a c k -> (c = [] /\ a = k) \/ rnk s k < rnk s a
 | [],a,k,_,h => .inl ⟨rfl,h⟩
 | x :: c,a,k,ha,h => by
  obtain ⟨d,_,e1,e2,e3⟩:=h
  have hdm:=List.mem_of_getElem? e1
  have h1:=hR.rank ha hdm e2
  rcases pthC_rank hR (dst_lt hR hdm) e3 with ⟨_,h2⟩ | h2
  ·right; rw [<- h2]; exact h1
  ·right; omega
theorem chG_mem {s : Setup} (hR : R19 s) (k : Nat) : ∀ (c : List Int) (f a : Nat) (ch : List Int),a < s.tenants.length -> rnk s a < f -> pthC s a c k -> ch ++ c ∈ chG s k f a ch
 | c,0,a,ch,_,hf,_ => by omega
 | [],f + 1,a,ch,_,_,h => by
  have : a = k:=h
  subst this
  rw [chG_at,List.append_nil]
  exact List.mem_singleton.2 rfl
 | x :: c,f + 1,a,ch,ha,hf,h => by
  have hne : a ≠ k:=by
   rcases pthC_rank hR ha h with ⟨h1,_⟩ | h1
   ·cases h1
   ·intro he; subst he; omega
  obtain ⟨d,e0,e1,e2,e3⟩:=h
  have hdm:=List.mem_of_getElem? e1
  have hrk:=hR.rank ha hdm e2
  rw [chG,if_neg hne]
  refine List.mem_flatMap.2 ⟨(d,x.toNat),List.mem_zipIdx_iff_getElem?.2 e1, ?_⟩
  dsimp only
  rw [if_pos e2]
  have hx : ((x.toNat : Nat) : Int) = x:=by omega
  rw [hx]
  have ih:=chG_mem hR k c f (tenI s d.dst).toNat (ch ++ [x]) (dst_lt hR hdm) (by omega) e3
  rwa [List.append_assoc] at ih
theorem cntT_leE : ∀ l : List Bool,cntT l <= l.length:=by
 intro l
 unfold cntT
 first | exact List.countP_le_length | exact List.length_filter_le _ _
theorem rnk_lt {s : Setup} (k : Nat) : rnk s k < s.tenants.length + 1:=by
 unfold rnk
 have:=cntT_leE (rch s k)
 rw [rch_len] at this
 omega
theorem chG_of_path {s : Setup} (hR : R19 s) {a k : Nat} (ha : a < s.tenants.length) {c : List Int} (h : pthC s a c k) : c ∈ chG s k (s.tenants.length + 1) a []:=by
 have:=chG_mem hR k c (s.tenants.length + 1) a [] ha (rnk_lt a) h
 rwa [List.nil_append] at this
def itP (s : Setup) (a : Nat) (q : List Item) : Prop:=∀ x ∈ q,0 <= x.tenant /\ x.tenant < (s.tenants.length : Int) /\ pthC s a x.chain x.tenant.toNat
def dlP (s : Setup) (a : Nat) (out : List Delivery) : Prop:=∀ d ∈ out,∃ (k : Nat) (t : Tenant) (p : Head),d.tenant = (k : Int) /\ s.tenants[k]? = some t /\ (exT t p).2 = true /\ d.head = (exT t p).1 /\ pthC s a d.chain k
theorem takC_get {s : Setup} {t : Tenant} {p : Head} {tick : Int} (h : ¬ takC s t p tick < 0) : ∃ d,s.contracts[(takC s t p tick).toNat]? = some d /\ takB s t.name p tick d = true:=by
 rcases idxGo_find (takB s t.name p tick) s.contracts 0 with ⟨w1,_⟩ | ⟨i,y,w1,w2,w3⟩
 ·exact absurd (show takC s t p tick < 0 by unfold takC idxI; rw [w1]; decide) h
 ·refine ⟨y, ?_,List.find?_some w3⟩
  have : takC s t p tick = ((i : Nat) : Int):=by unfold takC idxI; rw [w1,Nat.zero_add]
  rw [this]; exact w2
theorem takB_src {s : Setup} {nm : ByteArray} {p : Head} {tick : Int} {d : Contract} (h : takB s nm p tick d = true) : d.src = nm:=by
 unfold takB at h
 simp only [Bool.and_eq_true,decide_eq_true_eq] at h
 first | exact h.1.1 | exact h.1
theorem pk1_inv {s : Setup} (hR : R19 s) {a m : Nat} {x : Item} {t : Tenant} (ht : s.tenants[m]? = some t) (hx : x.tenant = (m : Int)) (hp : pthC s a x.chain m) {tick : Int} {b : List Item × List Delivery} (h1 : itP s a b.1) (h2 : dlP s a b.2) (p : Head) : itP s a (pk1 s x t tick b p).1 /\ dlP s a (pk1 s x t tick b p).2:=by
 have hta : tenAt s (m : Int) = t:=by unfold tenAt; rw [Int.toNat_natCast,ht]; rfl
 unfold pk1
 split
 ·exact ⟨h1,h2⟩
 ·rename_i he
  have he : (exT t p).2 = true:=by simpa using he
  split
  ·refine ⟨h1,fun d hd => ?_⟩
   rcases List.mem_append.1 hd with hd | hd
   ·exact h2 d hd
   ·rcases List.mem_singleton.1 hd with rfl
    exact ⟨m,t,p,hx,ht,he,rfl,hp⟩
  ·rename_i hc
   obtain ⟨d,hd,hb⟩:=takC_get hc
   have hdm:=List.mem_of_getElem? hd
   rw [hd]
   refine ⟨fun y hy => ?_,h2⟩
   rcases List.mem_append.1 hy with hy | hy
   ·exact h1 y hy
   ·rcases List.mem_singleton.1 hy with rfl
    have h0:=(conE_dst (hR.con d hdm)).2
    have hl:=dst_lt hR hdm
    exact ⟨h0,by dsimp only; omega,pthC_snoc (by omega) hd hp (by rw [hta]; exact takB_src hb)⟩
theorem pkG_inv {s : Setup} (hR : R19 s) {a m : Nat} {x : Item} {t : Tenant} (ht : s.tenants[m]? = some t) (hx : x.tenant = (m : Int)) (hp : pthC s a x.chain m) {tick : Int} : ∀ (r : List Head) {b : List Item × List Delivery},itP s a b.1 -> dlP s a b.2 -> itP s a (pkG s x t tick b r).1 /\ dlP s a (pkG s x t tick b r).2
 | [],_,h1,h2 => ⟨h1,h2⟩
 | p :: r,b,h1,h2 => by
  rw [pkG]
  obtain ⟨g1,g2⟩:=pk1_inv hR ht hx hp (tick:=tick) h1 h2 p
  exact pkG_inv hR ht hx hp r g1 g2
theorem cGo_inv {s : Setup} (hR : R19 s) {a : Nat} {tick : Int} : ∀ (f n : Nat) {q : List Item} {now : List (List Entry)} {out : List Delivery} {r : List Delivery × List (List Entry)},itP s a q -> dlP s a out -> cGo s tick f n q now out = some r ->
  dlP s a r.1 /\ r.2.length = now.length /\ ∀ k,(∀ c,¬ pthC s a c k) -> r.2[k]? = now[k]?
 | 0,n,q,now,out,r,_,_,e => by rw [cGo] at e; cases e
 | f + 1,n,q,now,out,r,h1,h2,e => by
  rw [cGo] at e
  cases hx : q[n]? with
  | none =>
   rw [hx] at e
   cases e
   exact ⟨h2,rfl,fun _ _ => rfl⟩
  | some x =>
   rw [hx] at e
   dsimp only at e
   obtain ⟨x0,x1,x2⟩:=h1 x (List.mem_of_getElem? hx)
   cases ht : s.tenants[x.tenant.toNat]? with
   | none => rw [ht] at e; cases e
   | some t =>
    rw [ht] at e
    cases hs : now[x.tenant.toNat]? with
    | none => rw [hs] at e; cases e
    | some st =>
     rw [hs] at e
     dsimp only at e
     cases er : runS s.fields (bWhole t).1 st x.head tick with
     | none => rw [er] at e; cases e
     | some b =>
      rw [er] at e
      dsimp only at e
      obtain ⟨g1,g2⟩:=pkG_inv hR ht (x:=x) (by omega) x2 (tick:=tick) b.1 (b:=(q,out)) h1 h2
      split at e
      ·cases e
      ·obtain ⟨i1,i2,i3⟩:=cGo_inv hR f (n + 1) g1 g2 e
       refine ⟨i1,by rw [i2,List.length_set],fun k hk => ?_⟩
       rw [i3 k hk,List.getElem?_set_ne]
       intro he
       subst he
       exact hk _ x2
end Go.AI
