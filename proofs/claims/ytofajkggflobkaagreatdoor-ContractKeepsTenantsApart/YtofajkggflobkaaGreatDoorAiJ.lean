/- Runs of cells: cut, spliced, counted. -/
import Derived.Test.YtofajkggflobkaaGreatDoorAiI
set_option linter.unusedSimpArgs false
set_option linter.unusedVariables false
namespace Go.AI
structure Cells (F : Nat -> Prop) (G : Gh) (w : World) (cs : List AV) (vs : List Value) : Prop where
 len : cs.length = vs.length
 at_ : ∀ (i : Nat) (c : AV) (v : Value),cs[i]? = some c -> vs[i]? = some v -> c.scalar = true /\ VRel G w c v /\ TokOk F G w (c,v)
def ctoks (cs : List AV) (vs : List Value) : List Nat:=(cs.zip vs).filterMap tok
section
variable {P : Program} {F : Nat -> Prop} {G : Gh} {w : World}
theorem ctoks_append {a b : List AV} {x y : List Value} (h : a.length = x.length) : ctoks (a ++ b) (x ++ y) = ctoks a x ++ ctoks b y:=by
 simp [ctoks,List.zip_append h]
theorem Cells.append {a b : List AV} {x y : List Value} (h : Cells F G w a x) (h' : Cells F G w b y) : Cells F G w (a ++ b) (x ++ y):=by
 have hl:=h.len
 refine ⟨by simp [h.len,h'.len],fun i c v h1 h2 => ?_⟩
 by_cases hi : i < a.length
 ·rw [List.getElem?_append_left hi] at h1; rw [List.getElem?_append_left (by omega)] at h2; exact h.at_ i c v h1 h2
 ·rw [List.getElem?_append_right (by omega)] at h1; rw [List.getElem?_append_right (by omega)] at h2
  exact h'.at_ (i - a.length) c v h1 (by rw [hl]; exact h2)
theorem Cells.take {cs : List AV} {vs : List Value} (h : Cells F G w cs vs) (k : Nat) : Cells F G w (cs.take k) (vs.take k):=by
 refine ⟨by simp [h.len],fun i c v h1 h2 => ?_⟩
 rw [List.getElem?_take] at h1 h2
 split at h1
 ·rename_i hi
  rw [if_pos hi] at h2
  exact h.at_ i c v h1 h2
 ·cases h1
theorem Cells.drop {cs : List AV} {vs : List Value} (h : Cells F G w cs vs) (k : Nat) : Cells F G w (cs.drop k) (vs.drop k):=by
 refine ⟨by simp [h.len],fun i c v h1 h2 => ?_⟩
 rw [List.getElem?_drop] at h1 h2
 exact h.at_ (k + i) c v h1 h2
theorem Cells.nil : Cells F G w [] []:=⟨rfl,fun i c v h => by simp at h⟩
theorem Cells.map_borrow {cs : List AV} {vs : List Value} (h : Cells F G w cs vs) : Cells F G w (cs.map borrow1) vs:=by
 refine ⟨by simp [h.len],fun i c v h1 h2 => ?_⟩
 rw [List.getElem?_map] at h1
 cases hc : cs[i]? with
 | none => rw [hc] at h1; cases h1
 | some d =>
  rw [hc] at h1; cases h1
  obtain ⟨s1,s2,_⟩:=h.at_ i d v hc h2
  exact ⟨by rw [scalar_borrow1]; exact s1,s2.borrow1,TokOk.of_none (tok_borrow1 d v)⟩
theorem ctoks_borrow (cs : List AV) (vs : List Value) : ctoks (cs.map borrow1) vs = []:=by
 unfold ctoks
 rw [List.filterMap_eq_nil_iff]
 intro p hp
 have:=(List.of_mem_zip (show (p.1,p.2) ∈ _ from hp)).1
 obtain ⟨d,_,hd⟩:=List.mem_map.1 this
 rw [show p = (borrow1 d,p.2) by rw [hd]]
 exact tok_borrow1 d p.2
def spliceV (vs : List Value) (off : Nat) (ys : List Value) : List Value:=vs.take off ++ ys ++ vs.drop (off + ys.length)
theorem splice_length {cs xs : List AV} {off : Nat} (h : off + xs.length <= cs.length) : (splice cs off xs).length = cs.length:=by
 simp [splice]; omega
theorem Cells.splice {cs xs : List AV} {vs ys : List Value} {off : Nat} (h : Cells F G w cs vs) (h' : Cells F G w xs ys) : Cells F G w (splice cs off xs) (spliceV vs off ys):=by
 unfold Go.AI.splice spliceV
 rw [h'.len]
 exact ((h.take off).append h').append (h.drop _)
theorem ctoks_parts (cs : List AV) (vs : List Value) (off k : Nat) (h : cs.length = vs.length) :
  ctoks cs vs = ctoks (cs.take off) (vs.take off) ++ ctoks ((cs.drop off).take k) ((vs.drop off).take k) ++ ctoks (cs.drop (off + k)) (vs.drop (off + k)):=by
 have e1 : cs = cs.take off ++ ((cs.drop off).take k ++ cs.drop (off + k)):=by
  rw [<- List.drop_drop,List.take_append_drop,List.take_append_drop]
 have e2 : vs = vs.take off ++ ((vs.drop off).take k ++ vs.drop (off + k)):=by
  rw [<- List.drop_drop,List.take_append_drop,List.take_append_drop]
 have e3:=ctoks_append (a:=cs.take off) (b:=(cs.drop off).take k ++ cs.drop (off + k)) (x:=vs.take off) (y:=(vs.drop off).take k ++ vs.drop (off + k)) (by simp [h])
 rw [<- e1,<- e2,ctoks_append (by simp [h])] at e3
 rw [e3,List.append_assoc]
theorem ctoks_splice {cs xs : List AV} {vs ys : List Value} {off : Nat} (hl : cs.length = vs.length) (hx : xs.length = ys.length) (b : Nat) :
  (ctoks (splice cs off xs) (spliceV vs off ys)).count b <= (ctoks cs vs).count b + (ctoks xs ys).count b:=by
 rw [ctoks_parts cs vs off xs.length hl]
 unfold splice spliceV
 rw [<- hx,ctoks_append (by simp [hl,hx]),ctoks_append (by simp [hl])]
 simp only [List.count_append]
 omega
theorem ctoks_unown {cs : List AV} {vs : List Value} {off k : Nat} (hl : cs.length = vs.length) (b : Nat) (hk : off + k <= cs.length) :
  (ctoks (splice cs off (((cs.drop off).take k).map borrow1)) vs).count b + (ctoks ((cs.drop off).take k) ((vs.drop off).take k)).count b <= (ctoks cs vs).count b:=by
 have hlen : (((cs.drop off).take k).map borrow1).length = k:=by simp; omega
 have e2 : vs = vs.take off ++ (vs.drop off).take k ++ vs.drop (off + k):=by
  rw [List.append_assoc,<- List.drop_drop,List.take_append_drop,List.take_append_drop]
 have e : ctoks (splice cs off (((cs.drop off).take k).map borrow1)) vs = ctoks (cs.take off) (vs.take off) ++ ctoks (((cs.drop off).take k).map borrow1) ((vs.drop off).take k) ++ ctoks (cs.drop (off + k)) (vs.drop (off + k)):=by
  unfold splice
  rw [hlen]
  have e3 : ctoks (cs.take off ++ ((cs.drop off).take k).map borrow1 ++ cs.drop (off + k)) (vs.take off ++ (vs.drop off).take k ++ vs.drop (off + k)) = _ :=
   ctoks_append (by simp [hl])
  rw [<- e2] at e3
  rw [e3,ctoks_append (by simp [hl])]
 rw [e,ctoks_borrow,ctoks_parts cs vs off k hl]
 simp only [List.count_append,List.count_nil]
 omega
theorem Cells.unown {cs : List AV} {vs : List Value} (h : Cells F G w cs vs) (off k : Nat) (hk : off + k <= cs.length) : Cells F G w (Go.AI.splice cs off (((cs.drop off).take k).map borrow1)) vs:=by
 have h1:=h.splice (off:=off) ((h.drop off).take k).map_borrow
 have hl:=h.len
 have e : spliceV vs off ((vs.drop off).take k) = vs:=by
  unfold spliceV
  have : ((vs.drop off).take k).length = k:=by simp; omega
  rw [this,List.append_assoc,<- List.drop_drop,List.take_append_drop,List.take_append_drop]
 rw [e] at h1
 exact h1
theorem cells_of {v : AV} {u : Value} (hv : v.isVal = true) (h : VRel G w v u) (ht : ∀ p ∈ prs v u,TokOk F G w p) : Cells F G w v.cells u.cells.toList /\ toks v u = ctoks v.cells u.cells.toList:=by
 have one : ∀ (c : AV) (x : Value),c.scalar = true -> VRel G w c x -> c.cells = [c] -> c.flat = [c] -> x.cells = #[x] -> vflat x = [x] -> (∀ p ∈ prs c x,TokOk F G w p) ->
   Cells F G w c.cells x.cells.toList /\ toks c x = ctoks c.cells x.cells.toList:=by
  intro c x hs hr h1 h2 h3 h4 h5
  rw [h1,h3]
  refine ⟨⟨rfl,fun i d y hd hy => ?_⟩, ?_⟩
  ·cases i with
   | zero =>
    simp at hd hy
    subst hd; subst hy
    exact ⟨hs,hr,h5 (c,x) (by simp [prs,h2,h4])⟩
   | succ i => simp at hd
  ·simp [toks,prs,h2,h4,ctoks]
 cases h with
 | agg cs vs hl hs hr =>
  refine ⟨⟨by simpa [AV.cells,Value.cells] using hl,fun i c x hi hx => ?_⟩,rfl⟩
  simp only [AV.cells] at hi
  simp only [Value.cells,Array.getElem?_toList] at hx
  refine ⟨hs c (List.mem_of_getElem? hi),hr i c x hi hx,ht (c,x) ?_⟩
  refine List.mem_of_getElem? (i:=i) ?_
  simp only [prs,AV.flat,AV.cells,vflat,Value.cells]
  rw [List.getElem?_zip_eq_some]
  exact ⟨hi,by simpa using hx⟩
 | undef v => cases hv
 | tup => cases hv
 | int k n => exact one _ _ rfl (.int k n) rfl rfl rfl rfl ht
 | bool b => exact one _ _ rfl (.bool b) rfl rfl rfl rfl ht
 | str s => exact one _ _ rfl (.str s) rfl rfl rfl rfl ht
 | nilp => exact one _ _ rfl .nilp rfl rfl rfl rfl ht
 | ptr o off b h hc => exact one _ _ rfl (.ptr o off b h hc) rfl rfl rfl rfl ht
 | cptr cs off b q u h hu => exact one _ _ rfl (.cptr cs off b q u h hu) rfl rfl rfl rfl ht
 | slnil own => exact one _ _ rfl (.slnil own) rfl rfl rfl rfl ht
 | slany own a => exact one _ _ rfl (.slany own a) rfl rfl rfl rfl ht
 | sl own es sz b q cap u hsz hown hl hm h hu => exact one _ _ rfl (.sl own es sz b q cap u hsz hown hl hm h hu) rfl rfl rfl rfl ht
 | msl o off len sz b cap h hl hm hc => exact one _ _ rfl (.msl o off len sz b cap h hl hm hc) rfl rfl rfl rfl ht
 | mslc o off len sz cap b h hl hm hc => exact one _ _ rfl (.mslc o off len sz cap b h hl hm hc) rfl rfl rfl rfl ht
 | fn f first captured fi ca h1 h2 h3 h4 => exact one _ _ rfl (.fn f first captured fi ca h1 h2 h3 h4) rfl rfl rfl rfl ht
 | nilf => exact one _ _ rfl .nilf rfl rfl rfl rfl ht
 | mapr o b h hb hk => exact one _ _ rfl (.mapr o b h hb hk) rfl rfl rfl rfl ht
 | it o b h hb hk => exact one _ _ rfl (.it o b h hb hk) rfl rfl rfl rfl ht
 | nilm => exact one _ _ rfl .nilm rfl rfl rfl rfl ht
 | yld o b L h hb hk => exact one _ _ rfl (.yld o b L h hb hk) rfl rfl rfl rfl ht
 | ifc t a v hs h => exact one _ _ rfl (.ifc t a v hs h) rfl rfl rfl rfl ht
 | nili => exact one _ _ rfl .nili rfl rfl rfl rfl ht
theorem oneCell_of {c : AV} {v : Value} (hs : c.scalar = true) (h : VRel G w c v) : v.oneCell' = true:=by
 cases h <;> first | rfl | cases hs
theorem Cells.oneCell {cs : List AV} {vs : List Value} (h : Cells F G w cs vs) : ∀ v ∈ vs,v.oneCell' = true:=by
 intro v hv
 obtain ⟨i,hi⟩:=List.getElem?_of_mem hv
 have hlt:=(List.getElem?_eq_some_iff.1 hi).1
 have hc : cs[i]? = some (cs[i]'(by rw [h.len]; exact hlt)):=List.getElem?_eq_getElem _
 obtain ⟨s1,s2,_⟩:=h.at_ i _ v hc hi
 exact oneCell_of s1 s2
theorem agg_of {cs : List AV} {vs : List Value} (h : Cells F G w cs vs) : VRel G w (.agg cs) (.agg vs.toArray) /\ (∀ p ∈ prs (.agg cs) (.agg vs.toArray),TokOk F G w p) /\ toks (.agg cs) (.agg vs.toArray) = ctoks cs vs:=by
 refine ⟨.agg _ _ (by simpa using h.len) (fun c hc => ?_) (fun i c v hi hv => (h.at_ i c v hi (by simpa using hv)).2.1),fun p hp => ?_,rfl⟩
 ·obtain ⟨i,hi⟩:=List.getElem?_of_mem hc
  have hlt:=(List.getElem?_eq_some_iff.1 hi).1
  have hv : vs[i]? = some (vs[i]'(by rw [<- h.len]; exact hlt)):=List.getElem?_eq_getElem _
  exact (h.at_ i c _ hi hv).1
 ·obtain ⟨i,hi⟩:=List.getElem?_of_mem hp
  simp only [prs,AV.flat,AV.cells,vflat,Value.cells] at hi
  rw [List.getElem?_zip_eq_some] at hi
  exact (h.at_ i p.1 p.2 hi.1 (by simpa using hi.2)).2.2
end
end Go.AI
