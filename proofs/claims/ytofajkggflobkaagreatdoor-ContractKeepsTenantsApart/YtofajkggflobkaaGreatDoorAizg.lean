/- From a law's contract on the abstract side to what the row asks: it returns true, and the arguments read as they did. -/
import Derived.Test.YtofajkggflobkaaGreatDoorAizf
set_option linter.unusedSimpArgs false
set_option linter.unusedVariables false
namespace Go.AI
open Go.RowKit Go.ChangeShapes
def RdAll (P : Program) : List TypeId -> List AV -> Prop
 | [],[] => True
 | t :: ts,a :: as => Rd P t a /\ RdAll P ts as
 | _,_ => False
section
variable {P : Program} {G : Gh} {w : World} {H : Type} {enc : TypeId × Value -> H} {base : Nat}
theorem owned_of_cells {a : AV} (hv : a.isVal = true) (h : ∀ c ∈ a.cells,owned1 c = false) : a.owned = false:=by
 unfold AV.owned
 rw [List.any_eq_false]
 intro c hc
 have : a.flat = a.cells:=by cases a <;> first | rfl | cases hv
 rw [this] at hc
 simp [h c hc]
theorem arg_rel {t : TypeId} {a : AV} {v : Value} (hr : Rd P t a) (hf : FitL G w a.cells v.cells.toList) (hok : Value.okWide P w .any base t v) : VRel G w a v /\ a.owned = false:=by
 have one : ∀ (a : AV) (v : Value),a.scalar = true -> a.cells = [a] -> (∀ cs,v ≠ .agg cs) -> FitL G w a.cells v.cells.toList -> VRel G w a v:=by
  intro a v h1 h2 h3 h4
  have h5 : v.cells = #[v]:=by cases v <;> first | rfl | exact absurd rfl (h3 _)
  rw [h2,h5] at h4
  exact h4.rel 0 a v rfl rfl
 have noAgg : ∀ (u : TypeDesc),P.underlying t = some u -> (u = .bool \/ (∃ k,u = .int k) \/ u = .string \/ ∃ e,u = .slice e) -> ∀ cs,v ≠ .agg cs:=by
  intro u hu hk cs hv
  subst hv
  rcases hk with rfl | ⟨k,rfl⟩ | rfl | ⟨e,rfl⟩ <;> simp [Value.okWide,hu,Cell.okWide,Cell.ok] at hok
 cases hr with
 | bool b h => exact ⟨one _ _ rfl rfl (noAgg _ h (.inl rfl)) hf,rfl⟩
 | int h hw => exact ⟨one _ _ rfl rfl (noAgg _ h (.inr (.inl ⟨_,rfl⟩))) hf,rfl⟩
 | str h hs => exact ⟨one _ _ rfl rfl (noAgg _ h (.inr (.inr (.inl rfl)))) hf,rfl⟩
 | slice h hl hb he => exact ⟨one _ _ rfl rfl (noAgg _ h (.inr (.inr (.inr ⟨_,rfl⟩)))) hf,rfl⟩
 | struct h hl hp =>
  refine ⟨?_,owned_of_cells rfl fun c hc => (hf.sc c hc).2⟩
  simp only [Value.okWide,h] at hok
  obtain ⟨cs,rfl,_⟩:=hok
  exact .agg _ _ (by simpa [AV.cells,Value.cells] using hf.len) (fun c hc => (hf.sc c hc).1) fun i c x h1 h2 => hf.rel i c x h1 (by simpa [Value.cells] using h2)
 | array h hl hp =>
  refine ⟨?_,owned_of_cells rfl fun c hc => (hf.sc c hc).2⟩
  simp only [Value.okWide,h] at hok
  obtain ⟨cs,rfl,_⟩:=hok
  exact .agg _ _ (by simpa [AV.cells,Value.cells] using hf.len) (fun c hc => (hf.sc c hc).1) fun i c x h1 h2 => hf.rel i c x h1 (by simpa [Value.cells] using h2)
theorem args_rel {S : List TypeId} (hS : tysOk P S = true) (hG : ∀ b,G.kind b = .imm) : ∀ (ts : List TypeId) (vs : List Value) (ds : List (DataW H)) (ps : List MemPlace),(∀ t ∈ ts,t ∈ S) ->
  DataW.TrodAll enc P w 0 (fun _ => true) true ts vs ds ps -> (∀ m ∈ DataW.weightsEach P ts ds,m <= reachBytes) -> (∀ (j : Nat) t v,ts[j]? = some t -> vs[j]? = some v -> Value.okWide P w .any base t v) ->
  ∃ as,RdAll P ts as /\ as.length = vs.length /\ (∀ (i : Nat) (a : AV) (v : Value),as[i]? = some a -> vs[i]? = some v -> VRel G w a v /\ a.owned = false) /\ ∀ μ : DataW H -> Nat,BulkOk μ -> bulkL as <= (ds.map μ).sum
 | [],vs,ds,ps,_,h,_,_ => by
  obtain ⟨rfl,rfl,rfl⟩:=trodAll_nil h
  exact ⟨[],trivial,rfl,fun i a v h => by simp at h,fun μ _ => by simp [bulkL]⟩
 | t :: ts,vs,ds,ps,hin,h,hw,hok => by
  obtain ⟨v,vs',d,ds',p,q,rfl,rfl,rfl,⟨fuel,h1⟩,h2⟩:=trodAll_cons h
  simp only [DataW.weightsEach,List.mem_append] at hw
  obtain ⟨a,ha,hf,hba⟩:=rd_of_trod hS hG fuel t _ d p (hin t (by simp)) h1 fun m hm => hw m (.inl hm)
  obtain ⟨as,g1,g2,g3,g4⟩:=args_rel hS hG ts vs' ds' q (fun t ht => hin t (by simp [ht])) h2 (fun m hm => hw m (.inr hm)) fun j t v h1 h2 => hok (j + 1) t v (by simpa using h1) (by simpa using h2)
  refine ⟨a :: as,⟨ha,g1⟩,by simp [g2],fun i x y hx hy => ?_,fun μ hμ => ?_⟩
  ·cases i with
   | zero =>
    simp at hx hy
    subst hx; subst hy
    exact arg_rel ha hf (hok 0 t v rfl rfl)
   | succ i => exact g3 i x y (by simpa using hx) (by simpa using hy)
  ·have h1:=hba μ hμ
   have h2:=g4 μ hμ
   simp only [bulkL,List.map_cons,List.sum_cons]
   omega
theorem trodAll_below (hl : laidOutB P = true) {W W' : World} (hb : Below W.heap.size W W') : ∀ (ts : List TypeId) (vs : List Value) (ds : List (DataW H)) (ps : List MemPlace),(∀ t ∈ ts,P.readableRec t = true /\ t < P.types.size) ->
  DataW.TrodAll enc P W 0 (fun _ => true) true ts vs ds ps -> (∀ x ∈ ps,x.block < W.heap.size) -> DataW.TrodAll enc P W' 0 (fun b => decide (b < W.heap.size)) true ts vs ds ps
 | [],vs,ds,ps,_,h,_ => by
  obtain ⟨rfl,rfl,rfl⟩:=trodAll_nil h
  rfl
 | t :: ts,vs,ds,ps,hr,h,hlt => by
  obtain ⟨v,vs',d,ds',p,q,rfl,rfl,rfl,h1,h2⟩:=trodAll_cons h
  exact ⟨p,q,Below.trod hl (hr t (by simp)).1 (hr t (by simp)).2 h1 hb fun x hx => hlt x (by simp [hx]),
   trodAll_below hl hb ts vs' ds' q (fun t ht => hr t (by simp [ht])) h2 fun x hx => hlt x (by simp [hx]),rfl⟩
theorem start_rel {as : List AV} {us : List Value} (hg : GOk ⟨[],fun _ => .imm⟩ w) (hlen : as.length = us.length) (hrel : ∀ (i : Nat) (a : AV) (v : Value),as[i]? = some a -> us[i]? = some v -> VRel ⟨[],fun _ => .imm⟩ w a v /\ a.owned = false) :
  CRel (fun b => b < w.heap.size) ⟨[],fun _ => .imm⟩ as [] us w:=by
 refine ⟨⟨hlen,fun i a u h1 h2 => (hrel i a u h1 h2).1,fun i a u h1 h2 => tok_nil_all (toks_owned (hrel i a u h1 h2).2 u) _ _ _⟩,⟨rfl,fun o cs b h => by simp at h,fun o o' cs cs' b h => by simp at h,fun b h => h,hg⟩,fun b => ?_⟩
 have h0 : tcnt b as us = 0:=by
  have : ¬ 0 < tcnt b as us:=fun hp => by
   obtain ⟨i,a,u,h1,h2,p,hp,ht⟩:=tcnt_pos as us hp
   have h3:=toks_owned (hrel i a u h1 h2).2 u
   have : b ∈ toks a u:=List.mem_filterMap.2 ⟨p,hp,ht⟩
   rw [h3] at this
   cases this
  omega
 rw [h0]
 simp [hcnt]
theorem law_contract {C : Checked} {f : FuncId} {fn : Func} {s : ChangeSpec} {apart handsOn : Bool} {tb : TypeId} (S : List TypeId)
  (hl : laidOutB C.prog = true) (hS : tysOk C.prog S = true) (hpar : ∀ t ∈ fn.params.toList,t ∈ S /\ C.prog.readableRec t = true /\ t < C.prog.types.size)
  (hres : fn.resultTypes = #[tb]) (htb : C.prog.underlying tb = some .bool) (hv : s.vars = [])
  (hs : ∀ (H : Type) (ds : List (DataW H)),ds.length = fn.params.size -> s.fn H ds = { results:=[.lit (.bool true)],args:=ds })
  (W : World) (hglob : GOk ⟨[],fun _ => .imm⟩ W) (base : Nat) (args : Array Value) (ds gs : List (DataW H)) (before : List MemPlace)
  (law : ∀ as,RdAll C.prog fn.params.toList as -> (∀ μ : DataW H -> Nat,BulkOk μ -> bulkL as <= (ds.map μ).sum) -> PCall C.prog f as (.bool true))
  (hval : ∀ (j : Nat) t v,fn.params[j]? = some t -> args[j]? = some v -> Value.okWide C.prog W .any base t v)
  (hW : DataW.Whole enc C.prog fn.params.toList s.vars apart W args.toList ds gs before)
  (hwt : (DataW.weightsEach C.prog (fn.params.toList ++ s.plain.varTypes C.prog) (ds ++ gs)).all (· <= reachBytes) = true) :
  Calls C.prog f args W fun e W' => ∃ v,e = .returned v /\ s.post enc C.prog fn apart true handsOn false W args v W':=by
 have hW':=hW
 obtain ⟨p,q,hA,hV,rfl,hfz,hnd⟩:=hW
 rw [hv] at hV
 have hg : gs = [] /\ q = []:=by
  cases gs with
  | nil => simp [DataW.TrodVars] at hV; exact ⟨rfl,hV⟩
  | cons g gs => simp [DataW.TrodVars] at hV
 obtain ⟨rfl,rfl⟩:=hg
 have hwt' : ∀ m ∈ DataW.weightsEach C.prog fn.params.toList ds,m <= reachBytes:=by
  intro m hm
  have e : s.plain.varTypes C.prog = []:=by
   have : s.plain.vars = []:=by rw [<- hv]; rfl
   simp [DataSpec.varTypes,this]
  rw [e,List.append_nil,List.append_nil] at hwt
  have:=List.all_eq_true.1 hwt m hm
  simpa using this
 obtain ⟨as,h1,h2,h3,h4⟩:=args_rel (G:=⟨[],fun _ => .imm⟩) (base:=base) hS (fun _ => rfl) fn.params.toList args.toList ds p (fun t ht => (hpar t ht).1) hA hwt' fun j t v hj hv => hval j t v (by simpa using hj) (by simpa using hv)
 have hc:=start_rel hglob h2 h3
 have hcall:=(law as h1 h4 []).2 _ _ W args.toList hc
 rw [Array.toArray_toList] at hcall
 refine hcall.mono fun e W' he => ?_
 obtain ⟨u,rfl,v,H',G',⟨rfl,rfl⟩,hcr,hext⟩:=he
 obtain ⟨hu,_,_⟩:=hcr.l.uncons
 have hu' : u = .bool true:=by cases hu; rfl
 subst hu'
 have hb : Below W.heap.size W W':=⟨hext.io.1,hext.io.2.1,hext.io.2.2,hext.size,fun k hk => hext.cells k hk⟩
 have hdl : ds.length = fn.params.size:=by
  have : ∀ (ts : List TypeId) (vs : List Value) (ds : List (DataW H)) (ps : List MemPlace),DataW.TrodAll enc C.prog W 0 (fun _ => true) true ts vs ds ps -> ds.length = ts.length:=by
   intro ts
   induction ts with
   | nil => intro vs ds ps h; obtain ⟨_,rfl,_⟩:=trodAll_nil h; rfl
   | cons t ts ih => intro vs ds ps h; obtain ⟨v,vs',d,ds',p,q,_,rfl,_,_,h2⟩:=trodAll_cons h; simp [ih _ _ _ h2]
  simpa using this _ _ _ _ hA
 refine ⟨_,rfl,ds,[],p ++ [],[],p,[],hW', ?_, ?_, ?_,hb.frame _,fun h => by cases h⟩
 ·rw [List.append_nil,hs H ds hdl,hres]
  exact trodAll_mk1 ⟨1,by simp [DataW.trod,Value.cells,htb]⟩
 ·rw [List.append_nil,hs H ds hdl]
  exact trodAll_below hl hb _ _ _ _ (fun t ht => (hpar t ht).2) hA fun x hx => hW'.lt x (by simp [hx])
 ·rw [List.append_nil,hs H ds hdl,hv]
  rfl
end
end Go.AI
