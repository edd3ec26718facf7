/- That the model's operations do what 'ares' says: equality. -/
import Derived.Test.YtofajkggflobkaaGreatDoorAiM
import Derived.Lib.LazyBuf
set_option linter.unusedSimpArgs false
set_option linter.unusedVariables false
namespace Go.AI
section
variable {P : Program} {F : Nat -> Prop} {G : Gh} {w : World} {H : Heap} {R : AV -> Heap -> Prop} {ρ : Operand -> Value}
theorem conj_cons {a : Option Bool} {as : List (Option Bool)} {r : Bool} (h : conj (a :: as) = some r) : ∃ x y,a = some x /\ conj as = some y /\ r = (x && y):=by
 cases a with
 | none => simp [conj] at h
 | some x => cases hc : conj as with
  | none => simp [conj,hc] at h
  | some y =>
   simp only [conj,hc,Option.some.injEq] at h
   exact ⟨x,y,rfl,rfl,h.symm⟩
theorem cells_part {t : TypeId} {cs : List AV} {vs : Array Value} {off : Nat} {v : AV} (hc : Cells F G w cs vs.toList) (hl : ldv P t cs off = some v) :
  ∃ u,(part t vs off).run P w = .ok u w /\ VRel G w v u /\ Cells F G w v.cells u.cells.toList:=by
 obtain ⟨u,h1,h2,h3,h4,h5,h6⟩:=part_sem hc hl
 refine ⟨u,h1,h2, ?_⟩
 rw [h5,h4]
 have:=(hc.drop off).take v.cells.length
 rw [h4] at this ⊢
 simpa using this
theorem aeqV_sem : ∀ (d : Nat) (t : TypeId) (x y : AV) (r : Bool),aeqV P d t x y = some r -> ∀ (k : Nat) (u v : Value),VRel G w x u -> VRel G w y v -> Cells F G w x.cells u.cells.toList -> Cells F G w y.cells v.cells.toList ->
  (Op.equalIn (d + k) t u v).run P w = .ok r w
 | 0,t,x,y,r,h,_,_,_,_,_,_,_ => by simp [aeqV] at h
 | d + 1,t,x,y,r,h,k,u,v,hu,hv,cx,cy => by
  rw [show d + 1 + k = (d + k) + 1 by omega]
  unfold aeqV at h
  split at h
  ·rename_i ht
   cases h; cases hu; cases hv
   exact run_equalIn_bool w _ t _ _ ht
  ·rename_i kk ht
   split at h
   ·rename_i hk
    subst hk
    cases h; cases hu; cases hv
    exact run_equalIn_int w _ t _ _ _ _ ht
   ·cases h
  ·rename_i ht
   cases h; cases hu; cases hv
   exact run_equalIn_string w _ t _ _ ht
  ·rename_i fs xs ys ht
   split at h
   ·cases h
   ·rename_i hso
    cases hu with
    | agg _ us _ _ _ => cases hv with
     | agg _ vs _ _ _ =>
      have hfs : P.fieldsOf t = fs:=by unfold Program.fieldsOf; rw [ht]
      rw [run_equalIn_struct w (d + k) t us vs (by rw [hfs]; exact ht) (by simpa using hso),hfs]
      generalize fs.toList = l at h
      induction l generalizing r with
      | nil => simp only [List.map_nil,conj] at h; cases h; rfl
      | cons f l ih =>
       simp only [List.map_cons] at h
       obtain ⟨a,b,h1,h2,rfl⟩:=conj_cons h
       split at h1
       ·cases h1
       ·rename_i hn
        split at h1
        ·rename_i va vb hla hlb
         obtain ⟨ua,p1,p2,p3⟩:=cells_part (P:=P) (vs:=us) cx hla
         obtain ⟨ub,q1,q2,q3⟩:=cells_part (P:=P) (vs:=vs) cy hlb
         have e:=aeqV_sem d f.type va vb a h1 k ua ub p2 q2 p3 q3
         simp only [Op.eqFields,hn,ne_eq,not_false_eq_true,if_true,Sem.run_bind,p1,q1,e,Result.andThen_ok]
         cases a
         ·simp
         ·simpa using ih b h2
        ·cases h1
  ·rename_i n el xs ys ht
   split at h
   ·rename_i hi
    obtain ⟨i,hi⟩:=Option.isSome_iff_exists.1 hi
    cases hu with
    | agg _ us _ _ _ => cases hv with
     | agg _ vs _ _ _ =>
      rw [run_equalIn_array w (d + k) us vs ht hi]
      generalize List.range n = l at h ⊢
      induction l generalizing r with
      | nil => simp only [List.map_nil,conj] at h; cases h; rfl
      | cons j l ih =>
       simp only [List.map_cons] at h
       obtain ⟨a,b,h1,h2,rfl⟩:=conj_cons h
       split at h1
       ·rename_i va vb hla hlb
        obtain ⟨ua,p1,p2,p3⟩:=cells_part (P:=P) (vs:=us) cx hla
        obtain ⟨ub,q1,q2,q3⟩:=cells_part (P:=P) (vs:=vs) cy hlb
        have e:=aeqV_sem d el va vb a h1 k ua ub p2 q2 p3 q3
        simp only [Op.eqItems,Sem.run_bind,p1,q1,e,Result.andThen_ok]
        cases a
        ·simp
        ·simpa using ih b h2
       ·cases h1
   ·cases h
  ·cases h
theorem aeql_sem {t : TypeId} {a b : AV} {r : Bool} (h : aeql P t a b = some r) {u v : Value} (hu : VRel G w a u) (hv : VRel G w b v) (tu : ∀ p ∈ prs a u,TokOk F G w p) (tv : ∀ p ∈ prs b v,TokOk F G w p) (x y : Operand) :
  (do eqGuard .eql t x y u v; binOp .eql t u v).run P w = .ok (.bool r) w /\ (do eqGuard .neq t x y u v; binOp .neq t u v).run P w = .ok (.bool !r) w:=by
 unfold aeql at h
 split at h <;> first | cases h | skip
 ·rename_i hb
  cases hu; cases hv
  simp [eqGuard,binOp,run_equal_bool w t _ _ hb]
 ·rename_i hp
  cases hu; cases hv
  constructor <;> simp [eqGuard,binOp,run_eq_nil_left _ hp]
 ·rename_i hp
  cases hu; cases hv
  constructor <;> simp [eqGuard,binOp,run_eq_nil_right _ hp]
 ·rename_i hp
  cases hu; cases hv
  constructor <;> simp [eqGuard,binOp,run_eq_nil_left _ hp]
 ·rename_i hp
  cases hu; cases hv
  constructor <;> simp [eqGuard,binOp,run_eq_nil_right _ hp]
 ·rename_i hp
  cases hu; cases hv
  constructor <;> simp [eqGuard,binOp,run_eq_nil_left _ hp]
 ·split at h
  ·cases h
  ·rename_i hg
   have ca:=(cells_of rfl hu tu).1
   have cb:=(cells_of rfl hv tv).1
   have e:=aeqV_sem (P:=P) 40 t _ _ r h 9960 u v hu hv ca cb
   cases hu; cases hv
   have e2 : (Op.equal t (.agg _) (.agg _)).run P w = .ok r w:=e
   constructor <;> simp [eqGuard,binOp,hg,e2]
theorem ok_binOp {op : BinOp} {t : TypeId} {x y : Operand} {a b : AV} (h : CRel F G [a,b] H [ρ x,ρ y] w) (hr : abinop P op t a b fun v => R v H) :
  OpRes P ((do let v <- (do eqGuard op t x y (ρ x) (ρ y); binOp op t (ρ x) (ρ y)); pure (Next.value v) : Sem Next).run P w) (KOut F G w R):=by
 have h1:=h.l.rel 0 _ _ rfl rfl
 have h2:=h.l.rel 1 _ _ rfl rfl
 have plain : abin op a b (fun v => R v H) -> OpRes P ((do let v <- (do eqGuard op t x y (ρ x) (ρ y); binOp op t (ρ x) (ρ y)); pure (Next.value v) : Sem Next).run P w) (KOut F G w R):=fun hb => by
  obtain ⟨c,r,hR,hv,ho,hs,hrun⟩:=abin_sem (P:=P) (t:=t) hb h1 h2 x y
  refine .value (u:=r) (w':=w) ?_ (KOut.plain h hR hv (toks_scalar ho hs r))
  rw [Sem.run_bind,hrun]; rfl
 unfold abinop at hr
 split at hr
 ·rename_i r he
  have:=(aeql_sem he h1 h2 (fun p hp => h.l.tok 0 _ _ rfl rfl p hp) (fun p hp => h.l.tok 1 _ _ rfl rfl p hp) x y).1
  refine .value (u:=.bool r) (w':=w) ?_ (KOut.plain h hr (.bool _) (toks_scalar rfl rfl _))
  rw [Sem.run_bind,this]; rfl
 ·rename_i r he
  have:=(aeql_sem he h1 h2 (fun p hp => h.l.tok 0 _ _ rfl rfl p hp) (fun p hp => h.l.tok 1 _ _ rfl rfl p hp) x y).2
  refine .value (u:=.bool !r) (w':=w) ?_ (KOut.plain h hr (.bool _) (toks_scalar rfl rfl _))
  rw [Sem.run_bind,this]; rfl
 ·exact plain hr
theorem ok_nilcmp {op : BinOp} {t : TypeId} {x y : Operand} {a b : AV} (h : CRel F G [a,b] H [ρ x,ρ y] w) (hy : ρ y = .slice none 0 0) (hr : nilcmp P op t a fun v => R v H) :
  OpRes P ((do let v <- (do eqGuard op t x y (ρ x) (ρ y); binOp op t (ρ x) (ρ y)); pure (Next.value v) : Sem Next).run P w) (KOut F G w R):=by
 have h1:=h.l.rel 0 _ _ rfl rfl
 rw [hy]
 have out : ∀ r : Bool,(do eqGuard op t x y (ρ x) (.slice none 0 0); binOp op t (ρ x) (.slice none 0 0)).run P w = .ok (.bool r) w -> R (.bool r) H ->
   OpRes P ((do let v <- (do eqGuard op t x y (ρ x) (.slice none 0 0); binOp op t (ρ x) (.slice none 0 0)); pure (Next.value v) : Sem Next).run P w) (KOut F G w R):=fun r hrun hR => by
  refine .value (u:=.bool r) (w':=w) ?_ (KOut.plain h hR (.bool _) (toks_scalar rfl rfl _))
  rw [Sem.run_bind,hrun]; rfl
 unfold nilcmp at hr
 split at hr
 case h_2 => exact hr.elim
 rename_i e hu
 have ev : ∀ (ad : Option Addr) (l c : Nat),ρ x = .slice ad l c -> (op = .eql -> (do eqGuard op t x y (ρ x) (.slice none 0 0); binOp op t (ρ x) (.slice none 0 0)).run P w = .ok (.bool ad.isNone) w) /\
   (op = .neq -> (do eqGuard op t x y (ρ x) (.slice none 0 0); binOp op t (ρ x) (.slice none 0 0)).run P w = .ok (.bool !ad.isNone) w):=by
  intro ad l c hx
  constructor <;> rintro rfl <;> simp [hx,eqGuard,binOp,Op.equal,Op.maxDepth,run_equalIn_slice_nil w 9999 t e ad l c hu]
 split at hr
 ·obtain ⟨u,hx⟩ : ∃ u,u = ρ x:=⟨_,rfl⟩
  rw [<- hx] at h1
  cases h1 with
  | slnil => exact out _ ((ev _ _ _ hx.symm).1 rfl) hr.1
  | slany => exact out _ ((ev _ _ _ hx.symm).1 rfl) hr.2
  | sl => exact out _ ((ev _ _ _ hx.symm).1 rfl) hr.2
 ·obtain ⟨u,hx⟩ : ∃ u,u = ρ x:=⟨_,rfl⟩
  rw [<- hx] at h1
  cases h1 with
  | slnil => exact out _ ((ev _ _ _ hx.symm).2 rfl) hr.2
  | slany => exact out _ ((ev _ _ _ hx.symm).2 rfl) hr.1
  | sl => exact out _ ((ev _ _ _ hx.symm).2 rfl) hr.1
 ·obtain ⟨u,hx⟩ : ∃ u,u = ρ x:=⟨_,rfl⟩
  rw [<- hx] at h1
  cases h1 with
  | sl => exact out _ ((ev _ _ _ hx.symm).1 rfl) hr
 ·obtain ⟨u,hx⟩ : ∃ u,u = ρ x:=⟨_,rfl⟩
  rw [<- hx] at h1
  cases h1 with
  | sl => exact out _ ((ev _ _ _ hx.symm).2 rfl) hr
 ·obtain ⟨u,hx⟩ : ∃ u,u = ρ x:=⟨_,rfl⟩
  rw [<- hx] at h1
  cases h1 with
  | msl => exact out _ ((ev _ _ _ hx.symm).1 rfl) hr
 ·obtain ⟨u,hx⟩ : ∃ u,u = ρ x:=⟨_,rfl⟩
  rw [<- hx] at h1
  cases h1 with
  | msl => exact out _ ((ev _ _ _ hx.symm).2 rfl) hr
 ·exact hr.elim
end
end Go.AI
