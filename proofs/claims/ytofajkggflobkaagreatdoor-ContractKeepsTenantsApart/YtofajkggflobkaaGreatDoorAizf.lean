/- Arguments as data: what a value that can be read as data looks like on the abstract side. -/
import Derived.Test.YtofajkggflobkaaGreatDoorMd
import Derived.ProofKit
import Derived.SizedLaws
set_option linter.unusedSimpArgs false
set_option linter.unusedVariables false
namespace Go.AI
inductive Rd (P : Program) : TypeId -> AV -> Prop where
 | bool {t : TypeId} (b : Bool) (h : P.underlying t = some .bool) : Rd P t (.bool b)
 | int {t : TypeId} {k : IntKind} {n : Int} (h : P.underlying t = some (.int k)) (hw : k.min <= n /\ n <= k.max) : Rd P t (.int k n)
 | str {t : TypeId} {s : ByteArray} (h : P.underlying t = some .string) (hs : s.size <= reachBytes) : Rd P t (.str s)
 | slice {t e : TypeId} {es : List AV} (h : P.underlying t = some (.slice e)) (hl : es.length <= maxLen) (hb : es.length * P.bytesOf e <= reachBytes) (he : ∀ x ∈ es,Rd P e x) : Rd P t (.sl none es)
 | struct {t : TypeId} {fs : Array Field} {parts : List AV} (h : P.underlying t = some (.struct fs)) (hl : parts.length = fs.size)
   (hp : ∀ (i : Nat) (f : Field) (x : AV),fs[i]? = some f -> parts[i]? = some x -> Rd P f.type x) : Rd P t (.agg (cat parts))
 | array {t e : TypeId} {n : Nat} {parts : List AV} (h : P.underlying t = some (.array n e)) (hl : parts.length = n) (hp : ∀ x ∈ parts,Rd P e x) : Rd P t (.agg (cat parts))
def fieldsFit (P : Program) : Nat -> List Field -> Nat -> Bool
 | off,[],total => off == total
 | off,f :: fs,total => f.offset == off && fieldsFit P (off + P.cellsOf f.type) fs total
def tysOk (P : Program) (S : List TypeId) : Bool:=S.all fun t => match P.underlying t with
 | some .bool | some (.int _) | some .string => P.cellsOf t == 1
 | some (.slice e) => P.cellsOf t == 1 && S.contains e && decide (0 < P.cellsOf e)
 | some (.struct fs) => fieldsFit P 0 fs.toList (P.cellsOf t) && fs.toList.all fun f => S.contains f.type
 | some (.array n e) => S.contains e && P.cellsOf t == n * P.cellsOf e
 | _ => false
mutual
def AV.bulk : AV -> Nat
 | .str s => s.size + 1
 | .sl _ es => 1 + bulkL es
 | .agg cs => bulkL cs
 | .tup cs => bulkL cs
 | _ => 1
def bulkL : List AV -> Nat
 | [] => 0
 | a :: l => a.bulk + bulkL l
end
structure BulkOk {H : Type} (μ : DataW H -> Nat) : Prop where
 one : ∀ d,1 <= μ d
 str : ∀ s : List UInt8,s.length + 1 <= μ (.lit (.string s))
 sl : ∀ es sp,1 + (es.map μ).sum <= μ (.slice es sp)
 agg : ∀ ps,(ps.map μ).sum <= μ (.agg ps)
theorem bulkL_append (l l' : List AV) : bulkL (l ++ l') = bulkL l + bulkL l':=by
 induction l with
 | nil => simp [bulkL]
 | cons a l ih => simp [bulkL,ih]; omega
theorem bulkL_cells (a : AV) : bulkL a.cells = a.bulk:=by
 cases a <;> simp [AV.cells,bulkL,AV.bulk]
theorem bulkL_cat (es : List AV) : bulkL (cat es) = bulkL es:=by
 induction es with
 | nil => rfl
 | cons e es ih =>
  have : cat (e :: es) = e.cells ++ cat es:=by simp [cat]
  rw [this,bulkL_append,bulkL_cells,ih]; rfl
theorem bulk_sum {D : Type} {μ : D -> Nat} : ∀ {es : List AV} {ds : List D},es.length = ds.length -> (∀ (i : Nat) (x : AV) (d : D),es[i]? = some x -> ds[i]? = some d -> x.bulk <= μ d) -> bulkL es <= (ds.map μ).sum
 | [],_,_,_ => by simp [bulkL]
 | e :: es,[],h,_ => by simp at h
 | e :: es,d :: ds,hl,h => by
  have h0:=h 0 e d rfl rfl
  have h1:=bulk_sum (es:=es) (ds:=ds) (by simpa using hl) fun i x y hx hy => h (i + 1) x y (by simpa using hx) (by simpa using hy)
  simp only [bulkL,List.map_cons,List.sum_cons]
  omega
structure FitL (G : Gh) (w : World) (as : List AV) (cs : List Value) : Prop where
 len : as.length = cs.length
 sc : ∀ c ∈ as,c.scalar = true /\ owned1 c = false
 rel : ∀ (i : Nat) (c : AV) (v : Value),as[i]? = some c -> cs[i]? = some v -> VRel G w c v
section
variable {P : Program} {G : Gh} {w : World}
theorem FitL.nil : FitL G w [] []:=⟨rfl,fun c hc => by simp at hc,fun i c v h => by simp at h⟩
theorem FitL.append {as bs : List AV} {cs ds : List Value} (h : FitL G w as cs) (h' : FitL G w bs ds) : FitL G w (as ++ bs) (cs ++ ds):=by
 refine ⟨by simp [h.len,h'.len],fun c hc => ?_,fun i c v h1 h2 => ?_⟩
 ·rcases List.mem_append.1 hc with hc | hc
  ·exact h.sc c hc
  ·exact h'.sc c hc
 ·have:=h.len
  by_cases hi : i < as.length
  ·rw [List.getElem?_append_left hi] at h1
   rw [List.getElem?_append_left (by omega)] at h2
   exact h.rel i c v h1 h2
  ·rw [List.getElem?_append_right (by omega)] at h1
   rw [List.getElem?_append_right (by omega)] at h2
   exact h'.rel (i - as.length) c v h1 (by rw [h.len]; exact h2)
theorem FitL.one {c : AV} {v : Value} (hs : c.scalar = true) (ho : owned1 c = false) (h : VRel G w c v) : FitL G w [c] [v]:=by
 refine ⟨rfl,fun d hd => by simp at hd; subst hd; exact ⟨hs,ho⟩,fun i d u h1 h2 => ?_⟩
 cases i with
 | zero => simp at h1 h2; subst h1; subst h2; exact h
 | succ i => simp at h1
theorem exists_list {α : Type} {p : Nat -> α -> Prop} : ∀ (n : Nat),(∀ i,i < n -> ∃ x,p i x) -> ∃ l : List α,l.length = n /\ ∀ (i : Nat) (x : α),l[i]? = some x -> p i x
 | 0,_ => ⟨[],rfl,fun i x h => by simp at h⟩
 | n + 1,h => by
  obtain ⟨l,h1,h2⟩:=exists_list n fun i hi => h i (by omega)
  obtain ⟨x,hx⟩:=h n (by omega)
  refine ⟨l ++ [x],by simp [h1],fun i y hy => ?_⟩
  by_cases hi : i < l.length
  ·rw [List.getElem?_append_left hi] at hy; exact h2 i y hy
  ·rw [List.getElem?_append_right (by omega)] at hy
   have h0 : i - l.length = 0:=by
    have:=(List.getElem?_eq_some_iff.1 hy).1
    simp at this; omega
   rw [h0] at hy
   simp at hy
   have : i = n:=by omega
   subst this; subst hy; exact hx
theorem cat_get {es : List AV} {n i : Nat} {c : AV} (hn : ∀ e ∈ es,e.cells.length = n) (h : (cat es)[i]? = some c) : ∃ (k j : Nat) (x : AV),i = k * n + j /\ j < n /\ es[k]? = some x /\ x.cells[j]? = some c:=by
 induction es generalizing i with
 | nil => simp [cat] at h
 | cons e es ih =>
  simp only [cat,List.flatMap_cons] at h
  have he:=hn e (by simp)
  by_cases hi : i < n
  ·rw [List.getElem?_append_left (by omega)] at h
   exact ⟨0,i,e,by omega,hi,rfl,h⟩
  ·rw [List.getElem?_append_right (by omega),he] at h
   obtain ⟨k,j,x,h1,h2,h3,h4⟩:=ih (fun e he => hn e (by simp [he])) h
   exact ⟨k + 1,j,x,by rw [Nat.add_mul]; omega,h2,by simpa using h3,h4⟩
section
variable {H : Type} {enc : TypeId × Value -> H} {base : Nat} {held : Bool}
theorem weightsAll_mem {e : TypeId} : ∀ {ds : List (DataW H)} {d : DataW H},d ∈ ds -> ∀ m ∈ d.weights P e,m ∈ DataW.weightsAll P e ds
 | x :: ds,d,hd,m,hm => by
  simp only [DataW.weightsAll,List.mem_append]
  rcases List.mem_cons.1 hd with rfl | hd
  ·exact .inl hm
  ·exact .inr (weightsAll_mem hd m hm)
theorem spot_none {a : Addr} {v : Value} (h : w.cell? a = some v) : a.spot = none:=by
 unfold World.cell? at h
 split at h
 ·split at h
  ·cases h
  ·rename_i hs; simpa using hs
 ·cases h
theorem fit_fields {S : List TypeId} {rec : TypeId -> List Value -> Option (DataW H × List MemPlace)} {cs : List Value}
  (hrec : ∀ t cs d ps,t ∈ S -> rec t cs = some (d,ps) -> (∀ m ∈ d.weights P t,m <= reachBytes) -> ∃ a,Rd P t a /\ FitL G w a.cells cs /\ ∀ μ : DataW H -> Nat,BulkOk μ -> a.bulk <= μ d) :
  ∀ (fs : List Field) (off : Nat) (xs : List (DataW H × List MemPlace)),fieldsFit P off fs cs.length = true -> (∀ f ∈ fs,f.type ∈ S) -> off <= cs.length ->
   fs.mapM (fun f => rec f.type ((cs.drop f.offset).take (P.cellsOf f.type))) = some xs -> (∀ m ∈ DataW.weightsEach P (fs.map (·.type)) (xs.map (·.1)),m <= reachBytes) ->
   ∃ parts,parts.length = fs.length /\ (∀ (i : Nat) (f : Field) (x : AV),fs[i]? = some f -> parts[i]? = some x -> Rd P f.type x) /\ FitL G w (cat parts) (cs.drop off) /\ ∀ μ : DataW H -> Nat,BulkOk μ -> bulkL parts <= ((xs.map (·.1)).map μ).sum
 | [],off,xs,hf,_,hle,hm,_ => by
  simp only [fieldsFit,beq_iff_eq] at hf
  subst hf
  exact ⟨[],rfl,fun i f x h => by simp at h,by simpa [cat] using FitL.nil,fun μ _ => by simp [bulkL]⟩
 | f :: fs,off,xs,hf,hS,hle,hm,hw => by
  simp only [fieldsFit,Bool.and_eq_true,beq_iff_eq] at hf
  obtain ⟨hoff,hf⟩:=hf
  subst hoff
  simp only [List.mapM_cons,Option.bind_eq_bind] at hm
  cases h1 : rec f.type ((cs.drop f.offset).take (P.cellsOf f.type)) with
  | none => rw [h1] at hm; simp at hm
  | some x =>
   rw [h1] at hm
   simp only [Option.bind_some] at hm
   cases h2 : fs.mapM (fun f => rec f.type ((cs.drop f.offset).take (P.cellsOf f.type))) with
   | none => rw [h2] at hm; simp at hm
   | some ys =>
    rw [h2] at hm
    simp only [Option.bind_some] at hm
    cases hm
    simp only [List.map_cons,DataW.weightsEach,List.mem_append] at hw
    have hle' : ∀ (fs : List Field) (o : Nat),fieldsFit P o fs cs.length = true -> o <= cs.length:=by
     intro fs
     induction fs with
     | nil => intro o h; simp only [fieldsFit,beq_iff_eq] at h; omega
     | cons g gs ih => intro o h; simp only [fieldsFit,Bool.and_eq_true,beq_iff_eq] at h; have:=ih _ h.2; omega
    have hle2:=hle' fs _ hf
    obtain ⟨a,ha,hfa,hba⟩:=hrec _ _ x.1 x.2 (hS f (by simp)) h1 fun m hm => hw m (.inl hm)
    obtain ⟨parts,p1,p2,p3,p4⟩:=fit_fields hrec fs (f.offset + P.cellsOf f.type) ys hf (fun g hg => hS g (by simp [hg])) hle2 h2 fun m hm => hw m (.inr hm)
    refine ⟨a :: parts,by simp [p1],fun i g y hg hy => ?_, ?_,fun μ hμ => ?_⟩
    ·cases i with
     | zero => simp at hg hy; subst hg; subst hy; exact ha
     | succ i => exact p2 i g y (by simpa using hg) (by simpa using hy)
    ·have e : cs.drop f.offset = (cs.drop f.offset).take (P.cellsOf f.type) ++ cs.drop (f.offset + P.cellsOf f.type):=by
      rw [<- List.drop_drop,List.take_append_drop]
     rw [e]
     simp only [cat,List.flatMap_cons]
     exact hfa.append p3
    ·have h1:=hba μ hμ
     have h2:=p4 μ hμ
     simp only [bulkL,List.map_cons,List.sum_cons]
     omega
theorem fit_array {n : Nat} {parts : List AV} {cs : List Value} (hp : ∀ (i : Nat) (x : AV),parts[i]? = some x -> FitL G w x.cells ((cs.drop (i * n)).take n)) (hc : cs.length = parts.length * n) : FitL G w (cat parts) cs:=by
 induction parts generalizing cs with
 | nil => simp at hc; subst hc; simpa [cat] using FitL.nil
 | cons x xs ih =>
  have h0:=hp 0 x rfl
  simp only [Nat.zero_mul,List.drop_zero] at h0
  have h1:=ih (cs:=cs.drop n) (fun i y hy => by
   have:=hp (i + 1) y (by simpa using hy)
   rw [List.drop_drop]
   rw [Nat.add_mul,Nat.one_mul,Nat.add_comm] at this
   exact this) (by simp at hc ⊢; rw [Nat.add_mul] at hc; omega)
  have:=h0.append h1
  rw [List.take_append_drop] at this
  simpa [cat] using this
theorem rd_of_trod {S : List TypeId} (hS : tysOk P S = true) (hG : ∀ b,G.kind b = .imm) : ∀ (fuel : Nat) (t : TypeId) (cs : List Value) (d : DataW H) (ps : List MemPlace),t ∈ S ->
  DataW.trod enc P w base (fun _ => true) held fuel t cs = some (d,ps) -> (∀ m ∈ d.weights P t,m <= reachBytes) -> ∃ a,Rd P t a /\ FitL G w a.cells cs /\ ∀ μ : DataW H -> Nat,BulkOk μ -> a.bulk <= μ d
 | 0,t,cs,d,ps,_,h,_ => by simp [DataW.trod] at h
 | fuel + 1,t,cs,d,ps,ht,h,hw => by
  have ih:=rd_of_trod hS hG fuel
  have hst:=List.all_eq_true.1 hS t ht
  unfold DataW.trod at h
  cases hu : P.underlying t with
  | none => rw [hu] at hst; cases hst
  | some dd =>
   rw [hu] at hst h
   cases dd <;> try (cases hst; done)
   case bool =>
    dsimp only at h
    split at h
    case h_1 => rename_i b hd; exact ⟨.bool b,.bool b hu,.one rfl rfl (.bool b),fun μ hμ => hμ.one _⟩
    all_goals first | (simp at *; done) | (rename_i heq _; cases heq)
   case int k =>
    dsimp only at h
    split at h
    case h_2 =>
     rename_i k1 k2 n hd
     cases hd
     split at h
     ·rename_i hk
      obtain ⟨rfl,hk⟩:=hk
      simp only [Lit.wf,Bool.and_eq_true,decide_eq_true_eq] at hk
      exact ⟨.int k2 n,.int hu hk,.one rfl rfl (.int _ _),fun μ hμ => hμ.one _⟩
     ·cases h
    all_goals first | (simp at *; done) | (rename_i heq _; cases heq)
   case string =>
    dsimp only at h
    split at h
    case h_4 =>
     rename_i s hd
     split at h
     ·cases h
      simp only [DataW.weights,List.mem_singleton,forall_eq] at hw
      exact ⟨.str s,.str hu (by simpa using hw),.one rfl rfl (.str s),fun μ hμ => by have:=hμ.str s.data.toList; simpa [AV.bulk] using this⟩
     ·cases h
    all_goals first | (simp at *; done) | (rename_i heq _; cases heq)
   case slice e =>
    simp only [Bool.and_eq_true,beq_iff_eq,List.contains_iff_mem,decide_eq_true_eq] at hst
    obtain ⟨⟨_,he⟩,hpos⟩:=hst
    dsimp only at h
    split at h
    case h_7 => exact ⟨.sl none [],.slice hu (by simp) (by simp) (fun x hx => by simp at hx),.one rfl rfl (.slnil _),fun μ hμ => by have:=hμ.one d; simpa [AV.bulk,bulkL] using this⟩
    case h_8 =>
     rename_i e' a len cap hd
     cases hd
     split at h
     case isFalse => cases h
     rename_i hcond
     cases hm : (List.range len).mapM fun i => (w.cells? base (a.add (i * P.cellsOf e)) (P.cellsOf e)).bind (DataW.trod enc P w base (fun _ => true) held fuel e) with
     | none => rw [hm] at h; simp at h
     | some elems =>
      rw [hm] at h
      simp only [Option.bind_some,if_true] at h
      cases hr : (List.range (cap - len)).mapM fun j => (w.cells? base (a.add ((len + j) * P.cellsOf e)) (P.cellsOf e)).bind (DataW.trod enc P w base (fun _ => true) held fuel e) with
      | none => rw [hr] at h; simp at h
      | some rest =>
       rw [hr] at h
       simp only [Option.map_some,Option.some.injEq,Prod.mk.injEq] at h
       obtain ⟨rfl,_⟩:=h
       simp only [DataW.weights,hu,List.mem_cons,List.mem_append,List.length_map] at hw
       have hel:=mapM_some_length hm
       simp only [List.length_range] at hel
       have hb : (elems.length + rest.length) * P.bytesOf e <= reachBytes:=hw _ (.inl rfl)
       have hb2 : len * P.bytesOf e <= reachBytes:=Nat.le_trans (Nat.mul_le_mul_right _ (by omega)) hb
       have hat : ∀ i,i < len -> ∃ x,Rd P e x /\ (∃ ci,w.cells? base (a.add (i * P.cellsOf e)) (P.cellsOf e) = some ci /\ FitL G w x.cells ci) /\ ∀ y,elems[i]? = some y -> ∀ μ : DataW H -> Nat,BulkOk μ -> x.bulk <= μ y.1:=by
        intro i hi
        have hg:=mapM_some_get hm i i (by simp [hi])
        have hlt : i < elems.length:=by omega
        rw [List.getElem?_eq_getElem hlt] at hg
        cases hc : w.cells? base (a.add (i * P.cellsOf e)) (P.cellsOf e) with
        | none => rw [hc] at hg; simp at hg
        | some ci =>
         rw [hc] at hg
         simp only [Option.bind_some] at hg
         obtain ⟨x,hx,hf,hbx⟩:=ih e ci elems[i].1 elems[i].2 he hg fun m hm => hw m (.inr (.inl (weightsAll_mem (List.mem_map.2 ⟨elems[i],List.getElem_mem hlt,rfl⟩) m hm)))
         exact ⟨x,hx,⟨ci,rfl,hf⟩,fun y hy μ hμ => by rw [List.getElem?_eq_getElem hlt] at hy; cases hy; exact hbx μ hμ⟩
       have hspot : 0 < cap -> a.spot = none:=by
        intro hc0
        by_cases h0 : 0 < len
        ·obtain ⟨x,_,⟨ci,hci,_⟩,_⟩:=hat 0 h0
         obtain ⟨_,h1,h2⟩:=World.cells?_some hci
         have h3:=h2 0 hpos
         rw [Nat.zero_mul,show (a.add 0).add 0 = a from rfl] at h3
         have hlt : 0 < ci.length:=by omega
         rw [List.getElem?_eq_getElem hlt] at h3
         exact spot_none h3
        ·have hg:=mapM_some_get hr 0 0 (by rw [List.getElem?_range (by omega)])
         have hrl:=mapM_some_length hr
         simp only [List.length_range] at hrl
         have hlt : 0 < rest.length:=by omega
         rw [List.getElem?_eq_getElem hlt] at hg
         have hl0 : len = 0:=by omega
         subst hl0
         cases hc : w.cells? base (a.add ((0 + 0) * P.cellsOf e)) (P.cellsOf e) with
         | none => rw [hc] at hg; simp at hg
         | some ci =>
          obtain ⟨_,h1,h2⟩:=World.cells?_some hc
          have h3:=h2 0 hpos
          rw [Nat.add_zero,Nat.zero_mul,show (a.add 0).add 0 = a from rfl] at h3
          have hlt : 0 < ci.length:=by omega
          rw [List.getElem?_eq_getElem hlt] at h3
          exact spot_none h3
       obtain ⟨es,hes,hes2⟩:=exists_list len hat
       have hrd : ∀ x ∈ es,Rd P e x:=fun x hx => by
        obtain ⟨i,hi⟩:=List.getElem?_of_mem hx
        exact (hes2 i x hi).1
       refine ⟨.sl none es,.slice hu (by omega) (by rw [hes]; exact hb2) hrd,.one rfl rfl ?_,fun μ hμ => Nat.le_trans (Nat.add_le_add_left (bulk_sum (ds:=elems.map (·.1)) (by simp; omega) fun i x d hx hd => by
        rw [List.getElem?_map] at hd
        cases hy : elems[i]? with
        | none => rw [hy] at hd; cases hd
        | some y => rw [hy] at hd; cases hd; exact (hes2 i x hx).2.2 y hy μ hμ) 1) (hμ.sl _ _)⟩
       by_cases hc0 : 0 < cap
       ·have hsp:=hspot hc0
        have hsz : ∀ x ∈ es,x.cells.length = P.cellsOf e:=fun x hx => by
         obtain ⟨i,hi⟩:=List.getElem?_of_mem hx
         obtain ⟨_,⟨ci,hci,hf⟩,_⟩:=hes2 i x hi
         rw [hf.len]; exact (World.cells?_some hci).2.1
        have haddr : a = ⟨a.block,a.off,none⟩:=by cases a; simp at hsp; subst hsp; rfl
        have key : ∀ (i : Nat) (c : AV),(cat es)[i]? = some c -> c.scalar = true /\ ∃ v,w.cell? ⟨a.block,a.off + i,none⟩ = some v /\ VRel G w c v:=by
         intro i c hi
         obtain ⟨k,j,x,h1,h2,h3,h4⟩:=cat_get hsz hi
         obtain ⟨_,⟨ci,hci,hf⟩,_⟩:=hes2 k x h3
         obtain ⟨_,g1,g2⟩:=World.cells?_some hci
         have g3:=g2 j h2
         have hlt : j < ci.length:=by omega
         rw [List.getElem?_eq_getElem hlt] at g3
         rw [haddr,addr_add,addr_add] at g3
         refine ⟨(hf.sc c (List.mem_of_getElem? h4)).1,ci[j], ?_,hf.rel j c _ h4 (List.getElem?_eq_getElem hlt)⟩
         rw [h1,<- Nat.add_assoc]; exact g3
        rw [haddr]
        have:=VRel.sl (G:=G) (w:=w) none es (P.cellsOf e) a.block a.off cap (fun i => (w.cell? ⟨a.block,a.off + i,none⟩).getD Go.undef) hsz (fun n hn => by cases hn) (by omega) hcond.2.2
         (fun i c hi => by
          obtain ⟨s,v,hv,_⟩:=key i c hi
          exact ⟨s,by simp [Gh.safe,hG],by rw [hv]; rfl⟩)
         (fun i c hi => by
          obtain ⟨_,v,hv,hr⟩:=key i c hi
          rw [hv]; exact hr)
        rw [hes] at this
        exact this
       ·have h0 : cap = 0:=by omega
        have h1 : len = 0:=by omega
        subst h0; subst h1
        have : es = []:=List.eq_nil_of_length_eq_zero hes
        subst this
        exact .slany none a
    all_goals first | (simp at *; done) | (rename_i heq _; cases heq)
   case struct fs =>
    simp only [Bool.and_eq_true,List.all_eq_true,List.contains_iff_mem] at hst
    dsimp only at h
    split at h
    case isFalse => cases h
    rename_i hlen
    cases hm : fs.toList.mapM fun f => DataW.trod enc P w base (fun _ => true) held fuel f.type ((cs.drop f.offset).take (P.cellsOf f.type)) with
    | none => rw [hm] at h; simp at h
    | some xs =>
     rw [hm] at h
     simp only [Option.map_some,Option.some.injEq,Prod.mk.injEq] at h
     obtain ⟨rfl,_⟩:=h
     simp only [DataW.weights,hu] at hw
     obtain ⟨parts,p1,p2,p3,p4⟩:=fit_fields (G:=G) (w:=w) (P:=P) (S:=S) ih fs.toList 0 xs (by rw [hlen]; exact hst.1) hst.2 (Nat.zero_le _) hm hw
     exact ⟨.agg (cat parts),.struct hu (by simpa using p1) (fun i f x hf hx => p2 i f x (by simpa using hf) hx),by simpa [AV.cells] using p3,fun μ hμ => by
      have h1:=p4 μ hμ
      have h2:=hμ.agg (xs.map (·.1))
      simp only [AV.bulk,bulkL_cat]
      omega⟩
   case array n e =>
    simp only [Bool.and_eq_true,beq_iff_eq,List.contains_iff_mem] at hst
    dsimp only at h
    split at h
    case isFalse => cases h
    rename_i hlen
    cases hm : (List.range n).mapM fun i => DataW.trod enc P w base (fun _ => true) held fuel e ((cs.drop (i * P.cellsOf e)).take (P.cellsOf e)) with
    | none => rw [hm] at h; simp at h
    | some xs =>
     rw [hm] at h
     simp only [Option.map_some,Option.some.injEq,Prod.mk.injEq] at h
     obtain ⟨rfl,_⟩:=h
     simp only [DataW.weights,hu] at hw
     have hxl:=mapM_some_length hm
     simp only [List.length_range] at hxl
     obtain ⟨parts,q1,q2⟩:=exists_list (p:=fun i x => Rd P e x /\ FitL G w x.cells ((cs.drop (i * P.cellsOf e)).take (P.cellsOf e)) /\ ∀ y,xs[i]? = some y -> ∀ μ : DataW H -> Nat,BulkOk μ -> x.bulk <= μ y.1) n fun i hi => by
      have hg:=mapM_some_get hm i i (by simp [hi])
      have hlt : i < xs.length:=by omega
      rw [List.getElem?_eq_getElem hlt] at hg
      obtain ⟨x,hx1,hx2,hx3⟩:=ih e _ xs[i].1 xs[i].2 hst.1 hg fun m hm => hw m (weightsAll_mem (List.mem_map.2 ⟨xs[i],List.getElem_mem hlt,rfl⟩) m hm)
      exact ⟨x,hx1,hx2,fun y hy μ hμ => by rw [List.getElem?_eq_getElem hlt] at hy; cases hy; exact hx3 μ hμ⟩
     refine ⟨.agg (cat parts),.array hu q1 (fun x hx => ?_), ?_,fun μ hμ => ?_⟩
     ·obtain ⟨i,hi⟩:=List.getElem?_of_mem hx
      exact (q2 i x hi).1
     ·exact fit_array (fun i x hx => (q2 i x hx).2.1) (by rw [q1,hlen,hst.2])
     ·have h1:=bulk_sum (μ:=μ) (es:=parts) (ds:=xs.map (·.1)) (by simp; omega) fun i x d hx hd => by
       rw [List.getElem?_map] at hd
       cases hy : xs[i]? with
       | none => rw [hy] at hd; cases hd
       | some y => rw [hy] at hd; cases hd; exact (q2 i x hx).2.2 y hy μ hμ
      have h2:=hμ.agg (xs.map (·.1))
      simp only [AV.bulk,bulkL_cat]
      omega
end
end
end Go.AI
