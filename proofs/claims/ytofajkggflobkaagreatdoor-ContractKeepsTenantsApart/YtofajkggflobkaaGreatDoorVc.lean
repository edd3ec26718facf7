/- Proved: interlacelaw19.ContractKeepsTenantsApart returns true for all arguments that are together of bulk at most 1048576, and they read as they did; the words of the language stand as the program's text lays them. -/
import Derived.Test.YtofajkggflobkaaGreatDoorCards
import Derived.Test.YtofajkggflobkaaGreatDoorTie
import Derived.Test.YtofajkggflobkaaGreatDoorQd
import Derived.ProofKit
import Derived.OpenShut
import Derived.Deep.DeepHandedRow
import Derived.Lib.LaidTab
import Derived.Test.YtofajkggflobkaaGreatDoorMl
import Derived.Test.YtofajkggflobkaaGreatDoorMz
namespace Go.Proofs.YtofajkggflobkaaGreatDoor
open Go.ChangeShapes Go.WideShapes Go.ChangeAt Go.RowKit Go.AI
theorem own_ok : ownKnob Tryz.prog.godebug = none:=by kernel_rfl
theorem laid_ok : laidOutB Tryz.prog = true:=by kernel_rfl
def rowTypes : List TypeId:=[31,89,3,34,26,27,28,29,9,82,83,85,86,87,22,23,24,115,66,120,252,128,216,246,117,166,77,64,123,126,214,4,62,121,118,212,5,32,49,107,50,36,57]
theorem bulkAll_sum {H : Type} (l : List (DataW H)) : Rows.uptoBulkAll l = (l.map Rows.uptoBulk).sum:=by
 induction l with
 | nil => simp [Rows.uptoBulkAll]
 | cons d r ih => simp only [Rows.uptoBulkAll,List.map_cons,List.sum_cons,ih]
theorem bulk_ok {H : Type} : BulkOk (Rows.uptoBulk (H:=H)) where
 one:=fun d => by cases d with
  | lit l => cases l <;> simp [Rows.uptoBulk]
  | _ => simp [Rows.uptoBulk]
 str:=fun s => by simp [Rows.uptoBulk]
 sl:=fun es sp => by simp only [Rows.uptoBulk,bulkAll_sum]; omega
 agg:=fun ps => by simp only [Rows.uptoBulk,bulkAll_sum]; omega
theorem bulk_le {H : Type} {vs : List AV} {ds gs : List (DataW H)} (h : ∀ μ : DataW H -> Nat,BulkOk μ -> bulkL vs <= (ds.map μ).sum) (hc : Rows.uptoSmall H (ds ++ gs) = true) : bulkL vs <= 1048576:=by
 have h1:=h _ bulk_ok
 have h2 : Rows.uptoBulkAll (ds ++ gs) <= 1048576:=of_decide_eq_true hc
 rw [bulkAll_sum,List.map_append,List.sum_append] at h2
 omega
def wordBytes : List (List UInt8):=words.map fun s => s.data.toList
theorem laid_words {H : Type} : (Rows.laid_interlace_token_words : DataW H) = .agg (wordBytes.map fun z => .lit (.string z)):=by kernel_rfl
theorem cells_of_strs {H : Type} {enc : TypeId × Value -> H} {P : Program} {w : World} {base : Nat} {sp : Nat -> Bool} {held : Bool} {fuel : Nat} {t e : TypeId} {n : Nat} {cs : List Value} {zs : List (List UInt8)} {p : List MemPlace}
  (ht : P.underlying t = some (.array n e)) (he : P.underlying e = some .string) (hce : P.cellsOf e = 1) (hct : P.cellsOf t = n)
  (h : DataW.trod enc P w base sp held fuel t cs = some (.agg (zs.map fun z => .lit (.string z)),p)) : cs = zs.map fun z => Value.string ⟨z.toArray⟩:=by
 cases fuel with
 | zero => simp [DataW.trod] at h
 | succ fuel =>
  simp only [DataW.trod,ht,hce,hct,Nat.mul_one] at h
  split at h
  ·rename_i hl
   obtain ⟨xs,hm,hx⟩:=Option.map_eq_some_iff.1 h
   have hxs : xs.map (·.1) = zs.map fun z => (DataW.lit (.string z) : DataW H):=by
    have:=congrArg Prod.fst hx
    simpa using this
   have hxl : xs.length = n:=by simpa using Lib.mapM_length hm
   have hzl : zs.length = n:=by
    have:=congrArg List.length hxs
    simp at this
    omega
   apply List.ext_getElem?
   intro i
   by_cases hi : i < n
   ·obtain ⟨b,hb,hf⟩:=Lib.mapM_at hm i i (by simp [hi])
    obtain ⟨z,hc,rfl,_⟩:=DataW.trod_string he hf
    have h1 : cs[i]? = some (.string z):=by
     have:=congrArg (·[0]?) hc
     simpa [List.getElem?_take,List.getElem?_drop] using this
    have h2 : (xs.map (·.1))[i]? = some (DataW.lit (.string z.data.toList) : DataW H):=by simp [hb]
    rw [hxs] at h2
    simp only [List.getElem?_map,Option.map_eq_some_iff,DataW.lit.injEq,Lit.string.injEq] at h2
    obtain ⟨z',hz',h3⟩:=h2
    rw [h1,List.getElem?_map,hz',h3]
    simp
   ·rw [List.getElem?_eq_none (by omega),List.getElem?_eq_none (by simp; omega)]
  ·cases h
theorem words_cells : (wordBytes.map fun z => Value.string ⟨z.toArray⟩) = words.map Value.string:=by kernel_rfl
theorem glob_ok {W : World} (h : laidMetH Tryz.prog [("interlace/token.words", Rows.laid_interlace_token_words)] W) : GOk ⟨[], fun _ => .imm⟩ W := by
 have h : laidMet Tryz.prog [("interlace/token.words", Rows.laid_interlace_token_words)] W := h
 obtain ⟨ps,⟨g',t',cs,fuel,p,q,hg',ht',hvar,hd,_,_⟩,_⟩:=h
 have hg : Tryz.prog.globalNamed "interlace/token.words" = some 0 := by kernel_rfl
 obtain rfl:=Option.some.inj (hg.symm.trans hg')
 have hty : (Tryz.prog.globals[0]?).map (·.type) = some 367:=by kernel_rfl
 obtain rfl:=Option.some.inj (hty.symm.trans ht')
 rw [laid_words] at hd
 have hcs:=cells_of_strs (n:=49) (e:=9) (by kernel_rfl) (by kernel_rfl) (by kernel_rfl) (by kernel_rfl) hd
 rw [words_cells] at hcs
 intro g cs' hg2 i c hc
 have hgl : glb.lookup g = if g = 0 then some (words.map AV.str) else none:=by
  unfold glb
  simp only [List.lookup]
  split
  ·rename_i hb; simp at hb; simp [hb]
  ·rename_i hb; simp at hb; simp [hb]
 rw [hgl] at hg2
 split at hg2
 ·rename_i h0
  subst h0
  cases hg2
  rw [List.getElem?_map] at hc
  cases hw : words[i]? with
  | none => rw [hw] at hc; cases hc
  | some s =>
   rw [hw] at hc
   cases hc
   refine ⟨trivial,.string s,rfl, ?_⟩
   rw [World.var?_cell hg hvar i]
   rw [<- Array.getElem?_toList,hcs,List.getElem?_map,hw]
   rfl
 ·cases hg2
theorem band {a b : Bool} (h1 : a = true) (h2 : b = true) : (a && b) = true:=by rw [h1,h2]; rfl
noncomputable def laidWorld (os : Os) : World :=
 { World.holding Tryz.prog os ⟨#[],#[],[]⟩ with heap:=(World.holding Tryz.prog os ⟨#[],#[],[]⟩).heap.modify 0 fun
   | .cells _ t frozen => .cells (words.map Value.string).toArray t frozen
   | o => o }
end Go.Proofs.YtofajkggflobkaaGreatDoor
namespace Go.Proofs.YtofajkggflobkaaGreatDoor
open Go.ChangeShapes Go.WideShapes Go.ChangeAt Go.RowKit Go.AI
theorem contractKeepsTenantsApart_met (os : Os) : laidMet Tryz.prog Rows.contractKeepsTenantsApartUptoRow.laid ((laidWorld os).forCall (fun _ _ => 0) ⟨#[],#[.agg #[.slice none 0 0,.slice none 0 0,.slice none 0 0,.slice none 0 0,.slice none 0 0,.slice none 0 0],.slice none 0 0,.agg #[.int .i64 0,.int .i64 0,.int .i64 0,.int .i64 0,.int .i64 0,.int .i64 0,.int .i64 0,.int .i64 0,.int .i64 0,.int .i64 0,.int .i64 0]],[]⟩).memory :=
 laidMet_of_run' 8 (by kernel_rfl) (by kernel_rfl)
theorem contractKeepsTenantsApart_reads (os : Os) {H : Type} (enc : TypeId × Value -> H) : ∃ places,DataW.whole enc Tryz.prog ((laidWorld os).forCall (fun _ _ => 0) ⟨#[],#[.agg #[.slice none 0 0,.slice none 0 0,.slice none 0 0,.slice none 0 0,.slice none 0 0,.slice none 0 0],.slice none 0 0,.agg #[.int .i64 0,.int .i64 0,.int .i64 0,.int .i64 0,.int .i64 0,.int .i64 0,.int .i64 0,.int .i64 0,.int .i64 0,.int .i64 0,.int .i64 0]],[]⟩).memory Tryz.f3.params.toList Rows.contractKeepsTenantsApartSpec.vars false (#[.agg #[.slice none 0 0,.slice none 0 0,.slice none 0 0,.slice none 0 0,.slice none 0 0,.slice none 0 0],.slice none 0 0,.agg #[.int .i64 0,.int .i64 0,.int .i64 0,.int .i64 0,.int .i64 0,.int .i64 0,.int .i64 0,.int .i64 0,.int .i64 0,.int .i64 0,.int .i64 0]] : Array Value).toList 8 = some ([.agg [.agg [.nil,.nil,.nil],.nil,.nil,.nil],.nil,.agg [.agg [.lit (.int .i64 0),.lit (.int .i64 0),.lit (.int .i64 0),.lit (.int .i64 0),.lit (.int .i64 0),.lit (.int .i64 0),.lit (.int .i64 0),.lit (.int .i64 0),.lit (.int .i64 0),.lit (.int .i64 0)],.lit (.int .i64 0)]],[],places) :=
 ⟨[],by kernel_rfl⟩
set_option maxRecDepth 100000 in
theorem contractKeepsTenantsApart_lifted (os : Os) (started : os.Started) (H : Type) (enc : TypeId × Value -> H) (F : Stop.Interp) :
  ReturnsInHanded {} Tryz.checked os 3 .any ((Rows.OpenSpec.upto Rows.contractKeepsTenantsApartSpec).preRow enc Tryz.prog Tryz.f3 Rows.contractKeepsTenantsApartUptoRow.domain false Rows.contractKeepsTenantsApartUptoRow.laid) (((Rows.OpenSpec.upto Rows.contractKeepsTenantsApartSpec).at F).post enc Tryz.prog Tryz.f3 false true false false):=by
 obtain ⟨places,hx⟩:=contractKeepsTenantsApart_reads os enc
 refine returnsInHanded_of_row (C:=Tryz.checked) (s:=Rows.OpenSpec.upto Rows.contractKeepsTenantsApartSpec) own_ok started (by kernel_rfl) Tryz.func3
  (witness_row_at (enc:=enc) (C:=Tryz.checked) false (laidWorld os) #[.agg #[.slice none 0 0,.slice none 0 0,.slice none 0 0,.slice none 0 0,.slice none 0 0,.slice none 0 0],.slice none 0 0,.agg #[.int .i64 0,.int .i64 0,.int .i64 0,.int .i64 0,.int .i64 0,.int .i64 0,.int .i64 0,.int .i64 0,.int .i64 0,.int .i64 0,.int .i64 0]] rfl (by kernel_rfl) (by kernel_rfl) (by kernel_rfl)
   (OpenSpec.preRow_of_cond 8 hx (by kernel_rfl) (fun k hk => by cases hk; kernel_rfl) (by kernel_rfl) (contractKeepsTenantsApart_met os))) ?_
 intro W base args ds gs before hval hW _ hcond hwt hL _ _
 refine law_contract (s:=Rows.contractKeepsTenantsApartSpec) (tb:=4) rowTypes laid_ok (by kernel_rfl) (of_decide_eq_true (by kernel_rfl)) rfl (by kernel_rfl) rfl ?_ W (glob_ok hL) base args ds gs before ?_ hval hW hwt
 ·intro H ds hd
  match ds,hd with
  | [a,b,c],_ => rfl
 ·intro vs hvs hb
  have hle:=bulk_le hb (hcond _ rfl)
  match vs,hvs,hle with
  | [a,b,c],⟨h1,h2,h3,_⟩,hle =>
   obtain ⟨v1,rfl,_⟩:=Setup.rd h1
   obtain ⟨v2,rfl,_⟩:=lSts_rd h2
   obtain ⟨v3,rfl,_⟩:=Arrival.rd h3
   simp only [bulkL,AV.bulk] at hle
   exact c_law25b c_sanity19 v1 v2 v3 (by omega) (by omega)
set_option maxHeartbeats 10000000 in
theorem contractKeepsTenantsApart_closed : joinedFacts Tryz.pinned.checked.prog 3 Tryz.f3 (Rows.OpenSpec.upto Rows.contractKeepsTenantsApartSpec).bare Rows.contractKeepsTenantsApartUptoRow = true:=by
 unfold joinedFacts
 repeat' (with_reducible refine band ?_ ?_)
 all_goals (as_aux_lemma => kernel_rfl)
theorem contractKeepsTenantsApart_said : Rows.ContractKeepsTenantsApartUptoSaid :=
 OpenClaim.holds_of_cond 3 Tryz.f3 rfl rfl rfl rfl rfl rfl rfl ⟨rfl,rfl,rfl,rfl,rfl⟩ rfl rfl rfl rfl rfl (by kernel_rfl) Tryz.func3 contractKeepsTenantsApart_closed
  (of_decide_eq_true (by kernel_rfl)) (by unfold Func.isWrapper; first | (rw [if_pos (by decide +kernel)]; kernel_rfl) | (rw [if_neg (by decide +kernel)]; exact ⟨rfl,rfl⟩))
  (fun os started H enc _ F => by rw [OpenClaim.pre_eq_preRow]; exact contractKeepsTenantsApart_lifted os started H enc F)
theorem contractKeepsTenantsApart_plain (f : FuncId) (fn : Func) (hf : Tryz.pinned.checked.prog.funcNamed "interlace/interlacelaw19.ContractKeepsTenantsApart" = some f) (hfn : Tryz.pinned.checked.prog.funcs[f]? = some fn) :
  false = Tryz.pinned.checked.prog.looks [] /\ ∀ (j : Nat) t,fn.params[j]? = some t -> Tryz.pinned.checked.prog.wantsStandIn t = false:=by
 obtain rfl : f = 3 := Option.some.inj ((show Tryz.prog.funcNamed "interlace/interlacelaw19.ContractKeepsTenantsApart" = some 3 by kernel_rfl).symm.trans hf) |>.symm
 obtain rfl : fn = Tryz.f3:=(Option.some.inj (Tryz.func3.symm.trans hfn)).symm
 refine ⟨by kernel_rfl,fun j t ht => ?_⟩
 have hm : t ∈ Tryz.f3.params.toList:=by simpa using Array.mem_of_getElem? ht
 have hall : (Tryz.f3.params.toList.all fun t => Tryz.pinned.checked.prog.wantsStandIn t == false) = true:=by kernel_rfl
 simpa using List.all_eq_true.1 hall t hm
theorem contractKeepsTenantsApart_card : Rows.ContractKeepsTenantsApartUptoCardSaid :=
 Claim7.holds_tied_plain_at .later [] _ _ _ _ contractKeepsTenantsApart_said (fun _ h => by cases h) (by kernel_rfl) (fun _ h => by cases h) contractKeepsTenantsApartUpto_row_tie rfl ⟨rfl,rfl⟩ (by kernel_rfl) rfl contractKeepsTenantsApart_plain (by kernel_rfl)
end Go.Proofs.YtofajkggflobkaaGreatDoor
