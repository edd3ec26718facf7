/- Proved: interlacelaw19.ContractKeepsTenantsApart returns true for all arguments that are together of bulk at most 1048576,and they read as they did;the words of the language stand as the program's text lays them. -/
import Derived.Test.YtofajkggflobkaaGreatDoorCards
import Derived.Test.YtofajkggflobkaaGreatDoorTie
import Derived.OpenShut
import Derived.Deep.DeepHandedRow
import Derived.Lib.LaidTab
import Derived.Test.YtofajkggflobkaaGreatDoorMl
set_option linter.unusedSimpArgs false
set_option linter.unusedVariables false
set_option linter.defProp false
open List renaming getElem?_eq_none->Az,getElem?_map->Ab
open Option renaming map_eq_some_iff->C9
open Go.Proofs.Tryz renaming prog->AA
namespace Go.Proofs.YtofajkggflobkaaGreatDoor
open Go.ChangeShapes Go.WideShapes Go.ChangeAt Go.RowKit Go.AI
theorem AIF:ownKnob AA.godebug=none:=kr
theorem AE9:laidOutB AA=true:=kr
def zf:List TypeId:=[31,89,3,34,26,27,28,29,9,82,83,85,86,87,22,23,24,115,66,120,252,128,216,246,117,166,77,64,123,126,214,4,62,121,118,212,5,32,49,107,50,36,57]
theorem O5{H:Type}(l:List (DataW H)):Rows.uptoBulkAll l=(l.map Rows.uptoBulk).sum:=by
 induction l with
 | nil=>simp [Rows.uptoBulkAll]
 | cons d r ih=>simp only [Rows.uptoBulkAll,List.map_cons,List.sum_cons,ih]
theorem AF4{H:Type}:BulkOk (Rows.uptoBulk (H:=H)) where
 one:=λd=>by cases d with
  | lit l=>cases l<;>simp [Rows.uptoBulk]
  | _=>simp [Rows.uptoBulk]
 str:=λs=>by simp [Rows.uptoBulk]
 sl:=λes sp=>by simp only [Rows.uptoBulk,O5];omega
 agg:=λps=>by simp only [Rows.uptoBulk,O5];omega
theorem AF5{H:Type}{vs:List AV}{ds gs:List (DataW H)}(h : ∀ μ:DataW H->Nat,BulkOk μ->FR vs<=(ds.map μ).sum)(hc:Rows.uptoSmall H (ds++gs)=true):FR vs<=1048576:=by
 have h1:=h _ AF4
 have h2:Rows.uptoBulkAll (ds++gs)<=1048576:=of_decide_eq_true hc
 rw [O5,List.map_append,List.sum_append] at h2
 omega
def YR:List (List UInt8):=HK.map λs=>s.data.toList
theorem mH{H:Type}:(Rows.laid_interlace_token_words:DataW H) = .agg (YR.map λz => .lit (.string z)):=kr
theorem Xm {H:Type} {enc:TypeId×Value->H} {P:Program} {w:World} {base:Nat} {sp:Nat->Bool} {held:Bool} {fuel:Nat} {t e:TypeId} {n:Nat} {cs:List Value} {zs:List (List UInt8)} {p:List MemPlace}
  (ht:P.underlying t=some (.array n e)) (he:P.underlying e=some .string) (hce:P.cellsOf e=1) (hct:P.cellsOf t=n)
  (h:DataW.trod enc P w base sp held fuel t cs=some (.agg (zs.map λz => .lit (.string z)),p)):cs=zs.map λz=>Value.string ⟨z.toArray⟩:=by
 cases fuel with
 | zero=>simp [DataW.trod] at h
 | succ fuel =>
  simp only [DataW.trod,ht,hce,hct,Nat.mul_one] at h
  split at h
  ·rename_i hl
   obtain ⟨xs,hm,hx⟩:=C9.1 h
   have hxs:xs.map (·.1)=zs.map λz=>(DataW.lit (.string z):DataW H):=by
    have:=congrArg Prod.fst hx
    simpa using this
   have hxl:xs.length=n:=by simpa using Lib.mapM_length hm
   have hzl:zs.length=n:=by
    have:=congrArg List.length hxs
    simp at this
    omega
   apply List.ext_getElem?
   intro i
   by_cases hi:i<n
   ·obtain ⟨b,hb,hf⟩:=Lib.mapM_at hm i i (by simp [hi])
    obtain ⟨z,hc,rfl,_⟩:=DataW.trod_string he hf
    have h1:cs[i]? =some (.string z):=by
     have:=congrArg (·[0]?) hc
     simpa [List.getElem?_take,List.getElem?_drop] using this
    have h2:(xs.map (·.1))[i]? =some (DataW.lit (.string z.data.toList):DataW H):=by simp [hb]
    rw [hxs] at h2
    simp only [Ab,C9,DataW.lit.injEq,Lit.string.injEq] at h2
    obtain ⟨z',hz',h3⟩:=h2
    rw [h1,Ab,hz',h3]
    simp
   ·rw [Az FO,Az (by simp;omega)]
  ·cases h
theorem cg:(YR.map λz=>Value.string ⟨z.toArray⟩)=HK.map Value.string:=kr
theorem AFS{W:World}(h:laidMetH AA [("interlace/token.words", Rows.laid_interlace_token_words)] W):yh ⟨[],λ_ => .imm⟩ W := by
 have h:laidMet AA [("interlace/token.words", Rows.laid_interlace_token_words)] W := h
 obtain ⟨ps,⟨g',t',cs,fuel,p,q,hg',ht',hvar,hd,_,_⟩,_⟩:=h
 have hg:AA.globalNamed "interlace/token.words" = some 0 := by kernel_rfl
 obtain rfl:=Option.some.inj (hg.symm.trans hg')
 have hty:(AA.globals[0]?).map (·.type)=some 367:=kr
 obtain rfl:=Option.some.inj (hty.symm.trans ht')
 rw [mH] at hd
 have hcs:=Xm (n:=49) (e:=9) kr kr  kr kr  hd
 rw [cg] at hcs
 intro g cs' hg2 i c hc
 have hgl:glb.lookup g=if g=0 then some (HK.map AV.str) else none:=by
  unfold glb
  simp only [List.lookup]
  split
  ·rename_i hb;simp at hb;simp [hb]
  ·rename_i hb;simp at hb;simp [hb]
 rw [hgl] at hg2
 split at hg2
 ·rename_i h0
  subst h0
  cases hg2
  rw [Ab] at hc
  cases hw:HK[i]? with
  | none=>rw [hw] at hc;cases hc
  | some s =>
   rw [hw] at hc
   cases hc
   refine ⟨trivial,.string s,rfl, ?_⟩
   rw [World.var?_cell hg hvar i]
   rw [<- Array.getElem?_toList,hcs,Ab,hw]
   rfl
 ·cases hg2
theorem AgB{a b:Bool}(h1:a=true)(h2:b=true):(a&&b)=true:=by rw [h1,h2];rfl
noncomputable def Sk(os:Os):World :=
 { World.holding AA os ⟨#[],#[],[]⟩ with heap:=(World.holding AA os ⟨#[],#[],[]⟩).heap.modify 0 fun
   | .cells _ t frozen => .cells (HK.map Value.string).toArray t frozen
   | o=>o }
end Go.Proofs.YtofajkggflobkaaGreatDoor
namespace Go.Proofs.YtofajkggflobkaaGreatDoor
open Go.ChangeShapes Go.WideShapes Go.ChangeAt Go.RowKit Go.AI
theorem LA(os:Os):laidMet AA Rows.contractKeepsTenantsApartUptoRow.laid ((Sk os).forCall (λ_ _=>0) ⟨#[],#[.agg #[.slice none 0 0,.slice none 0 0,.slice none 0 0,.slice none 0 0,.slice none 0 0,.slice none 0 0],.slice none 0 0,.agg #[.int .i64 0,.int .i64 0,.int .i64 0,.int .i64 0,.int .i64 0,.int .i64 0,.int .i64 0,.int .i64 0,.int .i64 0,.int .i64 0,.int .i64 0]],[]⟩).memory :=
 laidMet_of_run' 8 kr kr
theorem KF(os:Os){H:Type}(enc:TypeId×Value->H): ∃ places,DataW.whole enc AA ((Sk os).forCall (λ_ _=>0) ⟨#[],#[.agg #[.slice none 0 0,.slice none 0 0,.slice none 0 0,.slice none 0 0,.slice none 0 0,.slice none 0 0],.slice none 0 0,.agg #[.int .i64 0,.int .i64 0,.int .i64 0,.int .i64 0,.int .i64 0,.int .i64 0,.int .i64 0,.int .i64 0,.int .i64 0,.int .i64 0,.int .i64 0]],[]⟩).memory Tryz.f3.params.toList Rows.contractKeepsTenantsApartSpec.vars false (#[.agg #[.slice none 0 0,.slice none 0 0,.slice none 0 0,.slice none 0 0,.slice none 0 0,.slice none 0 0],.slice none 0 0,.agg #[.int .i64 0,.int .i64 0,.int .i64 0,.int .i64 0,.int .i64 0,.int .i64 0,.int .i64 0,.int .i64 0,.int .i64 0,.int .i64 0,.int .i64 0]]:Array Value).toList 8=some ([.agg [.agg [.nil,.nil,.nil],.nil,.nil,.nil],.nil,.agg [.agg [.lit (.int .i64 0),.lit (.int .i64 0),.lit (.int .i64 0),.lit (.int .i64 0),.lit (.int .i64 0),.lit (.int .i64 0),.lit (.int .i64 0),.lit (.int .i64 0),.lit (.int .i64 0),.lit (.int .i64 0)],.lit (.int .i64 0)]],[],places) :=
 ⟨[],kr⟩
set_option maxRecDepth 100000 in
theorem J6(os:Os)(started:os.Started)(H:Type)(enc:TypeId×Value->H)(F:Stop.Interp):
  ReturnsInHanded {} Tryz.checked os 3 .any ((Rows.OpenSpec.upto Rows.contractKeepsTenantsApartSpec).preRow enc AA Tryz.f3 Rows.contractKeepsTenantsApartUptoRow.domain false Rows.contractKeepsTenantsApartUptoRow.laid) (((Rows.OpenSpec.upto Rows.contractKeepsTenantsApartSpec).at F).post enc AA Tryz.f3 false true false false):=by
 obtain ⟨places,hx⟩:=KF os enc
 refine returnsInHanded_of_row (C:=Tryz.checked) (s:=Rows.OpenSpec.upto Rows.contractKeepsTenantsApartSpec) AIF started kr Tryz.func3
  (witness_row_at (enc:=enc) (C:=Tryz.checked) false (Sk os) #[.agg #[.slice none 0 0,.slice none 0 0,.slice none 0 0,.slice none 0 0,.slice none 0 0,.slice none 0 0],.slice none 0 0,.agg #[.int .i64 0,.int .i64 0,.int .i64 0,.int .i64 0,.int .i64 0,.int .i64 0,.int .i64 0,.int .i64 0,.int .i64 0,.int .i64 0,.int .i64 0]] rfl kr kr  kr
   (OpenSpec.preRow_of_cond 8 hx kr (λk hk=>by cases hk;kernel_rfl) kr (LA os))) ?_
 intro W base args ds gs before hval hW _ hcond hwt hL _ _
 refine aD (s:=Rows.contractKeepsTenantsApartSpec) (tb:=4) zf AE9 kr (of_decide_eq_true kr) rfl kr rfl ?_ W (AFS hL) base args ds gs before ?_ hval hW hwt
 ·intro H ds hd
  match ds,hd with
  | [a,b,c],_=>rfl
 ·intro vs hvs hb
  have hle:=AF5 hb (hcond _ rfl)
  match vs,hvs,hle with
  | [a,b,c],⟨h1,h2,h3,_⟩,hle =>
   obtain ⟨v1,rfl,_⟩:=Setup.rd h1
   obtain ⟨v2,rfl,_⟩:=AFA h2
   obtain ⟨v3,rfl,_⟩:=Arrival.rd h3
   simp only [FR,AV.bulk] at hle
   exact ACc nw v1 v2 v3 FO FO
set_option maxHeartbeats 10000000 in
theorem J7:joinedFacts Tryz.pinned.checked.prog 3 Tryz.f3 (Rows.OpenSpec.upto Rows.contractKeepsTenantsApartSpec).bare Rows.contractKeepsTenantsApartUptoRow=true:=by
 unfold joinedFacts
 repeat' (with_reducible refine AgB ?_ ?_)
 all_goals (as_aux_lemma=>kernel_rfl)
theorem Kg:Rows.ContractKeepsTenantsApartUptoSaid :=
 OpenClaim.holds_of_cond 3 Tryz.f3 rfl rfl rfl rfl rfl rfl rfl ⟨rfl,rfl,rfl,rfl,rfl⟩ rfl rfl rfl rfl rfl kr Tryz.func3 J7
  (of_decide_eq_true kr) (by unfold Func.isWrapper;first|(rw [iP dk];kernel_rfl)|(rw [iN dk];exact ⟨rfl,rfl⟩))
  (λos started H enc _ F=>by rw [OpenClaim.pre_eq_preRow];exact J6 os started H enc F)
theorem KG(f:FuncId)(fn:Func)(hf:Tryz.pinned.checked.prog.funcNamed "interlace/interlacelaw19.ContractKeepsTenantsApart" = some f)(hfn:Tryz.pinned.checked.prog.funcs[f]? =some fn):
  false=Tryz.pinned.checked.prog.looks [] /\ ∀ (j:Nat) t,fn.params[j]? =some t->Tryz.pinned.checked.prog.wantsStandIn t=false:=by
 obtain rfl:f=3 := Option.some.inj ((show AA.funcNamed "interlace/interlacelaw19.ContractKeepsTenantsApart" = some 3 by kernel_rfl).symm.trans hf) |>.symm
 obtain rfl:fn=Tryz.f3:=(Option.some.inj (Tryz.func3.symm.trans hfn)).symm
 refine ⟨kr,λj t ht=>?_⟩
 have hm:t∈Tryz.f3.params.toList:=by simpa using Array.mem_of_getElem? ht
 have hall:(Tryz.f3.params.toList.all λt=>Tryz.pinned.checked.prog.wantsStandIn t==false)=true:=kr
 simpa using List.all_eq_true.1 hall t hm
theorem contractKeepsTenantsApart_card:Rows.ContractKeepsTenantsApartUptoCardSaid :=
 Claim7.holds_tied_plain_at .later [] _ _ _ _ Kg (λ_ h=>by cases h) kr (λ_ h=>by cases h) contractKeepsTenantsApartUpto_row_tie rfl ⟨rfl,rfl⟩ kr rfl KG kr
end Go.Proofs.YtofajkggflobkaaGreatDoor
