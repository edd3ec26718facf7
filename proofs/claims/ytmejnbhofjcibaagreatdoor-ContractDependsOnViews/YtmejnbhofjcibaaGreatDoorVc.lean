/- Proved: interlacelaw19.ContractDependsOnViews returns true for all arguments that are together of bulk at most 1048576,and they read as they did;the words of the language stand as the program's text lays them. -/
import Derived.Test.YtmejnbhofjcibaaGreatDoorCards
import Derived.Test.YtmejnbhofjcibaaGreatDoorTie
import Derived.OpenShut
import Derived.Deep.DeepHandedRow
import Derived.Lib.LaidTab
import Derived.Test.YtmejnbhofjcibaaGreatDoorMl
set_option linter.unusedSimpArgs false
set_option linter.unusedVariables false
set_option linter.defProp false
open List renaming getElem?_eq_none->Av,getElem?_map->Aa
open Option renaming map_eq_some_iff->DB
open Go.Proofs.Tryz renaming prog->AA
namespace Go.Proofs.YtmejnbhofjcibaaGreatDoor
open Go.ChangeShapes Go.WideShapes Go.ChangeAt Go.RowKit Go.AI
theorem AIK:ownKnob AA.godebug=none:=kr
theorem AFA:laidOutB AA=true:=kr
def zr:List TypeId:=[31,56,3,34,26,27,28,29,9,51,52,48,53,54,22,23,24,99,68,104,155,117,161,164,140,152,96,66,112,115,159,4,64,110,113,157,5,32,43,107,45,36,78]
theorem PF{H:Type}(l:List (DataW H)):Rows.uptoBulkAll l=(l.map Rows.uptoBulk).sum:=by
 induction l with
 |nil=>simp[Rows.uptoBulkAll]
 |cons d r ih=>simp only[Rows.uptoBulkAll,List.map_cons,List.sum_cons,ih]
theorem AF6{H:Type}:BulkOk (Rows.uptoBulk (H:=H)) where
 one:=λd=>by cases d with
  |lit l=>cases l<;>simp[Rows.uptoBulk]
  |_=>simp[Rows.uptoBulk]
 str:=λs=>by simp[Rows.uptoBulk]
 sl:=λes sp=>by simp only[Rows.uptoBulk,PF];omega
 agg:=λps=>by simp only[Rows.uptoBulk,PF];omega
theorem AF7{H:Type}{vs:List AV}{ds gs:List (DataW H)}(h:∀μ:DataW H->Nat,BulkOk μ->FU vs<=(ds.map μ).sum)(hc:Rows.uptoSmall H (ds++gs)=true):FU vs<=1048576:=by
 have h1:=h _ AF6
 have h2:Rows.uptoBulkAll (ds++gs)<=1048576:=of_decide_eq_true hc
 rw[PF,List.map_append,List.sum_append]at h2
 omega
def YS:List (List UInt8):=HJ.map λs=>s.data.toList
theorem mg{H:Type}:(Rows.laid_interlace_token_words:DataW H) = .agg (YS.map λz => .lit (.string z)):=kr
theorem Xn {H:Type} {enc:TypeId×Value->H} {P:Program} {w:World} {base:Nat} {sp:Nat->Bool} {held:Bool} {fuel:Nat} {t e:TypeId} {n:Nat} {cs:List Value} {zs:List (List UInt8)} {p:List MemPlace}
  (ht:P.underlying t=some (.array n e)) (he:P.underlying e=some .string) (hce:P.cellsOf e=1) (hct:P.cellsOf t=n)
  (h:DataW.trod enc P w base sp held fuel t cs=some (.agg (zs.map λz => .lit (.string z)),p)):cs=zs.map λz=>Value.string ⟨z.toArray⟩:=by
 cases fuel with
 |zero=>simp[DataW.trod]at h
 | succ fuel =>
  simp only[DataW.trod,ht,hce,hct,Nat.mul_one]at h
  split at h
  ·rename_i hl
   obtain⟨xs,hm,hx⟩:=DB.1 h
   have hxs:xs.map (·.1)=zs.map λz=>(DataW.lit (.string z):DataW H):=by
    have:=congrArg Prod.fst hx
    simpa using this
   have hxl:xs.length=n:=by simpa using Lib.mapM_length hm
   have hzl:zs.length=n:=by
    have:=congrArg List.length hxs
    simp at this
    omega
   apply List.ext_getElem?
   intro i
   by_cases hi:i<n
   ·obtain⟨b,hb,hf⟩:=Lib.mapM_at hm i i (by simp[hi])
    obtain⟨z,hc,rfl,_⟩:=DataW.trod_string he hf
    have h1:cs[i]? =some (.string z):=by
     have:=congrArg (·[0]?) hc
     simpa [List.getElem?_take,List.getElem?_drop]using this
    have h2:(xs.map (·.1))[i]? =some (DataW.lit (.string z.data.toList):DataW H):=by simp[hb]
    rw[hxs]at h2
    simp only[Aa,DB,DataW.lit.injEq,Lit.string.injEq]at h2
    obtain⟨z',hz',h3⟩:=h2
    rw[h1,Aa,hz',h3]
    simp
   ·rw[Av FR,Av Hy]
  ·cases h
theorem dG:(YS.map λz=>Value.string ⟨z.toArray⟩)=HJ.map Value.string:=kr
theorem AFT{W:World}(h:laidMetH AA [("interlace/token.words", Rows.laid_interlace_token_words)] W):yy ⟨[],λ_ => .imm⟩ W := by
 have h:laidMet AA [("interlace/token.words", Rows.laid_interlace_token_words)] W := h
 obtain⟨ps,⟨g',t',cs,fuel,p,q,hg',ht',hvar,hd,_,_⟩,_⟩:=h
 have hg:AA.globalNamed "interlace/token.words" = some 0 := by kernel_rfl
 obtain rfl:=Option.some.inj (hg.symm.trans hg')
 have hty:(AA.globals[0]?).map (·.type)=some 368:=kr
 obtain rfl:=Option.some.inj (hty.symm.trans ht')
 rw[mg]at hd
 have hcs:=Xn (n:=49) (e:=9) kr kr  kr kr  hd
 rw[dG]at hcs
 intro g cs' hg2 i c hc
 have hgl:glb.lookup g=if g=0 then some (HJ.map AV.str)else none:=by
  unfold glb
  simp only[List.lookup]
  split
  ·rename_i hb;simp at hb;simp[hb]
  ·rename_i hb;simp at hb;simp[hb]
 rw[hgl]at hg2
 split at hg2
 ·rename_i h0
  subst h0
  cases hg2
  rw[Aa]at hc
  cases hw:HJ[i]? with
  |none=>rw[hw]at hc;cases hc
  |some s =>
   rw[hw]at hc
   cases hc
   refine⟨trivial,.string s,rfl, ?_⟩
   rw[World.var?_cell hg hvar i]
   rw[<- Array.getElem?_toList,hcs,Aa,hw]
   rfl
 ·cases hg2
theorem Ag1{a b:Bool}(h1:a=true)(h2:b=true):(a&&b)=true:=by rw[h1,h2];rfl
noncomputable def Sr(os:Os):World :=
 { World.holding AA os ⟨#[],#[],[]⟩ with heap:=(World.holding AA os ⟨#[],#[],[]⟩).heap.modify 0 fun
   |.cells _ t frozen => .cells (HJ.map Value.string).toArray t frozen
   |o=>o }
end Go.Proofs.YtmejnbhofjcibaaGreatDoor
namespace Go.Proofs.YtmejnbhofjcibaaGreatDoor
open Go.ChangeShapes Go.WideShapes Go.ChangeAt Go.RowKit Go.AI
theorem MH(os:Os):laidMet AA Rows.contractDependsOnViewsUptoRow.laid ((Sr os).forCall (λ_ _=>0) ⟨#[],#[.agg #[.slice none 0 0,.slice none 0 0,.slice none 0 0,.slice none 0 0,.slice none 0 0,.slice none 0 0],.agg #[.slice none 0 0,.slice none 0 0,.slice none 0 0,.slice none 0 0,.slice none 0 0,.slice none 0 0],.slice none 0 0,.slice none 0 0,.agg #[.int .i64 0,.int .i64 0,.int .i64 0,.int .i64 0,.int .i64 0,.int .i64 0,.int .i64 0,.int .i64 0,.int .i64 0,.int .i64 0,.int .i64 0]],[]⟩).memory :=
 laidMet_of_run' 8 kr kr
theorem LM(os:Os){H:Type}(enc:TypeId×Value->H): ∃places,DataW.whole enc AA ((Sr os).forCall (λ_ _=>0) ⟨#[],#[.agg #[.slice none 0 0,.slice none 0 0,.slice none 0 0,.slice none 0 0,.slice none 0 0,.slice none 0 0],.agg #[.slice none 0 0,.slice none 0 0,.slice none 0 0,.slice none 0 0,.slice none 0 0,.slice none 0 0],.slice none 0 0,.slice none 0 0,.agg #[.int .i64 0,.int .i64 0,.int .i64 0,.int .i64 0,.int .i64 0,.int .i64 0,.int .i64 0,.int .i64 0,.int .i64 0,.int .i64 0,.int .i64 0]],[]⟩).memory Tryz.f3.params.toList Rows.contractDependsOnViewsSpec.vars false (#[.agg #[.slice none 0 0,.slice none 0 0,.slice none 0 0,.slice none 0 0,.slice none 0 0,.slice none 0 0],.agg #[.slice none 0 0,.slice none 0 0,.slice none 0 0,.slice none 0 0,.slice none 0 0,.slice none 0 0],.slice none 0 0,.slice none 0 0,.agg #[.int .i64 0,.int .i64 0,.int .i64 0,.int .i64 0,.int .i64 0,.int .i64 0,.int .i64 0,.int .i64 0,.int .i64 0,.int .i64 0,.int .i64 0]]:Array Value).toList 8=some ([.agg [.agg [.nil,.nil,.nil],.nil,.nil,.nil],.agg [.agg [.nil,.nil,.nil],.nil,.nil,.nil],.nil,.nil,.agg [.agg [.lit (.int .i64 0),.lit (.int .i64 0),.lit (.int .i64 0),.lit (.int .i64 0),.lit (.int .i64 0),.lit (.int .i64 0),.lit (.int .i64 0),.lit (.int .i64 0),.lit (.int .i64 0),.lit (.int .i64 0)],.lit (.int .i64 0)]],[],places) :=
 ⟨[],kr⟩
set_option maxRecDepth 100000 in
theorem LC(os:Os)(started:os.Started)(H:Type)(enc:TypeId×Value->H)(F:Stop.Interp):
  ReturnsInHanded {} Tryz.checked os 3 .any ((Rows.OpenSpec.upto Rows.contractDependsOnViewsSpec).preRow enc AA Tryz.f3 Rows.contractDependsOnViewsUptoRow.domain false Rows.contractDependsOnViewsUptoRow.laid) (((Rows.OpenSpec.upto Rows.contractDependsOnViewsSpec).at F).post enc AA Tryz.f3 false true false false):=by
 obtain⟨places,hx⟩:=LM os enc
 refine returnsInHanded_of_row (C:=Tryz.checked) (s:=Rows.OpenSpec.upto Rows.contractDependsOnViewsSpec) AIK started kr Tryz.func3
  (witness_row_at (enc:=enc) (C:=Tryz.checked) false (Sr os) #[.agg #[.slice none 0 0,.slice none 0 0,.slice none 0 0,.slice none 0 0,.slice none 0 0,.slice none 0 0],.agg #[.slice none 0 0,.slice none 0 0,.slice none 0 0,.slice none 0 0,.slice none 0 0,.slice none 0 0],.slice none 0 0,.slice none 0 0,.agg #[.int .i64 0,.int .i64 0,.int .i64 0,.int .i64 0,.int .i64 0,.int .i64 0,.int .i64 0,.int .i64 0,.int .i64 0,.int .i64 0,.int .i64 0]] rfl kr kr  kr
   (OpenSpec.preRow_of_cond 8 hx kr (λk hk=>by cases hk;kernel_rfl) kr (MH os))) ?_
 intro W base args ds gs before hval hW _ hcond hwt hL _ _
 refine aL (s:=Rows.contractDependsOnViewsSpec) (tb:=4) zr AFA kr (of_decide_eq_true kr) rfl kr rfl ?_ W (AFT hL) base args ds gs before ?_ hval hW hwt
 ·intro H ds hd
  match ds,hd with
  |[a,b,c,d,e],_=>rfl
 ·intro vs hvs hb
  have hle:=AF7 hb (hcond _ rfl)
  match vs,hvs,hle with
  |[a,b,c,d,e],⟨h1,h2,h3,h4,h5,_⟩,hle =>
   obtain⟨v1,rfl,_⟩:=Setup.rd h1
   obtain⟨v2,rfl,_⟩:=Setup.rd h2
   obtain⟨v3,rfl,_⟩:=qg h3
   obtain⟨v4,rfl,_⟩:=qg h4
   obtain⟨v5,rfl,_⟩:=Arrival.rd h5
   simp only[FU,AV.bulk]at hle
   exact AFw oO v1 v2 v3 v4 v5 FR FR  FR FR
set_option maxHeartbeats 10000000 in
theorem LD:joinedFacts Tryz.pinned.checked.prog 3 Tryz.f3 (Rows.OpenSpec.upto Rows.contractDependsOnViewsSpec).bare Rows.contractDependsOnViewsUptoRow=true:=by
 unfold joinedFacts
 repeat' (with_reducible refine Ag1 ?_ ?_)
 all_goals (as_aux_lemma=>kernel_rfl)
theorem Ld:Rows.ContractDependsOnViewsUptoSaid :=
 OpenClaim.holds_of_cond 3 Tryz.f3 rfl rfl rfl rfl rfl rfl rfl ⟨rfl,rfl,rfl,rfl,rfl⟩ rfl rfl rfl rfl rfl kr Tryz.func3 LD
  (of_decide_eq_true kr) (by unfold Func.isWrapper;first|(rw[iP dk];kernel_rfl)|(rw[iN dk];exact⟨rfl,rfl⟩))
  (λos started H enc _ F=>by rw[OpenClaim.pre_eq_preRow];exact LC os started H enc F)
theorem LN(f:FuncId)(fn:Func)(hf:Tryz.pinned.checked.prog.funcNamed "interlace/interlacelaw19.ContractDependsOnViews" = some f)(hfn:Tryz.pinned.checked.prog.funcs[f]? =some fn):
  false=Tryz.pinned.checked.prog.looks [] /\ ∀(j:Nat) t,fn.params[j]? =some t->Tryz.pinned.checked.prog.wantsStandIn t=false:=by
 obtain rfl:f=3 := Option.some.inj ((show AA.funcNamed "interlace/interlacelaw19.ContractDependsOnViews" = some 3 by kernel_rfl).symm.trans hf) |>.symm
 obtain rfl:fn=Tryz.f3:=(Option.some.inj (Tryz.func3.symm.trans hfn)).symm
 refine⟨kr,λj t ht=>?_⟩
 have hm:t∈Tryz.f3.params.toList:=by simpa using Array.mem_of_getElem? ht
 have hall:(Tryz.f3.params.toList.all λt=>Tryz.pinned.checked.prog.wantsStandIn t==false)=true:=kr
 simpa using List.all_eq_true.1 hall t hm
theorem contractDependsOnViews_card:Rows.ContractDependsOnViewsUptoCardSaid :=
 Claim7.holds_tied_plain_at .later [] _ _ _ _ Ld (λ_ h=>by cases h) kr (λ_ h=>by cases h) contractDependsOnViewsUpto_row_tie rfl ⟨rfl,rfl⟩ kr rfl LN kr
end Go.Proofs.YtmejnbhofjcibaaGreatDoor
