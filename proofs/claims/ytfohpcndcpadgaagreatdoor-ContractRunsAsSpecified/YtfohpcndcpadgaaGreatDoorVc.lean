/- Proved: interlacelaw19.ContractRunsAsSpecified returns true for all arguments that are together of bulk at most 1048576,and they read as they did;the words of the language stand as the program's text lays them. -/
import Derived.Test.YtfohpcndcpadgaaGreatDoorCards
import Derived.Test.YtfohpcndcpadgaaGreatDoorTie
import Derived.OpenShut
import Derived.Deep.DeepHandedRow
import Derived.Lib.LaidTab
import Derived.Test.YtfohpcndcpadgaaGreatDoorMn
import Derived.Test.YtfohpcndcpadgaaGreatDoorMz
set_option linter.unusedSimpArgs false
set_option linter.unusedVariables false
set_option linter.defProp false
open List renaming getElem?_eq_none->A0,getElem?_map->Ac
open Option renaming map_eq_some_iff->DF
open Go.Proofs.Tryz renaming prog->AA
namespace Go.Proofs.YtfohpcndcpadgaaGreatDoor
open Go.ChangeShapes Go.WideShapes Go.ChangeAt Go.RowKit Go.AI
theorem ALU:ownKnob AA.godebug=none:=kr
theorem AH0:laidOutB AA=true:=kr
def ACf:List TypeId:=[31,94,3,41,26,27,28,29,9,87,88,90,91,92,22,23,24,122,64,127,293,135,260,286,124,182,82,62,130,133,258,4,60,128,125,256,5,32,98,159,72,43,33]
theorem QH{H:Type}(l:List (DataW H)):Rows.uptoBulkAll l=(l.map Rows.uptoBulk).sum:=by
 induction l with
 |nil=>simp[Rows.uptoBulkAll]
 |cons d r g=>simp only[Rows.uptoBulkAll,List.map_cons,List.sum_cons,g]
theorem AIz{H:Type}:BulkOk (Rows.uptoBulk (H:=H)) where
 one:=λd=>by cases d with
  |lit l=>cases l<;>simp[Rows.uptoBulk]
  |_=>simp[Rows.uptoBulk]
 str:=λs=>by simp[Rows.uptoBulk]
 sl:=λes sp=>by simp only[Rows.uptoBulk,QH];omega
 agg:=λg=>by simp only[Rows.uptoBulk,QH];omega
theorem AI0{H:Type}{i:List AV}{g j:List (DataW H)}(h:∀μ:DataW H->Nat,BulkOk μ->Fo i<=(g.map μ).sum)(o:Rows.uptoSmall H (g++j)=true):Fo i<=1048576:=by
 have r:=h _ AIz;have p:Rows.uptoBulkAll (g++j)<=1048576:=of_decide_eq_true o;rw[QH,List.map_append,List.sum_append]at p;omega
def aF:List (List UInt8):=Hu.map λs=>s.data.toList
theorem pU{H:Type}:(Rows.laid_interlace_token_words:DataW H) = .agg (aF.map λz => .lit (.string z)):=kr
theorem ZY {H:Type} {C:TypeId×Value->H} {P:Program} {w:World} {base:Nat} {sp:Nat->Bool} {j:Bool} {g:Nat} {t e:TypeId} {n:Nat} {I:List Value} {r:List (List UInt8)} {p:List MemPlace}
  (V:P.underlying t=some (.array n e)) (he:P.underlying e=some .string) (J:P.cellsOf e=1) (O:P.cellsOf t=n)
  (h:DataW.trod C P w base sp j g t I=some (.agg (r.map λz => .lit (.string z)),p)):I=r.map λz=>Value.string ⟨z.toArray⟩:=by
 cases g with
 |zero=>simp[DataW.trod]at h
 | succ g =>
  simp only[DataW.trod,V,J,O,Nat.mul_one]at h;split at h
  ·rename_i hl;obtain⟨R,hm,hx⟩:=DF.1 h;have o:R.map (·.1)=r.map λz=>(DataW.lit (.string z):DataW H):=by
    have:=congrArg Prod.fst hx;simpa using this
   have hxl:R.length=n:=by simpa using Lib.mapM_length hm
   have hzl:r.length=n:=by
    have:=congrArg List.length o;simp at this;omega
   apply List.ext_getElem?;intro i;by_cases hi:i<n
   ·obtain⟨b,hb,hf⟩:=Lib.mapM_at hm i i (by simp[hi]);obtain⟨z,hc,rfl,_⟩:=DataW.trod_string he hf;have h1:I[i]? =some (.string z):=by
     have:=congrArg (·[0]?) hc;simpa [List.getElem?_take,List.getElem?_drop]using this
    have T:(R.map (·.1))[i]? =some (DataW.lit (.string z.data.toList):DataW H):=by simp[hb]
    rw[o]at T;simp only[Ac,DF,DataW.lit.injEq,Lit.string.injEq]at T;obtain⟨z',U,h3⟩:=T;rw[h1,Ac,U,h3];simp
   ·rw[A0 Fj,A0 IG]
  ·cases h
theorem ge:(aF.map λz=>Value.string ⟨z.toArray⟩)=Hu.map Value.string:=kr
theorem AIK{W:World}(h:laidMetH AA [("interlace/token.words", Rows.laid_interlace_token_words)] W):GOk ⟨[],λ_ => .imm⟩ W := by
 have h:laidMet AA [("interlace/token.words", Rows.laid_interlace_token_words)] W := h;obtain⟨ps,⟨g',t',cs,T,p,q,I,J,o,U,_,_⟩,_⟩:=h;have V:AA.globalNamed "interlace/token.words" = some 0 := by kernel_rfl
 obtain rfl:=Option.some.inj (V.symm.trans I);have O:(AA.globals[0]?).map (·.type)=some 390:=kr;obtain rfl:=Option.some.inj (O.symm.trans J);rw[pU]at U;have r:=ZY (n:=49) (e:=9) kr kr  kr kr  U;rw[ge]at r;intro g cs' j i c t;have P:glb.lookup g=if g=0 then some (Hu.map AV.str)else none:=by
  unfold glb;simp only[List.lookup];split
  ·rename_i C;simp at C;simp[C]
  ·rename_i C;simp at C;simp[C]
 rw[P]at j;split at j
 ·rename_i h0;subst h0;cases j;rw[Ac]at t;cases R:Hu[i]? with
  |none=>rw[R]at t;cases t
  |some s =>
   rw[R]at t;cases t;refine⟨trivial,.string s,rfl, ?_⟩;rw[World.var?_cell V o i];rw[<- Array.getElem?_toList,r,Ac,R];rfl
 ·cases j
theorem Al1{a b:Bool}(g:a=true)(i:b=true):(a&&b)=true:=by rw[g,i];rfl
noncomputable def UK(g:Os):World :=
 { World.holding AA g ⟨#[],#[],[]⟩ with heap:=(World.holding AA g ⟨#[],#[],[]⟩).heap.modify 0 fun
   |.cells _ t frozen => .cells (Hu.map Value.string).toArray t frozen
   |o=>o }
end Go.Proofs.YtfohpcndcpadgaaGreatDoor
namespace Go.Proofs.YtfohpcndcpadgaaGreatDoor
open Go.ChangeShapes Go.WideShapes Go.ChangeAt Go.RowKit Go.AI
theorem MT(g:Os):laidMet AA Rows.contractRunsAsSpecifiedUptoRow.laid ((UK g).forCall (λ_ _=>0) ⟨#[],#[.agg #[.slice none 0 0,.slice none 0 0,.slice none 0 0,.slice none 0 0,.slice none 0 0,.slice none 0 0],.slice none 0 0,.slice none 0 0,.int .i64 0],[]⟩).memory :=
 laidMet_of_run' 8 kr kr
theorem Lx(j:Os){H:Type}(i:TypeId×Value->H): ∃g,DataW.whole i AA ((UK j).forCall (λ_ _=>0) ⟨#[],#[.agg #[.slice none 0 0,.slice none 0 0,.slice none 0 0,.slice none 0 0,.slice none 0 0,.slice none 0 0],.slice none 0 0,.slice none 0 0,.int .i64 0],[]⟩).memory Tryz.f3.params.toList Rows.contractRunsAsSpecifiedSpec.vars false (#[.agg #[.slice none 0 0,.slice none 0 0,.slice none 0 0,.slice none 0 0,.slice none 0 0,.slice none 0 0],.slice none 0 0,.slice none 0 0,.int .i64 0]:Array Value).toList 8=some ([.agg [.agg [.nil,.nil,.nil],.nil,.nil,.nil],.nil,.nil,.lit (.int .i64 0)],[],g) :=
 ⟨[],kr⟩
set_option maxRecDepth 100000 in
theorem LU(p:Os)(g:p.Started)(H:Type)(enc:TypeId×Value->H)(F:Stop.Interp):
  ReturnsInHanded {} Tryz.checked p 3 .any ((Rows.OpenSpec.upto Rows.contractRunsAsSpecifiedSpec).preRow enc AA Tryz.f3 Rows.contractRunsAsSpecifiedUptoRow.domain false Rows.contractRunsAsSpecifiedUptoRow.laid) (((Rows.OpenSpec.upto Rows.contractRunsAsSpecifiedSpec).at F).post enc AA Tryz.f3 false true false false):=by
 obtain⟨t,hx⟩:=Lx p enc;refine returnsInHanded_of_row (C:=Tryz.checked) (s:=Rows.OpenSpec.upto Rows.contractRunsAsSpecifiedSpec) ALU g kr Tryz.func3
  (witness_row_at (enc:=enc) (C:=Tryz.checked) false (UK p) #[.agg #[.slice none 0 0,.slice none 0 0,.slice none 0 0,.slice none 0 0,.slice none 0 0,.slice none 0 0],.slice none 0 0,.slice none 0 0,.int .i64 0] rfl kr kr  kr
   (OpenSpec.preRow_of_cond 8 hx kr (λk P=>by cases P;kernel_rfl) kr (MT p))) ?_
 intro W base args I R i r T _ j J U _ _;refine cm (s:=Rows.contractRunsAsSpecifiedSpec) (tb:=4) ACf AH0 kr (of_decide_eq_true kr) rfl kr rfl ?_ W (AIK U) base args I R i ?_ r T J
 ·intro H I V;match I,V with
  |[a,b,c,d],_=>rfl
 ·intro vs O hb;have o:=AI0 hb (j _ rfl);match vs,O,o with
  |[a,b,c,d],⟨h1,h2,h3,h4,_⟩,o =>
   obtain⟨v1,rfl,_⟩:=Setup.rd h1;obtain⟨v2,rfl,_⟩:=AH1 h2;obtain⟨v3,rfl,_⟩:=AH_ h3;obtain⟨v4,rfl,_⟩:=OL (k:=.i64) kr h4;simp only[Fo,AV.bulk]at o;exact AIo rC v1 v2 v3 v4 Fj Fj  Fj
set_option maxHeartbeats 10000000 in
theorem LV:joinedFacts Tryz.pinned.checked.prog 3 Tryz.f3 (Rows.OpenSpec.upto Rows.contractRunsAsSpecifiedSpec).bare Rows.contractRunsAsSpecifiedUptoRow=true:=by
 unfold joinedFacts;repeat' (with_reducible refine Al1 ?_ ?_)
 all_goals (as_aux_lemma=>kernel_rfl)
theorem MA:Rows.ContractRunsAsSpecifiedUptoSaid :=
 OpenClaim.holds_of_cond 3 Tryz.f3 rfl rfl rfl rfl rfl rfl rfl ⟨rfl,rfl,rfl,rfl,rfl⟩ rfl rfl rfl rfl rfl kr Tryz.func3 LV
  (of_decide_eq_true kr) (by unfold Func.isWrapper;first|(rw[iP dk];kernel_rfl)|(rw[iN dk];exact⟨rfl,rfl⟩))
  (λj g H i _ F=>by rw[OpenClaim.pre_eq_preRow];exact LU j g H i F)
theorem Ly(f:FuncId)(fn:Func)(o:Tryz.pinned.checked.prog.funcNamed "interlace/interlacelaw19.ContractRunsAsSpecified" = some f)(i:Tryz.pinned.checked.prog.funcs[f]? =some fn):
  false=Tryz.pinned.checked.prog.looks [] /\ ∀(j:Nat) t,fn.params[j]? =some t->Tryz.pinned.checked.prog.wantsStandIn t=false:=by
 obtain rfl:f=3 := Option.some.inj ((show AA.funcNamed "interlace/interlacelaw19.ContractRunsAsSpecified" = some 3 by kernel_rfl).symm.trans o) |>.symm;obtain rfl:fn=Tryz.f3:=(Option.some.inj (Tryz.func3.symm.trans i)).symm;refine⟨kr,λj t p=>?_⟩;have hm:t∈Tryz.f3.params.toList:=by simpa using Array.mem_of_getElem? p
 have g:(Tryz.f3.params.toList.all λt=>Tryz.pinned.checked.prog.wantsStandIn t==false)=true:=kr;simpa using List.all_eq_true.1 g t hm
theorem AGB(P:Program)(c:OpenClaim)(h:P.funcs.any Func.goes=false)(s:c.start=.entering):false=c.goesBy P:=by
 unfold OpenClaim.goesBy Program.goesAt Program.goesFrom;rw[s];cases P.funcNamed c.func with
 |none=>rfl
 |some f=>
  simp only[Option.any_some,Program.goes,h,Bool.and_false,Bool.or_false]
  refine(List.any_eq_false.2 λg _ e=>?_).symm
  cases q:P.funcs[g]? with
  |none=>simp[q] at e
  |some a=>exact absurd (Array.any_eq_true'.2 ⟨a,Array.mem_of_getElem? q,by simpa[q] using e⟩) (by simp[h])
theorem contractRunsAsSpecified_card:Rows.ContractRunsAsSpecifiedUptoCardSaid :=
 Claim7.holds_tied_plain_at .later [] _ _ _ _ MA (λ_ h=>by cases h) kr (λ_ h=>by cases h) contractRunsAsSpecifiedUpto_row_tie rfl ⟨rfl,rfl⟩ kr rfl Ly (AGB _ _ kr rfl)
end Go.Proofs.YtfohpcndcpadgaaGreatDoor
