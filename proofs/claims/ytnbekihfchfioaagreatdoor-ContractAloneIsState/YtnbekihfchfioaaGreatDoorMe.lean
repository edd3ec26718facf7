/- The abstract walk as a program that computes: operations. -/
import Derived.Test.YtnbekihfchfioaaGreatDoorLi
import Derived.Test.YtnbekihfchfioaaGreatDoorProg
import Derived.Below
import Derived.Shelf.SlIterI.Nil
import Derived.Shelf.SortM.Plain
import Derived.Shelf.SortM.SortNone
import Derived.Ground.GgzProg
import Derived.Ground.SlgmProg
set_option linter.unusedSimpArgs false
set_option linter.unusedVariables false
set_option linter.defProp false
open Go.Proofs.Tryz
open Go.AI renaming Hint->Ed
open Array renaming getElem?_eq_none_iff->Df,getElem?_eq_some_iff->Ap,getElem?_toList->Ad
open Bool renaming and_eq_true->AR,or_eq_true->CJ
open Int renaming le_trans->DF
open List renaming all_eq_true->Ao,ext_getElem?->A4,getElem?_eq_getElem->AL,getElem?_eq_none->Ax,getElem?_eq_some_iff->AD,getElem?_map->Ac,getElem?_of_mem->Af,length_map->Aq,mem_cons->AZ,mem_singleton->Al,pairwise_cons->Bi,pairwise_map->ED,range->Am
open Nat renaming beq->CK,eq_of_beq_eq_true->DE
open Option renaming any->Cq,bind_eq_some_iff->CH
open Go.Proofs.Tryz renaming prog->AA
namespace Go.AI
open Go.MapKept
def ACP(op:BinOp)(a b:AV):Option AV :=
 match a,b with
 | .int k x,.int k' y =>
  match op with
  | .shl=>if 0<=y then some (.int k (k.wrap (x*2^(min y.toNat k.bits)))) else none
  | .shr=>if 0<=y then some (.int k (x.fdiv (2^(min y.toNat k.bits)))) else none
  | .add=>if k=k' then some (.int k (k.wrap (x+y))) else none
  | .sub=>if k=k' then some (.int k (k.wrap (x - y))) else none
  | .mul=>if k=k' then some (.int k (k.wrap (x*y))) else none
  | .quo=>if k=k'/\y≠0 then some (.int k (k.wrap (x.tdiv y))) else none
  | .rem=>if k=k'/\y≠0 then some (.int k (x.tmod y)) else none
  | .and=>if k=k' then some (.int k (k.wrap (BitVec.ofInt k.bits x &&& BitVec.ofInt k.bits y).toNat)) else none
  | .or=>if k=k' then some (.int k (k.wrap (BitVec.ofInt k.bits x ||| BitVec.ofInt k.bits y).toNat)) else none
  | .xor=>if k=k' then some (.int k (k.wrap (BitVec.ofInt k.bits x ^^^ BitVec.ofInt k.bits y).toNat)) else none
  | .andNot=>if k=k' then some (.int k (k.wrap (BitVec.ofInt k.bits x &&& ~~~ BitVec.ofInt k.bits y).toNat)) else none
  | .eql=>if k=k' then some (.bool (x==y)) else none
  | .neq=>if k=k' then some (.bool (x !=y)) else none
  | .lss=>if k=k' then some (.bool (decide (x<y))) else none
  | .leq=>if k=k' then some (.bool (decide (x<=y))) else none
  | .gtr=>if k=k' then some (.bool (decide (x>y))) else none
  | .geq=>if k=k' then some (.bool (decide (x≥y))) else none
 | .str x,.str y =>
  match op with
  | .add=>if x.size+y.size<=9223372036854775807 then some (.str (x++y)) else none
  | .eql=>some (.bool (x.data.toList==y.data.toList))
  | .neq=>some (.bool !(x.data.toList==y.data.toList))
  | .lss=>some (.bool (Op.bytesLess x.data.toList y.data.toList))
  | .leq=>some (.bool (Op.bytesLess x.data.toList y.data.toList||x.data.toList==y.data.toList))
  | .gtr=>some (.bool !(Op.bytesLess x.data.toList y.data.toList||x.data.toList==y.data.toList))
  | .geq=>some (.bool !(Op.bytesLess x.data.toList y.data.toList))
  | _=>none
 | _,_=>none
def KC{α:Type}{c:Prop}[Decidable c]{x:Option α}{v:α}(h:(if c then x else none)=some v):c/\x=some v:=by
 split at h
 ·rename_i hc;exact ⟨hc,h⟩
 ·cases h
def iT{op:BinOp}{a b v:AV}{R:AV->Prop}(h:ACP op a b=some v)(hr:R v):KA op a b R:=by
 unfold ACP at h
 unfold KA
 split at h
 ·cases op<;>obtain ⟨h1,h2⟩:=KC h<;>cases h2<;>first|exact ⟨h1,hr⟩|exact ⟨h1.1,h1.2,hr⟩
 ·simp only [ByteArray.toList_eq]
  cases op<;>first|(cases h;done)|(obtain ⟨h1,h2⟩:=KC h;cases h2;exact ⟨h1,hr⟩)|(cases h;exact hr)
 ·cases h
def ac(P:Program)(op:BinOp)(t:TypeId)(a b:AV):Option AV :=
 match op,KB P t a b with
 | .eql,some r=>some (.bool r)
 | .neq,some r=>some (.bool !r)
 | _,_=>ACP op a b
def ni{P:Program}{op:BinOp}{t:TypeId}{a b v:AV}{R:AV->Prop}(h:ac P op t a b=some v)(hr:R v):J9 P op t a b R:=by
 unfold ac at h
 unfold J9
 generalize KB P t a b=q at h ⊢
 cases q with
 | none=>cases op<;>exact iT h hr
 | some r=>cases op<;>first|exact iT h hr|(cases h;exact hr)
def Zc(P:Program)(op:BinOp)(t:TypeId)(a:AV):Option AV :=
 match P.underlying t with
 | some (.slice _)=>match op,a with
  | .eql,.sl _ (_::_)=>some (.bool false)
  | .neq,.sl _ (_::_)=>some (.bool true)
  | .eql,.msl _ _ _ _=>some (.bool false)
  | .neq,.msl _ _ _ _=>some (.bool true)
  | _,_=>none
 | _=>none
def lM{P:Program}{op:BinOp}{t:TypeId}{a v:AV}{R:AV->Prop}(h:Zc P op t a=some v)(hr:R v):NP P op t a R:=by
 unfold Zc at h
 unfold NP
 split at h
 ·rename_i e he
  simp only [he]
  split at h<;>cases h<;>exact hr
 ·cases h
def aR(P:Program)(t:TypeId)(x:AV)(lo hi mx:Option Int):Option AV :=
 match P.underlying t,x with
 | some .string,.str s =>
  if mx=none/\0<=lo.getD 0/\lo.getD 0<=hi.getD s.size/\hi.getD s.size<=s.size then some (.str (s.extract (lo.getD 0).toNat (hi.getD s.size).toNat)) else none
 | some (.slice e),.sl own es =>
  if 0<=lo.getD 0/\lo.getD 0<=hi.getD es.length/\hi.getD es.length<=es.length/\es.all (λx=>x.cells.length==P.cellsOf e)=true/\(P.info? e).isSome=true then
   match mx with
   | none=>some (.sl (if hi.getD es.length=es.length then own else none) ((es.take (hi.getD es.length).toNat).drop (lo.getD 0).toNat))
   | some m=>if m=hi.getD es.length/\0<P.cellsOf e then some (.sl (some (P.cellsOf e)) ((es.take (hi.getD es.length).toNat).drop (lo.getD 0).toNat)) else none
  else none
 | some (.slice e),.msl ob off len sz =>
  if 0<=lo.getD 0/\lo.getD 0<=hi.getD len/\hi.getD len<=len/\sz=P.cellsOf e/\(P.info? e).isSome=true/\mx=none/\(lo.getD 0=0\/lo.getD 0<len) then
   some (.msl ob (off+(lo.getD 0).toNat*sz) ((hi.getD len).toNat - (lo.getD 0).toNat) sz) else none
 | some (.pointer ta),.cptr cs off=>if lo=none/\hi=none/\mx=none then
   match P.underlying ta with
   | some (.array n e)=>if P.cellsOf e=1/\off+n<=cs.length/\n<=9223372036854775807 then some (.sl none ((cs.drop off).take n)) else none
   | _=>none
  else none
 | some (.array n e),.cptr cs off=>if (lo=none/\hi=none/\mx=none)/\P.cellsOf e=1/\off+n<=cs.length/\n<=9223372036854775807 then some (.sl none ((cs.drop off).take n)) else none
 | _,_=>none
def WH(P:Program)(t:TypeId)(x:AV)(lo hi mx:Option Int)(H:FN):Option AV :=
 match P.underlying t,x with
 | some (.array n e),.ptr o off=>match H[o]? with
  | some (some cs)=>if (lo=none/\hi=none/\mx=none)/\n<=9223372036854775807/\(P.info? e).isSome=true/\off+n*P.cellsOf e<=cs.length then some (.msl o off n (P.cellsOf e)) else none
  | _=>none
 | some (.slice e),.sl _ _=>if (lo=none/\hi=some 0/\mx=some 0)/\(P.info? e).isSome=true then some (.sl (some 0) []) else none
 | _,_=>none
def iE{P:Program}{t:TypeId}{x v:AV}{lo hi mx:Option Int}{H:FN}{R:AV->Prop}(h:WH P t x lo hi mx H=some v)(hr:R v):J6 P t x lo hi mx H R:=by
 unfold WH at h
 unfold J6
 split at h
 ·rename_i hu
  split at h
  ·rename_i cs ho
   obtain ⟨h1,h2⟩:=KC h
   cases h2
   simp only [hu,ho]
   exact ⟨h1.1,h1.2.1,h1.2.2.1,h1.2.2.2,hr⟩
  ·cases h
 ·rename_i hu
  obtain ⟨h1,h2⟩:=KC h
  cases h2
  simp only [hu]
  exact ⟨h1.1,h1.2,hr⟩
 ·cases h
def pr{es:List AV}{k:Nat}(h:es.all (λx=>x.cells.length==k)=true): ∀ x∈es,x.cells.length=k:=λx hx=>by
 have:=Ao.1 h x hx
 simpa using this
def nS{P:Program}{t:TypeId}{x v:AV}{lo hi mx:Option Int}{R:AV->Prop}(h:aR P t x lo hi mx=some v)(hr:R v):Nj P t x lo hi mx R:=by
 unfold aR at h
 unfold Nj
 split at h
 ·rename_i hu
  simp only [hu]
  obtain ⟨h1,h2⟩:=KC h
  cases h2
  exact ⟨h1.1,h1.2.1,h1.2.2.1,h1.2.2.2,hr⟩
 ·rename_i hu
  simp only [hu]
  obtain ⟨⟨h1,h2,h3,h4,h5⟩,h⟩:=KC h
  refine ⟨h1,h2,h3,pr h4,h5, ?_⟩
  split at h
  ·cases h;exact hr
  ·obtain ⟨h6,h⟩:=KC h
   cases h;exact ⟨h6.1,h6.2,hr⟩
 ·rename_i hu
  simp only [hu]
  obtain ⟨h1,h⟩:=KC h
  cases h
  exact ⟨h1,hr⟩
 ·rename_i hu
  simp only [hu]
  obtain ⟨⟨h1,h2,h3⟩,h⟩:=KC h
  refine ⟨h1,h2,h3, ?_⟩
  split at h
  ·rename_i ha
   simp only [ha]
   obtain ⟨⟨g1,g2,g3⟩,h⟩:=KC h
   cases h;exact ⟨g1,g2,g3,hr⟩
  ·cases h
 ·rename_i hu
  simp only [hu]
  obtain ⟨h1,h⟩:=KC h
  cases h
  exact ⟨h1.1,h1.2.1,h1.2.2.1,h1.2.2.2,hr⟩
 ·cases h
def zj:AV->Bool
 | .sl (some _) _=>false
 | _=>true
def zi{cs:List AV}(h:cs.all zj=true):cs.map borrow1=cs:=by
 induction cs with
 | nil=>rfl
 | cons c cs ih =>
  simp only [List.all_cons,AR] at h
  rw [List.map_cons,ih h.2]
  congr 1
  have h1:=h.1
  cases c<;>try rfl
  rename_i w es
  cases w
  ·rfl
  ·simp [zj] at h1
def WO(P:Program)(e:TypeId)(mt ln:Bool)(H:FN)(a:AV)(xs:List AV):Option (AV×FN) :=
 if xs.all (λx=>x.cells.length==P.cellsOf e)=true then
  match mt,a with
  | false,.sl own es=>if own=some (P.cellsOf e)/\(es.length+xs.length)*P.bytesOf e<=140737488355328/\es.length+xs.length<=9223372036854775807 then some (.sl (bif ln then none else some (P.cellsOf e)) (es++xs),H) else none
  | true,.msl ob off len sz=>match H[ob]? with
   | some (some cs)=>if off=0/\cs.length=len*sz/\cs.all zj=true/\sz=P.cellsOf e/\(len+xs.length)*P.bytesOf e<=140737488355328/\len+xs.length<=9223372036854775807 then
     some (.msl H.length 0 (len+xs.length) (P.cellsOf e),H.set ob none++[some (cs++(HM xs).map borrow1)]) else none
   | _=>none
  | true,.sl (some 0) []=>if 0<xs.length/\xs.length*P.bytesOf e<=140737488355328/\xs.length<=9223372036854775807 then some (.msl H.length 0 xs.length (P.cellsOf e),H++[some ((HM xs).map borrow1)]) else none
  | _,_=>none
 else none
def iU{P:Program}{e:TypeId}{mt ln:Bool}{H:FN}{a:AV}{xs:List AV}{v:AV}{H':FN}{R:AV->FN->Prop}(h:WO P e mt ln H a xs=some (v,H'))(hr:R v H'):Nl P e mt ln H a xs R:=by
 unfold WO at h
 unfold Nl
 obtain ⟨h0,h⟩:=KC h
 refine ⟨pr h0, ?_⟩
 split at h
 ·obtain ⟨⟨h1,h2,h3⟩,h⟩:=KC h
  cases h
  exact ⟨h1,h2,h3,hr⟩
 ·split at h
  ·rename_i hob
   obtain ⟨⟨h1,h2,h3,h4,h5,h6⟩,h⟩:=KC h
   cases h
   refine ⟨h1,h4,h5,h6, ?_⟩
   simp only [hob]
   exact ⟨h2,zi h3,hr⟩
  ·cases h
 ·obtain ⟨⟨h1,h2,h3⟩,h⟩:=KC h
  cases h
  exact ⟨h1,h2,h3,hr⟩
 ·cases h
def AAI(k:IntKind):AV->Bool
 | .int k' _=>decide (k'=k)
 | _=>false
def AHH:AV->Bool
 | .str _=>true
 | _=>false
def pF(P:Program)(wk:List TypeId)(kt:TypeId)(ks:List AV):Bool :=
 match P.underlying kt with
 | some (.int k)=>ks.all (AAI k)
 | some .string=>ks.all AHH
 | some _=>wk.contains kt&&ks.all λa=>match Sa a with
  | some v=>(keyOf P kt v).isSome
  | none=>false
 | none=>false
def ah(P:Program)(wk:List TypeId):Prop:=∀ kt∈wk,WideMaps.KeyLaw P kt
def eV{P:Program}{wk:List TypeId}{kt:TypeId}{ks:List AV}(hw:ah P wk)(h:pF P wk kt ks=true):MN P kt ks:=by
 unfold pF at h
 split at h
 ·rename_i k hk
  refine ⟨_,KLaw.plain hk,λa ha=>?_⟩
  have:=Ao.1 h a ha
  cases a<;>first|cases this|skip
  rename_i k' n
  exact ⟨_,rfl,(by simpa [AAI] using this:k'=k)⟩
 ·rename_i hk
  refine ⟨_,KLaw.plain hk,λa ha=>?_⟩
  have:=Ao.1 h a ha
  cases a<;>first|cases this|skip
  exact ⟨_,rfl,tV⟩
 ·simp only [AR] at h
  refine ⟨_,KLaw.wide (hw kt (by simpa using h.1)),λa ha=>?_⟩
  have:=Ao.1 h.2 a ha
  split at this
  ·rename_i v hv
   exact ⟨v,hv,Option.isSome_iff_exists.1 this⟩
  ·cases this
 ·cases h
def Yl(es:List (AV×AV)):Bool:=match es with
 | []=>true
 | p::es=>es.all (λq => !Hm p.1 q.1)&&Yl es
def Vy{es:List (AV×AV)}(h:Yl es=true):RX es:=by
 induction es with
 | nil=>exact List.Pairwise.nil
 | cons p es ih =>
  simp only [Yl,AR] at h
  exact List.Pairwise.cons (λq hq=>by simpa using Ao.1 h.1 q hq) (ih h.2)
def aW(P:Program)(t:TypeId)(H:FN)(x:AV):Option (AV×FN) :=
 match P.underlying t,x with
 | some .string,.str s=>some (.it H.length,H++[some (Vd s 0)])
 | some (.map _ _),.nilm=>some (.it H.length,H++[some [.nilm]])
 | some (.map _ _),.mapr o'=>match Ih H (.mapr o') with
  | some es=>some (.it H.length,H++[some (TN o' es.length [])])
  | none=>none
 | _,_=>none
def nU{P:Program}{t:TypeId}{H:FN}{x v:AV}{H':FN}{R:AV->FN->Prop}(h:aW P t H x=some (v,H'))(hr:R v H'):Qn P t H x R:=by
 unfold aW at h
 unfold Qn
 split at h
 ·rename_i hu;simp only [hu];cases h;exact hr
 ·rename_i hu;simp only [hu];cases h;exact hr
 ·rename_i hu
  simp only [hu]
  split at h
  ·rename_i es he
   simp only [he];cases h;exact hr
  ·cases h
 ·cases h
def R8(n:Nat)(seen:List AV):List Nat:=(Am n).filter λi => !(SA seen).contains (i:Int)
def nb(str:Bool)(H:FN)(o':Nat):Option (AV×FN) :=
 match str,H[o']? with
 | true,some (some [.str s,.int .i64 pos]) =>
  if pos.toNat<s.size then some (.tup [.bool true,.int .i64 pos.toNat,.int .i32 (Utf8.decode s pos.toNat).1],H.set o' (some (Vd s ((pos.toNat+(Utf8.decode s pos.toNat).2:Nat):Int))))
  else some (.tup [.bool false],H)
 | false,some (some [.nilm])=>some (.tup [.bool false],H)
 | false,some (some [.mapr m,.int .i64 since,.tup seen])=>match Ih H (.mapr m) with
  | some es=>if since=es.length then match R8 es.length seen with
   | []=>some (.tup [.bool false],H)
   | [i]=>match es[i]? with
    | some p=>some (.tup [.bool true,p.1.borrow,p.2.borrow],H.set o' (some [.mapr m,.int .i64 since,.tup (seen++[.int .i64 i])]))
    | none=>none
   | _=>none
   else none
  | none=>none
 | _,_=>none
def QN{n:Nat}{seen:List AV}{i:Nat}:i∈R8 n seen↔i<n/\(i:Int)∉SA seen:=by
 simp [R8,List.mem_filter]
def ww{str:Bool}{H:FN}{o':Nat}{v:AV}{H':FN}{R:AV->FN->Prop}(h:nb str H o'=some (v,H'))(hr:R v H'):WJ str H o' R:=by
 unfold nb at h
 unfold WJ
 split at h
 ·rename_i ho
  simp only [ho]
  split at h
  ·rename_i hc;rw [iP hc];cases h;exact hr
  ·rename_i hc;rw [iN hc];cases h;exact hr
 ·rename_i ho;simp only [ho];cases h;exact hr
 ·rename_i m since seen ho
  simp only [ho]
  split at h
  ·rename_i es he
   simp only [he]
   obtain ⟨hs,h⟩:=KC h
   refine ⟨hs, ?_⟩
   split at h
   ·rename_i hun
    cases h
    refine ⟨λ_=>hr,λi p hp hns=>?_⟩
    have:i∈R8 es.length seen:=QN.2 ⟨(AD.1 hp).1,hns⟩
    rw [hun] at this;cases this
   ·rename_i i hun
    have hi:i∈R8 es.length seen:=by rw [hun];exact Al.2 rfl
    obtain ⟨hi1,hi2⟩:=QN.1 hi
    split at h
    ·rename_i p hp
     cases h
     refine ⟨λhall=>absurd (hall i hi1) hi2,λj q hq hns=>?_⟩
     have:j∈R8 es.length seen:=QN.2 ⟨(AD.1 hq).1,hns⟩
     rw [hun] at this
     obtain rfl:=Al.1 this
     rw [hp] at hq;cases hq
     exact hr
    ·cases h
   ·cases h
  ·cases h
 ·cases h
def aa(H:FN)(o':Nat):Option (AV×FN) :=
 match H[o']? with
 | some (some [.mapr m,.int .i64 since,.tup seen])=>match Ih H (.mapr m),seen.getLast? with
  | some es,some (.int .i64 i)=>if since=es.length then match es[i.toNat]? with
   | some p=>some (.tup [p.1.borrow,p.2.borrow],H)
   | none=>none
   else none
  | _,_=>none
 | _=>none
def ng{H:FN}{o':Nat}{v:AV}{H':FN}{R:AV->FN->Prop}(h:aa H o'=some (v,H'))(hr:R v H'):Sq H o' R:=by
 unfold aa at h
 unfold Sq
 split at h
 ·rename_i m since seen ho
  simp only [ho]
  split at h
  ·rename_i es i he hl
   simp only [he,hl]
   obtain ⟨hs,h⟩:=KC h
   refine ⟨hs, ?_⟩
   split at h
   ·rename_i p hp
    cases h
    exact ⟨p,hp,hr⟩
   ·cases h
  ·cases h
 ·cases h
def pp(P:Program)(wk:List TypeId)(h:Ed)(o:Oper)(vals:List AV)(H:FN):Option (AV×FN) :=
 match o.op,vals with
 | .move _,[a]=>some (a,H)
 | .assign _,[a]=>some (a,H)
 | .pick _ _ _,[.bool c,a,b]=>some (if c=true then a else b,H)
 | .box _ _,[a]=>if a.isVal=true then some (.ptr H.length 0,H++[some a.cells]) else none
 | .alloc e,[]=>match o.dst.any h.mt.contains,Fg P e with
  | false,some z=>some (.ptr H.length 0,H++[some z.cells])
  | _,_=>none
 | .build t ps,vs=>(R7 P t (ps.toList.map (·.1)) vs).map λv=>(v,H)
 | .buildSlice t len ps,vs =>
  match P.underlying t with
  | some (.slice e)=>if 0<P.cellsOf e/\len*P.cellsOf e<=16777216/\ps.toList.map (·.1)=Am len/\vs.all (λv=>v.isVal&&v.cells.length==P.cellsOf e)=true/\Gg P e=true then
    match o.dst.any h.mt.contains with
    | true=>some (.msl H.length 0 len (P.cellsOf e),H++[some (HM (vs.map AV.borrow))])
    | false=>some (.sl (some (P.cellsOf e)) (vs.map AV.borrow),H)
   else none
  | _=>none
 | .makeSlice t _ _,[.int _ n,.int _ c] =>
  match P.underlying t with
  | some (.slice e)=>if n=c/\0<=n/\n*P.bytesOf e<=140737488355328/\n<=9223372036854775807/\(P.info? e).isSome=true then
    match Fg P e with
    | some z=>if z.cells.length=P.cellsOf e/\0<P.cellsOf e then some (.msl H.length 0 n.toNat (P.cellsOf e),H++[some (List.replicate n.toNat z.cells).flatten]) else none
    | none=>none
   else none
  | _=>none
 | .load t _,[a]=>X6 P (o.dst.any h.tk.contains) t a H
 | .store t _ _,[a,v]=>(Uc P t a v H).map λH'=>(.undef,H')
 | .nilCheck _,[a]=>(xl a).map λv=>(v,H)
 | .binOp op t _ y _,[a,b]=>match Kl y with
  | true=>(Zc P op t a).map λv=>(v,H)
  | false=>(ac P op t a b).map λv=>(v,H)
 | .unOp op _ _,[a]=>(vUn op a).map λv=>(v,H)
 | .convert src dst _,[a] =>
  match P.underlying src,P.underlying dst,a with
  | some _,some (.int k),.int _ n=>some (.int k (k.wrap n),H)
  | some .string,some .string,.str s=>some (.str s,H)
  | some (.slice e),some .string,.sl _ es=>if (match P.underlying e with|some (.int .u8)=>true|_=>false)=true/\es.all Ob=true then some (.str (Pa es),H) else none
  | _,_,_=>none
 | .makeFunc fn first _,vs=>some (.fn fn (vs.take first.size) (vs.drop first.size),H)
 | .slice t _ lo hi mx,x::rest =>
  match Pb lo.isSome hi.isSome mx.isSome rest with
  | some (l,hh,m)=>match o.dst.any h.mt.contains with
   | true=>(WH P t x l hh m H).map λv=>(v,H)
   | false=>(aR P t x l hh m).map λv=>(v,H)
  | none=>none
 | .fieldAddr s _ f,[x]=>(R6 P (fieldAt P s f) x).map λv=>(v,H)
 | .field t _ f,[x]=>(X5 P (fieldAt P t f) x).map λv=>(v,H)
 | .extract _ i,[x]=>(OE x i).map λv=>(v,H)
 | .indexAddr t _ _,[x,i]=>(Le P (P.underlying t) x i).map λv=>(v,H)
 | .index t _ _,[x,i]=>(Ud P (P.underlying t) x i).map λv=>(v,H)
 | .makeMap _ none,[]=>some (.mapr H.length,H++[some (Jx [])])
 | .range t _,[x]=>aW P t H x
 | .next _ str,[.it o']=>nb str H o'
 | .entry _,[.it o']=>aa H o'
 | .lookup t _ _ ok,[m,k] =>
  match P.underlying t with
  | some (.map kt et)=>match Ih H m with
   | some es=>if pF P wk kt (k::es.map (·.1))=true/\Yl es=true then
     match Fg P et with
     | some z=>some (dt ok z (I9 k es 0),H)
     | none=>none
    else none
   | none=>none
  | _=>none
 | .mapUpdate t _ _ _,[.mapr o',k,v] =>
  match P.underlying t with
  | some (.map kt _)=>match Ih H (.mapr o') with
   | some es=>if pF P wk kt (k::es.map (·.1))=true/\Yl es=true/\v.isVal=true then some (.undef,H.set o' (some (Jx (ML es k v)))) else none
   | none=>none
  | _=>none
 | .call c,vs =>
  match c.callee with
  | .builtin .len=>match vs with
   | [x]=>(xm (c.argTypes[0]?.bind P.underlying) x).map λv=>(v,H)
   | _=>none
  | .builtin .append=>match vs,c.argTypes.toList with
   | [a,b],[t,t']=>if t=t' then match P.underlying t with
    | some (.slice e)=>if 0<P.cellsOf e/\Gg P e=true then match Sn P e (o.dst.any h.mt.contains||o.dst.any h.tk.contains) H b with
     | some xs=>WO P e (o.dst.any h.mt.contains) (o.dst.any h.pc.contains) H a xs
     | none=>none
     else none
    | _=>none
    else none
   | _,_=>none
  | .builtin .min=>match vs with
   | [.int k a,.int k' b]=>if k=k' then some (.int k (if b<a then b else a),H) else none
   | _=>none
  | .builtin .max=>match vs with
   | [.int k a,.int k' b]=>if k=k' then some (.int k (if b>a then b else a),H) else none
   | _=>none
  | .builtin .clear=>match vs,c.argTypes.toList with
   | [.msl ob off len sz],[t]=>match P.underlying t with
    | some (.slice e)=>match H[ob]?,Fg P e with
     | some (some cs),some z=>if sz=z.cells.length/\0<len/\off+len*sz<=cs.length then some (.tup [],H.set ob (some (splice cs off (GY z len)))) else none
     | _,_=>none
    | _=>none
   | _,_=>none
  | _=>none
 | _,_=>none
def Mk{α β:Type}{x:Option α}{f:α->β}{y:β}(h:x.map f=some y): ∃ a,x=some a/\f a=y:=by
 cases x with
 | none=>cases h
 | some a=>exact ⟨a,rfl,by simpa using h⟩
set_option maxHeartbeats 1000000 in
def AB8{P:Program}{wk:List TypeId}(hw:ah P wk){h:Ed}{o:Oper}{vals:List AV}{H:FN}{v:AV}{H':FN}{R:AV->FN->Prop}(hx:pp P wk h o vals H=some (v,H'))(hr:R v H'):Fb P h o vals H R:=by
 unfold pp at hx
 split at hx<;>rename_i heq
 ·cases hx;simp only [Fb,heq];exact hr
 ·cases hx;simp only [Fb,heq];exact hr
 ·cases hx;simp only [Fb,heq];exact hr
 ·obtain ⟨h1,h2⟩:=KC hx
  cases h2;simp only [Fb,heq];exact ⟨h1,hr⟩
 ·split at hx
  ·rename_i z hm hz
   cases hx;simp only [Fb,heq,hm];exact ⟨z,hz,hr⟩
  ·cases hx
 ·obtain ⟨a,h1,h2⟩:=Mk hx
  cases h2
  unfold R7 at h1
  simp only [Fb,heq]
  split at h1
  ·rename_i fs hu
   simp only [hu]
   obtain ⟨g1,h1⟩:=KC h1
   split at h1
   ·rename_i z hz
    obtain ⟨cs,g2,rfl⟩:=Mk h1
    exact ⟨z,cs,g1,hz,g2,hr⟩
   ·cases h1
  ·rename_i n e hu
   simp only [hu]
   obtain ⟨g1,h1⟩:=KC h1
   split at h1
   ·rename_i z hz
    obtain ⟨cs,g2,rfl⟩:=Mk h1
    exact ⟨z,cs,g1,hz,g2,hr⟩
   ·cases h1
  ·cases h1
 ·split at hx
  ·rename_i e hu
   obtain ⟨⟨g1,g2,g3,g4,g5⟩,hx⟩:=KC hx
   simp only [Fb,heq,hu]
   refine ⟨g1,g2,g3,λx hx'=>?_,g5, ?_⟩
   ·have:=Ao.1 g4 x hx'
    simpa using this
   ·split at hx
    ·rename_i hm
     cases hx;simp only [hm];exact hr
    ·rename_i hm
     cases hx;simp only [hm];exact hr
  ·cases hx
 ·split at hx
  ·rename_i e hu
   obtain ⟨⟨g1,g2,g3,g4,g5⟩,hx⟩:=KC hx
   split at hx
   ·rename_i z hz
    obtain ⟨⟨g6,g7⟩,hx⟩:=KC hx
    cases hx
    simp only [Fb,heq,hu]
    exact ⟨g1,g2,g3,g4,g5,z,hz,g6,g7,hr⟩
   ·cases hx
  ·cases hx
 · -- load
  unfold X6 at hx
  split at hx
  ·split at hx
   ·rename_i cs hob
    split at hx
    ·rename_i x hl
     split at hx
     ·rename_i htk
      obtain ⟨⟨g1,g2⟩,hx⟩:=KC hx
      cases hx
      simp only [Fb,heq,hob,hl,htk]
      exact ⟨g1,g2,hr⟩
     ·rename_i htk
      cases hx
      simp only [Fb,heq,hob,hl,htk]
      exact hr
    ·cases hx
   ·cases hx
  ·split at hx
   ·rename_i x hl
    cases hx
    simp only [Fb,heq,hl]
    exact hr
   ·cases hx
  ·cases hx
 · -- store
  obtain ⟨a,h1,h2⟩:=Mk hx
  cases h2
  unfold Uc at h1
  split at h1
  ·split at h1
   ·rename_i cs hob
    obtain ⟨⟨g1,g2,g3,g4⟩,h1⟩:=KC h1
    cases h1
    simp only [Fb,heq,hob]
    exact ⟨g1,g2,g3,g4,hr⟩
   ·cases h1
  ·cases h1
 ·obtain ⟨a,h1,h2⟩:=Mk hx
  cases h2
  unfold xl at h1
  split at h1<;>cases h1<;>(simp only [Fb,heq];exact hr)
 ·split at hx
  ·rename_i hn
   obtain ⟨a,h1,h2⟩:=Mk hx
   cases h2
   simp only [Fb,heq,hn]
   exact lM h1 hr
  ·rename_i hn
   obtain ⟨a,h1,h2⟩:=Mk hx
   cases h2
   simp only [Fb,heq,hn]
   exact ni h1 hr
 ·obtain ⟨a,h1,h2⟩:=Mk hx
  cases h2
  unfold vUn at h1
  split at h1<;>cases h1<;>(simp only [Fb,heq];exact hr)
 ·split at hx
  ·rename_i g1 g2
   cases hx
   simp only [Fb,heq,g1,g2];exact hr
  ·rename_i g1 g2
   cases hx
   simp only [Fb,heq,g1,g2];exact hr
  ·rename_i g1 g2
   obtain ⟨⟨g3,g4⟩,hx⟩:=KC hx
   cases hx
   simp only [Fb,heq,g1,g2]
   refine ⟨?_,λx hx'=>Ao.1 g4 x hx',hr⟩
   split at g3
   ·assumption
   ·cases g3
  ·cases hx
 ·cases hx;simp only [Fb,heq];exact hr
 ·split at hx
  ·rename_i hb
   split at hx
   ·rename_i hm
    obtain ⟨a,h1,h2⟩:=Mk hx
    cases h2
    simp only [Fb,heq,hb,hm]
    exact iE h1 hr
   ·rename_i hm
    obtain ⟨a,h1,h2⟩:=Mk hx
    cases h2
    simp only [Fb,heq,hb,hm]
    exact nS h1 hr
  ·cases hx
 ·obtain ⟨a,h1,h2⟩:=Mk hx
  cases h2
  unfold R6 fieldAt at h1
  simp only [Fb,heq]
  split at h1
  ·rename_i fd hfd
   split at hfd
   ·rename_i fs hu
    simp only [hu,hfd]
    obtain ⟨g1,h1⟩:=KC h1
    refine ⟨g1, ?_⟩
    unfold qL at h1
    split at h1<;>cases h1<;>exact hr
   ·cases hfd
  ·cases h1
 ·obtain ⟨a,h1,h2⟩:=Mk hx
  cases h2
  unfold X5 fieldAt at h1
  split at h1
  ·rename_i fd cs hfd
   split at hfd
   ·rename_i fs hu
    simp only [Fb,heq,hu,hfd,h1]
    exact hr
   ·cases hfd
  ·cases h1
 ·obtain ⟨a,h1,h2⟩:=Mk hx
  cases h2
  unfold OE at h1
  split at h1
  ·simp only [Fb,heq]
   exact ⟨_,h1,hr⟩
  ·cases h1
 ·obtain ⟨a,h1,h2⟩:=Mk hx
  cases h2
  unfold Le at h1
  split at h1
  ·split at h1
   ·rename_i e own es hu
    obtain ⟨g1,h1⟩:=KC h1
    simp only [Fb,heq,hu]
    obtain ⟨x,g2,h1⟩:=CH.1 h1
    obtain ⟨⟨g3,g4⟩,h1⟩:=KC h1
    cases h1
    exact ⟨g1,x,g2,g3,g4,hr⟩
   ·rename_i hu
    obtain ⟨⟨g1,g2,g3,g4⟩,h1⟩:=KC h1
    cases h1
    simp only [Fb,heq,hu]
    exact ⟨g1,g2,g3,g4,hr⟩
   ·rename_i hu
    obtain ⟨⟨g1,g2,g3⟩,h1⟩:=KC h1
    cases h1
    simp only [Fb,heq,hu]
    exact ⟨g1,g2,g3,hr⟩
   ·rename_i hu
    obtain ⟨⟨g1,g2,g3⟩,h1⟩:=KC h1
    cases h1
    simp only [Fb,heq,hu]
    exact ⟨g1,g2,g3,hr⟩
   ·cases h1
  ·cases h1
 ·obtain ⟨a,h1,h2⟩:=Mk hx
  cases h2
  unfold Ud at h1
  split at h1
  ·split at h1
   ·rename_i hu
    obtain ⟨⟨g1,g2⟩,h1⟩:=KC h1
    cases h1
    simp only [Fb,heq,hu]
    exact ⟨g1,g2,hr⟩
   ·rename_i hu
    obtain ⟨⟨g1,g2,g3⟩,h1⟩:=KC h1
    simp only [Fb,heq,hu]
    exact ⟨g1,g2,g3,_,h1,hr⟩
   ·cases h1
  ·cases h1
 ·cases hx;simp only [Fb,heq];exact hr
 ·simp only [Fb,heq];exact nU hx hr
 ·simp only [Fb,heq];exact ww hx hr
 ·simp only [Fb,heq];exact ng hx hr
 ·split at hx
  ·rename_i hu
   split at hx
   ·rename_i es he
    obtain ⟨⟨g1,g2⟩,hx⟩:=KC hx
    split at hx
    ·rename_i z hz
     cases hx
     simp only [Fb,heq,hu,he]
     exact ⟨eV hw g1,Vy g2,z,hz,hr⟩
    ·cases hx
   ·cases hx
  ·cases hx
 ·split at hx
  ·rename_i hu
   split at hx
   ·rename_i es he
    obtain ⟨⟨g1,g2,g3⟩,hx⟩:=KC hx
    cases hx
    simp only [Fb,heq,hu,he]
    exact ⟨eV hw g1,Vy g2,g3,hr⟩
   ·cases hx
  ·cases hx
 ·rename_i c
  split at hx
  ·rename_i hcal
   split at hx
   ·obtain ⟨a,h1,h2⟩:=Mk hx
    cases h2
    unfold xm at h1
    split at h1<;>cases h1<;>(rename_i hu;simp only [Fb,heq,hcal,hu];exact hr)
   ·cases hx
  ·rename_i hcal
   split at hx
   ·rename_i hat
    obtain ⟨g0,hx⟩:=KC hx
    split at hx
    ·rename_i e hu
     obtain ⟨⟨g1,g2⟩,hx⟩:=KC hx
     split at hx
     ·rename_i xs hs
      simp only [Fb,heq,hcal,hat,iP g0,hu,hs]
      exact ⟨g1,g2,iU hx hr⟩
     ·cases hx
    ·cases hx
   ·cases hx
  ·rename_i hcal
   split at hx
   ·obtain ⟨g1,hx⟩:=KC hx
    cases hx
    simp only [Fb,heq,hcal]
    exact ⟨g1,hr⟩
   ·cases hx
  ·rename_i hcal
   split at hx
   ·obtain ⟨g1,hx⟩:=KC hx
    cases hx
    simp only [Fb,heq,hcal]
    exact ⟨g1,hr⟩
   ·cases hx
  ·rename_i hcal
   split at hx
   ·rename_i hat
    split at hx
    ·rename_i e hu
     split at hx
     ·rename_i cs z ho hz
      obtain ⟨⟨g1,g2,g3⟩,hx⟩:=KC hx
      cases hx
      simp only [Fb,heq,hcal,hat,hu,ho]
      exact ⟨z,hz,g1,g2,g3,hr⟩
     ·cases hx
    ·cases hx
   ·cases hx
  ·cases hx
 ·cases hx
end Go.AI
namespace Go.AI
inductive Task where
 | call (f:FuncId) (vs:List AV) (H:FN)
 | yld (o:Nat) (L:LoopRec) (ys:List AV) (H:FN)
 | code (hf:FuncId) (n:Nat) (ar:Option Nat) (c:Code) (e:Fp) (H:FN)
 | ops (hf:FuncId) (n:Nat) (os:Array Oper) (l:List Oper) (e:Fp) (H:FN)
inductive ROut where
 | val (v:AV) (H:FN)
 | st (ex:Exit) (e:Fp) (H:FN)
structure EvT where
 tb:FuncId->Option Func
 hs:FuncId->Ed
 wk:List TypeId
 orc:FuncId->List AV->FN->Option (AV×FN)
def NR(H:FN)(o:Nat):Option (Int×List AV) :=
 match H[o]? with
 | some (some [.tup [.int .i64 st],.tup av])=>some (st,av)
 | _=>none
def PK{H:FN}{o:Nat}{st:Int}{av:List AV}(h:NR H o=some (st,av)):H[o]? =some (some (G5 st av)):=by
 unfold NR at h
 split at h
 ·rename_i hh;cases h;exact hh
 ·cases h
def cU(P:Program)(n:Nat):List ResultVar->Fp->FN->Option (List AV×FN)
 | [],_,H=>some ([],H)
 | .tmp t::rs,e,H=>if t<n then (cU P n rs (M1 P none true (.tmp t) e).2 H).map λr=>((M1 P none true (.tmp t) e).1::r.1,r.2) else none
 | .cell t ty::rs,e,H=>if t<n then match oR P ty (Fm e t) H with
   | some (v,H')=>(cU P n rs e H').map λr=>(v::r.1,r.2)
   | none=>none
  else none
def yT:List AV->Option AV
 | [v]=>some v
 | vs=>if vs.all AV.isVal=true then some (.tup vs) else none
def aU(ar:Option Nat)(H:FN):Bool :=
 match ar with
 | none=>true
 | some o=>match H[o]? with
  | some (some _)=>true
  | _=>false
def ARW(n:Nat):Option Tmp->Bool
 | some d=>decide (d<n)
 | none=>true
def Ui(P:Program)(T:EvT)(ih:Task->Option ROut)(f:FuncId)(vs:List AV)(H:FN):Option ROut :=
 match T.orc f vs H with
 | some (v,H')=>some (.val v H')
 | none=>match T.tb f with
  | some fn=>match fn.body with
   | some c=>if vs.length<=fn.ntmps then
     match ih (.code f fn.ntmps none c (GM 0 vs) H) with
     | some (.st .normal e H')=>(cU P fn.ntmps fn.results.toList e H').bind λr=>(yT r.1).map λv => .val v r.2
     | some (.st .ret e H')=>(cU P fn.ntmps fn.results.toList e H').bind λr=>(yT r.1).map λv => .val v r.2
     | _=>none
    else none
   | none=>none
  | none=>none
def ZC(T:EvT)(ih:Task->Option ROut)(o:Nat)(L:LoopRec)(ys:List AV)(H:FN):Option ROut :=
 match T.tb L.tag,NR H o with
 | some fn,some (st,av) =>
  if st=0/\av.length=fn.ntmps/\L.ps.toList.length=ys.length/\L.ps.toList.all (λp=>decide (p<fn.ntmps))=true/\GX (T.hs L.tag) L.assign=true/\GX (T.hs L.tag) L.body=true then
   match ih (.code L.tag fn.ntmps (some o) L.assign (Ku av L.ps.toList ys (GM 0 av)) H) with
   | some (.st .normal e2 H2)=>match NR H2 o with
    | some (st2,av2)=>if st2=0 then
      match ih (.code L.tag fn.ntmps (some o) L.body e2 (H2.set o (some (G5 (-1) av2)))) with
      | some (.st ex _ H3)=>match NR H3 o with
       | some (st3,av3)=>if st3 = -1 then match ex with
         | .normal=>some (.val (.bool true) (H3.set o (some (G5 0 av3))))
         | .ret=>some (.val (.bool false) (H3.set o (some (G5 (-2) av3))))
         | .exit k=>some (.val (.bool false) (H3.set o (some (G5 ((k:Int)+1) av3))))
         | _=>none
        else none
       | none=>none
      | _=>none
     else none
    | none=>none
   | _=>none
  else none
 | _,_=>none
def nW(P:Program)(h:Ed)(o o':Oper)(e:Fp):Bool :=
 match J8 P h o,J8 P h o' with
 | some (a,k,s),some (b,l,s')=>(s||s')&&match Fm e a,Fm e b with
  | .ptr o1 f1,.ptr o2 f2 => !(o1==o2)||(decide (f1+k<=f2)||decide (f2+l<=f1))
  | _,_=>false
 | _,_=>false
def AaY(P:Program)(h:Ed)(ops:Array Oper)(e:Fp):Bool:=(RV h ops).all λp=>nW P h p.1 p.2 e
def Ks(P:Program)(T:EvT)(ih:Task->Option ROut)(hf:FuncId)(n:Nat)(ar:Option Nat)(c:Code)(e:Fp)(H:FN):Option ROut :=
 match c with
 | .skip=>some (.st .normal e H)
 | .ret=>some (.st .ret e H)
 | .exit id=>some (.st (.exit id) e H)
 | .region id ops _=>match ih (.ops hf n ops ((T.hs hf).ord id ops) e H) with
  | some (.st .normal e1 H1) =>
   if (!((T.hs hf).da id)||AaY P (T.hs hf) ops e1)=true then
    match KW ((T.hs hf).at id) (Ha ((T.hs hf).lv id) e1) H1 with
    | (e2,H2)=>some (.st .normal e2 (To ((T.hs hf).ct id) e2 H2))
   else none
  | _=>none
 | .seq a b=>match ih (.code hf n ar a e H) with
  | some (.st .normal e1 H1)=>ih (.code hf n ar b e1 H1)
  | r=>r
 | .cond c a b=>match Gy P none e c with
  | .bool t=>if t=true then ih (.code hf n ar a e H) else ih (.code hf n ar b e H)
  | _=>none
 | .block id c=>match ih (.code hf n ar c e H) with
  | some (.st (.exit j) e1 H1)=>if j=id then some (.st .normal e1 H1) else some (.st (.exit j) e1 H1)
  | r=>r
 | .loop c=>match ih (.code hf n ar c e H) with
  | some (.st .normal e1 H1)=>ih (.code hf n ar (.loop c) e1 H1)
  | r=>r
 | .rangeFunc g ps assign body=>match Gy P none e g with
  | .fn (.func f) first captured=>if aU ar H=true then
    match ih (.call f (first.map AV.borrow++[.yld H.length ⟨hf,ps,assign,body⟩]++captured.map AV.borrow) (H++[some (G5 0 (Hd n e))])) with
    | some (.val _ H2)=>match NR H2 H.length with
     | some (st,_)=>if st=0 then some (.st .normal e (H2.set H.length none)) else if st = -2 then some (.st .ret e (H2.set H.length none)) else
       if 0<st then some (.st (.exit (st - 1).toNat) e (H2.set H.length none)) else none
     | none=>none
    | _=>none
   else none
  | _=>none
 | _=>none
mutual
def IN:AV->AV->Bool
 | .int k n,b=>match b with | .int k' n'=>decide (k=k')&&n==n'|_=>false
 | .bool x,b=>match b with | .bool y=>x==y|_=>false
 | .str s,b=>match b with | .str t=>s.data.toList==t.data.toList|_=>false
 | .nilp,b=>match b with | .nilp=>true|_=>false
 | .ptr o x,b=>match b with | .ptr o' x'=>o==o'&&x==x'|_=>false
 | .cptr cs x,b=>match b with | .cptr cs' x'=>OH cs cs'&&x==x'|_=>false
 | .sl w es,b=>match b with | .sl w' es'=>w==w'&&OH es es'|_=>false
 | .msl o x l z,b=>match b with | .msl o' x' l' z'=>o==o'&&(x==x'&&(l==l'&&z==z'))|_=>false
 | .fn (.func f) x y,b=>match b with | .fn (.func f') x' y'=>f==f'&&(OH x x'&&OH y y')|_=>false
 | .nilf,b=>match b with | .nilf=>true|_=>false
 | .mapr o,b=>match b with | .mapr o'=>o==o'|_=>false
 | .nilm,b=>match b with | .nilm=>true|_=>false
 | .it o,b=>match b with | .it o'=>o==o'|_=>false
 | .nili,b=>match b with | .nili=>true|_=>false
 | .agg x,b=>match b with | .agg y=>OH x y|_=>false
 | .tup x,b=>match b with | .tup y=>OH x y|_=>false
 | .undef,b=>match b with | .undef=>true|_=>false
 | _,_=>false
def OH:List AV->List AV->Bool
 | [],l=>match l with|[]=>true|_=>false
 | a::x,l=>match l with|b::y=>IN a b&&OH x y|_=>false
end
mutual
def yL : ∀ (a b:AV),IN a b=true->a=b
 | .int k n,b,h=>by cases b<;>simp_all [IN]
 | .bool x,b,h=>by cases b<;>simp_all [IN]
 | .str s,b,h=>by
  cases b<;>simp [IN] at h
  rename_i t
  rw [ByteArray.ext h]
 | .nilp,b,h=>by cases b<;>simp_all [IN]
 | .ptr o x,b,h=>by cases b<;>simp_all [IN]
 | .cptr cs x,b,h=>by
  cases b<;>simp [IN] at h
  rw [JH _ _ h.1,h.2]
 | .sl w es,b,h=>by
  cases b<;>simp [IN] at h
  rw [JH _ _ h.2,h.1]
 | .msl o x l z,b,h=>by cases b<;>simp_all [IN]
 | .fn (.func f) x y,b,h=>by
  cases b with
  | fn g x' y' =>
   cases g<;>simp [IN] at h
   rw [JH _ _ h.2.1,JH _ _ h.2.2,h.1]
  | _=>simp [IN] at h
 | .nilf,b,h=>by cases b<;>simp_all [IN]
 | .mapr o,b,h=>by cases b<;>simp_all [IN]
 | .nilm,b,h=>by cases b<;>simp_all [IN]
 | .it o,b,h=>by cases b<;>simp_all [IN]
 | .nili,b,h=>by cases b<;>simp_all [IN]
 | .agg x,b,h=>by
  cases b<;>simp [IN] at h
  rw [JH _ _ h]
 | .tup x,b,h=>by
  cases b<;>simp [IN] at h
  rw [JH _ _ h]
 | .undef,b,h=>by cases b<;>simp_all [IN]
 | .yld o L,b,h=>by simp [IN] at h
 | .ifc t a,b,h=>by simp [IN] at h
 | .fn f x y,b,h=>by
  cases f with
  | func f =>
   cases b with
   | fn g x' y' =>
    cases g<;>simp [IN] at h
    rw [JH _ _ h.2.1,JH _ _ h.2.2,h.1]
   | _=>simp [IN] at h
  | _=>simp [IN] at h
def JH : ∀ (x y:List AV),OH x y=true->x=y
 | [],l,h=>by cases l<;>simp_all [OH]
 | a::x,l,h=>by
  cases l<;>simp [OH] at h
  rw [yL _ _ h.1,JH _ _ h.2]
end
def cg:FN->FN->Bool
 | [],_=>true
 | a::H,l=>match l with
  | b::H'=>(match a,b with
   | some x,some y=>OH x y
   | none,none=>true
   | _,_=>false)&&cg H H'
  | []=>false
def ce : ∀ (H H':FN),cg H H'=true -> ∃ ext,H'=H++ext
 | [],H',_=>⟨H',rfl⟩
 | a::H,l,h=>by
  cases l with
  | nil=>simp [cg] at h
  | cons b H' =>
   simp only [cg,AR] at h
   obtain ⟨ext,rfl⟩:=ce H H' h.2
   refine ⟨ext, ?_⟩
   have h1:=h.1
   cases a<;>cases b<;>simp at h1
   ·rfl
   ·rw [JH _ _ h1];rfl
def UH(T:EvT)(ih:Task->Option ROut)(hf:FuncId)(o:Oper)(vals:List AV)(H:FN):Option (AV×FN) :=
 match vals with
 | .fn (.func f) first captured::args =>
  match o.dst.any (T.hs hf).pc.contains with
  | true=>if FQ (first.map AV.borrow++args++captured.map AV.borrow)=true then match ih (.call f (first.map AV.borrow++args++captured.map AV.borrow) []) with
    | some (.val v _)=>if v.pure=true then some (v,H) else none
    | _=>none
   else none
  | false=>match ih (.call f (first.map AV.borrow++args++captured.map AV.borrow) H) with
   | some (.val v H')=>if (!o.dst.any (T.hs hf).mt.contains||cg H H')=true then some (v,H') else none
   | _=>none
 | .yld o' L::args =>
  match o.dst.any (T.hs hf).pc.contains||o.dst.any (T.hs hf).mt.contains with
  | true=>none
  | false=>match ih (.yld o' L args H) with
   | some (.val v H')=>some (v,H')
   | _=>none
 | _=>none
def UQ(o:Oper):Bool :=
 match o.op with
 | .call c=>match c.callee with
  | .value _=>true
  | _=>false
 | _=>false
def ZD(P:Program)(T:EvT)(ih:Task->Option ROut)(hf:FuncId)(n:Nat)(os:Array Oper)(l:List Oper)(e:Fp)(H:FN):Option ROut :=
 match l with
 | []=>some (.st .normal e H)
 | o::l=>match jn os e o with
  | some true=>if ARW n o.dst=true then
    match OC P (HN o) (Fy (T.hs hf) o) o.op.operands.toList e with
    | (vals,e1)=>match (match UQ o with
      | true=>UH T ih hf o vals H
      | false=>pp P T.wk (T.hs hf) o vals H) with
     | some (v,H')=>ih (.ops hf n os l (put o.dst v e1) H')
     | none=>none
   else none
  | some false=>if ARW n o.dst=true then ih (.ops hf n os l (put o.dst (.tup []) e) H) else none
  | none=>none
def AFY(P:Program)(T:EvT)(ih:Task->Option ROut):Task->Option ROut
 | .call f vs H=>Ui P T ih f vs H
 | .yld o L ys H=>ZC T ih o L ys H
 | .code hf n ar c e H=>Ks P T ih hf n ar c e H
 | .ops hf n os l e H=>ZD P T ih hf n os l e H
noncomputable def Ww(P:Program)(T:EvT)(k:Nat):Task->Option ROut:=Nat.rec (λ_=>none) (λ_ ih t=>AFY P T ih t) k
structure EvOk (P:Program) (T:EvT):Prop where
 mixed:P.follows .mixedOrders=true
 wide:ah P T.wk
 fn : ∀ f fn,T.tb f=some fn->P.funcs[f]? =some fn/\HP P f=true/\fn.body.any (GX (T.hs f))=true/\(T.hs f).gc=[]
 orc : ∀ f vs H v H',T.orc f vs H=some (v,H')->FT P f vs H λv2 H2=>v2=v/\H2=H'
def Qv(P:Program)(T:EvT):Task->ROut->Prop
 | .call f vs H,.val v H'=>FT P f vs H λv2 H2=>v2=v/\H2=H'
 | .yld o L ys H,.val v H'=>M3 P o L ys H λv2 H2=>v2=v/\H2=H'
 | .code hf n ar c e H,.st ex e' H'=>I8 P n (T.hs hf) ar c (λex2 e2 H2=>ex2=ex/\e2=e'/\H2=H') e H
 | .ops hf n os l e H,.st ex e' H'=>ex = .normal/\LA P n (T.hs hf) os l (λe2 H2=>e2=e'/\H2=H') e H
 | _,_=>False
section
variable {P:Program} {T:EvT}
def wj{h:Ed}{o o':Oper}{e:Fp}(hb:nW P h o o' e=true):J7 P h o o' e:=by
 unfold nW at hb
 unfold J7
 generalize J8 P h o=x at hb ⊢
 generalize J8 P h o'=y at hb ⊢
 cases x with
 | none=>cases hb
 | some x=>cases y with
  | none=>cases hb
  | some y =>
   obtain ⟨a,k,s⟩:=x
   obtain ⟨b,l,s'⟩:=y
   dsimp only at hb ⊢
   simp only [AR,CJ] at hb
   obtain ⟨h1,h2⟩:=hb
   refine ⟨h1, ?_⟩
   generalize Fm e a=u at h2 ⊢
   generalize Fm e b=w at h2 ⊢
   cases u<;>first|(cases h2;done)|skip
   cases w<;>first|(cases h2;done)|skip
   simpa using h2
def AER{h:Ed}{ops:Array Oper}{e:Fp}(hb:AaY P h ops e=true):Je P h ops e:=λp hp=>wj (Ao.1 hb p hp)
def UJ{n:Nat}{K:List AV->FN->Prop}: ∀ {rs:List ResultVar} {e:Fp} {H:FN} {vs:List AV} {H':FN},cU P n rs e H=some (vs,H')->K vs H'->cV P n rs e H λvs _ H=>K vs H
 | [],e,H,vs,H',h,hk=>by cases h;exact hk
 | .tmp t::rs,e,H,vs,H',h,hk=>by
  simp only [cU] at h
  obtain ⟨h1,h⟩:=KC h
  obtain ⟨r,h2,h3⟩:=Mk h
  cases h3
  exact ⟨h1,UJ (K:=λvs H=>K ((M1 P none true (.tmp t) e).1::vs) H) h2 hk⟩
 | .cell t ty::rs,e,H,vs,H',h,hk=>by
  simp only [cU] at h
  obtain ⟨h1,h⟩:=KC h
  split at h
  ·rename_i v H1 hv
   obtain ⟨r,h2,h3⟩:=Mk h
   cases h3
   rw [cT]
   refine ⟨h1, ?_⟩
   rw [hv]
   exact UJ (K:=λvs H=>K (v::vs) H) h2 hk
  ·cases h
def oe{K:AV->FN->Prop}{vs:List AV}{v:AV}{H:FN}(h:yT vs=some v)(hk:K v H):QH K vs H:=by
 unfold yT at h
 unfold QH
 split at h
 ·cases h;exact hk
 ·rename_i hne
  obtain ⟨h1,h2⟩:=KC h
  cases h2
  split
  ·exact absurd rfl (hne _)
  ·exact ⟨λx hx=>Ao.1 h1 x hx,hk⟩
def nT{ar:Option Nat}{H:FN}(h:aU ar H=true):aV ar H:=by
 unfold aU at h
 unfold aV
 split at h
 ·trivial
 ·split at h
  ·rename_i cs hcs;exact ⟨cs,hcs⟩
  ·cases h
def pW{n:Nat}{d:Option Tmp}(h:ARW n d=true):Gf n d:=by
 cases d with
 | none=>trivial
 | some d=>exact (of_decide_eq_true h:d<n)
def Nr{f:FuncId}{vs:List AV}{v:AV}(hc:FT P f vs [] λv2 _=>v2=v)(hp:FQ vs=true)(hv:v.pure=true):FO P f vs v:=λH =>
 ⟨hc.1,λF G w us hcr=>Calls.mono (hc.2 _ _ w us (hcr.hide (H7 hp))) λe w' he=>by
  obtain ⟨u,rfl,v',H2,G',rfl,hcr',hext⟩:=he
  obtain ⟨h1,h2⟩:=hcr.unhide hv hcr' hext
  exact ⟨u,rfl,_,H,_,⟨rfl,rfl⟩,h1,h2⟩⟩
def qV(E:EvOk P T){ih:Task->Option ROut}(hih : ∀ t out,ih t=some out->Qv P T t out){f:FuncId}{vs:List AV}{H:FN}{out:ROut}(h:Ui P T ih f vs H=some out):Qv P T (.call f vs H) out:=by
 unfold Ui at h
 split at h
 ·rename_i v H1 ho
  cases h
  exact E.orc f vs H v H1 ho
 ·split at h
  ·rename_i fn hfn
   obtain ⟨e1,e2,e3,e4⟩:=E.fn f fn hfn
   split at h
   ·rename_i c hb
    obtain ⟨hn,h⟩:=KC h
    have fin : ∀ (ex:Exit) (e:Fp) (H':FN),(ex = .normal\/ex = .ret)->ih (.code f fn.ntmps none c (GM 0 vs) H)=some (.st ex e H') ->
      ((cU P fn.ntmps fn.results.toList e H').bind λr=>(yT r.1).map λv=>ROut.val v r.2)=some out->Qv P T (.call f vs H) out:=by
     intro ex e H' hex hi hr
     obtain ⟨r,h1,h2⟩:=CH.1 hr
     obtain ⟨v,h3,h4⟩:=Mk h2
     subst h4
     refine jj (T.hs f) e4 E.mixed e3 e1 hb e2 hn (GV c _ _ _ _ (λex2 e2 H2 hq=>?_) (hih _ _ hi))
     obtain ⟨rfl,rfl,rfl⟩:=hq
     rcases hex with rfl|rfl
     ·exact UJ (K:=λvs H=>QH _ vs H) h1 (oe h3 ⟨rfl,rfl⟩)
     ·exact UJ (K:=λvs H=>QH _ vs H) h1 (oe h3 ⟨rfl,rfl⟩)
    split at h
    ·rename_i hi;exact fin _ _ _ (.inl rfl) hi h
    ·rename_i hi;exact fin _ _ _ (.inr rfl) hi h
    ·cases h
   ·cases h
  ·cases h
def xz(E:EvOk P T){ih:Task->Option ROut}(hih : ∀ t out,ih t=some out->Qv P T t out){o:Nat}{L:LoopRec}{ys:List AV}{H:FN}{out:ROut}(h:ZC T ih o L ys H=some out):Qv P T (.yld o L ys H) out:=by
 unfold ZC at h
 split at h
 ·rename_i fn st av hfn hlo
  obtain ⟨e1,e2,e3,e4⟩:=E.fn _ fn hfn
  have h':=KC h
  clear h
  obtain ⟨⟨rfl,g2,g3,g4,g5,g6⟩,h⟩:=h'
  cases hi:ih (.code L.tag fn.ntmps (some o) L.assign (Ku av L.ps.toList ys (GM 0 av)) H) with
  | none=>rw [hi] at h;cases h
  | some q =>
   rw [hi] at h
   cases q with
   | val v H'=>cases h
   | st ex0 e2 H2 =>
    cases ex0 with
    | normal =>
     dsimp only at h
     cases hlo2:NR H2 o with
     | none=>rw [hlo2] at h;cases h
     | some q2 =>
      obtain ⟨st2,av2⟩:=q2
      rw [hlo2] at h
      dsimp only at h
      have h':=KC h
      clear h
      obtain ⟨rfl,h⟩:=h'
      cases hi3:ih (.code L.tag fn.ntmps (some o) L.body e2 (H2.set o (some (G5 (-1) av2)))) with
      | none=>rw [hi3] at h;cases h
      | some q3 =>
       rw [hi3] at h
       cases q3 with
       | val v H'=>cases h
       | st ex e3 H3 =>
        dsimp only at h
        cases hlo3:NR H3 o with
        | none=>rw [hlo3] at h;cases h
        | some q4 =>
         obtain ⟨st3,av3⟩:=q4
         rw [hlo3] at h
         dsimp only at h
         have h':=KC h
         clear h
         obtain ⟨rfl,h⟩:=h'
         obtain ⟨tag,ps,assign,body⟩:=L
         have main : ∀ (v:AV) (H':FN),out = .val v H'->(∀ R:AV->FN->Prop,R v H'->match (generalizing:=false) ex with
           | .normal=>R (.bool true) (H3.set o (some (G5 0 av3)))
           | .ret=>R (.bool false) (H3.set o (some (G5 (-2) av3)))
           | .exit k=>R (.bool false) (H3.set o (some (G5 ((k:Int)+1) av3)))
           | _=>False)->Qv P T (.yld o ⟨tag,ps,assign,body⟩ ys H) out:=by
          intro v H' he hR
          subst he
          refine LH E.mixed e4 ⟨g5,g6⟩ (λp hp=>of_decide_eq_true (Ao.1 g4 p hp)) ys H _ av (PK hlo) g2 g3 (GV assign _ _ _ _ (λex2 e4 H4 hq=>?_) (hih _ _ hi))
          obtain ⟨rfl,rfl,rfl⟩:=hq
          refine ⟨rfl,av2,PK hlo2,GV body _ _ _ _ (λex5 e5 H5 hq=>?_) (hih _ _ hi3)⟩
          obtain ⟨rfl,rfl,rfl⟩:=hq
          exact ⟨av3,PK hlo3,hR (λv2 H2=>v2=v/\H2=H') ⟨rfl,rfl⟩⟩
         cases ex with
         | normal=>cases h;exact main _ _ rfl λR hr=>hr
         | ret=>cases h;exact main _ _ rfl λR hr=>hr
         | exit k=>cases h;exact main _ _ rfl λR hr=>hr
         | _=>cases h
    | _=>cases h
 ·cases h
def x0 (E:EvOk P T) {ih:Task->Option ROut} (hih : ∀ t out,ih t=some out->Qv P T t out) {hf:FuncId} {o:Oper} (ho:UQ o=true) {vals:List AV} {H:FN} {v:AV} {H':FN} (h:UH T ih hf o vals H=some (v,H'))
  {R:AV->FN->Prop} (hr:R v H'):Fb P (T.hs hf) o vals H R:=by
 obtain ⟨dst,op,ty,pos,after,guard⟩:=o
 cases op<;>first|cases ho|skip
 rename_i c
 obtain ⟨callee,args0,ts⟩:=c
 cases callee<;>first|cases ho|skip
 rename_i fo
 unfold UH at h
 cases vals with
 | nil=>cases h
 | cons a args =>
  cases a<;>first|cases h|skip
  case fn f first captured =>
   cases f<;>first|cases h|skip
   rename_i f
   dsimp only at h
   cases hb:(Cq (T.hs hf).pc.contains dst) with
   | true =>
    rw [hb] at h
    dsimp only at h
    have h':=KC h
    clear h
    obtain ⟨hp,h⟩:=h'
    cases hi:ih (.call f (first.map AV.borrow++args++captured.map AV.borrow) []) with
    | none=>rw [hi] at h;cases h
    | some q =>
     rw [hi] at h
     cases q with
     | st _ _ _=>cases h
     | val v1 H1 =>
      dsimp only at h
      have h':=KC h
      clear h
      obtain ⟨hpv,h⟩:=h'
      cases h
      have hpc:FO P f (first.map AV.borrow++args++captured.map AV.borrow) v:=Nr (FT.mono (show FT P f _ [] (λv2 H2=>v2=v/\H2=H1) from hih _ _ hi) λ_ _ hq=>hq.1) hp hpv
      simp only [Fb,hb]
      cases hmt:Cq (T.hs hf).mt.contains dst with
      | true=>exact ⟨v,.inl λH2 _=>hpc H2,hr⟩
      | false=>exact ⟨v,hpc,hr⟩
   | false =>
    rw [hb] at h
    dsimp only at h
    cases hi:ih (.call f (first.map AV.borrow++args++captured.map AV.borrow) H) with
    | none=>rw [hi] at h;cases h
    | some q =>
     rw [hi] at h
     cases q with
     | st _ _ _=>cases h
     | val v1 H1 =>
      dsimp only at h
      have h':=KC h
      clear h
      obtain ⟨hpf,h⟩:=h'
      cases h
      have hA:FT P f (first.map AV.borrow++args++captured.map AV.borrow) H (λv2 H2=>v2=v/\H2=H'):=hih _ _ hi
      simp only [Fb,hb]
      cases hmt:Cq (T.hs hf).mt.contains dst with
      | true =>
       rw [hmt,Bool.not_true,Bool.false_or] at hpf
       obtain ⟨ext,rfl⟩:=ce _ _ hpf
       exact ⟨v,ext,hA,hr⟩
      | false=>exact hA.mono λv2 H2 hq=>by obtain ⟨rfl,rfl⟩:=hq;exact hr
  case yld o' L =>
   dsimp only at h
   cases hb:(Cq (T.hs hf).pc.contains dst||Cq (T.hs hf).mt.contains dst) with
   | true=>rw [hb] at h;cases h
   | false =>
    rw [hb] at h
    rw [Bool.or_eq_false_iff] at hb
    dsimp only at h
    cases hi:ih (.yld o' L args H) with
    | none=>rw [hi] at h;cases h
    | some q =>
     rw [hi] at h
     cases q with
     | st _ _ _=>cases h
     | val v1 H1 =>
      cases h
      simp only [Fb]
      exact ⟨⟨hb.1,hb.2⟩,M3.mono (show M3 P o' L args H (λv2 H2=>v2=v/\H2=H') from hih _ _ hi) λv2 H2 hq=>by obtain ⟨rfl,rfl⟩:=hq;exact hr⟩
def yA(E:EvOk P T){ih:Task->Option ROut}(hih : ∀ t out,ih t=some out->Qv P T t out){hf:FuncId}{n:Nat}{os:Array Oper}{l:List Oper}{e:Fp}{H:FN}{out:ROut}(h:ZD P T ih hf n os l e H=some out):Qv P T (.ops hf n os l e H) out:=by
 unfold ZD at h
 cases l with
 | nil=>cases h;exact ⟨rfl,rfl,rfl⟩
 | cons o l =>
  have next : ∀ {e1:Fp} {H1:FN},ih (.ops hf n os l e1 H1)=some out -> ∃ e' H',out = .st .normal e' H'/\LA P n (T.hs hf) os l (λe2 H2=>e2=e'/\H2=H') e1 H1:=λhi=>by
   have hg:=hih _ _ hi
   cases out with
   | val v H'=>exact hg.elim
   | st ex e' H'=>obtain ⟨rfl,hg⟩:=hg;exact ⟨e',H',rfl,hg⟩
  dsimp only at h
  cases hag:jn os e o with
  | none=>rw [hag] at h;cases h
  | some b =>
   rw [hag] at h
   cases b with
   | false =>
    dsimp only at h
    obtain ⟨hd,h⟩:=KC h
    obtain ⟨e',H',rfl,hg⟩:=next h
    refine ⟨rfl, ?_⟩
    show IX P n (T.hs hf) os o _ e H
    unfold IX
    rw [hag]
    exact ⟨pW hd,hg⟩
   | true =>
    dsimp only at h
    have h':=KC h
    clear h
    obtain ⟨hd,h⟩:=h'
    cases hv:(match UQ o with
      | true=>UH T ih hf o (OC P (HN o) (Fy (T.hs hf) o) o.op.operands.toList e).1 H
      | false=>pp P T.wk (T.hs hf) o (OC P (HN o) (Fy (T.hs hf) o) o.op.operands.toList e).1 H) with
    | none=>rw [hv] at h;cases h
    | some q =>
     obtain ⟨v,H1⟩:=q
     rw [hv] at h
     obtain ⟨e',H',rfl,hg⟩:=next h
     refine ⟨rfl, ?_⟩
     show IX P n (T.hs hf) os o _ e H
     unfold IX
     rw [hag]
     refine ⟨pW hd, ?_⟩
     cases hval:UQ o with
     | true=>rw [hval] at hv;exact x0 E hih hval hv hg
     | false=>rw [hval] at hv;exact AB8 E.wide hv hg
def qU(E:EvOk P T){ih:Task->Option ROut}(hih : ∀ t out,ih t=some out->Qv P T t out){hf:FuncId}{n:Nat}{ar:Option Nat}{c:Code}{e:Fp}{H:FN}{out:ROut}(h:Ks P T ih hf n ar c e H=some out):Qv P T (.code hf n ar c e H) out:=by
 have part : ∀ {c:Code} {e:Fp} {H:FN} {out:ROut},ih (.code hf n ar c e H)=some out -> ∃ ex e' H',out = .st ex e' H'/\I8 P n (T.hs hf) ar c (λex2 e2 H2=>ex2=ex/\e2=e'/\H2=H') e H:=λ{c e H out} hi=>by
  have hg:=hih _ _ hi
  cases out with
  | val v H'=>exact hg.elim
  | st ex e' H'=>exact ⟨ex,e',H',rfl,hg⟩
 cases c with
 | skip=>cases h;exact ⟨rfl,rfl,rfl⟩
 | ret=>cases h;exact ⟨rfl,rfl,rfl⟩
 | exit id=>cases h;exact ⟨rfl,rfl,rfl⟩
 | region id ops draw =>
  simp only [Ks] at h
  cases hi:ih (.ops hf n ops ((T.hs hf).ord id ops) e H) with
  | none=>rw [hi] at h;cases h
  | some q =>
   rw [hi] at h
   have hg:=hih _ _ hi
   cases q with
   | val v H'=>cases h
   | st ex e1 H1 =>
    obtain ⟨rfl,hg⟩:=hg
    dsimp only at h
    obtain ⟨hdy,h⟩:=KC h
    cases h
    refine Qm _ _ _ _ _ (λe2 H2 hq=>?_) hg
    obtain ⟨rfl,rfl⟩:=hq
    refine ⟨λhd=>?_,rfl,rfl,rfl⟩
    rw [hd] at hdy
    exact AER (by simpa using hdy)
 | seq a b =>
  simp only [Ks] at h
  cases hi:ih (.code hf n ar a e H) with
  | none=>rw [hi] at h;cases h
  | some q =>
   rw [hi] at h
   obtain ⟨ex,e1,H1,rfl,hg⟩:=part hi
   have other:ex ≠ .normal->out = .st ex e1 H1->Qv P T (.code hf n ar (.seq a b) e H) out:=λhne he=>by
    subst he
    refine GV a _ _ _ _ (λex2 e2 H2 hq=>?_) hg
    obtain ⟨rfl,rfl,rfl⟩:=hq
    cases ex2<;>first|exact absurd rfl hne|exact ⟨rfl,rfl,rfl⟩
   cases ex with
   | normal =>
    dsimp only at h
    obtain ⟨ex',e',H',rfl,hg2⟩:=part h
    refine GV a _ _ _ _ (λex2 e2 H2 hq=>?_) hg
    obtain ⟨rfl,rfl,rfl⟩:=hq
    exact hg2
   | _=>cases h;exact other sm rfl
 | cond c a b =>
  simp only [Ks] at h
  cases hc:Gy P none e c with
  | bool t =>
   rw [hc] at h
   dsimp only at h
   have hg : ∃ ex e' H',out = .st ex e' H'/\I8 P n (T.hs hf) ar (if t=true then a else b) (λex2 e2 H2=>ex2=ex/\e2=e'/\H2=H') e H:=by
    cases t with
    | true=>exact part h
    | false=>exact part h
   obtain ⟨ex,e',H',rfl,hg⟩:=hg
   show I8 P n (T.hs hf) ar (.cond c a b) _ e H
   simp only [I8,hc]
   cases t with
   | true=>exact hg
   | false=>exact hg
  | _=>rw [hc] at h;cases h
 | block id c =>
  simp only [Ks] at h
  cases hi:ih (.code hf n ar c e H) with
  | none=>rw [hi] at h;cases h
  | some q =>
   rw [hi] at h
   obtain ⟨ex,e1,H1,rfl,hg⟩:=part hi
   cases ex with
   | exit j =>
    dsimp only at h
    by_cases hj:j=id
    ·rw [iP hj] at h
     cases h
     refine GV c _ _ _ _ (λex2 e2 H2 hq=>?_) hg
     obtain ⟨rfl,rfl,rfl⟩:=hq
     dsimp only
     rw [iP hj]
     exact ⟨rfl,rfl,rfl⟩
    ·rw [iN hj] at h
     cases h
     refine GV c _ _ _ _ (λex2 e2 H2 hq=>?_) hg
     obtain ⟨rfl,rfl,rfl⟩:=hq
     dsimp only
     rw [iN hj]
     exact ⟨rfl,rfl,rfl⟩
   | _ =>
    cases h
    refine GV c _ _ _ _ (λex2 e2 H2 hq=>?_) hg
    obtain ⟨rfl,rfl,rfl⟩:=hq
    exact ⟨rfl,rfl,rfl⟩
 | loop c =>
  simp only [Ks] at h
  cases hi:ih (.code hf n ar c e H) with
  | none=>rw [hi] at h;cases h
  | some q =>
   rw [hi] at h
   obtain ⟨ex,e1,H1,rfl,hg⟩:=part hi
   have other:ex ≠ .normal->out = .st ex e1 H1->Qv P T (.code hf n ar (.loop c) e H) out:=λhne he=>by
    subst he
    refine ⟨λe' H'=>e'=e/\H'=H,λ_ _=>0,⟨rfl,rfl⟩,λe' H' hI=>?_⟩
    obtain ⟨rfl,rfl⟩:=hI
    refine GV c _ _ _ _ (λex2 e2 H2 hq=>?_) hg
    obtain ⟨rfl,rfl,rfl⟩:=hq
    cases ex2<;>first|exact absurd rfl hne|exact ⟨rfl,rfl,rfl⟩
   cases ex with
   | normal =>
    dsimp only at h
    obtain ⟨ex',e',H',rfl,I,μ,hI,hr⟩:=part h
    classical
    by_cases hold:I e H
    ·exact ⟨I,μ,hold,hr⟩
    ·refine ⟨λe2 H2=>(e2=e/\H2=H)\/I e2 H2,λe2 H2=>if e2=e/\H2=H then μ e1 H1+1 else μ e2 H2,.inl ⟨rfl,rfl⟩,λe2 H2 hI2=>?_⟩
     have hne : ∀ {e3:Fp} {H3:FN},I e3 H3 -> ¬ (e3=e/\H3=H):=λh3 hh=>hold (by rw [<- hh.1,<- hh.2];exact h3)
     by_cases hat:e2=e/\H2=H
     ·obtain ⟨rfl,rfl⟩:=hat
      refine GV c _ _ _ _ (λex2 e3 H3 hq=>?_) hg
      obtain ⟨rfl,rfl,rfl⟩:=hq
      dsimp only
      refine ⟨.inr hI, ?_⟩
      rw [iN (hne hI),iP ⟨rfl,rfl⟩]
      omega
     ·have hI3:I e2 H2:=hI2.resolve_left hat
      refine GV c _ _ _ _ (λex2 e3 H3 hq=>?_) (hr e2 H2 hI3)
      cases ex2 with
      | normal =>
       refine ⟨.inr hq.1, ?_⟩
       dsimp only
       rw [iN hat,iN (hne hq.1)]
       exact hq.2
      | _=>exact hq
   | _=>cases h;exact other sm rfl
 | rangeFunc g ps assign body =>
  simp only [Ks] at h
  cases hg:Gy P none e g with
  | fn f first captured =>
   rw [hg] at h
   cases f with
   | func f =>
    dsimp only at h
    have h':=KC h
    clear h
    obtain ⟨har,h⟩:=h'
    cases hi:ih (.call f (first.map AV.borrow++[.yld H.length ⟨hf,ps,assign,body⟩]++captured.map AV.borrow) (H++[some (G5 0 (Hd n e))])) with
    | none=>rw [hi] at h;cases h
    | some q =>
     rw [hi] at h
     have hc:=hih _ _ hi
     cases q with
     | st _ _ _=>cases h
     | val v H2 =>
      dsimp only at h
      cases hlo:NR H2 H.length with
      | none=>rw [hlo] at h;cases h
      | some q2 =>
       obtain ⟨st,av⟩:=q2
       rw [hlo] at h
       dsimp only at h
       have fin : ∀ ex:Exit,out = .st ex e (H2.set H.length none)->(∀ Q:Exit->Kt,Q ex e (H2.set H.length none)->(st=0/\Q .normal e (H2.set H.length none))\/(st = -2/\Q .ret e (H2.set H.length none)) \/ ∃ k:Nat,st=(k:Int)+1/\Q (.exit k) e (H2.set H.length none)) ->
         Qv P T (.code hf n ar (.rangeFunc g ps assign body) e H) out:=by
        intro ex he hQ
        subst he
        refine ⟨nT har,hf,f,first,captured,hg,FT.mono (show FT P f _ _ (λv2 H3=>v2=v/\H3=H2) from hc) λv2 H3 hq=>?_⟩
        obtain ⟨rfl,rfl⟩:=hq
        exact ⟨st,av,PK hlo,hQ (λex2 e2 H2'=>ex2=ex/\e2=e/\H2'=_) ⟨rfl,rfl,rfl⟩⟩
       by_cases h0:st=0
       ·rw [iP h0] at h
        cases h;exact fin _ rfl λQ hq => .inl ⟨h0,hq⟩
       ·rw [iN h0] at h
        by_cases h2:st = -2
        ·rw [iP h2] at h
         cases h;exact fin _ rfl λQ hq => .inr (.inl ⟨h2,hq⟩)
        ·rw [iN h2] at h
         have h':=KC h
         clear h
         obtain ⟨hp,h⟩:=h'
         cases h
         exact fin _ rfl λQ hq => .inr (.inr ⟨(st - 1).toNat,FM,hq⟩)
   | _=>cases h
  | _=>rw [hg] at h;cases h
 | _=>cases h
def kQ(E:EvOk P T): ∀ (k:Nat) (t:Task) (out:ROut),Ww P T k t=some out->Qv P T t out
 | 0,t,out,h=>by cases h
 | k+1,t,out,h=>by
  have hih:=kQ E k
  have h:AFY P T (Ww P T k) t=some out:=h
  cases t with
  | call f vs H=>exact qV E hih h
  | yld o L ys H=>exact xz E hih h
  | code hf n ar c e H=>exact qU E hih h
  | ops hf n os l e H=>exact yA E hih h
def FT.run(E:EvOk P T)(k:Nat){f:FuncId}{vs:List AV}{H:FN}{v:AV}{H':FN}(h:Ww P T k (.call f vs H)=some (.val v H')):FT P f vs H λv2 H2=>v2=v/\H2=H':=kQ E k _ _ h
def FO.run(E:EvOk P T)(k:Nat){f:FuncId}{vs:List AV}{v:AV}(hp:FQ vs=true)(hv:v.pure=true)(h:(match Ww P T k (.call f vs []) with|some (.val v2 _)=>some v2|_=>none)=some v):FO P f vs v:=by
 cases hr:Ww P T k (.call f vs []) with
 | none=>rw [hr] at h;cases h
 | some q =>
  rw [hr] at h
  cases q with
  | st _ _ _=>cases h
  | val v2 H2 =>
   cases h
   exact Nr ((FT.run E k hr).mono λ_ _ hq=>hq.1) hp hv
end
end Go.AI
namespace Go.AI
inductive ETree where
 | nil
 | node (l:ETree) (k:Nat) (fn:Func) (h:Ed) (r:ETree)
def ETree.find:ETree->Nat->Option (Func×Ed)
 | .nil,_=>none
 | .node l k fn h r,f=>bif CK f k then some (fn,h) else bif Nat.blt f k then l.find f else r.find f
def Ff(P:Program)(f:Nat)(fn:Func)(h:Ed):Prop:=P.funcs[f]? =some fn/\HP P f=true/\fn.body.any (GX h)=true/\h.gc=[]
def ETree.All(P:Program):ETree->Prop
 | .nil=>True
 | .node l k fn h r=>l.All P/\Ff P k fn h/\r.All P
def MX{P:Program}: ∀ {t:ETree} {f:Nat} {fn:Func} {h:Ed},t.All P->t.find f=some (fn,h)->Ff P f fn h
 | .nil,f,fn,h,_,hf=>by cases hf
 | .node l k fn' h' r,f,fn,h,ha,hf=>by
  simp only [ETree.find] at hf
  cases hb:CK f k with
  | true =>
   rw [hb] at hf
   cases hf
   have:=DE hb
   subst this
   exact ha.2.1
  | false =>
   rw [hb] at hf
   cases hl:Nat.blt f k with
   | true=>rw [hl] at hf;exact MX ha.1 hf
   | false=>rw [hl] at hf;exact MX ha.2.2 hf
def AG2:Ed:=⟨[],[],[],[],[],[],[]⟩
abbrev Orc:=FuncId->List AV->FN->Option (AV×FN)
def AFf:Orc:=λ_ _ _=>none
def qB(P:Program)(o:Orc):Prop:=∀ f vs H v H',o f vs H=some (v,H')->FT P f vs H λv2 H2=>v2=v/\H2=H'
def zV(P:Program):qB P AFf:=λ_ _ _ _ _ h=>by cases h
def ETree.evt(t:ETree)(wk:List TypeId)(o:Orc):EvT:=⟨λf=>(t.find f).map (·.1),λf=>((t.find f).map (·.2)).getD AG2,wk,o⟩
def ETree.ok{P:Program}{t:ETree}{wk:List TypeId}{o:Orc}(hm:P.follows .mixedOrders=true)(hw:ah P wk)(ho:qB P o)(ha:t.All P):EvOk P (t.evt wk o):=by
 refine ⟨hm,hw,λf fn hf=>?_,ho⟩
 obtain ⟨⟨fn',h⟩,h1,rfl⟩:=Mk hf
 have hh:(t.evt wk o).hs f=h:=by simp only [ETree.evt,h1];rfl
 rw [hh]
 exact MX ha h1
open Go.Proofs
def GQ{P:Program}{n:Nat}{f:Func}{h:Ed}(g:P.funcs[n]? =some f)(c:HP P n=true := by kernel_rfl)(d:f.body.any (GX h)=true := by kernel_rfl)(e:h.gc=[] := by rfl):Ff P n f h:=⟨g,c,d,e⟩
noncomputable def e5:Ed:=hx [1,2,6,6,30,122,506,4090,24570,122874,516090,2088954,0x800000000000000000000000000a9202,1,2789890,6984194,15372802,1] [124,137,138,141,142,146,152,157] [31] [(1,[(1,some 5,true)]),(3,[(2,some 5,true)])] [51,60] [] []
def Aen:Ff AA 5 f5 e5:=GQ func5
noncomputable def e6:Ed:=hx [90,2138,6234,481036343386,0xf00000185a,481036367962,481036449882,563430989805658,481036343386,481036343386,137242,399386,923674,0x20000000000e181a,923674,1972250,4069402,8263706,121509914,0x10000000000000000033e181a,1792,20846618,0x3800000000000000000003e181a,0x7800000000000000000003e181a,0x3800000000000000000103e181a,0x3800000000000000000703e181a,0x1003800000000000000000303e181a,0x3800000000000000000b03e181a,0x100003800000000000000000b03e181a,0x3800000000000000000003e181a,0x3800000000000000001903e181a,0x3800000000000000001903e181a,0x3800000000000000000003e181a,0x3800000000000000000003e181a,0x8000000000000000000000000000000000000e181a,1792,1792] [82,97,101,103,125,168,169,170] [] [(36,[(9,none,false)])] [131,158] [] []
def Aem:Ff AA 6 f6 e6:=GQ func6
noncomputable def e9:Ed:=hm [28,88,8280,48,24,48] [] [] []
def Ael:Ff AA 9 f9 e9:=GQ func9
noncomputable def e10:Ed:=hm [2,18,1810,3858,1874,1874,4196178,12,1810,1810,12] [23,28] [] []
def AaN:Ff AA 10 f10 e10:=GQ func10
noncomputable def e11:Ed:=hm [279,24599,1879072789,4026556437,1879138325,1879269397,122138345493,259577298965,122138869781,122141491221,122140442645,0x400001c70034015,7168,122138345493,1879269397,0xe000000070016015,0x1e000000070016015,0xe000000070816015,0xe000000070816015,0xe000000071816015,0x4000e000000070816015,0xe000000070016015,0xe000000070016015,1879072789,7168] [28,34,49,50,59,61,71,79,85,86] [] []
def AaF:Ff AA 11 f11 e11:=GQ func11
noncomputable def e12:Ed:=hm [28,88,4184,48,24,48] [] [] []
def AZ5:Ff AA 12 f12 e12:=GQ func12
noncomputable def e13:Ed:=hm [3,2051,16,35,32803,35,99,72057594037927971,16,16] [] [] []
def AZv:Ff AA 13 f13 e13:=GQ func13
noncomputable def e18:Ed:=hx [1,3,3,3,917507,1966083,917519,917507,917507,240518168579,515396075523,240518168627,240518168579,240518168579,3,1] [26,43] [63] [(2,[(1,some 0,true)])] [53] [] []
def AZl:Ff AA 18 f18 e18:=GQ func18
noncomputable def e19:Ed:=hm [2,18,65554,12,34,4194338,12,8589934594,12,66,412316860482,962072674370,412316860610,412316860866,70781061038530,12,412316860482,0x38000000000002,0x78000000000002,0x38000000000602,0x38000000000a02,0x4038000000000a02,12,0x38000000000002,0x80000000000000000,12,12] [] [] []
def AZe:Ff AA 19 f19 e19:=GQ func19
noncomputable def e20:Ed:=hm [6,7170,15362,7362,7490,2104642,48,7170,48] [] [] []
def AZX:Ff AA 20 f20 e20:=GQ func20
noncomputable def e21:Ed:=hx [2,4] [] [] [(1,[(2,none,false)])] [] [] []
def AZW:Ff AA 21 f21 e21:=GQ func21
noncomputable def e22:Ed:=hm [206,462,8640,960,448,2097344,1,192] [15,16] [] []
def AZV:Ff AA 22 f22 e22:=GQ func22
noncomputable def e23:Ed:=hm [14,776,4294968072,192,1288,240518169864,515396076808,240518173960,240518182152,31026843755784,66211215844616,31026843788552,31026843755784,31026843755784,0x200003800000508,0xa00003800000508,0x200003800010508,0x200003800000508,240518169864,132360,0xc00000000000020500,0x1c00000000000020500,0xc00000000000060500,0x80c00000000000060500,0xc00000000000020500,0xc00000000000020500,192] [42,80,85] [] []
def AZO:Ff AA 23 f23 e23:=GQ func23
noncomputable def e24:Ed:=hx [22,52,116,116,7516192884,16106127476,7516193140,282394100084,7516192884,7516192884,0x700000000000070,0xf00000000000070,0x700000000000470,0x8700000000000470,0x18700000000000470,0x700000000000470,0x200700000000000470,0x700000000000070,0x700000000000070,16] [74] [] [(10,[(6,some 2,true)])] [18] [] []
def AZI:Ff AA 24 f24 e24:=GQ func24
noncomputable def e25:Ed:=hm [3,2051,16,35,32803,35,99,268435491,16,16] [] [] []
def AZE:Ff AA 25 f25 e25:=GQ func25
noncomputable def e26:Ed:=hm [3,1027,16,35,16419,35,33554467,16,16] [] [] []
def AZB:Ff AA 26 f26 e26:=GQ func26
noncomputable def e27:Ed:=hm [6,38,3622,7718,3750,8392358,3622,3622,16] [] [] []
def AZA:Ff AA 27 f27 e27:=GQ func27
noncomputable def e28:Ed:=hm [6,1] [3] [] []
def AY6:Ff AA 28 f28 e28:=GQ func28
noncomputable def e29:Ed:=hm [1,17,4,4] [6] [5,7] []
def AYx:Ff AA 29 f29 e29:=GQ func29
noncomputable def e30:Ed:=hm [240,256] [] [] []
def AYr:Ff AA 30 f30 e30:=GQ func30
noncomputable def e31:Ed:=hm [1,17,4,4] [6] [] []
def AYo:Ff AA 31 f31 e31:=GQ func31
noncomputable def e32:Ed:=hm [12,64,48] [] [] []
def AYl:Ff AA 32 f32 e32:=GQ func32
noncomputable def e34:Ed:=hm [28,280,1080,120,8240,1,16] [] [] []
def AYe:Ff AA 34 f34 e34:=GQ func34
noncomputable def e35:Ed:=hm [28,540,16,60,16] [] [] [12,14,19,21,24,25]
def AYc:Ff AA 35 f35 e35:=GQ func35
noncomputable def e36:Ed:=hm [2,4] [] [] []
def AYZ:Ff AA 36 f36 e36:=GQ func36
noncomputable def e37:Ed:=hx [105,768] [10] [12] [] [] [] [2006,2007]
def AYY:Ff AA 37 f37 e37:=GQ func37
noncomputable def e38:Ed:=hx [1365,525653,7168,9557,25941,91460,91456,72057594038019392,75072,0x400000000000010500,7168,7168] [21,31,41,60] [] [] [] [] [10,11]
def AYX:Ff AA 38 f38 e38:=GQ func38
noncomputable def e39:Ed:=hm [6,2054,16,16] [] [] []
def AYW:Ff AA 39 f39 e39:=GQ func39
noncomputable def e47:Ed:=hm [1,3,5,13,4109,13,13,5,5,1] [] [9] []
def AYV:Ff AA 47 f47 e47:=GQ func47
noncomputable def e48:Ed:=hm [1,3,1] [] [] []
def AYU:Ff AA 48 f48 e48:=GQ func48
noncomputable def e49:Ed:=hm [2,514,4,67108866,4,1924145348610,4123168604162,1924145348626,9009123400089602,4,1924145348610,0x700000000000002,0xf00000000000002,0x700000000000042,0x4000000700000000000002,4,0x700000000000002,0xe0000000000000000000002,0x1e0000000000000000000002,0xe0000000000000000000102,0x80e0000000000000000000002,4,0xe0000000000000000000002,4] [] [] []
def AYT:Ff AA 49 f49 e49:=GQ func49
noncomputable def e50:Ed:=hm [1,513,4,7169,15361,7193,7225,7289,531545,4,68719483905,4,7169,4] [] [] []
def AYS:Ff AA 50 f50 e50:=GQ func50
noncomputable def e51:Ed:=hm [14,142,398,16777614,64,1166,4294968462,64,0x800000000084,64,0xe000000000084,8444249301319812,0xe000000001084,0x40e000000000084,64,0xe000000000084,0xe000000000000004,0x1e000000000000004,0xe000000000004004,0xe000000000000004,0xe000000000000004,64] [] [] []
def AYR:Ff AA 51 f51 e51:=GQ func51
noncomputable def e52:Ed:=hm [12,108,492,1073741996,16,0x8000000000000c,16,524,0x400000000000020c,16,1032,0x10000000000000000000000000000,16,16] [] [] [42,53]
def AYQ:Ff AA 52 f52 e52:=GQ func52
noncomputable def e53:Ed:=hx [2,8,1032,24,524312,4,8,4] [20] [] [(1,[(3,some 0,true)]),(6,[(3,some 0,true)])] [] [] []
def AYP:Ff AA 53 f53 e53:=GQ func53
noncomputable def e54:Ed:=hm [56,64] [] [] []
def AYO:Ff AA 54 f54 e54:=GQ func54
noncomputable def e55:Ed:=hm [1,17,4,4] [6] [] []
def AYN:Ff AA 55 f55 e55:=GQ func55
noncomputable def e56:Ed:=hm [3,387,899,419,65955,16,387,16] [] [] []
def AYM:Ff AA 56 f56 e56:=GQ func56
noncomputable def e57:Ed:=hm [62,64] [] [] [30]
def AYL:Ff AA 57 f57 e57:=GQ func57
noncomputable def e58:Ed:=hx [105,256] [9] [11] [] [] [] [2006,2007]
def AYK:Ff AA 58 f58 e58:=GQ func58
noncomputable def e59:Ed:=hm [3,387,899,419,65955,16,387,16] [] [] []
def AYJ:Ff AA 59 f59 e59:=GQ func59
noncomputable def e60:Ed:=hm [6,8] [] [] []
def AYI:Ff AA 60 f60 e60:=GQ func60
noncomputable def e62:Ed:=hm [2,4] [] [] []
def AYH:Ff AA 62 f62 e62:=GQ func62
noncomputable def e67:Ed:=hm [6,14,526,12,4] [] [] [13,14]
def AYG:Ff AA 67 f67 e67:=GQ func67
noncomputable def e68:Ed:=hm [6,34,546,16,8192,16,16] [] [] []
def AYF:Ff AA 68 f68 e68:=GQ func68
noncomputable def e69:Ed:=hm [1,2] [] [] []
def AYE:Ff AA 69 f69 e69:=GQ func69
noncomputable def e70:Ed:=hm [2,26,262170,786458,4,8590196762,4,4503599627632666,4,0x800000000004001a,0x800000000000001a,4,4] [] [] [8]
def AYD:Ff AA 70 f70 e70:=GQ func70
noncomputable def e71:Ed:=hm [3,129,48,48] [8] [] []
def AYC:Ff AA 71 f71 e71:=GQ func71
noncomputable def e72:Ed:=hm [12,44,36,32,16] [] [] []
def AYB:Ff AA 72 f72 e72:=GQ func72
noncomputable def e81:Ed:=hm [7,64] [] [] []
def AYA:Ff AA 81 f81 e81:=GQ func81
noncomputable def e96:Ed:=hm [3,35,7202,15394,7330,7458,67116322,16,7202,7202,16] [10] [] []
def AX9:Ff AA 96 f96 e96:=GQ func96
noncomputable def e97:Ed:=hm [2,4] [] [] []
def AX8:Ff AA 97 f97 e97:=GQ func97
noncomputable def e98:Ed:=hm [3,35,7202,15394,7330,7458,67116322,16,7202,7202,16] [10] [] []
def AX7:Ff AA 98 f98 e98:=GQ func98
noncomputable def e99:Ed:=hm [2,4] [] [] []
def AX6:Ff AA 99 f99 e99:=GQ func99
noncomputable def AaW:Ed:=hm [7,64] [] [] []
def ARV:Ff AA 100 f100 AaW:=GQ func100
noncomputable def AaV:Ed:=hm [6,16] [] [] []
def ARU:Ff AA 101 f101 AaV:=GQ func101
noncomputable def AaU:Ed:=hm [6,8] [] [] []
def ART:Ff AA 102 f102 AaU:=GQ func102
noncomputable def AaT:Ed:=hm [1,9,4] [] [] []
def ARS:Ff AA 104 f104 AaT:=GQ func104
noncomputable def AaS:Ed:=hm [1,1] [] [] []
def ARR:Ff AA 105 f105 AaS:=GQ func105
noncomputable def AaR:Ed:=hm [3,16] [5] [] []
def ARQ:Ff AA 106 f106 AaR:=GQ func106
noncomputable def AaQ:Ed:=hm [12,17179869196,16,44,549755813932,16,76,35184372088908,16,0x700000000000c,0xf00000000000c,0x700000000010c,0x700000000030c,0x100700000000030c,16,0x700000000050c,0x4000700000000050c,16,0x200000700000000000c,16,0x700000000000c,0x70000000000000000008,0xf0000000000000000008,0x70000000000000001008,0x20000000070000000000000000008,16,0x70000000000000000008,0x200000000000000000000000000000,16,16] [] [] []
def ARP:Ff AA 107 f107 AaQ:=GQ func107
noncomputable def AaP:Ed:=hm [9,41,553,16,16] [11] [] []
def ARO:Ff AA 108 f108 AaP:=GQ func108
noncomputable def AaO:Ed:=hm [1,17,4,4] [6] [5,7] []
def ARN:Ff AA 109 f109 AaO:=GQ func109
noncomputable def AaM:Ed:=hm [3,35,4131,16,99,524387,99,227,536871139,99,99,33,16] [13,39] [] []
def ARM:Ff AA 110 f110 AaM:=GQ func110
noncomputable def AaL:Ed:=hm [6,8] [] [] []
def ARL:Ff AA 111 f111 AaL:=GQ func111
noncomputable def AaK:Ed:=hm [3,16] [5] [] []
def ARK:Ff AA 112 f112 AaK:=GQ func112
noncomputable def AaJ:Ed:=hm [6,8] [] [] []
def ARJ:Ff AA 113 f113 AaJ:=GQ func113
noncomputable def AaI:Ed:=hm [30,62,40,1] [] [] []
def ARI:Ff AA 114 f114 AaI:=GQ func114
noncomputable def AaH:Ed:=hm [63,32827,256,14680115,31457331,14681651,68734158387,14682675,72057594052608051,256,14680115,256] [17] [] [18]
def ARH:Ff AA 115 f115 AaH:=GQ func115
noncomputable def AaG:Ed:=hm [449,961,473,8389057,449] [] [] []
def ARG:Ff AA 116 f116 AaG:=GQ func116
noncomputable def AaE:Ed:=hm [19,51,3634,7730,3762,3634,3634,16] [9] [] [18,19]
def ARF:Ff AA 121 f121 AaE:=GQ func121
noncomputable def AaD:Ed:=hm [28,16] [] [] []
def ARE:Ff AA 122 f122 AaD:=GQ func122
noncomputable def AaC:Ed:=hm [6,4] [] [] []
def ARD:Ff AA 123 f123 AaC:=GQ func123
noncomputable def AaB:Ed:=hm [2,1024,4,4] [] [] []
def ARC:Ff AA 124 f124 AaB:=GQ func124
noncomputable def AaA:Ed:=hm [12,16] [] [] []
def ARB:Ff AA 125 f125 AaA:=GQ func125
noncomputable def AZ9:Ed:=hm [2,10,262154,786442,786442,4,537133066,4,0x400000004000a,4,0x1000000000000004000a,4,0x10000000000000000000004000a,4,0x100000000000000000000000000004000a,4,0x10000000000000000000000000000004000a,0x10000000000000000000000000000000000a,4,4] [] [] []
def ARA:Ff AA 126 f126 AZ9:=GQ func126
noncomputable def AZ8:Ed:=hm [1,4] [] [] []
def AQ9:Ff AA 127 f127 AZ8:=GQ func127
noncomputable def AZ7:Ed:=hm [1,4] [] [] []
def AQ8:Ff AA 128 f128 AZ7:=GQ func128
noncomputable def AZ6:Ed:=hm [35,64] [12] [] []
def AQ7:Ff AA 129 f129 AZ6:=GQ func129
noncomputable def AZ4:Ed:=hx [124,4220,12412,12412,128,528508,128,2147487864,128,17592186048632,17592186044536,0x1000000000000068,128,128,352,0x400000000000000000160,0xc00000000000000000160,128,0x80000000000000000000160,128,1056,128] [] [56] [] [88,90,98,100] [] [12010,12011]
def AQ6:Ff AA 130 f130 AZ4:=GQ func130
noncomputable def AZ3:Ed:=hm [25,1049,48,81,65617,48,48] [18] [] [8]
def AQ5:Ff AA 131 f131 AZ3:=GQ func131
noncomputable def AZ2:Ed:=hm [12,76,204,108,4194380,16,76,16] [] [] []
def AQ4:Ff AA 132 f132 AZ2:=GQ func132
noncomputable def AZ1:Ed:=hm [22,16] [] [] []
def AQ3:Ff AA 133 f133 AZ1:=GQ func133
noncomputable def AZ0:Ed:=hm [78,202,64] [] [] [9,20,26]
def AQ2:Ff AA 134 f134 AZ0:=GQ func134
noncomputable def AZz:Ed:=hm [60,1048636,3145788,2147483680,192,192,17180917820,304,192,0x4000000100034,3124,15360,192,0x10000000000000000000034,49172,0x100000000000000000000004014,192,192,327680,192] [78,79,110,125] [] [46,48]
def AQ1:Ff AA 136 f136 AZz:=GQ func136
noncomputable def AZy:Ed:=hm [28,92,220,124,92,92,16] [] [] []
def AQ0:Ff AA 137 f137 AZy:=GQ func137
noncomputable def AZx:Ed:=hm [22,16] [] [] []
def AQz:Ff AA 138 f138 AZx:=GQ func138
noncomputable def AZw:Ed:=hm [3,4097,48,48] [13] [] []
def AQy:Ff AA 139 f139 AZw:=GQ func139
noncomputable def AZu:Ed:=hm [3,35,544,96,1,16] [7,8,11] [] []
def AQx:Ff AA 140 f140 AZu:=GQ func140
noncomputable def AZt:Ed:=hm [21,277,789,115473,246545,117009,127249,115473,549755929361,115473,192] [14,31,32,41] [] []
def AQw:Ff AA 141 f141 AZt:=GQ func141
noncomputable def AZs:Ed:=hm [1,4] [] [] []
def AQv:Ff AA 149 f149 AZs:=GQ func149
noncomputable def AZr:Ed:=hm [1,4] [] [] []
def AQu:Ff AA 180 f180 AZr:=GQ func180
noncomputable def AZq:Ed:=hm [3,16] [] [] []
def AQt:Ff AA 181 f181 AZq:=GQ func181
noncomputable def AZp:Ed:=hm [3,387,899,419,65955,16,387,16] [] [] []
def AQs:Ff AA 182 f182 AZp:=GQ func182
noncomputable def AZo:Ed:=hm [28,60,8388636,16,92,67108956,340,2199023255888,1,1,4503599627370512,16,16] [] [] []
def AQr:Ff AA 183 f183 AZo:=GQ func183
noncomputable def AZn:Ed:=hm [12,40,16424,16,917512,1966088,917640,135135368,16,8796093939720,16,917512,16] [] [] []
def AQq:Ff AA 184 f184 AZn:=GQ func184
noncomputable def AZm:Ed:=hm [3,35,3618,7714,3746,528034,16,3618,3618,16] [9] [] []
def AQp:Ff AA 188 f188 AZm:=GQ func188
noncomputable def AZk:Ed:=hm [2,4] [] [] []
def AQo:Ff AA 190 f190 AZk:=GQ func190
noncomputable def AZj:Ed:=hm [28,1044,52,16436,240,496,67109360,496,536871280,1,4294967312,1,16] [] [] []
def AQn:Ff AA 191 f191 AZj:=GQ func191
noncomputable def AZi:Ed:=hm [19,51,3634,7730,3762,3634,3634,16] [9] [] [18,19]
def AQm:Ff AA 194 f194 AZi:=GQ func194
noncomputable def AZh:Ed:=hm [7,16391,64,229382,491526,229766,230150,1073971206,64,229382,64] [15] [] []
def AQl:Ff AA 195 f195 AZh:=GQ func195
noncomputable def AZg:Ed:=hm [1,4] [] [] []
def AQk:Ff AA 198 f198 AZg:=GQ func198
noncomputable def AZf:Ed:=hm [3,16] [5] [] []
def AQj:Ff AA 199 f199 AZf:=GQ func199
noncomputable def AZd:Ed:=hm [6,8] [] [] []
def AQi:Ff AA 200 f200 AZd:=GQ func200
noncomputable def AZc:Ed:=hm [6,8] [] [] []
def AQh:Ff AA 201 f201 AZc:=GQ func201
noncomputable def AZb:Ed:=hm [2,4] [] [] []
def AQg:Ff AA 202 f202 AZb:=GQ func202
noncomputable def AZa:Ed:=hm [92,220,80,64] [] [] [17,19,24]
def AQf:Ff AA 203 f203 AZa:=GQ func203
noncomputable def AZZ:Ed:=hm [2,4] [] [] []
def AQe:Ff AA 204 f204 AZZ:=GQ func204
noncomputable def AZY:Ed:=hm [12,16] [] [] []
def AQd:Ff AA 205 f205 AZY:=GQ func205
noncomputable def AZU:Ed:=hm [3,16] [] [] []
def AQc:Ff AA 233 f233 AZU:=GQ func233
noncomputable def AZT:Ed:=hm [2,4] [] [] []
def AQb:Ff AA 234 f234 AZT:=GQ func234
noncomputable def AZS:Ed:=hm [3,16] [5] [] []
def AQa:Ff AA 235 f235 AZS:=GQ func235
noncomputable def AZR:Ed:=hm [2,4] [] [] []
def AQZ:Ff AA 236 f236 AZR:=GQ func236
noncomputable def AZQ:Ed:=hm [3,35,3618,7714,3746,528034,16,3618,3618,16] [9] [] []
def AQY:Ff AA 237 f237 AZQ:=GQ func237
noncomputable def AZP:Ed:=hm [3,16] [5] [] []
def AQX:Ff AA 238 f238 AZP:=GQ func238
noncomputable def AZN:Ed:=hm [3,35,3618,7714,3746,528034,16,3618,3618,16] [9] [] []
def AQW:Ff AA 241 f241 AZN:=GQ func241
noncomputable def AZM:Ed:=hm [3,35,32803,16,917507,1966083,917635,917891,269353347,16,918019,34360656387,16,917507,2048,35184372088832,16,16] [39,40] [] []
def AQV:Ff AA 243 f243 AZM:=GQ func243
noncomputable def AZL:Ed:=hm [3,16] [5] [] []
def AQU:Ff AA 244 f244 AZL:=GQ func244
noncomputable def AZK:Ed:=hm [2,10,136,24,65560,1,4] [] [] []
def AQT:Ff AA 245 f245 AZK:=GQ func245
noncomputable def AZJ:Ed:=hm [3,8] [] [] []
def AQS:Ff AA 246 f246 AZJ:=GQ func246
noncomputable def AZH:Ed:=hm [1,2] [] [] []
def AQR:Ff AA 255 f255 AZH:=GQ func255
noncomputable def AZG:Ed:=hm [2,4] [] [] []
def AQQ:Ff AA 256 f256 AZG:=GQ func256
noncomputable def AZF:Ed:=hm [1,131073,4,17,4] [] [] []
def AQP:Ff AA 259 f259 AZF:=GQ func259
noncomputable def AZD:Ed:=hm [3,387,899,419,65955,16,387,16] [] [] []
def AQO:Ff AA 260 f260 AZD:=GQ func260
noncomputable def AZC:Ed:=hx [8199,7,23,2097159,23,33554439,23,55,1073741879,55,137438953511,39,70368744177671] [] [] [] [] [] [9,11]
def AQN:Ff AA 261 f261 AZC:=GQ func261
noncomputable def AY9:Ed:=hm [1,1] [] [] []
def AQM:Ff AA 286 f286 AY9:=GQ func286
noncomputable def AY8:Ed:=hm [7,1030,7174,1414,525446,64,64] [] [] []
def AQL:Ff AA 288 f288 AY8:=GQ func288
noncomputable def AY7:Ed:=hm [3,387,899,419,65955,16,387,16] [] [] []
def AQK:Ff AA 289 f289 AY7:=GQ func289
noncomputable def AY5:Ed:=hm [3,387,899,419,65955,16,387,16] [] [] []
def AQJ:Ff AA 290 f290 AY5:=GQ func290
noncomputable def AY4:Ed:=hm [1,513,4,7168,15360,7184,7216,1055792,4,7232,67116096,4,7168,4] [10] [] []
def AQI:Ff AA 291 f291 AY4:=GQ func291
noncomputable def AY3:Ed:=hm [28,60,8252,16,65556,84,524372,1572948,144,134217872,1,536870996,848,274877907280,1,2199023255568,1,16] [] [] [45]
def AQH:Ff AA 292 f292 AY3:=GQ func292
noncomputable def AY2:Ed:=hm [12,44,524332,16,76,274877906956,16,7696581394444,0xf000000000c,7696581394828,4511296208764940,16,7696581394444,520,0x400000000000000000,16,16] [] [] [68]
def AQG:Ff AA 293 f293 AY2:=GQ func293
noncomputable def AY1:Ed:=hx [3,67,195,14680257,31457473,14680769,14681281,2162164929,14683329,3848305380545,8246351891649,3848305388737,3848305396929,3848305380545,3848305380545,14748865,15142081,0x4000000000000e70cc1,15142081,0x800000000000000000000000e50cc1,48,0x10000000000000000000000000e10cc1,14746817,14680257,14680257,48] [21,52] [] [] [36] [] [18]
def AQF:Ff AA 294 f294 AY1:=GQ func294
noncomputable def AY0:Ed:=hm [3,387,899,419,65955,16,387,16] [] [] []
def AQE:Ff AA 295 f295 AY0:=GQ func295
noncomputable def AYz:Ed:=hm [2,4] [] [] []
def AQD:Ff AA 296 f296 AYz:=GQ func296
noncomputable def AYy:Ed:=hm [2,4] [] [] []
def AQC:Ff AA 298 f298 AYy:=GQ func298
noncomputable def AYw:Ed:=hm [6,14,10,1] [] [] []
def AQB:Ff AA 304 f304 AYw:=GQ func304
noncomputable def AYv:Ed:=hm [14,1036,16,28676,61444,28740,2125828,16,28676,16] [] [] []
def AQA:Ff AA 305 f305 AYv:=GQ func305
noncomputable def AYu:Ed:=hm [1,4] [] [] []
def AP9:Ff AA 307 f307 AYu:=GQ func307
noncomputable def AYt:Ed:=hm [3,67,451,33219,963,134218691,451,451,48] [43] [] []
def AP8:Ff AA 308 f308 AYt:=GQ func308
noncomputable def AYs:Ed:=hm [3,35,65571,35,16] [] [] []
def AP7:Ff AA 309 f309 AYs:=GQ func309
noncomputable def AYq:Ed:=hm [1,4] [] [] []
def AP6:Ff AA 310 f310 AYq:=GQ func310
noncomputable def AYp:Ed:=hm [1,4] [] [] []
def AP5:Ff AA 311 f311 AYp:=GQ func311
noncomputable def AYn:Ed:=hm [2,32,4,4] [] [] []
def AP4:Ff AA 324 f324 AYn:=GQ func324
noncomputable def AYm:Ed:=hm [6,14,10,1] [] [] []
def AP3:Ff AA 329 f329 AYm:=GQ func329
noncomputable def AYk:Ed:=hm [14,1036,16,28676,61444,28740,2125828,16,28676,16] [] [] []
def AP2:Ff AA 330 f330 AYk:=GQ func330
noncomputable def AYj:Ed:=hm [33,161,41,8225] [] [] []
def AP1:Ff AA 333 f333 AYj:=GQ func333
noncomputable def AYi:Ed:=hm [7,64] [] [] []
def AP0:Ff AA 335 f335 AYi:=GQ func335
noncomputable def AYh:Ed:=hm [3,16] [] [] []
def APz:Ff AA 336 f336 AYh:=GQ func336
noncomputable def AYg:Ed:=hm [1,4] [] [] []
def APy:Ff AA 337 f337 AYg:=GQ func337
noncomputable def AYf:Ed:=hm [2,66,4,2147483650,4,10,2199023255562,6597069766666,4,0x8002000000000a,4,0x800002000000000a,4,0x4000000002000000000a,4,0x1000000000000002000000000a,4,0x1000000000000000000000000002,4,4] [] [] []
def APx:Ff AA 341 f341 AYf:=GQ func341
noncomputable def AYd:Ed:=hm [12,16] [] [] []
def APw:Ff AA 351 f351 AYd:=GQ func351
noncomputable def AYb:Ed:=hm [1,1] [] [] []
def APv:Ff AA 365 f365 AYb:=GQ func365
noncomputable def AYa:Ed:=hm [3,1027,16,12291,28675,12323,16789507,16,12291,16] [] [] []
def APu:Ff AA 367 f367 AYa:=GQ func367
noncomputable def Z3:ETree:=(.node (.node (.node (.node (.node (.node (.node (.node .nil 5 f5 e5 .nil) 6 f6 e6 .nil) 9 f9 e9 (.node .nil 10 f10 e10 .nil)) 11 f11 e11 (.node (.node (.node .nil 12 f12 e12 .nil) 13 f13 e13 .nil) 18 f18 e18 (.node .nil 19 f19 e19 .nil))) 20 f20 e20 (.node (.node (.node (.node .nil 21 f21 e21 .nil) 22 f22 e22 .nil) 23 f23 e23 (.node .nil 24 f24 e24 .nil)) 25 f25 e25 (.node (.node (.node .nil 26 f26 e26 .nil) 27 f27 e27 .nil) 28 f28 e28 (.node .nil 29 f29 e29 .nil)))) 30 f30 e30 (.node (.node (.node (.node (.node .nil 31 f31 e31 .nil) 32 f32 e32 .nil) 34 f34 e34 (.node .nil 35 f35 e35 .nil)) 36 f36 e36 (.node (.node (.node .nil 37 f37 e37 .nil) 38 f38 e38 .nil) 39 f39 e39 (.node .nil 47 f47 e47 .nil))) 48 f48 e48 (.node (.node (.node (.node .nil 49 f49 e49 .nil) 50 f50 e50 .nil) 51 f51 e51 (.node .nil 52 f52 e52 .nil)) 53 f53 e53 (.node (.node .nil 54 f54 e54 .nil) 55 f55 e55 (.node .nil 56 f56 e56 .nil))))) 57 f57 e57 (.node (.node (.node (.node (.node (.node .nil 58 f58 e58 .nil) 59 f59 e59 .nil) 60 f60 e60 (.node .nil 62 f62 e62 .nil)) 67 f67 e67 (.node (.node (.node .nil 68 f68 e68 .nil) 69 f69 e69 .nil) 70 f70 e70 (.node .nil 71 f71 e71 .nil))) 72 f72 e72 (.node (.node (.node (.node .nil 81 f81 e81 .nil) 96 f96 e96 .nil) 97 f97 e97 (.node .nil 98 f98 e98 .nil)) 99 f99 e99 (.node (.node (.node .nil 100 f100 AaW .nil) 101 f101 AaV .nil) 102 f102 AaU (.node .nil 104 f104 AaT .nil)))) 105 f105 AaS (.node (.node (.node (.node (.node .nil 106 f106 AaR .nil) 107 f107 AaQ .nil) 108 f108 AaP (.node .nil 109 f109 AaO .nil)) 110 f110 AaM (.node (.node (.node .nil 111 f111 AaL .nil) 112 f112 AaK .nil) 113 f113 AaJ (.node .nil 114 f114 AaI .nil))) 115 f115 AaH (.node (.node (.node (.node .nil 116 f116 AaG .nil) 121 f121 AaE .nil) 122 f122 AaD (.node .nil 123 f123 AaC .nil)) 124 f124 AaB (.node (.node .nil 125 f125 AaA .nil) 126 f126 AZ9 (.node .nil 127 f127 AZ8 .nil)))))) 128 f128 AZ7 (.node (.node (.node (.node (.node (.node (.node .nil 129 f129 AZ6 .nil) 130 f130 AZ4 .nil) 131 f131 AZ3 (.node .nil 132 f132 AZ2 .nil)) 133 f133 AZ1 (.node (.node (.node .nil 134 f134 AZ0 .nil) 136 f136 AZz .nil) 137 f137 AZy (.node .nil 138 f138 AZx .nil))) 139 f139 AZw (.node (.node (.node (.node .nil 140 f140 AZu .nil) 141 f141 AZt .nil) 149 f149 AZs (.node .nil 180 f180 AZr .nil)) 181 f181 AZq (.node (.node (.node .nil 182 f182 AZp .nil) 183 f183 AZo .nil) 184 f184 AZn (.node .nil 188 f188 AZm .nil)))) 190 f190 AZk (.node (.node (.node (.node (.node .nil 191 f191 AZj .nil) 194 f194 AZi .nil) 195 f195 AZh (.node .nil 198 f198 AZg .nil)) 199 f199 AZf (.node (.node (.node .nil 200 f200 AZd .nil) 201 f201 AZc .nil) 202 f202 AZb (.node .nil 203 f203 AZa .nil))) 204 f204 AZZ (.node (.node (.node (.node .nil 205 f205 AZY .nil) 233 f233 AZU .nil) 234 f234 AZT (.node .nil 235 f235 AZS .nil)) 236 f236 AZR (.node (.node .nil 237 f237 AZQ .nil) 238 f238 AZP (.node .nil 241 f241 AZN .nil))))) 243 f243 AZM (.node (.node (.node (.node (.node (.node .nil 244 f244 AZL .nil) 245 f245 AZK .nil) 246 f246 AZJ (.node .nil 255 f255 AZH .nil)) 256 f256 AZG (.node (.node (.node .nil 259 f259 AZF .nil) 260 f260 AZD .nil) 261 f261 AZC (.node .nil 286 f286 AY9 .nil))) 288 f288 AY8 (.node (.node (.node (.node .nil 289 f289 AY7 .nil) 290 f290 AY5 .nil) 291 f291 AY4 (.node .nil 292 f292 AY3 .nil)) 293 f293 AY2 (.node (.node .nil 294 f294 AY1 .nil) 295 f295 AY0 (.node .nil 296 f296 AYz .nil)))) 298 f298 AYy (.node (.node (.node (.node (.node .nil 304 f304 AYw .nil) 305 f305 AYv .nil) 307 f307 AYu (.node .nil 308 f308 AYt .nil)) 309 f309 AYs (.node (.node (.node .nil 310 f310 AYq .nil) 311 f311 AYp .nil) 324 f324 AYn (.node .nil 329 f329 AYm .nil))) 330 f330 AYk (.node (.node (.node (.node .nil 333 f333 AYj .nil) 335 f335 AYi .nil) 336 f336 AYh (.node .nil 337 f337 AYg .nil)) 341 f341 AYf (.node (.node .nil 351 f351 AYd .nil) 365 f365 AYb (.node .nil 367 f367 AYa .nil)))))))
def Vs:Z3.All AA:=⟨⟨⟨⟨⟨⟨⟨⟨tV,Aen,tV⟩,Aem,tV⟩,Ael,⟨tV,AaN,tV⟩⟩,AaF,⟨⟨⟨tV,AZ5,tV⟩,AZv,tV⟩,AZl,⟨tV,AZe,tV⟩⟩⟩,AZX,⟨⟨⟨⟨tV,AZW,tV⟩,AZV,tV⟩,AZO,⟨tV,AZI,tV⟩⟩,AZE,⟨⟨⟨tV,AZB,tV⟩,AZA,tV⟩,AY6,⟨tV,AYx,tV⟩⟩⟩⟩,AYr,⟨⟨⟨⟨⟨tV,AYo,tV⟩,AYl,tV⟩,AYe,⟨tV,AYc,tV⟩⟩,AYZ,⟨⟨⟨tV,AYY,tV⟩,AYX,tV⟩,AYW,⟨tV,AYV,tV⟩⟩⟩,AYU,⟨⟨⟨⟨tV,AYT,tV⟩,AYS,tV⟩,AYR,⟨tV,AYQ,tV⟩⟩,AYP,⟨⟨tV,AYO,tV⟩,AYN,⟨tV,AYM,tV⟩⟩⟩⟩⟩,AYL,⟨⟨⟨⟨⟨⟨tV,AYK,tV⟩,AYJ,tV⟩,AYI,⟨tV,AYH,tV⟩⟩,AYG,⟨⟨⟨tV,AYF,tV⟩,AYE,tV⟩,AYD,⟨tV,AYC,tV⟩⟩⟩,AYB,⟨⟨⟨⟨tV,AYA,tV⟩,AX9,tV⟩,AX8,⟨tV,AX7,tV⟩⟩,AX6,⟨⟨⟨tV,ARV,tV⟩,ARU,tV⟩,ART,⟨tV,ARS,tV⟩⟩⟩⟩,ARR,⟨⟨⟨⟨⟨tV,ARQ,tV⟩,ARP,tV⟩,ARO,⟨tV,ARN,tV⟩⟩,ARM,⟨⟨⟨tV,ARL,tV⟩,ARK,tV⟩,ARJ,⟨tV,ARI,tV⟩⟩⟩,ARH,⟨⟨⟨⟨tV,ARG,tV⟩,ARF,tV⟩,ARE,⟨tV,ARD,tV⟩⟩,ARC,⟨⟨tV,ARB,tV⟩,ARA,⟨tV,AQ9,tV⟩⟩⟩⟩⟩⟩,AQ8,⟨⟨⟨⟨⟨⟨⟨tV,AQ7,tV⟩,AQ6,tV⟩,AQ5,⟨tV,AQ4,tV⟩⟩,AQ3,⟨⟨⟨tV,AQ2,tV⟩,AQ1,tV⟩,AQ0,⟨tV,AQz,tV⟩⟩⟩,AQy,⟨⟨⟨⟨tV,AQx,tV⟩,AQw,tV⟩,AQv,⟨tV,AQu,tV⟩⟩,AQt,⟨⟨⟨tV,AQs,tV⟩,AQr,tV⟩,AQq,⟨tV,AQp,tV⟩⟩⟩⟩,AQo,⟨⟨⟨⟨⟨tV,AQn,tV⟩,AQm,tV⟩,AQl,⟨tV,AQk,tV⟩⟩,AQj,⟨⟨⟨tV,AQi,tV⟩,AQh,tV⟩,AQg,⟨tV,AQf,tV⟩⟩⟩,AQe,⟨⟨⟨⟨tV,AQd,tV⟩,AQc,tV⟩,AQb,⟨tV,AQa,tV⟩⟩,AQZ,⟨⟨tV,AQY,tV⟩,AQX,⟨tV,AQW,tV⟩⟩⟩⟩⟩,AQV,⟨⟨⟨⟨⟨⟨tV,AQU,tV⟩,AQT,tV⟩,AQS,⟨tV,AQR,tV⟩⟩,AQQ,⟨⟨⟨tV,AQP,tV⟩,AQO,tV⟩,AQN,⟨tV,AQM,tV⟩⟩⟩,AQL,⟨⟨⟨⟨tV,AQK,tV⟩,AQJ,tV⟩,AQI,⟨tV,AQH,tV⟩⟩,AQG,⟨⟨tV,AQF,tV⟩,AQE,⟨tV,AQD,tV⟩⟩⟩⟩,AQC,⟨⟨⟨⟨⟨tV,AQB,tV⟩,AQA,tV⟩,AP9,⟨tV,AP8,tV⟩⟩,AP7,⟨⟨⟨tV,AP6,tV⟩,AP5,tV⟩,AP4,⟨tV,AP3,tV⟩⟩⟩,AP2,⟨⟨⟨⟨tV,AP1,tV⟩,AP0,tV⟩,APz,⟨tV,APy,tV⟩⟩,APx,⟨⟨tV,APw,tV⟩,APv,⟨tV,APu,tV⟩⟩⟩⟩⟩⟩⟩
def za:AA.follows .mixedOrders=true:=kr
open Go.MapKept Go.Maps Go.WideElems Go.WideShapes
def lz(x:Int):List Int->List Int
 | []=>[x]
 | y::l=>if x<=y then x::y::l else y::lz x l
def Oa:List Int->List Int
 | []=>[]
 | x::l=>lz x (Oa l)
def Sc(x:Int): ∀ l,(lz x l).Perm (x::l)
 | [] => .refl _
 | y::l=>by
  unfold lz
  split
  ·exact .refl _
  ·exact ((Sc x l).cons y).trans (.swap _ _ _)
def OZ : ∀ l,(Oa l).Perm l
 | [] => .refl _
 | x::l=>(Sc x _).trans ((OZ l).cons x)
def TO{x:Int}: ∀ {l:List Int},l.Pairwise (· <= ·)->(lz x l).Pairwise (· <= ·)
 | [],_=>by simp [lz]
 | y::l,h=>by
  unfold lz
  split
  ·rename_i hxy
   refine List.Pairwise.cons (λz hz=>?_) h
   rcases AZ.1 hz with rfl|hz
   ·exact hxy
   ·exact DF hxy ((Bi.1 h).1 z hz)
  ·rename_i hxy
   obtain ⟨h1,h2⟩:=Bi.1 h
   refine List.Pairwise.cons (λz hz=>?_) (TO h2)
   rcases AZ.1 ((Sc x l).mem_iff.1 hz) with rfl|hz
   ·omega
   ·exact h1 z hz
def P0 : ∀ l:List Int,(Oa l).Pairwise (· <= ·)
 | [] => .nil
 | _::l=>TO (P0 l)
def ry{l l':List Int}(h:l'.Perm l):l'.mergeSort (λx y=>decide (x<=y))=Oa l:=by
 have tr : ∀ a b c:Int,leI a b=true->leI b c=true->leI a c=true:=λa b c h1 h2=>by simp only [leI,decide_eq_true_eq] at *;exact DF h1 h2
 have to : ∀ a b:Int,(leI a b||leI b a)=true:=λa b=>by simp only [leI,CJ,decide_eq_true_eq];exact Int.le_total a b
 refine List.Perm.eq_of_pairwise (le:=λa b=>a<=b) (λa b _ _ h1 h2=>Int.le_antisymm h1 h2) ?_ (P0 l) (((List.mergeSort_perm l' _).trans h).trans (OZ l).symm)
 exact (List.pairwise_mergeSort tr to l').imp λ{a b} hab=>by simpa [leI] using hab
def AD5:AV->Int
 | .int _ n=>n
 | _=>0
def AAJ:AV->Bool
 | .int .i64 n=>(Lit.int .i64 n).wf
 | _=>false
def MO(es:List (AV×AV)):List Int:=es.map λp=>AD5 p.1
def U8(es:List (AV×AV)):Bool:=es.all (λp=>AAJ p.1)&&Yl es
def Ve{a:AV}(h:AAJ a=true): ∃ n,a = .int .i64 n/\(Lit.int .i64 n).wf=true:=by
 unfold AAJ at h
 split at h
 ·exact ⟨_,rfl,h⟩
 ·cases h
abbrev RT:Value->Option (DataW Unit×List MemPlace):=λ_=>some (.lit (.bool true),[])
section
variable {P:Program} {F:Nat->Prop} {G:Gh} {w:World} {H:FN}
def zb {k:TypeId} (hk:P.underlying k=some (.int .i64)) {vs:List AV} {us:List Value} (hc:CRel F G vs H us w) {o:Nat} {um:Value} (hm:VRel G w (.mapr o) um) {es:List (AV×AV)}
  (he:Ih H (.mapr o)=some es) (hok:U8 es=true) (hlen:es.length<=maxLen) :
  ∃ b D0,um = .map (some b)/\w.ownsMap P k RT b es.length D0/\(intKeys D0).Perm (MO es)/\Maps.size D0=es.length:=by
 simp only [U8,AR] at hok
 obtain ⟨hk1,hk2⟩:=hok
 have hd:=Vy hk2
 rcases ST hc hm he with ⟨h,_⟩|⟨o',b,ms,cl,ho,rfl,hob,hkb,hms,hl,hH,hrel⟩
 ·cases h
 cases ho
 obtain ⟨hcl,hborn⟩:=Ll hc hH hob hkb hms
 have key : ∀ (i:Nat) (x:MapEntry),ms[i]? =some x -> ∃ (p:AV×AV) (n:Int),es[i]? =some p/\p.1 = .int .i64 n/\x.key=encZ n/\(Lit.int .i64 n).wf=true:=λi x hx=>by
  have hlt:=(Ap.1 hx).1
  have hp:es[i]? =some (es[i]' FM):=AL _
  obtain ⟨n,hn,hw⟩:=Ve (Ao.1 hk1 _ (List.mem_of_getElem? hp))
  have hv:=(hrel i _ x hp hx).2.2.1
  rw [hn] at hv
  refine ⟨_,n,hp,hn, ?_,hw⟩
  generalize x.key=y at hv ⊢
  cases hv;rfl
 have hR : ∀ x∈ms.toList,∃ (i:Nat) (p:AV×AV) (n:Int),ms[i]? =some x/\es[i]? =some p/\p.1 = .int .i64 n/\rd P k RT x=some (.int .i64 n,.lit (.bool true)):=λx hx=>by
  obtain ⟨i,hi⟩:=Af hx
  rw [Ad] at hi
  obtain ⟨p,n,h1,h2,h3,h4⟩:=key i x hi
  refine ⟨i,p,n,hi,h1,h2, ?_⟩
  have:keyOf P k x.key=some (.int .i64 n):=by
   rw [h3]
   simp [keyOf,hk,mapKey,encZ,h4]
  simp [rd,this,RT]
 have hmap:ms.toList.map (λx=>intOf (rg P k RT x).1)=MO es:=by
  apply A4
  intro i
  unfold MO
  rw [Ac,Ac,Ad]
  cases hx:ms[i]? with
  | none =>
   have:es[i]? =none:=Ax (by have:=Df.1 hx;omega)
   rw [this];rfl
  | some x =>
   obtain ⟨p,n,h1,h2,h3,h4⟩:=key i x hx
   have:keyOf P k x.key=some (.int .i64 n):=by
    rw [h3]
    simp [keyOf,hk,mapKey,encZ,h4]
   rw [h1]
   simp [rg,rd,this,RT,intOf,h2,AD5]
 have hkeys:ms.toList.map (·.key)=(MO es).map encZ:=by
  apply A4
  intro i
  unfold MO
  rw [Ac,Ac,Ac,Ad]
  cases hx:ms[i]? with
  | none =>
   have:es[i]? =none:=Ax (by have:=Df.1 hx;omega)
   rw [this];rfl
  | some x =>
   obtain ⟨p,n,h1,h2,h3,h4⟩:=key i x hx
   rw [h1]
   simp [h2,h3,AD5]
 have hborns:ms.toList.map (·.born)=Am ms.size:=by
  apply A4
  intro i
  rw [Ac,Ad]
  cases hx:ms[i]? with
  | none =>
   have:=Df.1 hx
   rw [Ax (by simpa using this)];rfl
  | some x =>
   have:=(Ap.1 hx).1
   rw [AL (by simpa using this)]
   simp [hborn i x hx]
 have hnd:(MO es).Nodup:=by
  refine ED.2 (hd.imp_of_mem λ{p q} hp hq h e=>?_)
  obtain ⟨n,hn,_⟩:=Ve (Ao.1 hk1 _ hp)
  obtain ⟨m,hm,_⟩:=Ve (Ao.1 hk1 _ hq)
  rw [hn,hm] at h e
  simp [AD5] at e
  subst e
  simp [Hm,NV] at h
 refine ⟨b,_,rfl,⟨ms,cl,hms,⟨FM,⟨λx hx=>?_, ?_, ?_⟩,λx hx=>?_⟩,FM,rfl⟩, ?_, ?_⟩
 ·obtain ⟨i,hi⟩:=Af hx
  rw [Ad] at hi
  have:=(Ap.1 hi).1
  rw [hborn i x hi];omega
 ·rw [hborns];exact List.nodup_range
 ·rw [hkeys]
  exact ED.2 (hnd.imp λh e=>h (encZ_inj e))
 ·obtain ⟨i,p,n,_,_,_,h⟩:=hR x hx
  exact ⟨_,h⟩
 ·show (List.map _ _).Perm _
  rw [<- hmap,show (ms.toList.map λx=>intOf (rg P k RT x).1)=(ms.toList.map (rg P k RT)).map λp=>intOf p.1 by rw [List.map_map];rfl]
  exact (sorted_perm _).map _
 ·show List.length _=_
  rw [(sorted_perm _).length_eq,Aq,Array.length_toList,hl]
def ve(hF : ∀ b,F b->b<w.heap.size){w':World}(hb:RowKit.Below w.heap.size w w'){g:Nat}(hg:w.heap.size<=g)(k:Kind):Ext F G w (G.setKind g k) w':=by
 have ne : ∀ b,b<w.heap.size->b≠g:=λb h e=>FM
 refine ⟨hb.size,⟨λ_ _ h=>h,λb C E hc=>?_,λb hlt _=>⟨Nat.lt_of_lt_of_le hlt hb.size,G.kind_set_ne k (ne b hlt)⟩,λb off v hs hc=>?_⟩,λb h=>G.kind_set_ne k (ne b (hF b h)),λb h=>hb.block b (hF b h),⟨hb.os,hb.tape,hb.output⟩⟩
 ·exact ⟨C,(hb.block b (Ap.1 hc).1).trans hc,rfl⟩
 ·have hlt:=pg hc
  exact ⟨(G.safe_set_ne k (ne b hlt)).2 hs,(hb.cell (p:=⟨b,off,none⟩) hlt).trans hc⟩
def oD {vs:List AV} {us:List Value} (hc:CRel F G vs H us w) {w':World} (hb:RowKit.Below w.heap.size w w') {g:Nat} (hg:w.heap.size<=g) {R:AV->FN->Prop} {v:AV} {u:Value} (hR:R v H)
  (hv:VRel (G.setKind g .imm) w' v u) (ht:Gp v u=[]):Fc F G w R u w':=by
 have he:=ve (F:=F) (G:=G) hc.h.fore hb hg .imm
 have hne : ∀ b,b<w.heap.size->(G.setKind g .imm).kind b=G.kind b/\w'.heap[b]? =w.heap[b]?:=λb hlt=>⟨G.kind_set_ne .imm FM,hb.block b hlt⟩
 refine ⟨v,H,_,hR,⟨.cons hv (Fd ht _ _ _) (.nil _ _ _),hc.h.ext he rfl λb hb'=>?_,λb=>?_⟩,he⟩
 ·rcases hb' with ⟨o',cs,h1,h2⟩|hb'
  ·exact hne b (hc.h.block_lt h1 h2)
  ·obtain ⟨_,_,C,E,t3⟩:=hc.h.tok_of_pos hb'
   exact hne b (Ap.1 t3).1
 ·rw [Mv (G:=G) (w:=w) (G':=G.setKind g .imm) rfl λo' cs b' h1 h2=>(hne b' (hc.h.block_lt h1 h2)).2,FW,GN,ht]
  have:=hc.cnt b
  simp
  omega
def AAK{w':World}{base e:Nat}{v:Value}{ss:List Int}(h:w'.ownsRow base e 1 v ss.length (ss.map encZ)):
  ∃ g,base<=g /\ ∀ G:Gh,VRel (G.setKind g .imm) w' (.sl none (ss.map (.int .i64))) v:=by
 obtain ⟨hl,h⟩:=h
 rcases h with ⟨rfl,h0⟩|⟨g,cap,cur,rfl,hbg,hg,h1,h2,h3,h4⟩
 ·obtain rfl:=List.eq_nil_of_length_eq_zero h0
  exact ⟨base,Nat.le_refl _,λG => .slnil none⟩
 ·refine ⟨g,hbg,λG=>?_⟩
  have hlen:(ss.map (AV.int .i64)).length=ss.length:=Aq ..
  have hcat:HM (ss.map (AV.int .i64))=ss.map (AV.int .i64):=by
   unfold HM
   rw [List.flatMap_map]
   clear hl hlen h4 h1
   induction ss with
   | nil=>rfl
   | cons x l ih=>rw [List.flatMap_cons,ih];rfl
  rw [<- hlen]
  refine .sl none _ 1 g 0 cap (λi=>encZ (ss[i]?.getD 0)) (λa ha=>?_) (λ_ h=>by cases h) (by rw [hlen];exact h1) h2 (λi c hi=>?_) (λi c hi=>?_)
  ·obtain ⟨n,_,rfl⟩:=List.mem_map.1 ha;rfl
  ·rw [hcat,Ac] at hi
   cases hs:ss[i]? with
   | none=>rw [hs] at hi;cases hi
   | some n =>
    rw [hs] at hi;cases hi
    refine ⟨rfl, ?_, ?_⟩
    ·unfold Gh.safe;rw [G.kind_set];trivial
    ·have hin:(cur.toList.take (ss.length*1))[i]? =some (encZ n):=by rw [h4,Ac,hs];rfl
     have hci:cur[i]? =some (encZ n):=by
      rw [List.getElem?_take] at hin
      split at hin
      ·rwa [Ad] at hin
      ·cases hin
     simp [World.cell?,hg,hci]
  ·rw [hcat,Ac] at hi
   cases hs:ss[i]? with
   | none=>rw [hs] at hi;cases hi
   | some n =>
    rw [hs] at hi;cases hi
    exact .int _ _
end
end Go.AI
namespace Go.Proofs
open Go.RowKit Go.Maps Go.Sort Go.Shelf Go.AI
def Ly:Go.Shelf.Ren:=⟨fun|7=>298|10=>333|n=>n,fun|23=>134|26=>3|3=>4|28=>349|0=>0|27=>348|33=>219|4=>4|n=>n,fun|n=>n⟩
def nj:Go.Proofs.SlLaysZI.n7 AA Ly:={
 mixed:=kr
 f7:=⟨f298.name,dc,func298.trans (congrArg some kr)⟩
 f10:=⟨f333.name,dc,func333.trans (congrArg some kr)⟩
 t0:=Tryz.underlying0
 a0:=Tryz.isAgg0
 z0:=Tryz.sizeOf0
 v0:=Tryz.zeroValue0
 t4:=Tryz.underlying4
 a4:=Tryz.isAgg4
 z4:=Tryz.sizeOf4
 v4:=Tryz.zeroValue4
 t23:=Tryz.underlying134
 a23:=Tryz.isAgg134
 z23:=Tryz.sizeOf134
 v23:=Tryz.zeroValue134
 t26:=Tryz.underlying3
 a26:=Tryz.isAgg3
 z26:=Tryz.sizeOf3
 v26:=Tryz.zeroValue3
 t27:=Tryz.underlying348
 a27:=Tryz.isAgg348
 z27:=Tryz.sizeOf348
 v27:=Tryz.zeroValue348
 t28:=Tryz.underlying349
 a28:=Tryz.isAgg349
 z28:=Tryz.sizeOf349
 v28:=Tryz.zeroValue349
 t33:=Tryz.underlying219
 a33:=Tryz.isAgg219
 z33:=Tryz.sizeOf219
 v33:=Tryz.zeroValue219 }
def M4:Go.Shelf.Ren:=⟨fun|6=>297|8=>331|9=>332|11=>344|13=>346|12=>345|23=>363|24=>364|14=>354|15=>355|16=>356|17=>357|18=>358|19=>359|20=>360|21=>361|22=>362|25=>369|26=>370|27=>371|28=>372|29=>373|30=>213|31=>375|n=>n,fun|26=>3|28=>349|24=>61|0=>0|3=>3|37=>332|48=>387|50=>389|4=>4|40=>381|39=>380|45=>100|5=>5|9=>9|51=>392|55=>326|57=>397|58=>79|33=>219|n=>n,fun|n=>n⟩
def ai:Go.Proofs.SlLaysZI.n6 AA M4:={
 mixed:=kr
 f6:=⟨f297.name,dc,func297.trans (congrArg some kr)⟩
 f8:=⟨f331.name,dc,func331.trans (congrArg some kr)⟩
 f11:=⟨f344.name,dc,func344.trans (congrArg some kr)⟩
 t0:=Tryz.underlying0
 a0:=Tryz.isAgg0
 z0:=Tryz.sizeOf0
 v0:=Tryz.zeroValue0
 t24:=Tryz.underlying61
 a24:=Tryz.isAgg61
 z24:=Tryz.sizeOf61
 v24:=Tryz.zeroValue61
 t26:=Tryz.underlying3
 a26:=Tryz.isAgg3
 z26:=Tryz.sizeOf3
 v26:=Tryz.zeroValue3
 t28:=Tryz.underlying349
 a28:=Tryz.isAgg349
 z28:=Tryz.sizeOf349
 v28:=Tryz.zeroValue349
 i26:=by kernel_rfl }
def WQ:Go.Shelf.Ren:=⟨fun|5=>332|8=>346|7=>345|19=>363|20=>364|10=>354|11=>355|12=>356|13=>357|14=>358|15=>359|16=>360|17=>361|18=>362|30=>369|31=>370|32=>371|33=>372|34=>373|35=>213|40=>375|n=>n,fun|23=>61|25=>3|3=>3|32=>332|22=>61|0=>0|44=>387|46=>389|4=>4|36=>381|35=>380|41=>100|5=>5|9=>9|53=>392|57=>326|63=>397|64=>79|n=>n,fun|n=>n⟩
def WR:Go.Proofs.SlLaysM.n5 AA WQ:={
 mixed:=kr
 f5:=⟨f332.name,dc,func332.trans (congrArg some kr)⟩
 f7:=⟨f345.name,dc,func345.trans (congrArg some kr)⟩
 f8:=func346.trans (congrArg some kr)
 f10:=⟨f354.name,dc,func354.trans (congrArg some kr)⟩
 f11:=⟨f355.name,dc,func355.trans (congrArg some kr)⟩
 f12:=⟨f356.name,dc,func356.trans (congrArg some kr)⟩
 f13:=⟨f357.name,dc,func357.trans (congrArg some kr)⟩
 f14:=⟨f358.name,dc,func358.trans (congrArg some kr)⟩
 f15:=⟨f359.name,dc,func359.trans (congrArg some kr)⟩
 f16:=⟨f360.name,dc,func360.trans (congrArg some kr)⟩
 f17:=⟨f361.name,dc,func361.trans (congrArg some kr)⟩
 f18:=⟨f362.name,dc,func362.trans (congrArg some kr)⟩
 f19:=func363.trans (congrArg some kr)
 f20:=func364.trans (congrArg some kr)
 f30:=⟨f369.name,dc,func369.trans (congrArg some kr)⟩
 f31:=func370.trans (congrArg some kr)
 f32:=func371.trans (congrArg some kr)
 f33:=⟨f372.name,dc,func372.trans (congrArg some kr)⟩
 f34:=⟨f373.name,dc,func373.trans (congrArg some kr)⟩
 f35:=⟨f213.name,dc,func213.trans (congrArg some kr)⟩
 f40:=⟨f375.name,dc,func375.trans (congrArg some kr)⟩
 t0:=Tryz.underlying0
 a0:=Tryz.isAgg0
 z0:=Tryz.sizeOf0
 v0:=Tryz.zeroValue0
 t3:=Tryz.underlying3
 a3:=Tryz.isAgg3
 z3:=Tryz.sizeOf3
 v3:=Tryz.zeroValue3
 t4:=Tryz.underlying4
 a4:=Tryz.isAgg4
 z4:=Tryz.sizeOf4
 v4:=Tryz.zeroValue4
 t5:=Tryz.underlying5
 a5:=Tryz.isAgg5
 z5:=Tryz.sizeOf5
 v5:=Tryz.zeroValue5
 t9:=Tryz.underlying9
 a9:=Tryz.isAgg9
 z9:=Tryz.sizeOf9
 v9:=Tryz.zeroValue9
 t22:=Tryz.underlying61
 a22:=Tryz.isAgg61
 z22:=Tryz.sizeOf61
 v22:=Tryz.zeroValue61
 t23:=Tryz.underlying61
 a23:=Tryz.isAgg61
 z23:=Tryz.sizeOf61
 v23:=Tryz.zeroValue61
 t25:=Tryz.underlying3
 a25:=Tryz.isAgg3
 z25:=Tryz.sizeOf3
 v25:=Tryz.zeroValue3
 t32:=Tryz.underlying332
 a32:=Tryz.isAgg332
 z32:=Tryz.sizeOf332
 v32:=Tryz.zeroValue332
 t35:=Tryz.underlying380
 a35:=Tryz.isAgg380
 z35:=Tryz.sizeOf380
 v35:=Tryz.zeroValue380
 t36:=Tryz.underlying381
 a36:=Tryz.isAgg381
 z36:=Tryz.sizeOf381
 v36:=Tryz.zeroValue381
 t41:=Tryz.underlying100
 a41:=Tryz.isAgg100
 z41:=Tryz.sizeOf100
 v41:=Tryz.zeroValue100
 t44:=Tryz.underlying387
 a44:=Tryz.isAgg387
 z44:=Tryz.sizeOf387
 v44:=Tryz.zeroValue387
 t46:=Tryz.underlying389
 a46:=Tryz.isAgg389
 z46:=Tryz.sizeOf389
 v46:=Tryz.zeroValue389
 t53:=Tryz.underlying392
 a53:=Tryz.isAgg392
 z53:=Tryz.sizeOf392
 v53:=Tryz.zeroValue392
 t57:=Tryz.underlying326
 a57:=Tryz.isAgg326
 z57:=Tryz.sizeOf326
 v57:=Tryz.zeroValue326
 t63:=Tryz.underlying397
 a63:=Tryz.isAgg397
 z63:=Tryz.sizeOf397
 v63:=Tryz.zeroValue397
 t64:=Tryz.underlying79
 a64:=Tryz.isAgg79
 z64:=Tryz.sizeOf79
 v64:=Tryz.zeroValue79 }
def ii(m:Nat):AnyZI.SortsIn AA M4 Fence.wide m :=
  ⟨λblk off cap ss W hH hblk hsz=>callsIn_wide.2 (AnyM.slices_Sort_int WR blk off cap ss W hH hblk hsz),
   λp cap W=>callsIn_wide.2 (AnyM.slices_Sort_int_none WR p cap W)⟩
end Go.Proofs
namespace Go.AI
open Go.RowKit Go.Maps Go.Sort Go.Shelf Go.Proofs
def cI{H : FN}{ob o : Nat}{es : List (AV × AV)}(h1 : H[ob]? = some (some [.mapr o]))(h2 : Ih H (.mapr o) = some es)(h3 : U8 es = true)(h4 : es.length <= 1073741824):
    FT AA 297 [.fn (.func 333) [] [.ptr ob 0]] H λv H'=>v = .sl none ((Oa (MO es)).map (.int .i64))/\H'=H := by
  refine ⟨kr,λF G w us hc=>?_⟩
  have hlen := hc.l.len
  obtain ⟨u,rfl⟩ : ∃ u,us=[u] := by
    match us,hlen with
    | [u],_=>exact ⟨u,rfl⟩
  have hx := hc.l.rel 0 _ _ rfl rfl
  cases hx with
  | fn _ _ _ fi ca k1 k2 k3 k4 =>
  obtain rfl:fi=#[] := by
    have:fi.size=0 := k1.symm
    exact Array.eq_empty_of_size_eq_zero this
  obtain ⟨x,rfl⟩ : ∃ x,ca=#[x] := by
    have:ca.size=1 := k2.symm
    exact ⟨ca[0], by apply Array.ext; · simp [this]
                     · intro i hi1 hi2;simp at hi2;subst hi2;rfl⟩
  have hp := k4 0 _ x rfl rfl
  cases hp with
  | ptr _ _ B hB hCE =>
  obtain ⟨C,E,hC⟩ := hCE
  obtain ⟨_,C',E',hC',hle,hrow⟩ := (hc.h.obj ob _ B h1 hB).of_cells hC
  rw [hC] at hC'
  cases hC'
  have h0:C[0]? =some (C[0]'(by simp at hle;omega)) := Array.getElem?_eq_getElem _
  generalize C[0]'(by simp at hle;omega)=um at h0
  obtain ⟨_,hm,_⟩ := hrow 0 _ um rfl h0
  obtain ⟨b,D0,rfl,hown,hperm,hsz⟩ := zb (P := AA) (k := Ly.t 26) kr hc hm h2 h3 (by unfold maxLen;omega)
  have hcell:w.cell? ⟨B,0,none⟩=some (.map (some b)) := by simp [World.cell?,hC,h0]
  have hseq:SeqGives Fence.wide 2 AA 333 #[.pointer (some ⟨B,0,none⟩)] encZ (λss=>ss.Perm (intKeys D0)) (Maps.size D0) w :=
    AnyZI.keys_gives (ρ := Ly) { nj with } Fence.wide _ trivial rfl FM B b es.length D0 w (Ap.1 hC).1 hcell hown
  have cS := AnyZI.sorted_in ai Fence.wide 5 trivial trivial trivial trivial rfl FM (ii _) (enters_of func332 kr rfl) 333 #[.pointer (some ⟨B,0,none⟩)] trivial (enters_of func333 kr rfl) _ _ (by rw [hsz];unfold maxLen;omega) (by rw [hsz];omega) _ hseq
  change CallsIn _ _ AA 297 _ _ _ at cS
  refine (callsIn_wide (n := 5)).1 (cS.mono ?_)
  rintro e w' ⟨v,ss,rfl,hS,hrow2,hnil,hbel⟩
  have hs:ss.mergeSort (λx y=>decide (x<=y))=Oa (MO es) := ry (hS.trans hperm)
  rw [hs] at hrow2
  have hl2:ss.length=(Oa (MO es)).length := by rw [(hS.trans hperm).length_eq,(OZ _).length_eq]
  rw [hl2] at hrow2
  obtain ⟨g,hg,hv⟩ := AAK hrow2
  exact ⟨v,rfl,oD hc hbel hg ⟨rfl,rfl⟩ (hv G) (GJ rfl _)⟩
def kM:Orc:=λf vs H=>bif CK f 297 then
  match vs with
  | [.fn (.func s) [] [.ptr ob 0]]=>bif CK s 333 then match H[ob]? with
   | some (some [.mapr o])=>match Ih H (.mapr o) with
    | some es=>bif U8 es&&Nat.ble es.length 1073741824 then some (.sl none ((Oa (MO es)).map (.int .i64)),H) else none
    | none=>none
   | _=>none
   else none
  | _=>none
 else none
def qX:qB AA kM:=by
 intro f vs H v H' h
 unfold kM at h
 cases hf:CK f 297 with
 | false=>rw [hf] at h;cases h
 | true =>
  rw [hf] at h
  have:=DE hf
  subst this
  dsimp only [cond_true] at h
  split at h
  ·rename_i s ob
   cases hs:CK s 333 with
   | false=>rw [hs] at h;cases h
   | true =>
    rw [hs] at h
    have:=DE hs
    subst this
    dsimp only [cond_true] at h
    split at h
    ·rename_i o h1
     split at h
     ·rename_i es h2
      cases h3:(U8 es&&Nat.ble es.length 1073741824) with
      | false=>rw [h3] at h;cases h
      | true =>
       rw [h3] at h
       cases h
       simp only [AR] at h3
       exact cI h1 h2 h3.1 (Nat.le_of_ble_eq_true h3.2)
     ·cases h
    ·cases h
  ·cases h
end Go.AI
