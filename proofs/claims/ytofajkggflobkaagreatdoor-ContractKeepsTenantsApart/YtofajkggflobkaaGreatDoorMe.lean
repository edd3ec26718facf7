/- The abstract walk as a program that computes: operations. -/
import Derived.Test.YtofajkggflobkaaGreatDoorLi
import Derived.Test.YtofajkggflobkaaGreatDoorProg
import Derived.Below
import Derived.Shelf.SlIterI.Nil
import Derived.Shelf.SortM.Plain
import Derived.Shelf.SortM.SortNone
import Derived.Ground.GgzProg
import Derived.Ground.SlgmProg
set_option linter.unusedSimpArgs false
set_option linter.unusedVariables false
set_option linter.defProp false
open Go.Proofs.Tryz
open Go.AI renaming Hint->Ee
open Array renaming getElem?_eq_none_iff->Di,getElem?_eq_some_iff->Ao,getElem?_toList->Ae
open Bool renaming and_eq_true->AQ,or_eq_true->CH
open Int renaming le_trans->DG
open List renaming all_eq_true->An,ext_getElem?->A5,getElem?_eq_getElem->AL,getElem?_eq_none->Az,getElem?_eq_some_iff->AC,getElem?_map->Ab,getElem?_of_mem->Af,length_map->Aq,mem_cons->AX,mem_singleton->Ac,pairwise_cons->Bk,pairwise_map->EF,range->Am
open Nat renaming beq->CI,eq_of_beq_eq_true->DF
open Option renaming any->Cr,bind_eq_some_iff->CF
open Go.Proofs.Tryz renaming prog->AA
namespace Go.AI
open Go.MapKept
def ADZ(op:BinOp)(a b:AV):Option AV :=
 match a,b with
 | .int k x,.int k' y =>
  match op with
  | .shl=>if 0<=y then some (.int k (k.wrap (x*2^(min y.toNat k.bits)))) else none
  | .shr=>if 0<=y then some (.int k (x.fdiv (2^(min y.toNat k.bits)))) else none
  | .add=>if k=k' then some (.int k (k.wrap (x+y))) else none
  | .sub=>if k=k' then some (.int k (k.wrap (x - y))) else none
  | .mul=>if k=k' then some (.int k (k.wrap (x*y))) else none
  | .quo=>if k=k'/\y≠0 then some (.int k (k.wrap (x.tdiv y))) else none
  | .rem=>if k=k'/\y≠0 then some (.int k (x.tmod y)) else none
  | .and=>if k=k' then some (.int k (k.wrap (BitVec.ofInt k.bits x &&& BitVec.ofInt k.bits y).toNat)) else none
  | .or=>if k=k' then some (.int k (k.wrap (BitVec.ofInt k.bits x ||| BitVec.ofInt k.bits y).toNat)) else none
  | .xor=>if k=k' then some (.int k (k.wrap (BitVec.ofInt k.bits x ^^^ BitVec.ofInt k.bits y).toNat)) else none
  | .andNot=>if k=k' then some (.int k (k.wrap (BitVec.ofInt k.bits x &&& ~~~ BitVec.ofInt k.bits y).toNat)) else none
  | .eql=>if k=k' then some (.bool (x==y)) else none
  | .neq=>if k=k' then some (.bool (x !=y)) else none
  | .lss=>if k=k' then some (.bool (decide (x<y))) else none
  | .leq=>if k=k' then some (.bool (decide (x<=y))) else none
  | .gtr=>if k=k' then some (.bool (decide (x>y))) else none
  | .geq=>if k=k' then some (.bool (decide (x≥y))) else none
 | .str x,.str y =>
  match op with
  | .add=>if x.size+y.size<=9223372036854775807 then some (.str (x++y)) else none
  | .eql=>some (.bool (x.data.toList==y.data.toList))
  | .neq=>some (.bool !(x.data.toList==y.data.toList))
  | .lss=>some (.bool (Op.bytesLess x.data.toList y.data.toList))
  | .leq=>some (.bool (Op.bytesLess x.data.toList y.data.toList||x.data.toList==y.data.toList))
  | .gtr=>some (.bool !(Op.bytesLess x.data.toList y.data.toList||x.data.toList==y.data.toList))
  | .geq=>some (.bool !(Op.bytesLess x.data.toList y.data.toList))
  | _=>none
 | _,_=>none
def KH{α:Type}{c:Prop}[Decidable c]{x:Option α}{v:α}(h:(if c then x else none)=some v):c/\x=some v:=by
 split at h
 ·rename_i hc;exact ⟨hc,h⟩
 ·cases h
def jO{op:BinOp}{a b v:AV}{R:AV->Prop}(h:ADZ op a b=some v)(hr:R v):KE op a b R:=by
 unfold ADZ at h
 unfold KE
 split at h
 ·cases op<;>obtain ⟨h1,h2⟩:=KH h<;>cases h2<;>first|exact ⟨h1,hr⟩|exact ⟨h1.1,h1.2,hr⟩
 ·simp only [ByteArray.toList_eq]
  cases op<;>first|(cases h;done)|(obtain ⟨h1,h2⟩:=KH h;cases h2;exact ⟨h1,hr⟩)|(cases h;exact hr)
 ·cases h
def bO(P:Program)(op:BinOp)(t:TypeId)(a b:AV):Option AV :=
 match op,Kp P t a b with
 | .eql,some r=>some (.bool r)
 | .neq,some r=>some (.bool !r)
 | _,_=>ADZ op a b
def oZ{P:Program}{op:BinOp}{t:TypeId}{a b v:AV}{R:AV->Prop}(h:bO P op t a b=some v)(hr:R v):Kq P op t a b R:=by
 unfold bO at h
 unfold Kq
 generalize Kp P t a b=q at h ⊢
 cases q with
 | none=>cases op<;>exact jO h hr
 | some r=>cases op<;>first|exact jO h hr|(cases h;exact hr)
def Z5(P:Program)(op:BinOp)(t:TypeId)(a:AV):Option AV :=
 match P.underlying t with
 | some (.slice _)=>match op,a with
  | .eql,.sl _ (_::_)=>some (.bool false)
  | .neq,.sl _ (_::_)=>some (.bool true)
  | .eql,.msl _ _ _ _=>some (.bool false)
  | .neq,.msl _ _ _ _=>some (.bool true)
  | _,_=>none
 | _=>none
def mB{P:Program}{op:BinOp}{t:TypeId}{a v:AV}{R:AV->Prop}(h:Z5 P op t a=some v)(hr:R v):NY P op t a R:=by
 unfold Z5 at h
 unfold NY
 split at h
 ·rename_i e he
  simp only [he]
  split at h<;>cases h<;>exact hr
 ·cases h
def bE(P:Program)(t:TypeId)(x:AV)(lo hi mx:Option Int):Option AV :=
 match P.underlying t,x with
 | some .string,.str s =>
  if mx=none/\0<=lo.getD 0/\lo.getD 0<=hi.getD s.size/\hi.getD s.size<=s.size then some (.str (s.extract (lo.getD 0).toNat (hi.getD s.size).toNat)) else none
 | some (.slice e),.sl own es =>
  if 0<=lo.getD 0/\lo.getD 0<=hi.getD es.length/\hi.getD es.length<=es.length/\es.all (λx=>x.cells.length==P.cellsOf e)=true/\(P.info? e).isSome=true then
   match mx with
   | none=>some (.sl (if hi.getD es.length=es.length then own else none) ((es.take (hi.getD es.length).toNat).drop (lo.getD 0).toNat))
   | some m=>if m=hi.getD es.length/\0<P.cellsOf e then some (.sl (some (P.cellsOf e)) ((es.take (hi.getD es.length).toNat).drop (lo.getD 0).toNat)) else none
  else none
 | some (.slice e),.msl ob off len sz =>
  if 0<=lo.getD 0/\lo.getD 0<=hi.getD len/\hi.getD len<=len/\sz=P.cellsOf e/\(P.info? e).isSome=true/\mx=none/\(lo.getD 0=0\/lo.getD 0<len) then
   some (.msl ob (off+(lo.getD 0).toNat*sz) ((hi.getD len).toNat - (lo.getD 0).toNat) sz) else none
 | some (.pointer ta),.cptr cs off=>if lo=none/\hi=none/\mx=none then
   match P.underlying ta with
   | some (.array n e)=>if P.cellsOf e=1/\off+n<=cs.length/\n<=9223372036854775807 then some (.sl none ((cs.drop off).take n)) else none
   | _=>none
  else none
 | some (.array n e),.cptr cs off=>if (lo=none/\hi=none/\mx=none)/\P.cellsOf e=1/\off+n<=cs.length/\n<=9223372036854775807 then some (.sl none ((cs.drop off).take n)) else none
 | _,_=>none
def Wg(P:Program)(t:TypeId)(x:AV)(lo hi mx:Option Int)(H:FP):Option AV :=
 match P.underlying t,x with
 | some (.array n e),.ptr o off=>match H[o]? with
  | some (some cs)=>if (lo=none/\hi=none/\mx=none)/\n<=9223372036854775807/\(P.info? e).isSome=true/\off+n*P.cellsOf e<=cs.length then some (.msl o off n (P.cellsOf e)) else none
  | _=>none
 | some (.slice e),.sl _ _=>if (lo=none/\hi=some 0/\mx=some 0)/\(P.info? e).isSome=true then some (.sl (some 0) []) else none
 | _,_=>none
def jB{P:Program}{t:TypeId}{x v:AV}{lo hi mx:Option Int}{H:FP}{R:AV->Prop}(h:Wg P t x lo hi mx H=some v)(hr:R v):KB P t x lo hi mx H R:=by
 unfold Wg at h
 unfold KB
 split at h
 ·rename_i hu
  split at h
  ·rename_i cs ho
   obtain ⟨h1,h2⟩:=KH h
   cases h2
   simp only [hu,ho]
   exact ⟨h1.1,h1.2.1,h1.2.2.1,h1.2.2.2,hr⟩
  ·cases h
 ·rename_i hu
  obtain ⟨h1,h2⟩:=KH h
  cases h2
  simp only [hu]
  exact ⟨h1.1,h1.2,hr⟩
 ·cases h
def qx{es:List AV}{k:Nat}(h:es.all (λx=>x.cells.length==k)=true): ∀ x∈es,x.cells.length=k:=λx hx=>by
 have:=An.1 h x hx
 simpa using this
def oL{P:Program}{t:TypeId}{x v:AV}{lo hi mx:Option Int}{R:AV->Prop}(h:bE P t x lo hi mx=some v)(hr:R v):Nt P t x lo hi mx R:=by
 unfold bE at h
 unfold Nt
 split at h
 ·rename_i hu
  simp only [hu]
  obtain ⟨h1,h2⟩:=KH h
  cases h2
  exact ⟨h1.1,h1.2.1,h1.2.2.1,h1.2.2.2,hr⟩
 ·rename_i hu
  simp only [hu]
  obtain ⟨⟨h1,h2,h3,h4,h5⟩,h⟩:=KH h
  refine ⟨h1,h2,h3,qx h4,h5, ?_⟩
  split at h
  ·cases h;exact hr
  ·obtain ⟨h6,h⟩:=KH h
   cases h;exact ⟨h6.1,h6.2,hr⟩
 ·rename_i hu
  simp only [hu]
  obtain ⟨h1,h⟩:=KH h
  cases h
  exact ⟨h1,hr⟩
 ·rename_i hu
  simp only [hu]
  obtain ⟨⟨h1,h2,h3⟩,h⟩:=KH h
  refine ⟨h1,h2,h3, ?_⟩
  split at h
  ·rename_i ha
   simp only [ha]
   obtain ⟨⟨g1,g2,g3⟩,h⟩:=KH h
   cases h;exact ⟨g1,g2,g3,hr⟩
  ·cases h
 ·rename_i hu
  simp only [hu]
  obtain ⟨h1,h⟩:=KH h
  cases h
  exact ⟨h1.1,h1.2.1,h1.2.2.1,h1.2.2.2,hr⟩
 ·cases h
def AA1:AV->Bool
 | .sl (some _) _=>false
 | _=>true
def AA0{cs:List AV}(h:cs.all AA1=true):cs.map borrow1=cs:=by
 induction cs with
 | nil=>rfl
 | cons c cs ih =>
  simp only [List.all_cons,AQ] at h
  rw [List.map_cons,ih h.2]
  congr 1
  have h1:=h.1
  cases c<;>try rfl
  rename_i w es
  cases w
  ·rfl
  ·simp [AA1] at h1
def Wn(P:Program)(e:TypeId)(mt ln:Bool)(H:FP)(a:AV)(xs:List AV):Option (AV×FP) :=
 if xs.all (λx=>x.cells.length==P.cellsOf e)=true then
  match mt,a with
  | false,.sl own es=>if own=some (P.cellsOf e)/\(es.length+xs.length)*P.bytesOf e<=140737488355328/\es.length+xs.length<=9223372036854775807 then some (.sl (bif ln then none else some (P.cellsOf e)) (es++xs),H) else none
  | true,.msl ob off len sz=>match H[ob]? with
   | some (some cs)=>if off=0/\cs.length=len*sz/\cs.all AA1=true/\sz=P.cellsOf e/\(len+xs.length)*P.bytesOf e<=140737488355328/\len+xs.length<=9223372036854775807 then
     some (.msl H.length 0 (len+xs.length) (P.cellsOf e),H.set ob none++[some (cs++(HU xs).map borrow1)]) else none
   | _=>none
  | true,.sl (some 0) []=>if 0<xs.length/\xs.length*P.bytesOf e<=140737488355328/\xs.length<=9223372036854775807 then some (.msl H.length 0 xs.length (P.cellsOf e),H++[some ((HU xs).map borrow1)]) else none
  | _,_=>none
 else none
def jP{P:Program}{e:TypeId}{mt ln:Bool}{H:FP}{a:AV}{xs:List AV}{v:AV}{H':FP}{R:AV->FP->Prop}(h:Wn P e mt ln H a xs=some (v,H'))(hr:R v H'):Nv P e mt ln H a xs R:=by
 unfold Wn at h
 unfold Nv
 obtain ⟨h0,h⟩:=KH h
 refine ⟨qx h0, ?_⟩
 split at h
 ·obtain ⟨⟨h1,h2,h3⟩,h⟩:=KH h
  cases h
  exact ⟨h1,h2,h3,hr⟩
 ·split at h
  ·rename_i hob
   obtain ⟨⟨h1,h2,h3,h4,h5,h6⟩,h⟩:=KH h
   cases h
   refine ⟨h1,h4,h5,h6, ?_⟩
   simp only [hob]
   exact ⟨h2,AA0 h3,hr⟩
  ·cases h
 ·obtain ⟨⟨h1,h2,h3⟩,h⟩:=KH h
  cases h
  exact ⟨h1,h2,h3,hr⟩
 ·cases h
def ABR(k:IntKind):AV->Bool
 | .int k' _=>decide (k'=k)
 | _=>false
def AIY:AV->Bool
 | .str _=>true
 | _=>false
def qI(P:Program)(wk:List TypeId)(kt:TypeId)(ks:List AV):Bool :=
 match P.underlying kt with
 | some (.int k)=>ks.all (ABR k)
 | some .string=>ks.all AIY
 | some _=>wk.contains kt&&ks.all λa=>match Sq a with
  | some v=>(keyOf P kt v).isSome
  | none=>false
 | none=>false
def bQ(P:Program)(wk:List TypeId):Prop:=∀ kt∈wk,WideMaps.KeyLaw P kt
def fg{P:Program}{wk:List TypeId}{kt:TypeId}{ks:List AV}(hw:bQ P wk)(h:qI P wk kt ks=true):MW P kt ks:=by
 unfold qI at h
 split at h
 ·rename_i k hk
  refine ⟨_,KLaw.plain hk,λa ha=>?_⟩
  have:=An.1 h a ha
  cases a<;>first|cases this|skip
  rename_i k' n
  exact ⟨_,rfl,(by simpa [ABR] using this:k'=k)⟩
 ·rename_i hk
  refine ⟨_,KLaw.plain hk,λa ha=>?_⟩
  have:=An.1 h a ha
  cases a<;>first|cases this|skip
  exact ⟨_,rfl,tV⟩
 ·simp only [AQ] at h
  refine ⟨_,KLaw.wide (hw kt (by simpa using h.1)),λa ha=>?_⟩
  have:=An.1 h.2 a ha
  split at this
  ·rename_i v hv
   exact ⟨v,hv,Option.isSome_iff_exists.1 this⟩
  ·cases this
 ·cases h
def ZD(es:List (AV×AV)):Bool:=match es with
 | []=>true
 | p::es=>es.all (λq => !Ht p.1 q.1)&&ZD es
def WN{es:List (AV×AV)}(h:ZD es=true):Rm es:=by
 induction es with
 | nil=>exact List.Pairwise.nil
 | cons p es ih =>
  simp only [ZD,AQ] at h
  exact List.Pairwise.cons (λq hq=>by simpa using An.1 h.1 q hq) (ih h.2)
def bI(P:Program)(t:TypeId)(H:FP)(x:AV):Option (AV×FP) :=
 match P.underlying t,x with
 | some .string,.str s=>some (.it H.length,H++[some (V2 s 0)])
 | some (.map _ _),.nilm=>some (.it H.length,H++[some [.nilm]])
 | some (.map _ _),.mapr o'=>match Im H (.mapr o') with
  | some es=>some (.it H.length,H++[some (Tg o' es.length [])])
  | none=>none
 | _,_=>none
def oN{P:Program}{t:TypeId}{H:FP}{x v:AV}{H':FP}{R:AV->FP->Prop}(h:bI P t H x=some (v,H'))(hr:R v H'):Qx P t H x R:=by
 unfold bI at h
 unfold Qx
 split at h
 ·rename_i hu;simp only [hu];cases h;exact hr
 ·rename_i hu;simp only [hu];cases h;exact hr
 ·rename_i hu
  simp only [hu]
  split at h
  ·rename_i es he
   simp only [he];cases h;exact hr
  ·cases h
 ·cases h
def SL(n:Nat)(seen:List AV):List Nat:=(Am n).filter λi => !(SN seen).contains (i:Int)
def oU(str:Bool)(H:FP)(o':Nat):Option (AV×FP) :=
 match str,H[o']? with
 | true,some (some [.str s,.int .i64 pos]) =>
  if pos.toNat<s.size then some (.tup [.bool true,.int .i64 pos.toNat,.int .i32 (Utf8.decode s pos.toNat).1],H.set o' (some (V2 s ((pos.toNat+(Utf8.decode s pos.toNat).2:Nat):Int))))
  else some (.tup [.bool false],H)
 | false,some (some [.nilm])=>some (.tup [.bool false],H)
 | false,some (some [.mapr m,.int .i64 since,.tup seen])=>match Im H (.mapr m) with
  | some es=>if since=es.length then match SL es.length seen with
   | []=>some (.tup [.bool false],H)
   | [i]=>match es[i]? with
    | some p=>some (.tup [.bool true,p.1.borrow,p.2.borrow],H.set o' (some [.mapr m,.int .i64 since,.tup (seen++[.int .i64 i])]))
    | none=>none
   | _=>none
   else none
  | none=>none
 | _,_=>none
def QW{n:Nat}{seen:List AV}{i:Nat}:i∈SL n seen↔i<n/\(i:Int)∉SN seen:=by
 simp [SL,List.mem_filter]
def yG{str:Bool}{H:FP}{o':Nat}{v:AV}{H':FP}{R:AV->FP->Prop}(h:oU str H o'=some (v,H'))(hr:R v H'):Wi str H o' R:=by
 unfold oU at h
 unfold Wi
 split at h
 ·rename_i ho
  simp only [ho]
  split at h
  ·rename_i hc;rw [iP hc];cases h;exact hr
  ·rename_i hc;rw [iN hc];cases h;exact hr
 ·rename_i ho;simp only [ho];cases h;exact hr
 ·rename_i m since seen ho
  simp only [ho]
  split at h
  ·rename_i es he
   simp only [he]
   obtain ⟨hs,h⟩:=KH h
   refine ⟨hs, ?_⟩
   split at h
   ·rename_i hun
    cases h
    refine ⟨λ_=>hr,λi p hp hns=>?_⟩
    have:i∈SL es.length seen:=QW.2 ⟨(AC.1 hp).1,hns⟩
    rw [hun] at this;cases this
   ·rename_i i hun
    have hi:i∈SL es.length seen:=by rw [hun];exact Ac.2 rfl
    obtain ⟨hi1,hi2⟩:=QW.1 hi
    split at h
    ·rename_i p hp
     cases h
     refine ⟨λhall=>absurd (hall i hi1) hi2,λj q hq hns=>?_⟩
     have:j∈SL es.length seen:=QW.2 ⟨(AC.1 hq).1,hns⟩
     rw [hun] at this
     obtain rfl:=Ac.1 this
     rw [hp] at hq;cases hq
     exact hr
    ·cases h
   ·cases h
  ·cases h
 ·cases h
def bM(H:FP)(o':Nat):Option (AV×FP) :=
 match H[o']? with
 | some (some [.mapr m,.int .i64 since,.tup seen])=>match Im H (.mapr m),seen.getLast? with
  | some es,some (.int .i64 i)=>if since=es.length then match es[i.toNat]? with
   | some p=>some (.tup [p.1.borrow,p.2.borrow],H)
   | none=>none
   else none
  | _,_=>none
 | _=>none
def oX{H:FP}{o':Nat}{v:AV}{H':FP}{R:AV->FP->Prop}(h:bM H o'=some (v,H'))(hr:R v H'):S8 H o' R:=by
 unfold bM at h
 unfold S8
 split at h
 ·rename_i m since seen ho
  simp only [ho]
  split at h
  ·rename_i es i he hl
   simp only [he,hl]
   obtain ⟨hs,h⟩:=KH h
   refine ⟨hs, ?_⟩
   split at h
   ·rename_i p hp
    cases h
    exact ⟨p,hp,hr⟩
   ·cases h
  ·cases h
 ·cases h
def qu(P:Program)(wk:List TypeId)(h:Ee)(o:Oper)(vals:List AV)(H:FP):Option (AV×FP) :=
 match o.op,vals with
 | .move _,[a]=>some (a,H)
 | .assign _,[a]=>some (a,H)
 | .pick _ _ _,[.bool c,a,b]=>some (if c=true then a else b,H)
 | .box _ _,[a]=>if a.isVal=true then some (.ptr H.length 0,H++[some a.cells]) else none
 | .alloc e,[]=>match o.dst.any h.mt.contains,Fi P e with
  | false,some z=>some (.ptr H.length 0,H++[some z.cells])
  | _,_=>none
 | .build t ps,vs=>(SK P t (ps.toList.map (·.1)) vs).map λv=>(v,H)
 | .buildSlice t len ps,vs =>
  match P.underlying t with
  | some (.slice e)=>if 0<P.cellsOf e/\len*P.cellsOf e<=16777216/\ps.toList.map (·.1)=Am len/\vs.all (λv=>v.isVal&&v.cells.length==P.cellsOf e)=true/\Gj P e=true then
    match o.dst.any h.mt.contains with
    | true=>some (.msl H.length 0 len (P.cellsOf e),H++[some (HU (vs.map AV.borrow))])
    | false=>some (.sl (some (P.cellsOf e)) (vs.map AV.borrow),H)
   else none
  | _=>none
 | .makeSlice t _ _,[.int _ n,.int _ c] =>
  match P.underlying t with
  | some (.slice e)=>if n=c/\0<=n/\n*P.bytesOf e<=140737488355328/\n<=9223372036854775807/\(P.info? e).isSome=true then
    match Fi P e with
    | some z=>if z.cells.length=P.cellsOf e/\0<P.cellsOf e then some (.msl H.length 0 n.toNat (P.cellsOf e),H++[some (List.replicate n.toNat z.cells).flatten]) else none
    | none=>none
   else none
  | _=>none
 | .load t _,[a]=>YV P (o.dst.any h.tk.contains) t a H
 | .store t _ _,[a,v]=>(Uw P t a v H).map λH'=>(.undef,H')
 | .nilCheck _,[a]=>(zC a).map λv=>(v,H)
 | .binOp op t _ y _,[a,b]=>match Ks y with
  | true=>(Z5 P op t a).map λv=>(v,H)
  | false=>(bO P op t a b).map λv=>(v,H)
 | .unOp op _ _,[a]=>(vUn op a).map λv=>(v,H)
 | .convert src dst _,[a] =>
  match P.underlying src,P.underlying dst,a with
  | some _,some (.int k),.int _ n=>some (.int k (k.wrap n),H)
  | some .string,some .string,.str s=>some (.str s,H)
  | some (.slice e),some .string,.sl _ es=>if (match P.underlying e with|some (.int .u8)=>true|_=>false)=true/\es.all Ol=true then some (.str (Pj es),H) else none
  | _,_,_=>none
 | .makeFunc fn first _,vs=>some (.fn fn (vs.take first.size) (vs.drop first.size),H)
 | .slice t _ lo hi mx,x::rest =>
  match Pk lo.isSome hi.isSome mx.isSome rest with
  | some (l,hh,m)=>match o.dst.any h.mt.contains with
   | true=>(Wg P t x l hh m H).map λv=>(v,H)
   | false=>(bE P t x l hh m).map λv=>(v,H)
  | none=>none
 | .fieldAddr s _ f,[x]=>(SJ P (fieldAt P s f) x).map λv=>(v,H)
 | .field t _ f,[x]=>(YU P (fieldAt P t f) x).map λv=>(v,H)
 | .extract _ i,[x]=>(OO x i).map λv=>(v,H)
 | .indexAddr t _ _,[x,i]=>(Lo P (P.underlying t) x i).map λv=>(v,H)
 | .index t _ _,[x,i]=>(Ux P (P.underlying t) x i).map λv=>(v,H)
 | .makeMap _ none,[]=>some (.mapr H.length,H++[some (J1 [])])
 | .range t _,[x]=>bI P t H x
 | .next _ str,[.it o']=>oU str H o'
 | .entry _,[.it o']=>bM H o'
 | .lookup t _ _ ok,[m,k] =>
  match P.underlying t with
  | some (.map kt et)=>match Im H m with
   | some es=>if qI P wk kt (k::es.map (·.1))=true/\ZD es=true then
     match Fi P et with
     | some z=>some (fH ok z (JD k es 0),H)
     | none=>none
    else none
   | none=>none
  | _=>none
 | .mapUpdate t _ _ _,[.mapr o',k,v] =>
  match P.underlying t with
  | some (.map kt _)=>match Im H (.mapr o') with
   | some es=>if qI P wk kt (k::es.map (·.1))=true/\ZD es=true/\v.isVal=true then some (.undef,H.set o' (some (J1 (MU es k v)))) else none
   | none=>none
  | _=>none
 | .call c,vs =>
  match c.callee with
  | .builtin .len=>match vs with
   | [x]=>(zD (c.argTypes[0]?.bind P.underlying) x).map λv=>(v,H)
   | _=>none
  | .builtin .append=>match vs,c.argTypes.toList with
   | [a,b],[t,t']=>if t=t' then match P.underlying t with
    | some (.slice e)=>if 0<P.cellsOf e/\Gj P e=true then match S5 P e (o.dst.any h.mt.contains||o.dst.any h.tk.contains) H b with
     | some xs=>Wn P e (o.dst.any h.mt.contains) (o.dst.any h.pc.contains) H a xs
     | none=>none
     else none
    | _=>none
    else none
   | _,_=>none
  | .builtin .min=>match vs with
   | [.int k a,.int k' b]=>if k=k' then some (.int k (if b<a then b else a),H) else none
   | _=>none
  | .builtin .max=>match vs with
   | [.int k a,.int k' b]=>if k=k' then some (.int k (if b>a then b else a),H) else none
   | _=>none
  | .builtin .clear=>match vs,c.argTypes.toList with
   | [.msl ob off len sz],[t]=>match P.underlying t with
    | some (.slice e)=>match H[ob]?,Fi P e with
     | some (some cs),some z=>if sz=z.cells.length/\0<len/\off+len*sz<=cs.length then some (.tup [],H.set ob (some (splice cs off (Ga z len)))) else none
     | _,_=>none
    | _=>none
   | _,_=>none
  | _=>none
 | _,_=>none
def Mt{α β:Type}{x:Option α}{f:α->β}{y:β}(h:x.map f=some y): ∃ a,x=some a/\f a=y:=by
 cases x with
 | none=>cases h
 | some a=>exact ⟨a,rfl,by simpa using h⟩
set_option maxHeartbeats 1000000 in
def ADI{P:Program}{wk:List TypeId}(hw:bQ P wk){h:Ee}{o:Oper}{vals:List AV}{H:FP}{v:AV}{H':FP}{R:AV->FP->Prop}(hx:qu P wk h o vals H=some (v,H'))(hr:R v H'):Fd P h o vals H R:=by
 unfold qu at hx
 split at hx<;>rename_i heq
 ·cases hx;simp only [Fd,heq];exact hr
 ·cases hx;simp only [Fd,heq];exact hr
 ·cases hx;simp only [Fd,heq];exact hr
 ·obtain ⟨h1,h2⟩:=KH hx
  cases h2;simp only [Fd,heq];exact ⟨h1,hr⟩
 ·split at hx
  ·rename_i z hm hz
   cases hx;simp only [Fd,heq,hm];exact ⟨z,hz,hr⟩
  ·cases hx
 ·obtain ⟨a,h1,h2⟩:=Mt hx
  cases h2
  unfold SK at h1
  simp only [Fd,heq]
  split at h1
  ·rename_i fs hu
   simp only [hu]
   obtain ⟨g1,h1⟩:=KH h1
   split at h1
   ·rename_i z hz
    obtain ⟨cs,g2,rfl⟩:=Mt h1
    exact ⟨z,cs,g1,hz,g2,hr⟩
   ·cases h1
  ·rename_i n e hu
   simp only [hu]
   obtain ⟨g1,h1⟩:=KH h1
   split at h1
   ·rename_i z hz
    obtain ⟨cs,g2,rfl⟩:=Mt h1
    exact ⟨z,cs,g1,hz,g2,hr⟩
   ·cases h1
  ·cases h1
 ·split at hx
  ·rename_i e hu
   obtain ⟨⟨g1,g2,g3,g4,g5⟩,hx⟩:=KH hx
   simp only [Fd,heq,hu]
   refine ⟨g1,g2,g3,λx hx'=>?_,g5, ?_⟩
   ·have:=An.1 g4 x hx'
    simpa using this
   ·split at hx
    ·rename_i hm
     cases hx;simp only [hm];exact hr
    ·rename_i hm
     cases hx;simp only [hm];exact hr
  ·cases hx
 ·split at hx
  ·rename_i e hu
   obtain ⟨⟨g1,g2,g3,g4,g5⟩,hx⟩:=KH hx
   split at hx
   ·rename_i z hz
    obtain ⟨⟨g6,g7⟩,hx⟩:=KH hx
    cases hx
    simp only [Fd,heq,hu]
    exact ⟨g1,g2,g3,g4,g5,z,hz,g6,g7,hr⟩
   ·cases hx
  ·cases hx
 · -- load
  unfold YV at hx
  split at hx
  ·split at hx
   ·rename_i cs hob
    split at hx
    ·rename_i x hl
     split at hx
     ·rename_i htk
      obtain ⟨⟨g1,g2⟩,hx⟩:=KH hx
      cases hx
      simp only [Fd,heq,hob,hl,htk]
      exact ⟨g1,g2,hr⟩
     ·rename_i htk
      cases hx
      simp only [Fd,heq,hob,hl,htk]
      exact hr
    ·cases hx
   ·cases hx
  ·split at hx
   ·rename_i x hl
    cases hx
    simp only [Fd,heq,hl]
    exact hr
   ·cases hx
  ·cases hx
 · -- store
  obtain ⟨a,h1,h2⟩:=Mt hx
  cases h2
  unfold Uw at h1
  split at h1
  ·split at h1
   ·rename_i cs hob
    obtain ⟨⟨g1,g2,g3,g4⟩,h1⟩:=KH h1
    cases h1
    simp only [Fd,heq,hob]
    exact ⟨g1,g2,g3,g4,hr⟩
   ·cases h1
  ·cases h1
 ·obtain ⟨a,h1,h2⟩:=Mt hx
  cases h2
  unfold zC at h1
  split at h1<;>cases h1<;>(simp only [Fd,heq];exact hr)
 ·split at hx
  ·rename_i hn
   obtain ⟨a,h1,h2⟩:=Mt hx
   cases h2
   simp only [Fd,heq,hn]
   exact mB h1 hr
  ·rename_i hn
   obtain ⟨a,h1,h2⟩:=Mt hx
   cases h2
   simp only [Fd,heq,hn]
   exact oZ h1 hr
 ·obtain ⟨a,h1,h2⟩:=Mt hx
  cases h2
  unfold vUn at h1
  split at h1<;>cases h1<;>(simp only [Fd,heq];exact hr)
 ·split at hx
  ·rename_i g1 g2
   cases hx
   simp only [Fd,heq,g1,g2];exact hr
  ·rename_i g1 g2
   cases hx
   simp only [Fd,heq,g1,g2];exact hr
  ·rename_i g1 g2
   obtain ⟨⟨g3,g4⟩,hx⟩:=KH hx
   cases hx
   simp only [Fd,heq,g1,g2]
   refine ⟨?_,λx hx'=>An.1 g4 x hx',hr⟩
   split at g3
   ·assumption
   ·cases g3
  ·cases hx
 ·cases hx;simp only [Fd,heq];exact hr
 ·split at hx
  ·rename_i hb
   split at hx
   ·rename_i hm
    obtain ⟨a,h1,h2⟩:=Mt hx
    cases h2
    simp only [Fd,heq,hb,hm]
    exact jB h1 hr
   ·rename_i hm
    obtain ⟨a,h1,h2⟩:=Mt hx
    cases h2
    simp only [Fd,heq,hb,hm]
    exact oL h1 hr
  ·cases hx
 ·obtain ⟨a,h1,h2⟩:=Mt hx
  cases h2
  unfold SJ fieldAt at h1
  simp only [Fd,heq]
  split at h1
  ·rename_i fd hfd
   split at hfd
   ·rename_i fs hu
    simp only [hu,hfd]
    obtain ⟨g1,h1⟩:=KH h1
    refine ⟨g1, ?_⟩
    unfold rM at h1
    split at h1<;>cases h1<;>exact hr
   ·cases hfd
  ·cases h1
 ·obtain ⟨a,h1,h2⟩:=Mt hx
  cases h2
  unfold YU fieldAt at h1
  split at h1
  ·rename_i fd cs hfd
   split at hfd
   ·rename_i fs hu
    simp only [Fd,heq,hu,hfd,h1]
    exact hr
   ·cases hfd
  ·cases h1
 ·obtain ⟨a,h1,h2⟩:=Mt hx
  cases h2
  unfold OO at h1
  split at h1
  ·simp only [Fd,heq]
   exact ⟨_,h1,hr⟩
  ·cases h1
 ·obtain ⟨a,h1,h2⟩:=Mt hx
  cases h2
  unfold Lo at h1
  split at h1
  ·split at h1
   ·rename_i e own es hu
    obtain ⟨g1,h1⟩:=KH h1
    simp only [Fd,heq,hu]
    obtain ⟨x,g2,h1⟩:=CF.1 h1
    obtain ⟨⟨g3,g4⟩,h1⟩:=KH h1
    cases h1
    exact ⟨g1,x,g2,g3,g4,hr⟩
   ·rename_i hu
    obtain ⟨⟨g1,g2,g3,g4⟩,h1⟩:=KH h1
    cases h1
    simp only [Fd,heq,hu]
    exact ⟨g1,g2,g3,g4,hr⟩
   ·rename_i hu
    obtain ⟨⟨g1,g2,g3⟩,h1⟩:=KH h1
    cases h1
    simp only [Fd,heq,hu]
    exact ⟨g1,g2,g3,hr⟩
   ·rename_i hu
    obtain ⟨⟨g1,g2,g3⟩,h1⟩:=KH h1
    cases h1
    simp only [Fd,heq,hu]
    exact ⟨g1,g2,g3,hr⟩
   ·cases h1
  ·cases h1
 ·obtain ⟨a,h1,h2⟩:=Mt hx
  cases h2
  unfold Ux at h1
  split at h1
  ·split at h1
   ·rename_i hu
    obtain ⟨⟨g1,g2⟩,h1⟩:=KH h1
    cases h1
    simp only [Fd,heq,hu]
    exact ⟨g1,g2,hr⟩
   ·rename_i hu
    obtain ⟨⟨g1,g2,g3⟩,h1⟩:=KH h1
    simp only [Fd,heq,hu]
    exact ⟨g1,g2,g3,_,h1,hr⟩
   ·cases h1
  ·cases h1
 ·cases hx;simp only [Fd,heq];exact hr
 ·simp only [Fd,heq];exact oN hx hr
 ·simp only [Fd,heq];exact yG hx hr
 ·simp only [Fd,heq];exact oX hx hr
 ·split at hx
  ·rename_i hu
   split at hx
   ·rename_i es he
    obtain ⟨⟨g1,g2⟩,hx⟩:=KH hx
    split at hx
    ·rename_i z hz
     cases hx
     simp only [Fd,heq,hu,he]
     exact ⟨fg hw g1,WN g2,z,hz,hr⟩
    ·cases hx
   ·cases hx
  ·cases hx
 ·split at hx
  ·rename_i hu
   split at hx
   ·rename_i es he
    obtain ⟨⟨g1,g2,g3⟩,hx⟩:=KH hx
    cases hx
    simp only [Fd,heq,hu,he]
    exact ⟨fg hw g1,WN g2,g3,hr⟩
   ·cases hx
  ·cases hx
 ·rename_i c
  split at hx
  ·rename_i hcal
   split at hx
   ·obtain ⟨a,h1,h2⟩:=Mt hx
    cases h2
    unfold zD at h1
    split at h1<;>cases h1<;>(rename_i hu;simp only [Fd,heq,hcal,hu];exact hr)
   ·cases hx
  ·rename_i hcal
   split at hx
   ·rename_i hat
    obtain ⟨g0,hx⟩:=KH hx
    split at hx
    ·rename_i e hu
     obtain ⟨⟨g1,g2⟩,hx⟩:=KH hx
     split at hx
     ·rename_i xs hs
      simp only [Fd,heq,hcal,hat,iP g0,hu,hs]
      exact ⟨g1,g2,jP hx hr⟩
     ·cases hx
    ·cases hx
   ·cases hx
  ·rename_i hcal
   split at hx
   ·obtain ⟨g1,hx⟩:=KH hx
    cases hx
    simp only [Fd,heq,hcal]
    exact ⟨g1,hr⟩
   ·cases hx
  ·rename_i hcal
   split at hx
   ·obtain ⟨g1,hx⟩:=KH hx
    cases hx
    simp only [Fd,heq,hcal]
    exact ⟨g1,hr⟩
   ·cases hx
  ·rename_i hcal
   split at hx
   ·rename_i hat
    split at hx
    ·rename_i e hu
     split at hx
     ·rename_i cs z ho hz
      obtain ⟨⟨g1,g2,g3⟩,hx⟩:=KH hx
      cases hx
      simp only [Fd,heq,hcal,hat,hu,ho]
      exact ⟨z,hz,g1,g2,g3,hr⟩
     ·cases hx
    ·cases hx
   ·cases hx
  ·cases hx
 ·cases hx
end Go.AI
namespace Go.AI
inductive Task where
 | call (f:FuncId) (vs:List AV) (H:FP)
 | yld (o:Nat) (L:LoopRec) (ys:List AV) (H:FP)
 | code (hf:FuncId) (n:Nat) (ar:Option Nat) (c:Code) (e:Fs) (H:FP)
 | ops (hf:FuncId) (n:Nat) (os:Array Oper) (l:List Oper) (e:Fs) (H:FP)
inductive ROut where
 | val (v:AV) (H:FP)
 | st (ex:Exit) (e:Fs) (H:FP)
structure EvT where
 tb:FuncId->Option Func
 hs:FuncId->Ee
 wk:List TypeId
 orc:FuncId->List AV->FP->Option (AV×FP)
def Na(H:FP)(o:Nat):Option (Int×List AV) :=
 match H[o]? with
 | some (some [.tup [.int .i64 st],.tup av])=>some (st,av)
 | _=>none
def PU{H:FP}{o:Nat}{st:Int}{av:List AV}(h:Na H o=some (st,av)):H[o]? =some (some (G8 st av)):=by
 unfold Na at h
 split at h
 ·rename_i hh;cases h;exact hh
 ·cases h
def dS(P:Program)(n:Nat):List ResultVar->Fs->FP->Option (List AV×FP)
 | [],_,H=>some ([],H)
 | .tmp t::rs,e,H=>if t<n then (dS P n rs (NB P none true (.tmp t) e).2 H).map λr=>((NB P none true (.tmp t) e).1::r.1,r.2) else none
 | .cell t ty::rs,e,H=>if t<n then match pX P ty (Fq e t) H with
   | some (v,H')=>(dS P n rs e H').map λr=>(v::r.1,r.2)
   | none=>none
  else none
def zp:List AV->Option AV
 | [v]=>some v
 | vs=>if vs.all AV.isVal=true then some (.tup vs) else none
def bG(ar:Option Nat)(H:FP):Bool :=
 match ar with
 | none=>true
 | some o=>match H[o]? with
  | some (some _)=>true
  | _=>false
def ATE(n:Nat):Option Tmp->Bool
 | some d=>decide (d<n)
 | none=>true
def U3(P:Program)(T:EvT)(ih:Task->Option ROut)(f:FuncId)(vs:List AV)(H:FP):Option ROut :=
 match T.orc f vs H with
 | some (v,H')=>some (.val v H')
 | none=>match T.tb f with
  | some fn=>match fn.body with
   | some c=>if vs.length<=fn.ntmps then
     match ih (.code f fn.ntmps none c (GQ 0 vs) H) with
     | some (.st .normal e H')=>(dS P fn.ntmps fn.results.toList e H').bind λr=>(zp r.1).map λv => .val v r.2
     | some (.st .ret e H')=>(dS P fn.ntmps fn.results.toList e H').bind λr=>(zp r.1).map λv => .val v r.2
     | _=>none
    else none
   | none=>none
  | none=>none
def Zf(T:EvT)(ih:Task->Option ROut)(o:Nat)(L:LoopRec)(ys:List AV)(H:FP):Option ROut :=
 match T.tb L.tag,Na H o with
 | some fn,some (st,av) =>
  if st=0/\av.length=fn.ntmps/\L.ps.toList.length=ys.length/\L.ps.toList.all (λp=>decide (p<fn.ntmps))=true/\GZ (T.hs L.tag) L.assign=true/\GZ (T.hs L.tag) L.body=true then
   match ih (.code L.tag fn.ntmps (some o) L.assign (K3 av L.ps.toList ys (GQ 0 av)) H) with
   | some (.st .normal e2 H2)=>match Na H2 o with
    | some (st2,av2)=>if st2=0 then
      match ih (.code L.tag fn.ntmps (some o) L.body e2 (H2.set o (some (G8 (-1) av2)))) with
      | some (.st ex _ H3)=>match Na H3 o with
       | some (st3,av3)=>if st3 = -1 then match ex with
         | .normal=>some (.val (.bool true) (H3.set o (some (G8 0 av3))))
         | .ret=>some (.val (.bool false) (H3.set o (some (G8 (-2) av3))))
         | .exit k=>some (.val (.bool false) (H3.set o (some (G8 ((k:Int)+1) av3))))
         | _=>none
        else none
       | none=>none
      | _=>none
     else none
    | none=>none
   | _=>none
  else none
 | _,_=>none
def oP(P:Program)(h:Ee)(o o':Oper)(e:Fs):Bool :=
 match KD P h o,KD P h o' with
 | some (a,k,s),some (b,l,s')=>(s||s')&&match Fq e a,Fq e b with
  | .ptr o1 f1,.ptr o2 f2 => !(o1==o2)||(decide (f1+k<=f2)||decide (f2+l<=f1))
  | _,_=>false
 | _,_=>false
def Abi(P:Program)(h:Ee)(ops:Array Oper)(e:Fs):Bool:=(Rk h ops).all λp=>oP P h p.1 p.2 e
def K2(P:Program)(T:EvT)(ih:Task->Option ROut)(hf:FuncId)(n:Nat)(ar:Option Nat)(c:Code)(e:Fs)(H:FP):Option ROut :=
 match c with
 | .skip=>some (.st .normal e H)
 | .ret=>some (.st .ret e H)
 | .exit id=>some (.st (.exit id) e H)
 | .region id ops _=>match ih (.ops hf n ops ((T.hs hf).ord id ops) e H) with
  | some (.st .normal e1 H1) =>
   if (!((T.hs hf).da id)||Abi P (T.hs hf) ops e1)=true then
    match Kb ((T.hs hf).at id) (Hh ((T.hs hf).lv id) e1) H1 with
    | (e2,H2)=>some (.st .normal e2 (T5 ((T.hs hf).ct id) e2 H2))
   else none
  | _=>none
 | .seq a b=>match ih (.code hf n ar a e H) with
  | some (.st .normal e1 H1)=>ih (.code hf n ar b e1 H1)
  | r=>r
 | .cond c a b=>match G7 P none e c with
  | .bool t=>if t=true then ih (.code hf n ar a e H) else ih (.code hf n ar b e H)
  | _=>none
 | .block id c=>match ih (.code hf n ar c e H) with
  | some (.st (.exit j) e1 H1)=>if j=id then some (.st .normal e1 H1) else some (.st (.exit j) e1 H1)
  | r=>r
 | .loop c=>match ih (.code hf n ar c e H) with
  | some (.st .normal e1 H1)=>ih (.code hf n ar (.loop c) e1 H1)
  | r=>r
 | .rangeFunc g ps assign body=>match G7 P none e g with
  | .fn (.func f) first captured=>if bG ar H=true then
    match ih (.call f (first.map AV.borrow++[.yld H.length ⟨hf,ps,assign,body⟩]++captured.map AV.borrow) (H++[some (G8 0 (Ha n e))])) with
    | some (.val _ H2)=>match Na H2 H.length with
     | some (st,_)=>if st=0 then some (.st .normal e (H2.set H.length none)) else if st = -2 then some (.st .ret e (H2.set H.length none)) else
       if 0<st then some (.st (.exit (st - 1).toNat) e (H2.set H.length none)) else none
     | none=>none
    | _=>none
   else none
  | _=>none
 | _=>none
mutual
def IS:AV->AV->Bool
 | .int k n,b=>match b with | .int k' n'=>decide (k=k')&&n==n'|_=>false
 | .bool x,b=>match b with | .bool y=>x==y|_=>false
 | .str s,b=>match b with | .str t=>s.data.toList==t.data.toList|_=>false
 | .nilp,b=>match b with | .nilp=>true|_=>false
 | .ptr o x,b=>match b with | .ptr o' x'=>o==o'&&x==x'|_=>false
 | .cptr cs x,b=>match b with | .cptr cs' x'=>OR cs cs'&&x==x'|_=>false
 | .sl w es,b=>match b with | .sl w' es'=>w==w'&&OR es es'|_=>false
 | .msl o x l z,b=>match b with | .msl o' x' l' z'=>o==o'&&(x==x'&&(l==l'&&z==z'))|_=>false
 | .fn (.func f) x y,b=>match b with | .fn (.func f') x' y'=>f==f'&&(OR x x'&&OR y y')|_=>false
 | .nilf,b=>match b with | .nilf=>true|_=>false
 | .mapr o,b=>match b with | .mapr o'=>o==o'|_=>false
 | .nilm,b=>match b with | .nilm=>true|_=>false
 | .it o,b=>match b with | .it o'=>o==o'|_=>false
 | .nili,b=>match b with | .nili=>true|_=>false
 | .agg x,b=>match b with | .agg y=>OR x y|_=>false
 | .tup x,b=>match b with | .tup y=>OR x y|_=>false
 | .undef,b=>match b with | .undef=>true|_=>false
 | _,_=>false
def OR:List AV->List AV->Bool
 | [],l=>match l with|[]=>true|_=>false
 | a::x,l=>match l with|b::y=>IS a b&&OR x y|_=>false
end
mutual
def zd : ∀ (a b:AV),IS a b=true->a=b
 | .int k n,b,h=>by cases b<;>simp_all [IS]
 | .bool x,b,h=>by cases b<;>simp_all [IS]
 | .str s,b,h=>by
  cases b<;>simp [IS] at h
  rename_i t
  rw [ByteArray.ext h]
 | .nilp,b,h=>by cases b<;>simp_all [IS]
 | .ptr o x,b,h=>by cases b<;>simp_all [IS]
 | .cptr cs x,b,h=>by
  cases b<;>simp [IS] at h
  rw [JL _ _ h.1,h.2]
 | .sl w es,b,h=>by
  cases b<;>simp [IS] at h
  rw [JL _ _ h.2,h.1]
 | .msl o x l z,b,h=>by cases b<;>simp_all [IS]
 | .fn (.func f) x y,b,h=>by
  cases b with
  | fn g x' y' =>
   cases g<;>simp [IS] at h
   rw [JL _ _ h.2.1,JL _ _ h.2.2,h.1]
  | _=>simp [IS] at h
 | .nilf,b,h=>by cases b<;>simp_all [IS]
 | .mapr o,b,h=>by cases b<;>simp_all [IS]
 | .nilm,b,h=>by cases b<;>simp_all [IS]
 | .it o,b,h=>by cases b<;>simp_all [IS]
 | .nili,b,h=>by cases b<;>simp_all [IS]
 | .agg x,b,h=>by
  cases b<;>simp [IS] at h
  rw [JL _ _ h]
 | .tup x,b,h=>by
  cases b<;>simp [IS] at h
  rw [JL _ _ h]
 | .undef,b,h=>by cases b<;>simp_all [IS]
 | .yld o L,b,h=>by simp [IS] at h
 | .ifc t a,b,h=>by simp [IS] at h
 | .fn f x y,b,h=>by
  cases f with
  | func f =>
   cases b with
   | fn g x' y' =>
    cases g<;>simp [IS] at h
    rw [JL _ _ h.2.1,JL _ _ h.2.2,h.1]
   | _=>simp [IS] at h
  | _=>simp [IS] at h
def JL : ∀ (x y:List AV),OR x y=true->x=y
 | [],l,h=>by cases l<;>simp_all [OR]
 | a::x,l,h=>by
  cases l<;>simp [OR] at h
  rw [zd _ _ h.1,JL _ _ h.2]
end
def dm:FP->FP->Bool
 | [],_=>true
 | a::H,l=>match l with
  | b::H'=>(match a,b with
   | some x,some y=>OR x y
   | none,none=>true
   | _,_=>false)&&dm H H'
  | []=>false
def dl : ∀ (H H':FP),dm H H'=true -> ∃ ext,H'=H++ext
 | [],H',_=>⟨H',rfl⟩
 | a::H,l,h=>by
  cases l with
  | nil=>simp [dm] at h
  | cons b H' =>
   simp only [dm,AQ] at h
   obtain ⟨ext,rfl⟩:=dl H H' h.2
   refine ⟨ext, ?_⟩
   have h1:=h.1
   cases a<;>cases b<;>simp at h1
   ·rfl
   ·rw [JL _ _ h1];rfl
def UZ(T:EvT)(ih:Task->Option ROut)(hf:FuncId)(o:Oper)(vals:List AV)(H:FP):Option (AV×FP) :=
 match vals with
 | .fn (.func f) first captured::args =>
  match o.dst.any (T.hs hf).pc.contains with
  | true=>if A' (first.map AV.borrow++args++captured.map AV.borrow)=true then match ih (.call f (first.map AV.borrow++args++captured.map AV.borrow) []) with
    | some (.val v _)=>if v.pure=true then some (v,H) else none
    | _=>none
   else none
  | false=>match ih (.call f (first.map AV.borrow++args++captured.map AV.borrow) H) with
   | some (.val v H')=>if (!o.dst.any (T.hs hf).mt.contains||dm H H')=true then some (v,H') else none
   | _=>none
 | .yld o' L::args =>
  match o.dst.any (T.hs hf).pc.contains||o.dst.any (T.hs hf).mt.contains with
  | true=>none
  | false=>match ih (.yld o' L args H) with
   | some (.val v H')=>some (v,H')
   | _=>none
 | _=>none
def Ui(o:Oper):Bool :=
 match o.op with
 | .call c=>match c.callee with
  | .value _=>true
  | _=>false
 | _=>false
def Zg(P:Program)(T:EvT)(ih:Task->Option ROut)(hf:FuncId)(n:Nat)(os:Array Oper)(l:List Oper)(e:Fs)(H:FP):Option ROut :=
 match l with
 | []=>some (.st .normal e H)
 | o::l=>match kc os e o with
  | some true=>if ATE n o.dst=true then
    match ON P (HV o) (Fz (T.hs hf) o) o.op.operands.toList e with
    | (vals,e1)=>match (match Ui o with
      | true=>UZ T ih hf o vals H
      | false=>qu P T.wk (T.hs hf) o vals H) with
     | some (v,H')=>ih (.ops hf n os l (put o.dst v e1) H')
     | none=>none
   else none
  | some false=>if ATE n o.dst=true then ih (.ops hf n os l (put o.dst (.tup []) e) H) else none
  | none=>none
def AGp(P:Program)(T:EvT)(ih:Task->Option ROut):Task->Option ROut
 | .call f vs H=>U3 P T ih f vs H
 | .yld o L ys H=>Zf T ih o L ys H
 | .code hf n ar c e H=>K2 P T ih hf n ar c e H
 | .ops hf n os l e H=>Zg P T ih hf n os l e H
noncomputable def XL(P:Program)(T:EvT)(k:Nat):Task->Option ROut:=Nat.rec (λ_=>none) (λ_ ih t=>AGp P T ih t) k
structure EvOk (P:Program) (T:EvT):Prop where
 mixed:P.follows .mixedOrders=true
 wide:bQ P T.wk
 fn : ∀ f fn,T.tb f=some fn->P.funcs[f]? =some fn/\HW P f=true/\fn.body.any (GZ (T.hs f))=true/\(T.hs f).gc=[]
 orc : ∀ f vs H v H',T.orc f vs H=some (v,H')->FV P f vs H λv2 H2=>v2=v/\H2=H'
def Q5(P:Program)(T:EvT):Task->ROut->Prop
 | .call f vs H,.val v H'=>FV P f vs H λv2 H2=>v2=v/\H2=H'
 | .yld o L ys H,.val v H'=>L8 P o L ys H λv2 H2=>v2=v/\H2=H'
 | .code hf n ar c e H,.st ex e' H'=>I7 P n (T.hs hf) ar c (λex2 e2 H2=>ex2=ex/\e2=e'/\H2=H') e H
 | .ops hf n os l e H,.st ex e' H'=>ex = .normal/\LL P n (T.hs hf) os l (λe2 H2=>e2=e'/\H2=H') e H
 | _,_=>False
section
variable {P:Program} {T:EvT}
def xu{h:Ee}{o o':Oper}{e:Fs}(hb:oP P h o o' e=true):KC P h o o' e:=by
 unfold oP at hb
 unfold KC
 generalize KD P h o=x at hb ⊢
 generalize KD P h o'=y at hb ⊢
 cases x with
 | none=>cases hb
 | some x=>cases y with
  | none=>cases hb
  | some y =>
   obtain ⟨a,k,s⟩:=x
   obtain ⟨b,l,s'⟩:=y
   dsimp only at hb ⊢
   simp only [AQ,CH] at hb
   obtain ⟨h1,h2⟩:=hb
   refine ⟨h1, ?_⟩
   generalize Fq e a=u at h2 ⊢
   generalize Fq e b=w at h2 ⊢
   cases u<;>first|(cases h2;done)|skip
   cases w<;>first|(cases h2;done)|skip
   simpa using h2
def AFf{h:Ee}{ops:Array Oper}{e:Fs}(hb:Abi P h ops e=true):Jg P h ops e:=λp hp=>xu (An.1 hb p hp)
def Ub{n:Nat}{K:List AV->FP->Prop}: ∀ {rs:List ResultVar} {e:Fs} {H:FP} {vs:List AV} {H':FP},dS P n rs e H=some (vs,H')->K vs H'->dU P n rs e H λvs _ H=>K vs H
 | [],e,H,vs,H',h,hk=>by cases h;exact hk
 | .tmp t::rs,e,H,vs,H',h,hk=>by
  simp only [dS] at h
  obtain ⟨h1,h⟩:=KH h
  obtain ⟨r,h2,h3⟩:=Mt h
  cases h3
  exact ⟨h1,Ub (K:=λvs H=>K ((NB P none true (.tmp t) e).1::vs) H) h2 hk⟩
 | .cell t ty::rs,e,H,vs,H',h,hk=>by
  simp only [dS] at h
  obtain ⟨h1,h⟩:=KH h
  split at h
  ·rename_i v H1 hv
   obtain ⟨r,h2,h3⟩:=Mt h
   cases h3
   rw [dR]
   refine ⟨h1, ?_⟩
   rw [hv]
   exact Ub (K:=λvs H=>K (v::vs) H) h2 hk
  ·cases h
def pm{K:AV->FP->Prop}{vs:List AV}{v:AV}{H:FP}(h:zp vs=some v)(hk:K v H):QP K vs H:=by
 unfold zp at h
 unfold QP
 split at h
 ·cases h;exact hk
 ·rename_i hne
  obtain ⟨h1,h2⟩:=KH h
  cases h2
  split
  ·exact absurd rfl (hne _)
  ·exact ⟨λx hx=>An.1 h1 x hx,hk⟩
def oM{ar:Option Nat}{H:FP}(h:bG ar H=true):bH ar H:=by
 unfold bG at h
 unfold bH
 split at h
 ·trivial
 ·split at h
  ·rename_i cs hcs;exact ⟨cs,hcs⟩
  ·cases h
def qY{n:Nat}{d:Option Tmp}(h:ATE n d=true):Gi n d:=by
 cases d with
 | none=>trivial
 | some d=>exact (of_decide_eq_true h:d<n)
def N1{f:FuncId}{vs:List AV}{v:AV}(hc:FV P f vs [] λv2 _=>v2=v)(hp:A' vs=true)(hv:v.pure=true):FQ P f vs v:=λH =>
 ⟨hc.1,λF G w us hcr=>Calls.mono (hc.2 _ _ w us (hcr.hide (ID hp))) λe w' he=>by
  obtain ⟨u,rfl,v',H2,G',rfl,hcr',hext⟩:=he
  obtain ⟨h1,h2⟩:=hcr.unhide hv hcr' hext
  exact ⟨u,rfl,_,H,_,⟨rfl,rfl⟩,h1,h2⟩⟩
def rW(E:EvOk P T){ih:Task->Option ROut}(hih : ∀ t out,ih t=some out->Q5 P T t out){f:FuncId}{vs:List AV}{H:FP}{out:ROut}(h:U3 P T ih f vs H=some out):Q5 P T (.call f vs H) out:=by
 unfold U3 at h
 split at h
 ·rename_i v H1 ho
  cases h
  exact E.orc f vs H v H1 ho
 ·split at h
  ·rename_i fn hfn
   obtain ⟨e1,e2,e3,e4⟩:=E.fn f fn hfn
   split at h
   ·rename_i c hb
    obtain ⟨hn,h⟩:=KH h
    have fin : ∀ (ex:Exit) (e:Fs) (H':FP),(ex = .normal\/ex = .ret)->ih (.code f fn.ntmps none c (GQ 0 vs) H)=some (.st ex e H') ->
      ((dS P fn.ntmps fn.results.toList e H').bind λr=>(zp r.1).map λv=>ROut.val v r.2)=some out->Q5 P T (.call f vs H) out:=by
     intro ex e H' hex hi hr
     obtain ⟨r,h1,h2⟩:=CF.1 hr
     obtain ⟨v,h3,h4⟩:=Mt h2
     subst h4
     refine kW (T.hs f) e4 E.mixed e3 e1 hb e2 hn (GX c _ _ _ _ (λex2 e2 H2 hq=>?_) (hih _ _ hi))
     obtain ⟨rfl,rfl,rfl⟩:=hq
     rcases hex with rfl|rfl
     ·exact Ub (K:=λvs H=>QP _ vs H) h1 (pm h3 ⟨rfl,rfl⟩)
     ·exact Ub (K:=λvs H=>QP _ vs H) h1 (pm h3 ⟨rfl,rfl⟩)
    split at h
    ·rename_i hi;exact fin _ _ _ (.inl rfl) hi h
    ·rename_i hi;exact fin _ _ _ (.inr rfl) hi h
    ·cases h
   ·cases h
  ·cases h
def zP(E:EvOk P T){ih:Task->Option ROut}(hih : ∀ t out,ih t=some out->Q5 P T t out){o:Nat}{L:LoopRec}{ys:List AV}{H:FP}{out:ROut}(h:Zf T ih o L ys H=some out):Q5 P T (.yld o L ys H) out:=by
 unfold Zf at h
 split at h
 ·rename_i fn st av hfn hlo
  obtain ⟨e1,e2,e3,e4⟩:=E.fn _ fn hfn
  have h':=KH h
  clear h
  obtain ⟨⟨rfl,g2,g3,g4,g5,g6⟩,h⟩:=h'
  cases hi:ih (.code L.tag fn.ntmps (some o) L.assign (K3 av L.ps.toList ys (GQ 0 av)) H) with
  | none=>rw [hi] at h;cases h
  | some q =>
   rw [hi] at h
   cases q with
   | val v H'=>cases h
   | st ex0 e2 H2 =>
    cases ex0 with
    | normal =>
     dsimp only at h
     cases hlo2:Na H2 o with
     | none=>rw [hlo2] at h;cases h
     | some q2 =>
      obtain ⟨st2,av2⟩:=q2
      rw [hlo2] at h
      dsimp only at h
      have h':=KH h
      clear h
      obtain ⟨rfl,h⟩:=h'
      cases hi3:ih (.code L.tag fn.ntmps (some o) L.body e2 (H2.set o (some (G8 (-1) av2)))) with
      | none=>rw [hi3] at h;cases h
      | some q3 =>
       rw [hi3] at h
       cases q3 with
       | val v H'=>cases h
       | st ex e3 H3 =>
        dsimp only at h
        cases hlo3:Na H3 o with
        | none=>rw [hlo3] at h;cases h
        | some q4 =>
         obtain ⟨st3,av3⟩:=q4
         rw [hlo3] at h
         dsimp only at h
         have h':=KH h
         clear h
         obtain ⟨rfl,h⟩:=h'
         obtain ⟨tag,ps,assign,body⟩:=L
         have main : ∀ (v:AV) (H':FP),out = .val v H'->(∀ R:AV->FP->Prop,R v H'->match (generalizing:=false) ex with
           | .normal=>R (.bool true) (H3.set o (some (G8 0 av3)))
           | .ret=>R (.bool false) (H3.set o (some (G8 (-2) av3)))
           | .exit k=>R (.bool false) (H3.set o (some (G8 ((k:Int)+1) av3)))
           | _=>False)->Q5 P T (.yld o ⟨tag,ps,assign,body⟩ ys H) out:=by
          intro v H' he hR
          subst he
          refine Jv E.mixed e4 ⟨g5,g6⟩ (λp hp=>of_decide_eq_true (An.1 g4 p hp)) ys H _ av (PU hlo) g2 g3 (GX assign _ _ _ _ (λex2 e4 H4 hq=>?_) (hih _ _ hi))
          obtain ⟨rfl,rfl,rfl⟩:=hq
          refine ⟨rfl,av2,PU hlo2,GX body _ _ _ _ (λex5 e5 H5 hq=>?_) (hih _ _ hi3)⟩
          obtain ⟨rfl,rfl,rfl⟩:=hq
          exact ⟨av3,PU hlo3,hR (λv2 H2=>v2=v/\H2=H') ⟨rfl,rfl⟩⟩
         cases ex with
         | normal=>cases h;exact main _ _ rfl λR hr=>hr
         | ret=>cases h;exact main _ _ rfl λR hr=>hr
         | exit k=>cases h;exact main _ _ rfl λR hr=>hr
         | _=>cases h
    | _=>cases h
 ·cases h
def zQ (E:EvOk P T) {ih:Task->Option ROut} (hih : ∀ t out,ih t=some out->Q5 P T t out) {hf:FuncId} {o:Oper} (ho:Ui o=true) {vals:List AV} {H:FP} {v:AV} {H':FP} (h:UZ T ih hf o vals H=some (v,H'))
  {R:AV->FP->Prop} (hr:R v H'):Fd P (T.hs hf) o vals H R:=by
 obtain ⟨dst,op,ty,pos,after,guard⟩:=o
 cases op<;>first|cases ho|skip
 rename_i c
 obtain ⟨callee,args0,ts⟩:=c
 cases callee<;>first|cases ho|skip
 rename_i fo
 unfold UZ at h
 cases vals with
 | nil=>cases h
 | cons a args =>
  cases a<;>first|cases h|skip
  case fn f first captured =>
   cases f<;>first|cases h|skip
   rename_i f
   dsimp only at h
   cases hb:(Cr (T.hs hf).pc.contains dst) with
   | true =>
    rw [hb] at h
    dsimp only at h
    have h':=KH h
    clear h
    obtain ⟨hp,h⟩:=h'
    cases hi:ih (.call f (first.map AV.borrow++args++captured.map AV.borrow) []) with
    | none=>rw [hi] at h;cases h
    | some q =>
     rw [hi] at h
     cases q with
     | st _ _ _=>cases h
     | val v1 H1 =>
      dsimp only at h
      have h':=KH h
      clear h
      obtain ⟨hpv,h⟩:=h'
      cases h
      have hpc:FQ P f (first.map AV.borrow++args++captured.map AV.borrow) v:=N1 (FV.mono (show FV P f _ [] (λv2 H2=>v2=v/\H2=H1) from hih _ _ hi) λ_ _ hq=>hq.1) hp hpv
      simp only [Fd,hb]
      cases hmt:Cr (T.hs hf).mt.contains dst with
      | true=>exact ⟨v,.inl λH2 _=>hpc H2,hr⟩
      | false=>exact ⟨v,hpc,hr⟩
   | false =>
    rw [hb] at h
    dsimp only at h
    cases hi:ih (.call f (first.map AV.borrow++args++captured.map AV.borrow) H) with
    | none=>rw [hi] at h;cases h
    | some q =>
     rw [hi] at h
     cases q with
     | st _ _ _=>cases h
     | val v1 H1 =>
      dsimp only at h
      have h':=KH h
      clear h
      obtain ⟨hpf,h⟩:=h'
      cases h
      have hA:FV P f (first.map AV.borrow++args++captured.map AV.borrow) H (λv2 H2=>v2=v/\H2=H'):=hih _ _ hi
      simp only [Fd,hb]
      cases hmt:Cr (T.hs hf).mt.contains dst with
      | true =>
       rw [hmt,Bool.not_true,Bool.false_or] at hpf
       obtain ⟨ext,rfl⟩:=dl _ _ hpf
       exact ⟨v,ext,hA,hr⟩
      | false=>exact hA.mono λv2 H2 hq=>by obtain ⟨rfl,rfl⟩:=hq;exact hr
  case yld o' L =>
   dsimp only at h
   cases hb:(Cr (T.hs hf).pc.contains dst||Cr (T.hs hf).mt.contains dst) with
   | true=>rw [hb] at h;cases h
   | false =>
    rw [hb] at h
    rw [Bool.or_eq_false_iff] at hb
    dsimp only at h
    cases hi:ih (.yld o' L args H) with
    | none=>rw [hi] at h;cases h
    | some q =>
     rw [hi] at h
     cases q with
     | st _ _ _=>cases h
     | val v1 H1 =>
      cases h
      simp only [Fd]
      exact ⟨⟨hb.1,hb.2⟩,L8.mono (show L8 P o' L args H (λv2 H2=>v2=v/\H2=H') from hih _ _ hi) λv2 H2 hq=>by obtain ⟨rfl,rfl⟩:=hq;exact hr⟩
def zR(E:EvOk P T){ih:Task->Option ROut}(hih : ∀ t out,ih t=some out->Q5 P T t out){hf:FuncId}{n:Nat}{os:Array Oper}{l:List Oper}{e:Fs}{H:FP}{out:ROut}(h:Zg P T ih hf n os l e H=some out):Q5 P T (.ops hf n os l e H) out:=by
 unfold Zg at h
 cases l with
 | nil=>cases h;exact ⟨rfl,rfl,rfl⟩
 | cons o l =>
  have next : ∀ {e1:Fs} {H1:FP},ih (.ops hf n os l e1 H1)=some out -> ∃ e' H',out = .st .normal e' H'/\LL P n (T.hs hf) os l (λe2 H2=>e2=e'/\H2=H') e1 H1:=λhi=>by
   have hg:=hih _ _ hi
   cases out with
   | val v H'=>exact hg.elim
   | st ex e' H'=>obtain ⟨rfl,hg⟩:=hg;exact ⟨e',H',rfl,hg⟩
  dsimp only at h
  cases hag:kc os e o with
  | none=>rw [hag] at h;cases h
  | some b =>
   rw [hag] at h
   cases b with
   | false =>
    dsimp only at h
    obtain ⟨hd,h⟩:=KH h
    obtain ⟨e',H',rfl,hg⟩:=next h
    refine ⟨rfl, ?_⟩
    show Ic P n (T.hs hf) os o _ e H
    unfold Ic
    rw [hag]
    exact ⟨qY hd,hg⟩
   | true =>
    dsimp only at h
    have h':=KH h
    clear h
    obtain ⟨hd,h⟩:=h'
    cases hv:(match Ui o with
      | true=>UZ T ih hf o (ON P (HV o) (Fz (T.hs hf) o) o.op.operands.toList e).1 H
      | false=>qu P T.wk (T.hs hf) o (ON P (HV o) (Fz (T.hs hf) o) o.op.operands.toList e).1 H) with
    | none=>rw [hv] at h;cases h
    | some q =>
     obtain ⟨v,H1⟩:=q
     rw [hv] at h
     obtain ⟨e',H',rfl,hg⟩:=next h
     refine ⟨rfl, ?_⟩
     show Ic P n (T.hs hf) os o _ e H
     unfold Ic
     rw [hag]
     refine ⟨qY hd, ?_⟩
     cases hval:Ui o with
     | true=>rw [hval] at hv;exact zQ E hih hval hv hg
     | false=>rw [hval] at hv;exact ADI E.wide hv hg
def rV(E:EvOk P T){ih:Task->Option ROut}(hih : ∀ t out,ih t=some out->Q5 P T t out){hf:FuncId}{n:Nat}{ar:Option Nat}{c:Code}{e:Fs}{H:FP}{out:ROut}(h:K2 P T ih hf n ar c e H=some out):Q5 P T (.code hf n ar c e H) out:=by
 have part : ∀ {c:Code} {e:Fs} {H:FP} {out:ROut},ih (.code hf n ar c e H)=some out -> ∃ ex e' H',out = .st ex e' H'/\I7 P n (T.hs hf) ar c (λex2 e2 H2=>ex2=ex/\e2=e'/\H2=H') e H:=λ{c e H out} hi=>by
  have hg:=hih _ _ hi
  cases out with
  | val v H'=>exact hg.elim
  | st ex e' H'=>exact ⟨ex,e',H',rfl,hg⟩
 cases c with
 | skip=>cases h;exact ⟨rfl,rfl,rfl⟩
 | ret=>cases h;exact ⟨rfl,rfl,rfl⟩
 | exit id=>cases h;exact ⟨rfl,rfl,rfl⟩
 | region id ops draw =>
  simp only [K2] at h
  cases hi:ih (.ops hf n ops ((T.hs hf).ord id ops) e H) with
  | none=>rw [hi] at h;cases h
  | some q =>
   rw [hi] at h
   have hg:=hih _ _ hi
   cases q with
   | val v H'=>cases h
   | st ex e1 H1 =>
    obtain ⟨rfl,hg⟩:=hg
    dsimp only at h
    obtain ⟨hdy,h⟩:=KH h
    cases h
    refine Qw _ _ _ _ _ (λe2 H2 hq=>?_) hg
    obtain ⟨rfl,rfl⟩:=hq
    refine ⟨λhd=>?_,rfl,rfl,rfl⟩
    rw [hd] at hdy
    exact AFf (by simpa using hdy)
 | seq a b =>
  simp only [K2] at h
  cases hi:ih (.code hf n ar a e H) with
  | none=>rw [hi] at h;cases h
  | some q =>
   rw [hi] at h
   obtain ⟨ex,e1,H1,rfl,hg⟩:=part hi
   have other:ex ≠ .normal->out = .st ex e1 H1->Q5 P T (.code hf n ar (.seq a b) e H) out:=λhne he=>by
    subst he
    refine GX a _ _ _ _ (λex2 e2 H2 hq=>?_) hg
    obtain ⟨rfl,rfl,rfl⟩:=hq
    cases ex2<;>first|exact absurd rfl hne|exact ⟨rfl,rfl,rfl⟩
   cases ex with
   | normal =>
    dsimp only at h
    obtain ⟨ex',e',H',rfl,hg2⟩:=part h
    refine GX a _ _ _ _ (λex2 e2 H2 hq=>?_) hg
    obtain ⟨rfl,rfl,rfl⟩:=hq
    exact hg2
   | _=>cases h;exact other sm rfl
 | cond c a b =>
  simp only [K2] at h
  cases hc:G7 P none e c with
  | bool t =>
   rw [hc] at h
   dsimp only at h
   have hg : ∃ ex e' H',out = .st ex e' H'/\I7 P n (T.hs hf) ar (if t=true then a else b) (λex2 e2 H2=>ex2=ex/\e2=e'/\H2=H') e H:=by
    cases t with
    | true=>exact part h
    | false=>exact part h
   obtain ⟨ex,e',H',rfl,hg⟩:=hg
   show I7 P n (T.hs hf) ar (.cond c a b) _ e H
   simp only [I7,hc]
   cases t with
   | true=>exact hg
   | false=>exact hg
  | _=>rw [hc] at h;cases h
 | block id c =>
  simp only [K2] at h
  cases hi:ih (.code hf n ar c e H) with
  | none=>rw [hi] at h;cases h
  | some q =>
   rw [hi] at h
   obtain ⟨ex,e1,H1,rfl,hg⟩:=part hi
   cases ex with
   | exit j =>
    dsimp only at h
    by_cases hj:j=id
    ·rw [iP hj] at h
     cases h
     refine GX c _ _ _ _ (λex2 e2 H2 hq=>?_) hg
     obtain ⟨rfl,rfl,rfl⟩:=hq
     dsimp only
     rw [iP hj]
     exact ⟨rfl,rfl,rfl⟩
    ·rw [iN hj] at h
     cases h
     refine GX c _ _ _ _ (λex2 e2 H2 hq=>?_) hg
     obtain ⟨rfl,rfl,rfl⟩:=hq
     dsimp only
     rw [iN hj]
     exact ⟨rfl,rfl,rfl⟩
   | _ =>
    cases h
    refine GX c _ _ _ _ (λex2 e2 H2 hq=>?_) hg
    obtain ⟨rfl,rfl,rfl⟩:=hq
    exact ⟨rfl,rfl,rfl⟩
 | loop c =>
  simp only [K2] at h
  cases hi:ih (.code hf n ar c e H) with
  | none=>rw [hi] at h;cases h
  | some q =>
   rw [hi] at h
   obtain ⟨ex,e1,H1,rfl,hg⟩:=part hi
   have other:ex ≠ .normal->out = .st ex e1 H1->Q5 P T (.code hf n ar (.loop c) e H) out:=λhne he=>by
    subst he
    refine ⟨λe' H'=>e'=e/\H'=H,λ_ _=>0,⟨rfl,rfl⟩,λe' H' hI=>?_⟩
    obtain ⟨rfl,rfl⟩:=hI
    refine GX c _ _ _ _ (λex2 e2 H2 hq=>?_) hg
    obtain ⟨rfl,rfl,rfl⟩:=hq
    cases ex2<;>first|exact absurd rfl hne|exact ⟨rfl,rfl,rfl⟩
   cases ex with
   | normal =>
    dsimp only at h
    obtain ⟨ex',e',H',rfl,I,μ,hI,hr⟩:=part h
    classical
    by_cases hold:I e H
    ·exact ⟨I,μ,hold,hr⟩
    ·refine ⟨λe2 H2=>(e2=e/\H2=H)\/I e2 H2,λe2 H2=>if e2=e/\H2=H then μ e1 H1+1 else μ e2 H2,.inl ⟨rfl,rfl⟩,λe2 H2 hI2=>?_⟩
     have hne : ∀ {e3:Fs} {H3:FP},I e3 H3 -> ¬ (e3=e/\H3=H):=λh3 hh=>hold (by rw [<- hh.1,<- hh.2];exact h3)
     by_cases hat:e2=e/\H2=H
     ·obtain ⟨rfl,rfl⟩:=hat
      refine GX c _ _ _ _ (λex2 e3 H3 hq=>?_) hg
      obtain ⟨rfl,rfl,rfl⟩:=hq
      dsimp only
      refine ⟨.inr hI, ?_⟩
      rw [iN (hne hI),iP ⟨rfl,rfl⟩]
      omega
     ·have hI3:I e2 H2:=hI2.resolve_left hat
      refine GX c _ _ _ _ (λex2 e3 H3 hq=>?_) (hr e2 H2 hI3)
      cases ex2 with
      | normal =>
       refine ⟨.inr hq.1, ?_⟩
       dsimp only
       rw [iN hat,iN (hne hq.1)]
       exact hq.2
      | _=>exact hq
   | _=>cases h;exact other sm rfl
 | rangeFunc g ps assign body =>
  simp only [K2] at h
  cases hg:G7 P none e g with
  | fn f first captured =>
   rw [hg] at h
   cases f with
   | func f =>
    dsimp only at h
    have h':=KH h
    clear h
    obtain ⟨har,h⟩:=h'
    cases hi:ih (.call f (first.map AV.borrow++[.yld H.length ⟨hf,ps,assign,body⟩]++captured.map AV.borrow) (H++[some (G8 0 (Ha n e))])) with
    | none=>rw [hi] at h;cases h
    | some q =>
     rw [hi] at h
     have hc:=hih _ _ hi
     cases q with
     | st _ _ _=>cases h
     | val v H2 =>
      dsimp only at h
      cases hlo:Na H2 H.length with
      | none=>rw [hlo] at h;cases h
      | some q2 =>
       obtain ⟨st,av⟩:=q2
       rw [hlo] at h
       dsimp only at h
       have fin : ∀ ex:Exit,out = .st ex e (H2.set H.length none)->(∀ Q:Exit->Kt,Q ex e (H2.set H.length none)->(st=0/\Q .normal e (H2.set H.length none))\/(st = -2/\Q .ret e (H2.set H.length none)) \/ ∃ k:Nat,st=(k:Int)+1/\Q (.exit k) e (H2.set H.length none)) ->
         Q5 P T (.code hf n ar (.rangeFunc g ps assign body) e H) out:=by
        intro ex he hQ
        subst he
        refine ⟨oM har,hf,f,first,captured,hg,FV.mono (show FV P f _ _ (λv2 H3=>v2=v/\H3=H2) from hc) λv2 H3 hq=>?_⟩
        obtain ⟨rfl,rfl⟩:=hq
        exact ⟨st,av,PU hlo,hQ (λex2 e2 H2'=>ex2=ex/\e2=e/\H2'=_) ⟨rfl,rfl,rfl⟩⟩
       by_cases h0:st=0
       ·rw [iP h0] at h
        cases h;exact fin _ rfl λQ hq => .inl ⟨h0,hq⟩
       ·rw [iN h0] at h
        by_cases h2:st = -2
        ·rw [iP h2] at h
         cases h;exact fin _ rfl λQ hq => .inr (.inl ⟨h2,hq⟩)
        ·rw [iN h2] at h
         have h':=KH h
         clear h
         obtain ⟨hp,h⟩:=h'
         cases h
         exact fin _ rfl λQ hq => .inr (.inr ⟨(st - 1).toNat,FO,hq⟩)
   | _=>cases h
  | _=>rw [hg] at h;cases h
 | _=>cases h
def lK(E:EvOk P T): ∀ (k:Nat) (t:Task) (out:ROut),XL P T k t=some out->Q5 P T t out
 | 0,t,out,h=>by cases h
 | k+1,t,out,h=>by
  have hih:=lK E k
  have h:AGp P T (XL P T k) t=some out:=h
  cases t with
  | call f vs H=>exact rW E hih h
  | yld o L ys H=>exact zP E hih h
  | code hf n ar c e H=>exact rV E hih h
  | ops hf n os l e H=>exact zR E hih h
def FV.run(E:EvOk P T)(k:Nat){f:FuncId}{vs:List AV}{H:FP}{v:AV}{H':FP}(h:XL P T k (.call f vs H)=some (.val v H')):FV P f vs H λv2 H2=>v2=v/\H2=H':=lK E k _ _ h
def FQ.run(E:EvOk P T)(k:Nat){f:FuncId}{vs:List AV}{v:AV}(hp:A' vs=true)(hv:v.pure=true)(h:(match XL P T k (.call f vs []) with|some (.val v2 _)=>some v2|_=>none)=some v):FQ P f vs v:=by
 cases hr:XL P T k (.call f vs []) with
 | none=>rw [hr] at h;cases h
 | some q =>
  rw [hr] at h
  cases q with
  | st _ _ _=>cases h
  | val v2 H2 =>
   cases h
   exact N1 ((FV.run E k hr).mono λ_ _ hq=>hq.1) hp hv
end
end Go.AI
namespace Go.AI
inductive ETree where
 | nil
 | node (l:ETree) (k:Nat) (fn:Func) (h:Ee) (r:ETree)
def ETree.find:ETree->Nat->Option (Func×Ee)
 | .nil,_=>none
 | .node l k fn h r,f=>bif CI f k then some (fn,h) else bif Nat.blt f k then l.find f else r.find f
def Fh(P:Program)(f:Nat)(fn:Func)(h:Ee):Prop:=P.funcs[f]? =some fn/\HW P f=true/\fn.body.any (GZ h)=true/\h.gc=[]
def ETree.All(P:Program):ETree->Prop
 | .nil=>True
 | .node l k fn h r=>l.All P/\Fh P k fn h/\r.All P
def Mh{P:Program}: ∀ {t:ETree} {f:Nat} {fn:Func} {h:Ee},t.All P->t.find f=some (fn,h)->Fh P f fn h
 | .nil,f,fn,h,_,hf=>by cases hf
 | .node l k fn' h' r,f,fn,h,ha,hf=>by
  simp only [ETree.find] at hf
  cases hb:CI f k with
  | true =>
   rw [hb] at hf
   cases hf
   have:=DF hb
   subst this
   exact ha.2.1
  | false =>
   rw [hb] at hf
   cases hl:Nat.blt f k with
   | true=>rw [hl] at hf;exact Mh ha.1 hf
   | false=>rw [hl] at hf;exact Mh ha.2.2 hf
def AIK:Ee:=⟨[],[],[],[],[],[],[]⟩
abbrev Orc:=FuncId->List AV->FP->Option (AV×FP)
def AGu:Orc:=λ_ _ _=>none
def rB(P:Program)(o:Orc):Prop:=∀ f vs H v H',o f vs H=some (v,H')->FV P f vs H λv2 H2=>v2=v/\H2=H'
def AAo(P:Program):rB P AGu:=λ_ _ _ _ _ h=>by cases h
def ETree.evt(t:ETree)(wk:List TypeId)(o:Orc):EvT:=⟨λf=>(t.find f).map (·.1),λf=>((t.find f).map (·.2)).getD AIK,wk,o⟩
def ETree.ok{P:Program}{t:ETree}{wk:List TypeId}{o:Orc}(hm:P.follows .mixedOrders=true)(hw:bQ P wk)(ho:rB P o)(ha:t.All P):EvOk P (t.evt wk o):=by
 refine ⟨hm,hw,λf fn hf=>?_,ho⟩
 obtain ⟨⟨fn',h⟩,h1,rfl⟩:=Mt hf
 have hh:(t.evt wk o).hs f=h:=by simp only [ETree.evt,h1];rfl
 rw [hh]
 exact Mh ha h1
open Go.Proofs
def GU{P:Program}{n:Nat}{f:Func}{h:Ee}(g:P.funcs[n]? =some f)(c:HW P n=true := by kernel_rfl)(d:f.body.any (GZ h)=true := by kernel_rfl)(e:h.gc=[] := by rfl):Fh P n f h:=⟨g,c,d,e⟩
noncomputable def e5:Ee:=hx [1,2,6,6,30,122,506,4090,24570,122874,516090,2088954,0x800000000000000000000000000a9202,1,2789890,6984194,15372802,1] [124,137,138,141,142,146,152,157] [31] [(1,[(1,some 5,true)]),(3,[(2,some 5,true)])] [51,60] [] []
def AgA:Fh AA 5 f5 e5:=GU func5
noncomputable def e6:Ee:=hx [90,2138,6234,481036343386,0xf00000185a,481036367962,481036449882,563430989805658,481036343386,481036343386,137242,399386,923674,0x20000000000e181a,923674,1972250,4069402,8263706,121509914,0x10000000000000000033e181a,1792,20846618,0x3800000000000000000003e181a,0x7800000000000000000003e181a,0x3800000000000000000103e181a,0x3800000000000000000703e181a,0x1003800000000000000000303e181a,0x3800000000000000000b03e181a,0x100003800000000000000000b03e181a,0x3800000000000000000003e181a,0x3800000000000000001903e181a,0x3800000000000000001903e181a,0x3800000000000000000003e181a,0x3800000000000000000003e181a,0x8000000000000000000000000000000000000e181a,1792,1792] [82,97,101,103,125,168,169,170] [] [(36,[(9,none,false)])] [131,158] [] []
def Af9:Fh AA 6 f6 e6:=GU func6
noncomputable def e9:Ee:=hm [206,462,8640,960,448,2097344,1,192] [15,16] [] []
def Af8:Fh AA 9 f9 e9:=GU func9
noncomputable def e11:Ee:=hm [3,1027,16,35,16419,35,33554467,16,16] [] [] []
def AbX:Fh AA 11 f11 e11:=GU func11
noncomputable def e12:Ee:=hm [6,7170,15362,7362,7490,2104642,48,7170,48] [] [] []
def AbW:Fh AA 12 f12 e12:=GU func12
noncomputable def e16:Ee:=hx [1,3,3,3,917507,1966083,917519,917507,917507,240518168579,515396075523,240518168627,240518168579,240518168579,3,1] [26,43] [63] [(2,[(1,some 0,true)])] [53] [] []
def AbH:Fh AA 16 f16 e16:=GU func16
noncomputable def e17:Ee:=hm [2,18,65554,12,34,4194338,12,8589934594,12,66,412316860482,962072674370,412316860610,412316860866,70781061038530,12,412316860482,0x38000000000002,0x78000000000002,0x38000000000602,0x38000000000a02,0x4038000000000a02,12,0x38000000000002,0x80000000000000000,12,12] [] [] []
def Aa7:Fh AA 17 f17 e17:=GU func17
noncomputable def e18:Ee:=hx [2,4] [] [] [(1,[(2,none,false)])] [] [] []
def Aa1:Fh AA 18 f18 e18:=GU func18
noncomputable def e19:Ee:=hm [14,776,4294968072,192,1288,240518169864,515396076808,240518173960,240518182152,31026843755784,66211215844616,31026843788552,31026843755784,31026843755784,0x200003800000508,0xa00003800000508,0x200003800010508,0x200003800000508,240518169864,132360,0xc00000000000020500,0x1c00000000000020500,0xc00000000000060500,0x80c00000000000060500,0xc00000000000020500,0xc00000000000020500,192] [42,80,85] [] []
def Aa0:Fh AA 19 f19 e19:=GU func19
noncomputable def e20:Ee:=hx [22,52,116,116,7516192884,16106127476,7516193140,282394100084,7516192884,7516192884,0x700000000000070,0xf00000000000070,0x700000000000470,0x8700000000000470,0x18700000000000470,0x700000000000470,0x200700000000000470,0x700000000000070,0x700000000000070,16] [74] [] [(10,[(6,some 2,true)])] [18] [] []
def Aaz:Fh AA 20 f20 e20:=GU func20
noncomputable def e21:Ee:=hm [3,2051,16,35,32803,35,99,72057594037927971,16,16] [] [] []
def Aas:Fh AA 21 f21 e21:=GU func21
noncomputable def e22:Ee:=hm [3,2051,16,35,32803,35,99,268435491,16,16] [] [] []
def Aam:Fh AA 22 f22 e22:=GU func22
noncomputable def e23:Ee:=hm [6,38,3622,7718,3750,8392358,3622,3622,16] [] [] []
def Aah:Fh AA 23 f23 e23:=GU func23
noncomputable def e24:Ee:=hm [6,1] [3] [] []
def AaY:Fh AA 24 f24 e24:=GU func24
noncomputable def e25:Ee:=hm [28,88,8280,48,24,48] [] [] []
def AaX:Fh AA 25 f25 e25:=GU func25
noncomputable def e26:Ee:=hm [1,17,4,4] [6] [5,7] []
def AaW:Fh AA 26 f26 e26:=GU func26
noncomputable def e27:Ee:=hm [2,18,1810,3858,1874,1874,4196178,12,1810,1810,12] [23,28] [] []
def AaQ:Fh AA 27 f27 e27:=GU func27
noncomputable def e28:Ee:=hm [279,24599,1879072789,4026556437,1879138325,1879269397,122138345493,259577298965,122138869781,122141491221,122140442645,0x400001c70034015,7168,122138345493,1879269397,0xe000000070016015,0x1e000000070016015,0xe000000070816015,0xe000000070816015,0xe000000071816015,0x4000e000000070816015,0xe000000070016015,0xe000000070016015,1879072789,7168] [28,34,49,50,59,61,71,79,85,86] [] []
def AaJ:Fh AA 28 f28 e28:=GU func28
noncomputable def e29:Ee:=hm [28,88,4184,48,24,48] [] [] []
def AaD:Fh AA 29 f29 e29:=GU func29
noncomputable def e30:Ee:=hm [240,256] [] [] []
def AaC:Fh AA 30 f30 e30:=GU func30
noncomputable def e31:Ee:=hm [1,17,4,4] [6] [] []
def AaA:Fh AA 31 f31 e31:=GU func31
noncomputable def e32:Ee:=hm [12,64,48] [] [] []
def AZ4:Fh AA 32 f32 e32:=GU func32
noncomputable def e34:Ee:=hm [56,64] [] [] []
def AZw:Fh AA 34 f34 e34:=GU func34
noncomputable def e38:Ee:=hm [28,280,1080,120,8240,1,16] [] [] []
def AZs:Fh AA 38 f38 e38:=GU func38
noncomputable def e43:Ee:=hm [1,3,5,13,4109,13,13,5,5,1] [] [9] []
def AZr:Fh AA 43 f43 e43:=GU func43
noncomputable def e44:Ee:=hm [1,3,1] [] [] []
def AZq:Fh AA 44 f44 e44:=GU func44
noncomputable def e45:Ee:=hm [2,514,4,67108866,4,1924145348610,4123168604162,1924145348626,9009123400089602,4,1924145348610,0x700000000000002,0xf00000000000002,0x700000000000042,0x4000000700000000000002,4,0x700000000000002,0xe0000000000000000000002,0x1e0000000000000000000002,0xe0000000000000000000102,0x80e0000000000000000000002,4,0xe0000000000000000000002,4] [] [] []
def AZp:Fh AA 45 f45 e45:=GU func45
noncomputable def e46:Ee:=hm [1,513,4,7169,15361,7193,7225,7289,531545,4,68719483905,4,7169,4] [] [] []
def AZo:Fh AA 46 f46 e46:=GU func46
noncomputable def e47:Ee:=hm [14,142,398,16777614,64,1166,4294968462,64,0x800000000084,64,0xe000000000084,8444249301319812,0xe000000001084,0x40e000000000084,64,0xe000000000084,0xe000000000000004,0x1e000000000000004,0xe000000000004004,0xe000000000000004,0xe000000000000004,64] [] [] []
def AZn:Fh AA 47 f47 e47:=GU func47
noncomputable def e48:Ee:=hm [12,108,492,1073741996,16,0x8000000000000c,16,524,0x400000000000020c,16,1032,0x10000000000000000000000000000,16,16] [] [] [42,53]
def AZm:Fh AA 48 f48 e48:=GU func48
noncomputable def e49:Ee:=hx [2,8,1032,24,524312,4,8,4] [20] [] [(1,[(3,some 0,true)]),(6,[(3,some 0,true)])] [] [] []
def AZl:Fh AA 49 f49 e49:=GU func49
noncomputable def e50:Ee:=hm [1,17,4,4] [6] [] []
def AZk:Fh AA 50 f50 e50:=GU func50
noncomputable def e51:Ee:=hm [28,540,16,60,16] [] [] [12,14,19,21,24,25]
def AZj:Fh AA 51 f51 e51:=GU func51
noncomputable def e52:Ee:=hm [2,4] [] [] []
def AZi:Fh AA 52 f52 e52:=GU func52
noncomputable def e53:Ee:=hx [105,768] [10] [12] [] [] [] [2006,2007]
def AZh:Fh AA 53 f53 e53:=GU func53
noncomputable def e54:Ee:=hx [1365,525653,7168,9557,25941,91460,91456,72057594038019392,75072,0x400000000000010500,7168,7168] [21,31,41,60] [] [] [] [] [10,11]
def AZg:Fh AA 54 f54 e54:=GU func54
noncomputable def e55:Ee:=hm [6,2054,16,16] [] [] []
def AZf:Fh AA 55 f55 e55:=GU func55
noncomputable def e56:Ee:=hm [3,387,899,419,65955,16,387,16] [] [] []
def AZe:Fh AA 56 f56 e56:=GU func56
noncomputable def e57:Ee:=hm [62,64] [] [] [30]
def AZd:Fh AA 57 f57 e57:=GU func57
noncomputable def e58:Ee:=hx [105,256] [9] [11] [] [] [] [2006,2007]
def AZc:Fh AA 58 f58 e58:=GU func58
noncomputable def e59:Ee:=hm [3,387,899,419,65955,16,387,16] [] [] []
def AZb:Fh AA 59 f59 e59:=GU func59
noncomputable def e60:Ee:=hm [6,8] [] [] []
def AZa:Fh AA 60 f60 e60:=GU func60
noncomputable def e62:Ee:=hm [30,62,40,1] [] [] []
def AZZ:Fh AA 62 f62 e62:=GU func62
noncomputable def e63:Ee:=hm [63,32827,256,14680115,31457331,14681651,68734158387,14682675,72057594052608051,256,14680115,256] [17] [] [18]
def AZY:Fh AA 63 f63 e63:=GU func63
noncomputable def e67:Ee:=hm [2,4] [] [] []
def AZX:Fh AA 67 f67 e67:=GU func67
noncomputable def e79:Ee:=hm [3,35,7202,15394,7330,7458,67116322,16,7202,7202,16] [10] [] []
def AZW:Fh AA 79 f79 e79:=GU func79
noncomputable def e80:Ee:=hm [2,4] [] [] []
def AZV:Fh AA 80 f80 e80:=GU func80
noncomputable def e81:Ee:=hm [3,35,7202,15394,7330,7458,67116322,16,7202,7202,16] [10] [] []
def AZU:Fh AA 81 f81 e81:=GU func81
noncomputable def e82:Ee:=hm [2,4] [] [] []
def AZT:Fh AA 82 f82 e82:=GU func82
noncomputable def e83:Ee:=hm [7,64] [] [] []
def AZS:Fh AA 83 f83 e83:=GU func83
noncomputable def e84:Ee:=hm [6,16] [] [] []
def AZR:Fh AA 84 f84 e84:=GU func84
noncomputable def e85:Ee:=hm [6,8] [] [] []
def AZQ:Fh AA 85 f85 e85:=GU func85
noncomputable def e87:Ee:=hm [1,9,4] [] [] []
def AZP:Fh AA 87 f87 e87:=GU func87
noncomputable def e88:Ee:=hm [1,1] [] [] []
def AZO:Fh AA 88 f88 e88:=GU func88
noncomputable def e89:Ee:=hm [3,16] [5] [] []
def AZN:Fh AA 89 f89 e89:=GU func89
noncomputable def e90:Ee:=hm [12,17179869196,16,44,549755813932,16,76,35184372088908,16,0x700000000000c,0xf00000000000c,0x700000000010c,0x700000000030c,0x100700000000030c,16,0x700000000050c,0x4000700000000050c,16,0x200000700000000000c,16,0x700000000000c,0x70000000000000000008,0xf0000000000000000008,0x70000000000000001008,0x20000000070000000000000000008,16,0x70000000000000000008,0x200000000000000000000000000000,16,16] [] [] []
def AZM:Fh AA 90 f90 e90:=GU func90
noncomputable def e91:Ee:=hm [9,41,553,16,16] [11] [] []
def AZL:Fh AA 91 f91 e91:=GU func91
noncomputable def e92:Ee:=hm [1,17,4,4] [6] [5,7] []
def AZK:Fh AA 92 f92 e92:=GU func92
noncomputable def e93:Ee:=hm [3,35,4131,16,99,524387,99,227,536871139,99,99,33,16] [13,39] [] []
def AZJ:Fh AA 93 f93 e93:=GU func93
noncomputable def e94:Ee:=hm [6,8] [] [] []
def AZI:Fh AA 94 f94 e94:=GU func94
noncomputable def e95:Ee:=hm [3,16] [5] [] []
def AZH:Fh AA 95 f95 e95:=GU func95
noncomputable def e96:Ee:=hm [6,8] [] [] []
def AZG:Fh AA 96 f96 e96:=GU func96
noncomputable def Abg:Ee:=hm [6,14,526,12,4] [] [] [13,14]
def ATD:Fh AA 101 f101 Abg:=GU func101
noncomputable def Abf:Ee:=hm [6,34,546,16,8192,16,16] [] [] []
def ATC:Fh AA 102 f102 Abf:=GU func102
noncomputable def Abe:Ee:=hm [1,2] [] [] []
def ATB:Fh AA 103 f103 Abe:=GU func103
noncomputable def Abd:Ee:=hm [2,26,262170,786458,4,8590196762,4,4503599627632666,4,0x800000000004001a,0x800000000000001a,4,4] [] [] [8]
def ATA:Fh AA 104 f104 Abd:=GU func104
noncomputable def Abc:Ee:=hm [3,129,48,48] [8] [] []
def AS9:Fh AA 105 f105 Abc:=GU func105
noncomputable def Abb:Ee:=hm [12,44,36,32,16] [] [] []
def AS8:Fh AA 106 f106 Abb:=GU func106
noncomputable def Aba:Ee:=hm [7,64] [] [] []
def AS7:Fh AA 115 f115 Aba:=GU func115
noncomputable def AbZ:Ee:=hm [1,4] [] [] []
def AS6:Fh AA 116 f116 AbZ:=GU func116
noncomputable def AbY:Ee:=hm [449,961,473,8389057,449] [] [] []
def AS5:Fh AA 118 f118 AbY:=GU func118
noncomputable def AbV:Ee:=hm [1,4] [] [] []
def AS4:Fh AA 148 f148 AbV:=GU func148
noncomputable def AbU:Ee:=hm [3,16] [] [] []
def AS3:Fh AA 149 f149 AbU:=GU func149
noncomputable def AbT:Ee:=hm [3,387,899,419,65955,16,387,16] [] [] []
def AS2:Fh AA 150 f150 AbT:=GU func150
noncomputable def AbS:Ee:=hm [28,60,8388636,16,92,67108956,340,2199023255888,1,1,4503599627370512,16,16] [] [] []
def AS1:Fh AA 151 f151 AbS:=GU func151
noncomputable def AbR:Ee:=hm [12,40,16424,16,917512,1966088,917640,135135368,16,8796093939720,16,917512,16] [] [] []
def AS0:Fh AA 152 f152 AbR:=GU func152
noncomputable def AbQ:Ee:=hm [3,35,3618,7714,3746,528034,16,3618,3618,16] [9] [] []
def ASz:Fh AA 156 f156 AbQ:=GU func156
noncomputable def AbP:Ee:=hm [2,4] [] [] []
def ASy:Fh AA 158 f158 AbP:=GU func158
noncomputable def AbO:Ee:=hm [28,1044,52,16436,240,496,67109360,496,536871280,1,4294967312,1,16] [] [] []
def ASx:Fh AA 159 f159 AbO:=GU func159
noncomputable def AbN:Ee:=hm [19,51,3634,7730,3762,3634,3634,16] [9] [] [18,19]
def ASw:Fh AA 164 f164 AbN:=GU func164
noncomputable def AbM:Ee:=hm [28,16] [] [] []
def ASv:Fh AA 165 f165 AbM:=GU func165
noncomputable def AbL:Ee:=hm [6,4] [] [] []
def ASu:Fh AA 166 f166 AbL:=GU func166
noncomputable def AbK:Ee:=hm [2,1024,4,4] [] [] []
def ASt:Fh AA 167 f167 AbK:=GU func167
noncomputable def AbJ:Ee:=hm [12,16] [] [] []
def ASs:Fh AA 168 f168 AbJ:=GU func168
noncomputable def AbI:Ee:=hm [2,10,262154,786442,786442,4,537133066,4,0x400000004000a,4,0x1000000000000004000a,4,0x10000000000000000000004000a,4,0x100000000000000000000000000004000a,4,0x10000000000000000000000000000004000a,0x10000000000000000000000000000000000a,4,4] [] [] []
def ASr:Fh AA 169 f169 AbI:=GU func169
noncomputable def AbG:Ee:=hm [1,4] [] [] []
def ASq:Fh AA 170 f170 AbG:=GU func170
noncomputable def AbF:Ee:=hm [1,4] [] [] []
def ASp:Fh AA 171 f171 AbF:=GU func171
noncomputable def AbE:Ee:=hm [35,64] [12] [] []
def ASo:Fh AA 172 f172 AbE:=GU func172
noncomputable def AbD:Ee:=hx [124,4220,12412,12412,128,528508,128,2147487864,128,17592186048632,17592186044536,0x1000000000000068,128,128,352,0x400000000000000000160,0xc00000000000000000160,128,0x80000000000000000000160,128,1056,128] [] [56] [] [88,90,98,100] [] [12010,12011]
def ASn:Fh AA 173 f173 AbD:=GU func173
noncomputable def AbC:Ee:=hm [25,1049,48,81,65617,48,48] [18] [] [8]
def ASm:Fh AA 174 f174 AbC:=GU func174
noncomputable def AbB:Ee:=hm [12,76,204,108,4194380,16,76,16] [] [] []
def ASl:Fh AA 175 f175 AbB:=GU func175
noncomputable def AbA:Ee:=hm [22,16] [] [] []
def ASk:Fh AA 176 f176 AbA:=GU func176
noncomputable def Aa9:Ee:=hm [78,202,64] [] [] [9,20,26]
def ASj:Fh AA 177 f177 Aa9:=GU func177
noncomputable def Aa8:Ee:=hm [60,1048636,3145788,2147483680,192,192,17180917820,304,192,0x4000000100034,3124,15360,192,0x10000000000000000000034,49172,0x100000000000000000000004014,192,192,327680,192] [78,79,110,125] [] [46,48]
def ASi:Fh AA 179 f179 Aa8:=GU func179
noncomputable def Aa6:Ee:=hm [28,92,220,124,92,92,16] [] [] []
def ASh:Fh AA 180 f180 Aa6:=GU func180
noncomputable def Aa5:Ee:=hm [22,16] [] [] []
def ASg:Fh AA 181 f181 Aa5:=GU func181
noncomputable def Aa4:Ee:=hm [3,4097,48,48] [13] [] []
def ASf:Fh AA 182 f182 Aa4:=GU func182
noncomputable def Aa3:Ee:=hm [3,35,544,96,1,16] [7,8,11] [] []
def ASe:Fh AA 183 f183 Aa3:=GU func183
noncomputable def Aa2:Ee:=hm [21,277,789,115473,246545,117009,127249,115473,549755929361,115473,192] [14,31,32,41] [] []
def ASd:Fh AA 184 f184 Aa2:=GU func184
noncomputable def Aay:Ee:=hm [3,16] [] [] []
def ASc:Fh AA 212 f212 Aay:=GU func212
noncomputable def Aax:Ee:=hm [2,4] [] [] []
def ASb:Fh AA 213 f213 Aax:=GU func213
noncomputable def Aaw:Ee:=hm [3,16] [5] [] []
def ASa:Fh AA 214 f214 Aaw:=GU func214
noncomputable def Aav:Ee:=hm [2,4] [] [] []
def ASZ:Fh AA 215 f215 Aav:=GU func215
noncomputable def Aau:Ee:=hm [3,35,3618,7714,3746,528034,16,3618,3618,16] [9] [] []
def ASY:Fh AA 216 f216 Aau:=GU func216
noncomputable def Aat:Ee:=hm [3,16] [5] [] []
def ASX:Fh AA 217 f217 Aat:=GU func217
noncomputable def Aar:Ee:=hm [3,35,3618,7714,3746,528034,16,3618,3618,16] [9] [] []
def ASW:Fh AA 220 f220 Aar:=GU func220
noncomputable def Aaq:Ee:=hm [3,35,32803,16,917507,1966083,917635,917891,269353347,16,918019,34360656387,16,917507,2048,35184372088832,16,16] [39,40] [] []
def ASV:Fh AA 222 f222 Aaq:=GU func222
noncomputable def Aap:Ee:=hm [3,16] [5] [] []
def ASU:Fh AA 223 f223 Aap:=GU func223
noncomputable def Aao:Ee:=hm [2,10,136,24,65560,1,4] [] [] []
def AST:Fh AA 224 f224 Aao:=GU func224
noncomputable def Aan:Ee:=hm [3,8] [] [] []
def ASS:Fh AA 225 f225 Aan:=GU func225
noncomputable def Aal:Ee:=hm [1,2] [] [] []
def ASR:Fh AA 234 f234 Aal:=GU func234
noncomputable def Aak:Ee:=hm [2,4] [] [] []
def ASQ:Fh AA 235 f235 Aak:=GU func235
noncomputable def Aaj:Ee:=hm [2,4] [] [] []
def ASP:Fh AA 236 f236 Aaj:=GU func236
noncomputable def Aai:Ee:=hm [19,51,3634,7730,3762,3634,3634,16] [9] [] [18,19]
def ASO:Fh AA 239 f239 Aai:=GU func239
noncomputable def Aag:Ee:=hm [7,16391,64,229382,491526,229766,230150,1073971206,64,229382,64] [15] [] []
def ASN:Fh AA 240 f240 Aag:=GU func240
noncomputable def Aaf:Ee:=hm [1,4] [] [] []
def ASM:Fh AA 243 f243 Aaf:=GU func243
noncomputable def Aae:Ee:=hm [3,16] [5] [] []
def ASL:Fh AA 244 f244 Aae:=GU func244
noncomputable def Aad:Ee:=hm [6,8] [] [] []
def ASK:Fh AA 245 f245 Aad:=GU func245
noncomputable def Aac:Ee:=hm [6,8] [] [] []
def ASJ:Fh AA 246 f246 Aac:=GU func246
noncomputable def Aab:Ee:=hm [92,220,80,64] [] [] [17,19,24]
def ASI:Fh AA 247 f247 Aab:=GU func247
noncomputable def Aaa:Ee:=hm [2,4] [] [] []
def ASH:Fh AA 248 f248 Aaa:=GU func248
noncomputable def AaZ:Ee:=hm [12,16] [] [] []
def ASG:Fh AA 249 f249 AaZ:=GU func249
noncomputable def AaV:Ee:=hm [1,1] [] [] []
def ASF:Fh AA 274 f274 AaV:=GU func274
noncomputable def AaU:Ee:=hm [7,1030,7174,1414,525446,64,64] [] [] []
def ASE:Fh AA 276 f276 AaU:=GU func276
noncomputable def AaT:Ee:=hm [3,387,899,419,65955,16,387,16] [] [] []
def ASD:Fh AA 277 f277 AaT:=GU func277
noncomputable def AaS:Ee:=hm [3,387,899,419,65955,16,387,16] [] [] []
def ASC:Fh AA 278 f278 AaS:=GU func278
noncomputable def AaR:Ee:=hm [1,513,4,7168,15360,7184,7216,1055792,4,7232,67116096,4,7168,4] [10] [] []
def ASB:Fh AA 279 f279 AaR:=GU func279
noncomputable def AaP:Ee:=hm [28,60,8252,16,65556,84,524372,1572948,144,134217872,1,536870996,848,274877907280,1,2199023255568,1,16] [] [] [45]
def ASA:Fh AA 280 f280 AaP:=GU func280
noncomputable def AaO:Ee:=hm [12,44,524332,16,76,274877906956,16,7696581394444,0xf000000000c,7696581394828,4511296208764940,16,7696581394444,520,0x400000000000000000,16,16] [] [] [68]
def AR9:Fh AA 281 f281 AaO:=GU func281
noncomputable def AaN:Ee:=hx [3,67,195,14680257,31457473,14680769,14681281,2162164929,14683329,3848305380545,8246351891649,3848305388737,3848305396929,3848305380545,3848305380545,14748865,15142081,0x4000000000000e70cc1,15142081,0x800000000000000000000000e50cc1,48,0x10000000000000000000000000e10cc1,14746817,14680257,14680257,48] [21,52] [] [] [36] [] [18]
def AR8:Fh AA 282 f282 AaN:=GU func282
noncomputable def AaM:Ee:=hm [3,387,899,419,65955,16,387,16] [] [] []
def AR7:Fh AA 283 f283 AaM:=GU func283
noncomputable def AaL:Ee:=hm [2,4] [] [] []
def AR6:Fh AA 284 f284 AaL:=GU func284
noncomputable def AaK:Ee:=hm [2,4] [] [] []
def AR5:Fh AA 286 f286 AaK:=GU func286
noncomputable def AaI:Ee:=hm [6,14,10,1] [] [] []
def AR4:Fh AA 292 f292 AaI:=GU func292
noncomputable def AaH:Ee:=hm [14,1036,16,28676,61444,28740,2125828,16,28676,16] [] [] []
def AR3:Fh AA 293 f293 AaH:=GU func293
noncomputable def AaG:Ee:=hm [1,131073,4,17,4] [] [] []
def AR2:Fh AA 296 f296 AaG:=GU func296
noncomputable def AaF:Ee:=hm [3,387,899,419,65955,16,387,16] [] [] []
def AR1:Fh AA 297 f297 AaF:=GU func297
noncomputable def AaE:Ee:=hx [8199,7,23,2097159,23,33554439,23,55,1073741879,55,137438953511,39,70368744177671] [] [] [] [] [] [9,11]
def AR0:Fh AA 298 f298 AaE:=GU func298
noncomputable def AaB:Ee:=hm [2,32,4,4] [] [] []
def ARz:Fh AA 316 f316 AaB:=GU func316
noncomputable def AZ9:Ee:=hm [6,14,10,1] [] [] []
def ARy:Fh AA 321 f321 AZ9:=GU func321
noncomputable def AZ8:Ee:=hm [14,1036,16,28676,61444,28740,2125828,16,28676,16] [] [] []
def ARx:Fh AA 322 f322 AZ8:=GU func322
noncomputable def AZ7:Ee:=hm [33,161,41,8225] [] [] []
def ARw:Fh AA 325 f325 AZ7:=GU func325
noncomputable def AZ6:Ee:=hm [1,4] [] [] []
def ARv:Fh AA 328 f328 AZ6:=GU func328
noncomputable def AZ5:Ee:=hm [3,67,451,33219,963,134218691,451,451,48] [43] [] []
def ARu:Fh AA 329 f329 AZ5:=GU func329
noncomputable def AZ3:Ee:=hm [3,35,65571,35,16] [] [] []
def ARt:Fh AA 330 f330 AZ3:=GU func330
noncomputable def AZ2:Ee:=hm [1,4] [] [] []
def ARs:Fh AA 331 f331 AZ2:=GU func331
noncomputable def AZ1:Ee:=hm [1,4] [] [] []
def ARr:Fh AA 332 f332 AZ1:=GU func332
noncomputable def AZ0:Ee:=hm [2,66,4,2147483650,4,10,2199023255562,6597069766666,4,0x8002000000000a,4,0x800002000000000a,4,0x4000000002000000000a,4,0x1000000000000002000000000a,4,0x1000000000000000000000000002,4,4] [] [] []
def ARq:Fh AA 336 f336 AZ0:=GU func336
noncomputable def AZz:Ee:=hm [7,64] [] [] []
def ARp:Fh AA 342 f342 AZz:=GU func342
noncomputable def AZy:Ee:=hm [3,16] [] [] []
def ARo:Fh AA 343 f343 AZy:=GU func343
noncomputable def AZx:Ee:=hm [1,4] [] [] []
def ARn:Fh AA 344 f344 AZx:=GU func344
noncomputable def AZv:Ee:=hm [12,16] [] [] []
def ARm:Fh AA 350 f350 AZv:=GU func350
noncomputable def AZu:Ee:=hm [1,1] [] [] []
def ARl:Fh AA 365 f365 AZu:=GU func365
noncomputable def AZt:Ee:=hm [3,1027,16,12291,28675,12323,16789507,16,12291,16] [] [] []
def ARk:Fh AA 367 f367 AZt:=GU func367
noncomputable def ac:ETree:=(.node (.node (.node (.node (.node (.node (.node (.node .nil 5 f5 e5 .nil) 6 f6 e6 .nil) 9 f9 e9 (.node .nil 11 f11 e11 .nil)) 12 f12 e12 (.node (.node (.node .nil 16 f16 e16 .nil) 17 f17 e17 .nil) 18 f18 e18 (.node .nil 19 f19 e19 .nil))) 20 f20 e20 (.node (.node (.node (.node .nil 21 f21 e21 .nil) 22 f22 e22 .nil) 23 f23 e23 (.node .nil 24 f24 e24 .nil)) 25 f25 e25 (.node (.node (.node .nil 26 f26 e26 .nil) 27 f27 e27 .nil) 28 f28 e28 (.node .nil 29 f29 e29 .nil)))) 30 f30 e30 (.node (.node (.node (.node (.node .nil 31 f31 e31 .nil) 32 f32 e32 .nil) 34 f34 e34 (.node .nil 38 f38 e38 .nil)) 43 f43 e43 (.node (.node (.node .nil 44 f44 e44 .nil) 45 f45 e45 .nil) 46 f46 e46 (.node .nil 47 f47 e47 .nil))) 48 f48 e48 (.node (.node (.node (.node .nil 49 f49 e49 .nil) 50 f50 e50 .nil) 51 f51 e51 (.node .nil 52 f52 e52 .nil)) 53 f53 e53 (.node (.node .nil 54 f54 e54 .nil) 55 f55 e55 (.node .nil 56 f56 e56 .nil))))) 57 f57 e57 (.node (.node (.node (.node (.node (.node .nil 58 f58 e58 .nil) 59 f59 e59 .nil) 60 f60 e60 (.node .nil 62 f62 e62 .nil)) 63 f63 e63 (.node (.node (.node .nil 67 f67 e67 .nil) 79 f79 e79 .nil) 80 f80 e80 (.node .nil 81 f81 e81 .nil))) 82 f82 e82 (.node (.node (.node (.node .nil 83 f83 e83 .nil) 84 f84 e84 .nil) 85 f85 e85 (.node .nil 87 f87 e87 .nil)) 88 f88 e88 (.node (.node (.node .nil 89 f89 e89 .nil) 90 f90 e90 .nil) 91 f91 e91 (.node .nil 92 f92 e92 .nil)))) 93 f93 e93 (.node (.node (.node (.node (.node .nil 94 f94 e94 .nil) 95 f95 e95 .nil) 96 f96 e96 (.node .nil 101 f101 Abg .nil)) 102 f102 Abf (.node (.node (.node .nil 103 f103 Abe .nil) 104 f104 Abd .nil) 105 f105 Abc (.node .nil 106 f106 Abb .nil))) 115 f115 Aba (.node (.node (.node (.node .nil 116 f116 AbZ .nil) 118 f118 AbY .nil) 148 f148 AbV (.node .nil 149 f149 AbU .nil)) 150 f150 AbT (.node (.node .nil 151 f151 AbS .nil) 152 f152 AbR (.node .nil 156 f156 AbQ .nil)))))) 158 f158 AbP (.node (.node (.node (.node (.node (.node (.node .nil 159 f159 AbO .nil) 164 f164 AbN .nil) 165 f165 AbM (.node .nil 166 f166 AbL .nil)) 167 f167 AbK (.node (.node (.node .nil 168 f168 AbJ .nil) 169 f169 AbI .nil) 170 f170 AbG (.node .nil 171 f171 AbF .nil))) 172 f172 AbE (.node (.node (.node (.node .nil 173 f173 AbD .nil) 174 f174 AbC .nil) 175 f175 AbB (.node .nil 176 f176 AbA .nil)) 177 f177 Aa9 (.node (.node (.node .nil 179 f179 Aa8 .nil) 180 f180 Aa6 .nil) 181 f181 Aa5 (.node .nil 182 f182 Aa4 .nil)))) 183 f183 Aa3 (.node (.node (.node (.node (.node .nil 184 f184 Aa2 .nil) 212 f212 Aay .nil) 213 f213 Aax (.node .nil 214 f214 Aaw .nil)) 215 f215 Aav (.node (.node (.node .nil 216 f216 Aau .nil) 217 f217 Aat .nil) 220 f220 Aar (.node .nil 222 f222 Aaq .nil))) 223 f223 Aap (.node (.node (.node (.node .nil 224 f224 Aao .nil) 225 f225 Aan .nil) 234 f234 Aal (.node .nil 235 f235 Aak .nil)) 236 f236 Aaj (.node (.node .nil 239 f239 Aai .nil) 240 f240 Aag (.node .nil 243 f243 Aaf .nil))))) 244 f244 Aae (.node (.node (.node (.node (.node (.node .nil 245 f245 Aad .nil) 246 f246 Aac .nil) 247 f247 Aab (.node .nil 248 f248 Aaa .nil)) 249 f249 AaZ (.node (.node (.node .nil 274 f274 AaV .nil) 276 f276 AaU .nil) 277 f277 AaT (.node .nil 278 f278 AaS .nil))) 279 f279 AaR (.node (.node (.node (.node .nil 280 f280 AaP .nil) 281 f281 AaO .nil) 282 f282 AaN (.node .nil 283 f283 AaM .nil)) 284 f284 AaL (.node (.node .nil 286 f286 AaK .nil) 292 f292 AaI (.node .nil 293 f293 AaH .nil)))) 296 f296 AaG (.node (.node (.node (.node (.node .nil 297 f297 AaF .nil) 298 f298 AaE .nil) 316 f316 AaB (.node .nil 321 f321 AZ9 .nil)) 322 f322 AZ8 (.node (.node (.node .nil 325 f325 AZ7 .nil) 328 f328 AZ6 .nil) 329 f329 AZ5 (.node .nil 330 f330 AZ3 .nil))) 331 f331 AZ2 (.node (.node (.node (.node .nil 332 f332 AZ1 .nil) 336 f336 AZ0 .nil) 342 f342 AZz (.node .nil 343 f343 AZy .nil)) 344 f344 AZx (.node (.node .nil 350 f350 AZv .nil) 365 f365 AZu (.node .nil 367 f367 AZt .nil)))))))
def WG:ac.All AA:=⟨⟨⟨⟨⟨⟨⟨⟨tV,AgA,tV⟩,Af9,tV⟩,Af8,⟨tV,AbX,tV⟩⟩,AbW,⟨⟨⟨tV,AbH,tV⟩,Aa7,tV⟩,Aa1,⟨tV,Aa0,tV⟩⟩⟩,Aaz,⟨⟨⟨⟨tV,Aas,tV⟩,Aam,tV⟩,Aah,⟨tV,AaY,tV⟩⟩,AaX,⟨⟨⟨tV,AaW,tV⟩,AaQ,tV⟩,AaJ,⟨tV,AaD,tV⟩⟩⟩⟩,AaC,⟨⟨⟨⟨⟨tV,AaA,tV⟩,AZ4,tV⟩,AZw,⟨tV,AZs,tV⟩⟩,AZr,⟨⟨⟨tV,AZq,tV⟩,AZp,tV⟩,AZo,⟨tV,AZn,tV⟩⟩⟩,AZm,⟨⟨⟨⟨tV,AZl,tV⟩,AZk,tV⟩,AZj,⟨tV,AZi,tV⟩⟩,AZh,⟨⟨tV,AZg,tV⟩,AZf,⟨tV,AZe,tV⟩⟩⟩⟩⟩,AZd,⟨⟨⟨⟨⟨⟨tV,AZc,tV⟩,AZb,tV⟩,AZa,⟨tV,AZZ,tV⟩⟩,AZY,⟨⟨⟨tV,AZX,tV⟩,AZW,tV⟩,AZV,⟨tV,AZU,tV⟩⟩⟩,AZT,⟨⟨⟨⟨tV,AZS,tV⟩,AZR,tV⟩,AZQ,⟨tV,AZP,tV⟩⟩,AZO,⟨⟨⟨tV,AZN,tV⟩,AZM,tV⟩,AZL,⟨tV,AZK,tV⟩⟩⟩⟩,AZJ,⟨⟨⟨⟨⟨tV,AZI,tV⟩,AZH,tV⟩,AZG,⟨tV,ATD,tV⟩⟩,ATC,⟨⟨⟨tV,ATB,tV⟩,ATA,tV⟩,AS9,⟨tV,AS8,tV⟩⟩⟩,AS7,⟨⟨⟨⟨tV,AS6,tV⟩,AS5,tV⟩,AS4,⟨tV,AS3,tV⟩⟩,AS2,⟨⟨tV,AS1,tV⟩,AS0,⟨tV,ASz,tV⟩⟩⟩⟩⟩⟩,ASy,⟨⟨⟨⟨⟨⟨⟨tV,ASx,tV⟩,ASw,tV⟩,ASv,⟨tV,ASu,tV⟩⟩,ASt,⟨⟨⟨tV,ASs,tV⟩,ASr,tV⟩,ASq,⟨tV,ASp,tV⟩⟩⟩,ASo,⟨⟨⟨⟨tV,ASn,tV⟩,ASm,tV⟩,ASl,⟨tV,ASk,tV⟩⟩,ASj,⟨⟨⟨tV,ASi,tV⟩,ASh,tV⟩,ASg,⟨tV,ASf,tV⟩⟩⟩⟩,ASe,⟨⟨⟨⟨⟨tV,ASd,tV⟩,ASc,tV⟩,ASb,⟨tV,ASa,tV⟩⟩,ASZ,⟨⟨⟨tV,ASY,tV⟩,ASX,tV⟩,ASW,⟨tV,ASV,tV⟩⟩⟩,ASU,⟨⟨⟨⟨tV,AST,tV⟩,ASS,tV⟩,ASR,⟨tV,ASQ,tV⟩⟩,ASP,⟨⟨tV,ASO,tV⟩,ASN,⟨tV,ASM,tV⟩⟩⟩⟩⟩,ASL,⟨⟨⟨⟨⟨⟨tV,ASK,tV⟩,ASJ,tV⟩,ASI,⟨tV,ASH,tV⟩⟩,ASG,⟨⟨⟨tV,ASF,tV⟩,ASE,tV⟩,ASD,⟨tV,ASC,tV⟩⟩⟩,ASB,⟨⟨⟨⟨tV,ASA,tV⟩,AR9,tV⟩,AR8,⟨tV,AR7,tV⟩⟩,AR6,⟨⟨tV,AR5,tV⟩,AR4,⟨tV,AR3,tV⟩⟩⟩⟩,AR2,⟨⟨⟨⟨⟨tV,AR1,tV⟩,AR0,tV⟩,ARz,⟨tV,ARy,tV⟩⟩,ARx,⟨⟨⟨tV,ARw,tV⟩,ARv,tV⟩,ARu,⟨tV,ARt,tV⟩⟩⟩,ARs,⟨⟨⟨⟨tV,ARr,tV⟩,ARq,tV⟩,ARp,⟨tV,ARo,tV⟩⟩,ARn,⟨⟨tV,ARm,tV⟩,ARl,⟨tV,ARk,tV⟩⟩⟩⟩⟩⟩⟩
def AAt:AA.follows .mixedOrders=true:=kr
open Go.MapKept Go.Maps Go.WideElems Go.WideShapes
def mg(x:Int):List Int->List Int
 | []=>[x]
 | y::l=>if x<=y then x::y::l else y::mg x l
def Ok:List Int->List Int
 | []=>[]
 | x::l=>mg x (Ok l)
def St(x:Int): ∀ l,(mg x l).Perm (x::l)
 | [] => .refl _
 | y::l=>by
  unfold mg
  split
  ·exact .refl _
  ·exact ((St x l).cons y).trans (.swap _ _ _)
def Oj : ∀ l,(Ok l).Perm l
 | [] => .refl _
 | x::l=>(St x _).trans ((Oj l).cons x)
def Th{x:Int}: ∀ {l:List Int},l.Pairwise (· <= ·)->(mg x l).Pairwise (· <= ·)
 | [],_=>by simp [mg]
 | y::l,h=>by
  unfold mg
  split
  ·rename_i hxy
   refine List.Pairwise.cons (λz hz=>?_) h
   rcases AX.1 hz with rfl|hz
   ·exact hxy
   ·exact DG hxy ((Bk.1 h).1 z hz)
  ·rename_i hxy
   obtain ⟨h1,h2⟩:=Bk.1 h
   refine List.Pairwise.cons (λz hz=>?_) (Th h2)
   rcases AX.1 ((St x l).mem_iff.1 hz) with rfl|hz
   ·omega
   ·exact h1 z hz
def P9 : ∀ l:List Int,(Ok l).Pairwise (· <= ·)
 | [] => .nil
 | _::l=>Th (P9 l)
def tI{l l':List Int}(h:l'.Perm l):l'.mergeSort (λx y=>decide (x<=y))=Ok l:=by
 have tr : ∀ a b c:Int,leI a b=true->leI b c=true->leI a c=true:=λa b c h1 h2=>by simp only [leI,decide_eq_true_eq] at *;exact DG h1 h2
 have to : ∀ a b:Int,(leI a b||leI b a)=true:=λa b=>by simp only [leI,CH,decide_eq_true_eq];exact Int.le_total a b
 refine List.Perm.eq_of_pairwise (le:=λa b=>a<=b) (λa b _ _ h1 h2=>Int.le_antisymm h1 h2) ?_ (P9 l) (((List.mergeSort_perm l' _).trans h).trans (Oj l).symm)
 exact (List.pairwise_mergeSort tr to l').imp λ{a b} hab=>by simpa [leI] using hab
def AFJ:AV->Int
 | .int _ n=>n
 | _=>0
def ABS:AV->Bool
 | .int .i64 n=>(Lit.int .i64 n).wf
 | _=>false
def MX(es:List (AV×AV)):List Int:=es.map λp=>AFJ p.1
def VV(es:List (AV×AV)):Bool:=es.all (λp=>ABS p.1)&&ZD es
def V3{a:AV}(h:ABS a=true): ∃ n,a = .int .i64 n/\(Lit.int .i64 n).wf=true:=by
 unfold ABS at h
 split at h
 ·exact ⟨_,rfl,h⟩
 ·cases h
abbrev RT:Value->Option (DataW Unit×List MemPlace):=λ_=>some (.lit (.bool true),[])
section
variable {P:Program} {F:Nat->Prop} {G:Gh} {w:World} {H:FP}
def AAu {k:TypeId} (hk:P.underlying k=some (.int .i64)) {vs:List AV} {us:List Value} (hc:CRel F G vs H us w) {o:Nat} {um:Value} (hm:VRel G w (.mapr o) um) {es:List (AV×AV)}
  (he:Im H (.mapr o)=some es) (hok:VV es=true) (hlen:es.length<=maxLen) :
  ∃ b D0,um = .map (some b)/\w.ownsMap P k RT b es.length D0/\(intKeys D0).Perm (MX es)/\Maps.size D0=es.length:=by
 simp only [VV,AQ] at hok
 obtain ⟨hk1,hk2⟩:=hok
 have hd:=WN hk2
 rcases Sj hc hm he with ⟨h,_⟩|⟨o',b,ms,cl,ho,rfl,hob,hkb,hms,hl,hH,hrel⟩
 ·cases h
 cases ho
 obtain ⟨hcl,hborn⟩:=Lu hc hH hob hkb hms
 have key : ∀ (i:Nat) (x:MapEntry),ms[i]? =some x -> ∃ (p:AV×AV) (n:Int),es[i]? =some p/\p.1 = .int .i64 n/\x.key=encZ n/\(Lit.int .i64 n).wf=true:=λi x hx=>by
  have hlt:=(Ao.1 hx).1
  have hp:es[i]? =some (es[i]' FO):=AL _
  obtain ⟨n,hn,hw⟩:=V3 (An.1 hk1 _ (List.mem_of_getElem? hp))
  have hv:=(hrel i _ x hp hx).2.2.1
  rw [hn] at hv
  refine ⟨_,n,hp,hn, ?_,hw⟩
  generalize x.key=y at hv ⊢
  cases hv;rfl
 have hR : ∀ x∈ms.toList,∃ (i:Nat) (p:AV×AV) (n:Int),ms[i]? =some x/\es[i]? =some p/\p.1 = .int .i64 n/\rd P k RT x=some (.int .i64 n,.lit (.bool true)):=λx hx=>by
  obtain ⟨i,hi⟩:=Af hx
  rw [Ae] at hi
  obtain ⟨p,n,h1,h2,h3,h4⟩:=key i x hi
  refine ⟨i,p,n,hi,h1,h2, ?_⟩
  have:keyOf P k x.key=some (.int .i64 n):=by
   rw [h3]
   simp [keyOf,hk,mapKey,encZ,h4]
  simp [rd,this,RT]
 have hmap:ms.toList.map (λx=>intOf (rg P k RT x).1)=MX es:=by
  apply A5
  intro i
  unfold MX
  rw [Ab,Ab,Ae]
  cases hx:ms[i]? with
  | none =>
   have:es[i]? =none:=Az (by have:=Di.1 hx;omega)
   rw [this];rfl
  | some x =>
   obtain ⟨p,n,h1,h2,h3,h4⟩:=key i x hx
   have:keyOf P k x.key=some (.int .i64 n):=by
    rw [h3]
    simp [keyOf,hk,mapKey,encZ,h4]
   rw [h1]
   simp [rg,rd,this,RT,intOf,h2,AFJ]
 have hkeys:ms.toList.map (·.key)=(MX es).map encZ:=by
  apply A5
  intro i
  unfold MX
  rw [Ab,Ab,Ab,Ae]
  cases hx:ms[i]? with
  | none =>
   have:es[i]? =none:=Az (by have:=Di.1 hx;omega)
   rw [this];rfl
  | some x =>
   obtain ⟨p,n,h1,h2,h3,h4⟩:=key i x hx
   rw [h1]
   simp [h2,h3,AFJ]
 have hborns:ms.toList.map (·.born)=Am ms.size:=by
  apply A5
  intro i
  rw [Ab,Ae]
  cases hx:ms[i]? with
  | none =>
   have:=Di.1 hx
   rw [Az (by simpa using this)];rfl
  | some x =>
   have:=(Ao.1 hx).1
   rw [AL (by simpa using this)]
   simp [hborn i x hx]
 have hnd:(MX es).Nodup:=by
  refine EF.2 (hd.imp_of_mem λ{p q} hp hq h e=>?_)
  obtain ⟨n,hn,_⟩:=V3 (An.1 hk1 _ hp)
  obtain ⟨m,hm,_⟩:=V3 (An.1 hk1 _ hq)
  rw [hn,hm] at h e
  simp [AFJ] at e
  subst e
  simp [Ht,Ng] at h
 refine ⟨b,_,rfl,⟨ms,cl,hms,⟨FO,⟨λx hx=>?_, ?_, ?_⟩,λx hx=>?_⟩,FO,rfl⟩, ?_, ?_⟩
 ·obtain ⟨i,hi⟩:=Af hx
  rw [Ae] at hi
  have:=(Ao.1 hi).1
  rw [hborn i x hi];omega
 ·rw [hborns];exact List.nodup_range
 ·rw [hkeys]
  exact EF.2 (hnd.imp λh e=>h (encZ_inj e))
 ·obtain ⟨i,p,n,_,_,_,h⟩:=hR x hx
  exact ⟨_,h⟩
 ·show (List.map _ _).Perm _
  rw [<- hmap,show (ms.toList.map λx=>intOf (rg P k RT x).1)=(ms.toList.map (rg P k RT)).map λp=>intOf p.1 by rw [List.map_map];rfl]
  exact (sorted_perm _).map _
 ·show List.length _=_
  rw [(sorted_perm _).length_eq,Aq,Array.length_toList,hl]
def ww(hF : ∀ b,F b->b<w.heap.size){w':World}(hb:RowKit.Below w.heap.size w w'){g:Nat}(hg:w.heap.size<=g)(k:Kind):Ext F G w (G.setKind g k) w':=by
 have ne : ∀ b,b<w.heap.size->b≠g:=λb h e=>FO
 refine ⟨hb.size,⟨λ_ _ h=>h,λb C E hc=>?_,λb hlt _=>⟨Nat.lt_of_lt_of_le hlt hb.size,G.kind_set_ne k (ne b hlt)⟩,λb off v hs hc=>?_⟩,λb h=>G.kind_set_ne k (ne b (hF b h)),λb h=>hb.block b (hF b h),⟨hb.os,hb.tape,hb.output⟩⟩
 ·exact ⟨C,(hb.block b (Ao.1 hc).1).trans hc,rfl⟩
 ·have hlt:=qh hc
  exact ⟨(G.safe_set_ne k (ne b hlt)).2 hs,(hb.cell (p:=⟨b,off,none⟩) hlt).trans hc⟩
def pI {vs:List AV} {us:List Value} (hc:CRel F G vs H us w) {w':World} (hb:RowKit.Below w.heap.size w w') {g:Nat} (hg:w.heap.size<=g) {R:AV->FP->Prop} {v:AV} {u:Value} (hR:R v H)
  (hv:VRel (G.setKind g .imm) w' v u) (ht:Gs v u=[]):Fe F G w R u w':=by
 have he:=ww (F:=F) (G:=G) hc.h.fore hb hg .imm
 have hne : ∀ b,b<w.heap.size->(G.setKind g .imm).kind b=G.kind b/\w'.heap[b]? =w.heap[b]?:=λb hlt=>⟨G.kind_set_ne .imm FO,hb.block b hlt⟩
 refine ⟨v,H,_,hR,⟨.cons hv (Ff ht _ _ _) (.nil _ _ _),hc.h.ext he rfl λb hb'=>?_,λb=>?_⟩,he⟩
 ·rcases hb' with ⟨o',cs,h1,h2⟩|hb'
  ·exact hne b (hc.h.block_lt h1 h2)
  ·obtain ⟨_,_,C,E,t3⟩:=hc.h.tok_of_pos hb'
   exact hne b (Ao.1 t3).1
 ·rw [M4 (G:=G) (w:=w) (G':=G.setKind g .imm) rfl λo' cs b' h1 h2=>(hne b' (hc.h.block_lt h1 h2)).2,FY,GS,ht]
  have:=hc.cnt b
  simp
  omega
def ABT{w':World}{base e:Nat}{v:Value}{ss:List Int}(h:w'.ownsRow base e 1 v ss.length (ss.map encZ)):
  ∃ g,base<=g /\ ∀ G:Gh,VRel (G.setKind g .imm) w' (.sl none (ss.map (.int .i64))) v:=by
 obtain ⟨hl,h⟩:=h
 rcases h with ⟨rfl,h0⟩|⟨g,cap,cur,rfl,hbg,hg,h1,h2,h3,h4⟩
 ·obtain rfl:=List.eq_nil_of_length_eq_zero h0
  exact ⟨base,Nat.le_refl _,λG => .slnil none⟩
 ·refine ⟨g,hbg,λG=>?_⟩
  have hlen:(ss.map (AV.int .i64)).length=ss.length:=Aq ..
  have hcat:HU (ss.map (AV.int .i64))=ss.map (AV.int .i64):=by
   unfold HU
   rw [List.flatMap_map]
   clear hl hlen h4 h1
   induction ss with
   | nil=>rfl
   | cons x l ih=>rw [List.flatMap_cons,ih];rfl
  rw [<- hlen]
  refine .sl none _ 1 g 0 cap (λi=>encZ (ss[i]?.getD 0)) (λa ha=>?_) (λ_ h=>by cases h) (by rw [hlen];exact h1) h2 (λi c hi=>?_) (λi c hi=>?_)
  ·obtain ⟨n,_,rfl⟩:=List.mem_map.1 ha;rfl
  ·rw [hcat,Ab] at hi
   cases hs:ss[i]? with
   | none=>rw [hs] at hi;cases hi
   | some n =>
    rw [hs] at hi;cases hi
    refine ⟨rfl, ?_, ?_⟩
    ·unfold Gh.safe;rw [G.kind_set];trivial
    ·have hin:(cur.toList.take (ss.length*1))[i]? =some (encZ n):=by rw [h4,Ab,hs];rfl
     have hci:cur[i]? =some (encZ n):=by
      rw [List.getElem?_take] at hin
      split at hin
      ·rwa [Ae] at hin
      ·cases hin
     simp [World.cell?,hg,hci]
  ·rw [hcat,Ab] at hi
   cases hs:ss[i]? with
   | none=>rw [hs] at hi;cases hi
   | some n =>
    rw [hs] at hi;cases hi
    exact .int _ _
end
end Go.AI
namespace Go.Proofs
open Go.RowKit Go.Maps Go.Sort Go.Shelf Go.AI
def L9:Go.Shelf.Ren:=⟨fun|7=>286|10=>325|n=>n,fun|23=>131|26=>3|3=>4|28=>340|0=>0|27=>339|33=>261|4=>4|n=>n,fun|n=>n⟩
def oc:Go.Proofs.SlLaysZI.n7 AA L9:={
 mixed:=kr
 f7:=⟨f286.name,dc,func286.trans (congrArg some kr)⟩
 f10:=⟨f325.name,dc,func325.trans (congrArg some kr)⟩
 t0:=Tryz.underlying0
 a0:=Tryz.isAgg0
 z0:=Tryz.sizeOf0
 v0:=Tryz.zeroValue0
 t4:=Tryz.underlying4
 a4:=Tryz.isAgg4
 z4:=Tryz.sizeOf4
 v4:=Tryz.zeroValue4
 t23:=Tryz.underlying131
 a23:=Tryz.isAgg131
 z23:=Tryz.sizeOf131
 v23:=Tryz.zeroValue131
 t26:=Tryz.underlying3
 a26:=Tryz.isAgg3
 z26:=Tryz.sizeOf3
 v26:=Tryz.zeroValue3
 t27:=Tryz.underlying339
 a27:=Tryz.isAgg339
 z27:=Tryz.sizeOf339
 v27:=Tryz.zeroValue339
 t28:=Tryz.underlying340
 a28:=Tryz.isAgg340
 z28:=Tryz.sizeOf340
 v28:=Tryz.zeroValue340
 t33:=Tryz.underlying261
 a33:=Tryz.isAgg261
 z33:=Tryz.sizeOf261
 v33:=Tryz.zeroValue261 }
def ND:Go.Shelf.Ren:=⟨fun|6=>285|8=>323|9=>324|11=>339|13=>341|12=>340|23=>362|24=>363|14=>353|15=>354|16=>355|17=>356|18=>357|19=>358|20=>359|21=>360|22=>361|25=>369|26=>370|27=>371|28=>372|29=>373|30=>192|31=>375|n=>n,fun|26=>3|28=>340|24=>50|0=>0|3=>3|37=>355|48=>386|50=>388|4=>4|40=>380|39=>379|45=>100|5=>5|9=>9|51=>392|55=>349|57=>397|58=>54|33=>261|n=>n,fun|n=>n⟩
def bR:Go.Proofs.SlLaysZI.n6 AA ND:={
 mixed:=kr
 f6:=⟨f285.name,dc,func285.trans (congrArg some kr)⟩
 f8:=⟨f323.name,dc,func323.trans (congrArg some kr)⟩
 f11:=⟨f339.name,dc,func339.trans (congrArg some kr)⟩
 t0:=Tryz.underlying0
 a0:=Tryz.isAgg0
 z0:=Tryz.sizeOf0
 v0:=Tryz.zeroValue0
 t24:=Tryz.underlying50
 a24:=Tryz.isAgg50
 z24:=Tryz.sizeOf50
 v24:=Tryz.zeroValue50
 t26:=Tryz.underlying3
 a26:=Tryz.isAgg3
 z26:=Tryz.sizeOf3
 v26:=Tryz.zeroValue3
 t28:=Tryz.underlying340
 a28:=Tryz.isAgg340
 z28:=Tryz.sizeOf340
 v28:=Tryz.zeroValue340
 i26:=by kernel_rfl }
def Wp:Go.Shelf.Ren:=⟨fun|5=>324|8=>341|7=>340|19=>362|20=>363|10=>353|11=>354|12=>355|13=>356|14=>357|15=>358|16=>359|17=>360|18=>361|30=>369|31=>370|32=>371|33=>372|34=>373|35=>192|40=>375|n=>n,fun|23=>50|25=>3|3=>3|32=>355|22=>50|0=>0|44=>386|46=>388|4=>4|36=>380|35=>379|41=>100|5=>5|9=>9|53=>392|57=>349|63=>397|64=>54|n=>n,fun|n=>n⟩
def Wq:Go.Proofs.SlLaysM.n5 AA Wp:={
 mixed:=kr
 f5:=⟨f324.name,dc,func324.trans (congrArg some kr)⟩
 f7:=⟨f340.name,dc,func340.trans (congrArg some kr)⟩
 f8:=func341.trans (congrArg some kr)
 f10:=⟨f353.name,dc,func353.trans (congrArg some kr)⟩
 f11:=⟨f354.name,dc,func354.trans (congrArg some kr)⟩
 f12:=⟨f355.name,dc,func355.trans (congrArg some kr)⟩
 f13:=⟨f356.name,dc,func356.trans (congrArg some kr)⟩
 f14:=⟨f357.name,dc,func357.trans (congrArg some kr)⟩
 f15:=⟨f358.name,dc,func358.trans (congrArg some kr)⟩
 f16:=⟨f359.name,dc,func359.trans (congrArg some kr)⟩
 f17:=⟨f360.name,dc,func360.trans (congrArg some kr)⟩
 f18:=⟨f361.name,dc,func361.trans (congrArg some kr)⟩
 f19:=func362.trans (congrArg some kr)
 f20:=func363.trans (congrArg some kr)
 f30:=⟨f369.name,dc,func369.trans (congrArg some kr)⟩
 f31:=func370.trans (congrArg some kr)
 f32:=func371.trans (congrArg some kr)
 f33:=⟨f372.name,dc,func372.trans (congrArg some kr)⟩
 f34:=⟨f373.name,dc,func373.trans (congrArg some kr)⟩
 f35:=⟨f192.name,dc,func192.trans (congrArg some kr)⟩
 f40:=⟨f375.name,dc,func375.trans (congrArg some kr)⟩
 t0:=Tryz.underlying0
 a0:=Tryz.isAgg0
 z0:=Tryz.sizeOf0
 v0:=Tryz.zeroValue0
 t3:=Tryz.underlying3
 a3:=Tryz.isAgg3
 z3:=Tryz.sizeOf3
 v3:=Tryz.zeroValue3
 t4:=Tryz.underlying4
 a4:=Tryz.isAgg4
 z4:=Tryz.sizeOf4
 v4:=Tryz.zeroValue4
 t5:=Tryz.underlying5
 a5:=Tryz.isAgg5
 z5:=Tryz.sizeOf5
 v5:=Tryz.zeroValue5
 t9:=Tryz.underlying9
 a9:=Tryz.isAgg9
 z9:=Tryz.sizeOf9
 v9:=Tryz.zeroValue9
 t22:=Tryz.underlying50
 a22:=Tryz.isAgg50
 z22:=Tryz.sizeOf50
 v22:=Tryz.zeroValue50
 t23:=Tryz.underlying50
 a23:=Tryz.isAgg50
 z23:=Tryz.sizeOf50
 v23:=Tryz.zeroValue50
 t25:=Tryz.underlying3
 a25:=Tryz.isAgg3
 z25:=Tryz.sizeOf3
 v25:=Tryz.zeroValue3
 t32:=Tryz.underlying355
 a32:=Tryz.isAgg355
 z32:=Tryz.sizeOf355
 v32:=Tryz.zeroValue355
 t35:=Tryz.underlying379
 a35:=Tryz.isAgg379
 z35:=Tryz.sizeOf379
 v35:=Tryz.zeroValue379
 t36:=Tryz.underlying380
 a36:=Tryz.isAgg380
 z36:=Tryz.sizeOf380
 v36:=Tryz.zeroValue380
 t41:=Tryz.underlying100
 a41:=Tryz.isAgg100
 z41:=Tryz.sizeOf100
 v41:=Tryz.zeroValue100
 t44:=Tryz.underlying386
 a44:=Tryz.isAgg386
 z44:=Tryz.sizeOf386
 v44:=Tryz.zeroValue386
 t46:=Tryz.underlying388
 a46:=Tryz.isAgg388
 z46:=Tryz.sizeOf388
 v46:=Tryz.zeroValue388
 t53:=Tryz.underlying392
 a53:=Tryz.isAgg392
 z53:=Tryz.sizeOf392
 v53:=Tryz.zeroValue392
 t57:=Tryz.underlying349
 a57:=Tryz.isAgg349
 z57:=Tryz.sizeOf349
 v57:=Tryz.zeroValue349
 t63:=Tryz.underlying397
 a63:=Tryz.isAgg397
 z63:=Tryz.sizeOf397
 v63:=Tryz.zeroValue397
 t64:=Tryz.underlying54
 a64:=Tryz.isAgg54
 z64:=Tryz.sizeOf54
 v64:=Tryz.zeroValue54 }
def jZ(m:Nat):AnyZI.SortsIn AA ND Fence.wide m :=
  ⟨λblk off cap ss W hH hblk hsz=>callsIn_wide.2 (AnyM.slices_Sort_int Wq blk off cap ss W hH hblk hsz),
   λp cap W=>callsIn_wide.2 (AnyM.slices_Sort_int_none Wq p cap W)⟩
end Go.Proofs
namespace Go.AI
open Go.RowKit Go.Maps Go.Sort Go.Shelf Go.Proofs
def dG{H : FP}{ob o : Nat}{es : List (AV × AV)}(h1 : H[ob]? = some (some [.mapr o]))(h2 : Im H (.mapr o) = some es)(h3 : VV es = true)(h4 : es.length <= 1073741824):
    FV AA 285 [.fn (.func 325) [] [.ptr ob 0]] H λv H'=>v = .sl none ((Ok (MX es)).map (.int .i64))/\H'=H := by
  refine ⟨kr,λF G w us hc=>?_⟩
  have hlen := hc.l.len
  obtain ⟨u,rfl⟩ : ∃ u,us=[u] := by
    match us,hlen with
    | [u],_=>exact ⟨u,rfl⟩
  have hx := hc.l.rel 0 _ _ rfl rfl
  cases hx with
  | fn _ _ _ fi ca k1 k2 k3 k4 =>
  obtain rfl:fi=#[] := by
    have:fi.size=0 := k1.symm
    exact Array.eq_empty_of_size_eq_zero this
  obtain ⟨x,rfl⟩ : ∃ x,ca=#[x] := by
    have:ca.size=1 := k2.symm
    exact ⟨ca[0], by apply Array.ext; · simp [this]
                     · intro i hi1 hi2;simp at hi2;subst hi2;rfl⟩
  have hp := k4 0 _ x rfl rfl
  cases hp with
  | ptr _ _ B hB hCE =>
  obtain ⟨C,E,hC⟩ := hCE
  obtain ⟨_,C',E',hC',hle,hrow⟩ := (hc.h.obj ob _ B h1 hB).of_cells hC
  rw [hC] at hC'
  cases hC'
  have h0:C[0]? =some (C[0]'(by simp at hle;omega)) := Array.getElem?_eq_getElem _
  generalize C[0]'(by simp at hle;omega)=um at h0
  obtain ⟨_,hm,_⟩ := hrow 0 _ um rfl h0
  obtain ⟨b,D0,rfl,hown,hperm,hsz⟩ := AAu (P := AA) (k := L9.t 26) kr hc hm h2 h3 (by unfold maxLen;omega)
  have hcell:w.cell? ⟨B,0,none⟩=some (.map (some b)) := by simp [World.cell?,hC,h0]
  have hseq:SeqGives Fence.wide 2 AA 325 #[.pointer (some ⟨B,0,none⟩)] encZ (λss=>ss.Perm (intKeys D0)) (Maps.size D0) w :=
    AnyZI.keys_gives (ρ := L9) { oc with } Fence.wide _ trivial rfl FO B b es.length D0 w (Ao.1 hC).1 hcell hown
  have cS := AnyZI.sorted_in bR Fence.wide 5 trivial trivial trivial trivial rfl FO (jZ _) (enters_of func324 kr rfl) 325 #[.pointer (some ⟨B,0,none⟩)] trivial (enters_of func325 kr rfl) _ _ (by rw [hsz];unfold maxLen;omega) (by rw [hsz];omega) _ hseq
  change CallsIn _ _ AA 285 _ _ _ at cS
  refine (callsIn_wide (n := 5)).1 (cS.mono ?_)
  rintro e w' ⟨v,ss,rfl,hS,hrow2,hnil,hbel⟩
  have hs:ss.mergeSort (λx y=>decide (x<=y))=Ok (MX es) := tI (hS.trans hperm)
  rw [hs] at hrow2
  have hl2:ss.length=(Ok (MX es)).length := by rw [(hS.trans hperm).length_eq,(Oj _).length_eq]
  rw [hl2] at hrow2
  obtain ⟨g,hg,hv⟩ := ABT hrow2
  exact ⟨v,rfl,pI hc hbel hg ⟨rfl,rfl⟩ (hv G) (GM rfl _)⟩
def lG:Orc:=λf vs H=>bif CI f 285 then
  match vs with
  | [.fn (.func s) [] [.ptr ob 0]]=>bif CI s 325 then match H[ob]? with
   | some (some [.mapr o])=>match Im H (.mapr o) with
    | some es=>bif VV es&&Nat.ble es.length 1073741824 then some (.sl none ((Ok (MX es)).map (.int .i64)),H) else none
    | none=>none
   | _=>none
   else none
  | _=>none
 else none
def rY:rB AA lG:=by
 intro f vs H v H' h
 unfold lG at h
 cases hf:CI f 285 with
 | false=>rw [hf] at h;cases h
 | true =>
  rw [hf] at h
  have:=DF hf
  subst this
  dsimp only [cond_true] at h
  split at h
  ·rename_i s ob
   cases hs:CI s 325 with
   | false=>rw [hs] at h;cases h
   | true =>
    rw [hs] at h
    have:=DF hs
    subst this
    dsimp only [cond_true] at h
    split at h
    ·rename_i o h1
     split at h
     ·rename_i es h2
      cases h3:(VV es&&Nat.ble es.length 1073741824) with
      | false=>rw [h3] at h;cases h
      | true =>
       rw [h3] at h
       cases h
       simp only [AQ] at h3
       exact dG h1 h2 h3.1 (Nat.le_of_ble_eq_true h3.2)
     ·cases h
    ·cases h
  ·cases h
end Go.AI
