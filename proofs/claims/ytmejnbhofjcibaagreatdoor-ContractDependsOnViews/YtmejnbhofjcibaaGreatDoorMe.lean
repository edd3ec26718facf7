/- A part. -/
import Derived.Test.YtmejnbhofjcibaaGreatDoorLi
import Derived.Test.YtmejnbhofjcibaaGreatDoorProg
import Derived.Below
import Derived.Shelf.SlIterI.Nil
import Derived.Shelf.SortM.Plain
import Derived.Shelf.SortM.SortNone
import Derived.Ground.GgzProg
import Derived.Ground.SlgmProg
set_option linter.unusedSimpArgs false
set_option linter.unusedVariables false
set_option linter.defProp false
open Go.Proofs.Tryz
open Go.AI renaming Hint->Ef
open Array renaming getElem?_eq_none_iff->Dk,getElem?_eq_some_iff->An,getElem?_toList->Ac
open Bool renaming and_eq_true->AM,or_eq_true->CF
open Int renaming le_trans->DG
open List renaming all_eq_true->Am,ext_getElem?->A3,getElem?_eq_getElem->AH,getElem?_eq_none->Av,getElem?_eq_some_iff->AC,getElem?_map->Aa,getElem?_of_mem->Ae,length_map->Ap,mem_cons->AY,mem_singleton->Ab,pairwise_cons->Bf,pairwise_map->EG,range->Ak
open Nat renaming beq->CG,eq_of_beq_eq_true->DF
open Option renaming any->Ct,bind_eq_some_iff->CD
open Go.Proofs.Tryz renaming prog->AA
namespace Go.AI
open Go.MapKept
def ADa(op:BinOp)(a b:AV):Option AV :=
 match a,b with
 |.int k x,.int k' y =>
  match op with
  |.shl=>if 0<=y then some (.int k (k.wrap (x*2^(min y.toNat k.bits))))else none
  |.shr=>if 0<=y then some (.int k (x.fdiv (2^(min y.toNat k.bits))))else none
  |.add=>if k=k' then some (.int k (k.wrap (x+y)))else none
  |.sub=>if k=k' then some (.int k (k.wrap (x - y)))else none
  |.mul=>if k=k' then some (.int k (k.wrap (x*y)))else none
  |.quo=>if k=k'/\y≠0 then some (.int k (k.wrap (x.tdiv y)))else none
  |.rem=>if k=k'/\y≠0 then some (.int k (x.tmod y))else none
  |.and=>if k=k' then some (.int k (k.wrap (BitVec.ofInt k.bits x &&& BitVec.ofInt k.bits y).toNat))else none
  |.or=>if k=k' then some (.int k (k.wrap (BitVec.ofInt k.bits x ||| BitVec.ofInt k.bits y).toNat))else none
  |.xor=>if k=k' then some (.int k (k.wrap (BitVec.ofInt k.bits x ^^^ BitVec.ofInt k.bits y).toNat))else none
  |.andNot=>if k=k' then some (.int k (k.wrap (BitVec.ofInt k.bits x &&& ~~~ BitVec.ofInt k.bits y).toNat))else none
  |.eql=>if k=k' then some (.bool (x==y))else none
  |.neq=>if k=k' then some (.bool (x !=y))else none
  |.lss=>if k=k' then some (.bool (decide (x<y)))else none
  |.leq=>if k=k' then some (.bool (decide (x<=y)))else none
  |.gtr=>if k=k' then some (.bool (decide (x>y)))else none
  |.geq=>if k=k' then some (.bool (decide (x≥y)))else none
 |.str x,.str y =>
  match op with
  |.add=>if x.size+y.size<=9223372036854775807 then some (.str (x++y))else none
  |.eql=>some (.bool (x.data.toList==y.data.toList))
  |.neq=>some (.bool !(x.data.toList==y.data.toList))
  |.lss=>some (.bool (Op.bytesLess x.data.toList y.data.toList))
  |.leq=>some (.bool (Op.bytesLess x.data.toList y.data.toList||x.data.toList==y.data.toList))
  |.gtr=>some (.bool !(Op.bytesLess x.data.toList y.data.toList||x.data.toList==y.data.toList))
  |.geq=>some (.bool !(Op.bytesLess x.data.toList y.data.toList))
  |_=>none
 |_,_=>none
def KN{α:Type}{c:Prop}[Decidable c]{x:Option α}{v:α}(h:(if c then x else none)=some v):c/\x=some v:=by
 split at h
 ·rename_i hc;exact⟨hc,h⟩
 ·cases h
def jk{op:BinOp}{a b v:AV}{R:AV->Prop}(h:ADa op a b=some v)(hr:R v):KJ op a b R:=by
 unfold ADa at h
 unfold KJ
 split at h
 ·cases op<;>obtain⟨h1,h2⟩:=KN h<;>cases h2<;>first|exact⟨h1,hr⟩|exact⟨h1.1,h1.2,hr⟩
 ·simp only[ByteArray.toList_eq]
  cases op<;>first|(cases h;done)|(obtain⟨h1,h2⟩:=KN h;cases h2;exact⟨h1,hr⟩)|(cases h;exact hr)
 ·cases h
def bZ(P:Program)(op:BinOp)(t:TypeId)(a b:AV):Option AV :=
 match op,KM P t a b with
 |.eql,some r=>some (.bool r)
 |.neq,some r=>some (.bool !r)
 |_,_=>ADa op a b
def pM{P:Program}{op:BinOp}{t:TypeId}{a b v:AV}{R:AV->Prop}(h:bZ P op t a b=some v)(hr:R v):KI P op t a b R:=by
 unfold bZ at h
 unfold KI
 generalize KM P t a b=q at h ⊢
 cases q with
 |none=>cases op<;>exact jk h hr
 |some r=>cases op<;>first|exact jk h hr|(cases h;exact hr)
def aE(P:Program)(op:BinOp)(t:TypeId)(a:AV):Option AV :=
 match P.underlying t with
 |some (.slice _)=>match op,a with
  |.eql,.sl _ (_::_)=>some (.bool false)
  |.neq,.sl _ (_::_)=>some (.bool true)
  |.eql,.msl _ _ _ _=>some (.bool false)
  |.neq,.msl _ _ _ _=>some (.bool true)
  |_,_=>none
 |_=>none
def mZ{P:Program}{op:BinOp}{t:TypeId}{a v:AV}{R:AV->Prop}(h:aE P op t a=some v)(hr:R v):Np P op t a R:=by
 unfold aE at h
 unfold Np
 split at h
 ·rename_i e he
  simp only[he]
  split at h<;>cases h<;>exact hr
 ·cases h
def bP(P:Program)(t:TypeId)(x:AV)(lo hi mx:Option Int):Option AV :=
 match P.underlying t,x with
 |some .string,.str s =>
  if mx=none/\0<=lo.getD 0/\lo.getD 0<=hi.getD s.size/\hi.getD s.size<=s.size then some (.str (s.extract (lo.getD 0).toNat (hi.getD s.size).toNat))else none
 | some (.slice e),.sl own es =>
  if 0<=lo.getD 0/\lo.getD 0<=hi.getD es.length/\hi.getD es.length<=es.length/\es.all (λx=>x.cells.length==P.cellsOf e)=true/\(P.info? e).isSome=true then
   match mx with
   |none=>some (.sl (if hi.getD es.length=es.length then own else none) ((es.take (hi.getD es.length).toNat).drop (lo.getD 0).toNat))
   |some m=>if m=hi.getD es.length/\0<P.cellsOf e then some (.sl (some (P.cellsOf e)) ((es.take (hi.getD es.length).toNat).drop (lo.getD 0).toNat))else none
  else none
 | some (.slice e),.msl ob off len sz =>
  if 0<=lo.getD 0/\lo.getD 0<=hi.getD len/\hi.getD len<=len/\sz=P.cellsOf e/\(P.info? e).isSome=true/\mx=none/\(lo.getD 0=0\/lo.getD 0<len)then
   some (.msl ob (off+(lo.getD 0).toNat*sz) ((hi.getD len).toNat - (lo.getD 0).toNat) sz)else none
 | some (.pointer ta),.cptr cs off=>if lo=none/\hi=none/\mx=none then
   match P.underlying ta with
   |some (.array n e)=>if P.cellsOf e=1/\off+n<=cs.length/\n<=9223372036854775807 then some (.sl none ((cs.drop off).take n))else none
   |_=>none
  else none
 |some (.array n e),.cptr cs off=>if(lo=none/\hi=none/\mx=none)/\P.cellsOf e=1/\off+n<=cs.length/\n<=9223372036854775807 then some (.sl none ((cs.drop off).take n))else none
 |_,_=>none
def Wd(P:Program)(t:TypeId)(x:AV)(lo hi mx:Option Int)(H:cj):Option AV :=
 match P.underlying t,x with
 |some (.array n e),.ptr o off=>match H[o]? with
  |some (some cs)=>if(lo=none/\hi=none/\mx=none)/\n<=9223372036854775807/\(P.info? e).isSome=true/\off+n*P.cellsOf e<=cs.length then some (.msl o off n (P.cellsOf e))else none
  |_=>none
 |some (.slice e),.sl _ _=>if(lo=none/\hi=some 0/\mx=some 0)/\(P.info? e).isSome=true then some (.sl (some 0) [])else none
 |_,_=>none
def jX{P:Program}{t:TypeId}{x v:AV}{lo hi mx:Option Int}{H:cj}{R:AV->Prop}(h:Wd P t x lo hi mx H=some v)(hr:R v):KF P t x lo hi mx H R:=by
 unfold Wd at h
 unfold KF
 split at h
 ·rename_i hu
  split at h
  ·rename_i cs ho
   obtain⟨h1,h2⟩:=KN h
   cases h2
   simp only[hu,ho]
   exact⟨h1.1,h1.2.1,h1.2.2.1,h1.2.2.2,hr⟩
  ·cases h
 ·rename_i hu
  obtain⟨h1,h2⟩:=KN h
  cases h2
  simp only[hu]
  exact⟨h1.1,h1.2,hr⟩
 ·cases h
def rQ{es:List AV}{k:Nat}(h:es.all (λx=>x.cells.length==k)=true): ∀x∈es,x.cells.length=k:=λx hx=>by
 have:=Am.1 h x hx
 simpa using this
def o6{P:Program}{t:TypeId}{x v:AV}{lo hi mx:Option Int}{R:AV->Prop}(h:bP P t x lo hi mx=some v)(hr:R v):N7 P t x lo hi mx R:=by
 unfold bP at h
 unfold N7
 split at h
 ·rename_i hu
  simp only[hu]
  obtain⟨h1,h2⟩:=KN h
  cases h2
  exact⟨h1.1,h1.2.1,h1.2.2.1,h1.2.2.2,hr⟩
 ·rename_i hu
  simp only[hu]
  obtain⟨⟨h1,h2,h3,h4,h5⟩,h⟩:=KN h
  refine⟨h1,h2,h3,rQ h4,h5, ?_⟩
  split at h
  ·cases h;exact hr
  ·obtain⟨h6,h⟩:=KN h
   cases h;exact⟨h6.1,h6.2,hr⟩
 ·rename_i hu
  simp only[hu]
  obtain⟨h1,h⟩:=KN h
  cases h
  exact⟨h1,hr⟩
 ·rename_i hu
  simp only[hu]
  obtain⟨⟨h1,h2,h3⟩,h⟩:=KN h
  refine⟨h1,h2,h3, ?_⟩
  split at h
  ·rename_i ha
   simp only[ha]
   obtain⟨⟨g1,g2,g3⟩,h⟩:=KN h
   cases h;exact⟨g1,g2,g3,hr⟩
  ·cases h
 ·rename_i hu
  simp only[hu]
  obtain⟨h1,h⟩:=KN h
  cases h
  exact⟨h1.1,h1.2.1,h1.2.2.1,h1.2.2.2,hr⟩
 ·cases h
def ABB:AV->Bool
 |.sl (some _) _=>false
 |_=>true
def ABA{cs:List AV}(h:cs.all ABB=true):cs.map borrow1=cs:=by
 induction cs with
 |nil=>rfl
 |cons c cs ih =>
  simp only[List.all_cons,AM]at h
  rw[List.map_cons,ih h.2]
  congr 1
  have h1:=h.1
  cases c<;>try rfl
  rename_i w es
  cases w
  ·rfl
  ·simp[ABB]at h1
def Wk(P:Program)(e:TypeId)(mt ln:Bool)(H:cj)(a:AV)(xs:List AV):Option (AV×cj) :=
 if xs.all (λx=>x.cells.length==P.cellsOf e)=true then
  match mt,a with
  |false,.sl own es=>if own=some (P.cellsOf e)/\(es.length+xs.length)*P.bytesOf e<=140737488355328/\es.length+xs.length<=9223372036854775807 then some (.sl (bif ln then none else some (P.cellsOf e)) (es++xs),H)else none
  |true,.msl ob off len sz=>match H[ob]? with
   | some (some cs)=>if off=0/\cs.length=len*sz/\cs.all ABB=true/\sz=P.cellsOf e/\(len+xs.length)*P.bytesOf e<=140737488355328/\len+xs.length<=9223372036854775807 then
     some (.msl H.length 0 (len+xs.length) (P.cellsOf e),H.set ob none++[some (cs++(HP xs).map borrow1)])else none
   |_=>none
  |true,.sl (some 0) []=>if 0<xs.length/\xs.length*P.bytesOf e<=140737488355328/\xs.length<=9223372036854775807 then some (.msl H.length 0 xs.length (P.cellsOf e),H++[some ((HP xs).map borrow1)])else none
  |_,_=>none
 else none
def jl{P:Program}{e:TypeId}{mt ln:Bool}{H:cj}{a:AV}{xs:List AV}{v:AV}{H':cj}{R:AV->cj->Prop}(h:Wk P e mt ln H a xs=some (v,H'))(hr:R v H'):N9 P e mt ln H a xs R:=by
 unfold Wk at h
 unfold N9
 obtain⟨h0,h⟩:=KN h
 refine⟨rQ h0, ?_⟩
 split at h
 ·obtain⟨⟨h1,h2,h3⟩,h⟩:=KN h
  cases h
  exact⟨h1,h2,h3,hr⟩
 ·split at h
  ·rename_i hob
   obtain⟨⟨h1,h2,h3,h4,h5,h6⟩,h⟩:=KN h
   cases h
   refine⟨h1,h4,h5,h6, ?_⟩
   simp only[hob]
   exact⟨h2,ABA h3,hr⟩
  ·cases h
 ·obtain⟨⟨h1,h2,h3⟩,h⟩:=KN h
  cases h
  exact⟨h1,h2,h3,hr⟩
 ·cases h
def ABa(k:IntKind):AV->Bool
 |.int k' _=>decide (k'=k)
 |_=>false
def AIc:AV->Bool
 |.str _=>true
 |_=>false
def qi(P:Program)(wk:List TypeId)(kt:TypeId)(ks:List AV):Bool :=
 match P.underlying kt with
 |some (.int k)=>ks.all (ABa k)
 |some .string=>ks.all AIc
 |some _=>wk.contains kt&&ks.all λa=>match Sz a with
  |some v=>(keyOf P kt v).isSome
  |none=>false
 |none=>false
def bc(P:Program)(wk:List TypeId):Prop:=∀kt∈wk,WideMaps.KeyLaw P kt
def gR{P:Program}{wk:List TypeId}{kt:TypeId}{ks:List AV}(hw:bc P wk)(h:qi P wk kt ks=true):Mq P kt ks:=by
 unfold qi at h
 split at h
 ·rename_i k hk
  refine⟨_,KLaw.plain hk,λa ha=>?_⟩
  have:=Am.1 h a ha
  cases a<;>first|cases this|skip
  rename_i k' n
  exact⟨_,rfl,(by simpa [ABa]using this:k'=k)⟩
 ·rename_i hk
  refine⟨_,KLaw.plain hk,λa ha=>?_⟩
  have:=Am.1 h a ha
  cases a<;>first|cases this|skip
  exact⟨_,rfl,tV⟩
 ·simp only[AM]at h
  refine⟨_,KLaw.wide (hw kt (by simpa using h.1)),λa ha=>?_⟩
  have:=Am.1 h.2 a ha
  split at this
  ·rename_i v hv
   exact⟨v,hv,Option.isSome_iff_exists.1 this⟩
  ·cases this
 ·cases h
def ZF(es:List (AV×AV)):Bool:=match es with
 |[]=>true
 |p::es=>es.all (λq => !Hr p.1 q.1)&&ZF es
def WI{es:List (AV×AV)}(h:ZF es=true):Rx es:=by
 induction es with
 |nil=>exact List.Pairwise.nil
 |cons p es ih =>
  simp only[ZF,AM]at h
  exact List.Pairwise.cons (λq hq=>by simpa using Am.1 h.1 q hq) (ih h.2)
def bT(P:Program)(t:TypeId)(H:cj)(x:AV):Option (AV×cj) :=
 match P.underlying t,x with
 |some .string,.str s=>some (.it H.length,H++[some (Vz s 0)])
 |some (.map _ _),.nilm=>some (.it H.length,H++[some [.nilm]])
 |some (.map _ _),.mapr o'=>match Is H (.mapr o')with
  |some es=>some (.it H.length,H++[some (Ti o' es.length [])])
  |none=>none
 |_,_=>none
def o8{P:Program}{t:TypeId}{H:cj}{x v:AV}{H':cj}{R:AV->cj->Prop}(h:bT P t H x=some (v,H'))(hr:R v H'):RA P t H x R:=by
 unfold bT at h
 unfold RA
 split at h
 ·rename_i hu;simp only[hu];cases h;exact hr
 ·rename_i hu;simp only[hu];cases h;exact hr
 ·rename_i hu
  simp only[hu]
  split at h
  ·rename_i es he
   simp only[he];cases h;exact hr
  ·cases h
 ·cases h
def SU(n:Nat)(seen:List AV):List Nat:=(Ak n).filter λi => !(SW seen).contains (i:Int)
def pG(str:Bool)(H:cj)(o':Nat):Option (AV×cj) :=
 match str,H[o']? with
 |true,some (some [.str s,.int .i64 pos]) =>
  if pos.toNat<s.size then some (.tup [.bool true,.int .i64 pos.toNat,.int .i32 (Utf8.decode s pos.toNat).1],H.set o' (some (Vz s ((pos.toNat+(Utf8.decode s pos.toNat).2:Nat):Int))))
  else some (.tup [.bool false],H)
 |false,some (some [.nilm])=>some (.tup [.bool false],H)
 | false,some (some [.mapr m,.int .i64 since,.tup seen])=>match Is H (.mapr m) with
  | some es=>if since=es.length then match SU es.length seen with
   |[]=>some (.tup [.bool false],H)
   |[i]=>match es[i]? with
    |some p=>some (.tup [.bool true,p.1.borrow,p.2.borrow],H.set o' (some [.mapr m,.int .i64 since,.tup (seen++[.int .i64 i])]))
    |none=>none
   |_=>none
   else none
  |none=>none
 |_,_=>none
def Qk{n:Nat}{seen:List AV}{i:Nat}:i∈SU n seen↔i<n/\(i:Int)∉SW seen:=by
 simp[SU,List.mem_filter]
def yS{str:Bool}{H:cj}{o':Nat}{v:AV}{H':cj}{R:AV->cj->Prop}(h:pG str H o'=some (v,H'))(hr:R v H'):Wf str H o' R:=by
 unfold pG at h
 unfold Wf
 split at h
 ·rename_i ho
  simp only[ho]
  split at h
  ·rename_i hc;rw[iP hc];cases h;exact hr
  ·rename_i hc;rw[iN hc];cases h;exact hr
 ·rename_i ho;simp only[ho];cases h;exact hr
 ·rename_i m since seen ho
  simp only[ho]
  split at h
  ·rename_i es he
   simp only[he]
   obtain⟨hs,h⟩:=KN h
   refine⟨hs, ?_⟩
   split at h
   ·rename_i hun
    cases h
    refine⟨λ_=>hr,λi p hp hns=>?_⟩
    have:i∈SU es.length seen:=Qk.2 ⟨(AC.1 hp).1,hns⟩
    rw[hun]at this;cases this
   ·rename_i i hun
    have hi:i∈SU es.length seen:=by rw[hun];exact Ab.2 rfl
    obtain⟨hi1,hi2⟩:=Qk.1 hi
    split at h
    ·rename_i p hp
     cases h
     refine⟨λhall=>absurd (hall i hi1) hi2,λj q hq hns=>?_⟩
     have:j∈SU es.length seen:=Qk.2 ⟨(AC.1 hq).1,hns⟩
     rw[hun]at this
     obtain rfl:=Ab.1 this
     rw[hp]at hq;cases hq
     exact hr
    ·cases h
   ·cases h
  ·cases h
 ·cases h
def bX(H:cj)(o':Nat):Option (AV×cj) :=
 match H[o']? with
 | some (some [.mapr m,.int .i64 since,.tup seen])=>match Is H (.mapr m),seen.getLast? with
  |some es,some (.int .i64 i)=>if since=es.length then match es[i.toNat]? with
   |some p=>some (.tup [p.1.borrow,p.2.borrow],H)
   |none=>none
   else none
  |_,_=>none
 |_=>none
def pJ{H:cj}{o':Nat}{v:AV}{H':cj}{R:AV->cj->Prop}(h:bX H o'=some (v,H'))(hr:R v H'):TC H o' R:=by
 unfold bX at h
 unfold TC
 split at h
 ·rename_i m since seen ho
  simp only[ho]
  split at h
  ·rename_i es i he hl
   simp only[he,hl]
   obtain⟨hs,h⟩:=KN h
   refine⟨hs, ?_⟩
   split at h
   ·rename_i p hp
    cases h
    exact⟨p,hp,hr⟩
   ·cases h
  ·cases h
 ·cases h
def rN(P:Program)(wk:List TypeId)(h:Ef)(o:Oper)(vals:List AV)(H:cj):Option (AV×cj) :=
 match o.op,vals with
 |.move _,[a]=>some (a,H)
 |.assign _,[a]=>some (a,H)
 |.pick _ _ _,[.bool c,a,b]=>some (if c=true then a else b,H)
 |.box _ _,[a]=>if a.isVal=true then some (.ptr H.length 0,H++[some a.cells])else none
 |.alloc e,[]=>match o.dst.any h.mt.contains,Fk P e with
  |false,some z=>some (.ptr H.length 0,H++[some z.cells])
  |_,_=>none
 |.build t ps,vs=>(ST P t (ps.toList.map (·.1)) vs).map λv=>(v,H)
 | .buildSlice t len ps,vs =>
  match P.underlying t with
  | some (.slice e)=>if 0<P.cellsOf e/\len*P.cellsOf e<=16777216/\ps.toList.map (·.1)=Ak len/\vs.all (λv=>v.isVal&&v.cells.length==P.cellsOf e)=true/\GW P e=true then
    match o.dst.any h.mt.contains with
    |true=>some (.msl H.length 0 len (P.cellsOf e),H++[some (HP (vs.map AV.borrow))])
    |false=>some (.sl (some (P.cellsOf e)) (vs.map AV.borrow),H)
   else none
  |_=>none
 | .makeSlice t _ _,[.int _ n,.int _ c] =>
  match P.underlying t with
  | some (.slice e)=>if n=c/\0<=n/\n*P.bytesOf e<=140737488355328/\n<=9223372036854775807/\(P.info? e).isSome=true then
    match Fk P e with
    |some z=>if z.cells.length=P.cellsOf e/\0<P.cellsOf e then some (.msl H.length 0 n.toNat (P.cellsOf e),H++[some (List.replicate n.toNat z.cells).flatten])else none
    |none=>none
   else none
  |_=>none
 |.load t _,[a]=>YW P (o.dst.any h.tk.contains) t a H
 |.store t _ _,[a,v]=>(Uv P t a v H).map λH'=>(.undef,H')
 |.nilCheck _,[a]=>(zR a).map λv=>(v,H)
 |.binOp op t _ y _,[a,b]=>match Kw y with
  |true=>(aE P op t a).map λv=>(v,H)
  |false=>(bZ P op t a b).map λv=>(v,H)
 |.unOp op _ _,[a]=>(vUn op a).map λv=>(v,H)
 |.convert src dst _,[a] =>
  match P.underlying src,P.underlying dst,a with
  |some _,some (.int k),.int _ n=>some (.int k (k.wrap n),H)
  |some .string,some .string,.str s=>some (.str s,H)
  |some (.slice e),some .string,.sl _ es=>if(match P.underlying e with|some (.int .u8)=>true|_=>false)=true/\es.all Oz=true then some (.str (Pu es),H)else none
  |_,_,_=>none
 |.makeFunc fn first _,vs=>some (.fn fn (vs.take first.size) (vs.drop first.size),H)
 | .slice t _ lo hi mx,x::rest =>
  match Pv lo.isSome hi.isSome mx.isSome rest with
  |some (l,hh,m)=>match o.dst.any h.mt.contains with
   |true=>(Wd P t x l hh m H).map λv=>(v,H)
   |false=>(bP P t x l hh m).map λv=>(v,H)
  |none=>none
 |.fieldAddr s _ f,[x]=>(SS P (fieldAt P s f) x).map λv=>(v,H)
 |.field t _ f,[x]=>(YV P (fieldAt P t f) x).map λv=>(v,H)
 |.extract _ i,[x]=>(OZ x i).map λv=>(v,H)
 |.indexAddr t _ _,[x,i]=>(Lv P (P.underlying t) x i).map λv=>(v,H)
 |.index t _ _,[x,i]=>(Uw P (P.underlying t) x i).map λv=>(v,H)
 |.makeMap _ none,[]=>some (.mapr H.length,H++[some (J6 [])])
 |.range t _,[x]=>bT P t H x
 |.next _ str,[.it o']=>pG str H o'
 |.entry _,[.it o']=>bX H o'
 | .lookup t _ _ ok,[m,k] =>
  match P.underlying t with
  | some (.map kt et)=>match Is H m with
   | some es=>if qi P wk kt (k::es.map (·.1))=true/\ZF es=true then
     match Fk P et with
     |some z=>some (fj ok z (JG k es 0),H)
     |none=>none
    else none
   |none=>none
  |_=>none
 | .mapUpdate t _ _ _,[.mapr o',k,v] =>
  match P.underlying t with
  |some (.map kt _)=>match Is H (.mapr o')with
   |some es=>if qi P wk kt (k::es.map (·.1))=true/\ZF es=true/\v.isVal=true then some (.undef,H.set o' (some (J6 (Mn es k v))))else none
   |none=>none
  |_=>none
 | .call c,vs =>
  match c.callee with
  |.builtin .len=>match vs with
   |[x]=>(zS (c.argTypes[0]?.bind P.underlying) x).map λv=>(v,H)
   |_=>none
  | .builtin .append=>match vs,c.argTypes.toList with
   | [a,b],[t,t']=>if t=t' then match P.underlying t with
    |some (.slice e)=>if 0<P.cellsOf e/\GW P e=true then match S' P e (o.dst.any h.mt.contains||o.dst.any h.tk.contains) H b with
     |some xs=>Wk P e (o.dst.any h.mt.contains) (o.dst.any h.pc.contains) H a xs
     |none=>none
     else none
    |_=>none
    else none
   |_,_=>none
  |.builtin .min=>match vs with
   |[.int k a,.int k' b]=>if k=k' then some (.int k (if b<a then b else a),H)else none
   |_=>none
  |.builtin .max=>match vs with
   |[.int k a,.int k' b]=>if k=k' then some (.int k (if b>a then b else a),H)else none
   |_=>none
  | .builtin .clear=>match vs,c.argTypes.toList with
   | [.msl ob off len sz],[t]=>match P.underlying t with
    |some (.slice e)=>match H[ob]?,Fk P e with
     |some (some cs),some z=>if sz=z.cells.length/\0<len/\off+len*sz<=cs.length then some (.tup [],H.set ob (some (splice cs off (Gb z len))))else none
     |_,_=>none
    |_=>none
   |_,_=>none
  |_=>none
 |_,_=>none
def M'{α β:Type}{x:Option α}{f:α->β}{y:β}(h:x.map f=some y): ∃a,x=some a/\f a=y:=by
 cases x with
 |none=>cases h
 |some a=>exact⟨a,rfl,by simpa using h⟩
set_option maxHeartbeats 1000000 in
def ADJ{P:Program}{wk:List TypeId}(hw:bc P wk){h:Ef}{o:Oper}{vals:List AV}{H:cj}{v:AV}{H':cj}{R:AV->cj->Prop}(hx:rN P wk h o vals H=some (v,H'))(hr:R v H'):Fh P h o vals H R:=by
 unfold rN at hx
 split at hx<;>rename_i heq
 ·cases hx;simp only[Fh,heq];exact hr
 ·cases hx;simp only[Fh,heq];exact hr
 ·cases hx;simp only[Fh,heq];exact hr
 ·obtain⟨h1,h2⟩:=KN hx
  cases h2;simp only[Fh,heq];exact⟨h1,hr⟩
 ·split at hx
  ·rename_i z hm hz
   cases hx;simp only[Fh,heq,hm];exact⟨z,hz,hr⟩
  ·cases hx
 ·obtain⟨a,h1,h2⟩:=M' hx
  cases h2
  unfold ST at h1
  simp only[Fh,heq]
  split at h1
  ·rename_i fs hu
   simp only[hu]
   obtain⟨g1,h1⟩:=KN h1
   split at h1
   ·rename_i z hz
    obtain⟨cs,g2,rfl⟩:=M' h1
    exact⟨z,cs,g1,hz,g2,hr⟩
   ·cases h1
  ·rename_i n e hu
   simp only[hu]
   obtain⟨g1,h1⟩:=KN h1
   split at h1
   ·rename_i z hz
    obtain⟨cs,g2,rfl⟩:=M' h1
    exact⟨z,cs,g1,hz,g2,hr⟩
   ·cases h1
  ·cases h1
 ·split at hx
  ·rename_i e hu
   obtain⟨⟨g1,g2,g3,g4,g5⟩,hx⟩:=KN hx
   simp only[Fh,heq,hu]
   refine⟨g1,g2,g3,λx hx'=>?_,g5, ?_⟩
   ·have:=Am.1 g4 x hx'
    simpa using this
   ·split at hx
    ·rename_i hm
     cases hx;simp only[hm];exact hr
    ·rename_i hm
     cases hx;simp only[hm];exact hr
  ·cases hx
 ·split at hx
  ·rename_i e hu
   obtain⟨⟨g1,g2,g3,g4,g5⟩,hx⟩:=KN hx
   split at hx
   ·rename_i z hz
    obtain⟨⟨g6,g7⟩,hx⟩:=KN hx
    cases hx
    simp only[Fh,heq,hu]
    exact⟨g1,g2,g3,g4,g5,z,hz,g6,g7,hr⟩
   ·cases hx
  ·cases hx
 · -- load
  unfold YW at hx
  split at hx
  ·split at hx
   ·rename_i cs hob
    split at hx
    ·rename_i x hl
     split at hx
     ·rename_i htk
      obtain⟨⟨g1,g2⟩,hx⟩:=KN hx
      cases hx
      simp only[Fh,heq,hob,hl,htk]
      exact⟨g1,g2,hr⟩
     ·rename_i htk
      cases hx
      simp only[Fh,heq,hob,hl,htk]
      exact hr
    ·cases hx
   ·cases hx
  ·split at hx
   ·rename_i x hl
    cases hx
    simp only[Fh,heq,hl]
    exact hr
   ·cases hx
  ·cases hx
 · -- store
  obtain⟨a,h1,h2⟩:=M' hx
  cases h2
  unfold Uv at h1
  split at h1
  ·split at h1
   ·rename_i cs hob
    obtain⟨⟨g1,g2,g3,g4⟩,h1⟩:=KN h1
    cases h1
    simp only[Fh,heq,hob]
    exact⟨g1,g2,g3,g4,hr⟩
   ·cases h1
  ·cases h1
 ·obtain⟨a,h1,h2⟩:=M' hx
  cases h2
  unfold zR at h1
  split at h1<;>cases h1<;>(simp only[Fh,heq];exact hr)
 ·split at hx
  ·rename_i hn
   obtain⟨a,h1,h2⟩:=M' hx
   cases h2
   simp only[Fh,heq,hn]
   exact mZ h1 hr
  ·rename_i hn
   obtain⟨a,h1,h2⟩:=M' hx
   cases h2
   simp only[Fh,heq,hn]
   exact pM h1 hr
 ·obtain⟨a,h1,h2⟩:=M' hx
  cases h2
  unfold vUn at h1
  split at h1<;>cases h1<;>(simp only[Fh,heq];exact hr)
 ·split at hx
  ·rename_i g1 g2
   cases hx
   simp only[Fh,heq,g1,g2];exact hr
  ·rename_i g1 g2
   cases hx
   simp only[Fh,heq,g1,g2];exact hr
  ·rename_i g1 g2
   obtain⟨⟨g3,g4⟩,hx⟩:=KN hx
   cases hx
   simp only[Fh,heq,g1,g2]
   refine⟨?_,λx hx'=>Am.1 g4 x hx',hr⟩
   split at g3
   ·assumption
   ·cases g3
  ·cases hx
 ·cases hx;simp only[Fh,heq];exact hr
 ·split at hx
  ·rename_i hb
   split at hx
   ·rename_i hm
    obtain⟨a,h1,h2⟩:=M' hx
    cases h2
    simp only[Fh,heq,hb,hm]
    exact jX h1 hr
   ·rename_i hm
    obtain⟨a,h1,h2⟩:=M' hx
    cases h2
    simp only[Fh,heq,hb,hm]
    exact o6 h1 hr
  ·cases hx
 ·obtain⟨a,h1,h2⟩:=M' hx
  cases h2
  unfold SS fieldAt at h1
  simp only[Fh,heq]
  split at h1
  ·rename_i fd hfd
   split at hfd
   ·rename_i fs hu
    simp only[hu,hfd]
    obtain⟨g1,h1⟩:=KN h1
    refine⟨g1, ?_⟩
    unfold rl at h1
    split at h1<;>cases h1<;>exact hr
   ·cases hfd
  ·cases h1
 ·obtain⟨a,h1,h2⟩:=M' hx
  cases h2
  unfold YV fieldAt at h1
  split at h1
  ·rename_i fd cs hfd
   split at hfd
   ·rename_i fs hu
    simp only[Fh,heq,hu,hfd,h1]
    exact hr
   ·cases hfd
  ·cases h1
 ·obtain⟨a,h1,h2⟩:=M' hx
  cases h2
  unfold OZ at h1
  split at h1
  ·simp only[Fh,heq]
   exact⟨_,h1,hr⟩
  ·cases h1
 ·obtain⟨a,h1,h2⟩:=M' hx
  cases h2
  unfold Lv at h1
  split at h1
  ·split at h1
   ·rename_i e own es hu
    obtain⟨g1,h1⟩:=KN h1
    simp only[Fh,heq,hu]
    obtain⟨x,g2,h1⟩:=CD.1 h1
    obtain⟨⟨g3,g4⟩,h1⟩:=KN h1
    cases h1
    exact⟨g1,x,g2,g3,g4,hr⟩
   ·rename_i hu
    obtain⟨⟨g1,g2,g3,g4⟩,h1⟩:=KN h1
    cases h1
    simp only[Fh,heq,hu]
    exact⟨g1,g2,g3,g4,hr⟩
   ·rename_i hu
    obtain⟨⟨g1,g2,g3⟩,h1⟩:=KN h1
    cases h1
    simp only[Fh,heq,hu]
    exact⟨g1,g2,g3,hr⟩
   ·rename_i hu
    obtain⟨⟨g1,g2,g3⟩,h1⟩:=KN h1
    cases h1
    simp only[Fh,heq,hu]
    exact⟨g1,g2,g3,hr⟩
   ·cases h1
  ·cases h1
 ·obtain⟨a,h1,h2⟩:=M' hx
  cases h2
  unfold Uw at h1
  split at h1
  ·split at h1
   ·rename_i hu
    obtain⟨⟨g1,g2⟩,h1⟩:=KN h1
    cases h1
    simp only[Fh,heq,hu]
    exact⟨g1,g2,hr⟩
   ·rename_i hu
    obtain⟨⟨g1,g2,g3⟩,h1⟩:=KN h1
    simp only[Fh,heq,hu]
    exact⟨g1,g2,g3,_,h1,hr⟩
   ·cases h1
  ·cases h1
 ·cases hx;simp only[Fh,heq];exact hr
 ·simp only[Fh,heq];exact o8 hx hr
 ·simp only[Fh,heq];exact yS hx hr
 ·simp only[Fh,heq];exact pJ hx hr
 ·split at hx
  ·rename_i hu
   split at hx
   ·rename_i es he
    obtain⟨⟨g1,g2⟩,hx⟩:=KN hx
    split at hx
    ·rename_i z hz
     cases hx
     simp only[Fh,heq,hu,he]
     exact⟨gR hw g1,WI g2,z,hz,hr⟩
    ·cases hx
   ·cases hx
  ·cases hx
 ·split at hx
  ·rename_i hu
   split at hx
   ·rename_i es he
    obtain⟨⟨g1,g2,g3⟩,hx⟩:=KN hx
    cases hx
    simp only[Fh,heq,hu,he]
    exact⟨gR hw g1,WI g2,g3,hr⟩
   ·cases hx
  ·cases hx
 ·rename_i c
  split at hx
  ·rename_i hcal
   split at hx
   ·obtain⟨a,h1,h2⟩:=M' hx
    cases h2
    unfold zS at h1
    split at h1<;>cases h1<;>(rename_i hu;simp only[Fh,heq,hcal,hu];exact hr)
   ·cases hx
  ·rename_i hcal
   split at hx
   ·rename_i hat
    obtain⟨g0,hx⟩:=KN hx
    split at hx
    ·rename_i e hu
     obtain⟨⟨g1,g2⟩,hx⟩:=KN hx
     split at hx
     ·rename_i xs hs
      simp only[Fh,heq,hcal,hat,iP g0,hu,hs]
      exact⟨g1,g2,jl hx hr⟩
     ·cases hx
    ·cases hx
   ·cases hx
  ·rename_i hcal
   split at hx
   ·obtain⟨g1,hx⟩:=KN hx
    cases hx
    simp only[Fh,heq,hcal]
    exact⟨g1,hr⟩
   ·cases hx
  ·rename_i hcal
   split at hx
   ·obtain⟨g1,hx⟩:=KN hx
    cases hx
    simp only[Fh,heq,hcal]
    exact⟨g1,hr⟩
   ·cases hx
  ·rename_i hcal
   split at hx
   ·rename_i hat
    split at hx
    ·rename_i e hu
     split at hx
     ·rename_i cs z ho hz
      obtain⟨⟨g1,g2,g3⟩,hx⟩:=KN hx
      cases hx
      simp only[Fh,heq,hcal,hat,hu,ho]
      exact⟨z,hz,g1,g2,g3,hr⟩
     ·cases hx
    ·cases hx
   ·cases hx
  ·cases hx
 ·cases hx
end Go.AI
namespace Go.AI
inductive Task where
 |call (f:FuncId) (vs:List AV) (H:cj)
 |yld (o:Nat) (L:LoopRec) (ys:List AV) (H:cj)
 |code (hf:FuncId) (n:Nat) (ar:Option Nat) (c:Code) (e:Fs) (H:cj)
 |ops (hf:FuncId) (n:Nat) (os:Array Oper) (l:List Oper) (e:Fs) (H:cj)
inductive ROut where
 |val (v:AV) (H:cj)
 |st (ex:Exit) (e:Fs) (H:cj)
structure EvT where
 tb:FuncId->Option Func
 hs:FuncId->Ef
 wk:List TypeId
 orc:FuncId->List AV->cj->Option (AV×cj)
def Nr(H:cj)(o:Nat):Option (Int×List AV) :=
 match H[o]? with
 |some (some [.tup [.int .i64 st],.tup av])=>some (st,av)
 |_=>none
def Pd{H:cj}{o:Nat}{st:Int}{av:List AV}(h:Nr H o=some (st,av)):H[o]? =some (some (G8 st av)):=by
 unfold Nr at h
 split at h
 ·rename_i hh;cases h;exact hh
 ·cases h
def dt(P:Program)(n:Nat):List ResultVar->Fs->cj->Option (List AV×cj)
 |[],_,H=>some ([],H)
 |.tmp t::rs,e,H=>if t<n then(dt P n rs (NO P none true (.tmp t) e).2 H).map λr=>((NO P none true (.tmp t) e).1::r.1,r.2)else none
 | .cell t ty::rs,e,H=>if t<n then match qD P ty (Fr e t) H with
   |some (v,H')=>(dt P n rs e H').map λr=>(v::r.1,r.2)
   |none=>none
  else none
def z6:List AV->Option AV
 |[v]=>some v
 |vs=>if vs.all AV.isVal=true then some (.tup vs)else none
def bR(ar:Option Nat)(H:cj):Bool :=
 match ar with
 |none=>true
 |some o=>match H[o]? with
  |some (some _)=>true
  |_=>false
def AUx(n:Nat):Option Tmp->Bool
 |some d=>decide (d<n)
 |none=>true
def U2(P:Program)(T:EvT)(ih:Task->Option ROut)(f:FuncId)(vs:List AV)(H:cj):Option ROut :=
 match T.orc f vs H with
 |some (v,H')=>some (.val v H')
 | none=>match T.tb f with
  | some fn=>match fn.body with
   | some c=>if vs.length<=fn.ntmps then
     match ih (.code f fn.ntmps none c (GR 0 vs) H)with
     |some (.st .normal e H')=>(dt P fn.ntmps fn.results.toList e H').bind λr=>(z6 r.1).map λv => .val v r.2
     |some (.st .ret e H')=>(dt P fn.ntmps fn.results.toList e H').bind λr=>(z6 r.1).map λv => .val v r.2
     |_=>none
    else none
   |none=>none
  |none=>none
def Zm(T:EvT)(ih:Task->Option ROut)(o:Nat)(L:LoopRec)(ys:List AV)(H:cj):Option ROut :=
 match T.tb L.tag,Nr H o with
 | some fn,some (st,av) =>
  if st=0/\av.length=fn.ntmps/\L.ps.toList.length=ys.length/\L.ps.toList.all (λp=>decide (p<fn.ntmps))=true/\Ga (T.hs L.tag) L.assign=true/\Ga (T.hs L.tag) L.body=true then
   match ih (.code L.tag fn.ntmps (some o) L.assign (K3 av L.ps.toList ys (GR 0 av)) H)with
   | some (.st .normal e2 H2)=>match Nr H2 o with
    | some (st2,av2)=>if st2=0 then
      match ih (.code L.tag fn.ntmps (some o) L.body e2 (H2.set o (some (G8 (-1) av2))))with
      | some (.st ex _ H3)=>match Nr H3 o with
       | some (st3,av3)=>if st3 = -1 then match ex with
         |.normal=>some (.val (.bool true) (H3.set o (some (G8 0 av3))))
         |.ret=>some (.val (.bool false) (H3.set o (some (G8 (-2) av3))))
         |.exit k=>some (.val (.bool false) (H3.set o (some (G8 ((k:Int)+1) av3))))
         |_=>none
        else none
       |none=>none
      |_=>none
     else none
    |none=>none
   |_=>none
  else none
 |_,_=>none
def o_(P:Program)(h:Ef)(o o':Oper)(e:Fs):Bool :=
 match KH P h o,KH P h o' with
 |some (a,k,s),some (b,l,s')=>(s||s')&&match Fr e a,Fr e b with
  |.ptr o1 f1,.ptr o2 f2 => !(o1==o2)||(decide (f1+k<=f2)||decide (f2+l<=f1))
  |_,_=>false
 |_,_=>false
def Ae3(P:Program)(h:Ef)(ops:Array Oper)(e:Fs):Bool:=(Rv h ops).all λp=>o_ P h p.1 p.2 e
def K2(P:Program)(T:EvT)(ih:Task->Option ROut)(hf:FuncId)(n:Nat)(ar:Option Nat)(c:Code)(e:Fs)(H:cj):Option ROut :=
 match c with
 |.skip=>some (.st .normal e H)
 |.ret=>some (.st .ret e H)
 |.exit id=>some (.st (.exit id) e H)
 | .region id ops _=>match ih (.ops hf n ops ((T.hs hf).ord id ops) e H) with
  | some (.st .normal e1 H1) =>
   if(!((T.hs hf).da id)||Ae3 P (T.hs hf) ops e1)=true then
    match Kf ((T.hs hf).at id) (Hf ((T.hs hf).lv id) e1) H1 with
    |(e2,H2)=>some (.st .normal e2 (T9 ((T.hs hf).ct id) e2 H2))
   else none
  |_=>none
 |.seq a b=>match ih (.code hf n ar a e H)with
  |some (.st .normal e1 H1)=>ih (.code hf n ar b e1 H1)
  |r=>r
 |.cond c a b=>match G6 P none e c with
  |.bool t=>if t=true then ih (.code hf n ar a e H)else ih (.code hf n ar b e H)
  |_=>none
 |.block id c=>match ih (.code hf n ar c e H)with
  |some (.st (.exit j) e1 H1)=>if j=id then some (.st .normal e1 H1)else some (.st (.exit j) e1 H1)
  |r=>r
 |.loop c=>match ih (.code hf n ar c e H)with
  |some (.st .normal e1 H1)=>ih (.code hf n ar (.loop c) e1 H1)
  |r=>r
 | .rangeFunc g ps assign body=>match G6 P none e g with
  | .fn (.func f) first captured=>if bR ar H=true then
    match ih (.call f (first.map AV.borrow++[.yld H.length ⟨hf,ps,assign,body⟩]++captured.map AV.borrow) (H++[some (G8 0 (Hj n e))]))with
    |some (.val _ H2)=>match Nr H2 H.length with
     | some (st,_)=>if st=0 then some (.st .normal e (H2.set H.length none)) else if st = -2 then some (.st .ret e (H2.set H.length none)) else
       if 0<st then some (.st (.exit (st - 1).toNat) e (H2.set H.length none))else none
     |none=>none
    |_=>none
   else none
  |_=>none
 |_=>none
mutual
def IX:AV->AV->Bool
 |.int k n,b=>match b with | .int k' n'=>decide (k=k')&&n==n'|_=>false
 |.bool x,b=>match b with | .bool y=>x==y|_=>false
 |.str s,b=>match b with | .str t=>s.data.toList==t.data.toList|_=>false
 |.nilp,b=>match b with | .nilp=>true|_=>false
 |.ptr o x,b=>match b with | .ptr o' x'=>o==o'&&x==x'|_=>false
 |.cptr cs x,b=>match b with | .cptr cs' x'=>Oc cs cs'&&x==x'|_=>false
 |.sl w es,b=>match b with | .sl w' es'=>w==w'&&Oc es es'|_=>false
 |.msl o x l z,b=>match b with | .msl o' x' l' z'=>o==o'&&(x==x'&&(l==l'&&z==z'))|_=>false
 |.fn (.func f) x y,b=>match b with | .fn (.func f') x' y'=>f==f'&&(Oc x x'&&Oc y y')|_=>false
 |.nilf,b=>match b with | .nilf=>true|_=>false
 |.mapr o,b=>match b with | .mapr o'=>o==o'|_=>false
 |.nilm,b=>match b with | .nilm=>true|_=>false
 |.it o,b=>match b with | .it o'=>o==o'|_=>false
 |.nili,b=>match b with | .nili=>true|_=>false
 |.agg x,b=>match b with | .agg y=>Oc x y|_=>false
 |.tup x,b=>match b with | .tup y=>Oc x y|_=>false
 |.undef,b=>match b with | .undef=>true|_=>false
 |_,_=>false
def Oc:List AV->List AV->Bool
 |[],l=>match l with|[]=>true|_=>false
 |a::x,l=>match l with|b::y=>IX a b&&Oc x y|_=>false
end
mutual
def zq : ∀ (a b:AV),IX a b=true->a=b
 |.int k n,b,h=>by cases b<;>simp_all[IX]
 |.bool x,b,h=>by cases b<;>simp_all[IX]
 |.str s,b,h=>by
  cases b<;>simp[IX]at h
  rename_i t
  rw[ByteArray.ext h]
 |.nilp,b,h=>by cases b<;>simp_all[IX]
 |.ptr o x,b,h=>by cases b<;>simp_all[IX]
 |.cptr cs x,b,h=>by
  cases b<;>simp[IX]at h
  rw[JP _ _ h.1,h.2]
 |.sl w es,b,h=>by
  cases b<;>simp[IX]at h
  rw[JP _ _ h.2,h.1]
 |.msl o x l z,b,h=>by cases b<;>simp_all[IX]
 | .fn (.func f) x y,b,h=>by
  cases b with
  |fn g x' y' =>
   cases g<;>simp[IX]at h
   rw[JP _ _ h.2.1,JP _ _ h.2.2,h.1]
  |_=>simp[IX]at h
 |.nilf,b,h=>by cases b<;>simp_all[IX]
 |.mapr o,b,h=>by cases b<;>simp_all[IX]
 |.nilm,b,h=>by cases b<;>simp_all[IX]
 |.it o,b,h=>by cases b<;>simp_all[IX]
 |.nili,b,h=>by cases b<;>simp_all[IX]
 |.agg x,b,h=>by
  cases b<;>simp[IX]at h
  rw[JP _ _ h]
 |.tup x,b,h=>by
  cases b<;>simp[IX]at h
  rw[JP _ _ h]
 |.undef,b,h=>by cases b<;>simp_all[IX]
 |.yld o L,b,h=>by simp[IX]at h
 |.ifc t a,b,h=>by simp[IX]at h
 | .fn f x y,b,h=>by
  cases f with
  | func f =>
   cases b with
   |fn g x' y' =>
    cases g<;>simp[IX]at h
    rw[JP _ _ h.2.1,JP _ _ h.2.2,h.1]
   |_=>simp[IX]at h
  |_=>simp[IX]at h
def JP:∀(x y:List AV),Oc x y=true->x=y
 |[],l,h=>by cases l<;>simp_all[Oc]
 |a::x,l,h=>by
  cases l<;>simp[Oc]at h
  rw[zq _ _ h.1,JP _ _ h.2]
end
def eJ:cj->cj->Bool
 |[],_=>true
 | a::H,l=>match l with
  |b::H'=>(match a,b with
   |some x,some y=>Oc x y
   |none,none=>true
   |_,_=>false)&&eJ H H'
  |[]=>false
def eI:∀(H H':cj),eJ H H'=true -> ∃ext,H'=H++ext
 |[],H',_=>⟨H',rfl⟩
 | a::H,l,h=>by
  cases l with
  |nil=>simp[eJ]at h
  |cons b H' =>
   simp only[eJ,AM]at h
   obtain⟨ext,rfl⟩:=eI H H' h.2
   refine⟨ext, ?_⟩
   have h1:=h.1
   cases a<;>cases b<;>simp at h1
   ·rfl
   ·rw[JP _ _ h1];rfl
def Ua(T:EvT)(ih:Task->Option ROut)(hf:FuncId)(o:Oper)(vals:List AV)(H:cj):Option (AV×cj) :=
 match vals with
 | .fn (.func f) first captured::args =>
  match o.dst.any (T.hs hf).pc.contains with
  | true=>if FW (first.map AV.borrow++args++captured.map AV.borrow)=true then match ih (.call f (first.map AV.borrow++args++captured.map AV.borrow) []) with
    |some (.val v _)=>if v.pure=true then some (v,H)else none
    |_=>none
   else none
  |false=>match ih (.call f (first.map AV.borrow++args++captured.map AV.borrow) H)with
   |some (.val v H')=>if(!o.dst.any (T.hs hf).mt.contains||eJ H H')=true then some (v,H')else none
   |_=>none
 | .yld o' L::args =>
  match o.dst.any (T.hs hf).pc.contains||o.dst.any (T.hs hf).mt.contains with
  |true=>none
  |false=>match ih (.yld o' L args H)with
   |some (.val v H')=>some (v,H')
   |_=>none
 |_=>none
def Uj(o:Oper):Bool :=
 match o.op with
 |.call c=>match c.callee with
  |.value _=>true
  |_=>false
 |_=>false
def Zn(P:Program)(T:EvT)(ih:Task->Option ROut)(hf:FuncId)(n:Nat)(os:Array Oper)(l:List Oper)(e:Fs)(H:cj):Option ROut :=
 match l with
 |[]=>some (.st .normal e H)
 | o::l=>match lD os e o with
  | some true=>if AUx n o.dst=true then
    match OX P (HQ o) (F0 (T.hs hf) o) o.op.operands.toList e with
    | (vals,e1)=>match (match Uj o with
      |true=>Ua T ih hf o vals H
      |false=>rN P T.wk (T.hs hf) o vals H)with
     |some (v,H')=>ih (.ops hf n os l (put o.dst v e1) H')
     |none=>none
   else none
  |some false=>if AUx n o.dst=true then ih (.ops hf n os l (put o.dst (.tup []) e) H)else none
  |none=>none
def AGr(P:Program)(T:EvT)(ih:Task->Option ROut):Task->Option ROut
 |.call f vs H=>U2 P T ih f vs H
 |.yld o L ys H=>Zm T ih o L ys H
 |.code hf n ar c e H=>K2 P T ih hf n ar c e H
 |.ops hf n os l e H=>Zn P T ih hf n os l e H
noncomputable def XG(P:Program)(T:EvT)(k:Nat):Task->Option ROut:=Nat.rec (λ_=>none) (λ_ ih t=>AGr P T ih t) k
structure EvOk (P:Program) (T:EvT):Prop where
 mixed:P.follows .mixedOrders=true
 wide:bc P T.wk
 fn:∀f fn,T.tb f=some fn->P.funcs[f]? =some fn/\HS P f=true/\fn.body.any (Ga (T.hs f))=true/\(T.hs f).gc=[]
 orc:∀f vs H v H',T.orc f vs H=some (v,H')->Fa P f vs H λv2 H2=>v2=v/\H2=H'
def RI(P:Program)(T:EvT):Task->ROut->Prop
 |.call f vs H,.val v H'=>Fa P f vs H λv2 H2=>v2=v/\H2=H'
 |.yld o L ys H,.val v H'=>NR P o L ys H λv2 H2=>v2=v/\H2=H'
 |.code hf n ar c e H,.st ex e' H'=>JF P n (T.hs hf) ar c (λex2 e2 H2=>ex2=ex/\e2=e'/\H2=H') e H
 |.ops hf n os l e H,.st ex e' H'=>ex = .normal/\LO P n (T.hs hf) os l (λe2 H2=>e2=e'/\H2=H') e H
 |_,_=>False
section
variable{P:Program}{T:EvT}
def yH{h:Ef}{o o':Oper}{e:Fs}(hb:o_ P h o o' e=true):KG P h o o' e:=by
 unfold o_ at hb
 unfold KG
 generalize KH P h o=x at hb ⊢
 generalize KH P h o'=y at hb ⊢
 cases x with
 |none=>cases hb
 | some x=>cases y with
  |none=>cases hb
  |some y =>
   obtain⟨a,k,s⟩:=x
   obtain⟨b,l,s'⟩:=y
   dsimp only at hb ⊢
   simp only[AM,CF]at hb
   obtain⟨h1,h2⟩:=hb
   refine⟨h1, ?_⟩
   generalize Fr e a=u at h2 ⊢
   generalize Fr e b=w at h2 ⊢
   cases u<;>first|(cases h2;done)|skip
   cases w<;>first|(cases h2;done)|skip
   simpa using h2
def AFi{h:Ef}{ops:Array Oper}{e:Fs}(hb:Ae3 P h ops e=true):Jj P h ops e:=λp hp=>yH (Am.1 hb p hp)
def Uc{n:Nat}{K:List AV->cj->Prop}: ∀{rs:List ResultVar} {e:Fs} {H:cj} {vs:List AV} {H':cj},dt P n rs e H=some (vs,H')->K vs H'->dw P n rs e H λvs _ H=>K vs H
 |[],e,H,vs,H',h,hk=>by cases h;exact hk
 |.tmp t::rs,e,H,vs,H',h,hk=>by
  simp only[dt]at h
  obtain⟨h1,h⟩:=KN h
  obtain⟨r,h2,h3⟩:=M' h
  cases h3
  exact⟨h1,Uc (K:=λvs H=>K ((NO P none true (.tmp t) e).1::vs) H) h2 hk⟩
 | .cell t ty::rs,e,H,vs,H',h,hk=>by
  simp only[dt]at h
  obtain⟨h1,h⟩:=KN h
  split at h
  ·rename_i v H1 hv
   obtain⟨r,h2,h3⟩:=M' h
   cases h3
   rw[dq]
   refine⟨h1, ?_⟩
   rw[hv]
   exact Uc (K:=λvs H=>K (v::vs) H) h2 hk
  ·cases h
def qO{K:AV->cj->Prop}{vs:List AV}{v:AV}{H:cj}(h:z6 vs=some v)(hk:K v H):Of K vs H:=by
 unfold z6 at h
 unfold Of
 split at h
 ·cases h;exact hk
 ·rename_i hne
  obtain⟨h1,h2⟩:=KN h
  cases h2
  split
  ·exact absurd rfl (hne _)
  ·exact⟨λx hx=>Am.1 h1 x hx,hk⟩
def o7{ar:Option Nat}{H:cj}(h:bR ar H=true):bS ar H:=by
 unfold bR at h
 unfold bS
 split at h
 ·trivial
 ·split at h
  ·rename_i cs hcs;exact⟨cs,hcs⟩
  ·cases h
def q7{n:Nat}{d:Option Tmp}(h:AUx n d=true):Gj n d:=by
 cases d with
 |none=>trivial
 |some d=>exact(of_decide_eq_true h:d<n)
def OE{f:FuncId}{vs:List AV}{v:AV}(hc:Fa P f vs [] λv2 _=>v2=v)(hp:FW vs=true)(hv:v.pure=true):FT P f vs v:=λH =>
 ⟨hc.1,λF G w us hcr=>Calls.mono (hc.2 _ _ w us (hcr.hide (IG hp))) λe w' he=>by
  obtain⟨u,rfl,v',H2,G',rfl,hcr',hext⟩:=he
  obtain⟨h1,h2⟩:=hcr.unhide hv hcr' hext
  exact⟨u,rfl,_,H,_,⟨rfl,rfl⟩,h1,h2⟩⟩
def r6(E:EvOk P T){ih:Task->Option ROut}(hih : ∀ t out,ih t=some out->RI P T t out){f:FuncId}{vs:List AV}{H:cj}{out:ROut}(h:U2 P T ih f vs H=some out):RI P T (.call f vs H) out:=by
 unfold U2 at h
 split at h
 ·rename_i v H1 ho
  cases h
  exact E.orc f vs H v H1 ho
 ·split at h
  ·rename_i fn hfn
   obtain⟨e1,e2,e3,e4⟩:=E.fn f fn hfn
   split at h
   ·rename_i c hb
    obtain⟨hn,h⟩:=KN h
    have fin:∀(ex:Exit) (e:Fs) (H':cj),(ex = .normal\/ex = .ret)->ih (.code f fn.ntmps none c (GR 0 vs) H)=some (.st ex e H') ->
      ((dt P fn.ntmps fn.results.toList e H').bind λr=>(z6 r.1).map λv=>ROut.val v r.2)=some out->RI P T (.call f vs H) out:=by
     intro ex e H' hex hi hr
     obtain⟨r,h1,h2⟩:=CD.1 hr
     obtain⟨v,h3,h4⟩:=M' h2
     subst h4
     refine kz (T.hs f) e4 E.mixed e3 e1 hb e2 hn (GZ c _ _ _ _ (λex2 e2 H2 hq=>?_) (hih _ _ hi))
     obtain⟨rfl,rfl,rfl⟩:=hq
     rcases hex with rfl|rfl
     ·exact Uc (K:=λvs H=>Of _ vs H) h1 (qO h3 ⟨rfl,rfl⟩)
     ·exact Uc (K:=λvs H=>Of _ vs H) h1 (qO h3 ⟨rfl,rfl⟩)
    split at h
    ·rename_i hi;exact fin _ _ _ (.inl rfl) hi h
    ·rename_i hi;exact fin _ _ _ (.inr rfl) hi h
    ·cases h
   ·cases h
  ·cases h
def zd(E:EvOk P T){ih:Task->Option ROut}(hih : ∀ t out,ih t=some out->RI P T t out){o:Nat}{L:LoopRec}{ys:List AV}{H:cj}{out:ROut}(h:Zm T ih o L ys H=some out):RI P T (.yld o L ys H) out:=by
 unfold Zm at h
 split at h
 ·rename_i fn st av hfn hlo
  obtain⟨e1,e2,e3,e4⟩:=E.fn _ fn hfn
  have h':=KN h
  clear h
  obtain⟨⟨rfl,g2,g3,g4,g5,g6⟩,h⟩:=h'
  cases hi:ih (.code L.tag fn.ntmps (some o) L.assign (K3 av L.ps.toList ys (GR 0 av)) H)with
  |none=>rw[hi]at h;cases h
  | some q =>
   rw[hi]at h
   cases q with
   |val v H'=>cases h
   | st ex0 e2 H2 =>
    cases ex0 with
    | normal =>
     dsimp only at h
     cases hlo2:Nr H2 o with
     |none=>rw[hlo2]at h;cases h
     | some q2 =>
      obtain⟨st2,av2⟩:=q2
      rw[hlo2]at h
      dsimp only at h
      have h':=KN h
      clear h
      obtain⟨rfl,h⟩:=h'
      cases hi3:ih (.code L.tag fn.ntmps (some o) L.body e2 (H2.set o (some (G8 (-1) av2))))with
      |none=>rw[hi3]at h;cases h
      | some q3 =>
       rw[hi3]at h
       cases q3 with
       |val v H'=>cases h
       | st ex e3 H3 =>
        dsimp only at h
        cases hlo3:Nr H3 o with
        |none=>rw[hlo3]at h;cases h
        | some q4 =>
         obtain⟨st3,av3⟩:=q4
         rw[hlo3]at h
         dsimp only at h
         have h':=KN h
         clear h
         obtain⟨rfl,h⟩:=h'
         obtain⟨tag,ps,assign,body⟩:=L
         have main:∀(v:AV) (H':cj),out = .val v H'->(∀R:AV->cj->Prop,R v H'->match (generalizing:=false) ex with
           |.normal=>R (.bool true) (H3.set o (some (G8 0 av3)))
           |.ret=>R (.bool false) (H3.set o (some (G8 (-2) av3)))
           |.exit k=>R (.bool false) (H3.set o (some (G8 ((k:Int)+1) av3)))
           |_=>False)->RI P T (.yld o ⟨tag,ps,assign,body⟩ ys H) out:=by
          intro v H' he hR
          subst he
          refine LU E.mixed e4 ⟨g5,g6⟩ (λp hp=>of_decide_eq_true (Am.1 g4 p hp)) ys H _ av (Pd hlo) g2 g3 (GZ assign _ _ _ _ (λex2 e4 H4 hq=>?_) (hih _ _ hi))
          obtain⟨rfl,rfl,rfl⟩:=hq
          refine⟨rfl,av2,Pd hlo2,GZ body _ _ _ _ (λex5 e5 H5 hq=>?_) (hih _ _ hi3)⟩
          obtain⟨rfl,rfl,rfl⟩:=hq
          exact⟨av3,Pd hlo3,hR (λv2 H2=>v2=v/\H2=H') ⟨rfl,rfl⟩⟩
         cases ex with
         |normal=>cases h;exact main _ _ rfl λR hr=>hr
         |ret=>cases h;exact main _ _ rfl λR hr=>hr
         |exit k=>cases h;exact main _ _ rfl λR hr=>hr
         |_=>cases h
    |_=>cases h
 ·cases h
def ze (E:EvOk P T) {ih:Task->Option ROut} (hih : ∀ t out,ih t=some out->RI P T t out) {hf:FuncId} {o:Oper} (ho:Uj o=true) {vals:List AV} {H:cj} {v:AV} {H':cj} (h:Ua T ih hf o vals H=some (v,H'))
  {R:AV->cj->Prop} (hr:R v H'):Fh P (T.hs hf) o vals H R:=by
 obtain⟨dst,op,ty,pos,after,guard⟩:=o
 cases op<;>first|cases ho|skip
 rename_i c
 obtain⟨callee,args0,ts⟩:=c
 cases callee<;>first|cases ho|skip
 rename_i fo
 unfold Ua at h
 cases vals with
 |nil=>cases h
 | cons a args =>
  cases a<;>first|cases h|skip
  case fn f first captured =>
   cases f<;>first|cases h|skip
   rename_i f
   dsimp only at h
   cases hb:(Ct (T.hs hf).pc.contains dst)with
   | true =>
    rw[hb]at h
    dsimp only at h
    have h':=KN h
    clear h
    obtain⟨hp,h⟩:=h'
    cases hi:ih (.call f (first.map AV.borrow++args++captured.map AV.borrow) [])with
    |none=>rw[hi]at h;cases h
    | some q =>
     rw[hi]at h
     cases q with
     |st _ _ _=>cases h
     |val v1 H1 =>
      dsimp only at h
      have h':=KN h
      clear h
      obtain⟨hpv,h⟩:=h'
      cases h
      have hpc:FT P f (first.map AV.borrow++args++captured.map AV.borrow) v:=OE (Fa.mono (show Fa P f _ [] (λv2 H2=>v2=v/\H2=H1)from hih _ _ hi) λ_ _ hq=>hq.1) hp hpv
      simp only[Fh,hb]
      cases hmt:Ct (T.hs hf).mt.contains dst with
      |true=>exact⟨v,.inl λH2 _=>hpc H2,hr⟩
      |false=>exact⟨v,hpc,hr⟩
   | false =>
    rw[hb]at h
    dsimp only at h
    cases hi:ih (.call f (first.map AV.borrow++args++captured.map AV.borrow) H)with
    |none=>rw[hi]at h;cases h
    | some q =>
     rw[hi]at h
     cases q with
     |st _ _ _=>cases h
     | val v1 H1 =>
      dsimp only at h
      have h':=KN h
      clear h
      obtain⟨hpf,h⟩:=h'
      cases h
      have hA:Fa P f (first.map AV.borrow++args++captured.map AV.borrow) H (λv2 H2=>v2=v/\H2=H'):=hih _ _ hi
      simp only[Fh,hb]
      cases hmt:Ct (T.hs hf).mt.contains dst with
      |true =>
       rw[hmt,Bool.not_true,Bool.false_or]at hpf
       obtain⟨ext,rfl⟩:=eI _ _ hpf
       exact⟨v,ext,hA,hr⟩
      |false=>exact hA.mono λv2 H2 hq=>by obtain⟨rfl,rfl⟩:=hq;exact hr
  case yld o' L =>
   dsimp only at h
   cases hb:(Ct (T.hs hf).pc.contains dst||Ct (T.hs hf).mt.contains dst)with
   |true=>rw[hb]at h;cases h
   | false =>
    rw[hb]at h
    rw[Bool.or_eq_false_iff]at hb
    dsimp only at h
    cases hi:ih (.yld o' L args H)with
    |none=>rw[hi]at h;cases h
    | some q =>
     rw[hi]at h
     cases q with
     |st _ _ _=>cases h
     |val v1 H1 =>
      cases h
      simp only[Fh]
      exact⟨⟨hb.1,hb.2⟩,NR.mono (show NR P o' L args H (λv2 H2=>v2=v/\H2=H')from hih _ _ hi) λv2 H2 hq=>by obtain⟨rfl,rfl⟩:=hq;exact hr⟩
def zf(E:EvOk P T){ih:Task->Option ROut}(hih : ∀ t out,ih t=some out->RI P T t out){hf:FuncId}{n:Nat}{os:Array Oper}{l:List Oper}{e:Fs}{H:cj}{out:ROut}(h:Zn P T ih hf n os l e H=some out):RI P T (.ops hf n os l e H) out:=by
 unfold Zn at h
 cases l with
 |nil=>cases h;exact⟨rfl,rfl,rfl⟩
 | cons o l =>
  have next:∀{e1:Fs} {H1:cj},ih (.ops hf n os l e1 H1)=some out -> ∃e' H',out = .st .normal e' H'/\LO P n (T.hs hf) os l (λe2 H2=>e2=e'/\H2=H') e1 H1:=λhi=>by
   have hg:=hih _ _ hi
   cases out with
   |val v H'=>exact hg.elim
   |st ex e' H'=>obtain⟨rfl,hg⟩:=hg;exact⟨e',H',rfl,hg⟩
  dsimp only at h
  cases hag:lD os e o with
  |none=>rw[hag]at h;cases h
  | some b =>
   rw[hag]at h
   cases b with
   |false =>
    dsimp only at h
    obtain⟨hd,h⟩:=KN h
    obtain⟨e',H',rfl,hg⟩:=next h
    refine⟨rfl, ?_⟩
    show Ie P n (T.hs hf) os o _ e H
    unfold Ie
    rw[hag]
    exact⟨q7 hd,hg⟩
   | true =>
    dsimp only at h
    have h':=KN h
    clear h
    obtain⟨hd,h⟩:=h'
    cases hv:(match Uj o with
      |true=>Ua T ih hf o (OX P (HQ o) (F0 (T.hs hf) o) o.op.operands.toList e).1 H
      |false=>rN P T.wk (T.hs hf) o (OX P (HQ o) (F0 (T.hs hf) o) o.op.operands.toList e).1 H)with
    |none=>rw[hv]at h;cases h
    |some q =>
     obtain⟨v,H1⟩:=q
     rw[hv]at h
     obtain⟨e',H',rfl,hg⟩:=next h
     refine⟨rfl, ?_⟩
     show Ie P n (T.hs hf) os o _ e H
     unfold Ie
     rw[hag]
     refine⟨q7 hd, ?_⟩
     cases hval:Uj o with
     |true=>rw[hval]at hv;exact ze E hih hval hv hg
     |false=>rw[hval]at hv;exact ADJ E.wide hv hg
def r5(E:EvOk P T){ih:Task->Option ROut}(hih : ∀ t out,ih t=some out->RI P T t out){hf:FuncId}{n:Nat}{ar:Option Nat}{c:Code}{e:Fs}{H:cj}{out:ROut}(h:K2 P T ih hf n ar c e H=some out):RI P T (.code hf n ar c e H) out:=by
 have part:∀{c:Code} {e:Fs} {H:cj} {out:ROut},ih (.code hf n ar c e H)=some out -> ∃ex e' H',out = .st ex e' H'/\JF P n (T.hs hf) ar c (λex2 e2 H2=>ex2=ex/\e2=e'/\H2=H') e H:=λ{c e H out} hi=>by
  have hg:=hih _ _ hi
  cases out with
  |val v H'=>exact hg.elim
  |st ex e' H'=>exact⟨ex,e',H',rfl,hg⟩
 cases c with
 |skip=>cases h;exact⟨rfl,rfl,rfl⟩
 |ret=>cases h;exact⟨rfl,rfl,rfl⟩
 |exit id=>cases h;exact⟨rfl,rfl,rfl⟩
 | region id ops draw =>
  simp only[K2]at h
  cases hi:ih (.ops hf n ops ((T.hs hf).ord id ops) e H)with
  |none=>rw[hi]at h;cases h
  | some q =>
   rw[hi]at h
   have hg:=hih _ _ hi
   cases q with
   |val v H'=>cases h
   |st ex e1 H1 =>
    obtain⟨rfl,hg⟩:=hg
    dsimp only at h
    obtain⟨hdy,h⟩:=KN h
    cases h
    refine Q_ _ _ _ _ _ (λe2 H2 hq=>?_) hg
    obtain⟨rfl,rfl⟩:=hq
    refine⟨λhd=>?_,rfl,rfl,rfl⟩
    rw[hd]at hdy
    exact AFi (by simpa using hdy)
 | seq a b =>
  simp only[K2]at h
  cases hi:ih (.code hf n ar a e H)with
  |none=>rw[hi]at h;cases h
  | some q =>
   rw[hi]at h
   obtain⟨ex,e1,H1,rfl,hg⟩:=part hi
   have other:ex ≠ .normal->out = .st ex e1 H1->RI P T (.code hf n ar (.seq a b) e H) out:=λhne he=>by
    subst he
    refine GZ a _ _ _ _ (λex2 e2 H2 hq=>?_) hg
    obtain⟨rfl,rfl,rfl⟩:=hq
    cases ex2<;>first|exact absurd rfl hne|exact⟨rfl,rfl,rfl⟩
   cases ex with
   |normal =>
    dsimp only at h
    obtain⟨ex',e',H',rfl,hg2⟩:=part h
    refine GZ a _ _ _ _ (λex2 e2 H2 hq=>?_) hg
    obtain⟨rfl,rfl,rfl⟩:=hq
    exact hg2
   |_=>cases h;exact other sm rfl
 | cond c a b =>
  simp only[K2]at h
  cases hc:G6 P none e c with
  | bool t =>
   rw[hc]at h
   dsimp only at h
   have hg:∃ex e' H',out = .st ex e' H'/\JF P n (T.hs hf) ar (if t=true then a else b) (λex2 e2 H2=>ex2=ex/\e2=e'/\H2=H') e H:=by
    cases t with
    |true=>exact part h
    |false=>exact part h
   obtain⟨ex,e',H',rfl,hg⟩:=hg
   show JF P n (T.hs hf) ar (.cond c a b) _ e H
   simp only[JF,hc]
   cases t with
   |true=>exact hg
   |false=>exact hg
  |_=>rw[hc]at h;cases h
 | block id c =>
  simp only[K2]at h
  cases hi:ih (.code hf n ar c e H)with
  |none=>rw[hi]at h;cases h
  | some q =>
   rw[hi]at h
   obtain⟨ex,e1,H1,rfl,hg⟩:=part hi
   cases ex with
   | exit j =>
    dsimp only at h
    by_cases hj:j=id
    ·rw[iP hj]at h
     cases h
     refine GZ c _ _ _ _ (λex2 e2 H2 hq=>?_) hg
     obtain⟨rfl,rfl,rfl⟩:=hq
     dsimp only
     rw[iP hj]
     exact⟨rfl,rfl,rfl⟩
    ·rw[iN hj]at h
     cases h
     refine GZ c _ _ _ _ (λex2 e2 H2 hq=>?_) hg
     obtain⟨rfl,rfl,rfl⟩:=hq
     dsimp only
     rw[iN hj]
     exact⟨rfl,rfl,rfl⟩
   |_ =>
    cases h
    refine GZ c _ _ _ _ (λex2 e2 H2 hq=>?_) hg
    obtain⟨rfl,rfl,rfl⟩:=hq
    exact⟨rfl,rfl,rfl⟩
 | loop c =>
  simp only[K2]at h
  cases hi:ih (.code hf n ar c e H)with
  |none=>rw[hi]at h;cases h
  | some q =>
   rw[hi]at h
   obtain⟨ex,e1,H1,rfl,hg⟩:=part hi
   have other:ex ≠ .normal->out = .st ex e1 H1->RI P T (.code hf n ar (.loop c) e H) out:=λhne he=>by
    subst he
    refine⟨λe' H'=>e'=e/\H'=H,λ_ _=>0,⟨rfl,rfl⟩,λe' H' hI=>?_⟩
    obtain⟨rfl,rfl⟩:=hI
    refine GZ c _ _ _ _ (λex2 e2 H2 hq=>?_) hg
    obtain⟨rfl,rfl,rfl⟩:=hq
    cases ex2<;>first|exact absurd rfl hne|exact⟨rfl,rfl,rfl⟩
   cases ex with
   | normal =>
    dsimp only at h
    obtain⟨ex',e',H',rfl,I,μ,hI,hr⟩:=part h
    classical
    by_cases hold:I e H
    ·exact⟨I,μ,hold,hr⟩
    ·refine⟨λe2 H2=>(e2=e/\H2=H)\/I e2 H2,λe2 H2=>if e2=e/\H2=H then μ e1 H1+1 else μ e2 H2,.inl ⟨rfl,rfl⟩,λe2 H2 hI2=>?_⟩
     have hne:∀{e3:Fs} {H3:cj},I e3 H3 -> ¬(e3=e/\H3=H):=λh3 hh=>hold (by rw[<- hh.1,<- hh.2];exact h3)
     by_cases hat:e2=e/\H2=H
     ·obtain⟨rfl,rfl⟩:=hat
      refine GZ c _ _ _ _ (λex2 e3 H3 hq=>?_) hg
      obtain⟨rfl,rfl,rfl⟩:=hq
      dsimp only
      refine⟨.inr hI, ?_⟩
      rw[iN (hne hI),iP ⟨rfl,rfl⟩]
      omega
     ·have hI3:I e2 H2:=hI2.resolve_left hat
      refine GZ c _ _ _ _ (λex2 e3 H3 hq=>?_) (hr e2 H2 hI3)
      cases ex2 with
      |normal =>
       refine⟨.inr hq.1, ?_⟩
       dsimp only
       rw[iN hat,iN (hne hq.1)]
       exact hq.2
      |_=>exact hq
   |_=>cases h;exact other sm rfl
 | rangeFunc g ps assign body =>
  simp only[K2]at h
  cases hg:G6 P none e g with
  | fn f first captured =>
   rw[hg]at h
   cases f with
   | func f =>
    dsimp only at h
    have h':=KN h
    clear h
    obtain⟨har,h⟩:=h'
    cases hi:ih (.call f (first.map AV.borrow++[.yld H.length ⟨hf,ps,assign,body⟩]++captured.map AV.borrow) (H++[some (G8 0 (Hj n e))]))with
    |none=>rw[hi]at h;cases h
    | some q =>
     rw[hi]at h
     have hc:=hih _ _ hi
     cases q with
     |st _ _ _=>cases h
     | val v H2 =>
      dsimp only at h
      cases hlo:Nr H2 H.length with
      |none=>rw[hlo]at h;cases h
      | some q2 =>
       obtain⟨st,av⟩:=q2
       rw[hlo]at h
       dsimp only at h
       have fin:∀ex:Exit,out = .st ex e (H2.set H.length none)->(∀Q:Exit->Kt,Q ex e (H2.set H.length none)->(st=0/\Q .normal e (H2.set H.length none))\/(st = -2/\Q .ret e (H2.set H.length none)) \/ ∃k:Nat,st=(k:Int)+1/\Q (.exit k) e (H2.set H.length none)) ->
         RI P T (.code hf n ar (.rangeFunc g ps assign body) e H) out:=by
        intro ex he hQ
        subst he
        refine⟨o7 har,hf,f,first,captured,hg,Fa.mono (show Fa P f _ _ (λv2 H3=>v2=v/\H3=H2)from hc) λv2 H3 hq=>?_⟩
        obtain⟨rfl,rfl⟩:=hq
        exact⟨st,av,Pd hlo,hQ (λex2 e2 H2'=>ex2=ex/\e2=e/\H2'=_) ⟨rfl,rfl,rfl⟩⟩
       by_cases h0:st=0
       ·rw[iP h0]at h
        cases h;exact fin _ rfl λQ hq => .inl ⟨h0,hq⟩
       ·rw[iN h0]at h
        by_cases h2:st = -2
        ·rw[iP h2]at h
         cases h;exact fin _ rfl λQ hq => .inr (.inl ⟨h2,hq⟩)
        ·rw[iN h2]at h
         have h':=KN h
         clear h
         obtain⟨hp,h⟩:=h'
         cases h
         exact fin _ rfl λQ hq => .inr (.inr ⟨(st - 1).toNat,FR,hq⟩)
   |_=>cases h
  |_=>rw[hg]at h;cases h
 |_=>cases h
def lj(E:EvOk P T): ∀(k:Nat) (t:Task) (out:ROut),XG P T k t=some out->RI P T t out
 | 0,t,out,h=>by cases h
 |k+1,t,out,h=>by
  have hih:=lj E k
  have h:AGr P T (XG P T k) t=some out:=h
  cases t with
  |call f vs H=>exact r6 E hih h
  |yld o L ys H=>exact zd E hih h
  |code hf n ar c e H=>exact r5 E hih h
  |ops hf n os l e H=>exact zf E hih h
def Fa.run(E:EvOk P T)(k:Nat){f:FuncId}{vs:List AV}{H:cj}{v:AV}{H':cj}(h:XG P T k (.call f vs H)=some (.val v H')):Fa P f vs H λv2 H2=>v2=v/\H2=H':=lj E k _ _ h
def FT.run(E:EvOk P T)(k:Nat){f:FuncId}{vs:List AV}{v:AV}(hp:FW vs=true)(hv:v.pure=true)(h:(match XG P T k (.call f vs [])with|some (.val v2 _)=>some v2|_=>none)=some v):FT P f vs v:=by
 cases hr:XG P T k (.call f vs [])with
 |none=>rw[hr]at h;cases h
 | some q =>
  rw[hr]at h
  cases q with
  |st _ _ _=>cases h
  |val v2 H2 =>
   cases h
   exact OE ((Fa.run E k hr).mono λ_ _ hq=>hq.1) hp hv
end
end Go.AI
namespace Go.AI
inductive ETree where
 |nil
 |node (l:ETree) (k:Nat) (fn:Func) (h:Ef) (r:ETree)
def ETree.find:ETree->Nat->Option (Func×Ef)
 |.nil,_=>none
 |.node l k fn h r,f=>bif CG f k then some (fn,h)else bif Nat.blt f k then l.find f else r.find f
def Fl(P:Program)(f:Nat)(fn:Func)(h:Ef):Prop:=P.funcs[f]? =some fn/\HS P f=true/\fn.body.any (Ga h)=true/\h.gc=[]
def ETree.All(P:Program):ETree->Prop
 |.nil=>True
 |.node l k fn h r=>l.All P/\Fl P k fn h/\r.All P
def M0{P:Program}: ∀{t:ETree} {f:Nat} {fn:Func} {h:Ef},t.All P->t.find f=some (fn,h)->Fl P f fn h
 |.nil,f,fn,h,_,hf=>by cases hf
 | .node l k fn' h' r,f,fn,h,ha,hf=>by
  simp only[ETree.find]at hf
  cases hb:CG f k with
  |true =>
   rw[hb]at hf
   cases hf
   have:=DF hb
   subst this
   exact ha.2.1
  |false =>
   rw[hb]at hf
   cases hl:Nat.blt f k with
   |true=>rw[hl]at hf;exact M0 ha.1 hf
   |false=>rw[hl]at hf;exact M0 ha.2.2 hf
def AIP:Ef:=⟨[],[],[],[],[],[],[]⟩
abbrev Orc:=FuncId->List AV->cj->Option (AV×cj)
def AGx:Orc:=λ_ _ _=>none
def rX(P:Program)(o:Orc):Prop:=∀f vs H v H',o f vs H=some (v,H')->Fa P f vs H λv2 H2=>v2=v/\H2=H'
def AA0(P:Program):rX P AGx:=λ_ _ _ _ _ h=>by cases h
def ETree.evt(t:ETree)(wk:List TypeId)(o:Orc):EvT:=⟨λf=>(t.find f).map (·.1),λf=>((t.find f).map (·.2)).getD AIP,wk,o⟩
def ETree.ok{P:Program}{t:ETree}{wk:List TypeId}{o:Orc}(hm:P.follows .mixedOrders=true)(hw:bc P wk)(ho:rX P o)(ha:t.All P):EvOk P (t.evt wk o):=by
 refine⟨hm,hw,λf fn hf=>?_,ho⟩
 obtain⟨⟨fn',h⟩,h1,rfl⟩:=M' hf
 have hh:(t.evt wk o).hs f=h:=by simp only[ETree.evt,h1];rfl
 rw[hh]
 exact M0 ha h1
open Go.Proofs
def GU{P:Program}{n:Nat}{f:Func}{h:Ef}(g:P.funcs[n]? =some f)(c:HS P n=true := by kernel_rfl)(d:f.body.any (Ga h)=true := by kernel_rfl)(e:h.gc=[] := by rfl):Fl P n f h:=⟨g,c,d,e⟩
noncomputable def e5:Ef:=hx [1,2,6,6,30,122,506,4090,24570,122874,516090,2088954,0x800000000000000000000000000a9202,1,2789890,6984194,15372802,1] [124,137,138,141,142,146,152,157] [31] [(1,[(1,some 5,true)]),(3,[(2,some 5,true)])] [51,60] [] []
def Ag0:Fl AA 5 f5 e5:=GU func5
noncomputable def e8:Ef:=hx [22,52,116,116,7516192884,16106127476,7516193140,282394100084,7516192884,7516192884,0x700000000000070,0xf00000000000070,0x700000000000470,0x8700000000000470,0x18700000000000470,0x700000000000470,0x200700000000000470,0x700000000000070,0x700000000000070,16] [74] [] [(10,[(6,some 2,true)])] [18] [] []
def Agz:Fl AA 8 f8 e8:=GU func8
noncomputable def e11:Ef:=hm [2,18,1810,3858,1874,1874,4196178,12,1810,1810,12] [23,28] [] []
def Aej:Fl AA 11 f11 e11:=GU func11
noncomputable def e12:Ef:=hm [28,88,8280,48,24,48] [] [] []
def Aef:Fl AA 12 f12 e12:=GU func12
noncomputable def e13:Ef:=hm [279,24599,1879072789,4026556437,1879138325,1879269397,122138345493,259577298965,122138869781,122141491221,122140442645,0x400001c70034015,7168,122138345493,1879269397,0xe000000070016015,0x1e000000070016015,0xe000000070816015,0xe000000070816015,0xe000000071816015,0x4000e000000070816015,0xe000000070016015,0xe000000070016015,1879072789,7168] [28,34,49,50,59,61,71,79,85,86] [] []
def AeU:Fl AA 13 f13 e13:=GU func13
noncomputable def e14:Ef:=hm [6,2054,16,16] [] [] []
def AeK:Fl AA 14 f14 e14:=GU func14
noncomputable def e15:Ef:=hm [240,256] [] [] []
def AeI:Fl AA 15 f15 e15:=GU func15
noncomputable def e16:Ef:=hx [90,2138,6234,481036343386,0xf00000185a,481036367962,481036449882,563430989805658,481036343386,481036343386,137242,399386,923674,0x20000000000e181a,923674,1972250,4069402,8263706,121509914,0x10000000000000000033e181a,1792,20846618,0x3800000000000000000003e181a,0x7800000000000000000003e181a,0x3800000000000000000103e181a,0x3800000000000000000703e181a,0x1003800000000000000000303e181a,0x3800000000000000000b03e181a,0x100003800000000000000000b03e181a,0x3800000000000000000003e181a,0x3800000000000000001903e181a,0x3800000000000000001903e181a,0x3800000000000000000003e181a,0x3800000000000000000003e181a,0x8000000000000000000000000000000000000e181a,1792,1792] [82,97,101,103,125,168,169,170] [] [(36,[(9,none,false)])] [131,158] [] []
def AeH:Fl AA 16 f16 e16:=GU func16
noncomputable def e17:Ef:=hm [3,1027,16,35,16419,35,33554467,16,16] [] [] []
def AeG:Fl AA 17 f17 e17:=GU func17
noncomputable def e18:Ef:=hm [3,2051,16,35,32803,35,99,72057594037927971,16,16] [] [] []
def AeC:Fl AA 18 f18 e18:=GU func18
noncomputable def e22:Ef:=hx [1,3,3,3,917507,1966083,917519,917507,917507,240518168579,515396075523,240518168627,240518168579,240518168579,3,1] [26,43] [63] [(2,[(1,some 0,true)])] [53] [] []
def Ady:Fl AA 22 f22 e22:=GU func22
noncomputable def e23:Ef:=hm [2,18,65554,12,34,4194338,12,8589934594,12,66,412316860482,962072674370,412316860610,412316860866,70781061038530,12,412316860482,0x38000000000002,0x78000000000002,0x38000000000602,0x38000000000a02,0x4038000000000a02,12,0x38000000000002,0x80000000000000000,12,12] [] [] []
def Adx:Fl AA 23 f23 e23:=GU func23
noncomputable def e24:Ef:=hm [6,7170,15362,7362,7490,2104642,48,7170,48] [] [] []
def Adp:Fl AA 24 f24 e24:=GU func24
noncomputable def e25:Ef:=hx [2,4] [] [] [(1,[(2,none,false)])] [] [] []
def Adk:Fl AA 25 f25 e25:=GU func25
noncomputable def e26:Ef:=hm [206,462,8640,960,448,2097344,1,192] [15,16] [] []
def Ade:Fl AA 26 f26 e26:=GU func26
noncomputable def e27:Ef:=hm [14,776,4294968072,192,1288,240518169864,515396076808,240518173960,240518182152,31026843755784,66211215844616,31026843788552,31026843755784,31026843755784,0x200003800000508,0xa00003800000508,0x200003800010508,0x200003800000508,240518169864,132360,0xc00000000000020500,0x1c00000000000020500,0xc00000000000060500,0x80c00000000000060500,0xc00000000000020500,0xc00000000000020500,192] [42,80,85] [] []
def Add:Fl AA 27 f27 e27:=GU func27
noncomputable def e28:Ef:=hm [3,2051,16,35,32803,35,99,268435491,16,16] [] [] []
def Adc:Fl AA 28 f28 e28:=GU func28
noncomputable def e29:Ef:=hm [6,38,3622,7718,3750,8392358,3622,3622,16] [] [] []
def AdW:Fl AA 29 f29 e29:=GU func29
noncomputable def e33:Ef:=hm [1,17,4,4] [6] [] []
def AdF:Fl AA 33 f33 e33:=GU func33
noncomputable def e37:Ef:=hm [28,540,16,60,16] [] [] [12,14,19,21,24,25]
def Ac9:Fl AA 37 f37 e37:=GU func37
noncomputable def e38:Ef:=hm [2,4] [] [] []
def Ac8:Fl AA 38 f38 e38:=GU func38
noncomputable def e39:Ef:=hm [28,280,1080,120,8240,1,16] [] [] []
def Ac7:Fl AA 39 f39 e39:=GU func39
noncomputable def e40:Ef:=hx [105,768] [10] [12] [] [] [] [2006,2007]
def Ac6:Fl AA 40 f40 e40:=GU func40
noncomputable def e41:Ef:=hx [1365,525653,7168,9557,25941,91460,91456,72057594038019392,75072,0x400000000000010500,7168,7168] [21,31,41,60] [] [] [] [] [10,11]
def Ac5:Fl AA 41 f41 e41:=GU func41
noncomputable def e42:Ef:=hm [7,64] [] [] []
def Ac4:Fl AA 42 f42 e42:=GU func42
noncomputable def e43:Ef:=hm [3,387,899,419,65955,16,387,16] [] [] []
def Ac3:Fl AA 43 f43 e43:=GU func43
noncomputable def e44:Ef:=hm [62,64] [] [] [30]
def Ac2:Fl AA 44 f44 e44:=GU func44
noncomputable def e45:Ef:=hx [105,256] [9] [11] [] [] [] [2006,2007]
def Ac1:Fl AA 45 f45 e45:=GU func45
noncomputable def e46:Ef:=hm [6,1] [3] [] []
def Ac0:Fl AA 46 f46 e46:=GU func46
noncomputable def e47:Ef:=hm [1,17,4,4] [6] [5,7] []
def Acz:Fl AA 47 f47 e47:=GU func47
noncomputable def e48:Ef:=hm [28,88,4184,48,24,48] [] [] []
def Acy:Fl AA 48 f48 e48:=GU func48
noncomputable def e49:Ef:=hm [1,17,4,4] [6] [] []
def Acx:Fl AA 49 f49 e49:=GU func49
noncomputable def e50:Ef:=hm [12,64,48] [] [] []
def Acw:Fl AA 50 f50 e50:=GU func50
noncomputable def e55:Ef:=hm [1,3,5,13,4109,13,13,5,5,1] [] [9] []
def Acv:Fl AA 55 f55 e55:=GU func55
noncomputable def e56:Ef:=hm [1,3,1] [] [] []
def Acu:Fl AA 56 f56 e56:=GU func56
noncomputable def e57:Ef:=hm [2,514,4,67108866,4,1924145348610,4123168604162,1924145348626,9009123400089602,4,1924145348610,0x700000000000002,0xf00000000000002,0x700000000000042,0x4000000700000000000002,4,0x700000000000002,0xe0000000000000000000002,0x1e0000000000000000000002,0xe0000000000000000000102,0x80e0000000000000000000002,4,0xe0000000000000000000002,4] [] [] []
def Acs:Fl AA 57 f57 e57:=GU func57
noncomputable def e58:Ef:=hm [1,513,4,7169,15361,7193,7225,7289,531545,4,68719483905,4,7169,4] [] [] []
def Acr:Fl AA 58 f58 e58:=GU func58
noncomputable def e59:Ef:=hm [14,142,398,16777614,64,1166,4294968462,64,0x800000000084,64,0xe000000000084,8444249301319812,0xe000000001084,0x40e000000000084,64,0xe000000000084,0xe000000000000004,0x1e000000000000004,0xe000000000004004,0xe000000000000004,0xe000000000000004,64] [] [] []
def Acq:Fl AA 59 f59 e59:=GU func59
noncomputable def e60:Ef:=hm [12,108,492,1073741996,16,0x8000000000000c,16,524,0x400000000000020c,16,1032,0x10000000000000000000000000000,16,16] [] [] [42,53]
def Acp:Fl AA 60 f60 e60:=GU func60
noncomputable def e61:Ef:=hx [2,8,1032,24,524312,4,8,4] [20] [] [(1,[(3,some 0,true)]),(6,[(3,some 0,true)])] [] [] []
def Aco:Fl AA 61 f61 e61:=GU func61
noncomputable def e62:Ef:=hm [56,64] [] [] []
def Acn:Fl AA 62 f62 e62:=GU func62
noncomputable def e73:Ef:=hm [6,14,526,12,4] [] [] [13,14]
def Acm:Fl AA 73 f73 e73:=GU func73
noncomputable def e74:Ef:=hm [6,34,546,16,8192,16,16] [] [] []
def Acl:Fl AA 74 f74 e74:=GU func74
noncomputable def e75:Ef:=hm [1,2] [] [] []
def Ack:Fl AA 75 f75 e75:=GU func75
noncomputable def e76:Ef:=hm [2,26,262170,786458,4,8590196762,4,4503599627632666,4,0x800000000004001a,0x800000000000001a,4,4] [] [] [8]
def Acj:Fl AA 76 f76 e76:=GU func76
noncomputable def e77:Ef:=hm [2,4] [] [] []
def Aci:Fl AA 77 f77 e77:=GU func77
noncomputable def e78:Ef:=hm [3,129,48,48] [8] [] []
def Ach:Fl AA 78 f78 e78:=GU func78
noncomputable def e79:Ef:=hm [12,44,36,32,16] [] [] []
def Acg:Fl AA 79 f79 e79:=GU func79
noncomputable def e88:Ef:=hm [3,387,899,419,65955,16,387,16] [] [] []
def Acf:Fl AA 88 f88 e88:=GU func88
noncomputable def e89:Ef:=hm [6,8] [] [] []
def Ace:Fl AA 89 f89 e89:=GU func89
noncomputable def Ae1:Ef:=hm [3,35,7202,15394,7330,7458,67116322,16,7202,7202,16] [10] [] []
def AUw:Fl AA 101 f101 Ae1:=GU func101
noncomputable def Ae0:Ef:=hm [2,4] [] [] []
def AUv:Fl AA 102 f102 Ae0:=GU func102
noncomputable def Aez:Ef:=hm [3,35,7202,15394,7330,7458,67116322,16,7202,7202,16] [10] [] []
def AUu:Fl AA 103 f103 Aez:=GU func103
noncomputable def Aey:Ef:=hm [2,4] [] [] []
def AUt:Fl AA 104 f104 Aey:=GU func104
noncomputable def Aex:Ef:=hm [7,64] [] [] []
def AUs:Fl AA 105 f105 Aex:=GU func105
noncomputable def Aew:Ef:=hm [6,16] [] [] []
def AUr:Fl AA 106 f106 Aew:=GU func106
noncomputable def Aev:Ef:=hm [6,8] [] [] []
def AUq:Fl AA 107 f107 Aev:=GU func107
noncomputable def Aeu:Ef:=hm [1,9,4] [] [] []
def AUp:Fl AA 109 f109 Aeu:=GU func109
noncomputable def Aet:Ef:=hm [1,1] [] [] []
def AUo:Fl AA 110 f110 Aet:=GU func110
noncomputable def Aes:Ef:=hm [3,16] [5] [] []
def AUn:Fl AA 111 f111 Aes:=GU func111
noncomputable def Aer:Ef:=hm [12,17179869196,16,44,549755813932,16,76,35184372088908,16,0x700000000000c,0xf00000000000c,0x700000000010c,0x700000000030c,0x100700000000030c,16,0x700000000050c,0x4000700000000050c,16,0x200000700000000000c,16,0x700000000000c,0x70000000000000000008,0xf0000000000000000008,0x70000000000000001008,0x20000000070000000000000000008,16,0x70000000000000000008,0x200000000000000000000000000000,16,16] [] [] []
def AUm:Fl AA 112 f112 Aer:=GU func112
noncomputable def Aeq:Ef:=hm [9,41,553,16,16] [11] [] []
def AUl:Fl AA 113 f113 Aeq:=GU func113
noncomputable def Aep:Ef:=hm [1,17,4,4] [6] [5,7] []
def AUk:Fl AA 114 f114 Aep:=GU func114
noncomputable def Aeo:Ef:=hm [3,35,4131,16,99,524387,99,227,536871139,99,99,33,16] [13,39] [] []
def AUj:Fl AA 115 f115 Aeo:=GU func115
noncomputable def Aen:Ef:=hm [6,8] [] [] []
def AUi:Fl AA 116 f116 Aen:=GU func116
noncomputable def Aem:Ef:=hm [3,16] [5] [] []
def AUh:Fl AA 117 f117 Aem:=GU func117
noncomputable def Ael:Ef:=hm [6,8] [] [] []
def AUg:Fl AA 118 f118 Ael:=GU func118
noncomputable def Aek:Ef:=hm [30,62,40,1] [] [] []
def AUf:Fl AA 119 f119 Aek:=GU func119
noncomputable def Aei:Ef:=hm [63,32827,256,14680115,31457331,14681651,68734158387,14682675,72057594052608051,256,14680115,256] [17] [] [18]
def AUe:Fl AA 120 f120 Aei:=GU func120
noncomputable def Aeh:Ef:=hm [1,4] [] [] []
def AUd:Fl AA 123 f123 Aeh:=GU func123
noncomputable def Aeg:Ef:=hm [19,51,3634,7730,3762,3634,3634,16] [9] [] [18,19]
def AUc:Fl AA 129 f129 Aeg:=GU func129
noncomputable def Aee:Ef:=hm [28,16] [] [] []
def AUb:Fl AA 130 f130 Aee:=GU func130
noncomputable def Aed:Ef:=hm [6,4] [] [] []
def AUa:Fl AA 131 f131 Aed:=GU func131
noncomputable def Aec:Ef:=hm [2,1024,4,4] [] [] []
def AUZ:Fl AA 132 f132 Aec:=GU func132
noncomputable def Aeb:Ef:=hm [12,16] [] [] []
def AUY:Fl AA 133 f133 Aeb:=GU func133
noncomputable def Aea:Ef:=hm [2,10,262154,786442,786442,4,537133066,4,0x400000004000a,4,0x1000000000000004000a,4,0x10000000000000000000004000a,4,0x100000000000000000000000000004000a,4,0x10000000000000000000000000000004000a,0x10000000000000000000000000000000000a,4,4] [] [] []
def AUX:Fl AA 134 f134 Aea:=GU func134
noncomputable def AeZ:Ef:=hm [1,4] [] [] []
def AUW:Fl AA 135 f135 AeZ:=GU func135
noncomputable def AeY:Ef:=hm [1,4] [] [] []
def AUV:Fl AA 136 f136 AeY:=GU func136
noncomputable def AeX:Ef:=hm [35,64] [12] [] []
def AUU:Fl AA 137 f137 AeX:=GU func137
noncomputable def AeW:Ef:=hm [449,961,473,8389057,449] [] [] []
def AUT:Fl AA 138 f138 AeW:=GU func138
noncomputable def AeV:Ef:=hx [124,4220,12412,12412,128,528508,128,2147487864,128,17592186048632,17592186044536,0x1000000000000068,128,128,352,0x400000000000000000160,0xc00000000000000000160,128,0x80000000000000000000160,128,1056,128] [] [56] [] [88,90,98,100] [] [12010,12011]
def AUS:Fl AA 139 f139 AeV:=GU func139
noncomputable def AeT:Ef:=hm [25,1049,48,81,65617,48,48] [18] [] [8]
def AUR:Fl AA 140 f140 AeT:=GU func140
noncomputable def AeS:Ef:=hm [12,76,204,108,4194380,16,76,16] [] [] []
def AUQ:Fl AA 141 f141 AeS:=GU func141
noncomputable def AeR:Ef:=hm [22,16] [] [] []
def AUP:Fl AA 142 f142 AeR:=GU func142
noncomputable def AeQ:Ef:=hm [78,202,64] [] [] [9,20,26]
def AUO:Fl AA 143 f143 AeQ:=GU func143
noncomputable def AeP:Ef:=hm [60,1048636,3145788,2147483680,192,192,17180917820,304,192,0x4000000100034,3124,15360,192,0x10000000000000000000034,49172,0x100000000000000000000004014,192,192,327680,192] [78,79,110,125] [] [46,48]
def AUN:Fl AA 145 f145 AeP:=GU func145
noncomputable def AeO:Ef:=hm [28,92,220,124,92,92,16] [] [] []
def AUM:Fl AA 146 f146 AeO:=GU func146
noncomputable def AeN:Ef:=hm [22,16] [] [] []
def AUL:Fl AA 147 f147 AeN:=GU func147
noncomputable def AeM:Ef:=hm [3,4097,48,48] [13] [] []
def AUK:Fl AA 148 f148 AeM:=GU func148
noncomputable def AeL:Ef:=hm [3,35,544,96,1,16] [7,8,11] [] []
def AUJ:Fl AA 149 f149 AeL:=GU func149
noncomputable def AeJ:Ef:=hm [21,277,789,115473,246545,117009,127249,115473,549755929361,115473,192] [14,31,32,41] [] []
def AUI:Fl AA 150 f150 AeJ:=GU func150
noncomputable def AeF:Ef:=hm [1,4] [] [] []
def AUH:Fl AA 187 f187 AeF:=GU func187
noncomputable def AeE:Ef:=hm [3,16] [] [] []
def AUG:Fl AA 188 f188 AeE:=GU func188
noncomputable def AeD:Ef:=hm [3,387,899,419,65955,16,387,16] [] [] []
def AUF:Fl AA 189 f189 AeD:=GU func189
noncomputable def AeB:Ef:=hm [28,60,8388636,16,92,67108956,340,2199023255888,1,1,4503599627370512,16,16] [] [] []
def AUE:Fl AA 190 f190 AeB:=GU func190
noncomputable def AeA:Ef:=hm [12,40,16424,16,917512,1966088,917640,135135368,16,8796093939720,16,917512,16] [] [] []
def AUD:Fl AA 191 f191 AeA:=GU func191
noncomputable def Ad':Ef:=hm [3,35,3618,7714,3746,528034,16,3618,3618,16] [9] [] []
def AUC:Fl AA 195 f195 Ad':=GU func195
noncomputable def Ad_:Ef:=hm [2,4] [] [] []
def AUB:Fl AA 197 f197 Ad_:=GU func197
noncomputable def Ad9:Ef:=hm [28,1044,52,16436,240,496,67109360,496,536871280,1,4294967312,1,16] [] [] []
def AUA:Fl AA 198 f198 Ad9:=GU func198
noncomputable def Ad8:Ef:=hm [19,51,3634,7730,3762,3634,3634,16] [9] [] [18,19]
def AT':Fl AA 202 f202 Ad8:=GU func202
noncomputable def Ad7:Ef:=hm [7,16391,64,229382,491526,229766,230150,1073971206,64,229382,64] [15] [] []
def AT_:Fl AA 203 f203 Ad7:=GU func203
noncomputable def Ad6:Ef:=hm [1,4] [] [] []
def AT9:Fl AA 206 f206 Ad6:=GU func206
noncomputable def Ad5:Ef:=hm [3,16] [5] [] []
def AT8:Fl AA 207 f207 Ad5:=GU func207
noncomputable def Ad4:Ef:=hm [6,8] [] [] []
def AT7:Fl AA 208 f208 Ad4:=GU func208
noncomputable def Ad3:Ef:=hm [6,8] [] [] []
def AT6:Fl AA 209 f209 Ad3:=GU func209
noncomputable def Ad2:Ef:=hm [2,4] [] [] []
def AT5:Fl AA 210 f210 Ad2:=GU func210
noncomputable def Ad1:Ef:=hm [92,220,80,64] [] [] [17,19,24]
def AT4:Fl AA 211 f211 Ad1:=GU func211
noncomputable def Ad0:Ef:=hm [2,4] [] [] []
def AT3:Fl AA 212 f212 Ad0:=GU func212
noncomputable def Adz:Ef:=hm [12,16] [] [] []
def AT2:Fl AA 213 f213 Adz:=GU func213
noncomputable def Adw:Ef:=hm [3,16] [] [] []
def AT1:Fl AA 241 f241 Adw:=GU func241
noncomputable def Adv:Ef:=hm [2,4] [] [] []
def AT0:Fl AA 242 f242 Adv:=GU func242
noncomputable def Adu:Ef:=hm [3,16] [5] [] []
def ATz:Fl AA 243 f243 Adu:=GU func243
noncomputable def Adt:Ef:=hm [2,4] [] [] []
def ATy:Fl AA 244 f244 Adt:=GU func244
noncomputable def Ads:Ef:=hm [3,35,3618,7714,3746,528034,16,3618,3618,16] [9] [] []
def ATx:Fl AA 245 f245 Ads:=GU func245
noncomputable def Adr:Ef:=hm [3,16] [5] [] []
def ATw:Fl AA 246 f246 Adr:=GU func246
noncomputable def Adq:Ef:=hm [3,35,3618,7714,3746,528034,16,3618,3618,16] [9] [] []
def ATv:Fl AA 249 f249 Adq:=GU func249
noncomputable def Ado:Ef:=hm [3,35,32803,16,917507,1966083,917635,917891,269353347,16,918019,34360656387,16,917507,2048,35184372088832,16,16] [39,40] [] []
def ATu:Fl AA 251 f251 Ado:=GU func251
noncomputable def Adn:Ef:=hm [3,16] [5] [] []
def ATt:Fl AA 252 f252 Adn:=GU func252
noncomputable def Adm:Ef:=hm [2,10,136,24,65560,1,4] [] [] []
def ATs:Fl AA 253 f253 Adm:=GU func253
noncomputable def Adl:Ef:=hm [3,8] [] [] []
def ATr:Fl AA 254 f254 Adl:=GU func254
noncomputable def Adj:Ef:=hm [1,2] [] [] []
def ATq:Fl AA 263 f263 Adj:=GU func263
noncomputable def Adi:Ef:=hm [2,4] [] [] []
def ATp:Fl AA 264 f264 Adi:=GU func264
noncomputable def Adh:Ef:=hm [1,131073,4,17,4] [] [] []
def ATo:Fl AA 267 f267 Adh:=GU func267
noncomputable def Adg:Ef:=hm [3,387,899,419,65955,16,387,16] [] [] []
def ATn:Fl AA 268 f268 Adg:=GU func268
noncomputable def Adf:Ef:=hx [8199,7,23,2097159,23,33554439,23,55,1073741879,55,137438953511,39,70368744177671] [] [] [] [] [] [9,11]
def ATm:Fl AA 269 f269 Adf:=GU func269
noncomputable def Adb:Ef:=hm [1,1] [] [] []
def ATl:Fl AA 294 f294 Adb:=GU func294
noncomputable def Ada:Ef:=hm [7,1030,7174,1414,525446,64,64] [] [] []
def ATk:Fl AA 296 f296 Ada:=GU func296
noncomputable def AdZ:Ef:=hm [3,387,899,419,65955,16,387,16] [] [] []
def ATj:Fl AA 297 f297 AdZ:=GU func297
noncomputable def AdY:Ef:=hm [3,387,899,419,65955,16,387,16] [] [] []
def ATi:Fl AA 298 f298 AdY:=GU func298
noncomputable def AdX:Ef:=hm [1,513,4,7168,15360,7184,7216,1055792,4,7232,67116096,4,7168,4] [10] [] []
def ATh:Fl AA 299 f299 AdX:=GU func299
noncomputable def ACR:Ef:=hm [28,60,8252,16,65556,84,524372,1572948,144,134217872,1,536870996,848,274877907280,1,2199023255568,1,16] [] [] [45]
def ATg:Fl AA 300 f300 ACR:=GU func300
noncomputable def AdV:Ef:=hm [12,44,524332,16,76,274877906956,16,7696581394444,0xf000000000c,7696581394828,4511296208764940,16,7696581394444,520,0x400000000000000000,16,16] [] [] [68]
def ATf:Fl AA 301 f301 AdV:=GU func301
noncomputable def AdU:Ef:=hx [3,67,195,14680257,31457473,14680769,14681281,2162164929,14683329,3848305380545,8246351891649,3848305388737,3848305396929,3848305380545,3848305380545,14748865,15142081,0x4000000000000e70cc1,15142081,0x800000000000000000000000e50cc1,48,0x10000000000000000000000000e10cc1,14746817,14680257,14680257,48] [21,52] [] [] [36] [] [18]
def ATe:Fl AA 302 f302 AdU:=GU func302
noncomputable def AdT:Ef:=hm [3,387,899,419,65955,16,387,16] [] [] []
def ATd:Fl AA 303 f303 AdT:=GU func303
noncomputable def AdS:Ef:=hm [2,4] [] [] []
def ATc:Fl AA 304 f304 AdS:=GU func304
noncomputable def AdR:Ef:=hm [2,4] [] [] []
def ATb:Fl AA 306 f306 AdR:=GU func306
noncomputable def AdQ:Ef:=hm [6,14,10,1] [] [] []
def ATa:Fl AA 312 f312 AdQ:=GU func312
noncomputable def AdP:Ef:=hm [14,1036,16,28676,61444,28740,2125828,16,28676,16] [] [] []
def ATZ:Fl AA 313 f313 AdP:=GU func313
noncomputable def AdO:Ef:=hm [1,4] [] [] []
def ATY:Fl AA 315 f315 AdO:=GU func315
noncomputable def AdN:Ef:=hm [3,67,451,33219,963,134218691,451,451,48] [43] [] []
def ATX:Fl AA 316 f316 AdN:=GU func316
noncomputable def AdM:Ef:=hm [3,35,65571,35,16] [] [] []
def ATW:Fl AA 317 f317 AdM:=GU func317
noncomputable def AdL:Ef:=hm [1,4] [] [] []
def ATV:Fl AA 318 f318 AdL:=GU func318
noncomputable def AdK:Ef:=hm [1,4] [] [] []
def ATU:Fl AA 319 f319 AdK:=GU func319
noncomputable def AdJ:Ef:=hm [2,32,4,4] [] [] []
def ATT:Fl AA 330 f330 AdJ:=GU func330
noncomputable def AdI:Ef:=hm [6,14,10,1] [] [] []
def ATS:Fl AA 335 f335 AdI:=GU func335
noncomputable def AdH:Ef:=hm [14,1036,16,28676,61444,28740,2125828,16,28676,16] [] [] []
def ATR:Fl AA 336 f336 AdH:=GU func336
noncomputable def AdG:Ef:=hm [33,161,41,8225] [] [] []
def ATQ:Fl AA 339 f339 AdG:=GU func339
noncomputable def AdE:Ef:=hm [7,64] [] [] []
def ATP:Fl AA 341 f341 AdE:=GU func341
noncomputable def AdD:Ef:=hm [3,16] [] [] []
def ATO:Fl AA 342 f342 AdD:=GU func342
noncomputable def AdC:Ef:=hm [1,4] [] [] []
def ATN:Fl AA 343 f343 AdC:=GU func343
noncomputable def AdB:Ef:=hm [2,66,4,2147483650,4,10,2199023255562,6597069766666,4,0x8002000000000a,4,0x800002000000000a,4,0x4000000002000000000a,4,0x1000000000000002000000000a,4,0x1000000000000000000000000002,4,4] [] [] []
def ATM:Fl AA 347 f347 AdB:=GU func347
noncomputable def AdA:Ef:=hm [12,16] [] [] []
def ATL:Fl AA 357 f357 AdA:=GU func357
noncomputable def Ac':Ef:=hm [1,1] [] [] []
def ATK:Fl AA 371 f371 Ac':=GU func371
noncomputable def Ac_:Ef:=hm [3,1027,16,12291,28675,12323,16789507,16,12291,16] [] [] []
def ATJ:Fl AA 373 f373 Ac_:=GU func373
noncomputable def al:ETree:=(.node (.node (.node (.node (.node (.node (.node (.node .nil 5 f5 e5 .nil) 8 f8 e8 .nil) 11 f11 e11 (.node .nil 12 f12 e12 .nil)) 13 f13 e13 (.node (.node (.node .nil 14 f14 e14 .nil) 15 f15 e15 .nil) 16 f16 e16 (.node .nil 17 f17 e17 .nil))) 18 f18 e18 (.node (.node (.node (.node .nil 22 f22 e22 .nil) 23 f23 e23 .nil) 24 f24 e24 (.node .nil 25 f25 e25 .nil)) 26 f26 e26 (.node (.node (.node .nil 27 f27 e27 .nil) 28 f28 e28 .nil) 29 f29 e29 (.node .nil 33 f33 e33 .nil)))) 37 f37 e37 (.node (.node (.node (.node (.node .nil 38 f38 e38 .nil) 39 f39 e39 .nil) 40 f40 e40 (.node .nil 41 f41 e41 .nil)) 42 f42 e42 (.node (.node (.node .nil 43 f43 e43 .nil) 44 f44 e44 .nil) 45 f45 e45 (.node .nil 46 f46 e46 .nil))) 47 f47 e47 (.node (.node (.node (.node .nil 48 f48 e48 .nil) 49 f49 e49 .nil) 50 f50 e50 (.node .nil 55 f55 e55 .nil)) 56 f56 e56 (.node (.node .nil 57 f57 e57 .nil) 58 f58 e58 (.node .nil 59 f59 e59 .nil))))) 60 f60 e60 (.node (.node (.node (.node (.node (.node .nil 61 f61 e61 .nil) 62 f62 e62 .nil) 73 f73 e73 (.node .nil 74 f74 e74 .nil)) 75 f75 e75 (.node (.node (.node .nil 76 f76 e76 .nil) 77 f77 e77 .nil) 78 f78 e78 (.node .nil 79 f79 e79 .nil))) 88 f88 e88 (.node (.node (.node (.node .nil 89 f89 e89 .nil) 101 f101 Ae1 .nil) 102 f102 Ae0 (.node .nil 103 f103 Aez .nil)) 104 f104 Aey (.node (.node (.node .nil 105 f105 Aex .nil) 106 f106 Aew .nil) 107 f107 Aev (.node .nil 109 f109 Aeu .nil)))) 110 f110 Aet (.node (.node (.node (.node (.node .nil 111 f111 Aes .nil) 112 f112 Aer .nil) 113 f113 Aeq (.node .nil 114 f114 Aep .nil)) 115 f115 Aeo (.node (.node (.node .nil 116 f116 Aen .nil) 117 f117 Aem .nil) 118 f118 Ael (.node .nil 119 f119 Aek .nil))) 120 f120 Aei (.node (.node (.node (.node .nil 123 f123 Aeh .nil) 129 f129 Aeg .nil) 130 f130 Aee (.node .nil 131 f131 Aed .nil)) 132 f132 Aec (.node (.node .nil 133 f133 Aeb .nil) 134 f134 Aea (.node .nil 135 f135 AeZ .nil)))))) 136 f136 AeY (.node (.node (.node (.node (.node (.node (.node .nil 137 f137 AeX .nil) 138 f138 AeW .nil) 139 f139 AeV (.node .nil 140 f140 AeT .nil)) 141 f141 AeS (.node (.node (.node .nil 142 f142 AeR .nil) 143 f143 AeQ .nil) 145 f145 AeP (.node .nil 146 f146 AeO .nil))) 147 f147 AeN (.node (.node (.node (.node .nil 148 f148 AeM .nil) 149 f149 AeL .nil) 150 f150 AeJ (.node .nil 187 f187 AeF .nil)) 188 f188 AeE (.node (.node (.node .nil 189 f189 AeD .nil) 190 f190 AeB .nil) 191 f191 AeA (.node .nil 195 f195 Ad' .nil)))) 197 f197 Ad_ (.node (.node (.node (.node (.node .nil 198 f198 Ad9 .nil) 202 f202 Ad8 .nil) 203 f203 Ad7 (.node .nil 206 f206 Ad6 .nil)) 207 f207 Ad5 (.node (.node (.node .nil 208 f208 Ad4 .nil) 209 f209 Ad3 .nil) 210 f210 Ad2 (.node .nil 211 f211 Ad1 .nil))) 212 f212 Ad0 (.node (.node (.node (.node .nil 213 f213 Adz .nil) 241 f241 Adw .nil) 242 f242 Adv (.node .nil 243 f243 Adu .nil)) 244 f244 Adt (.node (.node .nil 245 f245 Ads .nil) 246 f246 Adr (.node .nil 249 f249 Adq .nil))))) 251 f251 Ado (.node (.node (.node (.node (.node (.node .nil 252 f252 Adn .nil) 253 f253 Adm .nil) 254 f254 Adl (.node .nil 263 f263 Adj .nil)) 264 f264 Adi (.node (.node (.node .nil 267 f267 Adh .nil) 268 f268 Adg .nil) 269 f269 Adf (.node .nil 294 f294 Adb .nil))) 296 f296 Ada (.node (.node (.node (.node .nil 297 f297 AdZ .nil) 298 f298 AdY .nil) 299 f299 AdX (.node .nil 300 f300 ACR .nil)) 301 f301 AdV (.node (.node .nil 302 f302 AdU .nil) 303 f303 AdT (.node .nil 304 f304 AdS .nil)))) 306 f306 AdR (.node (.node (.node (.node (.node .nil 312 f312 AdQ .nil) 313 f313 AdP .nil) 315 f315 AdO (.node .nil 316 f316 AdN .nil)) 317 f317 AdM (.node (.node (.node .nil 318 f318 AdL .nil) 319 f319 AdK .nil) 330 f330 AdJ (.node .nil 335 f335 AdI .nil))) 336 f336 AdH (.node (.node (.node (.node .nil 339 f339 AdG .nil) 341 f341 AdE .nil) 342 f342 AdD (.node .nil 343 f343 AdC .nil)) 347 f347 AdB (.node (.node .nil 357 f357 AdA .nil) 371 f371 Ac' (.node .nil 373 f373 Ac_ .nil)))))))
def WB:al.All AA:=⟨⟨⟨⟨⟨⟨⟨⟨tV,Ag0,tV⟩,Agz,tV⟩,Aej,⟨tV,Aef,tV⟩⟩,AeU,⟨⟨⟨tV,AeK,tV⟩,AeI,tV⟩,AeH,⟨tV,AeG,tV⟩⟩⟩,AeC,⟨⟨⟨⟨tV,Ady,tV⟩,Adx,tV⟩,Adp,⟨tV,Adk,tV⟩⟩,Ade,⟨⟨⟨tV,Add,tV⟩,Adc,tV⟩,AdW,⟨tV,AdF,tV⟩⟩⟩⟩,Ac9,⟨⟨⟨⟨⟨tV,Ac8,tV⟩,Ac7,tV⟩,Ac6,⟨tV,Ac5,tV⟩⟩,Ac4,⟨⟨⟨tV,Ac3,tV⟩,Ac2,tV⟩,Ac1,⟨tV,Ac0,tV⟩⟩⟩,Acz,⟨⟨⟨⟨tV,Acy,tV⟩,Acx,tV⟩,Acw,⟨tV,Acv,tV⟩⟩,Acu,⟨⟨tV,Acs,tV⟩,Acr,⟨tV,Acq,tV⟩⟩⟩⟩⟩,Acp,⟨⟨⟨⟨⟨⟨tV,Aco,tV⟩,Acn,tV⟩,Acm,⟨tV,Acl,tV⟩⟩,Ack,⟨⟨⟨tV,Acj,tV⟩,Aci,tV⟩,Ach,⟨tV,Acg,tV⟩⟩⟩,Acf,⟨⟨⟨⟨tV,Ace,tV⟩,AUw,tV⟩,AUv,⟨tV,AUu,tV⟩⟩,AUt,⟨⟨⟨tV,AUs,tV⟩,AUr,tV⟩,AUq,⟨tV,AUp,tV⟩⟩⟩⟩,AUo,⟨⟨⟨⟨⟨tV,AUn,tV⟩,AUm,tV⟩,AUl,⟨tV,AUk,tV⟩⟩,AUj,⟨⟨⟨tV,AUi,tV⟩,AUh,tV⟩,AUg,⟨tV,AUf,tV⟩⟩⟩,AUe,⟨⟨⟨⟨tV,AUd,tV⟩,AUc,tV⟩,AUb,⟨tV,AUa,tV⟩⟩,AUZ,⟨⟨tV,AUY,tV⟩,AUX,⟨tV,AUW,tV⟩⟩⟩⟩⟩⟩,AUV,⟨⟨⟨⟨⟨⟨⟨tV,AUU,tV⟩,AUT,tV⟩,AUS,⟨tV,AUR,tV⟩⟩,AUQ,⟨⟨⟨tV,AUP,tV⟩,AUO,tV⟩,AUN,⟨tV,AUM,tV⟩⟩⟩,AUL,⟨⟨⟨⟨tV,AUK,tV⟩,AUJ,tV⟩,AUI,⟨tV,AUH,tV⟩⟩,AUG,⟨⟨⟨tV,AUF,tV⟩,AUE,tV⟩,AUD,⟨tV,AUC,tV⟩⟩⟩⟩,AUB,⟨⟨⟨⟨⟨tV,AUA,tV⟩,AT',tV⟩,AT_,⟨tV,AT9,tV⟩⟩,AT8,⟨⟨⟨tV,AT7,tV⟩,AT6,tV⟩,AT5,⟨tV,AT4,tV⟩⟩⟩,AT3,⟨⟨⟨⟨tV,AT2,tV⟩,AT1,tV⟩,AT0,⟨tV,ATz,tV⟩⟩,ATy,⟨⟨tV,ATx,tV⟩,ATw,⟨tV,ATv,tV⟩⟩⟩⟩⟩,ATu,⟨⟨⟨⟨⟨⟨tV,ATt,tV⟩,ATs,tV⟩,ATr,⟨tV,ATq,tV⟩⟩,ATp,⟨⟨⟨tV,ATo,tV⟩,ATn,tV⟩,ATm,⟨tV,ATl,tV⟩⟩⟩,ATk,⟨⟨⟨⟨tV,ATj,tV⟩,ATi,tV⟩,ATh,⟨tV,ATg,tV⟩⟩,ATf,⟨⟨tV,ATe,tV⟩,ATd,⟨tV,ATc,tV⟩⟩⟩⟩,ATb,⟨⟨⟨⟨⟨tV,ATa,tV⟩,ATZ,tV⟩,ATY,⟨tV,ATX,tV⟩⟩,ATW,⟨⟨⟨tV,ATV,tV⟩,ATU,tV⟩,ATT,⟨tV,ATS,tV⟩⟩⟩,ATR,⟨⟨⟨⟨tV,ATQ,tV⟩,ATP,tV⟩,ATO,⟨tV,ATN,tV⟩⟩,ATM,⟨⟨tV,ATL,tV⟩,ATK,⟨tV,ATJ,tV⟩⟩⟩⟩⟩⟩⟩
def AA5:AA.follows .mixedOrders=true:=kr
open Go.MapKept Go.Maps Go.WideElems Go.WideShapes
def nI(x:Int):List Int->List Int
 |[]=>[x]
 |y::l=>if x<=y then x::y::l else y::nI x l
def Oy:List Int->List Int
 |[]=>[]
 |x::l=>nI x (Oy l)
def S1(x:Int): ∀l,(nI x l).Perm (x::l)
 |[] => .refl _
 |y::l=>by
  unfold nI
  split
  ·exact .refl _
  ·exact((S1 x l).cons y).trans (.swap _ _ _)
def Ox:∀l,(Oy l).Perm l
 |[] => .refl _
 |x::l=>(S1 x _).trans ((Ox l).cons x)
def Tj{x:Int}: ∀{l:List Int},l.Pairwise (· <= ·)->(nI x l).Pairwise (· <= ·)
 |[],_=>by simp[nI]
 | y::l,h=>by
  unfold nI
  split
  ·rename_i hxy
   refine List.Pairwise.cons (λz hz=>?_) h
   rcases AY.1 hz with rfl|hz
   ·exact hxy
   ·exact DG hxy ((Bf.1 h).1 z hz)
  ·rename_i hxy
   obtain⟨h1,h2⟩:=Bf.1 h
   refine List.Pairwise.cons (λz hz=>?_) (Tj h2)
   rcases AY.1 ((S1 x l).mem_iff.1 hz)with rfl|hz
   ·omega
   ·exact h1 z hz
def QL:∀l:List Int,(Oy l).Pairwise (· <= ·)
 |[] => .nil
 |_::l=>Tj (QL l)
def tj{l l':List Int}(h:l'.Perm l):l'.mergeSort (λx y=>decide (x<=y))=Oy l:=by
 have tr:∀a b c:Int,leI a b=true->leI b c=true->leI a c=true:=λa b c h1 h2=>by simp only[leI,decide_eq_true_eq]at *;exact DG h1 h2
 have to:∀a b:Int,(leI a b||leI b a)=true:=λa b=>by simp only[leI,CF,decide_eq_true_eq];exact Int.le_total a b
 refine List.Perm.eq_of_pairwise (le:=λa b=>a<=b) (λa b _ _ h1 h2=>Int.le_antisymm h1 h2) ?_ (QL l) (((List.mergeSort_perm l' _).trans h).trans (Ox l).symm)
 exact(List.pairwise_mergeSort tr to l').imp λ{a b} hab=>by simpa [leI]using hab
def AFI:AV->Int
 |.int _ n=>n
 |_=>0
def ABb:AV->Bool
 |.int .i64 n=>(Lit.int .i64 n).wf
 |_=>false
def Ms(es:List (AV×AV)):List Int:=es.map λp=>AFI p.1
def VS(es:List (AV×AV)):Bool:=es.all (λp=>ABb p.1)&&ZF es
def V0{a:AV}(h:ABb a=true): ∃n,a = .int .i64 n/\(Lit.int .i64 n).wf=true:=by
 unfold ABb at h
 split at h
 ·exact⟨_,rfl,h⟩
 ·cases h
abbrev RT:Value->Option (DataW Unit×List MemPlace):=λ_=>some (.lit (.bool true),[])
section
variable{P:Program}{F:Nat->Prop}{G:Gh}{w:World}{H:cj}
def AA6 {k:TypeId} (hk:P.underlying k=some (.int .i64)) {vs:List AV} {us:List Value} (hc:CRel F G vs H us w) {o:Nat} {um:Value} (hm:VRel G w (.mapr o) um) {es:List (AV×AV)}
  (he:Is H (.mapr o)=some es) (hok:VS es=true) (hlen:es.length<=maxLen) :
  ∃b D0,um = .map (some b)/\w.ownsMap P k RT b es.length D0/\(intKeys D0).Perm (Ms es)/\Maps.size D0=es.length:=by
 simp only[VS,AM]at hok
 obtain⟨hk1,hk2⟩:=hok
 have hd:=WI hk2
 rcases Sq hc hm he with⟨h,_⟩|⟨o',b,ms,cl,ho,rfl,hob,hkb,hms,hl,hH,hrel⟩
 ·cases h
 cases ho
 obtain⟨hcl,hborn⟩:=L4 hc hH hob hkb hms
 have key:∀(i:Nat) (x:MapEntry),ms[i]? =some x -> ∃(p:AV×AV) (n:Int),es[i]? =some p/\p.1 = .int .i64 n/\x.key=encZ n/\(Lit.int .i64 n).wf=true:=λi x hx=>by
  have hlt:=(An.1 hx).1
  have hp:es[i]? =some (es[i]' FR):=AH _
  obtain⟨n,hn,hw⟩:=V0 (Am.1 hk1 _ (List.mem_of_getElem? hp))
  have hv:=(hrel i _ x hp hx).2.2.1
  rw[hn]at hv
  refine⟨_,n,hp,hn, ?_,hw⟩
  generalize x.key=y at hv ⊢
  cases hv;rfl
 have hR:∀x∈ms.toList,∃(i:Nat) (p:AV×AV) (n:Int),ms[i]? =some x/\es[i]? =some p/\p.1 = .int .i64 n/\rd P k RT x=some (.int .i64 n,.lit (.bool true)):=λx hx=>by
  obtain⟨i,hi⟩:=Ae hx
  rw[Ac]at hi
  obtain⟨p,n,h1,h2,h3,h4⟩:=key i x hi
  refine⟨i,p,n,hi,h1,h2, ?_⟩
  have:keyOf P k x.key=some (.int .i64 n):=by
   rw[h3]
   simp[keyOf,hk,mapKey,encZ,h4]
  simp[rd,this,RT]
 have hmap:ms.toList.map (λx=>intOf (rg P k RT x).1)=Ms es:=by
  apply A3
  intro i
  unfold Ms
  rw[Aa,Aa,Ac]
  cases hx:ms[i]? with
  |none =>
   have:es[i]? =none:=Av (by have:=Dk.1 hx;omega)
   rw[this];rfl
  | some x =>
   obtain⟨p,n,h1,h2,h3,h4⟩:=key i x hx
   have:keyOf P k x.key=some (.int .i64 n):=by
    rw[h3]
    simp[keyOf,hk,mapKey,encZ,h4]
   rw[h1]
   simp[rg,rd,this,RT,intOf,h2,AFI]
 have hkeys:ms.toList.map (·.key)=(Ms es).map encZ:=by
  apply A3
  intro i
  unfold Ms
  rw[Aa,Aa,Aa,Ac]
  cases hx:ms[i]? with
  |none =>
   have:es[i]? =none:=Av (by have:=Dk.1 hx;omega)
   rw[this];rfl
  |some x =>
   obtain⟨p,n,h1,h2,h3,h4⟩:=key i x hx
   rw[h1]
   simp[h2,h3,AFI]
 have hborns:ms.toList.map (·.born)=Ak ms.size:=by
  apply A3
  intro i
  rw[Aa,Ac]
  cases hx:ms[i]? with
  |none =>
   have:=Dk.1 hx
   rw[Av (by simpa using this)];rfl
  |some x =>
   have:=(An.1 hx).1
   rw[AH (by simpa using this)]
   simp[hborn i x hx]
 have hnd:(Ms es).Nodup:=by
  refine EG.2 (hd.imp_of_mem λ{p q} hp hq h e=>?_)
  obtain⟨n,hn,_⟩:=V0 (Am.1 hk1 _ hp)
  obtain⟨m,hm,_⟩:=V0 (Am.1 hk1 _ hq)
  rw[hn,hm]at h e
  simp[AFI]at e
  subst e
  simp[Hr,Nu]at h
 refine⟨b,_,rfl,⟨ms,cl,hms,⟨FR,⟨λx hx=>?_, ?_, ?_⟩,λx hx=>?_⟩,FR,rfl⟩, ?_, ?_⟩
 ·obtain⟨i,hi⟩:=Ae hx
  rw[Ac]at hi
  have:=(An.1 hi).1
  rw[hborn i x hi];omega
 ·rw[hborns];exact List.nodup_range
 ·rw[hkeys]
  exact EG.2 (hnd.imp λh e=>h (encZ_inj e))
 ·obtain⟨i,p,n,_,_,_,h⟩:=hR x hx
  exact⟨_,h⟩
 ·show(List.map _ _).Perm _
  rw[<- hmap,show(ms.toList.map λx=>intOf (rg P k RT x).1)=(ms.toList.map (rg P k RT)).map λp=>intOf p.1 by rw[List.map_map];rfl]
  exact(sorted_perm _).map _
 ·show List.length _=_
  rw[(sorted_perm _).length_eq,Ap,Array.length_toList,hl]
def xE(hF:∀b,F b->b<w.heap.size){w':World}(hb:RowKit.Below w.heap.size w w'){g:Nat}(hg:w.heap.size<=g)(k:Kind):Ext F G w (G.setKind g k) w':=by
 have ne:∀b,b<w.heap.size->b≠g:=λb h e=>FR
 refine⟨hb.size,⟨λ_ _ h=>h,λb C E hc=>?_,λb hlt _=>⟨Nat.lt_of_lt_of_le hlt hb.size,G.kind_set_ne k (ne b hlt)⟩,λb off v hs hc=>?_⟩,λb h=>G.kind_set_ne k (ne b (hF b h)),λb h=>hb.block b (hF b h),⟨hb.os,hb.tape,hb.output⟩⟩
 ·exact⟨C,(hb.block b (An.1 hc).1).trans hc,rfl⟩
 ·have hlt:=rD hc
  exact⟨(G.safe_set_ne k (ne b hlt)).2 hs,(hb.cell (p:=⟨b,off,none⟩) hlt).trans hc⟩
def pi{vs:List AV}{us:List Value}(hc:CRel F G vs H us w){w':World}(hb:RowKit.Below w.heap.size w w'){g:Nat}(hg:w.heap.size<=g){R:AV->cj->Prop}{v:AV}{u:Value}(hR:R v H)
  (hv:VRel (G.setKind g .imm) w' v u)(ht:Gs v u=[]):Fi F G w R u w':=by
 have he:=xE (F:=F) (G:=G) hc.h.fore hb hg .imm
 have hne:∀b,b<w.heap.size->(G.setKind g .imm).kind b=G.kind b/\w'.heap[b]? =w.heap[b]?:=λb hlt=>⟨G.kind_set_ne .imm FR,hb.block b hlt⟩
 refine⟨v,H,_,hR,⟨.cons hv (Fj ht _ _ _) (.nil _ _ _),hc.h.ext he rfl λb hb'=>?_,λb=>?_⟩,he⟩
 ·rcases hb' with⟨o',cs,h1,h2⟩|hb'
  ·exact hne b (hc.h.block_lt h1 h2)
  ·obtain⟨_,_,C,E,t3⟩:=hc.h.tok_of_pos hb'
   exact hne b (An.1 t3).1
 ·rw[NG (G:=G) (w:=w) (G':=G.setKind g .imm) rfl λo' cs b' h1 h2=>(hne b' (hc.h.block_lt h1 h2)).2,Fc,GS,ht]
  have:=hc.cnt b
  simp
  omega
def ABc{w':World}{base e:Nat}{v:Value}{ss:List Int}(h:w'.ownsRow base e 1 v ss.length (ss.map encZ)):
  ∃g,base<=g /\ ∀G:Gh,VRel (G.setKind g .imm) w' (.sl none (ss.map (.int .i64))) v:=by
 obtain⟨hl,h⟩:=h
 rcases h with⟨rfl,h0⟩|⟨g,cap,cur,rfl,hbg,hg,h1,h2,h3,h4⟩
 ·obtain rfl:=List.eq_nil_of_length_eq_zero h0
  exact⟨base,Nat.le_refl _,λG => .slnil none⟩
 ·refine⟨g,hbg,λG=>?_⟩
  have hlen:(ss.map (AV.int .i64)).length=ss.length:=Ap ..
  have hcat:HP (ss.map (AV.int .i64))=ss.map (AV.int .i64):=by
   unfold HP
   rw[List.flatMap_map]
   clear hl hlen h4 h1
   induction ss with
   |nil=>rfl
   |cons x l ih=>rw[List.flatMap_cons,ih];rfl
  rw[<- hlen]
  refine .sl none _ 1 g 0 cap (λi=>encZ (ss[i]?.getD 0)) (λa ha=>?_) (λ_ h=>by cases h) (by rw[hlen];exact h1) h2 (λi c hi=>?_) (λi c hi=>?_)
  ·obtain⟨n,_,rfl⟩:=List.mem_map.1 ha;rfl
  ·rw [hcat,Aa] at hi
   cases hs:ss[i]? with
   |none=>rw[hs]at hi;cases hi
   | some n =>
    rw[hs]at hi;cases hi
    refine⟨rfl, ?_, ?_⟩
    ·unfold Gh.safe;rw[G.kind_set];trivial
    ·have hin:(cur.toList.take (ss.length*1))[i]? =some (encZ n):=by rw[h4,Aa,hs];rfl
     have hci:cur[i]? =some (encZ n):=by
      rw[List.getElem?_take]at hin
      split at hin
      ·rwa [Ac]at hin
      ·cases hin
     simp[World.cell?,hg,hci]
  ·rw[hcat,Aa]at hi
   cases hs:ss[i]? with
   |none=>rw[hs]at hi;cases hi
   |some n =>
    rw[hs]at hi;cases hi
    exact .int _ _
end
end Go.AI
namespace Go.Proofs
open Go.RowKit Go.Maps Go.Sort Go.Shelf Go.AI
def MO:Go.Shelf.Ren:=⟨fun|7=>306|10=>339|n=>n,fun|23=>144|26=>3|3=>4|28=>358|0=>0|27=>357|33=>235|4=>4|n=>n,fun|n=>n⟩
def pN:Go.Proofs.SlLaysZI.n7 AA MO:={
 mixed:=kr
 f7:=⟨f306.name,dc,func306.trans (congrArg some kr)⟩
 f10:=⟨f339.name,dc,func339.trans (congrArg some kr)⟩
 t0:=Tryz.underlying0
 a0:=Tryz.isAgg0
 z0:=Tryz.sizeOf0
 v0:=Tryz.zeroValue0
 t4:=Tryz.underlying4
 a4:=Tryz.isAgg4
 z4:=Tryz.sizeOf4
 v4:=Tryz.zeroValue4
 t23:=Tryz.underlying144
 a23:=Tryz.isAgg144
 z23:=Tryz.sizeOf144
 v23:=Tryz.zeroValue144
 t26:=Tryz.underlying3
 a26:=Tryz.isAgg3
 z26:=Tryz.sizeOf3
 v26:=Tryz.zeroValue3
 t27:=Tryz.underlying357
 a27:=Tryz.isAgg357
 z27:=Tryz.sizeOf357
 v27:=Tryz.zeroValue357
 t28:=Tryz.underlying358
 a28:=Tryz.isAgg358
 z28:=Tryz.sizeOf358
 v28:=Tryz.zeroValue358
 t33:=Tryz.underlying235
 a33:=Tryz.isAgg235
 z33:=Tryz.sizeOf235
 v33:=Tryz.zeroValue235 }
def NS:Go.Shelf.Ren:=⟨fun|6=>305|8=>337|9=>338|11=>350|13=>352|12=>351|23=>369|24=>370|14=>360|15=>361|16=>362|17=>363|18=>364|19=>365|20=>366|21=>367|22=>368|25=>375|26=>376|27=>377|28=>378|29=>379|30=>199|31=>381|n=>n,fun|26=>3|28=>358|24=>45|0=>0|3=>3|37=>341|48=>395|50=>397|4=>4|40=>389|39=>388|45=>134|5=>5|9=>9|51=>400|55=>335|57=>405|58=>85|33=>235|n=>n,fun|n=>n⟩
def bd:Go.Proofs.SlLaysZI.n6 AA NS:={
 mixed:=kr
 f6:=⟨f305.name,dc,func305.trans (congrArg some kr)⟩
 f8:=⟨f337.name,dc,func337.trans (congrArg some kr)⟩
 f11:=⟨f350.name,dc,func350.trans (congrArg some kr)⟩
 t0:=Tryz.underlying0
 a0:=Tryz.isAgg0
 z0:=Tryz.sizeOf0
 v0:=Tryz.zeroValue0
 t24:=Tryz.underlying45
 a24:=Tryz.isAgg45
 z24:=Tryz.sizeOf45
 v24:=Tryz.zeroValue45
 t26:=Tryz.underlying3
 a26:=Tryz.isAgg3
 z26:=Tryz.sizeOf3
 v26:=Tryz.zeroValue3
 t28:=Tryz.underlying358
 a28:=Tryz.isAgg358
 z28:=Tryz.sizeOf358
 v28:=Tryz.zeroValue358
 i26:=by kernel_rfl }
def Wm:Go.Shelf.Ren:=⟨fun|5=>338|8=>352|7=>351|19=>369|20=>370|10=>360|11=>361|12=>362|13=>363|14=>364|15=>365|16=>366|17=>367|18=>368|30=>375|31=>376|32=>377|33=>378|34=>379|35=>199|40=>381|n=>n,fun|23=>45|25=>3|3=>3|32=>341|22=>45|0=>0|44=>395|46=>397|4=>4|36=>389|35=>388|41=>134|5=>5|9=>9|53=>400|57=>335|63=>405|64=>85|n=>n,fun|n=>n⟩
def Wn:Go.Proofs.SlLaysM.n5 AA Wm:={
 mixed:=kr
 f5:=⟨f338.name,dc,func338.trans (congrArg some kr)⟩
 f7:=⟨f351.name,dc,func351.trans (congrArg some kr)⟩
 f8:=func352.trans (congrArg some kr)
 f10:=⟨f360.name,dc,func360.trans (congrArg some kr)⟩
 f11:=⟨f361.name,dc,func361.trans (congrArg some kr)⟩
 f12:=⟨f362.name,dc,func362.trans (congrArg some kr)⟩
 f13:=⟨f363.name,dc,func363.trans (congrArg some kr)⟩
 f14:=⟨f364.name,dc,func364.trans (congrArg some kr)⟩
 f15:=⟨f365.name,dc,func365.trans (congrArg some kr)⟩
 f16:=⟨f366.name,dc,func366.trans (congrArg some kr)⟩
 f17:=⟨f367.name,dc,func367.trans (congrArg some kr)⟩
 f18:=⟨f368.name,dc,func368.trans (congrArg some kr)⟩
 f19:=func369.trans (congrArg some kr)
 f20:=func370.trans (congrArg some kr)
 f30:=⟨f375.name,dc,func375.trans (congrArg some kr)⟩
 f31:=func376.trans (congrArg some kr)
 f32:=func377.trans (congrArg some kr)
 f33:=⟨f378.name,dc,func378.trans (congrArg some kr)⟩
 f34:=⟨f379.name,dc,func379.trans (congrArg some kr)⟩
 f35:=⟨f199.name,dc,func199.trans (congrArg some kr)⟩
 f40:=⟨f381.name,dc,func381.trans (congrArg some kr)⟩
 t0:=Tryz.underlying0
 a0:=Tryz.isAgg0
 z0:=Tryz.sizeOf0
 v0:=Tryz.zeroValue0
 t3:=Tryz.underlying3
 a3:=Tryz.isAgg3
 z3:=Tryz.sizeOf3
 v3:=Tryz.zeroValue3
 t4:=Tryz.underlying4
 a4:=Tryz.isAgg4
 z4:=Tryz.sizeOf4
 v4:=Tryz.zeroValue4
 t5:=Tryz.underlying5
 a5:=Tryz.isAgg5
 z5:=Tryz.sizeOf5
 v5:=Tryz.zeroValue5
 t9:=Tryz.underlying9
 a9:=Tryz.isAgg9
 z9:=Tryz.sizeOf9
 v9:=Tryz.zeroValue9
 t22:=Tryz.underlying45
 a22:=Tryz.isAgg45
 z22:=Tryz.sizeOf45
 v22:=Tryz.zeroValue45
 t23:=Tryz.underlying45
 a23:=Tryz.isAgg45
 z23:=Tryz.sizeOf45
 v23:=Tryz.zeroValue45
 t25:=Tryz.underlying3
 a25:=Tryz.isAgg3
 z25:=Tryz.sizeOf3
 v25:=Tryz.zeroValue3
 t32:=Tryz.underlying341
 a32:=Tryz.isAgg341
 z32:=Tryz.sizeOf341
 v32:=Tryz.zeroValue341
 t35:=Tryz.underlying388
 a35:=Tryz.isAgg388
 z35:=Tryz.sizeOf388
 v35:=Tryz.zeroValue388
 t36:=Tryz.underlying389
 a36:=Tryz.isAgg389
 z36:=Tryz.sizeOf389
 v36:=Tryz.zeroValue389
 t41:=Tryz.underlying134
 a41:=Tryz.isAgg134
 z41:=Tryz.sizeOf134
 v41:=Tryz.zeroValue134
 t44:=Tryz.underlying395
 a44:=Tryz.isAgg395
 z44:=Tryz.sizeOf395
 v44:=Tryz.zeroValue395
 t46:=Tryz.underlying397
 a46:=Tryz.isAgg397
 z46:=Tryz.sizeOf397
 v46:=Tryz.zeroValue397
 t53:=Tryz.underlying400
 a53:=Tryz.isAgg400
 z53:=Tryz.sizeOf400
 v53:=Tryz.zeroValue400
 t57:=Tryz.underlying335
 a57:=Tryz.isAgg335
 z57:=Tryz.sizeOf335
 v57:=Tryz.zeroValue335
 t63:=Tryz.underlying405
 a63:=Tryz.isAgg405
 z63:=Tryz.sizeOf405
 v63:=Tryz.zeroValue405
 t64:=Tryz.underlying85
 a64:=Tryz.isAgg85
 z64:=Tryz.sizeOf85
 v64:=Tryz.zeroValue85 }
def jx(m:Nat):AnyZI.SortsIn AA NS Fence.wide m :=
  ⟨λblk off cap ss W hH hblk hsz=>callsIn_wide.2 (AnyM.slices_Sort_int Wn blk off cap ss W hH hblk hsz),
   λp cap W=>callsIn_wide.2 (AnyM.slices_Sort_int_none Wn p cap W)⟩
end Go.Proofs
namespace Go.AI
open Go.RowKit Go.Maps Go.Sort Go.Shelf Go.Proofs
def dZ{H : cj}{ob o : Nat}{es : List (AV × AV)}(h1 : H[ob]? = some (some [.mapr o]))(h2 : Is H (.mapr o) = some es)(h3 : VS es = true)(h4 : es.length <= 1073741824):
    Fa AA 305 [.fn (.func 339) [] [.ptr ob 0]] H λv H'=>v = .sl none ((Oy (Ms es)).map (.int .i64))/\H'=H := by
  refine⟨kr,λF G w us hc=>?_⟩
  have hlen := hc.l.len
  obtain⟨u,rfl⟩:∃u,us=[u] := by
    match us,hlen with
    |[u],_=>exact⟨u,rfl⟩
  have hx := hc.l.rel 0 _ _ rfl rfl
  cases hx with
  |fn _ _ _ fi ca k1 k2 k3 k4 =>
  obtain rfl:fi=#[] := by
    have:fi.size=0 := k1.symm
    exact Array.eq_empty_of_size_eq_zero this
  obtain ⟨x,rfl⟩ : ∃ x,ca=#[x] := by
    have:ca.size=1 := k2.symm
    exact ⟨ca[0], by apply Array.ext; · simp [this]
                     · intro i hi1 hi2;simp at hi2;subst hi2;rfl⟩
  have hp := k4 0 _ x rfl rfl
  cases hp with
  |ptr _ _ B hB hCE =>
  obtain⟨C,E,hC⟩ := hCE
  obtain⟨_,C',E',hC',hle,hrow⟩ := (hc.h.obj ob _ B h1 hB).of_cells hC
  rw[hC]at hC'
  cases hC'
  have h0:C[0]? =some (C[0]'(by simp at hle;omega)) := Array.getElem?_eq_getElem _
  generalize C[0]'(by simp at hle;omega)=um at h0
  obtain⟨_,hm,_⟩ := hrow 0 _ um rfl h0
  obtain⟨b,D0,rfl,hown,hperm,hsz⟩ := AA6 (P := AA) (k := MO.t 26) kr hc hm h2 h3 (by unfold maxLen;omega)
  have hcell:w.cell? ⟨B,0,none⟩=some (.map (some b)) := by simp[World.cell?,hC,h0]
  have hseq:SeqGives Fence.wide 2 AA 339 #[.pointer (some ⟨B,0,none⟩)] encZ (λss=>ss.Perm (intKeys D0)) (Maps.size D0) w :=
    AnyZI.keys_gives (ρ := MO) { pN with } Fence.wide _ trivial rfl FR B b es.length D0 w (An.1 hC).1 hcell hown
  have cS := AnyZI.sorted_in bd Fence.wide 5 trivial trivial trivial trivial rfl FR (jx _) (enters_of func338 kr rfl) 339 #[.pointer (some ⟨B,0,none⟩)] trivial (enters_of func339 kr rfl) _ _ (by rw[hsz];unfold maxLen;omega) (by rw[hsz];omega) _ hseq
  change CallsIn _ _ AA 305 _ _ _ at cS
  refine(callsIn_wide (n := 5)).1 (cS.mono ?_)
  rintro e w' ⟨v,ss,rfl,hS,hrow2,hnil,hbel⟩
  have hs:ss.mergeSort (λx y=>decide (x<=y))=Oy (Ms es) := tj (hS.trans hperm)
  rw[hs]at hrow2
  have hl2:ss.length=(Oy (Ms es)).length := by rw[(hS.trans hperm).length_eq,(Ox _).length_eq]
  rw[hl2]at hrow2
  obtain⟨g,hg,hv⟩ := ABc hrow2
  exact⟨v,rfl,pi hc hbel hg ⟨rfl,rfl⟩ (hv G) (GP rfl _)⟩
def lf:Orc:=λf vs H=>bif CG f 305 then
  match vs with
  | [.fn (.func s) [] [.ptr ob 0]]=>bif CG s 339 then match H[ob]? with
   |some (some [.mapr o])=>match Is H (.mapr o)with
    |some es=>bif VS es&&Nat.ble es.length 1073741824 then some (.sl none ((Oy (Ms es)).map (.int .i64)),H)else none
    |none=>none
   |_=>none
   else none
  |_=>none
 else none
def r8:rX AA lf:=by
 intro f vs H v H' h
 unfold lf at h
 cases hf:CG f 305 with
 |false=>rw[hf]at h;cases h
 | true =>
  rw[hf]at h
  have:=DF hf
  subst this
  dsimp only[cond_true]at h
  split at h
  ·rename_i s ob
   cases hs:CG s 339 with
   |false=>rw[hs]at h;cases h
   | true =>
    rw[hs]at h
    have:=DF hs
    subst this
    dsimp only[cond_true]at h
    split at h
    ·rename_i o h1
     split at h
     ·rename_i es h2
      cases h3:(VS es&&Nat.ble es.length 1073741824)with
      |false=>rw[h3]at h;cases h
      |true =>
       rw[h3]at h
       cases h
       simp only[AM]at h3
       exact dZ h1 h2 h3.1 (Nat.le_of_ble_eq_true h3.2)
     ·cases h
    ·cases h
  ·cases h
end Go.AI
