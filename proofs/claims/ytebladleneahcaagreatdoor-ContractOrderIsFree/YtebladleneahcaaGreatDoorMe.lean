/- The abstract walk as a program that computes: operations. -/
import Derived.Test.YtebladleneahcaaGreatDoorLi
import Derived.Test.YtebladleneahcaaGreatDoorProg
import Derived.Below
import Derived.Shelf.SlIterI.Nil
import Derived.Shelf.SortM.Plain
import Derived.Shelf.SortM.SortNone
import Derived.Ground.GgzProg
import Derived.Ground.SlgmProg
set_option linter.unusedSimpArgs false
set_option linter.unusedVariables false
set_option linter.defProp false
open Go.Proofs.Tryz
open Go.AI renaming Hint->Eg
open Array renaming getElem?_eq_none_iff->Dm,getElem?_eq_some_iff->Ao,getElem?_toList->Ac
open Bool renaming and_eq_true->AQ,or_eq_true->CI
open Int renaming le_trans->DI
open List renaming all_eq_true->Am,ext_getElem?->A4,getElem?_eq_getElem->AL,getElem?_eq_none->Az,getElem?_eq_some_iff->AC,getElem?_map->AZ,getElem?_of_mem->Ae,length_map->Aq,mem_cons->AW,mem_singleton->Ab,pairwise_cons->Bi,pairwise_map->EG,range->Ak
open Nat renaming beq->CJ,eq_of_beq_eq_true->DH
open Option renaming any->Cs,bind_eq_some_iff->CG
open Go.Proofs.Tryz renaming prog->AA
namespace Go.AI
open Go.MapKept
def AD2(op:BinOp)(a b:AV):Option AV :=
 match a,b with
 | .int k x,.int k' y =>
  match op with
  | .shl=>if 0<=y then some (.int k (k.wrap (x*2^(min y.toNat k.bits)))) else none
  | .shr=>if 0<=y then some (.int k (x.fdiv (2^(min y.toNat k.bits)))) else none
  | .add=>if k=k' then some (.int k (k.wrap (x+y))) else none
  | .sub=>if k=k' then some (.int k (k.wrap (x - y))) else none
  | .mul=>if k=k' then some (.int k (k.wrap (x*y))) else none
  | .quo=>if k=k'/\y≠0 then some (.int k (k.wrap (x.tdiv y))) else none
  | .rem=>if k=k'/\y≠0 then some (.int k (x.tmod y)) else none
  | .and=>if k=k' then some (.int k (k.wrap (BitVec.ofInt k.bits x &&& BitVec.ofInt k.bits y).toNat)) else none
  | .or=>if k=k' then some (.int k (k.wrap (BitVec.ofInt k.bits x ||| BitVec.ofInt k.bits y).toNat)) else none
  | .xor=>if k=k' then some (.int k (k.wrap (BitVec.ofInt k.bits x ^^^ BitVec.ofInt k.bits y).toNat)) else none
  | .andNot=>if k=k' then some (.int k (k.wrap (BitVec.ofInt k.bits x &&& ~~~ BitVec.ofInt k.bits y).toNat)) else none
  | .eql=>if k=k' then some (.bool (x==y)) else none
  | .neq=>if k=k' then some (.bool (x !=y)) else none
  | .lss=>if k=k' then some (.bool (decide (x<y))) else none
  | .leq=>if k=k' then some (.bool (decide (x<=y))) else none
  | .gtr=>if k=k' then some (.bool (decide (x>y))) else none
  | .geq=>if k=k' then some (.bool (decide (x≥y))) else none
 | .str x,.str y =>
  match op with
  | .add=>if x.size+y.size<=9223372036854775807 then some (.str (x++y)) else none
  | .eql=>some (.bool (x.data.toList==y.data.toList))
  | .neq=>some (.bool !(x.data.toList==y.data.toList))
  | .lss=>some (.bool (Op.bytesLess x.data.toList y.data.toList))
  | .leq=>some (.bool (Op.bytesLess x.data.toList y.data.toList||x.data.toList==y.data.toList))
  | .gtr=>some (.bool !(Op.bytesLess x.data.toList y.data.toList||x.data.toList==y.data.toList))
  | .geq=>some (.bool !(Op.bytesLess x.data.toList y.data.toList))
  | _=>none
 | _,_=>none
def KG{α:Type}{c:Prop}[Decidable c]{x:Option α}{v:α}(h:(if c then x else none)=some v):c/\x=some v:=by
 split at h
 ·rename_i hc;exact ⟨hc,h⟩
 ·cases h
def kA{op:BinOp}{a b v:AV}{R:AV->Prop}(h:AD2 op a b=some v)(hr:R v):KD op a b R:=by
 unfold AD2 at h
 unfold KD
 split at h
 ·cases op<;>obtain ⟨h1,h2⟩:=KG h<;>cases h2<;>first|exact ⟨h1,hr⟩|exact ⟨h1.1,h1.2,hr⟩
 ·simp only [ByteArray.toList_eq]
  cases op<;>first|(cases h;done)|(obtain ⟨h1,h2⟩:=KG h;cases h2;exact ⟨h1,hr⟩)|(cases h;exact hr)
 ·cases h
def bu(P:Program)(op:BinOp)(t:TypeId)(a b:AV):Option AV :=
 match op,KF P t a b with
 | .eql,some r=>some (.bool r)
 | .neq,some r=>some (.bool !r)
 | _,_=>AD2 op a b
def pp{P:Program}{op:BinOp}{t:TypeId}{a b v:AV}{R:AV->Prop}(h:bu P op t a b=some v)(hr:R v):KC P op t a b R:=by
 unfold bu at h
 unfold KC
 generalize KF P t a b=q at h ⊢
 cases q with
 | none=>cases op<;>exact kA h hr
 | some r=>cases op<;>first|exact kA h hr|(cases h;exact hr)
def ac(P:Program)(op:BinOp)(t:TypeId)(a:AV):Option AV :=
 match P.underlying t with
 | some (.slice _)=>match op,a with
  | .eql,.sl _ (_::_)=>some (.bool false)
  | .neq,.sl _ (_::_)=>some (.bool true)
  | .eql,.msl _ _ _ _=>some (.bool false)
  | .neq,.msl _ _ _ _=>some (.bool true)
  | _,_=>none
 | _=>none
def mu{P:Program}{op:BinOp}{t:TypeId}{a v:AV}{R:AV->Prop}(h:ac P op t a=some v)(hr:R v):Na P op t a R:=by
 unfold ac at h
 unfold Na
 split at h
 ·rename_i e he
  simp only [he]
  split at h<;>cases h<;>exact hr
 ·cases h
def bf(P:Program)(t:TypeId)(x:AV)(lo hi mx:Option Int):Option AV :=
 match P.underlying t,x with
 | some .string,.str s =>
  if mx=none/\0<=lo.getD 0/\lo.getD 0<=hi.getD s.size/\hi.getD s.size<=s.size then some (.str (s.extract (lo.getD 0).toNat (hi.getD s.size).toNat)) else none
 | some (.slice e),.sl own es =>
  if 0<=lo.getD 0/\lo.getD 0<=hi.getD es.length/\hi.getD es.length<=es.length/\es.all (λx=>x.cells.length==P.cellsOf e)=true/\(P.info? e).isSome=true then
   match mx with
   | none=>some (.sl (if hi.getD es.length=es.length then own else none) ((es.take (hi.getD es.length).toNat).drop (lo.getD 0).toNat))
   | some m=>if m=hi.getD es.length/\0<P.cellsOf e then some (.sl (some (P.cellsOf e)) ((es.take (hi.getD es.length).toNat).drop (lo.getD 0).toNat)) else none
  else none
 | some (.slice e),.msl ob off len sz =>
  if 0<=lo.getD 0/\lo.getD 0<=hi.getD len/\hi.getD len<=len/\sz=P.cellsOf e/\(P.info? e).isSome=true/\mx=none/\(lo.getD 0=0\/lo.getD 0<len) then
   some (.msl ob (off+(lo.getD 0).toNat*sz) ((hi.getD len).toNat - (lo.getD 0).toNat) sz) else none
 | some (.pointer ta),.cptr cs off=>if lo=none/\hi=none/\mx=none then
   match P.underlying ta with
   | some (.array n e)=>if P.cellsOf e=1/\off+n<=cs.length/\n<=9223372036854775807 then some (.sl none ((cs.drop off).take n)) else none
   | _=>none
  else none
 | some (.array n e),.cptr cs off=>if (lo=none/\hi=none/\mx=none)/\P.cellsOf e=1/\off+n<=cs.length/\n<=9223372036854775807 then some (.sl none ((cs.drop off).take n)) else none
 | _,_=>none
def W1(P:Program)(t:TypeId)(x:AV)(lo hi mx:Option Int)(H:FR):Option AV :=
 match P.underlying t,x with
 | some (.array n e),.ptr o off=>match H[o]? with
  | some (some cs)=>if (lo=none/\hi=none/\mx=none)/\n<=9223372036854775807/\(P.info? e).isSome=true/\off+n*P.cellsOf e<=cs.length then some (.msl o off n (P.cellsOf e)) else none
  | _=>none
 | some (.slice e),.sl _ _=>if (lo=none/\hi=some 0/\mx=some 0)/\(P.info? e).isSome=true then some (.sl (some 0) []) else none
 | _,_=>none
def jm{P:Program}{t:TypeId}{x v:AV}{lo hi mx:Option Int}{H:FR}{R:AV->Prop}(h:W1 P t x lo hi mx H=some v)(hr:R v):J9 P t x lo hi mx H R:=by
 unfold W1 at h
 unfold J9
 split at h
 ·rename_i hu
  split at h
  ·rename_i cs ho
   obtain ⟨h1,h2⟩:=KG h
   cases h2
   simp only [hu,ho]
   exact ⟨h1.1,h1.2.1,h1.2.2.1,h1.2.2.2,hr⟩
  ·cases h
 ·rename_i hu
  obtain ⟨h1,h2⟩:=KG h
  cases h2
  simp only [hu]
  exact ⟨h1.1,h1.2,hr⟩
 ·cases h
def rq{es:List AV}{k:Nat}(h:es.all (λx=>x.cells.length==k)=true): ∀ x∈es,x.cells.length=k:=λx hx=>by
 have:=Am.1 h x hx
 simpa using this
def pV{P:Program}{t:TypeId}{x v:AV}{lo hi mx:Option Int}{R:AV->Prop}(h:bf P t x lo hi mx=some v)(hr:R v):Nv P t x lo hi mx R:=by
 unfold bf at h
 unfold Nv
 split at h
 ·rename_i hu
  simp only [hu]
  obtain ⟨h1,h2⟩:=KG h
  cases h2
  exact ⟨h1.1,h1.2.1,h1.2.2.1,h1.2.2.2,hr⟩
 ·rename_i hu
  simp only [hu]
  obtain ⟨⟨h1,h2,h3,h4,h5⟩,h⟩:=KG h
  refine ⟨h1,h2,h3,rq h4,h5, ?_⟩
  split at h
  ·cases h;exact hr
  ·obtain ⟨h6,h⟩:=KG h
   cases h;exact ⟨h6.1,h6.2,hr⟩
 ·rename_i hu
  simp only [hu]
  obtain ⟨h1,h⟩:=KG h
  cases h
  exact ⟨h1,hr⟩
 ·rename_i hu
  simp only [hu]
  obtain ⟨⟨h1,h2,h3⟩,h⟩:=KG h
  refine ⟨h1,h2,h3, ?_⟩
  split at h
  ·rename_i ha
   simp only [ha]
   obtain ⟨⟨g1,g2,g3⟩,h⟩:=KG h
   cases h;exact ⟨g1,g2,g3,hr⟩
  ·cases h
 ·rename_i hu
  simp only [hu]
  obtain ⟨h1,h⟩:=KG h
  cases h
  exact ⟨h1.1,h1.2.1,h1.2.2.1,h1.2.2.2,hr⟩
 ·cases h
def ABb:AV->Bool
 | .sl (some _) _=>false
 | _=>true
def ABa{cs:List AV}(h:cs.all ABb=true):cs.map borrow1=cs:=by
 induction cs with
 | nil=>rfl
 | cons c cs ih =>
  simp only [List.all_cons,AQ] at h
  rw [List.map_cons,ih h.2]
  congr 1
  have h1:=h.1
  cases c<;>try rfl
  rename_i w es
  cases w
  ·rfl
  ·simp [ABb] at h1
def W8(P:Program)(e:TypeId)(mt ln:Bool)(H:FR)(a:AV)(xs:List AV):Option (AV×FR) :=
 if xs.all (λx=>x.cells.length==P.cellsOf e)=true then
  match mt,a with
  | false,.sl own es=>if own=some (P.cellsOf e)/\(es.length+xs.length)*P.bytesOf e<=140737488355328/\es.length+xs.length<=9223372036854775807 then some (.sl (bif ln then none else some (P.cellsOf e)) (es++xs),H) else none
  | true,.msl ob off len sz=>match H[ob]? with
   | some (some cs)=>if off=0/\cs.length=len*sz/\cs.all ABb=true/\sz=P.cellsOf e/\(len+xs.length)*P.bytesOf e<=140737488355328/\len+xs.length<=9223372036854775807 then
     some (.msl H.length 0 (len+xs.length) (P.cellsOf e),H.set ob none++[some (cs++(HQ xs).map borrow1)]) else none
   | _=>none
  | true,.sl (some 0) []=>if 0<xs.length/\xs.length*P.bytesOf e<=140737488355328/\xs.length<=9223372036854775807 then some (.msl H.length 0 xs.length (P.cellsOf e),H++[some ((HQ xs).map borrow1)]) else none
  | _,_=>none
 else none
def kB{P:Program}{e:TypeId}{mt ln:Bool}{H:FR}{a:AV}{xs:List AV}{v:AV}{H':FR}{R:AV->FR->Prop}(h:W8 P e mt ln H a xs=some (v,H'))(hr:R v H'):Nx P e mt ln H a xs R:=by
 unfold W8 at h
 unfold Nx
 obtain ⟨h0,h⟩:=KG h
 refine ⟨rq h0, ?_⟩
 split at h
 ·obtain ⟨⟨h1,h2,h3⟩,h⟩:=KG h
  cases h
  exact ⟨h1,h2,h3,hr⟩
 ·split at h
  ·rename_i hob
   obtain ⟨⟨h1,h2,h3,h4,h5,h6⟩,h⟩:=KG h
   cases h
   refine ⟨h1,h4,h5,h6, ?_⟩
   simp only [hob]
   exact ⟨h2,ABa h3,hr⟩
  ·cases h
 ·obtain ⟨⟨h1,h2,h3⟩,h⟩:=KG h
  cases h
  exact ⟨h1,h2,h3,hr⟩
 ·cases h
def ABz(k:IntKind):AV->Bool
 | .int k' _=>decide (k'=k)
 | _=>false
def AI6:AV->Bool
 | .str _=>true
 | _=>false
def q9(P:Program)(wk:List TypeId)(kt:TypeId)(ks:List AV):Bool :=
 match P.underlying kt with
 | some (.int k)=>ks.all (ABz k)
 | some .string=>ks.all AI6
 | some _=>wk.contains kt&&ks.all λa=>match TD a with
  | some v=>(keyOf P kt v).isSome
  | none=>false
 | none=>false
def bw(P:Program)(wk:List TypeId):Prop:=∀ kt∈wk,WideMaps.KeyLaw P kt
def hO{P:Program}{wk:List TypeId}{kt:TypeId}{ks:List AV}(hw:bw P wk)(h:q9 P wk kt ks=true):MV P kt ks:=by
 unfold q9 at h
 split at h
 ·rename_i k hk
  refine ⟨_,KLaw.plain hk,λa ha=>?_⟩
  have:=Am.1 h a ha
  cases a<;>first|cases this|skip
  rename_i k' n
  exact ⟨_,rfl,(by simpa [ABz] using this:k'=k)⟩
 ·rename_i hk
  refine ⟨_,KLaw.plain hk,λa ha=>?_⟩
  have:=Am.1 h a ha
  cases a<;>first|cases this|skip
  exact ⟨_,rfl,tV⟩
 ·simp only [AQ] at h
  refine ⟨_,KLaw.wide (hw kt (by simpa using h.1)),λa ha=>?_⟩
  have:=Am.1 h.2 a ha
  split at this
  ·rename_i v hv
   exact ⟨v,hv,Option.isSome_iff_exists.1 this⟩
  ·cases this
 ·cases h
def Zc(es:List (AV×AV)):Bool:=match es with
 | []=>true
 | p::es=>es.all (λq => !Hp p.1 q.1)&&Zc es
def Wg{es:List (AV×AV)}(h:Zc es=true):R7 es:=by
 induction es with
 | nil=>exact List.Pairwise.nil
 | cons p es ih =>
  simp only [Zc,AQ] at h
  exact List.Pairwise.cons (λq hq=>by simpa using Am.1 h.1 q hq) (ih h.2)
def bk(P:Program)(t:TypeId)(H:FR)(x:AV):Option (AV×FR) :=
 match P.underlying t,x with
 | some .string,.str s=>some (.it H.length,H++[some (WM s 0)])
 | some (.map _ _),.nilm=>some (.it H.length,H++[some [.nilm]])
 | some (.map _ _),.mapr o'=>match Ik H (.mapr o') with
  | some es=>some (.it H.length,H++[some (T1 o' es.length [])])
  | none=>none
 | _,_=>none
def pX{P:Program}{t:TypeId}{H:FR}{x v:AV}{H':FR}{R:AV->FR->Prop}(h:bk P t H x=some (v,H'))(hr:R v H'):RC P t H x R:=by
 unfold bk at h
 unfold RC
 split at h
 ·rename_i hu;simp only [hu];cases h;exact hr
 ·rename_i hu;simp only [hu];cases h;exact hr
 ·rename_i hu
  simp only [hu]
  split at h
  ·rename_i es he
   simp only [he];cases h;exact hr
  ·cases h
 ·cases h
def Sh(n:Nat)(seen:List AV):List Nat:=(Ak n).filter λi => !(Sj seen).contains (i:Int)
def pi(str:Bool)(H:FR)(o':Nat):Option (AV×FR) :=
 match str,H[o']? with
 | true,some (some [.str s,.int .i64 pos]) =>
  if pos.toNat<s.size then some (.tup [.bool true,.int .i64 pos.toNat,.int .i32 (Utf8.decode s pos.toNat).1],H.set o' (some (WM s ((pos.toNat+(Utf8.decode s pos.toNat).2:Nat):Int))))
  else some (.tup [.bool false],H)
 | false,some (some [.nilm])=>some (.tup [.bool false],H)
 | false,some (some [.mapr m,.int .i64 since,.tup seen])=>match Ik H (.mapr m) with
  | some es=>if since=es.length then match Sh es.length seen with
   | []=>some (.tup [.bool false],H)
   | [i]=>match es[i]? with
    | some p=>some (.tup [.bool true,p.1.borrow,p.2.borrow],H.set o' (some [.mapr m,.int .i64 since,.tup (seen++[.int .i64 i])]))
    | none=>none
   | _=>none
   else none
  | none=>none
 | _,_=>none
def Qg{n:Nat}{seen:List AV}{i:Nat}:i∈Sh n seen↔i<n/\(i:Int)∉Sj seen:=by
 simp [Sh,List.mem_filter]
def y6{str:Bool}{H:FR}{o':Nat}{v:AV}{H':FR}{R:AV->FR->Prop}(h:pi str H o'=some (v,H'))(hr:R v H'):W3 str H o' R:=by
 unfold pi at h
 unfold W3
 split at h
 ·rename_i ho
  simp only [ho]
  split at h
  ·rename_i hc;rw [iP hc];cases h;exact hr
  ·rename_i hc;rw [iN hc];cases h;exact hr
 ·rename_i ho;simp only [ho];cases h;exact hr
 ·rename_i m since seen ho
  simp only [ho]
  split at h
  ·rename_i es he
   simp only [he]
   obtain ⟨hs,h⟩:=KG h
   refine ⟨hs, ?_⟩
   split at h
   ·rename_i hun
    cases h
    refine ⟨λ_=>hr,λi p hp hns=>?_⟩
    have:i∈Sh es.length seen:=Qg.2 ⟨(AC.1 hp).1,hns⟩
    rw [hun] at this;cases this
   ·rename_i i hun
    have hi:i∈Sh es.length seen:=by rw [hun];exact Ab.2 rfl
    obtain ⟨hi1,hi2⟩:=Qg.1 hi
    split at h
    ·rename_i p hp
     cases h
     refine ⟨λhall=>absurd (hall i hi1) hi2,λj q hq hns=>?_⟩
     have:j∈Sh es.length seen:=Qg.2 ⟨(AC.1 hq).1,hns⟩
     rw [hun] at this
     obtain rfl:=Ab.1 this
     rw [hp] at hq;cases hq
     exact hr
    ·cases h
   ·cases h
  ·cases h
 ·cases h
def br(H:FR)(o':Nat):Option (AV×FR) :=
 match H[o']? with
 | some (some [.mapr m,.int .i64 since,.tup seen])=>match Ik H (.mapr m),seen.getLast? with
  | some es,some (.int .i64 i)=>if since=es.length then match es[i.toNat]? with
   | some p=>some (.tup [p.1.borrow,p.2.borrow],H)
   | none=>none
   else none
  | _,_=>none
 | _=>none
def pm{H:FR}{o':Nat}{v:AV}{H':FR}{R:AV->FR->Prop}(h:br H o'=some (v,H'))(hr:R v H'):TV H o' R:=by
 unfold br at h
 unfold TV
 split at h
 ·rename_i m since seen ho
  simp only [ho]
  split at h
  ·rename_i es i he hl
   simp only [he,hl]
   obtain ⟨hs,h⟩:=KG h
   refine ⟨hs, ?_⟩
   split at h
   ·rename_i p hp
    cases h
    exact ⟨p,hp,hr⟩
   ·cases h
  ·cases h
 ·cases h
def rl(P:Program)(wk:List TypeId)(h:Eg)(o:Oper)(vals:List AV)(H:FR):Option (AV×FR) :=
 match o.op,vals with
 | .move _,[a]=>some (a,H)
 | .assign _,[a]=>some (a,H)
 | .pick _ _ _,[.bool c,a,b]=>some (if c=true then a else b,H)
 | .box _ _,[a]=>if a.isVal=true then some (.ptr H.length 0,H++[some a.cells]) else none
 | .alloc e,[]=>match o.dst.any h.mt.contains,Fi P e with
  | false,some z=>some (.ptr H.length 0,H++[some z.cells])
  | _,_=>none
 | .build t ps,vs=>(Sg P t (ps.toList.map (·.1)) vs).map λv=>(v,H)
 | .buildSlice t len ps,vs =>
  match P.underlying t with
  | some (.slice e)=>if 0<P.cellsOf e/\len*P.cellsOf e<=16777216/\ps.toList.map (·.1)=Ak len/\vs.all (λv=>v.isVal&&v.cells.length==P.cellsOf e)=true/\Gb P e=true then
    match o.dst.any h.mt.contains with
    | true=>some (.msl H.length 0 len (P.cellsOf e),H++[some (HQ (vs.map AV.borrow))])
    | false=>some (.sl (some (P.cellsOf e)) (vs.map AV.borrow),H)
   else none
  | _=>none
 | .makeSlice t _ _,[.int _ n,.int _ c] =>
  match P.underlying t with
  | some (.slice e)=>if n=c/\0<=n/\n*P.bytesOf e<=140737488355328/\n<=9223372036854775807/\(P.info? e).isSome=true then
    match Fi P e with
    | some z=>if z.cells.length=P.cellsOf e/\0<P.cellsOf e then some (.msl H.length 0 n.toNat (P.cellsOf e),H++[some (List.replicate n.toNat z.cells).flatten]) else none
    | none=>none
   else none
  | _=>none
 | .load t _,[a]=>Yv P (o.dst.any h.tk.contains) t a H
 | .store t _ _,[a,v]=>(VI P t a v H).map λH'=>(.undef,H')
 | .nilCheck _,[a]=>(zt a).map λv=>(v,H)
 | .binOp op t _ y _,[a,b]=>match Ko y with
  | true=>(ac P op t a).map λv=>(v,H)
  | false=>(bu P op t a b).map λv=>(v,H)
 | .unOp op _ _,[a]=>(vUn op a).map λv=>(v,H)
 | .convert src dst _,[a] =>
  match P.underlying src,P.underlying dst,a with
  | some _,some (.int k),.int _ n=>some (.int k (k.wrap n),H)
  | some .string,some .string,.str s=>some (.str s,H)
  | some (.slice e),some .string,.sl _ es=>if (match P.underlying e with|some (.int .u8)=>true|_=>false)=true/\es.all Oq=true then some (.str (Pp es),H) else none
  | _,_,_=>none
 | .makeFunc fn first _,vs=>some (.fn fn (vs.take first.size) (vs.drop first.size),H)
 | .slice t _ lo hi mx,x::rest =>
  match Pq lo.isSome hi.isSome mx.isSome rest with
  | some (l,hh,m)=>match o.dst.any h.mt.contains with
   | true=>(W1 P t x l hh m H).map λv=>(v,H)
   | false=>(bf P t x l hh m).map λv=>(v,H)
  | none=>none
 | .fieldAddr s _ f,[x]=>(Sf P (fieldAt P s f) x).map λv=>(v,H)
 | .field t _ f,[x]=>(Yu P (fieldAt P t f) x).map λv=>(v,H)
 | .extract _ i,[x]=>(OR x i).map λv=>(v,H)
 | .indexAddr t _ _,[x,i]=>(Lg P (P.underlying t) x i).map λv=>(v,H)
 | .index t _ _,[x,i]=>(VJ P (P.underlying t) x i).map λv=>(v,H)
 | .makeMap _ none,[]=>some (.mapr H.length,H++[some (J0 [])])
 | .range t _,[x]=>bk P t H x
 | .next _ str,[.it o']=>pi str H o'
 | .entry _,[.it o']=>br H o'
 | .lookup t _ _ ok,[m,k] =>
  match P.underlying t with
  | some (.map kt et)=>match Ik H m with
   | some es=>if q9 P wk kt (k::es.map (·.1))=true/\Zc es=true then
     match Fi P et with
     | some z=>some (gH ok z (JA k es 0),H)
     | none=>none
    else none
   | none=>none
  | _=>none
 | .mapUpdate t _ _ _,[.mapr o',k,v] =>
  match P.underlying t with
  | some (.map kt _)=>match Ik H (.mapr o') with
   | some es=>if q9 P wk kt (k::es.map (·.1))=true/\Zc es=true/\v.isVal=true then some (.undef,H.set o' (some (J0 (MT es k v)))) else none
   | none=>none
  | _=>none
 | .call c,vs =>
  match c.callee with
  | .builtin .len=>match vs with
   | [x]=>(zu (c.argTypes[0]?.bind P.underlying) x).map λv=>(v,H)
   | _=>none
  | .builtin .append=>match vs,c.argTypes.toList with
   | [a,b],[t,t']=>if t=t' then match P.underlying t with
    | some (.slice e)=>if 0<P.cellsOf e/\Gb P e=true then match TS P e (o.dst.any h.mt.contains||o.dst.any h.tk.contains) H b with
     | some xs=>W8 P e (o.dst.any h.mt.contains) (o.dst.any h.pc.contains) H a xs
     | none=>none
     else none
    | _=>none
    else none
   | _,_=>none
  | .builtin .min=>match vs with
   | [.int k a,.int k' b]=>if k=k' then some (.int k (if b<a then b else a),H) else none
   | _=>none
  | .builtin .max=>match vs with
   | [.int k a,.int k' b]=>if k=k' then some (.int k (if b>a then b else a),H) else none
   | _=>none
  | .builtin .clear=>match vs,c.argTypes.toList with
   | [.msl ob off len sz],[t]=>match P.underlying t with
    | some (.slice e)=>match H[ob]?,Fi P e with
     | some (some cs),some z=>if sz=z.cells.length/\0<len/\off+len*sz<=cs.length then some (.tup [],H.set ob (some (splice cs off (Ga z len)))) else none
     | _,_=>none
    | _=>none
   | _,_=>none
  | _=>none
 | _,_=>none
def Mr{α β:Type}{x:Option α}{f:α->β}{y:β}(h:x.map f=some y): ∃ a,x=some a/\f a=y:=by
 cases x with
 | none=>cases h
 | some a=>exact ⟨a,rfl,by simpa using h⟩
set_option maxHeartbeats 1000000 in
def ADl{P:Program}{wk:List TypeId}(hw:bw P wk){h:Eg}{o:Oper}{vals:List AV}{H:FR}{v:AV}{H':FR}{R:AV->FR->Prop}(hx:rl P wk h o vals H=some (v,H'))(hr:R v H'):Ff P h o vals H R:=by
 unfold rl at hx
 split at hx<;>rename_i heq
 ·cases hx;simp only [Ff,heq];exact hr
 ·cases hx;simp only [Ff,heq];exact hr
 ·cases hx;simp only [Ff,heq];exact hr
 ·obtain ⟨h1,h2⟩:=KG hx
  cases h2;simp only [Ff,heq];exact ⟨h1,hr⟩
 ·split at hx
  ·rename_i z hm hz
   cases hx;simp only [Ff,heq,hm];exact ⟨z,hz,hr⟩
  ·cases hx
 ·obtain ⟨a,h1,h2⟩:=Mr hx
  cases h2
  unfold Sg at h1
  simp only [Ff,heq]
  split at h1
  ·rename_i fs hu
   simp only [hu]
   obtain ⟨g1,h1⟩:=KG h1
   split at h1
   ·rename_i z hz
    obtain ⟨cs,g2,rfl⟩:=Mr h1
    exact ⟨z,cs,g1,hz,g2,hr⟩
   ·cases h1
  ·rename_i n e hu
   simp only [hu]
   obtain ⟨g1,h1⟩:=KG h1
   split at h1
   ·rename_i z hz
    obtain ⟨cs,g2,rfl⟩:=Mr h1
    exact ⟨z,cs,g1,hz,g2,hr⟩
   ·cases h1
  ·cases h1
 ·split at hx
  ·rename_i e hu
   obtain ⟨⟨g1,g2,g3,g4,g5⟩,hx⟩:=KG hx
   simp only [Ff,heq,hu]
   refine ⟨g1,g2,g3,λx hx'=>?_,g5, ?_⟩
   ·have:=Am.1 g4 x hx'
    simpa using this
   ·split at hx
    ·rename_i hm
     cases hx;simp only [hm];exact hr
    ·rename_i hm
     cases hx;simp only [hm];exact hr
  ·cases hx
 ·split at hx
  ·rename_i e hu
   obtain ⟨⟨g1,g2,g3,g4,g5⟩,hx⟩:=KG hx
   split at hx
   ·rename_i z hz
    obtain ⟨⟨g6,g7⟩,hx⟩:=KG hx
    cases hx
    simp only [Ff,heq,hu]
    exact ⟨g1,g2,g3,g4,g5,z,hz,g6,g7,hr⟩
   ·cases hx
  ·cases hx
 · -- load
  unfold Yv at hx
  split at hx
  ·split at hx
   ·rename_i cs hob
    split at hx
    ·rename_i x hl
     split at hx
     ·rename_i htk
      obtain ⟨⟨g1,g2⟩,hx⟩:=KG hx
      cases hx
      simp only [Ff,heq,hob,hl,htk]
      exact ⟨g1,g2,hr⟩
     ·rename_i htk
      cases hx
      simp only [Ff,heq,hob,hl,htk]
      exact hr
    ·cases hx
   ·cases hx
  ·split at hx
   ·rename_i x hl
    cases hx
    simp only [Ff,heq,hl]
    exact hr
   ·cases hx
  ·cases hx
 · -- store
  obtain ⟨a,h1,h2⟩:=Mr hx
  cases h2
  unfold VI at h1
  split at h1
  ·split at h1
   ·rename_i cs hob
    obtain ⟨⟨g1,g2,g3,g4⟩,h1⟩:=KG h1
    cases h1
    simp only [Ff,heq,hob]
    exact ⟨g1,g2,g3,g4,hr⟩
   ·cases h1
  ·cases h1
 ·obtain ⟨a,h1,h2⟩:=Mr hx
  cases h2
  unfold zt at h1
  split at h1<;>cases h1<;>(simp only [Ff,heq];exact hr)
 ·split at hx
  ·rename_i hn
   obtain ⟨a,h1,h2⟩:=Mr hx
   cases h2
   simp only [Ff,heq,hn]
   exact mu h1 hr
  ·rename_i hn
   obtain ⟨a,h1,h2⟩:=Mr hx
   cases h2
   simp only [Ff,heq,hn]
   exact pp h1 hr
 ·obtain ⟨a,h1,h2⟩:=Mr hx
  cases h2
  unfold vUn at h1
  split at h1<;>cases h1<;>(simp only [Ff,heq];exact hr)
 ·split at hx
  ·rename_i g1 g2
   cases hx
   simp only [Ff,heq,g1,g2];exact hr
  ·rename_i g1 g2
   cases hx
   simp only [Ff,heq,g1,g2];exact hr
  ·rename_i g1 g2
   obtain ⟨⟨g3,g4⟩,hx⟩:=KG hx
   cases hx
   simp only [Ff,heq,g1,g2]
   refine ⟨?_,λx hx'=>Am.1 g4 x hx',hr⟩
   split at g3
   ·assumption
   ·cases g3
  ·cases hx
 ·cases hx;simp only [Ff,heq];exact hr
 ·split at hx
  ·rename_i hb
   split at hx
   ·rename_i hm
    obtain ⟨a,h1,h2⟩:=Mr hx
    cases h2
    simp only [Ff,heq,hb,hm]
    exact jm h1 hr
   ·rename_i hm
    obtain ⟨a,h1,h2⟩:=Mr hx
    cases h2
    simp only [Ff,heq,hb,hm]
    exact pV h1 hr
  ·cases hx
 ·obtain ⟨a,h1,h2⟩:=Mr hx
  cases h2
  unfold Sf fieldAt at h1
  simp only [Ff,heq]
  split at h1
  ·rename_i fd hfd
   split at hfd
   ·rename_i fs hu
    simp only [hu,hfd]
    obtain ⟨g1,h1⟩:=KG h1
    refine ⟨g1, ?_⟩
    unfold sI at h1
    split at h1<;>cases h1<;>exact hr
   ·cases hfd
  ·cases h1
 ·obtain ⟨a,h1,h2⟩:=Mr hx
  cases h2
  unfold Yu fieldAt at h1
  split at h1
  ·rename_i fd cs hfd
   split at hfd
   ·rename_i fs hu
    simp only [Ff,heq,hu,hfd,h1]
    exact hr
   ·cases hfd
  ·cases h1
 ·obtain ⟨a,h1,h2⟩:=Mr hx
  cases h2
  unfold OR at h1
  split at h1
  ·simp only [Ff,heq]
   exact ⟨_,h1,hr⟩
  ·cases h1
 ·obtain ⟨a,h1,h2⟩:=Mr hx
  cases h2
  unfold Lg at h1
  split at h1
  ·split at h1
   ·rename_i e own es hu
    obtain ⟨g1,h1⟩:=KG h1
    simp only [Ff,heq,hu]
    obtain ⟨x,g2,h1⟩:=CG.1 h1
    obtain ⟨⟨g3,g4⟩,h1⟩:=KG h1
    cases h1
    exact ⟨g1,x,g2,g3,g4,hr⟩
   ·rename_i hu
    obtain ⟨⟨g1,g2,g3,g4⟩,h1⟩:=KG h1
    cases h1
    simp only [Ff,heq,hu]
    exact ⟨g1,g2,g3,g4,hr⟩
   ·rename_i hu
    obtain ⟨⟨g1,g2,g3⟩,h1⟩:=KG h1
    cases h1
    simp only [Ff,heq,hu]
    exact ⟨g1,g2,g3,hr⟩
   ·rename_i hu
    obtain ⟨⟨g1,g2,g3⟩,h1⟩:=KG h1
    cases h1
    simp only [Ff,heq,hu]
    exact ⟨g1,g2,g3,hr⟩
   ·cases h1
  ·cases h1
 ·obtain ⟨a,h1,h2⟩:=Mr hx
  cases h2
  unfold VJ at h1
  split at h1
  ·split at h1
   ·rename_i hu
    obtain ⟨⟨g1,g2⟩,h1⟩:=KG h1
    cases h1
    simp only [Ff,heq,hu]
    exact ⟨g1,g2,hr⟩
   ·rename_i hu
    obtain ⟨⟨g1,g2,g3⟩,h1⟩:=KG h1
    simp only [Ff,heq,hu]
    exact ⟨g1,g2,g3,_,h1,hr⟩
   ·cases h1
  ·cases h1
 ·cases hx;simp only [Ff,heq];exact hr
 ·simp only [Ff,heq];exact pX hx hr
 ·simp only [Ff,heq];exact y6 hx hr
 ·simp only [Ff,heq];exact pm hx hr
 ·split at hx
  ·rename_i hu
   split at hx
   ·rename_i es he
    obtain ⟨⟨g1,g2⟩,hx⟩:=KG hx
    split at hx
    ·rename_i z hz
     cases hx
     simp only [Ff,heq,hu,he]
     exact ⟨hO hw g1,Wg g2,z,hz,hr⟩
    ·cases hx
   ·cases hx
  ·cases hx
 ·split at hx
  ·rename_i hu
   split at hx
   ·rename_i es he
    obtain ⟨⟨g1,g2,g3⟩,hx⟩:=KG hx
    cases hx
    simp only [Ff,heq,hu,he]
    exact ⟨hO hw g1,Wg g2,g3,hr⟩
   ·cases hx
  ·cases hx
 ·rename_i c
  split at hx
  ·rename_i hcal
   split at hx
   ·obtain ⟨a,h1,h2⟩:=Mr hx
    cases h2
    unfold zu at h1
    split at h1<;>cases h1<;>(rename_i hu;simp only [Ff,heq,hcal,hu];exact hr)
   ·cases hx
  ·rename_i hcal
   split at hx
   ·rename_i hat
    obtain ⟨g0,hx⟩:=KG hx
    split at hx
    ·rename_i e hu
     obtain ⟨⟨g1,g2⟩,hx⟩:=KG hx
     split at hx
     ·rename_i xs hs
      simp only [Ff,heq,hcal,hat,iP g0,hu,hs]
      exact ⟨g1,g2,kB hx hr⟩
     ·cases hx
    ·cases hx
   ·cases hx
  ·rename_i hcal
   split at hx
   ·obtain ⟨g1,hx⟩:=KG hx
    cases hx
    simp only [Ff,heq,hcal]
    exact ⟨g1,hr⟩
   ·cases hx
  ·rename_i hcal
   split at hx
   ·obtain ⟨g1,hx⟩:=KG hx
    cases hx
    simp only [Ff,heq,hcal]
    exact ⟨g1,hr⟩
   ·cases hx
  ·rename_i hcal
   split at hx
   ·rename_i hat
    split at hx
    ·rename_i e hu
     split at hx
     ·rename_i cs z ho hz
      obtain ⟨⟨g1,g2,g3⟩,hx⟩:=KG hx
      cases hx
      simp only [Ff,heq,hcal,hat,hu,ho]
      exact ⟨z,hz,g1,g2,g3,hr⟩
     ·cases hx
    ·cases hx
   ·cases hx
  ·cases hx
 ·cases hx
end Go.AI
namespace Go.AI
inductive Task where
 | call (f:FuncId) (vs:List AV) (H:FR)
 | yld (o:Nat) (L:LoopRec) (ys:List AV) (H:FR)
 | code (hf:FuncId) (n:Nat) (ar:Option Nat) (c:Code) (e:Ft) (H:FR)
 | ops (hf:FuncId) (n:Nat) (os:Array Oper) (l:List Oper) (e:Ft) (H:FR)
inductive ROut where
 | val (v:AV) (H:FR)
 | st (ex:Exit) (e:Ft) (H:FR)
structure EvT where
 tb:FuncId->Option Func
 hs:FuncId->Eg
 wk:List TypeId
 orc:FuncId->List AV->FR->Option (AV×FR)
def Nc(H:FR)(o:Nat):Option (Int×List AV) :=
 match H[o]? with
 | some (some [.tup [.int .i64 st],.tup av])=>some (st,av)
 | _=>none
def PZ{H:FR}{o:Nat}{st:Int}{av:List AV}(h:Nc H o=some (st,av)):H[o]? =some (some (G6 st av)):=by
 unfold Nc at h
 split at h
 ·rename_i hh;cases h;exact hh
 ·cases h
def eJ(P:Program)(n:Nat):List ResultVar->Ft->FR->Option (List AV×FR)
 | [],_,H=>some ([],H)
 | .tmp t::rs,e,H=>if t<n then (eJ P n rs (M8 P none true (.tmp t) e).2 H).map λr=>((M8 P none true (.tmp t) e).1::r.1,r.2) else none
 | .cell t ty::rs,e,H=>if t<n then match qa P ty (Fp e t) H with
   | some (v,H')=>(eJ P n rs e H').map λr=>(v::r.1,r.2)
   | none=>none
  else none
def AAY:List AV->Option AV
 | [v]=>some v
 | vs=>if vs.all AV.isVal=true then some (.tup vs) else none
def bi(ar:Option Nat)(H:FR):Bool :=
 match ar with
 | none=>true
 | some o=>match H[o]? with
  | some (some _)=>true
  | _=>false
def ATt(n:Nat):Option Tmp->Bool
 | some d=>decide (d<n)
 | none=>true
def VQ(P:Program)(T:EvT)(ih:Task->Option ROut)(f:FuncId)(vs:List AV)(H:FR):Option ROut :=
 match T.orc f vs H with
 | some (v,H')=>some (.val v H')
 | none=>match T.tb f with
  | some fn=>match fn.body with
   | some c=>if vs.length<=fn.ntmps then
     match ih (.code f fn.ntmps none c (GQ 0 vs) H) with
     | some (.st .normal e H')=>(eJ P fn.ntmps fn.results.toList e H').bind λr=>(AAY r.1).map λv => .val v r.2
     | some (.st .ret e H')=>(eJ P fn.ntmps fn.results.toList e H').bind λr=>(AAY r.1).map λv => .val v r.2
     | _=>none
    else none
   | none=>none
  | none=>none
def Z8(T:EvT)(ih:Task->Option ROut)(o:Nat)(L:LoopRec)(ys:List AV)(H:FR):Option ROut :=
 match T.tb L.tag,Nc H o with
 | some fn,some (st,av) =>
  if st=0/\av.length=fn.ntmps/\L.ps.toList.length=ys.length/\L.ps.toList.all (λp=>decide (p<fn.ntmps))=true/\GZ (T.hs L.tag) L.assign=true/\GZ (T.hs L.tag) L.body=true then
   match ih (.code L.tag fn.ntmps (some o) L.assign (Kx av L.ps.toList ys (GQ 0 av)) H) with
   | some (.st .normal e2 H2)=>match Nc H2 o with
    | some (st2,av2)=>if st2=0 then
      match ih (.code L.tag fn.ntmps (some o) L.body e2 (H2.set o (some (G6 (-1) av2)))) with
      | some (.st ex _ H3)=>match Nc H3 o with
       | some (st3,av3)=>if st3 = -1 then match ex with
         | .normal=>some (.val (.bool true) (H3.set o (some (G6 0 av3))))
         | .ret=>some (.val (.bool false) (H3.set o (some (G6 (-2) av3))))
         | .exit k=>some (.val (.bool false) (H3.set o (some (G6 ((k:Int)+1) av3))))
         | _=>none
        else none
       | none=>none
      | _=>none
     else none
    | none=>none
   | _=>none
  else none
 | _,_=>none
def pZ(P:Program)(h:Eg)(o o':Oper)(e:Ft):Bool :=
 match KB P h o,KB P h o' with
 | some (a,k,s),some (b,l,s')=>(s||s')&&match Fp e a,Fp e b with
  | .ptr o1 f1,.ptr o2 f2 => !(o1==o2)||(decide (f1+k<=f2)||decide (f2+l<=f1))
  | _,_=>false
 | _,_=>false
def AcJ(P:Program)(h:Eg)(ops:Array Oper)(e:Ft):Bool:=(R5 h ops).all λp=>pZ P h p.1 p.2 e
def Kw(P:Program)(T:EvT)(ih:Task->Option ROut)(hf:FuncId)(n:Nat)(ar:Option Nat)(c:Code)(e:Ft)(H:FR):Option ROut :=
 match c with
 | .skip=>some (.st .normal e H)
 | .ret=>some (.st .ret e H)
 | .exit id=>some (.st (.exit id) e H)
 | .region id ops _=>match ih (.ops hf n ops ((T.hs hf).ord id ops) e H) with
  | some (.st .normal e1 H1) =>
   if (!((T.hs hf).da id)||AcJ P (T.hs hf) ops e1)=true then
    match KZ ((T.hs hf).at id) (He ((T.hs hf).lv id) e1) H1 with
    | (e2,H2)=>some (.st .normal e2 (US ((T.hs hf).ct id) e2 H2))
   else none
  | _=>none
 | .seq a b=>match ih (.code hf n ar a e H) with
  | some (.st .normal e1 H1)=>ih (.code hf n ar b e1 H1)
  | r=>r
 | .cond c a b=>match G5 P none e c with
  | .bool t=>if t=true then ih (.code hf n ar a e H) else ih (.code hf n ar b e H)
  | _=>none
 | .block id c=>match ih (.code hf n ar c e H) with
  | some (.st (.exit j) e1 H1)=>if j=id then some (.st .normal e1 H1) else some (.st (.exit j) e1 H1)
  | r=>r
 | .loop c=>match ih (.code hf n ar c e H) with
  | some (.st .normal e1 H1)=>ih (.code hf n ar (.loop c) e1 H1)
  | r=>r
 | .rangeFunc g ps assign body=>match G5 P none e g with
  | .fn (.func f) first captured=>if bi ar H=true then
    match ih (.call f (first.map AV.borrow++[.yld H.length ⟨hf,ps,assign,body⟩]++captured.map AV.borrow) (H++[some (G6 0 (HY n e))])) with
    | some (.val _ H2)=>match Nc H2 H.length with
     | some (st,_)=>if st=0 then some (.st .normal e (H2.set H.length none)) else if st = -2 then some (.st .ret e (H2.set H.length none)) else
       if 0<st then some (.st (.exit (st - 1).toNat) e (H2.set H.length none)) else none
     | none=>none
    | _=>none
   else none
  | _=>none
 | _=>none
mutual
def IS:AV->AV->Bool
 | .int k n,b=>match b with | .int k' n'=>decide (k=k')&&n==n'|_=>false
 | .bool x,b=>match b with | .bool y=>x==y|_=>false
 | .str s,b=>match b with | .str t=>s.data.toList==t.data.toList|_=>false
 | .nilp,b=>match b with | .nilp=>true|_=>false
 | .ptr o x,b=>match b with | .ptr o' x'=>o==o'&&x==x'|_=>false
 | .cptr cs x,b=>match b with | .cptr cs' x'=>OU cs cs'&&x==x'|_=>false
 | .sl w es,b=>match b with | .sl w' es'=>w==w'&&OU es es'|_=>false
 | .msl o x l z,b=>match b with | .msl o' x' l' z'=>o==o'&&(x==x'&&(l==l'&&z==z'))|_=>false
 | .fn (.func f) x y,b=>match b with | .fn (.func f') x' y'=>f==f'&&(OU x x'&&OU y y')|_=>false
 | .nilf,b=>match b with | .nilf=>true|_=>false
 | .mapr o,b=>match b with | .mapr o'=>o==o'|_=>false
 | .nilm,b=>match b with | .nilm=>true|_=>false
 | .it o,b=>match b with | .it o'=>o==o'|_=>false
 | .nili,b=>match b with | .nili=>true|_=>false
 | .agg x,b=>match b with | .agg y=>OU x y|_=>false
 | .tup x,b=>match b with | .tup y=>OU x y|_=>false
 | .undef,b=>match b with | .undef=>true|_=>false
 | _,_=>false
def OU:List AV->List AV->Bool
 | [],l=>match l with|[]=>true|_=>false
 | a::x,l=>match l with|b::y=>IS a b&&OU x y|_=>false
end
mutual
def AAP : ∀ (a b:AV),IS a b=true->a=b
 | .int k n,b,h=>by cases b<;>simp_all [IS]
 | .bool x,b,h=>by cases b<;>simp_all [IS]
 | .str s,b,h=>by
  cases b<;>simp [IS] at h
  rename_i t
  rw [ByteArray.ext h]
 | .nilp,b,h=>by cases b<;>simp_all [IS]
 | .ptr o x,b,h=>by cases b<;>simp_all [IS]
 | .cptr cs x,b,h=>by
  cases b<;>simp [IS] at h
  rw [JG _ _ h.1,h.2]
 | .sl w es,b,h=>by
  cases b<;>simp [IS] at h
  rw [JG _ _ h.2,h.1]
 | .msl o x l z,b,h=>by cases b<;>simp_all [IS]
 | .fn (.func f) x y,b,h=>by
  cases b with
  | fn g x' y' =>
   cases g<;>simp [IS] at h
   rw [JG _ _ h.2.1,JG _ _ h.2.2,h.1]
  | _=>simp [IS] at h
 | .nilf,b,h=>by cases b<;>simp_all [IS]
 | .mapr o,b,h=>by cases b<;>simp_all [IS]
 | .nilm,b,h=>by cases b<;>simp_all [IS]
 | .it o,b,h=>by cases b<;>simp_all [IS]
 | .nili,b,h=>by cases b<;>simp_all [IS]
 | .agg x,b,h=>by
  cases b<;>simp [IS] at h
  rw [JG _ _ h]
 | .tup x,b,h=>by
  cases b<;>simp [IS] at h
  rw [JG _ _ h]
 | .undef,b,h=>by cases b<;>simp_all [IS]
 | .yld o L,b,h=>by simp [IS] at h
 | .ifc t a,b,h=>by simp [IS] at h
 | .fn f x y,b,h=>by
  cases f with
  | func f =>
   cases b with
   | fn g x' y' =>
    cases g<;>simp [IS] at h
    rw [JG _ _ h.2.1,JG _ _ h.2.2,h.1]
   | _=>simp [IS] at h
  | _=>simp [IS] at h
def JG : ∀ (x y:List AV),OU x y=true->x=y
 | [],l,h=>by cases l<;>simp_all [OU]
 | a::x,l,h=>by
  cases l<;>simp [OU] at h
  rw [AAP _ _ h.1,JG _ _ h.2]
end
def ep:FR->FR->Bool
 | [],_=>true
 | a::H,l=>match l with
  | b::H'=>(match a,b with
   | some x,some y=>OU x y
   | none,none=>true
   | _,_=>false)&&ep H H'
  | []=>false
def ej : ∀ (H H':FR),ep H H'=true -> ∃ ext,H'=H++ext
 | [],H',_=>⟨H',rfl⟩
 | a::H,l,h=>by
  cases l with
  | nil=>simp [ep] at h
  | cons b H' =>
   simp only [ep,AQ] at h
   obtain ⟨ext,rfl⟩:=ej H H' h.2
   refine ⟨ext, ?_⟩
   have h1:=h.1
   cases a<;>cases b<;>simp at h1
   ·rfl
   ·rw [JG _ _ h1];rfl
def Uv(T:EvT)(ih:Task->Option ROut)(hf:FuncId)(o:Oper)(vals:List AV)(H:FR):Option (AV×FR) :=
 match vals with
 | .fn (.func f) first captured::args =>
  match o.dst.any (T.hs hf).pc.contains with
  | true=>if FV (first.map AV.borrow++args++captured.map AV.borrow)=true then match ih (.call f (first.map AV.borrow++args++captured.map AV.borrow) []) with
    | some (.val v _)=>if v.pure=true then some (v,H) else none
    | _=>none
   else none
  | false=>match ih (.call f (first.map AV.borrow++args++captured.map AV.borrow) H) with
   | some (.val v H')=>if (!o.dst.any (T.hs hf).mt.contains||ep H H')=true then some (v,H') else none
   | _=>none
 | .yld o' L::args =>
  match o.dst.any (T.hs hf).pc.contains||o.dst.any (T.hs hf).mt.contains with
  | true=>none
  | false=>match ih (.yld o' L args H) with
   | some (.val v H')=>some (v,H')
   | _=>none
 | _=>none
def U4(o:Oper):Bool :=
 match o.op with
 | .call c=>match c.callee with
  | .value _=>true
  | _=>false
 | _=>false
def Z9(P:Program)(T:EvT)(ih:Task->Option ROut)(hf:FuncId)(n:Nat)(os:Array Oper)(l:List Oper)(e:Ft)(H:FR):Option ROut :=
 match l with
 | []=>some (.st .normal e H)
 | o::l=>match lV os e o with
  | some true=>if ATt n o.dst=true then
    match OP P (HR o) (Fz (T.hs hf) o) o.op.operands.toList e with
    | (vals,e1)=>match (match U4 o with
      | true=>Uv T ih hf o vals H
      | false=>rl P T.wk (T.hs hf) o vals H) with
     | some (v,H')=>ih (.ops hf n os l (put o.dst v e1) H')
     | none=>none
   else none
  | some false=>if ATt n o.dst=true then ih (.ops hf n os l (put o.dst (.tup []) e) H) else none
  | none=>none
def AHL(P:Program)(T:EvT)(ih:Task->Option ROut):Task->Option ROut
 | .call f vs H=>VQ P T ih f vs H
 | .yld o L ys H=>Z8 T ih o L ys H
 | .code hf n ar c e H=>Kw P T ih hf n ar c e H
 | .ops hf n os l e H=>Z9 P T ih hf n os l e H
noncomputable def Xk(P:Program)(T:EvT)(k:Nat):Task->Option ROut:=Nat.rec (λ_=>none) (λ_ ih t=>AHL P T ih t) k
structure EvOk (P:Program) (T:EvT):Prop where
 mixed:P.follows .mixedOrders=true
 wide:bw P T.wk
 fn : ∀ f fn,T.tb f=some fn->P.funcs[f]? =some fn/\HS P f=true/\fn.body.any (GZ (T.hs f))=true/\(T.hs f).gc=[]
 orc : ∀ f vs H v H',T.orc f vs H=some (v,H')->FZ P f vs H λv2 H2=>v2=v/\H2=H'
def RK(P:Program)(T:EvT):Task->ROut->Prop
 | .call f vs H,.val v H'=>FZ P f vs H λv2 H2=>v2=v/\H2=H'
 | .yld o L ys H,.val v H'=>L4 P o L ys H λv2 H2=>v2=v/\H2=H'
 | .code hf n ar c e H,.st ex e' H'=>I3 P n (T.hs hf) ar c (λex2 e2 H2=>ex2=ex/\e2=e'/\H2=H') e H
 | .ops hf n os l e H,.st ex e' H'=>ex = .normal/\LF P n (T.hs hf) os l (λe2 H2=>e2=e'/\H2=H') e H
 | _,_=>False
section
variable {P:Program} {T:EvT}
def ym{h:Eg}{o o':Oper}{e:Ft}(hb:pZ P h o o' e=true):KA P h o o' e:=by
 unfold pZ at hb
 unfold KA
 generalize KB P h o=x at hb ⊢
 generalize KB P h o'=y at hb ⊢
 cases x with
 | none=>cases hb
 | some x=>cases y with
  | none=>cases hb
  | some y =>
   obtain ⟨a,k,s⟩:=x
   obtain ⟨b,l,s'⟩:=y
   dsimp only at hb ⊢
   simp only [AQ,CI] at hb
   obtain ⟨h1,h2⟩:=hb
   refine ⟨h1, ?_⟩
   generalize Fp e a=u at h2 ⊢
   generalize Fp e b=w at h2 ⊢
   cases u<;>first|(cases h2;done)|skip
   cases w<;>first|(cases h2;done)|skip
   simpa using h2
def AGA{h:Eg}{ops:Array Oper}{e:Ft}(hb:AcJ P h ops e=true):Ja P h ops e:=λp hp=>ym (Am.1 hb p hp)
def Ux{n:Nat}{K:List AV->FR->Prop}: ∀ {rs:List ResultVar} {e:Ft} {H:FR} {vs:List AV} {H':FR},eJ P n rs e H=some (vs,H')->K vs H'->eM P n rs e H λvs _ H=>K vs H
 | [],e,H,vs,H',h,hk=>by cases h;exact hk
 | .tmp t::rs,e,H,vs,H',h,hk=>by
  simp only [eJ] at h
  obtain ⟨h1,h⟩:=KG h
  obtain ⟨r,h2,h3⟩:=Mr h
  cases h3
  exact ⟨h1,Ux (K:=λvs H=>K ((M8 P none true (.tmp t) e).1::vs) H) h2 hk⟩
 | .cell t ty::rs,e,H,vs,H',h,hk=>by
  simp only [eJ] at h
  obtain ⟨h1,h⟩:=KG h
  split at h
  ·rename_i v H1 hv
   obtain ⟨r,h2,h3⟩:=Mr h
   cases h3
   rw [eI]
   refine ⟨h1, ?_⟩
   rw [hv]
   exact Ux (K:=λvs H=>K (v::vs) H) h2 hk
  ·cases h
def qm{K:AV->FR->Prop}{vs:List AV}{v:AV}{H:FR}(h:AAY vs=some v)(hk:K v H):QY K vs H:=by
 unfold AAY at h
 unfold QY
 split at h
 ·cases h;exact hk
 ·rename_i hne
  obtain ⟨h1,h2⟩:=KG h
  cases h2
  split
  ·exact absurd rfl (hne _)
  ·exact ⟨λx hx=>Am.1 h1 x hx,hk⟩
def pW{ar:Option Nat}{H:FR}(h:bi ar H=true):bj ar H:=by
 unfold bi at h
 unfold bj
 split at h
 ·trivial
 ·split at h
  ·rename_i cs hcs;exact ⟨cs,hcs⟩
  ·cases h
def rO{n:Nat}{d:Option Tmp}(h:ATt n d=true):Gi n d:=by
 cases d with
 | none=>trivial
 | some d=>exact (of_decide_eq_true h:d<n)
def N2{f:FuncId}{vs:List AV}{v:AV}(hc:FZ P f vs [] λv2 _=>v2=v)(hp:FV vs=true)(hv:v.pure=true):A' P f vs v:=λH =>
 ⟨hc.1,λF G w us hcr=>Calls.mono (hc.2 _ _ w us (hcr.hide (IE hp))) λe w' he=>by
  obtain ⟨u,rfl,v',H2,G',rfl,hcr',hext⟩:=he
  obtain ⟨h1,h2⟩:=hcr.unhide hv hcr' hext
  exact ⟨u,rfl,_,H,_,⟨rfl,rfl⟩,h1,h2⟩⟩
def sU(E:EvOk P T){ih:Task->Option ROut}(hih : ∀ t out,ih t=some out->RK P T t out){f:FuncId}{vs:List AV}{H:FR}{out:ROut}(h:VQ P T ih f vs H=some out):RK P T (.call f vs H) out:=by
 unfold VQ at h
 split at h
 ·rename_i v H1 ho
  cases h
  exact E.orc f vs H v H1 ho
 ·split at h
  ·rename_i fn hfn
   obtain ⟨e1,e2,e3,e4⟩:=E.fn f fn hfn
   split at h
   ·rename_i c hb
    obtain ⟨hn,h⟩:=KG h
    have fin : ∀ (ex:Exit) (e:Ft) (H':FR),(ex = .normal\/ex = .ret)->ih (.code f fn.ntmps none c (GQ 0 vs) H)=some (.st ex e H') ->
      ((eJ P fn.ntmps fn.results.toList e H').bind λr=>(AAY r.1).map λv=>ROut.val v r.2)=some out->RK P T (.call f vs H) out:=by
     intro ex e H' hex hi hr
     obtain ⟨r,h1,h2⟩:=CG.1 hr
     obtain ⟨v,h3,h4⟩:=Mr h2
     subst h4
     refine lP (T.hs f) e4 E.mixed e3 e1 hb e2 hn (GW c _ _ _ _ (λex2 e2 H2 hq=>?_) (hih _ _ hi))
     obtain ⟨rfl,rfl,rfl⟩:=hq
     rcases hex with rfl|rfl
     ·exact Ux (K:=λvs H=>QY _ vs H) h1 (qm h3 ⟨rfl,rfl⟩)
     ·exact Ux (K:=λvs H=>QY _ vs H) h1 (qm h3 ⟨rfl,rfl⟩)
    split at h
    ·rename_i hi;exact fin _ _ _ (.inl rfl) hi h
    ·rename_i hi;exact fin _ _ _ (.inr rfl) hi h
    ·cases h
   ·cases h
  ·cases h
def AAF(E:EvOk P T){ih:Task->Option ROut}(hih : ∀ t out,ih t=some out->RK P T t out){o:Nat}{L:LoopRec}{ys:List AV}{H:FR}{out:ROut}(h:Z8 T ih o L ys H=some out):RK P T (.yld o L ys H) out:=by
 unfold Z8 at h
 split at h
 ·rename_i fn st av hfn hlo
  obtain ⟨e1,e2,e3,e4⟩:=E.fn _ fn hfn
  have h':=KG h
  clear h
  obtain ⟨⟨rfl,g2,g3,g4,g5,g6⟩,h⟩:=h'
  cases hi:ih (.code L.tag fn.ntmps (some o) L.assign (Kx av L.ps.toList ys (GQ 0 av)) H) with
  | none=>rw [hi] at h;cases h
  | some q =>
   rw [hi] at h
   cases q with
   | val v H'=>cases h
   | st ex0 e2 H2 =>
    cases ex0 with
    | normal =>
     dsimp only at h
     cases hlo2:Nc H2 o with
     | none=>rw [hlo2] at h;cases h
     | some q2 =>
      obtain ⟨st2,av2⟩:=q2
      rw [hlo2] at h
      dsimp only at h
      have h':=KG h
      clear h
      obtain ⟨rfl,h⟩:=h'
      cases hi3:ih (.code L.tag fn.ntmps (some o) L.body e2 (H2.set o (some (G6 (-1) av2)))) with
      | none=>rw [hi3] at h;cases h
      | some q3 =>
       rw [hi3] at h
       cases q3 with
       | val v H'=>cases h
       | st ex e3 H3 =>
        dsimp only at h
        cases hlo3:Nc H3 o with
        | none=>rw [hlo3] at h;cases h
        | some q4 =>
         obtain ⟨st3,av3⟩:=q4
         rw [hlo3] at h
         dsimp only at h
         have h':=KG h
         clear h
         obtain ⟨rfl,h⟩:=h'
         obtain ⟨tag,ps,assign,body⟩:=L
         have main : ∀ (v:AV) (H':FR),out = .val v H'->(∀ R:AV->FR->Prop,R v H'->match (generalizing:=false) ex with
           | .normal=>R (.bool true) (H3.set o (some (G6 0 av3)))
           | .ret=>R (.bool false) (H3.set o (some (G6 (-2) av3)))
           | .exit k=>R (.bool false) (H3.set o (some (G6 ((k:Int)+1) av3)))
           | _=>False)->RK P T (.yld o ⟨tag,ps,assign,body⟩ ys H) out:=by
          intro v H' he hR
          subst he
          refine Js E.mixed e4 ⟨g5,g6⟩ (λp hp=>of_decide_eq_true (Am.1 g4 p hp)) ys H _ av (PZ hlo) g2 g3 (GW assign _ _ _ _ (λex2 e4 H4 hq=>?_) (hih _ _ hi))
          obtain ⟨rfl,rfl,rfl⟩:=hq
          refine ⟨rfl,av2,PZ hlo2,GW body _ _ _ _ (λex5 e5 H5 hq=>?_) (hih _ _ hi3)⟩
          obtain ⟨rfl,rfl,rfl⟩:=hq
          exact ⟨av3,PZ hlo3,hR (λv2 H2=>v2=v/\H2=H') ⟨rfl,rfl⟩⟩
         cases ex with
         | normal=>cases h;exact main _ _ rfl λR hr=>hr
         | ret=>cases h;exact main _ _ rfl λR hr=>hr
         | exit k=>cases h;exact main _ _ rfl λR hr=>hr
         | _=>cases h
    | _=>cases h
 ·cases h
def AAG (E:EvOk P T) {ih:Task->Option ROut} (hih : ∀ t out,ih t=some out->RK P T t out) {hf:FuncId} {o:Oper} (ho:U4 o=true) {vals:List AV} {H:FR} {v:AV} {H':FR} (h:Uv T ih hf o vals H=some (v,H'))
  {R:AV->FR->Prop} (hr:R v H'):Ff P (T.hs hf) o vals H R:=by
 obtain ⟨dst,op,ty,pos,after,guard⟩:=o
 cases op<;>first|cases ho|skip
 rename_i c
 obtain ⟨callee,args0,ts⟩:=c
 cases callee<;>first|cases ho|skip
 rename_i fo
 unfold Uv at h
 cases vals with
 | nil=>cases h
 | cons a args =>
  cases a<;>first|cases h|skip
  case fn f first captured =>
   cases f<;>first|cases h|skip
   rename_i f
   dsimp only at h
   cases hb:(Cs (T.hs hf).pc.contains dst) with
   | true =>
    rw [hb] at h
    dsimp only at h
    have h':=KG h
    clear h
    obtain ⟨hp,h⟩:=h'
    cases hi:ih (.call f (first.map AV.borrow++args++captured.map AV.borrow) []) with
    | none=>rw [hi] at h;cases h
    | some q =>
     rw [hi] at h
     cases q with
     | st _ _ _=>cases h
     | val v1 H1 =>
      dsimp only at h
      have h':=KG h
      clear h
      obtain ⟨hpv,h⟩:=h'
      cases h
      have hpc:A' P f (first.map AV.borrow++args++captured.map AV.borrow) v:=N2 (FZ.mono (show FZ P f _ [] (λv2 H2=>v2=v/\H2=H1) from hih _ _ hi) λ_ _ hq=>hq.1) hp hpv
      simp only [Ff,hb]
      cases hmt:Cs (T.hs hf).mt.contains dst with
      | true=>exact ⟨v,.inl λH2 _=>hpc H2,hr⟩
      | false=>exact ⟨v,hpc,hr⟩
   | false =>
    rw [hb] at h
    dsimp only at h
    cases hi:ih (.call f (first.map AV.borrow++args++captured.map AV.borrow) H) with
    | none=>rw [hi] at h;cases h
    | some q =>
     rw [hi] at h
     cases q with
     | st _ _ _=>cases h
     | val v1 H1 =>
      dsimp only at h
      have h':=KG h
      clear h
      obtain ⟨hpf,h⟩:=h'
      cases h
      have hA:FZ P f (first.map AV.borrow++args++captured.map AV.borrow) H (λv2 H2=>v2=v/\H2=H'):=hih _ _ hi
      simp only [Ff,hb]
      cases hmt:Cs (T.hs hf).mt.contains dst with
      | true =>
       rw [hmt,Bool.not_true,Bool.false_or] at hpf
       obtain ⟨ext,rfl⟩:=ej _ _ hpf
       exact ⟨v,ext,hA,hr⟩
      | false=>exact hA.mono λv2 H2 hq=>by obtain ⟨rfl,rfl⟩:=hq;exact hr
  case yld o' L =>
   dsimp only at h
   cases hb:(Cs (T.hs hf).pc.contains dst||Cs (T.hs hf).mt.contains dst) with
   | true=>rw [hb] at h;cases h
   | false =>
    rw [hb] at h
    rw [Bool.or_eq_false_iff] at hb
    dsimp only at h
    cases hi:ih (.yld o' L args H) with
    | none=>rw [hi] at h;cases h
    | some q =>
     rw [hi] at h
     cases q with
     | st _ _ _=>cases h
     | val v1 H1 =>
      cases h
      simp only [Ff]
      exact ⟨⟨hb.1,hb.2⟩,L4.mono (show L4 P o' L args H (λv2 H2=>v2=v/\H2=H') from hih _ _ hi) λv2 H2 hq=>by obtain ⟨rfl,rfl⟩:=hq;exact hr⟩
def AAH(E:EvOk P T){ih:Task->Option ROut}(hih : ∀ t out,ih t=some out->RK P T t out){hf:FuncId}{n:Nat}{os:Array Oper}{l:List Oper}{e:Ft}{H:FR}{out:ROut}(h:Z9 P T ih hf n os l e H=some out):RK P T (.ops hf n os l e H) out:=by
 unfold Z9 at h
 cases l with
 | nil=>cases h;exact ⟨rfl,rfl,rfl⟩
 | cons o l =>
  have next : ∀ {e1:Ft} {H1:FR},ih (.ops hf n os l e1 H1)=some out -> ∃ e' H',out = .st .normal e' H'/\LF P n (T.hs hf) os l (λe2 H2=>e2=e'/\H2=H') e1 H1:=λhi=>by
   have hg:=hih _ _ hi
   cases out with
   | val v H'=>exact hg.elim
   | st ex e' H'=>obtain ⟨rfl,hg⟩:=hg;exact ⟨e',H',rfl,hg⟩
  dsimp only at h
  cases hag:lV os e o with
  | none=>rw [hag] at h;cases h
  | some b =>
   rw [hag] at h
   cases b with
   | false =>
    dsimp only at h
    obtain ⟨hd,h⟩:=KG h
    obtain ⟨e',H',rfl,hg⟩:=next h
    refine ⟨rfl, ?_⟩
    show IY P n (T.hs hf) os o _ e H
    unfold IY
    rw [hag]
    exact ⟨rO hd,hg⟩
   | true =>
    dsimp only at h
    have h':=KG h
    clear h
    obtain ⟨hd,h⟩:=h'
    cases hv:(match U4 o with
      | true=>Uv T ih hf o (OP P (HR o) (Fz (T.hs hf) o) o.op.operands.toList e).1 H
      | false=>rl P T.wk (T.hs hf) o (OP P (HR o) (Fz (T.hs hf) o) o.op.operands.toList e).1 H) with
    | none=>rw [hv] at h;cases h
    | some q =>
     obtain ⟨v,H1⟩:=q
     rw [hv] at h
     obtain ⟨e',H',rfl,hg⟩:=next h
     refine ⟨rfl, ?_⟩
     show IY P n (T.hs hf) os o _ e H
     unfold IY
     rw [hag]
     refine ⟨rO hd, ?_⟩
     cases hval:U4 o with
     | true=>rw [hval] at hv;exact AAG E hih hval hv hg
     | false=>rw [hval] at hv;exact ADl E.wide hv hg
def sT(E:EvOk P T){ih:Task->Option ROut}(hih : ∀ t out,ih t=some out->RK P T t out){hf:FuncId}{n:Nat}{ar:Option Nat}{c:Code}{e:Ft}{H:FR}{out:ROut}(h:Kw P T ih hf n ar c e H=some out):RK P T (.code hf n ar c e H) out:=by
 have part : ∀ {c:Code} {e:Ft} {H:FR} {out:ROut},ih (.code hf n ar c e H)=some out -> ∃ ex e' H',out = .st ex e' H'/\I3 P n (T.hs hf) ar c (λex2 e2 H2=>ex2=ex/\e2=e'/\H2=H') e H:=λ{c e H out} hi=>by
  have hg:=hih _ _ hi
  cases out with
  | val v H'=>exact hg.elim
  | st ex e' H'=>exact ⟨ex,e',H',rfl,hg⟩
 cases c with
 | skip=>cases h;exact ⟨rfl,rfl,rfl⟩
 | ret=>cases h;exact ⟨rfl,rfl,rfl⟩
 | exit id=>cases h;exact ⟨rfl,rfl,rfl⟩
 | region id ops draw =>
  simp only [Kw] at h
  cases hi:ih (.ops hf n ops ((T.hs hf).ord id ops) e H) with
  | none=>rw [hi] at h;cases h
  | some q =>
   rw [hi] at h
   have hg:=hih _ _ hi
   cases q with
   | val v H'=>cases h
   | st ex e1 H1 =>
    obtain ⟨rfl,hg⟩:=hg
    dsimp only at h
    obtain ⟨hdy,h⟩:=KG h
    cases h
    refine RB _ _ _ _ _ (λe2 H2 hq=>?_) hg
    obtain ⟨rfl,rfl⟩:=hq
    refine ⟨λhd=>?_,rfl,rfl,rfl⟩
    rw [hd] at hdy
    exact AGA (by simpa using hdy)
 | seq a b =>
  simp only [Kw] at h
  cases hi:ih (.code hf n ar a e H) with
  | none=>rw [hi] at h;cases h
  | some q =>
   rw [hi] at h
   obtain ⟨ex,e1,H1,rfl,hg⟩:=part hi
   have other:ex ≠ .normal->out = .st ex e1 H1->RK P T (.code hf n ar (.seq a b) e H) out:=λhne he=>by
    subst he
    refine GW a _ _ _ _ (λex2 e2 H2 hq=>?_) hg
    obtain ⟨rfl,rfl,rfl⟩:=hq
    cases ex2<;>first|exact absurd rfl hne|exact ⟨rfl,rfl,rfl⟩
   cases ex with
   | normal =>
    dsimp only at h
    obtain ⟨ex',e',H',rfl,hg2⟩:=part h
    refine GW a _ _ _ _ (λex2 e2 H2 hq=>?_) hg
    obtain ⟨rfl,rfl,rfl⟩:=hq
    exact hg2
   | _=>cases h;exact other sm rfl
 | cond c a b =>
  simp only [Kw] at h
  cases hc:G5 P none e c with
  | bool t =>
   rw [hc] at h
   dsimp only at h
   have hg : ∃ ex e' H',out = .st ex e' H'/\I3 P n (T.hs hf) ar (if t=true then a else b) (λex2 e2 H2=>ex2=ex/\e2=e'/\H2=H') e H:=by
    cases t with
    | true=>exact part h
    | false=>exact part h
   obtain ⟨ex,e',H',rfl,hg⟩:=hg
   show I3 P n (T.hs hf) ar (.cond c a b) _ e H
   simp only [I3,hc]
   cases t with
   | true=>exact hg
   | false=>exact hg
  | _=>rw [hc] at h;cases h
 | block id c =>
  simp only [Kw] at h
  cases hi:ih (.code hf n ar c e H) with
  | none=>rw [hi] at h;cases h
  | some q =>
   rw [hi] at h
   obtain ⟨ex,e1,H1,rfl,hg⟩:=part hi
   cases ex with
   | exit j =>
    dsimp only at h
    by_cases hj:j=id
    ·rw [iP hj] at h
     cases h
     refine GW c _ _ _ _ (λex2 e2 H2 hq=>?_) hg
     obtain ⟨rfl,rfl,rfl⟩:=hq
     dsimp only
     rw [iP hj]
     exact ⟨rfl,rfl,rfl⟩
    ·rw [iN hj] at h
     cases h
     refine GW c _ _ _ _ (λex2 e2 H2 hq=>?_) hg
     obtain ⟨rfl,rfl,rfl⟩:=hq
     dsimp only
     rw [iN hj]
     exact ⟨rfl,rfl,rfl⟩
   | _ =>
    cases h
    refine GW c _ _ _ _ (λex2 e2 H2 hq=>?_) hg
    obtain ⟨rfl,rfl,rfl⟩:=hq
    exact ⟨rfl,rfl,rfl⟩
 | loop c =>
  simp only [Kw] at h
  cases hi:ih (.code hf n ar c e H) with
  | none=>rw [hi] at h;cases h
  | some q =>
   rw [hi] at h
   obtain ⟨ex,e1,H1,rfl,hg⟩:=part hi
   have other:ex ≠ .normal->out = .st ex e1 H1->RK P T (.code hf n ar (.loop c) e H) out:=λhne he=>by
    subst he
    refine ⟨λe' H'=>e'=e/\H'=H,λ_ _=>0,⟨rfl,rfl⟩,λe' H' hI=>?_⟩
    obtain ⟨rfl,rfl⟩:=hI
    refine GW c _ _ _ _ (λex2 e2 H2 hq=>?_) hg
    obtain ⟨rfl,rfl,rfl⟩:=hq
    cases ex2<;>first|exact absurd rfl hne|exact ⟨rfl,rfl,rfl⟩
   cases ex with
   | normal =>
    dsimp only at h
    obtain ⟨ex',e',H',rfl,I,μ,hI,hr⟩:=part h
    classical
    by_cases hold:I e H
    ·exact ⟨I,μ,hold,hr⟩
    ·refine ⟨λe2 H2=>(e2=e/\H2=H)\/I e2 H2,λe2 H2=>if e2=e/\H2=H then μ e1 H1+1 else μ e2 H2,.inl ⟨rfl,rfl⟩,λe2 H2 hI2=>?_⟩
     have hne : ∀ {e3:Ft} {H3:FR},I e3 H3 -> ¬ (e3=e/\H3=H):=λh3 hh=>hold (by rw [<- hh.1,<- hh.2];exact h3)
     by_cases hat:e2=e/\H2=H
     ·obtain ⟨rfl,rfl⟩:=hat
      refine GW c _ _ _ _ (λex2 e3 H3 hq=>?_) hg
      obtain ⟨rfl,rfl,rfl⟩:=hq
      dsimp only
      refine ⟨.inr hI, ?_⟩
      rw [iN (hne hI),iP ⟨rfl,rfl⟩]
      omega
     ·have hI3:I e2 H2:=hI2.resolve_left hat
      refine GW c _ _ _ _ (λex2 e3 H3 hq=>?_) (hr e2 H2 hI3)
      cases ex2 with
      | normal =>
       refine ⟨.inr hq.1, ?_⟩
       dsimp only
       rw [iN hat,iN (hne hq.1)]
       exact hq.2
      | _=>exact hq
   | _=>cases h;exact other sm rfl
 | rangeFunc g ps assign body =>
  simp only [Kw] at h
  cases hg:G5 P none e g with
  | fn f first captured =>
   rw [hg] at h
   cases f with
   | func f =>
    dsimp only at h
    have h':=KG h
    clear h
    obtain ⟨har,h⟩:=h'
    cases hi:ih (.call f (first.map AV.borrow++[.yld H.length ⟨hf,ps,assign,body⟩]++captured.map AV.borrow) (H++[some (G6 0 (HY n e))])) with
    | none=>rw [hi] at h;cases h
    | some q =>
     rw [hi] at h
     have hc:=hih _ _ hi
     cases q with
     | st _ _ _=>cases h
     | val v H2 =>
      dsimp only at h
      cases hlo:Nc H2 H.length with
      | none=>rw [hlo] at h;cases h
      | some q2 =>
       obtain ⟨st,av⟩:=q2
       rw [hlo] at h
       dsimp only at h
       have fin : ∀ ex:Exit,out = .st ex e (H2.set H.length none)->(∀ Q:Exit->Kt,Q ex e (H2.set H.length none)->(st=0/\Q .normal e (H2.set H.length none))\/(st = -2/\Q .ret e (H2.set H.length none)) \/ ∃ k:Nat,st=(k:Int)+1/\Q (.exit k) e (H2.set H.length none)) ->
         RK P T (.code hf n ar (.rangeFunc g ps assign body) e H) out:=by
        intro ex he hQ
        subst he
        refine ⟨pW har,hf,f,first,captured,hg,FZ.mono (show FZ P f _ _ (λv2 H3=>v2=v/\H3=H2) from hc) λv2 H3 hq=>?_⟩
        obtain ⟨rfl,rfl⟩:=hq
        exact ⟨st,av,PZ hlo,hQ (λex2 e2 H2'=>ex2=ex/\e2=e/\H2'=_) ⟨rfl,rfl,rfl⟩⟩
       by_cases h0:st=0
       ·rw [iP h0] at h
        cases h;exact fin _ rfl λQ hq => .inl ⟨h0,hq⟩
       ·rw [iN h0] at h
        by_cases h2:st = -2
        ·rw [iP h2] at h
         cases h;exact fin _ rfl λQ hq => .inr (.inl ⟨h2,hq⟩)
        ·rw [iN h2] at h
         have h':=KG h
         clear h
         obtain ⟨hp,h⟩:=h'
         cases h
         exact fin _ rfl λQ hq => .inr (.inr ⟨(st - 1).toNat,FQ,hq⟩)
   | _=>cases h
  | _=>rw [hg] at h;cases h
 | _=>cases h
def mA(E:EvOk P T): ∀ (k:Nat) (t:Task) (out:ROut),Xk P T k t=some out->RK P T t out
 | 0,t,out,h=>by cases h
 | k+1,t,out,h=>by
  have hih:=mA E k
  have h:AHL P T (Xk P T k) t=some out:=h
  cases t with
  | call f vs H=>exact sU E hih h
  | yld o L ys H=>exact AAF E hih h
  | code hf n ar c e H=>exact sT E hih h
  | ops hf n os l e H=>exact AAH E hih h
def FZ.run(E:EvOk P T)(k:Nat){f:FuncId}{vs:List AV}{H:FR}{v:AV}{H':FR}(h:Xk P T k (.call f vs H)=some (.val v H')):FZ P f vs H λv2 H2=>v2=v/\H2=H':=mA E k _ _ h
def A'.run(E:EvOk P T)(k:Nat){f:FuncId}{vs:List AV}{v:AV}(hp:FV vs=true)(hv:v.pure=true)(h:(match Xk P T k (.call f vs []) with|some (.val v2 _)=>some v2|_=>none)=some v):A' P f vs v:=by
 cases hr:Xk P T k (.call f vs []) with
 | none=>rw [hr] at h;cases h
 | some q =>
  rw [hr] at h
  cases q with
  | st _ _ _=>cases h
  | val v2 H2 =>
   cases h
   exact N2 ((FZ.run E k hr).mono λ_ _ hq=>hq.1) hp hv
end
end Go.AI
namespace Go.AI
inductive ETree where
 | nil
 | node (l:ETree) (k:Nat) (fn:Func) (h:Eg) (r:ETree)
def ETree.find:ETree->Nat->Option (Func×Eg)
 | .nil,_=>none
 | .node l k fn h r,f=>bif CJ f k then some (fn,h) else bif Nat.blt f k then l.find f else r.find f
def Fj(P:Program)(f:Nat)(fn:Func)(h:Eg):Prop:=P.funcs[f]? =some fn/\HS P f=true/\fn.body.any (GZ h)=true/\h.gc=[]
def ETree.All(P:Program):ETree->Prop
 | .nil=>True
 | .node l k fn h r=>l.All P/\Fj P k fn h/\r.All P
def Mg{P:Program}: ∀ {t:ETree} {f:Nat} {fn:Func} {h:Eg},t.All P->t.find f=some (fn,h)->Fj P f fn h
 | .nil,f,fn,h,_,hf=>by cases hf
 | .node l k fn' h' r,f,fn,h,ha,hf=>by
  simp only [ETree.find] at hf
  cases hb:CJ f k with
  | true =>
   rw [hb] at hf
   cases hf
   have:=DH hb
   subst this
   exact ha.2.1
  | false =>
   rw [hb] at hf
   cases hl:Nat.blt f k with
   | true=>rw [hl] at hf;exact Mg ha.1 hf
   | false=>rw [hl] at hf;exact Mg ha.2.2 hf
def AIt:Eg:=⟨[],[],[],[],[],[],[]⟩
abbrev Orc:=FuncId->List AV->FR->Option (AV×FR)
def AHQ:Orc:=λ_ _ _=>none
def r5(P:Program)(o:Orc):Prop:=∀ f vs H v H',o f vs H=some (v,H')->FZ P f vs H λv2 H2=>v2=v/\H2=H'
def ABO(P:Program):r5 P AHQ:=λ_ _ _ _ _ h=>by cases h
def ETree.evt(t:ETree)(wk:List TypeId)(o:Orc):EvT:=⟨λf=>(t.find f).map (·.1),λf=>((t.find f).map (·.2)).getD AIt,wk,o⟩
def ETree.ok{P:Program}{t:ETree}{wk:List TypeId}{o:Orc}(hm:P.follows .mixedOrders=true)(hw:bw P wk)(ho:r5 P o)(ha:t.All P):EvOk P (t.evt wk o):=by
 refine ⟨hm,hw,λf fn hf=>?_,ho⟩
 obtain ⟨⟨fn',h⟩,h1,rfl⟩:=Mr hf
 have hh:(t.evt wk o).hs f=h:=by simp only [ETree.evt,h1];rfl
 rw [hh]
 exact Mg ha h1
open Go.Proofs
def GT{P:Program}{n:Nat}{f:Func}{h:Eg}(g:P.funcs[n]? =some f)(c:HS P n=true := by kernel_rfl)(d:f.body.any (GZ h)=true := by kernel_rfl)(e:h.gc=[] := by rfl):Fj P n f h:=⟨g,c,d,e⟩
noncomputable def e5:Eg:=hx [1,2,6,6,30,122,506,4090,24570,122874,516090,2088954,0x800000000000000000000000000a9202,1,2789890,6984194,15372802,1] [124,137,138,141,142,146,152,157] [31] [(1,[(1,some 5,true)]),(3,[(2,some 5,true)])] [51,60] [] []
def Agp:Fj AA 5 f5 e5:=GT func5
noncomputable def e14:Eg:=hx [1,3,3,3,917507,1966083,917519,917507,917507,240518168579,515396075523,240518168627,240518168579,240518168579,3,1] [26,43] [63] [(2,[(1,some 0,true)])] [53] [] []
def Ab1:Fj AA 14 f14 e14:=GT func14
noncomputable def e15:Eg:=hm [2,18,65554,12,34,4194338,12,8589934594,12,66,412316860482,962072674370,412316860610,412316860866,70781061038530,12,412316860482,0x38000000000002,0x78000000000002,0x38000000000602,0x38000000000a02,0x4038000000000a02,12,0x38000000000002,0x80000000000000000,12,12] [] [] []
def Ab0:Fj AA 15 f15 e15:=GT func15
noncomputable def e16:Eg:=hm [6,7170,15362,7362,7490,2104642,48,7170,48] [] [] []
def Abz:Fj AA 16 f16 e16:=GT func16
noncomputable def e17:Eg:=hx [90,2138,6234,481036343386,0xf00000185a,481036367962,481036449882,563430989805658,481036343386,481036343386,137242,399386,923674,0x20000000000e181a,923674,1972250,4069402,8263706,121509914,0x10000000000000000033e181a,1792,20846618,0x3800000000000000000003e181a,0x7800000000000000000003e181a,0x3800000000000000000103e181a,0x3800000000000000000703e181a,0x1003800000000000000000303e181a,0x3800000000000000000b03e181a,0x100003800000000000000000b03e181a,0x3800000000000000000003e181a,0x3800000000000000001903e181a,0x3800000000000000001903e181a,0x3800000000000000000003e181a,0x3800000000000000000003e181a,0x8000000000000000000000000000000000000e181a,1792,1792] [82,97,101,103,125,168,169,170] [] [(36,[(9,none,false)])] [131,158] [] []
def Abs:Fj AA 17 f17 e17:=GT func17
noncomputable def e18:Eg:=hx [2,4] [] [] [(1,[(2,none,false)])] [] [] []
def Abm:Fj AA 18 f18 e18:=GT func18
noncomputable def e19:Eg:=hm [206,462,8640,960,448,2097344,1,192] [15,16] [] []
def Abg:Fj AA 19 f19 e19:=GT func19
noncomputable def e20:Eg:=hm [14,776,4294968072,192,1288,240518169864,515396076808,240518173960,240518182152,31026843755784,66211215844616,31026843788552,31026843755784,31026843755784,0x200003800000508,0xa00003800000508,0x200003800010508,0x200003800000508,240518169864,132360,0xc00000000000020500,0x1c00000000000020500,0xc00000000000060500,0x80c00000000000060500,0xc00000000000020500,0xc00000000000020500,192] [42,80,85] [] []
def AbZ:Fj AA 20 f20 e20:=GT func20
noncomputable def e21:Eg:=hx [22,52,116,116,7516192884,16106127476,7516193140,282394100084,7516192884,7516192884,0x700000000000070,0xf00000000000070,0x700000000000470,0x8700000000000470,0x18700000000000470,0x700000000000470,0x200700000000000470,0x700000000000070,0x700000000000070,16] [74] [] [(10,[(6,some 2,true)])] [18] [] []
def AbP:Fj AA 21 f21 e21:=GT func21
noncomputable def e22:Eg:=hm [3,2051,16,35,32803,35,99,72057594037927971,16,16] [] [] []
def AbL:Fj AA 22 f22 e22:=GT func22
noncomputable def e23:Eg:=hm [3,2051,16,35,32803,35,99,268435491,16,16] [] [] []
def AbK:Fj AA 23 f23 e23:=GT func23
noncomputable def e24:Eg:=hm [3,1027,16,35,16419,35,33554467,16,16] [] [] []
def AbI:Fj AA 24 f24 e24:=GT func24
noncomputable def e25:Eg:=hm [6,38,3622,7718,3750,8392358,3622,3622,16] [] [] []
def Aa8:Fj AA 25 f25 e25:=GT func25
noncomputable def e26:Eg:=hm [28,88,8280,48,24,48] [] [] []
def Aa4:Fj AA 26 f26 e26:=GT func26
noncomputable def e32:Eg:=hm [1,3,5,13,4109,13,13,5,5,1] [] [9] []
def Aal:Fj AA 32 f32 e32:=GT func32
noncomputable def e33:Eg:=hm [1,3,1] [] [] []
def Aaf:Fj AA 33 f33 e33:=GT func33
noncomputable def e34:Eg:=hm [2,514,4,67108866,4,1924145348610,4123168604162,1924145348626,9009123400089602,4,1924145348610,0x700000000000002,0xf00000000000002,0x700000000000042,0x4000000700000000000002,4,0x700000000000002,0xe0000000000000000000002,0x1e0000000000000000000002,0xe0000000000000000000102,0x80e0000000000000000000002,4,0xe0000000000000000000002,4] [] [] []
def Aad:Fj AA 34 f34 e34:=GT func34
noncomputable def e35:Eg:=hm [1,513,4,7169,15361,7193,7225,7289,531545,4,68719483905,4,7169,4] [] [] []
def Aab:Fj AA 35 f35 e35:=GT func35
noncomputable def e36:Eg:=hm [14,142,398,16777614,64,1166,4294968462,64,0x800000000084,64,0xe000000000084,8444249301319812,0xe000000001084,0x40e000000000084,64,0xe000000000084,0xe000000000000004,0x1e000000000000004,0xe000000000004004,0xe000000000000004,0xe000000000000004,64] [] [] []
def AaW:Fj AA 36 f36 e36:=GT func36
noncomputable def e37:Eg:=hm [12,108,492,1073741996,16,0x8000000000000c,16,524,0x400000000000020c,16,1032,0x10000000000000000000000000000,16,16] [] [] [42,53]
def AaV:Fj AA 37 f37 e37:=GT func37
noncomputable def e38:Eg:=hx [2,8,1032,24,524312,4,8,4] [20] [] [(1,[(3,some 0,true)]),(6,[(3,some 0,true)])] [] [] []
def AaU:Fj AA 38 f38 e38:=GT func38
noncomputable def e39:Eg:=hm [28,280,1080,120,8240,1,16] [] [] []
def AaT:Fj AA 39 f39 e39:=GT func39
noncomputable def e40:Eg:=hm [6,1] [3] [] []
def AaS:Fj AA 40 f40 e40:=GT func40
noncomputable def e41:Eg:=hm [1,17,4,4] [6] [5,7] []
def AaR:Fj AA 41 f41 e41:=GT func41
noncomputable def e42:Eg:=hm [2,18,1810,3858,1874,1874,4196178,12,1810,1810,12] [23,28] [] []
def AaQ:Fj AA 42 f42 e42:=GT func42
noncomputable def e43:Eg:=hm [279,24599,1879072789,4026556437,1879138325,1879269397,122138345493,259577298965,122138869781,122141491221,122140442645,0x400001c70034015,7168,122138345493,1879269397,0xe000000070016015,0x1e000000070016015,0xe000000070816015,0xe000000070816015,0xe000000071816015,0x4000e000000070816015,0xe000000070016015,0xe000000070016015,1879072789,7168] [28,34,49,50,59,61,71,79,85,86] [] []
def AaP:Fj AA 43 f43 e43:=GT func43
noncomputable def e44:Eg:=hm [28,88,4184,48,24,48] [] [] []
def AaO:Fj AA 44 f44 e44:=GT func44
noncomputable def e45:Eg:=hm [240,256] [] [] []
def AaN:Fj AA 45 f45 e45:=GT func45
noncomputable def e46:Eg:=hm [1,17,4,4] [6] [] []
def AaM:Fj AA 46 f46 e46:=GT func46
noncomputable def e47:Eg:=hm [12,64,48] [] [] []
def AaL:Fj AA 47 f47 e47:=GT func47
noncomputable def e48:Eg:=hm [56,64] [] [] []
def AaK:Fj AA 48 f48 e48:=GT func48
noncomputable def e49:Eg:=hm [1,17,4,4] [6] [] []
def AaJ:Fj AA 49 f49 e49:=GT func49
noncomputable def e62:Eg:=hm [3,35,7202,15394,7330,7458,67116322,16,7202,7202,16] [10] [] []
def AaI:Fj AA 62 f62 e62:=GT func62
noncomputable def e63:Eg:=hm [2,4] [] [] []
def AaH:Fj AA 63 f63 e63:=GT func63
noncomputable def e64:Eg:=hm [3,35,7202,15394,7330,7458,67116322,16,7202,7202,16] [10] [] []
def AaG:Fj AA 64 f64 e64:=GT func64
noncomputable def e65:Eg:=hm [2,4] [] [] []
def AaF:Fj AA 65 f65 e65:=GT func65
noncomputable def e66:Eg:=hm [7,64] [] [] []
def AaE:Fj AA 66 f66 e66:=GT func66
noncomputable def e67:Eg:=hm [6,16] [] [] []
def AaD:Fj AA 67 f67 e67:=GT func67
noncomputable def e68:Eg:=hm [6,8] [] [] []
def AaC:Fj AA 68 f68 e68:=GT func68
noncomputable def e70:Eg:=hm [1,9,4] [] [] []
def AaB:Fj AA 70 f70 e70:=GT func70
noncomputable def e71:Eg:=hm [1,1] [] [] []
def AaA:Fj AA 71 f71 e71:=GT func71
noncomputable def e72:Eg:=hm [3,16] [5] [] []
def AZ9:Fj AA 72 f72 e72:=GT func72
noncomputable def e73:Eg:=hm [12,17179869196,16,44,549755813932,16,76,35184372088908,16,0x700000000000c,0xf00000000000c,0x700000000010c,0x700000000030c,0x100700000000030c,16,0x700000000050c,0x4000700000000050c,16,0x200000700000000000c,16,0x700000000000c,0x70000000000000000008,0xf0000000000000000008,0x70000000000000001008,0x20000000070000000000000000008,16,0x70000000000000000008,0x200000000000000000000000000000,16,16] [] [] []
def AZ8:Fj AA 73 f73 e73:=GT func73
noncomputable def e74:Eg:=hm [6,2054,16,16] [] [] []
def AZ7:Fj AA 74 f74 e74:=GT func74
noncomputable def e75:Eg:=hm [9,41,553,16,16] [11] [] []
def AZ6:Fj AA 75 f75 e75:=GT func75
noncomputable def e76:Eg:=hm [1,17,4,4] [6] [5,7] []
def AZ5:Fj AA 76 f76 e76:=GT func76
noncomputable def e77:Eg:=hm [3,35,4131,16,99,524387,99,227,536871139,99,99,33,16] [13,39] [] []
def AZ4:Fj AA 77 f77 e77:=GT func77
noncomputable def e78:Eg:=hm [6,8] [] [] []
def AZ3:Fj AA 78 f78 e78:=GT func78
noncomputable def e79:Eg:=hm [3,16] [5] [] []
def AZ2:Fj AA 79 f79 e79:=GT func79
noncomputable def e80:Eg:=hm [6,8] [] [] []
def AZ1:Fj AA 80 f80 e80:=GT func80
noncomputable def e81:Eg:=hm [2,4] [] [] []
def AZ0:Fj AA 81 f81 e81:=GT func81
noncomputable def e82:Eg:=hm [28,540,16,60,16] [] [] [12,14,19,21,24,25]
def AZz:Fj AA 82 f82 e82:=GT func82
noncomputable def e83:Eg:=hm [2,4] [] [] []
def AZy:Fj AA 83 f83 e83:=GT func83
noncomputable def e84:Eg:=hx [105,768] [10] [12] [] [] [] [2006,2007]
def AZx:Fj AA 84 f84 e84:=GT func84
noncomputable def e85:Eg:=hx [1365,525653,7168,9557,25941,91460,91456,72057594038019392,75072,0x400000000000010500,7168,7168] [21,31,41,60] [] [] [] [] [10,11]
def AZw:Fj AA 85 f85 e85:=GT func85
noncomputable def e86:Eg:=hm [3,387,899,419,65955,16,387,16] [] [] []
def AZv:Fj AA 86 f86 e86:=GT func86
noncomputable def e87:Eg:=hm [62,64] [] [] [30]
def AZu:Fj AA 87 f87 e87:=GT func87
noncomputable def e88:Eg:=hx [105,256] [9] [11] [] [] [] [2006,2007]
def AZt:Fj AA 88 f88 e88:=GT func88
noncomputable def e89:Eg:=hm [3,387,899,419,65955,16,387,16] [] [] []
def AZs:Fj AA 89 f89 e89:=GT func89
noncomputable def e90:Eg:=hm [6,8] [] [] []
def AZr:Fj AA 90 f90 e90:=GT func90
noncomputable def e91:Eg:=hm [30,62,40,1] [] [] []
def AZq:Fj AA 91 f91 e91:=GT func91
noncomputable def e92:Eg:=hm [63,32827,256,14680115,31457331,14681651,68734158387,14682675,72057594052608051,256,14680115,256] [17] [] [18]
def AZp:Fj AA 92 f92 e92:=GT func92
noncomputable def AcH:Eg:=hm [1,4] [] [] []
def ATs:Fj AA 122 f122 AcH:=GT func122
noncomputable def AcG:Eg:=hm [3,16] [] [] []
def ATr:Fj AA 123 f123 AcG:=GT func123
noncomputable def AcF:Eg:=hm [3,387,899,419,65955,16,387,16] [] [] []
def ATq:Fj AA 124 f124 AcF:=GT func124
noncomputable def AcE:Eg:=hm [28,60,8388636,16,92,67108956,340,2199023255888,1,1,4503599627370512,16,16] [] [] []
def ATp:Fj AA 125 f125 AcE:=GT func125
noncomputable def AcD:Eg:=hm [12,40,16424,16,917512,1966088,917640,135135368,16,8796093939720,16,917512,16] [] [] []
def ATo:Fj AA 126 f126 AcD:=GT func126
noncomputable def AcC:Eg:=hm [7,64] [] [] []
def ATn:Fj AA 130 f130 AcC:=GT func130
noncomputable def AcB:Eg:=hm [3,35,3618,7714,3746,528034,16,3618,3618,16] [9] [] []
def ATm:Fj AA 131 f131 AcB:=GT func131
noncomputable def AcA:Eg:=hm [2,4] [] [] []
def ATl:Fj AA 133 f133 AcA:=GT func133
noncomputable def Ab9:Eg:=hm [28,1044,52,16436,240,496,67109360,496,536871280,1,4294967312,1,16] [] [] []
def ATk:Fj AA 134 f134 Ab9:=GT func134
noncomputable def Ab8:Eg:=hm [449,961,473,8389057,449] [] [] []
def ATj:Fj AA 135 f135 Ab8:=GT func135
noncomputable def Ab7:Eg:=hm [6,14,526,12,4] [] [] [13,14]
def ATi:Fj AA 140 f140 Ab7:=GT func140
noncomputable def Ab6:Eg:=hm [6,34,546,16,8192,16,16] [] [] []
def ATh:Fj AA 141 f141 Ab6:=GT func141
noncomputable def Ab5:Eg:=hm [1,2] [] [] []
def ATg:Fj AA 142 f142 Ab5:=GT func142
noncomputable def Ab4:Eg:=hm [2,26,262170,786458,4,8590196762,4,4503599627632666,4,0x800000000004001a,0x800000000000001a,4,4] [] [] [8]
def ATf:Fj AA 143 f143 Ab4:=GT func143
noncomputable def Ab3:Eg:=hm [3,129,48,48] [8] [] []
def ATe:Fj AA 144 f144 Ab3:=GT func144
noncomputable def Ab2:Eg:=hm [12,44,36,32,16] [] [] []
def ATd:Fj AA 145 f145 Ab2:=GT func145
noncomputable def Aby:Eg:=hm [3,16] [] [] []
def ATc:Fj AA 173 f173 Aby:=GT func173
noncomputable def Abx:Eg:=hm [2,4] [] [] []
def ATb:Fj AA 174 f174 Abx:=GT func174
noncomputable def Abw:Eg:=hm [3,16] [5] [] []
def ATa:Fj AA 175 f175 Abw:=GT func175
noncomputable def Abv:Eg:=hm [2,4] [] [] []
def ATZ:Fj AA 176 f176 Abv:=GT func176
noncomputable def Abu:Eg:=hm [3,35,3618,7714,3746,528034,16,3618,3618,16] [9] [] []
def ATY:Fj AA 177 f177 Abu:=GT func177
noncomputable def Abt:Eg:=hm [3,16] [5] [] []
def ATX:Fj AA 178 f178 Abt:=GT func178
noncomputable def Abr:Eg:=hm [3,35,3618,7714,3746,528034,16,3618,3618,16] [9] [] []
def ATW:Fj AA 181 f181 Abr:=GT func181
noncomputable def Abq:Eg:=hm [3,35,32803,16,917507,1966083,917635,917891,269353347,16,918019,34360656387,16,917507,2048,35184372088832,16,16] [39,40] [] []
def ATV:Fj AA 183 f183 Abq:=GT func183
noncomputable def Abp:Eg:=hm [3,16] [5] [] []
def ATU:Fj AA 184 f184 Abp:=GT func184
noncomputable def Abo:Eg:=hm [2,10,136,24,65560,1,4] [] [] []
def ATT:Fj AA 185 f185 Abo:=GT func185
noncomputable def Abn:Eg:=hm [3,8] [] [] []
def ATS:Fj AA 186 f186 Abn:=GT func186
noncomputable def Abl:Eg:=hm [6,4] [] [] []
def ATR:Fj AA 195 f195 Abl:=GT func195
noncomputable def Abk:Eg:=hm [1,2] [] [] []
def ATQ:Fj AA 196 f196 Abk:=GT func196
noncomputable def Abj:Eg:=hm [2,10,262154,786442,786442,4,537133066,4,0x400000004000a,4,0x1000000000000004000a,4,0x10000000000000000000004000a,4,0x100000000000000000000000000004000a,4,0x10000000000000000000000000000004000a,0x10000000000000000000000000000000000a,4,4] [] [] []
def ATP:Fj AA 197 f197 Abj:=GT func197
noncomputable def Abi:Eg:=hm [2,4] [] [] []
def ATO:Fj AA 198 f198 Abi:=GT func198
noncomputable def Abh:Eg:=hm [25,1049,48,81,65617,48,48] [18] [] [8]
def ATN:Fj AA 199 f199 Abh:=GT func199
noncomputable def Abf:Eg:=hm [2,4] [] [] []
def ATM:Fj AA 200 f200 Abf:=GT func200
noncomputable def Abe:Eg:=hm [19,51,3634,7730,3762,3634,3634,16] [9] [] [18,19]
def ATL:Fj AA 205 f205 Abe:=GT func205
noncomputable def Abd:Eg:=hm [28,16] [] [] []
def ATK:Fj AA 206 f206 Abd:=GT func206
noncomputable def Abc:Eg:=hm [2,1024,4,4] [] [] []
def ATJ:Fj AA 207 f207 Abc:=GT func207
noncomputable def Abb:Eg:=hm [12,16] [] [] []
def ATI:Fj AA 208 f208 Abb:=GT func208
noncomputable def Aba:Eg:=hm [1,4] [] [] []
def ATH:Fj AA 209 f209 Aba:=GT func209
noncomputable def AbY:Eg:=hm [1,4] [] [] []
def ATG:Fj AA 210 f210 AbY:=GT func210
noncomputable def AbX:Eg:=hm [35,64] [12] [] []
def ATF:Fj AA 211 f211 AbX:=GT func211
noncomputable def AbW:Eg:=hx [124,4220,12412,12412,128,528508,128,2147487864,128,17592186048632,17592186044536,0x1000000000000068,128,128,352,0x400000000000000000160,0xc00000000000000000160,128,0x80000000000000000000160,128,1056,128] [] [56] [] [88,90,98,100] [] [12010,12011]
def ATE:Fj AA 212 f212 AbW:=GT func212
noncomputable def AbV:Eg:=hm [12,76,204,108,4194380,16,76,16] [] [] []
def ATD:Fj AA 213 f213 AbV:=GT func213
noncomputable def AbU:Eg:=hm [22,16] [] [] []
def ATC:Fj AA 214 f214 AbU:=GT func214
noncomputable def AbT:Eg:=hm [78,202,64] [] [] [9,20,26]
def ATB:Fj AA 215 f215 AbT:=GT func215
noncomputable def AbS:Eg:=hm [60,1048636,3145788,2147483680,192,192,17180917820,304,192,0x4000000100034,3124,15360,192,0x10000000000000000000034,49172,0x100000000000000000000004014,192,192,327680,192] [78,79,110,125] [] [46,48]
def ATA:Fj AA 217 f217 AbS:=GT func217
noncomputable def AbR:Eg:=hm [28,92,220,124,92,92,16] [] [] []
def AS9:Fj AA 218 f218 AbR:=GT func218
noncomputable def AbQ:Eg:=hm [22,16] [] [] []
def AS8:Fj AA 219 f219 AbQ:=GT func219
noncomputable def AbO:Eg:=hm [3,4097,48,48] [13] [] []
def AS7:Fj AA 220 f220 AbO:=GT func220
noncomputable def AbN:Eg:=hm [3,35,544,96,1,16] [7,8,11] [] []
def AS6:Fj AA 221 f221 AbN:=GT func221
noncomputable def AbM:Eg:=hm [21,277,789,115473,246545,117009,127249,115473,549755929361,115473,192] [14,31,32,41] [] []
def AS5:Fj AA 222 f222 AbM:=GT func222
noncomputable def AbJ:Eg:=hm [1,1] [] [] []
def AS4:Fj AA 248 f248 AbJ:=GT func248
noncomputable def AbH:Eg:=hm [7,1030,7174,1414,525446,64,64] [] [] []
def AS3:Fj AA 250 f250 AbH:=GT func250
noncomputable def AbG:Eg:=hm [3,387,899,419,65955,16,387,16] [] [] []
def AS2:Fj AA 251 f251 AbG:=GT func251
noncomputable def AbF:Eg:=hm [3,387,899,419,65955,16,387,16] [] [] []
def AS1:Fj AA 252 f252 AbF:=GT func252
noncomputable def AbE:Eg:=hm [1,513,4,7168,15360,7184,7216,1055792,4,7232,67116096,4,7168,4] [10] [] []
def AS0:Fj AA 253 f253 AbE:=GT func253
noncomputable def AbD:Eg:=hm [28,60,8252,16,65556,84,524372,1572948,144,134217872,1,536870996,848,274877907280,1,2199023255568,1,16] [] [] [45]
def ASz:Fj AA 254 f254 AbD:=GT func254
noncomputable def AbC:Eg:=hm [12,44,524332,16,76,274877906956,16,7696581394444,0xf000000000c,7696581394828,4511296208764940,16,7696581394444,520,0x400000000000000000,16,16] [] [] [68]
def ASy:Fj AA 255 f255 AbC:=GT func255
noncomputable def AbB:Eg:=hx [3,67,195,14680257,31457473,14680769,14681281,2162164929,14683329,3848305380545,8246351891649,3848305388737,3848305396929,3848305380545,3848305380545,14748865,15142081,0x4000000000000e70cc1,15142081,0x800000000000000000000000e50cc1,48,0x10000000000000000000000000e10cc1,14746817,14680257,14680257,48] [21,52] [] [] [36] [] [18]
def ASx:Fj AA 256 f256 AbB:=GT func256
noncomputable def AbA:Eg:=hm [3,387,899,419,65955,16,387,16] [] [] []
def ASw:Fj AA 257 f257 AbA:=GT func257
noncomputable def Aa9:Eg:=hm [2,4] [] [] []
def ASv:Fj AA 258 f258 Aa9:=GT func258
noncomputable def Aa7:Eg:=hm [2,4] [] [] []
def ASu:Fj AA 260 f260 Aa7:=GT func260
noncomputable def Aa6:Eg:=hm [1,4] [] [] []
def ASt:Fj AA 263 f263 Aa6:=GT func263
noncomputable def Aa5:Eg:=hm [19,51,3634,7730,3762,3634,3634,16] [9] [] [18,19]
def ASs:Fj AA 267 f267 Aa5:=GT func267
noncomputable def Aa3:Eg:=hm [6,14,10,1] [] [] []
def ASr:Fj AA 270 f270 Aa3:=GT func270
noncomputable def Aa2:Eg:=hm [14,1036,16,28676,61444,28740,2125828,16,28676,16] [] [] []
def ASq:Fj AA 271 f271 Aa2:=GT func271
noncomputable def Aa1:Eg:=hm [6,8] [] [] []
def ASp:Fj AA 272 f272 Aa1:=GT func272
noncomputable def Aa0:Eg:=hm [7,16391,64,229382,491526,229766,230150,1073971206,64,229382,64] [15] [] []
def ASo:Fj AA 275 f275 Aa0:=GT func275
noncomputable def Aaz:Eg:=hm [3,16] [5] [] []
def ASn:Fj AA 276 f276 Aaz:=GT func276
noncomputable def Aay:Eg:=hm [6,8] [] [] []
def ASm:Fj AA 277 f277 Aay:=GT func277
noncomputable def Aax:Eg:=hm [92,220,80,64] [] [] [17,19,24]
def ASl:Fj AA 278 f278 Aax:=GT func278
noncomputable def Aaw:Eg:=hm [2,4] [] [] []
def ASk:Fj AA 279 f279 Aaw:=GT func279
noncomputable def Aav:Eg:=hm [12,16] [] [] []
def ASj:Fj AA 280 f280 Aav:=GT func280
noncomputable def Aau:Eg:=hm [2,32,4,4] [] [] []
def ASi:Fj AA 301 f301 Aau:=GT func301
noncomputable def Aat:Eg:=hm [6,14,10,1] [] [] []
def ASh:Fj AA 306 f306 Aat:=GT func306
noncomputable def Aas:Eg:=hm [14,1036,16,28676,61444,28740,2125828,16,28676,16] [] [] []
def ASg:Fj AA 307 f307 Aas:=GT func307
noncomputable def Aar:Eg:=hm [33,161,41,8225] [] [] []
def ASf:Fj AA 310 f310 Aar:=GT func310
noncomputable def Aaq:Eg:=hm [1,131073,4,17,4] [] [] []
def ASe:Fj AA 311 f311 Aaq:=GT func311
noncomputable def Aap:Eg:=hm [3,387,899,419,65955,16,387,16] [] [] []
def ASd:Fj AA 315 f315 Aap:=GT func315
noncomputable def Aao:Eg:=hx [8199,7,23,2097159,23,33554439,23,55,1073741879,55,137438953511,39,70368744177671] [] [] [] [] [] [9,11]
def ASc:Fj AA 316 f316 Aao:=GT func316
noncomputable def Aan:Eg:=hm [1,4] [] [] []
def ASb:Fj AA 324 f324 Aan:=GT func324
noncomputable def Aam:Eg:=hm [2,66,4,2147483650,4,10,2199023255562,6597069766666,4,0x8002000000000a,4,0x800002000000000a,4,0x4000000002000000000a,4,0x1000000000000002000000000a,4,0x1000000000000000000000000002,4,4] [] [] []
def ASa:Fj AA 327 f327 Aam:=GT func327
noncomputable def Aak:Eg:=hm [1,4] [] [] []
def ASZ:Fj AA 333 f333 Aak:=GT func333
noncomputable def Aaj:Eg:=hm [3,67,451,33219,963,134218691,451,451,48] [43] [] []
def ASY:Fj AA 334 f334 Aaj:=GT func334
noncomputable def Aai:Eg:=hm [3,35,65571,35,16] [] [] []
def ASX:Fj AA 335 f335 Aai:=GT func335
noncomputable def Aah:Eg:=hm [1,4] [] [] []
def ASW:Fj AA 336 f336 Aah:=GT func336
noncomputable def Aag:Eg:=hm [1,4] [] [] []
def ASV:Fj AA 337 f337 Aag:=GT func337
noncomputable def Aae:Eg:=hm [12,16] [] [] []
def ASU:Fj AA 345 f345 Aae:=GT func345
noncomputable def Aac:Eg:=hm [7,64] [] [] []
def AST:Fj AA 359 f359 Aac:=GT func359
noncomputable def Aaa:Eg:=hm [3,16] [] [] []
def ASS:Fj AA 360 f360 Aaa:=GT func360
noncomputable def AaZ:Eg:=hm [1,4] [] [] []
def ASR:Fj AA 361 f361 AaZ:=GT func361
noncomputable def AaY:Eg:=hm [1,1] [] [] []
def ASQ:Fj AA 364 f364 AaY:=GT func364
noncomputable def AaX:Eg:=hm [3,1027,16,12291,28675,12323,16789507,16,12291,16] [] [] []
def ASP:Fj AA 366 f366 AaX:=GT func366
noncomputable def bK:ETree:=(.node (.node (.node (.node (.node (.node (.node (.node .nil 5 f5 e5 .nil) 14 f14 e14 .nil) 15 f15 e15 (.node .nil 16 f16 e16 .nil)) 17 f17 e17 (.node (.node (.node .nil 18 f18 e18 .nil) 19 f19 e19 .nil) 20 f20 e20 (.node .nil 21 f21 e21 .nil))) 22 f22 e22 (.node (.node (.node (.node .nil 23 f23 e23 .nil) 24 f24 e24 .nil) 25 f25 e25 (.node .nil 26 f26 e26 .nil)) 32 f32 e32 (.node (.node (.node .nil 33 f33 e33 .nil) 34 f34 e34 .nil) 35 f35 e35 (.node .nil 36 f36 e36 .nil)))) 37 f37 e37 (.node (.node (.node (.node (.node .nil 38 f38 e38 .nil) 39 f39 e39 .nil) 40 f40 e40 (.node .nil 41 f41 e41 .nil)) 42 f42 e42 (.node (.node (.node .nil 43 f43 e43 .nil) 44 f44 e44 .nil) 45 f45 e45 (.node .nil 46 f46 e46 .nil))) 47 f47 e47 (.node (.node (.node (.node .nil 48 f48 e48 .nil) 49 f49 e49 .nil) 62 f62 e62 (.node .nil 63 f63 e63 .nil)) 64 f64 e64 (.node (.node .nil 65 f65 e65 .nil) 66 f66 e66 (.node .nil 67 f67 e67 .nil))))) 68 f68 e68 (.node (.node (.node (.node (.node (.node .nil 70 f70 e70 .nil) 71 f71 e71 .nil) 72 f72 e72 (.node .nil 73 f73 e73 .nil)) 74 f74 e74 (.node (.node (.node .nil 75 f75 e75 .nil) 76 f76 e76 .nil) 77 f77 e77 (.node .nil 78 f78 e78 .nil))) 79 f79 e79 (.node (.node (.node (.node .nil 80 f80 e80 .nil) 81 f81 e81 .nil) 82 f82 e82 (.node .nil 83 f83 e83 .nil)) 84 f84 e84 (.node (.node (.node .nil 85 f85 e85 .nil) 86 f86 e86 .nil) 87 f87 e87 (.node .nil 88 f88 e88 .nil)))) 89 f89 e89 (.node (.node (.node (.node (.node .nil 90 f90 e90 .nil) 91 f91 e91 .nil) 92 f92 e92 (.node .nil 122 f122 AcH .nil)) 123 f123 AcG (.node (.node (.node .nil 124 f124 AcF .nil) 125 f125 AcE .nil) 126 f126 AcD (.node .nil 130 f130 AcC .nil))) 131 f131 AcB (.node (.node (.node (.node .nil 133 f133 AcA .nil) 134 f134 Ab9 .nil) 135 f135 Ab8 (.node .nil 140 f140 Ab7 .nil)) 141 f141 Ab6 (.node (.node .nil 142 f142 Ab5 .nil) 143 f143 Ab4 (.node .nil 144 f144 Ab3 .nil)))))) 145 f145 Ab2 (.node (.node (.node (.node (.node (.node (.node .nil 173 f173 Aby .nil) 174 f174 Abx .nil) 175 f175 Abw (.node .nil 176 f176 Abv .nil)) 177 f177 Abu (.node (.node (.node .nil 178 f178 Abt .nil) 181 f181 Abr .nil) 183 f183 Abq (.node .nil 184 f184 Abp .nil))) 185 f185 Abo (.node (.node (.node (.node .nil 186 f186 Abn .nil) 195 f195 Abl .nil) 196 f196 Abk (.node .nil 197 f197 Abj .nil)) 198 f198 Abi (.node (.node (.node .nil 199 f199 Abh .nil) 200 f200 Abf .nil) 205 f205 Abe (.node .nil 206 f206 Abd .nil)))) 207 f207 Abc (.node (.node (.node (.node (.node .nil 208 f208 Abb .nil) 209 f209 Aba .nil) 210 f210 AbY (.node .nil 211 f211 AbX .nil)) 212 f212 AbW (.node (.node (.node .nil 213 f213 AbV .nil) 214 f214 AbU .nil) 215 f215 AbT (.node .nil 217 f217 AbS .nil))) 218 f218 AbR (.node (.node (.node (.node .nil 219 f219 AbQ .nil) 220 f220 AbO .nil) 221 f221 AbN (.node .nil 222 f222 AbM .nil)) 248 f248 AbJ (.node (.node .nil 250 f250 AbH .nil) 251 f251 AbG (.node .nil 252 f252 AbF .nil))))) 253 f253 AbE (.node (.node (.node (.node (.node (.node .nil 254 f254 AbD .nil) 255 f255 AbC .nil) 256 f256 AbB (.node .nil 257 f257 AbA .nil)) 258 f258 Aa9 (.node (.node (.node .nil 260 f260 Aa7 .nil) 263 f263 Aa6 .nil) 267 f267 Aa5 (.node .nil 270 f270 Aa3 .nil))) 271 f271 Aa2 (.node (.node (.node (.node .nil 272 f272 Aa1 .nil) 275 f275 Aa0 .nil) 276 f276 Aaz (.node .nil 277 f277 Aay .nil)) 278 f278 Aax (.node (.node .nil 279 f279 Aaw .nil) 280 f280 Aav (.node .nil 301 f301 Aau .nil)))) 306 f306 Aat (.node (.node (.node (.node (.node .nil 307 f307 Aas .nil) 310 f310 Aar .nil) 311 f311 Aaq (.node .nil 315 f315 Aap .nil)) 316 f316 Aao (.node (.node (.node .nil 324 f324 Aan .nil) 327 f327 Aam .nil) 333 f333 Aak (.node .nil 334 f334 Aaj .nil))) 335 f335 Aai (.node (.node (.node (.node .nil 336 f336 Aah .nil) 337 f337 Aag .nil) 345 f345 Aae (.node .nil 359 f359 Aac .nil)) 360 f360 Aaa (.node (.node .nil 361 f361 AaZ .nil) 364 f364 AaY (.node .nil 366 f366 AaX .nil)))))))
def Wa:bK.All AA:=⟨⟨⟨⟨⟨⟨⟨⟨tV,Agp,tV⟩,Ab1,tV⟩,Ab0,⟨tV,Abz,tV⟩⟩,Abs,⟨⟨⟨tV,Abm,tV⟩,Abg,tV⟩,AbZ,⟨tV,AbP,tV⟩⟩⟩,AbL,⟨⟨⟨⟨tV,AbK,tV⟩,AbI,tV⟩,Aa8,⟨tV,Aa4,tV⟩⟩,Aal,⟨⟨⟨tV,Aaf,tV⟩,Aad,tV⟩,Aab,⟨tV,AaW,tV⟩⟩⟩⟩,AaV,⟨⟨⟨⟨⟨tV,AaU,tV⟩,AaT,tV⟩,AaS,⟨tV,AaR,tV⟩⟩,AaQ,⟨⟨⟨tV,AaP,tV⟩,AaO,tV⟩,AaN,⟨tV,AaM,tV⟩⟩⟩,AaL,⟨⟨⟨⟨tV,AaK,tV⟩,AaJ,tV⟩,AaI,⟨tV,AaH,tV⟩⟩,AaG,⟨⟨tV,AaF,tV⟩,AaE,⟨tV,AaD,tV⟩⟩⟩⟩⟩,AaC,⟨⟨⟨⟨⟨⟨tV,AaB,tV⟩,AaA,tV⟩,AZ9,⟨tV,AZ8,tV⟩⟩,AZ7,⟨⟨⟨tV,AZ6,tV⟩,AZ5,tV⟩,AZ4,⟨tV,AZ3,tV⟩⟩⟩,AZ2,⟨⟨⟨⟨tV,AZ1,tV⟩,AZ0,tV⟩,AZz,⟨tV,AZy,tV⟩⟩,AZx,⟨⟨⟨tV,AZw,tV⟩,AZv,tV⟩,AZu,⟨tV,AZt,tV⟩⟩⟩⟩,AZs,⟨⟨⟨⟨⟨tV,AZr,tV⟩,AZq,tV⟩,AZp,⟨tV,ATs,tV⟩⟩,ATr,⟨⟨⟨tV,ATq,tV⟩,ATp,tV⟩,ATo,⟨tV,ATn,tV⟩⟩⟩,ATm,⟨⟨⟨⟨tV,ATl,tV⟩,ATk,tV⟩,ATj,⟨tV,ATi,tV⟩⟩,ATh,⟨⟨tV,ATg,tV⟩,ATf,⟨tV,ATe,tV⟩⟩⟩⟩⟩⟩,ATd,⟨⟨⟨⟨⟨⟨⟨tV,ATc,tV⟩,ATb,tV⟩,ATa,⟨tV,ATZ,tV⟩⟩,ATY,⟨⟨⟨tV,ATX,tV⟩,ATW,tV⟩,ATV,⟨tV,ATU,tV⟩⟩⟩,ATT,⟨⟨⟨⟨tV,ATS,tV⟩,ATR,tV⟩,ATQ,⟨tV,ATP,tV⟩⟩,ATO,⟨⟨⟨tV,ATN,tV⟩,ATM,tV⟩,ATL,⟨tV,ATK,tV⟩⟩⟩⟩,ATJ,⟨⟨⟨⟨⟨tV,ATI,tV⟩,ATH,tV⟩,ATG,⟨tV,ATF,tV⟩⟩,ATE,⟨⟨⟨tV,ATD,tV⟩,ATC,tV⟩,ATB,⟨tV,ATA,tV⟩⟩⟩,AS9,⟨⟨⟨⟨tV,AS8,tV⟩,AS7,tV⟩,AS6,⟨tV,AS5,tV⟩⟩,AS4,⟨⟨tV,AS3,tV⟩,AS2,⟨tV,AS1,tV⟩⟩⟩⟩⟩,AS0,⟨⟨⟨⟨⟨⟨tV,ASz,tV⟩,ASy,tV⟩,ASx,⟨tV,ASw,tV⟩⟩,ASv,⟨⟨⟨tV,ASu,tV⟩,ASt,tV⟩,ASs,⟨tV,ASr,tV⟩⟩⟩,ASq,⟨⟨⟨⟨tV,ASp,tV⟩,ASo,tV⟩,ASn,⟨tV,ASm,tV⟩⟩,ASl,⟨⟨tV,ASk,tV⟩,ASj,⟨tV,ASi,tV⟩⟩⟩⟩,ASh,⟨⟨⟨⟨⟨tV,ASg,tV⟩,ASf,tV⟩,ASe,⟨tV,ASd,tV⟩⟩,ASc,⟨⟨⟨tV,ASb,tV⟩,ASa,tV⟩,ASZ,⟨tV,ASY,tV⟩⟩⟩,ASX,⟨⟨⟨⟨tV,ASW,tV⟩,ASV,tV⟩,ASU,⟨tV,AST,tV⟩⟩,ASS,⟨⟨tV,ASR,tV⟩,ASQ,⟨tV,ASP,tV⟩⟩⟩⟩⟩⟩⟩
def ABT:AA.follows .mixedOrders=true:=kr
open Go.MapKept Go.Maps Go.WideElems Go.WideShapes
def nX(x:Int):List Int->List Int
 | []=>[x]
 | y::l=>if x<=y then x::y::l else y::nX x l
def Oo:List Int->List Int
 | []=>[]
 | x::l=>nX x (Oo l)
def TF(x:Int): ∀ l,(nX x l).Perm (x::l)
 | [] => .refl _
 | y::l=>by
  unfold nX
  split
  ·exact .refl _
  ·exact ((TF x l).cons y).trans (.swap _ _ _)
def On : ∀ l,(Oo l).Perm l
 | [] => .refl _
 | x::l=>(TF x _).trans ((On l).cons x)
def T2{x:Int}: ∀ {l:List Int},l.Pairwise (· <= ·)->(nX x l).Pairwise (· <= ·)
 | [],_=>by simp [nX]
 | y::l,h=>by
  unfold nX
  split
  ·rename_i hxy
   refine List.Pairwise.cons (λz hz=>?_) h
   rcases AW.1 hz with rfl|hz
   ·exact hxy
   ·exact DI hxy ((Bi.1 h).1 z hz)
  ·rename_i hxy
   obtain ⟨h1,h2⟩:=Bi.1 h
   refine List.Pairwise.cons (λz hz=>?_) (T2 h2)
   rcases AW.1 ((TF x l).mem_iff.1 hz) with rfl|hz
   ·omega
   ·exact h1 z hz
def QH : ∀ l:List Int,(Oo l).Pairwise (· <= ·)
 | [] => .nil
 | _::l=>T2 (QH l)
def uL{l l':List Int}(h:l'.Perm l):l'.mergeSort (λx y=>decide (x<=y))=Oo l:=by
 have tr : ∀ a b c:Int,leI a b=true->leI b c=true->leI a c=true:=λa b c h1 h2=>by simp only [leI,decide_eq_true_eq] at *;exact DI h1 h2
 have to : ∀ a b:Int,(leI a b||leI b a)=true:=λa b=>by simp only [leI,CI,decide_eq_true_eq];exact Int.le_total a b
 refine List.Perm.eq_of_pairwise (le:=λa b=>a<=b) (λa b _ _ h1 h2=>Int.le_antisymm h1 h2) ?_ (QH l) (((List.mergeSort_perm l' _).trans h).trans (On l).symm)
 exact (List.pairwise_mergeSort tr to l').imp λ{a b} hab=>by simpa [leI] using hab
def AFn:AV->Int
 | .int _ n=>n
 | _=>0
def AB0:AV->Bool
 | .int .i64 n=>(Lit.int .i64 n).wf
 | _=>false
def MW(es:List (AV×AV)):List Int:=es.map λp=>AFn p.1
def Vr(es:List (AV×AV)):Bool:=es.all (λp=>AB0 p.1)&&Zc es
def WN{a:AV}(h:AB0 a=true): ∃ n,a = .int .i64 n/\(Lit.int .i64 n).wf=true:=by
 unfold AB0 at h
 split at h
 ·exact ⟨_,rfl,h⟩
 ·cases h
abbrev RT:Value->Option (DataW Unit×List MemPlace):=λ_=>some (.lit (.bool true),[])
section
variable {P:Program} {F:Nat->Prop} {G:Gh} {w:World} {H:FR}
def ABU {k:TypeId} (hk:P.underlying k=some (.int .i64)) {vs:List AV} {us:List Value} (hc:CRel F G vs H us w) {o:Nat} {um:Value} (hm:VRel G w (.mapr o) um) {es:List (AV×AV)}
  (he:Ik H (.mapr o)=some es) (hok:Vr es=true) (hlen:es.length<=maxLen) :
  ∃ b D0,um = .map (some b)/\w.ownsMap P k RT b es.length D0/\(intKeys D0).Perm (MW es)/\Maps.size D0=es.length:=by
 simp only [Vr,AQ] at hok
 obtain ⟨hk1,hk2⟩:=hok
 have hd:=Wg hk2
 rcases S6 hc hm he with ⟨h,_⟩|⟨o',b,ms,cl,ho,rfl,hob,hkb,hms,hl,hH,hrel⟩
 ·cases h
 cases ho
 obtain ⟨hcl,hborn⟩:=Ln hc hH hob hkb hms
 have key : ∀ (i:Nat) (x:MapEntry),ms[i]? =some x -> ∃ (p:AV×AV) (n:Int),es[i]? =some p/\p.1 = .int .i64 n/\x.key=encZ n/\(Lit.int .i64 n).wf=true:=λi x hx=>by
  have hlt:=(Ao.1 hx).1
  have hp:es[i]? =some (es[i]' FQ):=AL _
  obtain ⟨n,hn,hw⟩:=WN (Am.1 hk1 _ (List.mem_of_getElem? hp))
  have hv:=(hrel i _ x hp hx).2.2.1
  rw [hn] at hv
  refine ⟨_,n,hp,hn, ?_,hw⟩
  generalize x.key=y at hv ⊢
  cases hv;rfl
 have hR : ∀ x∈ms.toList,∃ (i:Nat) (p:AV×AV) (n:Int),ms[i]? =some x/\es[i]? =some p/\p.1 = .int .i64 n/\rd P k RT x=some (.int .i64 n,.lit (.bool true)):=λx hx=>by
  obtain ⟨i,hi⟩:=Ae hx
  rw [Ac] at hi
  obtain ⟨p,n,h1,h2,h3,h4⟩:=key i x hi
  refine ⟨i,p,n,hi,h1,h2, ?_⟩
  have:keyOf P k x.key=some (.int .i64 n):=by
   rw [h3]
   simp [keyOf,hk,mapKey,encZ,h4]
  simp [rd,this,RT]
 have hmap:ms.toList.map (λx=>intOf (rg P k RT x).1)=MW es:=by
  apply A4
  intro i
  unfold MW
  rw [AZ,AZ,Ac]
  cases hx:ms[i]? with
  | none =>
   have:es[i]? =none:=Az (by have:=Dm.1 hx;omega)
   rw [this];rfl
  | some x =>
   obtain ⟨p,n,h1,h2,h3,h4⟩:=key i x hx
   have:keyOf P k x.key=some (.int .i64 n):=by
    rw [h3]
    simp [keyOf,hk,mapKey,encZ,h4]
   rw [h1]
   simp [rg,rd,this,RT,intOf,h2,AFn]
 have hkeys:ms.toList.map (·.key)=(MW es).map encZ:=by
  apply A4
  intro i
  unfold MW
  rw [AZ,AZ,AZ,Ac]
  cases hx:ms[i]? with
  | none =>
   have:es[i]? =none:=Az (by have:=Dm.1 hx;omega)
   rw [this];rfl
  | some x =>
   obtain ⟨p,n,h1,h2,h3,h4⟩:=key i x hx
   rw [h1]
   simp [h2,h3,AFn]
 have hborns:ms.toList.map (·.born)=Ak ms.size:=by
  apply A4
  intro i
  rw [AZ,Ac]
  cases hx:ms[i]? with
  | none =>
   have:=Dm.1 hx
   rw [Az (by simpa using this)];rfl
  | some x =>
   have:=(Ao.1 hx).1
   rw [AL (by simpa using this)]
   simp [hborn i x hx]
 have hnd:(MW es).Nodup:=by
  refine EG.2 (hd.imp_of_mem λ{p q} hp hq h e=>?_)
  obtain ⟨n,hn,_⟩:=WN (Am.1 hk1 _ hp)
  obtain ⟨m,hm,_⟩:=WN (Am.1 hk1 _ hq)
  rw [hn,hm] at h e
  simp [AFn] at e
  subst e
  simp [Hp,Nj] at h
 refine ⟨b,_,rfl,⟨ms,cl,hms,⟨FQ,⟨λx hx=>?_, ?_, ?_⟩,λx hx=>?_⟩,FQ,rfl⟩, ?_, ?_⟩
 ·obtain ⟨i,hi⟩:=Ae hx
  rw [Ac] at hi
  have:=(Ao.1 hi).1
  rw [hborn i x hi];omega
 ·rw [hborns];exact List.nodup_range
 ·rw [hkeys]
  exact EG.2 (hnd.imp λh e=>h (encZ_inj e))
 ·obtain ⟨i,p,n,_,_,_,h⟩:=hR x hx
  exact ⟨_,h⟩
 ·show (List.map _ _).Perm _
  rw [<- hmap,show (ms.toList.map λx=>intOf (rg P k RT x).1)=(ms.toList.map (rg P k RT)).map λp=>intOf p.1 by rw [List.map_map];rfl]
  exact (sorted_perm _).map _
 ·show List.length _=_
  rw [(sorted_perm _).length_eq,Aq,Array.length_toList,hl]
def xk(hF : ∀ b,F b->b<w.heap.size){w':World}(hb:RowKit.Below w.heap.size w w'){g:Nat}(hg:w.heap.size<=g)(k:Kind):Ext F G w (G.setKind g k) w':=by
 have ne : ∀ b,b<w.heap.size->b≠g:=λb h e=>FQ
 refine ⟨hb.size,⟨λ_ _ h=>h,λb C E hc=>?_,λb hlt _=>⟨Nat.lt_of_lt_of_le hlt hb.size,G.kind_set_ne k (ne b hlt)⟩,λb off v hs hc=>?_⟩,λb h=>G.kind_set_ne k (ne b (hF b h)),λb h=>hb.block b (hF b h),⟨hb.os,hb.tape,hb.output⟩⟩
 ·exact ⟨C,(hb.block b (Ao.1 hc).1).trans hc,rfl⟩
 ·have hlt:=rW hc
  exact ⟨(G.safe_set_ne k (ne b hlt)).2 hs,(hb.cell (p:=⟨b,off,none⟩) hlt).trans hc⟩
def qL {vs:List AV} {us:List Value} (hc:CRel F G vs H us w) {w':World} (hb:RowKit.Below w.heap.size w w') {g:Nat} (hg:w.heap.size<=g) {R:AV->FR->Prop} {v:AV} {u:Value} (hR:R v H)
  (hv:VRel (G.setKind g .imm) w' v u) (ht:Gr v u=[]):Fg F G w R u w':=by
 have he:=xk (F:=F) (G:=G) hc.h.fore hb hg .imm
 have hne : ∀ b,b<w.heap.size->(G.setKind g .imm).kind b=G.kind b/\w'.heap[b]? =w.heap[b]?:=λb hlt=>⟨G.kind_set_ne .imm FQ,hb.block b hlt⟩
 refine ⟨v,H,_,hR,⟨.cons hv (Fh ht _ _ _) (.nil _ _ _),hc.h.ext he rfl λb hb'=>?_,λb=>?_⟩,he⟩
 ·rcases hb' with ⟨o',cs,h1,h2⟩|hb'
  ·exact hne b (hc.h.block_lt h1 h2)
  ·obtain ⟨_,_,C,E,t3⟩:=hc.h.tok_of_pos hb'
   exact hne b (Ao.1 t3).1
 ·rw [Mz (G:=G) (w:=w) (G':=G.setKind g .imm) rfl λo' cs b' h1 h2=>(hne b' (hc.h.block_lt h1 h2)).2,Fb,GR,ht]
  have:=hc.cnt b
  simp
  omega
def AB1{w':World}{base e:Nat}{v:Value}{ss:List Int}(h:w'.ownsRow base e 1 v ss.length (ss.map encZ)):
  ∃ g,base<=g /\ ∀ G:Gh,VRel (G.setKind g .imm) w' (.sl none (ss.map (.int .i64))) v:=by
 obtain ⟨hl,h⟩:=h
 rcases h with ⟨rfl,h0⟩|⟨g,cap,cur,rfl,hbg,hg,h1,h2,h3,h4⟩
 ·obtain rfl:=List.eq_nil_of_length_eq_zero h0
  exact ⟨base,Nat.le_refl _,λG => .slnil none⟩
 ·refine ⟨g,hbg,λG=>?_⟩
  have hlen:(ss.map (AV.int .i64)).length=ss.length:=Aq ..
  have hcat:HQ (ss.map (AV.int .i64))=ss.map (AV.int .i64):=by
   unfold HQ
   rw [List.flatMap_map]
   clear hl hlen h4 h1
   induction ss with
   | nil=>rfl
   | cons x l ih=>rw [List.flatMap_cons,ih];rfl
  rw [<- hlen]
  refine .sl none _ 1 g 0 cap (λi=>encZ (ss[i]?.getD 0)) (λa ha=>?_) (λ_ h=>by cases h) (by rw [hlen];exact h1) h2 (λi c hi=>?_) (λi c hi=>?_)
  ·obtain ⟨n,_,rfl⟩:=List.mem_map.1 ha;rfl
  ·rw [hcat,AZ] at hi
   cases hs:ss[i]? with
   | none=>rw [hs] at hi;cases hi
   | some n =>
    rw [hs] at hi;cases hi
    refine ⟨rfl, ?_, ?_⟩
    ·unfold Gh.safe;rw [G.kind_set];trivial
    ·have hin:(cur.toList.take (ss.length*1))[i]? =some (encZ n):=by rw [h4,AZ,hs];rfl
     have hci:cur[i]? =some (encZ n):=by
      rw [List.getElem?_take] at hin
      split at hin
      ·rwa [Ac] at hin
      ·cases hin
     simp [World.cell?,hg,hci]
  ·rw [hcat,AZ] at hi
   cases hs:ss[i]? with
   | none=>rw [hs] at hi;cases hi
   | some n =>
    rw [hs] at hi;cases hi
    exact .int _ _
end
end Go.AI
namespace Go.Proofs
open Go.RowKit Go.Maps Go.Sort Go.Shelf Go.AI
def L5:Go.Shelf.Ren:=⟨fun|7=>260|10=>310|n=>n,fun|23=>115|26=>3|3=>4|28=>328|0=>0|27=>327|33=>273|4=>4|n=>n,fun|n=>n⟩
def pq:Go.Proofs.SlLaysZI.n7 AA L5:={
 mixed:=kr
 f7:=⟨f260.name,dc,func260.trans (congrArg some kr)⟩
 f10:=⟨f310.name,dc,func310.trans (congrArg some kr)⟩
 t0:=Tryz.underlying0
 a0:=Tryz.isAgg0
 z0:=Tryz.sizeOf0
 v0:=Tryz.zeroValue0
 t4:=Tryz.underlying4
 a4:=Tryz.isAgg4
 z4:=Tryz.sizeOf4
 v4:=Tryz.zeroValue4
 t23:=Tryz.underlying115
 a23:=Tryz.isAgg115
 z23:=Tryz.sizeOf115
 v23:=Tryz.zeroValue115
 t26:=Tryz.underlying3
 a26:=Tryz.isAgg3
 z26:=Tryz.sizeOf3
 v26:=Tryz.zeroValue3
 t27:=Tryz.underlying327
 a27:=Tryz.isAgg327
 z27:=Tryz.sizeOf327
 v27:=Tryz.zeroValue327
 t28:=Tryz.underlying328
 a28:=Tryz.isAgg328
 z28:=Tryz.sizeOf328
 v28:=Tryz.zeroValue328
 t33:=Tryz.underlying273
 a33:=Tryz.isAgg273
 z33:=Tryz.sizeOf273
 v33:=Tryz.zeroValue273 }
def NE:Go.Shelf.Ren:=⟨fun|6=>259|8=>308|9=>309|11=>330|13=>332|12=>331|23=>357|24=>358|14=>348|15=>349|16=>350|17=>351|18=>352|19=>353|20=>354|21=>355|22=>356|25=>368|26=>369|27=>370|28=>371|29=>372|30=>341|31=>375|n=>n,fun|26=>3|28=>328|24=>71|0=>0|3=>3|37=>367|48=>389|50=>391|4=>4|40=>383|39=>382|45=>131|5=>5|9=>9|51=>396|55=>361|57=>402|58=>63|33=>273|n=>n,fun|n=>n⟩
def bx:Go.Proofs.SlLaysZI.n6 AA NE:={
 mixed:=kr
 f6:=⟨f259.name,dc,func259.trans (congrArg some kr)⟩
 f8:=⟨f308.name,dc,func308.trans (congrArg some kr)⟩
 f11:=⟨f330.name,dc,func330.trans (congrArg some kr)⟩
 t0:=Tryz.underlying0
 a0:=Tryz.isAgg0
 z0:=Tryz.sizeOf0
 v0:=Tryz.zeroValue0
 t24:=Tryz.underlying71
 a24:=Tryz.isAgg71
 z24:=Tryz.sizeOf71
 v24:=Tryz.zeroValue71
 t26:=Tryz.underlying3
 a26:=Tryz.isAgg3
 z26:=Tryz.sizeOf3
 v26:=Tryz.zeroValue3
 t28:=Tryz.underlying328
 a28:=Tryz.isAgg328
 z28:=Tryz.sizeOf328
 v28:=Tryz.zeroValue328
 i26:=by kernel_rfl }
def XA:Go.Shelf.Ren:=⟨fun|5=>309|8=>332|7=>331|19=>357|20=>358|10=>348|11=>349|12=>350|13=>351|14=>352|15=>353|16=>354|17=>355|18=>356|30=>368|31=>369|32=>370|33=>371|34=>372|35=>341|40=>375|n=>n,fun|23=>71|25=>3|3=>3|32=>367|22=>71|0=>0|44=>389|46=>391|4=>4|36=>383|35=>382|41=>131|5=>5|9=>9|53=>396|57=>361|63=>402|64=>63|n=>n,fun|n=>n⟩
def XB:Go.Proofs.SlLaysM.n5 AA XA:={
 mixed:=kr
 f5:=⟨f309.name,dc,func309.trans (congrArg some kr)⟩
 f7:=⟨f331.name,dc,func331.trans (congrArg some kr)⟩
 f8:=func332.trans (congrArg some kr)
 f10:=⟨f348.name,dc,func348.trans (congrArg some kr)⟩
 f11:=⟨f349.name,dc,func349.trans (congrArg some kr)⟩
 f12:=⟨f350.name,dc,func350.trans (congrArg some kr)⟩
 f13:=⟨f351.name,dc,func351.trans (congrArg some kr)⟩
 f14:=⟨f352.name,dc,func352.trans (congrArg some kr)⟩
 f15:=⟨f353.name,dc,func353.trans (congrArg some kr)⟩
 f16:=⟨f354.name,dc,func354.trans (congrArg some kr)⟩
 f17:=⟨f355.name,dc,func355.trans (congrArg some kr)⟩
 f18:=⟨f356.name,dc,func356.trans (congrArg some kr)⟩
 f19:=func357.trans (congrArg some kr)
 f20:=func358.trans (congrArg some kr)
 f30:=⟨f368.name,dc,func368.trans (congrArg some kr)⟩
 f31:=func369.trans (congrArg some kr)
 f32:=func370.trans (congrArg some kr)
 f33:=⟨f371.name,dc,func371.trans (congrArg some kr)⟩
 f34:=⟨f372.name,dc,func372.trans (congrArg some kr)⟩
 f35:=⟨f341.name,dc,func341.trans (congrArg some kr)⟩
 f40:=⟨f375.name,dc,func375.trans (congrArg some kr)⟩
 t0:=Tryz.underlying0
 a0:=Tryz.isAgg0
 z0:=Tryz.sizeOf0
 v0:=Tryz.zeroValue0
 t3:=Tryz.underlying3
 a3:=Tryz.isAgg3
 z3:=Tryz.sizeOf3
 v3:=Tryz.zeroValue3
 t4:=Tryz.underlying4
 a4:=Tryz.isAgg4
 z4:=Tryz.sizeOf4
 v4:=Tryz.zeroValue4
 t5:=Tryz.underlying5
 a5:=Tryz.isAgg5
 z5:=Tryz.sizeOf5
 v5:=Tryz.zeroValue5
 t9:=Tryz.underlying9
 a9:=Tryz.isAgg9
 z9:=Tryz.sizeOf9
 v9:=Tryz.zeroValue9
 t22:=Tryz.underlying71
 a22:=Tryz.isAgg71
 z22:=Tryz.sizeOf71
 v22:=Tryz.zeroValue71
 t23:=Tryz.underlying71
 a23:=Tryz.isAgg71
 z23:=Tryz.sizeOf71
 v23:=Tryz.zeroValue71
 t25:=Tryz.underlying3
 a25:=Tryz.isAgg3
 z25:=Tryz.sizeOf3
 v25:=Tryz.zeroValue3
 t32:=Tryz.underlying367
 a32:=Tryz.isAgg367
 z32:=Tryz.sizeOf367
 v32:=Tryz.zeroValue367
 t35:=Tryz.underlying382
 a35:=Tryz.isAgg382
 z35:=Tryz.sizeOf382
 v35:=Tryz.zeroValue382
 t36:=Tryz.underlying383
 a36:=Tryz.isAgg383
 z36:=Tryz.sizeOf383
 v36:=Tryz.zeroValue383
 t41:=Tryz.underlying131
 a41:=Tryz.isAgg131
 z41:=Tryz.sizeOf131
 v41:=Tryz.zeroValue131
 t44:=Tryz.underlying389
 a44:=Tryz.isAgg389
 z44:=Tryz.sizeOf389
 v44:=Tryz.zeroValue389
 t46:=Tryz.underlying391
 a46:=Tryz.isAgg391
 z46:=Tryz.sizeOf391
 v46:=Tryz.zeroValue391
 t53:=Tryz.underlying396
 a53:=Tryz.isAgg396
 z53:=Tryz.sizeOf396
 v53:=Tryz.zeroValue396
 t57:=Tryz.underlying361
 a57:=Tryz.isAgg361
 z57:=Tryz.sizeOf361
 v57:=Tryz.zeroValue361
 t63:=Tryz.underlying402
 a63:=Tryz.isAgg402
 z63:=Tryz.sizeOf402
 v63:=Tryz.zeroValue402
 t64:=Tryz.underlying63
 a64:=Tryz.isAgg63
 z64:=Tryz.sizeOf63
 v64:=Tryz.zeroValue63 }
def kL(m:Nat):AnyZI.SortsIn AA NE Fence.wide m :=
  ⟨λblk off cap ss W hH hblk hsz=>callsIn_wide.2 (AnyM.slices_Sort_int XB blk off cap ss W hH hblk hsz),
   λp cap W=>callsIn_wide.2 (AnyM.slices_Sort_int_none XB p cap W)⟩
end Go.Proofs
namespace Go.AI
open Go.RowKit Go.Maps Go.Sort Go.Shelf Go.Proofs
def dx{H : FR}{ob o : Nat}{es : List (AV × AV)}(h1 : H[ob]? = some (some [.mapr o]))(h2 : Ik H (.mapr o) = some es)(h3 : Vr es = true)(h4 : es.length <= 1073741824):
    FZ AA 259 [.fn (.func 310) [] [.ptr ob 0]] H λv H'=>v = .sl none ((Oo (MW es)).map (.int .i64))/\H'=H := by
  refine ⟨kr,λF G w us hc=>?_⟩
  have hlen := hc.l.len
  obtain ⟨u,rfl⟩ : ∃ u,us=[u] := by
    match us,hlen with
    | [u],_=>exact ⟨u,rfl⟩
  have hx := hc.l.rel 0 _ _ rfl rfl
  cases hx with
  | fn _ _ _ fi ca k1 k2 k3 k4 =>
  obtain rfl:fi=#[] := by
    have:fi.size=0 := k1.symm
    exact Array.eq_empty_of_size_eq_zero this
  obtain ⟨x,rfl⟩ : ∃ x,ca=#[x] := by
    have:ca.size=1 := k2.symm
    exact ⟨ca[0], by apply Array.ext; · simp [this]
                     · intro i hi1 hi2;simp at hi2;subst hi2;rfl⟩
  have hp := k4 0 _ x rfl rfl
  cases hp with
  | ptr _ _ B hB hCE =>
  obtain ⟨C,E,hC⟩ := hCE
  obtain ⟨_,C',E',hC',hle,hrow⟩ := (hc.h.obj ob _ B h1 hB).of_cells hC
  rw [hC] at hC'
  cases hC'
  have h0:C[0]? =some (C[0]'(by simp at hle;omega)) := Array.getElem?_eq_getElem _
  generalize C[0]'(by simp at hle;omega)=um at h0
  obtain ⟨_,hm,_⟩ := hrow 0 _ um rfl h0
  obtain ⟨b,D0,rfl,hown,hperm,hsz⟩ := ABU (P := AA) (k := L5.t 26) kr hc hm h2 h3 (by unfold maxLen;omega)
  have hcell:w.cell? ⟨B,0,none⟩=some (.map (some b)) := by simp [World.cell?,hC,h0]
  have hseq:SeqGives Fence.wide 2 AA 310 #[.pointer (some ⟨B,0,none⟩)] encZ (λss=>ss.Perm (intKeys D0)) (Maps.size D0) w :=
    AnyZI.keys_gives (ρ := L5) { pq with } Fence.wide _ trivial rfl FQ B b es.length D0 w (Ao.1 hC).1 hcell hown
  have cS := AnyZI.sorted_in bx Fence.wide 5 trivial trivial trivial trivial rfl FQ (kL _) (enters_of func309 kr rfl) 310 #[.pointer (some ⟨B,0,none⟩)] trivial (enters_of func310 kr rfl) _ _ (by rw [hsz];unfold maxLen;omega) (by rw [hsz];omega) _ hseq
  change CallsIn _ _ AA 259 _ _ _ at cS
  refine (callsIn_wide (n := 5)).1 (cS.mono ?_)
  rintro e w' ⟨v,ss,rfl,hS,hrow2,hnil,hbel⟩
  have hs:ss.mergeSort (λx y=>decide (x<=y))=Oo (MW es) := uL (hS.trans hperm)
  rw [hs] at hrow2
  have hl2:ss.length=(Oo (MW es)).length := by rw [(hS.trans hperm).length_eq,(On _).length_eq]
  rw [hl2] at hrow2
  obtain ⟨g,hg,hv⟩ := AB1 hrow2
  exact ⟨v,rfl,qL hc hbel hg ⟨rfl,rfl⟩ (hv G) (GK rfl _)⟩
def l6:Orc:=λf vs H=>bif CJ f 259 then
  match vs with
  | [.fn (.func s) [] [.ptr ob 0]]=>bif CJ s 310 then match H[ob]? with
   | some (some [.mapr o])=>match Ik H (.mapr o) with
    | some es=>bif Vr es&&Nat.ble es.length 1073741824 then some (.sl none ((Oo (MW es)).map (.int .i64)),H) else none
    | none=>none
   | _=>none
   else none
  | _=>none
 else none
def sW:r5 AA l6:=by
 intro f vs H v H' h
 unfold l6 at h
 cases hf:CJ f 259 with
 | false=>rw [hf] at h;cases h
 | true =>
  rw [hf] at h
  have:=DH hf
  subst this
  dsimp only [cond_true] at h
  split at h
  ·rename_i s ob
   cases hs:CJ s 310 with
   | false=>rw [hs] at h;cases h
   | true =>
    rw [hs] at h
    have:=DH hs
    subst this
    dsimp only [cond_true] at h
    split at h
    ·rename_i o h1
     split at h
     ·rename_i es h2
      cases h3:(Vr es&&Nat.ble es.length 1073741824) with
      | false=>rw [h3] at h;cases h
      | true =>
       rw [h3] at h
       cases h
       simp only [AQ] at h3
       exact dx h1 h2 h3.1 (Nat.le_of_ble_eq_true h3.2)
     ·cases h
    ·cases h
  ·cases h
end Go.AI
