/- The abstract walk as a program that computes: operations. -/
import Derived.Test.YtnbekihfchfioaaGreatDoorLi
import Derived.Test.YtnbekihfchfioaaGreatDoorProg
import Derived.KernelRfl
import Derived.Below
import Derived.Shelf.SlIterI.Nil
import Derived.Shelf.SortM.Plain
import Derived.Shelf.SortM.SortNone
import Derived.Ground.GgzProg
import Derived.Ground.SlgmProg
set_option linter.unusedSimpArgs false
set_option linter.unusedVariables false
open Go.Proofs.Tryz
open Array renaming getElem?_eq_none_iff->Df,getElem?_eq_some_iff->Ap,getElem?_toList->Ad
open Bool renaming and_eq_true->AR,or_eq_true->CJ
open List renaming all_eq_true->Ao,ext_getElem?->A4,getElem?_eq_getElem->AL,getElem?_eq_none->Ax,getElem?_eq_some_iff->AD,getElem?_map->Ac,getElem?_of_mem->Af,length_map->Aq,mem_cons->AZ,mem_singleton->Al,pairwise_cons->Bi,pairwise_map->EA,range->Am
open Nat renaming beq->CK,eq_of_beq_eq_true->DE
open Option renaming any->Cq,bind_eq_some_iff->CH
open Go.Proofs.Tryz renaming prog->AA
namespace Go.AI
open Go.MapKept
def ABd(op:BinOp)(a b:AV):Option AV :=
 match a,b with
 | .int k x,.int k' y =>
  match op with
  | .shl=>if 0<=y then some (.int k (k.wrap (x*2^(min y.toNat k.bits)))) else none
  | .shr=>if 0<=y then some (.int k (x.fdiv (2^(min y.toNat k.bits)))) else none
  | .add=>if k=k' then some (.int k (k.wrap (x+y))) else none
  | .sub=>if k=k' then some (.int k (k.wrap (x - y))) else none
  | .mul=>if k=k' then some (.int k (k.wrap (x*y))) else none
  | .quo=>if k=k'/\y≠0 then some (.int k (k.wrap (x.tdiv y))) else none
  | .rem=>if k=k'/\y≠0 then some (.int k (x.tmod y)) else none
  | .and=>if k=k' then some (.int k (k.wrap (BitVec.ofInt k.bits x &&& BitVec.ofInt k.bits y).toNat)) else none
  | .or=>if k=k' then some (.int k (k.wrap (BitVec.ofInt k.bits x ||| BitVec.ofInt k.bits y).toNat)) else none
  | .xor=>if k=k' then some (.int k (k.wrap (BitVec.ofInt k.bits x ^^^ BitVec.ofInt k.bits y).toNat)) else none
  | .andNot=>if k=k' then some (.int k (k.wrap (BitVec.ofInt k.bits x &&& ~~~ BitVec.ofInt k.bits y).toNat)) else none
  | .eql=>if k=k' then some (.bool (x==y)) else none
  | .neq=>if k=k' then some (.bool (x !=y)) else none
  | .lss=>if k=k' then some (.bool (decide (x<y))) else none
  | .leq=>if k=k' then some (.bool (decide (x<=y))) else none
  | .gtr=>if k=k' then some (.bool (decide (x>y))) else none
  | .geq=>if k=k' then some (.bool (decide (x≥y))) else none
 | .str x,.str y =>
  match op with
  | .add=>if x.size+y.size<=9223372036854775807 then some (.str (x++y)) else none
  | .eql=>some (.bool (x.data.toList==y.data.toList))
  | .neq=>some (.bool !(x.data.toList==y.data.toList))
  | .lss=>some (.bool (Op.bytesLess x.data.toList y.data.toList))
  | .leq=>some (.bool (Op.bytesLess x.data.toList y.data.toList||x.data.toList==y.data.toList))
  | .gtr=>some (.bool !(Op.bytesLess x.data.toList y.data.toList||x.data.toList==y.data.toList))
  | .geq=>some (.bool !(Op.bytesLess x.data.toList y.data.toList))
  | _=>none
 | _,_=>none
theorem JF{α:Type}{c:Prop}[Decidable c]{x:Option α}{v:α}(h:(if c then x else none)=some v):c/\x=some v:=by
 split at h
 ·rename_i hc;exact ⟨hc,h⟩
 ·cases h
theorem jP{op:BinOp}{a b v:AV}{R:AV->Prop}(h:ABd op a b=some v)(hr:R v):I8 op a b R:=by
 unfold ABd at h
 unfold I8
 split at h
 ·cases op<;>obtain ⟨h1,h2⟩:=JF h<;>cases h2<;>first|exact ⟨h1,hr⟩|exact ⟨h1.1,h1.2,hr⟩
 ·simp only [ByteArray.toList_eq]
  cases op<;>first|(cases h;done)|(obtain ⟨h1,h2⟩:=JF h;cases h2;exact ⟨h1,hr⟩)|(cases h;exact hr)
 ·cases h
def bN(P:Program)(op:BinOp)(t:TypeId)(a b:AV):Option AV :=
 match op,JE P t a b with
 | .eql,some r=>some (.bool r)
 | .neq,some r=>some (.bool !r)
 | _,_=>ABd op a b
theorem qE{P:Program}{op:BinOp}{t:TypeId}{a b v:AV}{R:AV->Prop}(h:bN P op t a b=some v)(hr:R v):I7 P op t a b R:=by
 unfold bN at h
 unfold I7
 generalize JE P t a b=q at h ⊢
 cases q with
 | none=>cases op<;>exact jP h hr
 | some r=>cases op<;>first|exact jP h hr|(cases h;exact hr)
def Zy(P:Program)(op:BinOp)(t:TypeId)(a:AV):Option AV :=
 match P.underlying t with
 | some (.slice _)=>match op,a with
  | .eql,.sl _ (_::_)=>some (.bool false)
  | .neq,.sl _ (_::_)=>some (.bool true)
  | .eql,.msl _ _ _ _=>some (.bool false)
  | .neq,.msl _ _ _ _=>some (.bool true)
  | _,_=>none
 | _=>none
theorem mF{P:Program}{op:BinOp}{t:TypeId}{a v:AV}{R:AV->Prop}(h:Zy P op t a=some v)(hr:R v):Mc P op t a R:=by
 unfold Zy at h
 unfold Mc
 split at h
 ·rename_i e he
  simp only [he]
  split at h<;>cases h<;>exact hr
 ·cases h
def bD(P:Program)(t:TypeId)(x:AV)(lo hi mx:Option Int):Option AV :=
 match P.underlying t,x with
 | some .string,.str s =>
  if mx=none/\0<=lo.getD 0/\lo.getD 0<=hi.getD s.size/\hi.getD s.size<=s.size then some (.str (s.extract (lo.getD 0).toNat (hi.getD s.size).toNat)) else none
 | some (.slice e),.sl own es =>
  if 0<=lo.getD 0/\lo.getD 0<=hi.getD es.length/\hi.getD es.length<=es.length/\es.all (λx=>x.cells.length==P.cellsOf e)=true/\(P.info? e).isSome=true then
   match mx with
   | none=>some (.sl (if hi.getD es.length=es.length then own else none) ((es.take (hi.getD es.length).toNat).drop (lo.getD 0).toNat))
   | some m=>if m=hi.getD es.length/\0<P.cellsOf e then some (.sl (some (P.cellsOf e)) ((es.take (hi.getD es.length).toNat).drop (lo.getD 0).toNat)) else none
  else none
 | some (.slice e),.msl ob off len sz =>
  if 0<=lo.getD 0/\lo.getD 0<=hi.getD len/\hi.getD len<=len/\sz=P.cellsOf e/\(P.info? e).isSome=true/\mx=none/\(lo.getD 0=0\/lo.getD 0<len) then
   some (.msl ob (off+(lo.getD 0).toNat*sz) ((hi.getD len).toNat - (lo.getD 0).toNat) sz) else none
 | some (.pointer ta),.cptr cs off=>if lo=none/\hi=none/\mx=none then
   match P.underlying ta with
   | some (.array n e)=>if P.cellsOf e=1/\off+n<=cs.length/\n<=9223372036854775807 then some (.sl none ((cs.drop off).take n)) else none
   | _=>none
  else none
 | some (.array n e),.cptr cs off=>if (lo=none/\hi=none/\mx=none)/\P.cellsOf e=1/\off+n<=cs.length/\n<=9223372036854775807 then some (.sl none ((cs.drop off).take n)) else none
 | _,_=>none
def WN(P:Program)(t:TypeId)(x:AV)(lo hi mx:Option Int)(H:DM):Option AV :=
 match P.underlying t,x with
 | some (.array n e),.ptr o off=>match H[o]? with
  | some (some cs)=>if (lo=none/\hi=none/\mx=none)/\n<=9223372036854775807/\(P.info? e).isSome=true/\off+n*P.cellsOf e<=cs.length then some (.msl o off n (P.cellsOf e)) else none
  | _=>none
 | some (.slice e),.sl _ _=>if (lo=none/\hi=some 0/\mx=some 0)/\(P.info? e).isSome=true then some (.sl (some 0) []) else none
 | _,_=>none
theorem jC{P:Program}{t:TypeId}{x v:AV}{lo hi mx:Option Int}{H:DM}{R:AV->Prop}(h:WN P t x lo hi mx H=some v)(hr:R v):I4 P t x lo hi mx H R:=by
 unfold WN at h
 unfold I4
 split at h
 ·rename_i hu
  split at h
  ·rename_i cs ho
   obtain ⟨h1,h2⟩:=JF h
   cases h2
   simp only [hu,ho]
   exact ⟨h1.1,h1.2.1,h1.2.2.1,h1.2.2.2,hr⟩
  ·cases h
 ·rename_i hu
  obtain ⟨h1,h2⟩:=JF h
  cases h2
  simp only [hu]
  exact ⟨h1.1,h1.2,hr⟩
 ·cases h
theorem r5{es:List AV}{k:Nat}(h:es.all (λx=>x.cells.length==k)=true): ∀ x∈es,x.cells.length=k:=λx hx=>by
 have:=Ao.1 h x hx
 simpa using this
theorem pq{P:Program}{t:TypeId}{x v:AV}{lo hi mx:Option Int}{R:AV->Prop}(h:bD P t x lo hi mx=some v)(hr:R v):Mz P t x lo hi mx R:=by
 unfold bD at h
 unfold Mz
 split at h
 ·rename_i hu
  simp only [hu]
  obtain ⟨h1,h2⟩:=JF h
  cases h2
  exact ⟨h1.1,h1.2.1,h1.2.2.1,h1.2.2.2,hr⟩
 ·rename_i hu
  simp only [hu]
  obtain ⟨⟨h1,h2,h3,h4,h5⟩,h⟩:=JF h
  refine ⟨h1,h2,h3,r5 h4,h5, ?_⟩
  split at h
  ·cases h;exact hr
  ·obtain ⟨h6,h⟩:=JF h
   cases h;exact ⟨h6.1,h6.2,hr⟩
 ·rename_i hu
  simp only [hu]
  obtain ⟨h1,h⟩:=JF h
  cases h
  exact ⟨h1,hr⟩
 ·rename_i hu
  simp only [hu]
  obtain ⟨⟨h1,h2,h3⟩,h⟩:=JF h
  refine ⟨h1,h2,h3, ?_⟩
  split at h
  ·rename_i ha
   simp only [ha]
   obtain ⟨⟨g1,g2,g3⟩,h⟩:=JF h
   cases h;exact ⟨g1,g2,g3,hr⟩
  ·cases h
 ·rename_i hu
  simp only [hu]
  obtain ⟨h1,h⟩:=JF h
  cases h
  exact ⟨h1.1,h1.2.1,h1.2.2.1,h1.2.2.2,hr⟩
 ·cases h
def yq:AV->Bool
 | .sl (some _) _=>false
 | _=>true
theorem yp{cs:List AV}(h:cs.all yq=true):cs.map borrow1=cs:=by
 induction cs with
 | nil=>rfl
 | cons c cs ih =>
  simp only [List.all_cons,AR] at h
  rw [List.map_cons,ih h.2]
  congr 1
  have h1:=h.1
  cases c<;>try rfl
  rename_i w es
  cases w
  ·rfl
  ·simp [yq] at h1
def WU(P:Program)(e:TypeId)(mt ln:Bool)(H:DM)(a:AV)(xs:List AV):Option (AV×DM) :=
 if xs.all (λx=>x.cells.length==P.cellsOf e)=true then
  match mt,a with
  | false,.sl own es=>if own=some (P.cellsOf e)/\(es.length+xs.length)*P.bytesOf e<=140737488355328/\es.length+xs.length<=9223372036854775807 then some (.sl (bif ln then none else some (P.cellsOf e)) (es++xs),H) else none
  | true,.msl ob off len sz=>match H[ob]? with
   | some (some cs)=>if off=0/\cs.length=len*sz/\cs.all yq=true/\sz=P.cellsOf e/\(len+xs.length)*P.bytesOf e<=140737488355328/\len+xs.length<=9223372036854775807 then
     some (.msl H.length 0 (len+xs.length) (P.cellsOf e),H.set ob none++[some (cs++(F4 xs).map borrow1)]) else none
   | _=>none
  | true,.sl (some 0) []=>if 0<xs.length/\xs.length*P.bytesOf e<=140737488355328/\xs.length<=9223372036854775807 then some (.msl H.length 0 xs.length (P.cellsOf e),H++[some ((F4 xs).map borrow1)]) else none
  | _,_=>none
 else none
theorem jQ{P:Program}{e:TypeId}{mt ln:Bool}{H:DM}{a:AV}{xs:List AV}{v:AV}{H':DM}{R:AV->DM->Prop}(h:WU P e mt ln H a xs=some (v,H'))(hr:R v H'):M1 P e mt ln H a xs R:=by
 unfold WU at h
 unfold M1
 obtain ⟨h0,h⟩:=JF h
 refine ⟨r5 h0, ?_⟩
 split at h
 ·obtain ⟨⟨h1,h2,h3⟩,h⟩:=JF h
  cases h
  exact ⟨h1,h2,h3,hr⟩
 ·split at h
  ·rename_i hob
   obtain ⟨⟨h1,h2,h3,h4,h5,h6⟩,h⟩:=JF h
   cases h
   refine ⟨h1,h4,h5,h6, ?_⟩
   simp only [hob]
   exact ⟨h2,yp h3,hr⟩
  ·cases h
 ·obtain ⟨⟨h1,h2,h3⟩,h⟩:=JF h
  cases h
  exact ⟨h1,h2,h3,hr⟩
 ·cases h
def zK(k:IntKind):AV->Bool
 | .int k' _=>decide (k'=k)
 | _=>false
def AGW:AV->Bool
 | .str _=>true
 | _=>false
def rH(P:Program)(wk:List TypeId)(kt:TypeId)(ks:List AV):Bool :=
 match P.underlying kt with
 | some (.int k)=>ks.all (zK k)
 | some .string=>ks.all AGW
 | some _=>wk.contains kt&&ks.all λa=>match SB a with
  | some v=>(keyOf P kt v).isSome
  | none=>false
 | none=>false
def bP(P:Program)(wk:List TypeId):Prop:=∀ kt∈wk,WideMaps.KeyLaw P kt
theorem fg{P:Program}{wk:List TypeId}{kt:TypeId}{ks:List AV}(hw:bP P wk)(h:rH P wk kt ks=true):LY P kt ks:=by
 unfold rH at h
 split at h
 ·rename_i k hk
  refine ⟨_,KLaw.plain hk,λa ha=>?_⟩
  have:=Ao.1 h a ha
  cases a<;>first|cases this|skip
  rename_i k' n
  exact ⟨_,rfl,(by simpa [zK] using this:k'=k)⟩
 ·rename_i hk
  refine ⟨_,KLaw.plain hk,λa ha=>?_⟩
  have:=Ao.1 h a ha
  cases a<;>first|cases this|skip
  exact ⟨_,rfl,trivial⟩
 ·simp only [AR] at h
  refine ⟨_,KLaw.wide (hw kt (by simpa using h.1)),λa ha=>?_⟩
  have:=Ao.1 h.2 a ha
  split at this
  ·rename_i v hv
   exact ⟨v,hv,Option.isSome_iff_exists.1 this⟩
  ·cases this
 ·cases h
def Y7(es:List (AV×AV)):Bool:=match es with
 | []=>true
 | p::es=>es.all (λq => !GU p.1 q.1)&&Y7 es
theorem V4{es:List (AV×AV)}(h:Y7 es=true):Q5 es:=by
 induction es with
 | nil=>exact List.Pairwise.nil
 | cons p es ih =>
  simp only [Y7,AR] at h
  exact List.Pairwise.cons (λq hq=>by simpa using Ao.1 h.1 q hq) (ih h.2)
def bH(P:Program)(t:TypeId)(H:DM)(x:AV):Option (AV×DM) :=
 match P.underlying t,x with
 | some .string,.str s=>some (.it H.length,H++[some (Vg s 0)])
 | some (.map _ _),.nilm=>some (.it H.length,H++[some [.nilm]])
 | some (.map _ _),.mapr o'=>match HV H (.mapr o') with
  | some es=>some (.it H.length,H++[some (TA o' es.length [])])
  | none=>none
 | _,_=>none
theorem pt{P:Program}{t:TypeId}{H:DM}{x v:AV}{H':DM}{R:AV->DM->Prop}(h:bH P t H x=some (v,H'))(hr:R v H'):P4 P t H x R:=by
 unfold bH at h
 unfold P4
 split at h
 ·rename_i hu;simp only [hu];cases h;exact hr
 ·rename_i hu;simp only [hu];cases h;exact hr
 ·rename_i hu
  simp only [hu]
  split at h
  ·rename_i es he
   simp only [he];cases h;exact hr
  ·cases h
 ·cases h
def Ri(n:Nat)(seen:List AV):List Nat:=(Am n).filter λi => !(Rk seen).contains (i:Int)
def p8(str:Bool)(H:DM)(o':Nat):Option (AV×DM) :=
 match str,H[o']? with
 | true,some (some [.str s,.int .i64 pos]) =>
  if pos.toNat<s.size then some (.tup [.bool true,.int .i64 pos.toNat,.int .i32 (Utf8.decode s pos.toNat).1],H.set o' (some (Vg s ((pos.toNat+(Utf8.decode s pos.toNat).2:Nat):Int))))
  else some (.tup [.bool false],H)
 | false,some (some [.nilm])=>some (.tup [.bool false],H)
 | false,some (some [.mapr m,.int .i64 since,.tup seen])=>match HV H (.mapr m) with
  | some es=>if since=es.length then match Ri es.length seen with
   | []=>some (.tup [.bool false],H)
   | [i]=>match es[i]? with
    | some p=>some (.tup [.bool true,p.1.borrow,p.2.borrow],H.set o' (some [.mapr m,.int .i64 since,.tup (seen++[.int .i64 i])]))
    | none=>none
   | _=>none
   else none
  | none=>none
 | _,_=>none
theorem Ph{n:Nat}{seen:List AV}{i:Nat}:i∈Ri n seen↔i<n/\(i:Int)∉Rk seen:=by
 simp [Ri,List.mem_filter]
theorem wB{str:Bool}{H:DM}{o':Nat}{v:AV}{H':DM}{R:AV->DM->Prop}(h:p8 str H o'=some (v,H'))(hr:R v H'):WP str H o' R:=by
 unfold p8 at h
 unfold WP
 split at h
 ·rename_i ho
  simp only [ho]
  split at h
  ·rename_i hc;rw [if_pos hc];cases h;exact hr
  ·rename_i hc;rw [if_neg hc];cases h;exact hr
 ·rename_i ho;simp only [ho];cases h;exact hr
 ·rename_i m since seen ho
  simp only [ho]
  split at h
  ·rename_i es he
   simp only [he]
   obtain ⟨hs,h⟩:=JF h
   refine ⟨hs, ?_⟩
   split at h
   ·rename_i hun
    cases h
    refine ⟨λ_=>hr,λi p hp hns=>?_⟩
    have:i∈Ri es.length seen:=Ph.2 ⟨(AD.1 hp).1,hns⟩
    rw [hun] at this;cases this
   ·rename_i i hun
    have hi:i∈Ri es.length seen:=by rw [hun];exact Al.2 rfl
    obtain ⟨hi1,hi2⟩:=Ph.1 hi
    split at h
    ·rename_i p hp
     cases h
     refine ⟨λhall=>absurd (hall i hi1) hi2,λj q hq hns=>?_⟩
     have:j∈Ri es.length seen:=Ph.2 ⟨(AD.1 hq).1,hns⟩
     rw [hun] at this
     obtain rfl:=Al.1 this
     rw [hp] at hq;cases hq
     exact hr
    ·cases h
   ·cases h
  ·cases h
 ·cases h
def bL(H:DM)(o':Nat):Option (AV×DM) :=
 match H[o']? with
 | some (some [.mapr m,.int .i64 since,.tup seen])=>match HV H (.mapr m),seen.getLast? with
  | some es,some (.int .i64 i)=>if since=es.length then match es[i.toNat]? with
   | some p=>some (.tup [p.1.borrow,p.2.borrow],H)
   | none=>none
   else none
  | _,_=>none
 | _=>none
theorem qB{H:DM}{o':Nat}{v:AV}{H':DM}{R:AV->DM->Prop}(h:bL H o'=some (v,H'))(hr:R v H'):Sd H o' R:=by
 unfold bL at h
 unfold Sd
 split at h
 ·rename_i m since seen ho
  simp only [ho]
  split at h
  ·rename_i es i he hl
   simp only [he,hl]
   obtain ⟨hs,h⟩:=JF h
   refine ⟨hs, ?_⟩
   split at h
   ·rename_i p hp
    cases h
    exact ⟨p,hp,hr⟩
   ·cases h
  ·cases h
 ·cases h
def ry(P:Program)(wk:List TypeId)(h:Hint)(o:Oper)(vals:List AV)(H:DM):Option (AV×DM) :=
 match o.op,vals with
 | .move _,[a]=>some (a,H)
 | .assign _,[a]=>some (a,H)
 | .pick _ _ _,[.bool c,a,b]=>some (if c=true then a else b,H)
 | .box _ _,[a]=>if a.isVal=true then some (.ptr H.length 0,H++[some a.cells]) else none
 | .alloc e,[]=>match o.dst.any h.mt.contains,EW P e with
  | false,some z=>some (.ptr H.length 0,H++[some z.cells])
  | _,_=>none
 | .build t ps,vs=>(Rh P t (ps.toList.map (·.1)) vs).map λv=>(v,H)
 | .buildSlice t len ps,vs =>
  match P.underlying t with
  | some (.slice e)=>if 0<P.cellsOf e/\len*P.cellsOf e<=16777216/\ps.toList.map (·.1)=Am len/\vs.all (λv=>v.isVal&&v.cells.length==P.cellsOf e)=true/\FS P e=true then
    match o.dst.any h.mt.contains with
    | true=>some (.msl H.length 0 len (P.cellsOf e),H++[some (F4 (vs.map AV.borrow))])
    | false=>some (.sl (some (P.cellsOf e)) (vs.map AV.borrow),H)
   else none
  | _=>none
 | .makeSlice t _ _,[.int _ n,.int _ c] =>
  match P.underlying t with
  | some (.slice e)=>if n=c/\0<=n/\n*P.bytesOf e<=140737488355328/\n<=9223372036854775807/\(P.info? e).isSome=true then
    match EW P e with
    | some z=>if z.cells.length=P.cellsOf e/\0<P.cellsOf e then some (.msl H.length 0 n.toNat (P.cellsOf e),H++[some (List.replicate n.toNat z.cells).flatten]) else none
    | none=>none
   else none
  | _=>none
 | .load t _,[a]=>YQ P (o.dst.any h.tk.contains) t a H
 | .store t _ _,[a,v]=>(Uc P t a v H).map λH'=>(.undef,H')
 | .nilCheck _,[a]=>(wx a).map λv=>(v,H)
 | .binOp op t _ y _,[a,b]=>match Jp y with
  | true=>(Zy P op t a).map λv=>(v,H)
  | false=>(bN P op t a b).map λv=>(v,H)
 | .unOp op _ _,[a]=>(vUn op a).map λv=>(v,H)
 | .convert src dst _,[a] =>
  match P.underlying src,P.underlying dst,a with
  | some _,some (.int k),.int _ n=>some (.int k (k.wrap n),H)
  | some .string,some .string,.str s=>some (.str s,H)
  | some (.slice e),some .string,.sl _ es=>if (match P.underlying e with|some (.int .u8)=>true|_=>false)=true/\es.all Ns=true then some (.str (Oq es),H) else none
  | _,_,_=>none
 | .makeFunc fn first _,vs=>some (.fn fn (vs.take first.size) (vs.drop first.size),H)
 | .slice t _ lo hi mx,x::rest =>
  match Ot lo.isSome hi.isSome mx.isSome rest with
  | some (l,hh,m)=>match o.dst.any h.mt.contains with
   | true=>(WN P t x l hh m H).map λv=>(v,H)
   | false=>(bD P t x l hh m).map λv=>(v,H)
  | none=>none
 | .fieldAddr s _ f,[x]=>(Rg P (fieldAt P s f) x).map λv=>(v,H)
 | .field t _ f,[x]=>(YP P (fieldAt P t f) x).map λv=>(v,H)
 | .extract _ i,[x]=>(NU x i).map λv=>(v,H)
 | .indexAddr t _ _,[x,i]=>(Km P (P.underlying t) x i).map λv=>(v,H)
 | .index t _ _,[x,i]=>(Ud P (P.underlying t) x i).map λv=>(v,H)
 | .makeMap _ none,[]=>some (.mapr H.length,H++[some (It [])])
 | .range t _,[x]=>bH P t H x
 | .next _ str,[.it o']=>p8 str H o'
 | .entry _,[.it o']=>bL H o'
 | .lookup t _ _ ok,[m,k] =>
  match P.underlying t with
  | some (.map kt et)=>match HV H m with
   | some es=>if rH P wk kt (k::es.map (·.1))=true/\Y7 es=true then
     match EW P et with
     | some z=>some (e7 ok z (Hx k es 0),H)
     | none=>none
    else none
   | none=>none
  | _=>none
 | .mapUpdate t _ _ _,[.mapr o',k,v] =>
  match P.underlying t with
  | some (.map kt _)=>match HV H (.mapr o') with
   | some es=>if rH P wk kt (k::es.map (·.1))=true/\Y7 es=true/\v.isVal=true then some (.undef,H.set o' (some (It (LW es k v)))) else none
   | none=>none
  | _=>none
 | .call c,vs =>
  match c.callee with
  | .builtin .len=>match vs with
   | [x]=>(wy (c.argTypes[0]?.bind P.underlying) x).map λv=>(v,H)
   | _=>none
  | .builtin .append=>match vs,c.argTypes.toList with
   | [a,b],[t,t']=>if t=t' then match P.underlying t with
    | some (.slice e)=>if 0<P.cellsOf e/\FS P e=true then match Sa P e (o.dst.any h.mt.contains||o.dst.any h.tk.contains) H b with
     | some xs=>WU P e (o.dst.any h.mt.contains) (o.dst.any h.pc.contains) H a xs
     | none=>none
     else none
    | _=>none
    else none
   | _,_=>none
  | .builtin .min=>match vs with
   | [.int k a,.int k' b]=>if k=k' then some (.int k (if b<a then b else a),H) else none
   | _=>none
  | .builtin .max=>match vs with
   | [.int k a,.int k' b]=>if k=k' then some (.int k (if b>a then b else a),H) else none
   | _=>none
  | .builtin .clear=>match vs,c.argTypes.toList with
   | [.msl ob off len sz],[t]=>match P.underlying t with
    | some (.slice e)=>match H[ob]?,EW P e with
     | some (some cs),some z=>if sz=z.cells.length/\0<len/\off+len*sz<=cs.length then some (.tup [],H.set ob (some (splice cs off (FJ z len)))) else none
     | _,_=>none
    | _=>none
   | _,_=>none
  | _=>none
 | _,_=>none
theorem Lv{α β:Type}{x:Option α}{f:α->β}{y:β}(h:x.map f=some y): ∃ a,x=some a/\f a=y:=by
 cases x with
 | none=>cases h
 | some a=>exact ⟨a,rfl,by simpa using h⟩
set_option maxHeartbeats 1000000 in
theorem ABM{P:Program}{wk:List TypeId}(hw:bP P wk){h:Hint}{o:Oper}{vals:List AV}{H:DM}{v:AV}{H':DM}{R:AV->DM->Prop}(hx:ry P wk h o vals H=some (v,H'))(hr:R v H'):ER P h o vals H R:=by
 unfold ry at hx
 split at hx<;>rename_i heq
 ·cases hx;simp only [ER,heq];exact hr
 ·cases hx;simp only [ER,heq];exact hr
 ·cases hx;simp only [ER,heq];exact hr
 ·obtain ⟨h1,h2⟩:=JF hx
  cases h2;simp only [ER,heq];exact ⟨h1,hr⟩
 ·split at hx
  ·rename_i z hm hz
   cases hx;simp only [ER,heq,hm];exact ⟨z,hz,hr⟩
  ·cases hx
 ·obtain ⟨a,h1,h2⟩:=Lv hx
  cases h2
  unfold Rh at h1
  simp only [ER,heq]
  split at h1
  ·rename_i fs hu
   simp only [hu]
   obtain ⟨g1,h1⟩:=JF h1
   split at h1
   ·rename_i z hz
    obtain ⟨cs,g2,rfl⟩:=Lv h1
    exact ⟨z,cs,g1,hz,g2,hr⟩
   ·cases h1
  ·rename_i n e hu
   simp only [hu]
   obtain ⟨g1,h1⟩:=JF h1
   split at h1
   ·rename_i z hz
    obtain ⟨cs,g2,rfl⟩:=Lv h1
    exact ⟨z,cs,g1,hz,g2,hr⟩
   ·cases h1
  ·cases h1
 ·split at hx
  ·rename_i e hu
   obtain ⟨⟨g1,g2,g3,g4,g5⟩,hx⟩:=JF hx
   simp only [ER,heq,hu]
   refine ⟨g1,g2,g3,λx hx'=>?_,g5, ?_⟩
   ·have:=Ao.1 g4 x hx'
    simpa using this
   ·split at hx
    ·rename_i hm
     cases hx;simp only [hm];exact hr
    ·rename_i hm
     cases hx;simp only [hm];exact hr
  ·cases hx
 ·split at hx
  ·rename_i e hu
   obtain ⟨⟨g1,g2,g3,g4,g5⟩,hx⟩:=JF hx
   split at hx
   ·rename_i z hz
    obtain ⟨⟨g6,g7⟩,hx⟩:=JF hx
    cases hx
    simp only [ER,heq,hu]
    exact ⟨g1,g2,g3,g4,g5,z,hz,g6,g7,hr⟩
   ·cases hx
  ·cases hx
 · -- load
  unfold YQ at hx
  split at hx
  ·split at hx
   ·rename_i cs hob
    split at hx
    ·rename_i x hl
     split at hx
     ·rename_i htk
      obtain ⟨⟨g1,g2⟩,hx⟩:=JF hx
      cases hx
      simp only [ER,heq,hob,hl,htk]
      exact ⟨g1,g2,hr⟩
     ·rename_i htk
      cases hx
      simp only [ER,heq,hob,hl,htk]
      exact hr
    ·cases hx
   ·cases hx
  ·split at hx
   ·rename_i x hl
    cases hx
    simp only [ER,heq,hl]
    exact hr
   ·cases hx
  ·cases hx
 · -- store
  obtain ⟨a,h1,h2⟩:=Lv hx
  cases h2
  unfold Uc at h1
  split at h1
  ·split at h1
   ·rename_i cs hob
    obtain ⟨⟨g1,g2,g3,g4⟩,h1⟩:=JF h1
    cases h1
    simp only [ER,heq,hob]
    exact ⟨g1,g2,g3,g4,hr⟩
   ·cases h1
  ·cases h1
 ·obtain ⟨a,h1,h2⟩:=Lv hx
  cases h2
  unfold wx at h1
  split at h1<;>cases h1<;>(simp only [ER,heq];exact hr)
 ·split at hx
  ·rename_i hn
   obtain ⟨a,h1,h2⟩:=Lv hx
   cases h2
   simp only [ER,heq,hn]
   exact mF h1 hr
  ·rename_i hn
   obtain ⟨a,h1,h2⟩:=Lv hx
   cases h2
   simp only [ER,heq,hn]
   exact qE h1 hr
 ·obtain ⟨a,h1,h2⟩:=Lv hx
  cases h2
  unfold vUn at h1
  split at h1<;>cases h1<;>(simp only [ER,heq];exact hr)
 ·split at hx
  ·rename_i g1 g2
   cases hx
   simp only [ER,heq,g1,g2];exact hr
  ·rename_i g1 g2
   cases hx
   simp only [ER,heq,g1,g2];exact hr
  ·rename_i g1 g2
   obtain ⟨⟨g3,g4⟩,hx⟩:=JF hx
   cases hx
   simp only [ER,heq,g1,g2]
   refine ⟨?_,λx hx'=>Ao.1 g4 x hx',hr⟩
   split at g3
   ·assumption
   ·cases g3
  ·cases hx
 ·cases hx;simp only [ER,heq];exact hr
 ·split at hx
  ·rename_i hb
   split at hx
   ·rename_i hm
    obtain ⟨a,h1,h2⟩:=Lv hx
    cases h2
    simp only [ER,heq,hb,hm]
    exact jC h1 hr
   ·rename_i hm
    obtain ⟨a,h1,h2⟩:=Lv hx
    cases h2
    simp only [ER,heq,hb,hm]
    exact pq h1 hr
  ·cases hx
 ·obtain ⟨a,h1,h2⟩:=Lv hx
  cases h2
  unfold Rg fieldAt at h1
  simp only [ER,heq]
  split at h1
  ·rename_i fd hfd
   split at hfd
   ·rename_i fs hu
    simp only [hu,hfd]
    obtain ⟨g1,h1⟩:=JF h1
    refine ⟨g1, ?_⟩
    unfold sP at h1
    split at h1<;>cases h1<;>exact hr
   ·cases hfd
  ·cases h1
 ·obtain ⟨a,h1,h2⟩:=Lv hx
  cases h2
  unfold YP fieldAt at h1
  split at h1
  ·rename_i fd cs hfd
   split at hfd
   ·rename_i fs hu
    simp only [ER,heq,hu,hfd,h1]
    exact hr
   ·cases hfd
  ·cases h1
 ·obtain ⟨a,h1,h2⟩:=Lv hx
  cases h2
  unfold NU at h1
  split at h1
  ·simp only [ER,heq]
   exact ⟨_,h1,hr⟩
  ·cases h1
 ·obtain ⟨a,h1,h2⟩:=Lv hx
  cases h2
  unfold Km at h1
  split at h1
  ·split at h1
   ·rename_i e own es hu
    obtain ⟨g1,h1⟩:=JF h1
    simp only [ER,heq,hu]
    obtain ⟨x,g2,h1⟩:=CH.1 h1
    obtain ⟨⟨g3,g4⟩,h1⟩:=JF h1
    cases h1
    exact ⟨g1,x,g2,g3,g4,hr⟩
   ·rename_i hu
    obtain ⟨⟨g1,g2,g3,g4⟩,h1⟩:=JF h1
    cases h1
    simp only [ER,heq,hu]
    exact ⟨g1,g2,g3,g4,hr⟩
   ·rename_i hu
    obtain ⟨⟨g1,g2,g3⟩,h1⟩:=JF h1
    cases h1
    simp only [ER,heq,hu]
    exact ⟨g1,g2,g3,hr⟩
   ·rename_i hu
    obtain ⟨⟨g1,g2,g3⟩,h1⟩:=JF h1
    cases h1
    simp only [ER,heq,hu]
    exact ⟨g1,g2,g3,hr⟩
   ·cases h1
  ·cases h1
 ·obtain ⟨a,h1,h2⟩:=Lv hx
  cases h2
  unfold Ud at h1
  split at h1
  ·split at h1
   ·rename_i hu
    obtain ⟨⟨g1,g2⟩,h1⟩:=JF h1
    cases h1
    simp only [ER,heq,hu]
    exact ⟨g1,g2,hr⟩
   ·rename_i hu
    obtain ⟨⟨g1,g2,g3⟩,h1⟩:=JF h1
    simp only [ER,heq,hu]
    exact ⟨g1,g2,g3,_,h1,hr⟩
   ·cases h1
  ·cases h1
 ·cases hx;simp only [ER,heq];exact hr
 ·simp only [ER,heq];exact pt hx hr
 ·simp only [ER,heq];exact wB hx hr
 ·simp only [ER,heq];exact qB hx hr
 ·split at hx
  ·rename_i hu
   split at hx
   ·rename_i es he
    obtain ⟨⟨g1,g2⟩,hx⟩:=JF hx
    split at hx
    ·rename_i z hz
     cases hx
     simp only [ER,heq,hu,he]
     exact ⟨fg hw g1,V4 g2,z,hz,hr⟩
    ·cases hx
   ·cases hx
  ·cases hx
 ·split at hx
  ·rename_i hu
   split at hx
   ·rename_i es he
    obtain ⟨⟨g1,g2,g3⟩,hx⟩:=JF hx
    cases hx
    simp only [ER,heq,hu,he]
    exact ⟨fg hw g1,V4 g2,g3,hr⟩
   ·cases hx
  ·cases hx
 ·rename_i c
  split at hx
  ·rename_i hcal
   split at hx
   ·obtain ⟨a,h1,h2⟩:=Lv hx
    cases h2
    unfold wy at h1
    split at h1<;>cases h1<;>(rename_i hu;simp only [ER,heq,hcal,hu];exact hr)
   ·cases hx
  ·rename_i hcal
   split at hx
   ·rename_i hat
    obtain ⟨g0,hx⟩:=JF hx
    split at hx
    ·rename_i e hu
     obtain ⟨⟨g1,g2⟩,hx⟩:=JF hx
     split at hx
     ·rename_i xs hs
      simp only [ER,heq,hcal,hat,if_pos g0,hu,hs]
      exact ⟨g1,g2,jQ hx hr⟩
     ·cases hx
    ·cases hx
   ·cases hx
  ·rename_i hcal
   split at hx
   ·obtain ⟨g1,hx⟩:=JF hx
    cases hx
    simp only [ER,heq,hcal]
    exact ⟨g1,hr⟩
   ·cases hx
  ·rename_i hcal
   split at hx
   ·obtain ⟨g1,hx⟩:=JF hx
    cases hx
    simp only [ER,heq,hcal]
    exact ⟨g1,hr⟩
   ·cases hx
  ·rename_i hcal
   split at hx
   ·rename_i hat
    split at hx
    ·rename_i e hu
     split at hx
     ·rename_i cs z ho hz
      obtain ⟨⟨g1,g2,g3⟩,hx⟩:=JF hx
      cases hx
      simp only [ER,heq,hcal,hat,hu,ho]
      exact ⟨z,hz,g1,g2,g3,hr⟩
     ·cases hx
    ·cases hx
   ·cases hx
  ·cases hx
 ·cases hx
end Go.AI
namespace Go.AI
inductive Task where
 | call (f:FuncId) (vs:List AV) (H:DM)
 | yld (o:Nat) (L:LoopRec) (ys:List AV) (H:DM)
 | code (hf:FuncId) (n:Nat) (ar:Option Nat) (c:Code) (e:Ee) (H:DM)
 | ops (hf:FuncId) (n:Nat) (os:Array Oper) (l:List Oper) (e:Ee) (H:DM)
inductive ROut where
 | val (v:AV) (H:DM)
 | st (ex:Exit) (e:Ee) (H:DM)
structure EvT where
 tb:FuncId->Option Func
 hs:FuncId->Hint
 wk:List TypeId
 orc:FuncId->List AV->DM->Option (AV×DM)
def Me(H:DM)(o:Nat):Option (Int×List AV) :=
 match H[o]? with
 | some (some [.tup [.int .i64 st],.tup av])=>some (st,av)
 | _=>none
theorem OY{H:DM}{o:Nat}{st:Int}{av:List AV}(h:Me H o=some (st,av)):H[o]? =some (some (Fl st av)):=by
 unfold Me at h
 split at h
 ·rename_i hh;cases h;exact hh
 ·cases h
def dR(P:Program)(n:Nat):List ResultVar->Ee->DM->Option (List AV×DM)
 | [],_,H=>some ([],H)
 | .tmp t::rs,e,H=>if t<n then (dR P n rs (MC P none true (.tmp t) e).2 H).map λr=>((MC P none true (.tmp t) e).1::r.1,r.2) else none
 | .cell t ty::rs,e,H=>if t<n then match qk P ty (Ec e t) H with
   | some (v,H')=>(dR P n rs e H').map λr=>(v::r.1,r.2)
   | none=>none
  else none
def xb:List AV->Option AV
 | [v]=>some v
 | vs=>if vs.all AV.isVal=true then some (.tup vs) else none
def bF(ar:Option Nat)(H:DM):Bool :=
 match ar with
 | none=>true
 | some o=>match H[o]? with
  | some (some _)=>true
  | _=>false
def AQn(n:Nat):Option Tmp->Bool
 | some d=>decide (d<n)
 | none=>true
def Ui(P:Program)(T:EvT)(ih:Task->Option ROut)(f:FuncId)(vs:List AV)(H:DM):Option ROut :=
 match T.orc f vs H with
 | some (v,H')=>some (.val v H')
 | none=>match T.tb f with
  | some fn=>match fn.body with
   | some c=>if vs.length<=fn.ntmps then
     match ih (.code f fn.ntmps none c (E9 0 vs) H) with
     | some (.st .normal e H')=>(dR P fn.ntmps fn.results.toList e H').bind λr=>(xb r.1).map λv => .val v r.2
     | some (.st .ret e H')=>(dR P fn.ntmps fn.results.toList e H').bind λr=>(xb r.1).map λv => .val v r.2
     | _=>none
    else none
   | none=>none
  | none=>none
def ZY(T:EvT)(ih:Task->Option ROut)(o:Nat)(L:LoopRec)(ys:List AV)(H:DM):Option ROut :=
 match T.tb L.tag,Me H o with
 | some fn,some (st,av) =>
  if st=0/\av.length=fn.ntmps/\L.ps.toList.length=ys.length/\L.ps.toList.all (λp=>decide (p<fn.ntmps))=true/\FX (T.hs L.tag) L.assign=true/\FX (T.hs L.tag) L.body=true then
   match ih (.code L.tag fn.ntmps (some o) L.assign (Jy av L.ps.toList ys (E9 0 av)) H) with
   | some (.st .normal e2 H2)=>match Me H2 o with
    | some (st2,av2)=>if st2=0 then
      match ih (.code L.tag fn.ntmps (some o) L.body e2 (H2.set o (some (Fl (-1) av2)))) with
      | some (.st ex _ H3)=>match Me H3 o with
       | some (st3,av3)=>if st3 = -1 then match ex with
         | .normal=>some (.val (.bool true) (H3.set o (some (Fl 0 av3))))
         | .ret=>some (.val (.bool false) (H3.set o (some (Fl (-2) av3))))
         | .exit k=>some (.val (.bool false) (H3.set o (some (Fl ((k:Int)+1) av3))))
         | _=>none
        else none
       | none=>none
      | _=>none
     else none
    | none=>none
   | _=>none
  else none
 | _,_=>none
def pv(P:Program)(h:Hint)(o o':Oper)(e:Ee):Bool :=
 match I6 P h o,I6 P h o' with
 | some (a,k,s),some (b,l,s')=>(s||s')&&match Ec e a,Ec e b with
  | .ptr o1 f1,.ptr o2 f2 => !(o1==o2)||(decide (f1+k<=f2)||decide (f2+l<=f1))
  | _,_=>false
 | _,_=>false
def AYu(P:Program)(h:Hint)(ops:Array Oper)(e:Ee):Bool:=(Q3 h ops).all λp=>pv P h p.1 p.2 e
def Jx(P:Program)(T:EvT)(ih:Task->Option ROut)(hf:FuncId)(n:Nat)(ar:Option Nat)(c:Code)(e:Ee)(H:DM):Option ROut :=
 match c with
 | .skip=>some (.st .normal e H)
 | .ret=>some (.st .ret e H)
 | .exit id=>some (.st (.exit id) e H)
 | .region id ops _=>match ih (.ops hf n ops ((T.hs hf).ord id ops) e H) with
  | some (.st .normal e1 H1) =>
   if (!((T.hs hf).da id)||AYu P (T.hs hf) ops e1)=true then
    match Ja ((T.hs hf).at id) (GH ((T.hs hf).lv id) e1) H1 with
    | (e2,H2)=>some (.st .normal e2 (To ((T.hs hf).ct id) e2 H2))
   else none
  | _=>none
 | .seq a b=>match ih (.code hf n ar a e H) with
  | some (.st .normal e1 H1)=>ih (.code hf n ar b e1 H1)
  | r=>r
 | .cond c a b=>match Fj P none e c with
  | .bool t=>if t=true then ih (.code hf n ar a e H) else ih (.code hf n ar b e H)
  | _=>none
 | .block id c=>match ih (.code hf n ar c e H) with
  | some (.st (.exit j) e1 H1)=>if j=id then some (.st .normal e1 H1) else some (.st (.exit j) e1 H1)
  | r=>r
 | .loop c=>match ih (.code hf n ar c e H) with
  | some (.st .normal e1 H1)=>ih (.code hf n ar (.loop c) e1 H1)
  | r=>r
 | .rangeFunc g ps assign body=>match Fj P none e g with
  | .fn (.func f) first captured=>if bF ar H=true then
    match ih (.call f (first.map AV.borrow++[.yld H.length ⟨hf,ps,assign,body⟩]++captured.map AV.borrow) (H++[some (Fl 0 (GK n e))])) with
    | some (.val _ H2)=>match Me H2 H.length with
     | some (st,_)=>if st=0 then some (.st .normal e (H2.set H.length none)) else if st = -2 then some (.st .ret e (H2.set H.length none)) else
       if 0<st then some (.st (.exit (st - 1).toNat) e (H2.set H.length none)) else none
     | none=>none
    | _=>none
   else none
  | _=>none
 | _=>none
mutual
def HB:AV->AV->Bool
 | .int k n,b=>match b with | .int k' n'=>decide (k=k')&&n==n'|_=>false
 | .bool x,b=>match b with | .bool y=>x==y|_=>false
 | .str s,b=>match b with | .str t=>s.data.toList==t.data.toList|_=>false
 | .nilp,b=>match b with | .nilp=>true|_=>false
 | .ptr o x,b=>match b with | .ptr o' x'=>o==o'&&x==x'|_=>false
 | .cptr cs x,b=>match b with | .cptr cs' x'=>NX cs cs'&&x==x'|_=>false
 | .sl w es,b=>match b with | .sl w' es'=>w==w'&&NX es es'|_=>false
 | .msl o x l z,b=>match b with | .msl o' x' l' z'=>o==o'&&(x==x'&&(l==l'&&z==z'))|_=>false
 | .fn (.func f) x y,b=>match b with | .fn (.func f') x' y'=>f==f'&&(NX x x'&&NX y y')|_=>false
 | .nilf,b=>match b with | .nilf=>true|_=>false
 | .mapr o,b=>match b with | .mapr o'=>o==o'|_=>false
 | .nilm,b=>match b with | .nilm=>true|_=>false
 | .it o,b=>match b with | .it o'=>o==o'|_=>false
 | .nili,b=>match b with | .nili=>true|_=>false
 | .agg x,b=>match b with | .agg y=>NX x y|_=>false
 | .tup x,b=>match b with | .tup y=>NX x y|_=>false
 | .undef,b=>match b with | .undef=>true|_=>false
 | _,_=>false
def NX:List AV->List AV->Bool
 | [],l=>match l with|[]=>true|_=>false
 | a::x,l=>match l with|b::y=>HB a b&&NX x y|_=>false
end
mutual
theorem xT : ∀ (a b:AV),HB a b=true->a=b
 | .int k n,b,h=>by cases b<;>simp_all [HB]
 | .bool x,b,h=>by cases b<;>simp_all [HB]
 | .str s,b,h=>by
  cases b<;>simp [HB] at h
  rename_i t
  rw [ByteArray.ext h]
 | .nilp,b,h=>by cases b<;>simp_all [HB]
 | .ptr o x,b,h=>by cases b<;>simp_all [HB]
 | .cptr cs x,b,h=>by
  cases b<;>simp [HB] at h
  rw [IB _ _ h.1,h.2]
 | .sl w es,b,h=>by
  cases b<;>simp [HB] at h
  rw [IB _ _ h.2,h.1]
 | .msl o x l z,b,h=>by cases b<;>simp_all [HB]
 | .fn (.func f) x y,b,h=>by
  cases b with
  | fn g x' y' =>
   cases g<;>simp [HB] at h
   rw [IB _ _ h.2.1,IB _ _ h.2.2,h.1]
  | _=>simp [HB] at h
 | .nilf,b,h=>by cases b<;>simp_all [HB]
 | .mapr o,b,h=>by cases b<;>simp_all [HB]
 | .nilm,b,h=>by cases b<;>simp_all [HB]
 | .it o,b,h=>by cases b<;>simp_all [HB]
 | .nili,b,h=>by cases b<;>simp_all [HB]
 | .agg x,b,h=>by
  cases b<;>simp [HB] at h
  rw [IB _ _ h]
 | .tup x,b,h=>by
  cases b<;>simp [HB] at h
  rw [IB _ _ h]
 | .undef,b,h=>by cases b<;>simp_all [HB]
 | .yld o L,b,h=>by simp [HB] at h
 | .ifc t a,b,h=>by simp [HB] at h
 | .fn f x y,b,h=>by
  cases f with
  | func f =>
   cases b with
   | fn g x' y' =>
    cases g<;>simp [HB] at h
    rw [IB _ _ h.2.1,IB _ _ h.2.2,h.1]
   | _=>simp [HB] at h
  | _=>simp [HB] at h
theorem IB : ∀ (x y:List AV),NX x y=true->x=y
 | [],l,h=>by cases l<;>simp_all [NX]
 | a::x,l,h=>by
  cases l<;>simp [NX] at h
  rw [xT _ _ h.1,IB _ _ h.2]
end
def db:DM->DM->Bool
 | [],_=>true
 | a::H,l=>match l with
  | b::H'=>(match a,b with
   | some x,some y=>NX x y
   | none,none=>true
   | _,_=>false)&&db H H'
  | []=>false
theorem dZ : ∀ (H H':DM),db H H'=true -> ∃ ext,H'=H++ext
 | [],H',_=>⟨H',rfl⟩
 | a::H,l,h=>by
  cases l with
  | nil=>simp [db] at h
  | cons b H' =>
   simp only [db,AR] at h
   obtain ⟨ext,rfl⟩:=dZ H H' h.2
   refine ⟨ext, ?_⟩
   have h1:=h.1
   cases a<;>cases b<;>simp at h1
   ·rfl
   ·rw [IB _ _ h1];rfl
def UH(T:EvT)(ih:Task->Option ROut)(hf:FuncId)(o:Oper)(vals:List AV)(H:DM):Option (AV×DM) :=
 match vals with
 | .fn (.func f) first captured::args =>
  match o.dst.any (T.hs hf).pc.contains with
  | true=>if DY (first.map AV.borrow++args++captured.map AV.borrow)=true then match ih (.call f (first.map AV.borrow++args++captured.map AV.borrow) []) with
    | some (.val v _)=>if v.pure=true then some (v,H) else none
    | _=>none
   else none
  | false=>match ih (.call f (first.map AV.borrow++args++captured.map AV.borrow) H) with
   | some (.val v H')=>if (!o.dst.any (T.hs hf).mt.contains||db H H')=true then some (v,H') else none
   | _=>none
 | .yld o' L::args =>
  match o.dst.any (T.hs hf).pc.contains||o.dst.any (T.hs hf).mt.contains with
  | true=>none
  | false=>match ih (.yld o' L args H) with
   | some (.val v H')=>some (v,H')
   | _=>none
 | _=>none
def UQ(o:Oper):Bool :=
 match o.op with
 | .call c=>match c.callee with
  | .value _=>true
  | _=>false
 | _=>false
def ZZ(P:Program)(T:EvT)(ih:Task->Option ROut)(hf:FuncId)(n:Nat)(os:Array Oper)(l:List Oper)(e:Ee)(H:DM):Option ROut :=
 match l with
 | []=>some (.st .normal e H)
 | o::l=>match ke os e o with
  | some true=>if AQn n o.dst=true then
    match NS P (F5 o) (El (T.hs hf) o) o.op.operands.toList e with
    | (vals,e1)=>match (match UQ o with
      | true=>UH T ih hf o vals H
      | false=>ry P T.wk (T.hs hf) o vals H) with
     | some (v,H')=>ih (.ops hf n os l (put o.dst v e1) H')
     | none=>none
   else none
  | some false=>if AQn n o.dst=true then ih (.ops hf n os l (put o.dst (.tup []) e) H) else none
  | none=>none
def AEn(P:Program)(T:EvT)(ih:Task->Option ROut):Task->Option ROut
 | .call f vs H=>Ui P T ih f vs H
 | .yld o L ys H=>ZY T ih o L ys H
 | .code hf n ar c e H=>Jx P T ih hf n ar c e H
 | .ops hf n os l e H=>ZZ P T ih hf n os l e H
noncomputable def W7(P:Program)(T:EvT)(k:Nat):Task->Option ROut:=Nat.rec (λ_=>none) (λ_ ih t=>AEn P T ih t) k
structure EvOk (P:Program) (T:EvT):Prop where
 mixed:P.follows .mixedOrders=true
 wide:bP P T.wk
 fn : ∀ f fn,T.tb f=some fn->P.funcs[f]? =some fn/\GP P f=true/\fn.body.any (FX (T.hs f))=true/\(T.hs f).gc=[]
 orc : ∀ f vs H v H',T.orc f vs H=some (v,H')->Dx P f vs H λv2 H2=>v2=v/\H2=H'
def QC(P:Program)(T:EvT):Task->ROut->Prop
 | .call f vs H,.val v H'=>Dx P f vs H λv2 H2=>v2=v/\H2=H'
 | .yld o L ys H,.val v H'=>ME P o L ys H λv2 H2=>v2=v/\H2=H'
 | .code hf n ar c e H,.st ex e' H'=>Hw P n (T.hs hf) ar c (λex2 e2 H2=>ex2=ex/\e2=e'/\H2=H') e H
 | .ops hf n os l e H,.st ex e' H'=>ex = .normal/\KK P n (T.hs hf) os l (λe2 H2=>e2=e'/\H2=H') e H
 | _,_=>False
section
variable {P:Program} {T:EvT}
theorem vn{h:Hint}{o o':Oper}{e:Ee}(hb:pv P h o o' e=true):I5 P h o o' e:=by
 unfold pv at hb
 unfold I5
 generalize I6 P h o=x at hb ⊢
 generalize I6 P h o'=y at hb ⊢
 cases x with
 | none=>cases hb
 | some x=>cases y with
  | none=>cases hb
  | some y =>
   obtain ⟨a,k,s⟩:=x
   obtain ⟨b,l,s'⟩:=y
   dsimp only at hb ⊢
   simp only [AR,CJ] at hb
   obtain ⟨h1,h2⟩:=hb
   refine ⟨h1, ?_⟩
   generalize Ec e a=u at h2 ⊢
   generalize Ec e b=w at h2 ⊢
   cases u<;>first|(cases h2;done)|skip
   cases w<;>first|(cases h2;done)|skip
   simpa using h2
theorem ADg{h:Hint}{ops:Array Oper}{e:Ee}(hb:AYu P h ops e=true):IZ P h ops e:=λp hp=>vn (Ao.1 hb p hp)
theorem UJ{n:Nat}{K:List AV->DM->Prop}: ∀ {rs:List ResultVar} {e:Ee} {H:DM} {vs:List AV} {H':DM},dR P n rs e H=some (vs,H')->K vs H'->dS P n rs e H λvs _ H=>K vs H
 | [],e,H,vs,H',h,hk=>by cases h;exact hk
 | .tmp t::rs,e,H,vs,H',h,hk=>by
  simp only [dR] at h
  obtain ⟨h1,h⟩:=JF h
  obtain ⟨r,h2,h3⟩:=Lv h
  cases h3
  exact ⟨h1,UJ (K:=λvs H=>K ((MC P none true (.tmp t) e).1::vs) H) h2 hk⟩
 | .cell t ty::rs,e,H,vs,H',h,hk=>by
  simp only [dR] at h
  obtain ⟨h1,h⟩:=JF h
  split at h
  ·rename_i v H1 hv
   obtain ⟨r,h2,h3⟩:=Lv h
   cases h3
   rw [dQ]
   refine ⟨h1, ?_⟩
   rw [hv]
   exact UJ (K:=λvs H=>K (v::vs) H) h2 hk
  ·cases h
theorem qw{K:AV->DM->Prop}{vs:List AV}{v:AV}{H:DM}(h:xb vs=some v)(hk:K v H):Pb K vs H:=by
 unfold xb at h
 unfold Pb
 split at h
 ·cases h;exact hk
 ·rename_i hne
  obtain ⟨h1,h2⟩:=JF h
  cases h2
  split
  ·exact absurd rfl (hne _)
  ·exact ⟨λx hx=>Ao.1 h1 x hx,hk⟩
theorem pr{ar:Option Nat}{H:DM}(h:bF ar H=true):bG ar H:=by
 unfold bF at h
 unfold bG
 split at h
 ·trivial
 ·split at h
  ·rename_i cs hcs;exact ⟨cs,hcs⟩
  ·cases h
theorem re{n:Nat}{d:Option Tmp}(h:AQn n d=true):FR n d:=by
 cases d with
 | none=>trivial
 | some d=>exact (of_decide_eq_true h:d<n)
theorem M7{f:FuncId}{vs:List AV}{v:AV}(hc:Dx P f vs [] λv2 _=>v2=v)(hp:DY vs=true)(hv:v.pure=true):DR P f vs v:=λH =>
 ⟨hc.1,λF G w us hcr=>Calls.mono (hc.2 _ _ w us (hcr.hide (Gn hp))) λe w' he=>by
  obtain ⟨u,rfl,v',H2,G',rfl,hcr',hext⟩:=he
  obtain ⟨h1,h2⟩:=hcr.unhide hv hcr' hext
  exact ⟨u,rfl,_,H,_,⟨rfl,rfl⟩,h1,h2⟩⟩
theorem sa(E:EvOk P T){ih:Task->Option ROut}(hih : ∀ t out,ih t=some out->QC P T t out){f:FuncId}{vs:List AV}{H:DM}{out:ROut}(h:Ui P T ih f vs H=some out):QC P T (.call f vs H) out:=by
 unfold Ui at h
 split at h
 ·rename_i v H1 ho
  cases h
  exact E.orc f vs H v H1 ho
 ·split at h
  ·rename_i fn hfn
   obtain ⟨e1,e2,e3,e4⟩:=E.fn f fn hfn
   split at h
   ·rename_i c hb
    obtain ⟨hn,h⟩:=JF h
    have fin : ∀ (ex:Exit) (e:Ee) (H':DM),(ex = .normal\/ex = .ret)->ih (.code f fn.ntmps none c (E9 0 vs) H)=some (.st ex e H') ->
      ((dR P fn.ntmps fn.results.toList e H').bind λr=>(xb r.1).map λv=>ROut.val v r.2)=some out->QC P T (.call f vs H) out:=by
     intro ex e H' hex hi hr
     obtain ⟨r,h1,h2⟩:=CH.1 hr
     obtain ⟨v,h3,h4⟩:=Lv h2
     subst h4
     refine kY (T.hs f) e4 E.mixed e3 e1 hb e2 hn (FH c _ _ _ _ (λex2 e2 H2 hq=>?_) (hih _ _ hi))
     obtain ⟨rfl,rfl,rfl⟩:=hq
     rcases hex with rfl|rfl
     ·exact UJ (K:=λvs H=>Pb _ vs H) h1 (qw h3 ⟨rfl,rfl⟩)
     ·exact UJ (K:=λvs H=>Pb _ vs H) h1 (qw h3 ⟨rfl,rfl⟩)
    split at h
    ·rename_i hi;exact fin _ _ _ (.inl rfl) hi h
    ·rename_i hi;exact fin _ _ _ (.inr rfl) hi h
    ·cases h
   ·cases h
  ·cases h
theorem xF(E:EvOk P T){ih:Task->Option ROut}(hih : ∀ t out,ih t=some out->QC P T t out){o:Nat}{L:LoopRec}{ys:List AV}{H:DM}{out:ROut}(h:ZY T ih o L ys H=some out):QC P T (.yld o L ys H) out:=by
 unfold ZY at h
 split at h
 ·rename_i fn st av hfn hlo
  obtain ⟨e1,e2,e3,e4⟩:=E.fn _ fn hfn
  have h':=JF h
  clear h
  obtain ⟨⟨rfl,g2,g3,g4,g5,g6⟩,h⟩:=h'
  cases hi:ih (.code L.tag fn.ntmps (some o) L.assign (Jy av L.ps.toList ys (E9 0 av)) H) with
  | none=>rw [hi] at h;cases h
  | some q =>
   rw [hi] at h
   cases q with
   | val v H'=>cases h
   | st ex0 e2 H2 =>
    cases ex0 with
    | normal =>
     dsimp only at h
     cases hlo2:Me H2 o with
     | none=>rw [hlo2] at h;cases h
     | some q2 =>
      obtain ⟨st2,av2⟩:=q2
      rw [hlo2] at h
      dsimp only at h
      have h':=JF h
      clear h
      obtain ⟨rfl,h⟩:=h'
      cases hi3:ih (.code L.tag fn.ntmps (some o) L.body e2 (H2.set o (some (Fl (-1) av2)))) with
      | none=>rw [hi3] at h;cases h
      | some q3 =>
       rw [hi3] at h
       cases q3 with
       | val v H'=>cases h
       | st ex e3 H3 =>
        dsimp only at h
        cases hlo3:Me H3 o with
        | none=>rw [hlo3] at h;cases h
        | some q4 =>
         obtain ⟨st3,av3⟩:=q4
         rw [hlo3] at h
         dsimp only at h
         have h':=JF h
         clear h
         obtain ⟨rfl,h⟩:=h'
         obtain ⟨tag,ps,assign,body⟩:=L
         have main : ∀ (v:AV) (H':DM),out = .val v H'->(∀ R:AV->DM->Prop,R v H'->match (generalizing:=false) ex with
           | .normal=>R (.bool true) (H3.set o (some (Fl 0 av3)))
           | .ret=>R (.bool false) (H3.set o (some (Fl (-2) av3)))
           | .exit k=>R (.bool false) (H3.set o (some (Fl ((k:Int)+1) av3)))
           | _=>False)->QC P T (.yld o ⟨tag,ps,assign,body⟩ ys H) out:=by
          intro v H' he hR
          subst he
          refine KR E.mixed e4 ⟨g5,g6⟩ (λp hp=>of_decide_eq_true (Ao.1 g4 p hp)) ys H _ av (OY hlo) g2 g3 (FH assign _ _ _ _ (λex2 e4 H4 hq=>?_) (hih _ _ hi))
          obtain ⟨rfl,rfl,rfl⟩:=hq
          refine ⟨rfl,av2,OY hlo2,FH body _ _ _ _ (λex5 e5 H5 hq=>?_) (hih _ _ hi3)⟩
          obtain ⟨rfl,rfl,rfl⟩:=hq
          exact ⟨av3,OY hlo3,hR (λv2 H2=>v2=v/\H2=H') ⟨rfl,rfl⟩⟩
         cases ex with
         | normal=>cases h;exact main _ _ rfl λR hr=>hr
         | ret=>cases h;exact main _ _ rfl λR hr=>hr
         | exit k=>cases h;exact main _ _ rfl λR hr=>hr
         | _=>cases h
    | _=>cases h
 ·cases h
theorem xG (E:EvOk P T) {ih:Task->Option ROut} (hih : ∀ t out,ih t=some out->QC P T t out) {hf:FuncId} {o:Oper} (ho:UQ o=true) {vals:List AV} {H:DM} {v:AV} {H':DM} (h:UH T ih hf o vals H=some (v,H'))
  {R:AV->DM->Prop} (hr:R v H'):ER P (T.hs hf) o vals H R:=by
 obtain ⟨dst,op,ty,pos,after,guard⟩:=o
 cases op<;>first|cases ho|skip
 rename_i c
 obtain ⟨callee,args0,ts⟩:=c
 cases callee<;>first|cases ho|skip
 rename_i fo
 unfold UH at h
 cases vals with
 | nil=>cases h
 | cons a args =>
  cases a<;>first|cases h|skip
  case fn f first captured =>
   cases f<;>first|cases h|skip
   rename_i f
   dsimp only at h
   cases hb:(Cq (T.hs hf).pc.contains dst) with
   | true =>
    rw [hb] at h
    dsimp only at h
    have h':=JF h
    clear h
    obtain ⟨hp,h⟩:=h'
    cases hi:ih (.call f (first.map AV.borrow++args++captured.map AV.borrow) []) with
    | none=>rw [hi] at h;cases h
    | some q =>
     rw [hi] at h
     cases q with
     | st _ _ _=>cases h
     | val v1 H1 =>
      dsimp only at h
      have h':=JF h
      clear h
      obtain ⟨hpv,h⟩:=h'
      cases h
      have hpc:DR P f (first.map AV.borrow++args++captured.map AV.borrow) v:=M7 (Dx.mono (show Dx P f _ [] (λv2 H2=>v2=v/\H2=H1) from hih _ _ hi) λ_ _ hq=>hq.1) hp hpv
      simp only [ER,hb]
      cases hmt:Cq (T.hs hf).mt.contains dst with
      | true=>exact ⟨v,.inl λH2 _=>hpc H2,hr⟩
      | false=>exact ⟨v,hpc,hr⟩
   | false =>
    rw [hb] at h
    dsimp only at h
    cases hi:ih (.call f (first.map AV.borrow++args++captured.map AV.borrow) H) with
    | none=>rw [hi] at h;cases h
    | some q =>
     rw [hi] at h
     cases q with
     | st _ _ _=>cases h
     | val v1 H1 =>
      dsimp only at h
      have h':=JF h
      clear h
      obtain ⟨hpf,h⟩:=h'
      cases h
      have hA:Dx P f (first.map AV.borrow++args++captured.map AV.borrow) H (λv2 H2=>v2=v/\H2=H'):=hih _ _ hi
      simp only [ER,hb]
      cases hmt:Cq (T.hs hf).mt.contains dst with
      | true =>
       rw [hmt,Bool.not_true,Bool.false_or] at hpf
       obtain ⟨ext,rfl⟩:=dZ _ _ hpf
       exact ⟨v,ext,hA,hr⟩
      | false=>exact hA.mono λv2 H2 hq=>by obtain ⟨rfl,rfl⟩:=hq;exact hr
  case yld o' L =>
   dsimp only at h
   cases hb:(Cq (T.hs hf).pc.contains dst||Cq (T.hs hf).mt.contains dst) with
   | true=>rw [hb] at h;cases h
   | false =>
    rw [hb] at h
    rw [Bool.or_eq_false_iff] at hb
    dsimp only at h
    cases hi:ih (.yld o' L args H) with
    | none=>rw [hi] at h;cases h
    | some q =>
     rw [hi] at h
     cases q with
     | st _ _ _=>cases h
     | val v1 H1 =>
      cases h
      simp only [ER]
      exact ⟨⟨hb.1,hb.2⟩,ME.mono (show ME P o' L args H (λv2 H2=>v2=v/\H2=H') from hih _ _ hi) λv2 H2 hq=>by obtain ⟨rfl,rfl⟩:=hq;exact hr⟩
theorem xH(E:EvOk P T){ih:Task->Option ROut}(hih : ∀ t out,ih t=some out->QC P T t out){hf:FuncId}{n:Nat}{os:Array Oper}{l:List Oper}{e:Ee}{H:DM}{out:ROut}(h:ZZ P T ih hf n os l e H=some out):QC P T (.ops hf n os l e H) out:=by
 unfold ZZ at h
 cases l with
 | nil=>cases h;exact ⟨rfl,rfl,rfl⟩
 | cons o l =>
  have next : ∀ {e1:Ee} {H1:DM},ih (.ops hf n os l e1 H1)=some out -> ∃ e' H',out = .st .normal e' H'/\KK P n (T.hs hf) os l (λe2 H2=>e2=e'/\H2=H') e1 H1:=λhi=>by
   have hg:=hih _ _ hi
   cases out with
   | val v H'=>exact hg.elim
   | st ex e' H'=>obtain ⟨rfl,hg⟩:=hg;exact ⟨e',H',rfl,hg⟩
  dsimp only at h
  cases hag:ke os e o with
  | none=>rw [hag] at h;cases h
  | some b =>
   rw [hag] at h
   cases b with
   | false =>
    dsimp only at h
    obtain ⟨hd,h⟩:=JF h
    obtain ⟨e',H',rfl,hg⟩:=next h
    refine ⟨rfl, ?_⟩
    show HM P n (T.hs hf) os o _ e H
    unfold HM
    rw [hag]
    exact ⟨re hd,hg⟩
   | true =>
    dsimp only at h
    have h':=JF h
    clear h
    obtain ⟨hd,h⟩:=h'
    cases hv:(match UQ o with
      | true=>UH T ih hf o (NS P (F5 o) (El (T.hs hf) o) o.op.operands.toList e).1 H
      | false=>ry P T.wk (T.hs hf) o (NS P (F5 o) (El (T.hs hf) o) o.op.operands.toList e).1 H) with
    | none=>rw [hv] at h;cases h
    | some q =>
     obtain ⟨v,H1⟩:=q
     rw [hv] at h
     obtain ⟨e',H',rfl,hg⟩:=next h
     refine ⟨rfl, ?_⟩
     show HM P n (T.hs hf) os o _ e H
     unfold HM
     rw [hag]
     refine ⟨re hd, ?_⟩
     cases hval:UQ o with
     | true=>rw [hval] at hv;exact xG E hih hval hv hg
     | false=>rw [hval] at hv;exact ABM E.wide hv hg
theorem sZ(E:EvOk P T){ih:Task->Option ROut}(hih : ∀ t out,ih t=some out->QC P T t out){hf:FuncId}{n:Nat}{ar:Option Nat}{c:Code}{e:Ee}{H:DM}{out:ROut}(h:Jx P T ih hf n ar c e H=some out):QC P T (.code hf n ar c e H) out:=by
 have part : ∀ {c:Code} {e:Ee} {H:DM} {out:ROut},ih (.code hf n ar c e H)=some out -> ∃ ex e' H',out = .st ex e' H'/\Hw P n (T.hs hf) ar c (λex2 e2 H2=>ex2=ex/\e2=e'/\H2=H') e H:=λ{c e H out} hi=>by
  have hg:=hih _ _ hi
  cases out with
  | val v H'=>exact hg.elim
  | st ex e' H'=>exact ⟨ex,e',H',rfl,hg⟩
 cases c with
 | skip=>cases h;exact ⟨rfl,rfl,rfl⟩
 | ret=>cases h;exact ⟨rfl,rfl,rfl⟩
 | exit id=>cases h;exact ⟨rfl,rfl,rfl⟩
 | region id ops draw =>
  simp only [Jx] at h
  cases hi:ih (.ops hf n ops ((T.hs hf).ord id ops) e H) with
  | none=>rw [hi] at h;cases h
  | some q =>
   rw [hi] at h
   have hg:=hih _ _ hi
   cases q with
   | val v H'=>cases h
   | st ex e1 H1 =>
    obtain ⟨rfl,hg⟩:=hg
    dsimp only at h
    obtain ⟨hdy,h⟩:=JF h
    cases h
    refine P3 _ _ _ _ _ (λe2 H2 hq=>?_) hg
    obtain ⟨rfl,rfl⟩:=hq
    refine ⟨λhd=>?_,rfl,rfl,rfl⟩
    rw [hd] at hdy
    exact ADg (by simpa using hdy)
 | seq a b =>
  simp only [Jx] at h
  cases hi:ih (.code hf n ar a e H) with
  | none=>rw [hi] at h;cases h
  | some q =>
   rw [hi] at h
   obtain ⟨ex,e1,H1,rfl,hg⟩:=part hi
   have other:ex ≠ .normal->out = .st ex e1 H1->QC P T (.code hf n ar (.seq a b) e H) out:=λhne he=>by
    subst he
    refine FH a _ _ _ _ (λex2 e2 H2 hq=>?_) hg
    obtain ⟨rfl,rfl,rfl⟩:=hq
    cases ex2<;>first|exact absurd rfl hne|exact ⟨rfl,rfl,rfl⟩
   cases ex with
   | normal =>
    dsimp only at h
    obtain ⟨ex',e',H',rfl,hg2⟩:=part h
    refine FH a _ _ _ _ (λex2 e2 H2 hq=>?_) hg
    obtain ⟨rfl,rfl,rfl⟩:=hq
    exact hg2
   | _=>cases h;exact other sm rfl
 | cond c a b =>
  simp only [Jx] at h
  cases hc:Fj P none e c with
  | bool t =>
   rw [hc] at h
   dsimp only at h
   have hg : ∃ ex e' H',out = .st ex e' H'/\Hw P n (T.hs hf) ar (if t=true then a else b) (λex2 e2 H2=>ex2=ex/\e2=e'/\H2=H') e H:=by
    cases t with
    | true=>exact part h
    | false=>exact part h
   obtain ⟨ex,e',H',rfl,hg⟩:=hg
   show Hw P n (T.hs hf) ar (.cond c a b) _ e H
   simp only [Hw,hc]
   cases t with
   | true=>exact hg
   | false=>exact hg
  | _=>rw [hc] at h;cases h
 | block id c =>
  simp only [Jx] at h
  cases hi:ih (.code hf n ar c e H) with
  | none=>rw [hi] at h;cases h
  | some q =>
   rw [hi] at h
   obtain ⟨ex,e1,H1,rfl,hg⟩:=part hi
   cases ex with
   | exit j =>
    dsimp only at h
    by_cases hj:j=id
    ·rw [if_pos hj] at h
     cases h
     refine FH c _ _ _ _ (λex2 e2 H2 hq=>?_) hg
     obtain ⟨rfl,rfl,rfl⟩:=hq
     dsimp only
     rw [if_pos hj]
     exact ⟨rfl,rfl,rfl⟩
    ·rw [if_neg hj] at h
     cases h
     refine FH c _ _ _ _ (λex2 e2 H2 hq=>?_) hg
     obtain ⟨rfl,rfl,rfl⟩:=hq
     dsimp only
     rw [if_neg hj]
     exact ⟨rfl,rfl,rfl⟩
   | _ =>
    cases h
    refine FH c _ _ _ _ (λex2 e2 H2 hq=>?_) hg
    obtain ⟨rfl,rfl,rfl⟩:=hq
    exact ⟨rfl,rfl,rfl⟩
 | loop c =>
  simp only [Jx] at h
  cases hi:ih (.code hf n ar c e H) with
  | none=>rw [hi] at h;cases h
  | some q =>
   rw [hi] at h
   obtain ⟨ex,e1,H1,rfl,hg⟩:=part hi
   have other:ex ≠ .normal->out = .st ex e1 H1->QC P T (.code hf n ar (.loop c) e H) out:=λhne he=>by
    subst he
    refine ⟨λe' H'=>e'=e/\H'=H,λ_ _=>0,⟨rfl,rfl⟩,λe' H' hI=>?_⟩
    obtain ⟨rfl,rfl⟩:=hI
    refine FH c _ _ _ _ (λex2 e2 H2 hq=>?_) hg
    obtain ⟨rfl,rfl,rfl⟩:=hq
    cases ex2<;>first|exact absurd rfl hne|exact ⟨rfl,rfl,rfl⟩
   cases ex with
   | normal =>
    dsimp only at h
    obtain ⟨ex',e',H',rfl,I,μ,hI,hr⟩:=part h
    classical
    by_cases hold:I e H
    ·exact ⟨I,μ,hold,hr⟩
    ·refine ⟨λe2 H2=>(e2=e/\H2=H)\/I e2 H2,λe2 H2=>if e2=e/\H2=H then μ e1 H1+1 else μ e2 H2,.inl ⟨rfl,rfl⟩,λe2 H2 hI2=>?_⟩
     have hne : ∀ {e3:Ee} {H3:DM},I e3 H3 -> ¬ (e3=e/\H3=H):=λh3 hh=>hold (by rw [<- hh.1,<- hh.2];exact h3)
     by_cases hat:e2=e/\H2=H
     ·obtain ⟨rfl,rfl⟩:=hat
      refine FH c _ _ _ _ (λex2 e3 H3 hq=>?_) hg
      obtain ⟨rfl,rfl,rfl⟩:=hq
      dsimp only
      refine ⟨.inr hI, ?_⟩
      rw [if_neg (hne hI),if_pos ⟨rfl,rfl⟩]
      omega
     ·have hI3:I e2 H2:=hI2.resolve_left hat
      refine FH c _ _ _ _ (λex2 e3 H3 hq=>?_) (hr e2 H2 hI3)
      cases ex2 with
      | normal =>
       refine ⟨.inr hq.1, ?_⟩
       dsimp only
       rw [if_neg hat,if_neg (hne hq.1)]
       exact hq.2
      | _=>exact hq
   | _=>cases h;exact other sm rfl
 | rangeFunc g ps assign body =>
  simp only [Jx] at h
  cases hg:Fj P none e g with
  | fn f first captured =>
   rw [hg] at h
   cases f with
   | func f =>
    dsimp only at h
    have h':=JF h
    clear h
    obtain ⟨har,h⟩:=h'
    cases hi:ih (.call f (first.map AV.borrow++[.yld H.length ⟨hf,ps,assign,body⟩]++captured.map AV.borrow) (H++[some (Fl 0 (GK n e))])) with
    | none=>rw [hi] at h;cases h
    | some q =>
     rw [hi] at h
     have hc:=hih _ _ hi
     cases q with
     | st _ _ _=>cases h
     | val v H2 =>
      dsimp only at h
      cases hlo:Me H2 H.length with
      | none=>rw [hlo] at h;cases h
      | some q2 =>
       obtain ⟨st,av⟩:=q2
       rw [hlo] at h
       dsimp only at h
       have fin : ∀ ex:Exit,out = .st ex e (H2.set H.length none)->(∀ Q:Exit->Kt,Q ex e (H2.set H.length none)->(st=0/\Q .normal e (H2.set H.length none))\/(st = -2/\Q .ret e (H2.set H.length none)) \/ ∃ k:Nat,st=(k:Int)+1/\Q (.exit k) e (H2.set H.length none)) ->
         QC P T (.code hf n ar (.rangeFunc g ps assign body) e H) out:=by
        intro ex he hQ
        subst he
        refine ⟨pr har,hf,f,first,captured,hg,Dx.mono (show Dx P f _ _ (λv2 H3=>v2=v/\H3=H2) from hc) λv2 H3 hq=>?_⟩
        obtain ⟨rfl,rfl⟩:=hq
        exact ⟨st,av,OY hlo,hQ (λex2 e2 H2'=>ex2=ex/\e2=e/\H2'=_) ⟨rfl,rfl,rfl⟩⟩
       by_cases h0:st=0
       ·rw [if_pos h0] at h
        cases h;exact fin _ rfl λQ hq => .inl ⟨h0,hq⟩
       ·rw [if_neg h0] at h
        by_cases h2:st = -2
        ·rw [if_pos h2] at h
         cases h;exact fin _ rfl λQ hq => .inr (.inl ⟨h2,hq⟩)
        ·rw [if_neg h2] at h
         have h':=JF h
         clear h
         obtain ⟨hp,h⟩:=h'
         cases h
         exact fin _ rfl λQ hq => .inr (.inr ⟨(st - 1).toNat,DF,hq⟩)
   | _=>cases h
  | _=>rw [hg] at h;cases h
 | _=>cases h
theorem lO(E:EvOk P T): ∀ (k:Nat) (t:Task) (out:ROut),W7 P T k t=some out->QC P T t out
 | 0,t,out,h=>by cases h
 | k+1,t,out,h=>by
  have hih:=lO E k
  have h:AEn P T (W7 P T k) t=some out:=h
  cases t with
  | call f vs H=>exact sa E hih h
  | yld o L ys H=>exact xF E hih h
  | code hf n ar c e H=>exact sZ E hih h
  | ops hf n os l e H=>exact xH E hih h
theorem Dx.run(E:EvOk P T)(k:Nat){f:FuncId}{vs:List AV}{H:DM}{v:AV}{H':DM}(h:W7 P T k (.call f vs H)=some (.val v H')):Dx P f vs H λv2 H2=>v2=v/\H2=H':=lO E k _ _ h
theorem DR.run(E:EvOk P T)(k:Nat){f:FuncId}{vs:List AV}{v:AV}(hp:DY vs=true)(hv:v.pure=true)(h:(match W7 P T k (.call f vs []) with|some (.val v2 _)=>some v2|_=>none)=some v):DR P f vs v:=by
 cases hr:W7 P T k (.call f vs []) with
 | none=>rw [hr] at h;cases h
 | some q =>
  rw [hr] at h
  cases q with
  | st _ _ _=>cases h
  | val v2 H2 =>
   cases h
   exact M7 ((Dx.run E k hr).mono λ_ _ hq=>hq.1) hp hv
end
end Go.AI
namespace Go.AI
inductive ETree where
 | nil
 | node (l:ETree) (k:Nat) (fn:Func) (h:Hint) (r:ETree)
def ETree.find:ETree->Nat->Option (Func×Hint)
 | .nil,_=>none
 | .node l k fn h r,f=>bif CK f k then some (fn,h) else bif Nat.blt f k then l.find f else r.find f
def EV(P:Program)(f:Nat)(fn:Func)(h:Hint):Prop:=P.funcs[f]? =some fn/\GP P f=true/\fn.body.any (FX h)=true/\h.gc=[]
def ETree.All(P:Program):ETree->Prop
 | .nil=>True
 | .node l k fn h r=>l.All P/\EV P k fn h/\r.All P
theorem Li{P:Program}: ∀ {t:ETree} {f:Nat} {fn:Func} {h:Hint},t.All P->t.find f=some (fn,h)->EV P f fn h
 | .nil,f,fn,h,_,hf=>by cases hf
 | .node l k fn' h' r,f,fn,h,ha,hf=>by
  simp only [ETree.find] at hf
  cases hb:CK f k with
  | true =>
   rw [hb] at hf
   cases hf
   have:=DE hb
   subst this
   exact ha.2.1
  | false =>
   rw [hb] at hf
   cases hl:Nat.blt f k with
   | true=>rw [hl] at hf;exact Li ha.1 hf
   | false=>rw [hl] at hf;exact Li ha.2.2 hf
def AGI:Hint:=⟨[],[],[],[],[],[],[]⟩
abbrev Orc:=FuncId->List AV->DM->Option (AV×DM)
def AEu:Orc:=λ_ _ _=>none
def sE(P:Program)(o:Orc):Prop:=∀ f vs H v H',o f vs H=some (v,H')->Dx P f vs H λv2 H2=>v2=v/\H2=H'
theorem yb(P:Program):sE P AEu:=λ_ _ _ _ _ h=>by cases h
def ETree.evt(t:ETree)(wk:List TypeId)(o:Orc):EvT:=⟨λf=>(t.find f).map (·.1),λf=>((t.find f).map (·.2)).getD AGI,wk,o⟩
theorem ETree.ok{P:Program}{t:ETree}{wk:List TypeId}{o:Orc}(hm:P.follows .mixedOrders=true)(hw:bP P wk)(ho:sE P o)(ha:t.All P):EvOk P (t.evt wk o):=by
 refine ⟨hm,hw,λf fn hf=>?_,ho⟩
 obtain ⟨⟨fn',h⟩,h1,rfl⟩:=Lv hf
 have hh:(t.evt wk o).hs f=h:=by simp only [ETree.evt,h1];rfl
 rw [hh]
 exact Li ha h1
open Go.Proofs
noncomputable def e5:Hint:=hx [1,2,6,6,30,122,506,4090,24570,122874,516090,2088954,0x800000000000000000000000000a9202,1,2789890,6984194,15372802,1] [124,137,138,141,142,146,152,157] [31] [(1,[(1,some 5,true)]),(3,[(2,some 5,true)])] [51,60] [] []
theorem AbH:EV AA 5 f5 e5:=⟨func5,kr,kr,rfl⟩
noncomputable def e6:Hint:=hx [90,2138,6234,481036343386,0xf00000185a,481036367962,481036449882,563430989805658,481036343386,481036343386,137242,399386,923674,0x20000000000e181a,923674,1972250,4069402,8263706,121509914,0x10000000000000000033e181a,1792,20846618,0x3800000000000000000003e181a,0x7800000000000000000003e181a,0x3800000000000000000103e181a,0x3800000000000000000703e181a,0x1003800000000000000000303e181a,0x3800000000000000000b03e181a,0x100003800000000000000000b03e181a,0x3800000000000000000003e181a,0x3800000000000000001903e181a,0x3800000000000000001903e181a,0x3800000000000000000003e181a,0x3800000000000000000003e181a,0x8000000000000000000000000000000000000e181a,1792,1792] [82,97,101,103,125,168,169,170] [] [(36,[(9,none,false)])] [131,158] [] []
theorem AbG:EV AA 6 f6 e6:=⟨func6,kr,kr,rfl⟩
noncomputable def e9:Hint:=hm [28,88,8280,48,24,48] [] [] []
theorem AbF:EV AA 9 f9 e9:=⟨func9,kr,kr,rfl⟩
noncomputable def e10:Hint:=hm [2,18,1810,3858,1874,1874,4196178,12,1810,1810,12] [23,28] [] []
theorem AYj:EV AA 10 f10 e10:=⟨func10,kr,kr,rfl⟩
noncomputable def e11:Hint:=hm [279,24599,1879072789,4026556437,1879138325,1879269397,122138345493,259577298965,122138869781,122141491221,122140442645,0x400001c70034015,7168,122138345493,1879269397,0xe000000070016015,0x1e000000070016015,0xe000000070816015,0xe000000070816015,0xe000000071816015,0x4000e000000070816015,0xe000000070016015,0xe000000070016015,1879072789,7168] [28,34,49,50,59,61,71,79,85,86] [] []
theorem AYb:EV AA 11 f11 e11:=⟨func11,kr,kr,rfl⟩
noncomputable def e12:Hint:=hm [28,88,4184,48,24,48] [] [] []
theorem AYR:EV AA 12 f12 e12:=⟨func12,kr,kr,rfl⟩
noncomputable def e13:Hint:=hm [3,2051,16,35,32803,35,99,72057594037927971,16,16] [] [] []
theorem AYH:EV AA 13 f13 e13:=⟨func13,kr,kr,rfl⟩
noncomputable def e18:Hint:=hx [1,3,3,3,917507,1966083,917519,917507,917507,240518168579,515396075523,240518168627,240518168579,240518168579,3,1] [26,43] [63] [(2,[(1,some 0,true)])] [53] [] []
theorem AX7:EV AA 18 f18 e18:=⟨func18,kr,kr,rfl⟩
noncomputable def e19:Hint:=hm [2,18,65554,12,34,4194338,12,8589934594,12,66,412316860482,962072674370,412316860610,412316860866,70781061038530,12,412316860482,0x38000000000002,0x78000000000002,0x38000000000602,0x38000000000a02,0x4038000000000a02,12,0x38000000000002,0x80000000000000000,12,12] [] [] []
theorem AX0:EV AA 19 f19 e19:=⟨func19,kr,kr,rfl⟩
noncomputable def e20:Hint:=hm [6,7170,15362,7362,7490,2104642,48,7170,48] [] [] []
theorem AXt:EV AA 20 f20 e20:=⟨func20,kr,kr,rfl⟩
noncomputable def e21:Hint:=hx [2,4] [] [] [(1,[(2,none,false)])] [] [] []
theorem AXs:EV AA 21 f21 e21:=⟨func21,kr,kr,rfl⟩
noncomputable def e22:Hint:=hm [206,462,8640,960,448,2097344,1,192] [15,16] [] []
theorem AXr:EV AA 22 f22 e22:=⟨func22,kr,kr,rfl⟩
noncomputable def e23:Hint:=hm [14,776,4294968072,192,1288,240518169864,515396076808,240518173960,240518182152,31026843755784,66211215844616,31026843788552,31026843755784,31026843755784,0x200003800000508,0xa00003800000508,0x200003800010508,0x200003800000508,240518169864,132360,0xc00000000000020500,0x1c00000000000020500,0xc00000000000060500,0x80c00000000000060500,0xc00000000000020500,0xc00000000000020500,192] [42,80,85] [] []
theorem AXk:EV AA 23 f23 e23:=⟨func23,kr,kr,rfl⟩
noncomputable def e24:Hint:=hx [22,52,116,116,7516192884,16106127476,7516193140,282394100084,7516192884,7516192884,0x700000000000070,0xf00000000000070,0x700000000000470,0x8700000000000470,0x18700000000000470,0x700000000000470,0x200700000000000470,0x700000000000070,0x700000000000070,16] [74] [] [(10,[(6,some 2,true)])] [18] [] []
theorem AXe:EV AA 24 f24 e24:=⟨func24,kr,kr,rfl⟩
noncomputable def e25:Hint:=hm [3,2051,16,35,32803,35,99,268435491,16,16] [] [] []
theorem AXa:EV AA 25 f25 e25:=⟨func25,kr,kr,rfl⟩
noncomputable def e26:Hint:=hm [3,1027,16,35,16419,35,33554467,16,16] [] [] []
theorem AXX:EV AA 26 f26 e26:=⟨func26,kr,kr,rfl⟩
noncomputable def e27:Hint:=hm [6,38,3622,7718,3750,8392358,3622,3622,16] [] [] []
theorem AXW:EV AA 27 f27 e27:=⟨func27,kr,kr,rfl⟩
noncomputable def e28:Hint:=hm [6,1] [3] [] []
theorem AXS:EV AA 28 f28 e28:=⟨func28,kr,kr,rfl⟩
noncomputable def e29:Hint:=hm [1,17,4,4] [6] [5,7] []
theorem AXJ:EV AA 29 f29 e29:=⟨func29,kr,kr,rfl⟩
noncomputable def e30:Hint:=hm [240,256] [] [] []
theorem AXD:EV AA 30 f30 e30:=⟨func30,kr,kr,rfl⟩
noncomputable def e31:Hint:=hm [1,17,4,4] [6] [] []
theorem AXA:EV AA 31 f31 e31:=⟨func31,kr,kr,rfl⟩
noncomputable def e32:Hint:=hm [12,64,48] [] [] []
theorem AW7:EV AA 32 f32 e32:=⟨func32,kr,kr,rfl⟩
noncomputable def e34:Hint:=hm [28,280,1080,120,8240,1,16] [] [] []
theorem AW0:EV AA 34 f34 e34:=⟨func34,kr,kr,rfl⟩
noncomputable def e35:Hint:=hm [28,540,16,60,16] [] [] [12,14,19,21,24,25]
theorem AWy:EV AA 35 f35 e35:=⟨func35,kr,kr,rfl⟩
noncomputable def e36:Hint:=hm [2,4] [] [] []
theorem AWv:EV AA 36 f36 e36:=⟨func36,kr,kr,rfl⟩
noncomputable def e37:Hint:=hx [105,768] [10] [12] [] [] [] [2006,2007]
theorem AWu:EV AA 37 f37 e37:=⟨func37,kr,kr,rfl⟩
noncomputable def e38:Hint:=hx [1365,525653,7168,9557,25941,91460,91456,72057594038019392,75072,0x400000000000010500,7168,7168] [21,31,41,60] [] [] [] [] [10,11]
theorem AWt:EV AA 38 f38 e38:=⟨func38,kr,kr,rfl⟩
noncomputable def e39:Hint:=hm [6,2054,16,16] [] [] []
theorem AWs:EV AA 39 f39 e39:=⟨func39,kr,kr,rfl⟩
noncomputable def e47:Hint:=hm [1,3,5,13,4109,13,13,5,5,1] [] [9] []
theorem AWr:EV AA 47 f47 e47:=⟨func47,kr,kr,rfl⟩
noncomputable def e48:Hint:=hm [1,3,1] [] [] []
theorem AWq:EV AA 48 f48 e48:=⟨func48,kr,kr,rfl⟩
noncomputable def e49:Hint:=hm [2,514,4,67108866,4,1924145348610,4123168604162,1924145348626,9009123400089602,4,1924145348610,0x700000000000002,0xf00000000000002,0x700000000000042,0x4000000700000000000002,4,0x700000000000002,0xe0000000000000000000002,0x1e0000000000000000000002,0xe0000000000000000000102,0x80e0000000000000000000002,4,0xe0000000000000000000002,4] [] [] []
theorem AWp:EV AA 49 f49 e49:=⟨func49,kr,kr,rfl⟩
noncomputable def e50:Hint:=hm [1,513,4,7169,15361,7193,7225,7289,531545,4,68719483905,4,7169,4] [] [] []
theorem AWo:EV AA 50 f50 e50:=⟨func50,kr,kr,rfl⟩
noncomputable def e51:Hint:=hm [14,142,398,16777614,64,1166,4294968462,64,0x800000000084,64,0xe000000000084,8444249301319812,0xe000000001084,0x40e000000000084,64,0xe000000000084,0xe000000000000004,0x1e000000000000004,0xe000000000004004,0xe000000000000004,0xe000000000000004,64] [] [] []
theorem AWn:EV AA 51 f51 e51:=⟨func51,kr,kr,rfl⟩
noncomputable def e52:Hint:=hm [12,108,492,1073741996,16,0x8000000000000c,16,524,0x400000000000020c,16,1032,0x10000000000000000000000000000,16,16] [] [] [42,53]
theorem AWm:EV AA 52 f52 e52:=⟨func52,kr,kr,rfl⟩
noncomputable def e53:Hint:=hx [2,8,1032,24,524312,4,8,4] [20] [] [(1,[(3,some 0,true)]),(6,[(3,some 0,true)])] [] [] []
theorem AWl:EV AA 53 f53 e53:=⟨func53,kr,kr,rfl⟩
noncomputable def e54:Hint:=hm [56,64] [] [] []
theorem AWk:EV AA 54 f54 e54:=⟨func54,kr,kr,rfl⟩
noncomputable def e55:Hint:=hm [1,17,4,4] [6] [] []
theorem AWj:EV AA 55 f55 e55:=⟨func55,kr,kr,rfl⟩
noncomputable def e56:Hint:=hm [3,387,899,419,65955,16,387,16] [] [] []
theorem AWi:EV AA 56 f56 e56:=⟨func56,kr,kr,rfl⟩
noncomputable def e57:Hint:=hm [62,64] [] [] [30]
theorem AWh:EV AA 57 f57 e57:=⟨func57,kr,kr,rfl⟩
noncomputable def e58:Hint:=hx [105,256] [9] [11] [] [] [] [2006,2007]
theorem AWg:EV AA 58 f58 e58:=⟨func58,kr,kr,rfl⟩
noncomputable def e59:Hint:=hm [3,387,899,419,65955,16,387,16] [] [] []
theorem AWf:EV AA 59 f59 e59:=⟨func59,kr,kr,rfl⟩
noncomputable def e60:Hint:=hm [6,8] [] [] []
theorem AWe:EV AA 60 f60 e60:=⟨func60,kr,kr,rfl⟩
noncomputable def e62:Hint:=hm [2,4] [] [] []
theorem AWd:EV AA 62 f62 e62:=⟨func62,kr,kr,rfl⟩
noncomputable def e67:Hint:=hm [6,14,526,12,4] [] [] [13,14]
theorem AWc:EV AA 67 f67 e67:=⟨func67,kr,kr,rfl⟩
noncomputable def e68:Hint:=hm [6,34,546,16,8192,16,16] [] [] []
theorem AWb:EV AA 68 f68 e68:=⟨func68,kr,kr,rfl⟩
noncomputable def e69:Hint:=hm [1,2] [] [] []
theorem AWa:EV AA 69 f69 e69:=⟨func69,kr,kr,rfl⟩
noncomputable def e70:Hint:=hm [2,26,262170,786458,4,8590196762,4,4503599627632666,4,0x800000000004001a,0x800000000000001a,4,4] [] [] [8]
theorem AWZ:EV AA 70 f70 e70:=⟨func70,kr,kr,rfl⟩
noncomputable def e71:Hint:=hm [3,129,48,48] [8] [] []
theorem AWY:EV AA 71 f71 e71:=⟨func71,kr,kr,rfl⟩
noncomputable def e72:Hint:=hm [12,44,36,32,16] [] [] []
theorem AWX:EV AA 72 f72 e72:=⟨func72,kr,kr,rfl⟩
noncomputable def e81:Hint:=hm [7,64] [] [] []
theorem AWW:EV AA 81 f81 e81:=⟨func81,kr,kr,rfl⟩
noncomputable def e96:Hint:=hm [3,35,7202,15394,7330,7458,67116322,16,7202,7202,16] [10] [] []
theorem AWV:EV AA 96 f96 e96:=⟨func96,kr,kr,rfl⟩
noncomputable def e97:Hint:=hm [2,4] [] [] []
theorem AWU:EV AA 97 f97 e97:=⟨func97,kr,kr,rfl⟩
noncomputable def e98:Hint:=hm [3,35,7202,15394,7330,7458,67116322,16,7202,7202,16] [10] [] []
theorem AWT:EV AA 98 f98 e98:=⟨func98,kr,kr,rfl⟩
noncomputable def e99:Hint:=hm [2,4] [] [] []
theorem AWS:EV AA 99 f99 e99:=⟨func99,kr,kr,rfl⟩
noncomputable def AYs:Hint:=hm [7,64] [] [] []
theorem AQm:EV AA 100 f100 AYs:=⟨func100,kr,kr,rfl⟩
noncomputable def AYr:Hint:=hm [6,16] [] [] []
theorem AQl:EV AA 101 f101 AYr:=⟨func101,kr,kr,rfl⟩
noncomputable def AYq:Hint:=hm [6,8] [] [] []
theorem AQk:EV AA 102 f102 AYq:=⟨func102,kr,kr,rfl⟩
noncomputable def AYp:Hint:=hm [1,9,4] [] [] []
theorem AQj:EV AA 104 f104 AYp:=⟨func104,kr,kr,rfl⟩
noncomputable def AYo:Hint:=hm [1,1] [] [] []
theorem AQi:EV AA 105 f105 AYo:=⟨func105,kr,kr,rfl⟩
noncomputable def AYn:Hint:=hm [3,16] [5] [] []
theorem AQh:EV AA 106 f106 AYn:=⟨func106,kr,kr,rfl⟩
noncomputable def AYm:Hint:=hm [12,17179869196,16,44,549755813932,16,76,35184372088908,16,0x700000000000c,0xf00000000000c,0x700000000010c,0x700000000030c,0x100700000000030c,16,0x700000000050c,0x4000700000000050c,16,0x200000700000000000c,16,0x700000000000c,0x70000000000000000008,0xf0000000000000000008,0x70000000000000001008,0x20000000070000000000000000008,16,0x70000000000000000008,0x200000000000000000000000000000,16,16] [] [] []
theorem AQg:EV AA 107 f107 AYm:=⟨func107,kr,kr,rfl⟩
noncomputable def AYl:Hint:=hm [9,41,553,16,16] [11] [] []
theorem AQf:EV AA 108 f108 AYl:=⟨func108,kr,kr,rfl⟩
noncomputable def AYk:Hint:=hm [1,17,4,4] [6] [5,7] []
theorem AQe:EV AA 109 f109 AYk:=⟨func109,kr,kr,rfl⟩
noncomputable def AYi:Hint:=hm [3,35,4131,16,99,524387,99,227,536871139,99,99,33,16] [13,39] [] []
theorem AQd:EV AA 110 f110 AYi:=⟨func110,kr,kr,rfl⟩
noncomputable def AYh:Hint:=hm [6,8] [] [] []
theorem AQc:EV AA 111 f111 AYh:=⟨func111,kr,kr,rfl⟩
noncomputable def AYg:Hint:=hm [3,16] [5] [] []
theorem AQb:EV AA 112 f112 AYg:=⟨func112,kr,kr,rfl⟩
noncomputable def AYf:Hint:=hm [6,8] [] [] []
theorem AQa:EV AA 113 f113 AYf:=⟨func113,kr,kr,rfl⟩
noncomputable def AYe:Hint:=hm [30,62,40,1] [] [] []
theorem AQZ:EV AA 114 f114 AYe:=⟨func114,kr,kr,rfl⟩
noncomputable def AYd:Hint:=hm [63,32827,256,14680115,31457331,14681651,68734158387,14682675,72057594052608051,256,14680115,256] [17] [] [18]
theorem AQY:EV AA 115 f115 AYd:=⟨func115,kr,kr,rfl⟩
noncomputable def AYc:Hint:=hm [449,961,473,8389057,449] [] [] []
theorem AQX:EV AA 116 f116 AYc:=⟨func116,kr,kr,rfl⟩
noncomputable def AYa:Hint:=hm [19,51,3634,7730,3762,3634,3634,16] [9] [] [18,19]
theorem AQW:EV AA 121 f121 AYa:=⟨func121,kr,kr,rfl⟩
noncomputable def AYZ:Hint:=hm [28,16] [] [] []
theorem AQV:EV AA 122 f122 AYZ:=⟨func122,kr,kr,rfl⟩
noncomputable def AYY:Hint:=hm [6,4] [] [] []
theorem AQU:EV AA 123 f123 AYY:=⟨func123,kr,kr,rfl⟩
noncomputable def AYX:Hint:=hm [2,1024,4,4] [] [] []
theorem AQT:EV AA 124 f124 AYX:=⟨func124,kr,kr,rfl⟩
noncomputable def AYW:Hint:=hm [12,16] [] [] []
theorem AQS:EV AA 125 f125 AYW:=⟨func125,kr,kr,rfl⟩
noncomputable def AYV:Hint:=hm [2,10,262154,786442,786442,4,537133066,4,0x400000004000a,4,0x1000000000000004000a,4,0x10000000000000000000004000a,4,0x100000000000000000000000000004000a,4,0x10000000000000000000000000000004000a,0x10000000000000000000000000000000000a,4,4] [] [] []
theorem AQR:EV AA 126 f126 AYV:=⟨func126,kr,kr,rfl⟩
noncomputable def AYU:Hint:=hm [1,4] [] [] []
theorem AQQ:EV AA 127 f127 AYU:=⟨func127,kr,kr,rfl⟩
noncomputable def AYT:Hint:=hm [1,4] [] [] []
theorem AQP:EV AA 128 f128 AYT:=⟨func128,kr,kr,rfl⟩
noncomputable def AYS:Hint:=hm [35,64] [12] [] []
theorem AQO:EV AA 129 f129 AYS:=⟨func129,kr,kr,rfl⟩
noncomputable def AYQ:Hint:=hx [124,4220,12412,12412,128,528508,128,2147487864,128,17592186048632,17592186044536,0x1000000000000068,128,128,352,0x400000000000000000160,0xc00000000000000000160,128,0x80000000000000000000160,128,1056,128] [] [56] [] [88,90,98,100] [] [12010,12011]
theorem AQN:EV AA 130 f130 AYQ:=⟨func130,kr,kr,rfl⟩
noncomputable def AYP:Hint:=hm [25,1049,48,81,65617,48,48] [18] [] [8]
theorem AQM:EV AA 131 f131 AYP:=⟨func131,kr,kr,rfl⟩
noncomputable def AYO:Hint:=hm [12,76,204,108,4194380,16,76,16] [] [] []
theorem AQL:EV AA 132 f132 AYO:=⟨func132,kr,kr,rfl⟩
noncomputable def AYN:Hint:=hm [22,16] [] [] []
theorem AQK:EV AA 133 f133 AYN:=⟨func133,kr,kr,rfl⟩
noncomputable def AYM:Hint:=hm [78,202,64] [] [] [9,20,26]
theorem AQJ:EV AA 134 f134 AYM:=⟨func134,kr,kr,rfl⟩
noncomputable def AYL:Hint:=hm [60,1048636,3145788,2147483680,192,192,17180917820,304,192,0x4000000100034,3124,15360,192,0x10000000000000000000034,49172,0x100000000000000000000004014,192,192,327680,192] [78,79,110,125] [] [46,48]
theorem AQI:EV AA 136 f136 AYL:=⟨func136,kr,kr,rfl⟩
noncomputable def AYK:Hint:=hm [28,92,220,124,92,92,16] [] [] []
theorem AQH:EV AA 137 f137 AYK:=⟨func137,kr,kr,rfl⟩
noncomputable def AYJ:Hint:=hm [22,16] [] [] []
theorem AQG:EV AA 138 f138 AYJ:=⟨func138,kr,kr,rfl⟩
noncomputable def AYI:Hint:=hm [3,4097,48,48] [13] [] []
theorem AQF:EV AA 139 f139 AYI:=⟨func139,kr,kr,rfl⟩
noncomputable def AYG:Hint:=hm [3,35,544,96,1,16] [7,8,11] [] []
theorem AQE:EV AA 140 f140 AYG:=⟨func140,kr,kr,rfl⟩
noncomputable def AYF:Hint:=hm [21,277,789,115473,246545,117009,127249,115473,549755929361,115473,192] [14,31,32,41] [] []
theorem AQD:EV AA 141 f141 AYF:=⟨func141,kr,kr,rfl⟩
noncomputable def AYE:Hint:=hm [1,4] [] [] []
theorem AQC:EV AA 149 f149 AYE:=⟨func149,kr,kr,rfl⟩
noncomputable def AYD:Hint:=hm [1,4] [] [] []
theorem AQB:EV AA 180 f180 AYD:=⟨func180,kr,kr,rfl⟩
noncomputable def AYC:Hint:=hm [3,16] [] [] []
theorem AQA:EV AA 181 f181 AYC:=⟨func181,kr,kr,rfl⟩
noncomputable def AYB:Hint:=hm [3,387,899,419,65955,16,387,16] [] [] []
theorem AP9:EV AA 182 f182 AYB:=⟨func182,kr,kr,rfl⟩
noncomputable def AYA:Hint:=hm [28,60,8388636,16,92,67108956,340,2199023255888,1,1,4503599627370512,16,16] [] [] []
theorem AP8:EV AA 183 f183 AYA:=⟨func183,kr,kr,rfl⟩
noncomputable def AX9:Hint:=hm [12,40,16424,16,917512,1966088,917640,135135368,16,8796093939720,16,917512,16] [] [] []
theorem AP7:EV AA 184 f184 AX9:=⟨func184,kr,kr,rfl⟩
noncomputable def AX8:Hint:=hm [3,35,3618,7714,3746,528034,16,3618,3618,16] [9] [] []
theorem AP6:EV AA 188 f188 AX8:=⟨func188,kr,kr,rfl⟩
noncomputable def AX6:Hint:=hm [2,4] [] [] []
theorem AP5:EV AA 190 f190 AX6:=⟨func190,kr,kr,rfl⟩
noncomputable def AX5:Hint:=hm [28,1044,52,16436,240,496,67109360,496,536871280,1,4294967312,1,16] [] [] []
theorem AP4:EV AA 191 f191 AX5:=⟨func191,kr,kr,rfl⟩
noncomputable def AX4:Hint:=hm [19,51,3634,7730,3762,3634,3634,16] [9] [] [18,19]
theorem AP3:EV AA 194 f194 AX4:=⟨func194,kr,kr,rfl⟩
noncomputable def AX3:Hint:=hm [7,16391,64,229382,491526,229766,230150,1073971206,64,229382,64] [15] [] []
theorem AP2:EV AA 195 f195 AX3:=⟨func195,kr,kr,rfl⟩
noncomputable def AX2:Hint:=hm [1,4] [] [] []
theorem AP1:EV AA 198 f198 AX2:=⟨func198,kr,kr,rfl⟩
noncomputable def AX1:Hint:=hm [3,16] [5] [] []
theorem AP0:EV AA 199 f199 AX1:=⟨func199,kr,kr,rfl⟩
noncomputable def AXz:Hint:=hm [6,8] [] [] []
theorem APz:EV AA 200 f200 AXz:=⟨func200,kr,kr,rfl⟩
noncomputable def AXy:Hint:=hm [6,8] [] [] []
theorem APy:EV AA 201 f201 AXy:=⟨func201,kr,kr,rfl⟩
noncomputable def AXx:Hint:=hm [2,4] [] [] []
theorem APx:EV AA 202 f202 AXx:=⟨func202,kr,kr,rfl⟩
noncomputable def AXw:Hint:=hm [92,220,80,64] [] [] [17,19,24]
theorem APw:EV AA 203 f203 AXw:=⟨func203,kr,kr,rfl⟩
noncomputable def AXv:Hint:=hm [2,4] [] [] []
theorem APv:EV AA 204 f204 AXv:=⟨func204,kr,kr,rfl⟩
noncomputable def AXu:Hint:=hm [12,16] [] [] []
theorem APu:EV AA 205 f205 AXu:=⟨func205,kr,kr,rfl⟩
noncomputable def AXq:Hint:=hm [3,16] [] [] []
theorem APt:EV AA 233 f233 AXq:=⟨func233,kr,kr,rfl⟩
noncomputable def AXp:Hint:=hm [2,4] [] [] []
theorem APs:EV AA 234 f234 AXp:=⟨func234,kr,kr,rfl⟩
noncomputable def AXo:Hint:=hm [3,16] [5] [] []
theorem APr:EV AA 235 f235 AXo:=⟨func235,kr,kr,rfl⟩
noncomputable def AXn:Hint:=hm [2,4] [] [] []
theorem APq:EV AA 236 f236 AXn:=⟨func236,kr,kr,rfl⟩
noncomputable def AXm:Hint:=hm [3,35,3618,7714,3746,528034,16,3618,3618,16] [9] [] []
theorem APp:EV AA 237 f237 AXm:=⟨func237,kr,kr,rfl⟩
noncomputable def AXl:Hint:=hm [3,16] [5] [] []
theorem APo:EV AA 238 f238 AXl:=⟨func238,kr,kr,rfl⟩
noncomputable def AXj:Hint:=hm [3,35,3618,7714,3746,528034,16,3618,3618,16] [9] [] []
theorem APn:EV AA 241 f241 AXj:=⟨func241,kr,kr,rfl⟩
noncomputable def AXi:Hint:=hm [3,35,32803,16,917507,1966083,917635,917891,269353347,16,918019,34360656387,16,917507,2048,35184372088832,16,16] [39,40] [] []
theorem APm:EV AA 243 f243 AXi:=⟨func243,kr,kr,rfl⟩
noncomputable def AXh:Hint:=hm [3,16] [5] [] []
theorem APl:EV AA 244 f244 AXh:=⟨func244,kr,kr,rfl⟩
noncomputable def AXg:Hint:=hm [2,10,136,24,65560,1,4] [] [] []
theorem APk:EV AA 245 f245 AXg:=⟨func245,kr,kr,rfl⟩
noncomputable def AXf:Hint:=hm [3,8] [] [] []
theorem APj:EV AA 246 f246 AXf:=⟨func246,kr,kr,rfl⟩
noncomputable def AXd:Hint:=hm [1,2] [] [] []
theorem APi:EV AA 255 f255 AXd:=⟨func255,kr,kr,rfl⟩
noncomputable def AXc:Hint:=hm [2,4] [] [] []
theorem APh:EV AA 256 f256 AXc:=⟨func256,kr,kr,rfl⟩
noncomputable def AXb:Hint:=hm [1,131073,4,17,4] [] [] []
theorem APg:EV AA 259 f259 AXb:=⟨func259,kr,kr,rfl⟩
noncomputable def AXZ:Hint:=hm [3,387,899,419,65955,16,387,16] [] [] []
theorem APf:EV AA 260 f260 AXZ:=⟨func260,kr,kr,rfl⟩
noncomputable def AXY:Hint:=hx [8199,7,23,2097159,23,33554439,23,55,1073741879,55,137438953511,39,70368744177671] [] [] [] [] [] [9,11]
theorem APe:EV AA 261 f261 AXY:=⟨func261,kr,kr,rfl⟩
noncomputable def AXV:Hint:=hm [1,1] [] [] []
theorem APd:EV AA 286 f286 AXV:=⟨func286,kr,kr,rfl⟩
noncomputable def AXU:Hint:=hm [7,1030,7174,1414,525446,64,64] [] [] []
theorem APc:EV AA 288 f288 AXU:=⟨func288,kr,kr,rfl⟩
noncomputable def AXT:Hint:=hm [3,387,899,419,65955,16,387,16] [] [] []
theorem APb:EV AA 289 f289 AXT:=⟨func289,kr,kr,rfl⟩
noncomputable def AXR:Hint:=hm [3,387,899,419,65955,16,387,16] [] [] []
theorem APa:EV AA 290 f290 AXR:=⟨func290,kr,kr,rfl⟩
noncomputable def AXQ:Hint:=hm [1,513,4,7168,15360,7184,7216,1055792,4,7232,67116096,4,7168,4] [10] [] []
theorem APZ:EV AA 291 f291 AXQ:=⟨func291,kr,kr,rfl⟩
noncomputable def AXP:Hint:=hm [28,60,8252,16,65556,84,524372,1572948,144,134217872,1,536870996,848,274877907280,1,2199023255568,1,16] [] [] [45]
theorem APY:EV AA 292 f292 AXP:=⟨func292,kr,kr,rfl⟩
noncomputable def AXO:Hint:=hm [12,44,524332,16,76,274877906956,16,7696581394444,0xf000000000c,7696581394828,4511296208764940,16,7696581394444,520,0x400000000000000000,16,16] [] [] [68]
theorem APX:EV AA 293 f293 AXO:=⟨func293,kr,kr,rfl⟩
noncomputable def AXN:Hint:=hx [3,67,195,14680257,31457473,14680769,14681281,2162164929,14683329,3848305380545,8246351891649,3848305388737,3848305396929,3848305380545,3848305380545,14748865,15142081,0x4000000000000e70cc1,15142081,0x800000000000000000000000e50cc1,48,0x10000000000000000000000000e10cc1,14746817,14680257,14680257,48] [21,52] [] [] [36] [] [18]
theorem APW:EV AA 294 f294 AXN:=⟨func294,kr,kr,rfl⟩
noncomputable def AXM:Hint:=hm [3,387,899,419,65955,16,387,16] [] [] []
theorem APV:EV AA 295 f295 AXM:=⟨func295,kr,kr,rfl⟩
noncomputable def AXL:Hint:=hm [2,4] [] [] []
theorem APU:EV AA 296 f296 AXL:=⟨func296,kr,kr,rfl⟩
noncomputable def AXK:Hint:=hm [2,4] [] [] []
theorem APT:EV AA 298 f298 AXK:=⟨func298,kr,kr,rfl⟩
noncomputable def AXI:Hint:=hm [6,14,10,1] [] [] []
theorem APS:EV AA 304 f304 AXI:=⟨func304,kr,kr,rfl⟩
noncomputable def AXH:Hint:=hm [14,1036,16,28676,61444,28740,2125828,16,28676,16] [] [] []
theorem APR:EV AA 305 f305 AXH:=⟨func305,kr,kr,rfl⟩
noncomputable def AXG:Hint:=hm [1,4] [] [] []
theorem APQ:EV AA 307 f307 AXG:=⟨func307,kr,kr,rfl⟩
noncomputable def AXF:Hint:=hm [3,67,451,33219,963,134218691,451,451,48] [43] [] []
theorem APP:EV AA 308 f308 AXF:=⟨func308,kr,kr,rfl⟩
noncomputable def AXE:Hint:=hm [3,35,65571,35,16] [] [] []
theorem APO:EV AA 309 f309 AXE:=⟨func309,kr,kr,rfl⟩
noncomputable def AXC:Hint:=hm [1,4] [] [] []
theorem APN:EV AA 310 f310 AXC:=⟨func310,kr,kr,rfl⟩
noncomputable def AXB:Hint:=hm [1,4] [] [] []
theorem APM:EV AA 311 f311 AXB:=⟨func311,kr,kr,rfl⟩
noncomputable def AW9:Hint:=hm [2,32,4,4] [] [] []
theorem APL:EV AA 324 f324 AW9:=⟨func324,kr,kr,rfl⟩
noncomputable def AW8:Hint:=hm [6,14,10,1] [] [] []
theorem APK:EV AA 329 f329 AW8:=⟨func329,kr,kr,rfl⟩
noncomputable def AW6:Hint:=hm [14,1036,16,28676,61444,28740,2125828,16,28676,16] [] [] []
theorem APJ:EV AA 330 f330 AW6:=⟨func330,kr,kr,rfl⟩
noncomputable def AW5:Hint:=hm [33,161,41,8225] [] [] []
theorem API:EV AA 333 f333 AW5:=⟨func333,kr,kr,rfl⟩
noncomputable def AW4:Hint:=hm [7,64] [] [] []
theorem APH:EV AA 335 f335 AW4:=⟨func335,kr,kr,rfl⟩
noncomputable def AW3:Hint:=hm [3,16] [] [] []
theorem APG:EV AA 336 f336 AW3:=⟨func336,kr,kr,rfl⟩
noncomputable def AW2:Hint:=hm [1,4] [] [] []
theorem APF:EV AA 337 f337 AW2:=⟨func337,kr,kr,rfl⟩
noncomputable def AW1:Hint:=hm [2,66,4,2147483650,4,10,2199023255562,6597069766666,4,0x8002000000000a,4,0x800002000000000a,4,0x4000000002000000000a,4,0x1000000000000002000000000a,4,0x1000000000000000000000000002,4,4] [] [] []
theorem APE:EV AA 341 f341 AW1:=⟨func341,kr,kr,rfl⟩
noncomputable def AWz:Hint:=hm [12,16] [] [] []
theorem APD:EV AA 351 f351 AWz:=⟨func351,kr,kr,rfl⟩
noncomputable def AWx:Hint:=hm [1,1] [] [] []
theorem APC:EV AA 365 f365 AWx:=⟨func365,kr,kr,rfl⟩
noncomputable def AWw:Hint:=hm [3,1027,16,12291,28675,12323,16789507,16,12291,16] [] [] []
theorem APB:EV AA 367 f367 AWw:=⟨func367,kr,kr,rfl⟩
noncomputable def ab:ETree:=(.node (.node (.node (.node (.node (.node (.node (.node .nil 5 f5 e5 .nil) 6 f6 e6 .nil) 9 f9 e9 (.node .nil 10 f10 e10 .nil)) 11 f11 e11 (.node (.node (.node .nil 12 f12 e12 .nil) 13 f13 e13 .nil) 18 f18 e18 (.node .nil 19 f19 e19 .nil))) 20 f20 e20 (.node (.node (.node (.node .nil 21 f21 e21 .nil) 22 f22 e22 .nil) 23 f23 e23 (.node .nil 24 f24 e24 .nil)) 25 f25 e25 (.node (.node (.node .nil 26 f26 e26 .nil) 27 f27 e27 .nil) 28 f28 e28 (.node .nil 29 f29 e29 .nil)))) 30 f30 e30 (.node (.node (.node (.node (.node .nil 31 f31 e31 .nil) 32 f32 e32 .nil) 34 f34 e34 (.node .nil 35 f35 e35 .nil)) 36 f36 e36 (.node (.node (.node .nil 37 f37 e37 .nil) 38 f38 e38 .nil) 39 f39 e39 (.node .nil 47 f47 e47 .nil))) 48 f48 e48 (.node (.node (.node (.node .nil 49 f49 e49 .nil) 50 f50 e50 .nil) 51 f51 e51 (.node .nil 52 f52 e52 .nil)) 53 f53 e53 (.node (.node .nil 54 f54 e54 .nil) 55 f55 e55 (.node .nil 56 f56 e56 .nil))))) 57 f57 e57 (.node (.node (.node (.node (.node (.node .nil 58 f58 e58 .nil) 59 f59 e59 .nil) 60 f60 e60 (.node .nil 62 f62 e62 .nil)) 67 f67 e67 (.node (.node (.node .nil 68 f68 e68 .nil) 69 f69 e69 .nil) 70 f70 e70 (.node .nil 71 f71 e71 .nil))) 72 f72 e72 (.node (.node (.node (.node .nil 81 f81 e81 .nil) 96 f96 e96 .nil) 97 f97 e97 (.node .nil 98 f98 e98 .nil)) 99 f99 e99 (.node (.node (.node .nil 100 f100 AYs .nil) 101 f101 AYr .nil) 102 f102 AYq (.node .nil 104 f104 AYp .nil)))) 105 f105 AYo (.node (.node (.node (.node (.node .nil 106 f106 AYn .nil) 107 f107 AYm .nil) 108 f108 AYl (.node .nil 109 f109 AYk .nil)) 110 f110 AYi (.node (.node (.node .nil 111 f111 AYh .nil) 112 f112 AYg .nil) 113 f113 AYf (.node .nil 114 f114 AYe .nil))) 115 f115 AYd (.node (.node (.node (.node .nil 116 f116 AYc .nil) 121 f121 AYa .nil) 122 f122 AYZ (.node .nil 123 f123 AYY .nil)) 124 f124 AYX (.node (.node .nil 125 f125 AYW .nil) 126 f126 AYV (.node .nil 127 f127 AYU .nil)))))) 128 f128 AYT (.node (.node (.node (.node (.node (.node (.node .nil 129 f129 AYS .nil) 130 f130 AYQ .nil) 131 f131 AYP (.node .nil 132 f132 AYO .nil)) 133 f133 AYN (.node (.node (.node .nil 134 f134 AYM .nil) 136 f136 AYL .nil) 137 f137 AYK (.node .nil 138 f138 AYJ .nil))) 139 f139 AYI (.node (.node (.node (.node .nil 140 f140 AYG .nil) 141 f141 AYF .nil) 149 f149 AYE (.node .nil 180 f180 AYD .nil)) 181 f181 AYC (.node (.node (.node .nil 182 f182 AYB .nil) 183 f183 AYA .nil) 184 f184 AX9 (.node .nil 188 f188 AX8 .nil)))) 190 f190 AX6 (.node (.node (.node (.node (.node .nil 191 f191 AX5 .nil) 194 f194 AX4 .nil) 195 f195 AX3 (.node .nil 198 f198 AX2 .nil)) 199 f199 AX1 (.node (.node (.node .nil 200 f200 AXz .nil) 201 f201 AXy .nil) 202 f202 AXx (.node .nil 203 f203 AXw .nil))) 204 f204 AXv (.node (.node (.node (.node .nil 205 f205 AXu .nil) 233 f233 AXq .nil) 234 f234 AXp (.node .nil 235 f235 AXo .nil)) 236 f236 AXn (.node (.node .nil 237 f237 AXm .nil) 238 f238 AXl (.node .nil 241 f241 AXj .nil))))) 243 f243 AXi (.node (.node (.node (.node (.node (.node .nil 244 f244 AXh .nil) 245 f245 AXg .nil) 246 f246 AXf (.node .nil 255 f255 AXd .nil)) 256 f256 AXc (.node (.node (.node .nil 259 f259 AXb .nil) 260 f260 AXZ .nil) 261 f261 AXY (.node .nil 286 f286 AXV .nil))) 288 f288 AXU (.node (.node (.node (.node .nil 289 f289 AXT .nil) 290 f290 AXR .nil) 291 f291 AXQ (.node .nil 292 f292 AXP .nil)) 293 f293 AXO (.node (.node .nil 294 f294 AXN .nil) 295 f295 AXM (.node .nil 296 f296 AXL .nil)))) 298 f298 AXK (.node (.node (.node (.node (.node .nil 304 f304 AXI .nil) 305 f305 AXH .nil) 307 f307 AXG (.node .nil 308 f308 AXF .nil)) 309 f309 AXE (.node (.node (.node .nil 310 f310 AXC .nil) 311 f311 AXB .nil) 324 f324 AW9 (.node .nil 329 f329 AW8 .nil))) 330 f330 AW6 (.node (.node (.node (.node .nil 333 f333 AW5 .nil) 335 f335 AW4 .nil) 336 f336 AW3 (.node .nil 337 f337 AW2 .nil)) 341 f341 AW1 (.node (.node .nil 351 f351 AWz .nil) 365 f365 AWx (.node .nil 367 f367 AWw .nil)))))))
theorem Vy:ab.All AA:=⟨⟨⟨⟨⟨⟨⟨⟨trivial,AbH,trivial⟩,AbG,trivial⟩,AbF,⟨trivial,AYj,trivial⟩⟩,AYb,⟨⟨⟨trivial,AYR,trivial⟩,AYH,trivial⟩,AX7,⟨trivial,AX0,trivial⟩⟩⟩,AXt,⟨⟨⟨⟨trivial,AXs,trivial⟩,AXr,trivial⟩,AXk,⟨trivial,AXe,trivial⟩⟩,AXa,⟨⟨⟨trivial,AXX,trivial⟩,AXW,trivial⟩,AXS,⟨trivial,AXJ,trivial⟩⟩⟩⟩,AXD,⟨⟨⟨⟨⟨trivial,AXA,trivial⟩,AW7,trivial⟩,AW0,⟨trivial,AWy,trivial⟩⟩,AWv,⟨⟨⟨trivial,AWu,trivial⟩,AWt,trivial⟩,AWs,⟨trivial,AWr,trivial⟩⟩⟩,AWq,⟨⟨⟨⟨trivial,AWp,trivial⟩,AWo,trivial⟩,AWn,⟨trivial,AWm,trivial⟩⟩,AWl,⟨⟨trivial,AWk,trivial⟩,AWj,⟨trivial,AWi,trivial⟩⟩⟩⟩⟩,AWh,⟨⟨⟨⟨⟨⟨trivial,AWg,trivial⟩,AWf,trivial⟩,AWe,⟨trivial,AWd,trivial⟩⟩,AWc,⟨⟨⟨trivial,AWb,trivial⟩,AWa,trivial⟩,AWZ,⟨trivial,AWY,trivial⟩⟩⟩,AWX,⟨⟨⟨⟨trivial,AWW,trivial⟩,AWV,trivial⟩,AWU,⟨trivial,AWT,trivial⟩⟩,AWS,⟨⟨⟨trivial,AQm,trivial⟩,AQl,trivial⟩,AQk,⟨trivial,AQj,trivial⟩⟩⟩⟩,AQi,⟨⟨⟨⟨⟨trivial,AQh,trivial⟩,AQg,trivial⟩,AQf,⟨trivial,AQe,trivial⟩⟩,AQd,⟨⟨⟨trivial,AQc,trivial⟩,AQb,trivial⟩,AQa,⟨trivial,AQZ,trivial⟩⟩⟩,AQY,⟨⟨⟨⟨trivial,AQX,trivial⟩,AQW,trivial⟩,AQV,⟨trivial,AQU,trivial⟩⟩,AQT,⟨⟨trivial,AQS,trivial⟩,AQR,⟨trivial,AQQ,trivial⟩⟩⟩⟩⟩⟩,AQP,⟨⟨⟨⟨⟨⟨⟨trivial,AQO,trivial⟩,AQN,trivial⟩,AQM,⟨trivial,AQL,trivial⟩⟩,AQK,⟨⟨⟨trivial,AQJ,trivial⟩,AQI,trivial⟩,AQH,⟨trivial,AQG,trivial⟩⟩⟩,AQF,⟨⟨⟨⟨trivial,AQE,trivial⟩,AQD,trivial⟩,AQC,⟨trivial,AQB,trivial⟩⟩,AQA,⟨⟨⟨trivial,AP9,trivial⟩,AP8,trivial⟩,AP7,⟨trivial,AP6,trivial⟩⟩⟩⟩,AP5,⟨⟨⟨⟨⟨trivial,AP4,trivial⟩,AP3,trivial⟩,AP2,⟨trivial,AP1,trivial⟩⟩,AP0,⟨⟨⟨trivial,APz,trivial⟩,APy,trivial⟩,APx,⟨trivial,APw,trivial⟩⟩⟩,APv,⟨⟨⟨⟨trivial,APu,trivial⟩,APt,trivial⟩,APs,⟨trivial,APr,trivial⟩⟩,APq,⟨⟨trivial,APp,trivial⟩,APo,⟨trivial,APn,trivial⟩⟩⟩⟩⟩,APm,⟨⟨⟨⟨⟨⟨trivial,APl,trivial⟩,APk,trivial⟩,APj,⟨trivial,APi,trivial⟩⟩,APh,⟨⟨⟨trivial,APg,trivial⟩,APf,trivial⟩,APe,⟨trivial,APd,trivial⟩⟩⟩,APc,⟨⟨⟨⟨trivial,APb,trivial⟩,APa,trivial⟩,APZ,⟨trivial,APY,trivial⟩⟩,APX,⟨⟨trivial,APW,trivial⟩,APV,⟨trivial,APU,trivial⟩⟩⟩⟩,APT,⟨⟨⟨⟨⟨trivial,APS,trivial⟩,APR,trivial⟩,APQ,⟨trivial,APP,trivial⟩⟩,APO,⟨⟨⟨trivial,APN,trivial⟩,APM,trivial⟩,APL,⟨trivial,APK,trivial⟩⟩⟩,APJ,⟨⟨⟨⟨trivial,API,trivial⟩,APH,trivial⟩,APG,⟨trivial,APF,trivial⟩⟩,APE,⟨⟨trivial,APD,trivial⟩,APC,⟨trivial,APB,trivial⟩⟩⟩⟩⟩⟩⟩
theorem yg:Tryz.prog.follows .mixedOrders=true:=kr
open Go.MapKept Go.Maps Go.WideElems Go.WideShapes
def mj(x:Int):List Int->List Int
 | []=>[x]
 | y::l=>if x<=y then x::y::l else y::mj x l
def Nr:List Int->List Int
 | []=>[]
 | x::l=>mj x (Nr l)
theorem SD(x:Int): ∀ l,(mj x l).Perm (x::l)
 | [] => .refl _
 | y::l=>by
  unfold mj
  split
  ·exact .refl _
  ·exact ((SD x l).cons y).trans (.swap _ _ _)
theorem Nq : ∀ l,(Nr l).Perm l
 | [] => .refl _
 | x::l=>(SD x _).trans ((Nq l).cons x)
theorem TB{x:Int}: ∀ {l:List Int},l.Pairwise (· <= ·)->(mj x l).Pairwise (· <= ·)
 | [],_=>by simp [mj]
 | y::l,h=>by
  unfold mj
  split
  ·rename_i hxy
   refine List.Pairwise.cons (λz hz=>?_) h
   rcases AZ.1 hz with rfl|hz
   ·exact hxy
   ·exact Int.le_trans hxy ((Bi.1 h).1 z hz)
  ·rename_i hxy
   obtain ⟨h1,h2⟩:=Bi.1 h
   refine List.Pairwise.cons (λz hz=>?_) (TB h2)
   rcases AZ.1 ((SD x l).mem_iff.1 hz) with rfl|hz
   ·omega
   ·exact h1 z hz
theorem PK : ∀ l:List Int,(Nr l).Pairwise (· <= ·)
 | [] => .nil
 | _::l=>TB (PK l)
theorem uM{l l':List Int}(h:l'.Perm l):l'.mergeSort (λx y=>decide (x<=y))=Nr l:=by
 have tr : ∀ a b c:Int,leI a b=true->leI b c=true->leI a c=true:=λa b c h1 h2=>by simp only [leI,decide_eq_true_eq] at *;exact Int.le_trans h1 h2
 have to : ∀ a b:Int,(leI a b||leI b a)=true:=λa b=>by simp only [leI,CJ,decide_eq_true_eq];exact Int.le_total a b
 refine List.Perm.eq_of_pairwise (le:=λa b=>a<=b) (λa b _ _ h1 h2=>Int.le_antisymm h1 h2) ?_ (PK l) (((List.mergeSort_perm l' _).trans h).trans (Nq l).symm)
 exact (List.pairwise_mergeSort tr to l').imp λ{a b} hab=>by simpa [leI] using hab
def ADH:AV->Int
 | .int _ n=>n
 | _=>0
def zL:AV->Bool
 | .int .i64 n=>(Lit.int .i64 n).wf
 | _=>false
def LZ(es:List (AV×AV)):List Int:=es.map λp=>ADH p.1
def U8(es:List (AV×AV)):Bool:=es.all (λp=>zL p.1)&&Y7 es
theorem Vh{a:AV}(h:zL a=true): ∃ n,a = .int .i64 n/\(Lit.int .i64 n).wf=true:=by
 unfold zL at h
 split at h
 ·exact ⟨_,rfl,h⟩
 ·cases h
abbrev RT:Value->Option (DataW Unit×List MemPlace):=λ_=>some (.lit (.bool true),[])
section
variable {P:Program} {F:Nat->Prop} {G:Gh} {w:World} {H:DM}
theorem yh {k:TypeId} (hk:P.underlying k=some (.int .i64)) {vs:List AV} {us:List Value} (hc:CRel F G vs H us w) {o:Nat} {um:Value} (hm:VRel G w (.mapr o) um) {es:List (AV×AV)}
  (he:HV H (.mapr o)=some es) (hok:U8 es=true) (hlen:es.length<=maxLen) :
  ∃ b D0,um = .map (some b)/\w.ownsMap P k RT b es.length D0/\(intKeys D0).Perm (LZ es)/\Maps.size D0=es.length:=by
 simp only [U8,AR] at hok
 obtain ⟨hk1,hk2⟩:=hok
 have hd:=V4 hk2
 rcases R3 hc hm he with ⟨h,_⟩|⟨o',b,ms,cl,ho,rfl,hob,hkb,hms,hl,hH,hrel⟩
 ·cases h
 cases ho
 obtain ⟨hcl,hborn⟩:=Ku hc hH hob hkb hms
 have key : ∀ (i:Nat) (x:MapEntry),ms[i]? =some x -> ∃ (p:AV×AV) (n:Int),es[i]? =some p/\p.1 = .int .i64 n/\x.key=encZ n/\(Lit.int .i64 n).wf=true:=λi x hx=>by
  have hlt:=(Ap.1 hx).1
  have hp:es[i]? =some (es[i]' DF):=AL _
  obtain ⟨n,hn,hw⟩:=Vh (Ao.1 hk1 _ (List.mem_of_getElem? hp))
  have hv:=(hrel i _ x hp hx).2.2.1
  rw [hn] at hv
  refine ⟨_,n,hp,hn, ?_,hw⟩
  generalize x.key=y at hv ⊢
  cases hv;rfl
 have hR : ∀ x∈ms.toList,∃ (i:Nat) (p:AV×AV) (n:Int),ms[i]? =some x/\es[i]? =some p/\p.1 = .int .i64 n/\rd P k RT x=some (.int .i64 n,.lit (.bool true)):=λx hx=>by
  obtain ⟨i,hi⟩:=Af hx
  rw [Ad] at hi
  obtain ⟨p,n,h1,h2,h3,h4⟩:=key i x hi
  refine ⟨i,p,n,hi,h1,h2, ?_⟩
  have:keyOf P k x.key=some (.int .i64 n):=by
   rw [h3]
   simp [keyOf,hk,mapKey,encZ,h4]
  simp [rd,this,RT]
 have hmap:ms.toList.map (λx=>intOf (rg P k RT x).1)=LZ es:=by
  apply A4
  intro i
  unfold LZ
  rw [Ac,Ac,Ad]
  cases hx:ms[i]? with
  | none =>
   have:es[i]? =none:=Ax (by have:=Df.1 hx;omega)
   rw [this];rfl
  | some x =>
   obtain ⟨p,n,h1,h2,h3,h4⟩:=key i x hx
   have:keyOf P k x.key=some (.int .i64 n):=by
    rw [h3]
    simp [keyOf,hk,mapKey,encZ,h4]
   rw [h1]
   simp [rg,rd,this,RT,intOf,h2,ADH]
 have hkeys:ms.toList.map (·.key)=(LZ es).map encZ:=by
  apply A4
  intro i
  unfold LZ
  rw [Ac,Ac,Ac,Ad]
  cases hx:ms[i]? with
  | none =>
   have:es[i]? =none:=Ax (by have:=Df.1 hx;omega)
   rw [this];rfl
  | some x =>
   obtain ⟨p,n,h1,h2,h3,h4⟩:=key i x hx
   rw [h1]
   simp [h2,h3,ADH]
 have hborns:ms.toList.map (·.born)=Am ms.size:=by
  apply A4
  intro i
  rw [Ac,Ad]
  cases hx:ms[i]? with
  | none =>
   have:=Df.1 hx
   rw [Ax (by simpa using this)];rfl
  | some x =>
   have:=(Ap.1 hx).1
   rw [AL (by simpa using this)]
   simp [hborn i x hx]
 have hnd:(LZ es).Nodup:=by
  refine EA.2 (hd.imp_of_mem λ{p q} hp hq h e=>?_)
  obtain ⟨n,hn,_⟩:=Vh (Ao.1 hk1 _ hp)
  obtain ⟨m,hm,_⟩:=Vh (Ao.1 hk1 _ hq)
  rw [hn,hm] at h e
  simp [ADH] at e
  subst e
  simp [GU,Mi] at h
 refine ⟨b,_,rfl,⟨ms,cl,hms,⟨DF,⟨λx hx=>?_, ?_, ?_⟩,λx hx=>?_⟩,DF,rfl⟩, ?_, ?_⟩
 ·obtain ⟨i,hi⟩:=Af hx
  rw [Ad] at hi
  have:=(Ap.1 hi).1
  rw [hborn i x hi];omega
 ·rw [hborns];exact List.nodup_range
 ·rw [hkeys]
  exact EA.2 (hnd.imp λh e=>h (encZ_inj e))
 ·obtain ⟨i,p,n,_,_,_,h⟩:=hR x hx
  exact ⟨_,h⟩
 ·show (List.map _ _).Perm _
  rw [<- hmap,show (ms.toList.map λx=>intOf (rg P k RT x).1)=(ms.toList.map (rg P k RT)).map λp=>intOf p.1 by rw [List.map_map];rfl]
  exact (sorted_perm _).map _
 ·show List.length _=_
  rw [(sorted_perm _).length_eq,Aq,Array.length_toList,hl]
theorem ul(hF : ∀ b,F b->b<w.heap.size){w':World}(hb:RowKit.Below w.heap.size w w'){g:Nat}(hg:w.heap.size<=g)(k:Kind):Ext F G w (G.setKind g k) w':=by
 have ne : ∀ b,b<w.heap.size->b≠g:=λb h e=>DF
 refine ⟨hb.size,⟨λ_ _ h=>h,λb C E hc=>?_,λb hlt _=>⟨Nat.lt_of_lt_of_le hlt hb.size,G.kind_set_ne k (ne b hlt)⟩,λb off v hs hc=>?_⟩,λb h=>G.kind_set_ne k (ne b (hF b h)),λb h=>hb.block b (hF b h),⟨hb.os,hb.tape,hb.output⟩⟩
 ·exact ⟨C,(hb.block b (Ap.1 hc).1).trans hc,rfl⟩
 ·have hlt:=rm hc
  exact ⟨(G.safe_set_ne k (ne b hlt)).2 hs,(hb.cell (p:=⟨b,off,none⟩) hlt).trans hc⟩
theorem qW {vs:List AV} {us:List Value} (hc:CRel F G vs H us w) {w':World} (hb:RowKit.Below w.heap.size w w') {g:Nat} (hg:w.heap.size<=g) {R:AV->DM->Prop} {v:AV} {u:Value} (hR:R v H)
  (hv:VRel (G.setKind g .imm) w' v u) (ht:Fa v u=[]):ES F G w R u w':=by
 have he:=ul (F:=F) (G:=G) hc.h.fore hb hg .imm
 have hne : ∀ b,b<w.heap.size->(G.setKind g .imm).kind b=G.kind b/\w'.heap[b]? =w.heap[b]?:=λb hlt=>⟨G.kind_set_ne .imm DF,hb.block b hlt⟩
 refine ⟨v,H,_,hR,⟨.cons hv (ET ht _ _ _) (.nil _ _ _),hc.h.ext he rfl λb hb'=>?_,λb=>?_⟩,he⟩
 ·rcases hb' with ⟨o',cs,h1,h2⟩|hb'
  ·exact hne b (hc.h.block_lt h1 h2)
  ·obtain ⟨_,_,C,E,t3⟩:=hc.h.tok_of_pos hb'
   exact hne b (Ap.1 t3).1
 ·rw [L7 (G:=G) (w:=w) (G':=G.setKind g .imm) rfl λo' cs b' h1 h2=>(hne b' (hc.h.block_lt h1 h2)).2,EK,FA,ht]
  have:=hc.cnt b
  simp
  omega
theorem zM{w':World}{base e:Nat}{v:Value}{ss:List Int}(h:w'.ownsRow base e 1 v ss.length (ss.map encZ)):
  ∃ g,base<=g /\ ∀ G:Gh,VRel (G.setKind g .imm) w' (.sl none (ss.map (.int .i64))) v:=by
 obtain ⟨hl,h⟩:=h
 rcases h with ⟨rfl,h0⟩|⟨g,cap,cur,rfl,hbg,hg,h1,h2,h3,h4⟩
 ·obtain rfl:=List.eq_nil_of_length_eq_zero h0
  exact ⟨base,Nat.le_refl _,λG => .slnil none⟩
 ·refine ⟨g,hbg,λG=>?_⟩
  have hlen:(ss.map (AV.int .i64)).length=ss.length:=Aq ..
  have hcat:F4 (ss.map (AV.int .i64))=ss.map (AV.int .i64):=by
   unfold F4
   rw [List.flatMap_map]
   clear hl hlen h4 h1
   induction ss with
   | nil=>rfl
   | cons x l ih=>rw [List.flatMap_cons,ih];rfl
  rw [<- hlen]
  refine .sl none _ 1 g 0 cap (λi=>encZ (ss[i]?.getD 0)) (λa ha=>?_) (λ_ h=>by cases h) (by rw [hlen];exact h1) h2 (λi c hi=>?_) (λi c hi=>?_)
  ·obtain ⟨n,_,rfl⟩:=List.mem_map.1 ha;rfl
  ·rw [hcat,Ac] at hi
   cases hs:ss[i]? with
   | none=>rw [hs] at hi;cases hi
   | some n =>
    rw [hs] at hi;cases hi
    refine ⟨rfl, ?_, ?_⟩
    ·unfold Gh.safe;rw [G.kind_set];trivial
    ·have hin:(cur.toList.take (ss.length*1))[i]? =some (encZ n):=by rw [h4,Ac,hs];rfl
     have hci:cur[i]? =some (encZ n):=by
      rw [List.getElem?_take] at hin
      split at hin
      ·rwa [Ad] at hin
      ·cases hin
     simp [World.cell?,hg,hci]
  ·rw [hcat,Ac] at hi
   cases hs:ss[i]? with
   | none=>rw [hs] at hi;cases hi
   | some n =>
    rw [hs] at hi;cases hi
    exact .int _ _
end
end Go.AI
namespace Go.Proofs
open Go.RowKit Go.Maps Go.Sort Go.Shelf Go.AI
def K7:Go.Shelf.Ren:=⟨fun|7=>298|10=>333|n=>n,fun|23=>134|26=>3|3=>4|28=>349|0=>0|27=>348|33=>219|4=>4|n=>n,fun|n=>n⟩
theorem qF:Go.Proofs.SlLaysZI.n7 AA K7:={
 mixed:=kr
 f7:=⟨f298.name,dc,func298.trans (congrArg some kr)⟩
 f10:=⟨f333.name,dc,func333.trans (congrArg some kr)⟩
 t0:=Tryz.underlying0
 a0:=Tryz.isAgg0
 z0:=Tryz.sizeOf0
 v0:=Tryz.zeroValue0
 t4:=Tryz.underlying4
 a4:=Tryz.isAgg4
 z4:=Tryz.sizeOf4
 v4:=Tryz.zeroValue4
 t23:=Tryz.underlying134
 a23:=Tryz.isAgg134
 z23:=Tryz.sizeOf134
 v23:=Tryz.zeroValue134
 t26:=Tryz.underlying3
 a26:=Tryz.isAgg3
 z26:=Tryz.sizeOf3
 v26:=Tryz.zeroValue3
 t27:=Tryz.underlying348
 a27:=Tryz.isAgg348
 z27:=Tryz.sizeOf348
 v27:=Tryz.zeroValue348
 t28:=Tryz.underlying349
 a28:=Tryz.isAgg349
 z28:=Tryz.sizeOf349
 v28:=Tryz.zeroValue349
 t33:=Tryz.underlying219
 a33:=Tryz.isAgg219
 z33:=Tryz.sizeOf219
 v33:=Tryz.zeroValue219 }
def MF:Go.Shelf.Ren:=⟨fun|6=>297|8=>331|9=>332|11=>344|13=>346|12=>345|23=>363|24=>364|14=>354|15=>355|16=>356|17=>357|18=>358|19=>359|20=>360|21=>361|22=>362|25=>369|26=>370|27=>371|28=>372|29=>373|30=>213|31=>375|n=>n,fun|26=>3|28=>349|24=>61|0=>0|3=>3|37=>332|48=>387|50=>389|4=>4|40=>381|39=>380|45=>100|5=>5|9=>9|51=>392|55=>326|57=>397|58=>79|33=>219|n=>n,fun|n=>n⟩
theorem bQ:Go.Proofs.SlLaysZI.n6 AA MF:={
 mixed:=kr
 f6:=⟨f297.name,dc,func297.trans (congrArg some kr)⟩
 f8:=⟨f331.name,dc,func331.trans (congrArg some kr)⟩
 f11:=⟨f344.name,dc,func344.trans (congrArg some kr)⟩
 t0:=Tryz.underlying0
 a0:=Tryz.isAgg0
 z0:=Tryz.sizeOf0
 v0:=Tryz.zeroValue0
 t24:=Tryz.underlying61
 a24:=Tryz.isAgg61
 z24:=Tryz.sizeOf61
 v24:=Tryz.zeroValue61
 t26:=Tryz.underlying3
 a26:=Tryz.isAgg3
 z26:=Tryz.sizeOf3
 v26:=Tryz.zeroValue3
 t28:=Tryz.underlying349
 a28:=Tryz.isAgg349
 z28:=Tryz.sizeOf349
 v28:=Tryz.zeroValue349
 i26:=by kernel_rfl }
def WW:Go.Shelf.Ren:=⟨fun|5=>332|8=>346|7=>345|19=>363|20=>364|10=>354|11=>355|12=>356|13=>357|14=>358|15=>359|16=>360|17=>361|18=>362|30=>369|31=>370|32=>371|33=>372|34=>373|35=>213|40=>375|n=>n,fun|23=>61|25=>3|3=>3|32=>332|22=>61|0=>0|44=>387|46=>389|4=>4|36=>381|35=>380|41=>100|5=>5|9=>9|53=>392|57=>326|63=>397|64=>79|n=>n,fun|n=>n⟩
theorem WX:Go.Proofs.SlLaysM.n5 AA WW:={
 mixed:=kr
 f5:=⟨f332.name,dc,func332.trans (congrArg some kr)⟩
 f7:=⟨f345.name,dc,func345.trans (congrArg some kr)⟩
 f8:=func346.trans (congrArg some kr)
 f10:=⟨f354.name,dc,func354.trans (congrArg some kr)⟩
 f11:=⟨f355.name,dc,func355.trans (congrArg some kr)⟩
 f12:=⟨f356.name,dc,func356.trans (congrArg some kr)⟩
 f13:=⟨f357.name,dc,func357.trans (congrArg some kr)⟩
 f14:=⟨f358.name,dc,func358.trans (congrArg some kr)⟩
 f15:=⟨f359.name,dc,func359.trans (congrArg some kr)⟩
 f16:=⟨f360.name,dc,func360.trans (congrArg some kr)⟩
 f17:=⟨f361.name,dc,func361.trans (congrArg some kr)⟩
 f18:=⟨f362.name,dc,func362.trans (congrArg some kr)⟩
 f19:=func363.trans (congrArg some kr)
 f20:=func364.trans (congrArg some kr)
 f30:=⟨f369.name,dc,func369.trans (congrArg some kr)⟩
 f31:=func370.trans (congrArg some kr)
 f32:=func371.trans (congrArg some kr)
 f33:=⟨f372.name,dc,func372.trans (congrArg some kr)⟩
 f34:=⟨f373.name,dc,func373.trans (congrArg some kr)⟩
 f35:=⟨f213.name,dc,func213.trans (congrArg some kr)⟩
 f40:=⟨f375.name,dc,func375.trans (congrArg some kr)⟩
 t0:=Tryz.underlying0
 a0:=Tryz.isAgg0
 z0:=Tryz.sizeOf0
 v0:=Tryz.zeroValue0
 t3:=Tryz.underlying3
 a3:=Tryz.isAgg3
 z3:=Tryz.sizeOf3
 v3:=Tryz.zeroValue3
 t4:=Tryz.underlying4
 a4:=Tryz.isAgg4
 z4:=Tryz.sizeOf4
 v4:=Tryz.zeroValue4
 t5:=Tryz.underlying5
 a5:=Tryz.isAgg5
 z5:=Tryz.sizeOf5
 v5:=Tryz.zeroValue5
 t9:=Tryz.underlying9
 a9:=Tryz.isAgg9
 z9:=Tryz.sizeOf9
 v9:=Tryz.zeroValue9
 t22:=Tryz.underlying61
 a22:=Tryz.isAgg61
 z22:=Tryz.sizeOf61
 v22:=Tryz.zeroValue61
 t23:=Tryz.underlying61
 a23:=Tryz.isAgg61
 z23:=Tryz.sizeOf61
 v23:=Tryz.zeroValue61
 t25:=Tryz.underlying3
 a25:=Tryz.isAgg3
 z25:=Tryz.sizeOf3
 v25:=Tryz.zeroValue3
 t32:=Tryz.underlying332
 a32:=Tryz.isAgg332
 z32:=Tryz.sizeOf332
 v32:=Tryz.zeroValue332
 t35:=Tryz.underlying380
 a35:=Tryz.isAgg380
 z35:=Tryz.sizeOf380
 v35:=Tryz.zeroValue380
 t36:=Tryz.underlying381
 a36:=Tryz.isAgg381
 z36:=Tryz.sizeOf381
 v36:=Tryz.zeroValue381
 t41:=Tryz.underlying100
 a41:=Tryz.isAgg100
 z41:=Tryz.sizeOf100
 v41:=Tryz.zeroValue100
 t44:=Tryz.underlying387
 a44:=Tryz.isAgg387
 z44:=Tryz.sizeOf387
 v44:=Tryz.zeroValue387
 t46:=Tryz.underlying389
 a46:=Tryz.isAgg389
 z46:=Tryz.sizeOf389
 v46:=Tryz.zeroValue389
 t53:=Tryz.underlying392
 a53:=Tryz.isAgg392
 z53:=Tryz.sizeOf392
 v53:=Tryz.zeroValue392
 t57:=Tryz.underlying326
 a57:=Tryz.isAgg326
 z57:=Tryz.sizeOf326
 v57:=Tryz.zeroValue326
 t63:=Tryz.underlying397
 a63:=Tryz.isAgg397
 z63:=Tryz.sizeOf397
 v63:=Tryz.zeroValue397
 t64:=Tryz.underlying79
 a64:=Tryz.isAgg79
 z64:=Tryz.sizeOf79
 v64:=Tryz.zeroValue79 }
theorem ja(m:Nat):AnyZI.SortsIn AA MF Fence.wide m :=
  ⟨λblk off cap ss W hH hblk hsz=>callsIn_wide.2 (AnyM.slices_Sort_int WX blk off cap ss W hH hblk hsz),
   λp cap W=>callsIn_wide.2 (AnyM.slices_Sort_int_none WX p cap W)⟩
end Go.Proofs
namespace Go.AI
open Go.RowKit Go.Maps Go.Sort Go.Shelf Go.Proofs
theorem dF{H : DM}{ob o : Nat}{es : List (AV × AV)}(h1 : H[ob]? = some (some [.mapr o]))(h2 : HV H (.mapr o) = some es)(h3 : U8 es = true)(h4 : es.length <= 1073741824):
    Dx AA 297 [.fn (.func 333) [] [.ptr ob 0]] H λv H'=>v = .sl none ((Nr (LZ es)).map (.int .i64))/\H'=H := by
  refine ⟨kr,λF G w us hc=>?_⟩
  have hlen := hc.l.len
  obtain ⟨u,rfl⟩ : ∃ u,us=[u] := by
    match us,hlen with
    | [u],_=>exact ⟨u,rfl⟩
  have hx := hc.l.rel 0 _ _ rfl rfl
  cases hx with
  | fn _ _ _ fi ca k1 k2 k3 k4 =>
  obtain rfl:fi=#[] := by
    have:fi.size=0 := k1.symm
    exact Array.eq_empty_of_size_eq_zero this
  obtain ⟨x,rfl⟩ : ∃ x,ca=#[x] := by
    have:ca.size=1 := k2.symm
    exact ⟨ca[0], by apply Array.ext; · simp [this]
                     · intro i hi1 hi2;simp at hi2;subst hi2;rfl⟩
  have hp := k4 0 _ x rfl rfl
  cases hp with
  | ptr _ _ B hB hCE =>
  obtain ⟨C,E,hC⟩ := hCE
  obtain ⟨_,C',E',hC',hle,hrow⟩ := (hc.h.obj ob _ B h1 hB).of_cells hC
  rw [hC] at hC'
  cases hC'
  have h0:C[0]? =some (C[0]'(by simp at hle;omega)) := Array.getElem?_eq_getElem _
  generalize C[0]'(by simp at hle;omega)=um at h0
  obtain ⟨_,hm,_⟩ := hrow 0 _ um rfl h0
  obtain ⟨b,D0,rfl,hown,hperm,hsz⟩ := yh (P := AA) (k := K7.t 26) kr hc hm h2 h3 (by unfold maxLen;omega)
  have hcell:w.cell? ⟨B,0,none⟩=some (.map (some b)) := by simp [World.cell?,hC,h0]
  have hseq:SeqGives Fence.wide 2 AA 333 #[.pointer (some ⟨B,0,none⟩)] encZ (λss=>ss.Perm (intKeys D0)) (Maps.size D0) w :=
    AnyZI.keys_gives (ρ := K7) { qF with } Fence.wide _ trivial rfl DF B b es.length D0 w (Ap.1 hC).1 hcell hown
  have cS := AnyZI.sorted_in bQ Fence.wide 5 trivial trivial trivial trivial rfl DF (ja _) (enters_of func332 kr rfl) 333 #[.pointer (some ⟨B,0,none⟩)] trivial (enters_of func333 kr rfl) _ _ (by rw [hsz];unfold maxLen;omega) (by rw [hsz];omega) _ hseq
  change CallsIn _ _ AA 297 _ _ _ at cS
  refine (callsIn_wide (n := 5)).1 (cS.mono ?_)
  rintro e w' ⟨v,ss,rfl,hS,hrow2,hnil,hbel⟩
  have hs:ss.mergeSort (λx y=>decide (x<=y))=Nr (LZ es) := uM (hS.trans hperm)
  rw [hs] at hrow2
  have hl2:ss.length=(Nr (LZ es)).length := by rw [(hS.trans hperm).length_eq,(Nq _).length_eq]
  rw [hl2] at hrow2
  obtain ⟨g,hg,hv⟩ := zM hrow2
  exact ⟨v,rfl,qW hc hbel hg ⟨rfl,rfl⟩ (hv G) (E6 rfl _)⟩
def lK:Orc:=λf vs H=>bif CK f 297 then
  match vs with
  | [.fn (.func s) [] [.ptr ob 0]]=>bif CK s 333 then match H[ob]? with
   | some (some [.mapr o])=>match HV H (.mapr o) with
    | some es=>bif U8 es&&Nat.ble es.length 1073741824 then some (.sl none ((Nr (LZ es)).map (.int .i64)),H) else none
    | none=>none
   | _=>none
   else none
  | _=>none
 else none
theorem sd:sE AA lK:=by
 intro f vs H v H' h
 unfold lK at h
 cases hf:CK f 297 with
 | false=>rw [hf] at h;cases h
 | true =>
  rw [hf] at h
  have:=DE hf
  subst this
  dsimp only [cond_true] at h
  split at h
  ·rename_i s ob
   cases hs:CK s 333 with
   | false=>rw [hs] at h;cases h
   | true =>
    rw [hs] at h
    have:=DE hs
    subst this
    dsimp only [cond_true] at h
    split at h
    ·rename_i o h1
     split at h
     ·rename_i es h2
      cases h3:(U8 es&&Nat.ble es.length 1073741824) with
      | false=>rw [h3] at h;cases h
      | true =>
       rw [h3] at h
       cases h
       simp only [AR] at h3
       exact dF h1 h2 h3.1 (Nat.le_of_ble_eq_true h3.2)
     ·cases h
    ·cases h
  ·cases h
end Go.AI
