/- The abstract walk as a program that computes: operations. -/
import Derived.Test.YtfohpcndcpadgaaGreatDoorLi
import Derived.Test.YtfohpcndcpadgaaGreatDoorProg
import Derived.Below
import Derived.Shelf.SlIterI.Nil
import Derived.Shelf.SortM.Plain
import Derived.Shelf.SortM.SortNone
import Derived.Ground.GgzProg
import Derived.Ground.SlgmProg
set_option linter.unusedSimpArgs false
set_option linter.unusedVariables false
set_option linter.defProp false
open Go.Proofs.Tryz
open Go.AI renaming Hint->Er
open Array renaming getElem?_eq_none_iff->Du,getElem?_eq_some_iff->Au,getElem?_toList->Af
open Bool renaming and_eq_true->AQ,or_eq_true->CI
open Int renaming le_trans->DO
open List renaming all_eq_true->Ao,ext_getElem?->A6,getElem?_eq_getElem->AL,getElem?_eq_none->A0,getElem?_eq_some_iff->AD,getElem?_map->Ac,getElem?_of_mem->Ab,length_map->Ap,mem_cons->AY,mem_singleton->Ag,pairwise_cons->BM,pairwise_map->ER,range->An
open Nat renaming beq->CJ,eq_of_beq_eq_true->DN
open Option renaming any->Cx,bind_eq_some_iff->CG
open Go.Proofs.Tryz renaming prog->AA
namespace Go.AI
open Go.MapKept
def AGL(i:BinOp)(a b:AV):Option AV :=
 match a,b with
 |.int k x,.int g y =>
  match i with
  |.shl=>if 0<=y then some (.int k (k.wrap (x*2^(min y.toNat k.bits))))else none
  |.shr=>if 0<=y then some (.int k (x.fdiv (2^(min y.toNat k.bits))))else none
  |.add=>if k=g then some (.int k (k.wrap (x+y)))else none
  |.sub=>if k=g then some (.int k (k.wrap (x - y)))else none
  |.mul=>if k=g then some (.int k (k.wrap (x*y)))else none
  |.quo=>if k=g/\y≠0 then some (.int k (k.wrap (x.tdiv y)))else none
  |.rem=>if k=g/\y≠0 then some (.int k (x.tmod y))else none
  |.and=>if k=g then some (.int k (k.wrap (BitVec.ofInt k.bits x &&& BitVec.ofInt k.bits y).toNat))else none
  |.or=>if k=g then some (.int k (k.wrap (BitVec.ofInt k.bits x ||| BitVec.ofInt k.bits y).toNat))else none
  |.xor=>if k=g then some (.int k (k.wrap (BitVec.ofInt k.bits x ^^^ BitVec.ofInt k.bits y).toNat))else none
  |.andNot=>if k=g then some (.int k (k.wrap (BitVec.ofInt k.bits x &&& ~~~ BitVec.ofInt k.bits y).toNat))else none
  |.eql=>if k=g then some (.bool (x==y))else none
  |.neq=>if k=g then some (.bool (x !=y))else none
  |.lss=>if k=g then some (.bool (decide (x<y)))else none
  |.leq=>if k=g then some (.bool (decide (x<=y)))else none
  |.gtr=>if k=g then some (.bool (decide (x>y)))else none
  |.geq=>if k=g then some (.bool (decide (x≥y)))else none
 |.str x,.str y =>
  match i with
  |.add=>if x.size+y.size<=9223372036854775807 then some (.str (x++y))else none
  |.eql=>some (.bool (x.data.toList==y.data.toList))
  |.neq=>some (.bool !(x.data.toList==y.data.toList))
  |.lss=>some (.bool (Op.bytesLess x.data.toList y.data.toList))
  |.leq=>some (.bool (Op.bytesLess x.data.toList y.data.toList||x.data.toList==y.data.toList))
  |.gtr=>some (.bool !(Op.bytesLess x.data.toList y.data.toList||x.data.toList==y.data.toList))
  |.geq=>some (.bool !(Op.bytesLess x.data.toList y.data.toList))
  |_=>none
 |_,_=>none
def K6{α:Type}{c:Prop}[Decidable c]{x:Option α}{v:α}(h:(if c then x else none)=some v):c/\x=some v:=by
 split at h
 ·rename_i g;exact⟨g,h⟩
 ·cases h
def mM{i:BinOp}{a b v:AV}{R:AV->Prop}(h:AGL i a b=some v)(j:R v):K5 i a b R:=by
 unfold AGL at h;unfold K5;split at h
 ·cases i<;>obtain⟨g,o⟩:=K6 h<;>cases o<;>first|exact⟨g,j⟩|exact⟨g.1,g.2,j⟩
 ·simp only[ByteArray.toList_eq];cases i<;>first|(cases h;done)|(obtain⟨g,o⟩:=K6 h;cases o;exact⟨g,j⟩)|(cases h;exact j)
 ·cases h
def eJ(P:Program)(g:BinOp)(t:TypeId)(a b:AV):Option AV :=
 match g,K3 P t a b with
 |.eql,some r=>some (.bool r)
 |.neq,some r=>some (.bool !r)
 |_,_=>AGL g a b
def rx{P:Program}{g:BinOp}{t:TypeId}{a b v:AV}{R:AV->Prop}(h:eJ P g t a b=some v)(i:R v):KU P g t a b R:=by
 unfold eJ at h;unfold KU;generalize K3 P t a b=q at h ⊢;cases q with
 |none=>cases g<;>exact mM h i
 |some r=>cases g<;>first|exact mM h i|(cases h;exact i)
def cY(P:Program)(g:BinOp)(t:TypeId)(a:AV):Option AV :=
 match P.underlying t with
 |some (.slice _)=>match g,a with
  |.eql,.sl _ (_::_)=>some (.bool false)
  |.neq,.sl _ (_::_)=>some (.bool true)
  |.eql,.msl _ _ _ _=>some (.bool false)
  |.neq,.msl _ _ _ _=>some (.bool true)
  |_,_=>none
 |_=>none
def pO{P:Program}{g:BinOp}{t:TypeId}{a v:AV}{R:AV->Prop}(h:cY P g t a=some v)(i:R v):Of P g t a R:=by
 unfold cY at h;unfold Of;split at h
 ·rename_i e j;simp only[j];split at h<;>cases h<;>exact i
 ·cases h
def dz(P:Program)(t:TypeId)(x:AV)(g j r:Option Int):Option AV :=
 match P.underlying t,x with
 |some .string,.str s =>
  if r=none/\0<=g.getD 0/\g.getD 0<=j.getD s.size/\j.getD s.size<=s.size then some (.str (s.extract (g.getD 0).toNat (j.getD s.size).toNat))else none
 | some (.slice e),.sl I o =>
  if 0<=g.getD 0/\g.getD 0<=j.getD o.length/\j.getD o.length<=o.length/\o.all (λx=>x.cells.length==P.cellsOf e)=true/\(P.info? e).isSome=true then
   match r with
   |none=>some (.sl (if j.getD o.length=o.length then I else none) ((o.take (j.getD o.length).toNat).drop (g.getD 0).toNat))
   |some m=>if m=j.getD o.length/\0<P.cellsOf e then some (.sl (some (P.cellsOf e)) ((o.take (j.getD o.length).toNat).drop (g.getD 0).toNat))else none
  else none
 | some (.slice e),.msl O i p J =>
  if 0<=g.getD 0/\g.getD 0<=j.getD p/\j.getD p<=p/\J=P.cellsOf e/\(P.info? e).isSome=true/\r=none/\(g.getD 0=0\/g.getD 0<p)then
   some (.msl O (i+(g.getD 0).toNat*J) ((j.getD p).toNat - (g.getD 0).toNat) J)else none
 | some (.pointer R),.cptr C i=>if g=none/\j=none/\r=none then
   match P.underlying R with
   |some (.array n e)=>if P.cellsOf e=1/\i+n<=C.length/\n<=9223372036854775807 then some (.sl none ((C.drop i).take n))else none
   |_=>none
  else none
 |some (.array n e),.cptr C i=>if(g=none/\j=none/\r=none)/\P.cellsOf e=1/\i+n<=C.length/\n<=9223372036854775807 then some (.sl none ((C.drop i).take n))else none
 |_,_=>none
def YO(P:Program)(t:TypeId)(x:AV)(i j p:Option Int)(H:Fl):Option AV :=
 match P.underlying t,x with
 |some (.array n e),.ptr o g=>match H[o]? with
  |some (some r)=>if(i=none/\j=none/\p=none)/\n<=9223372036854775807/\(P.info? e).isSome=true/\g+n*P.cellsOf e<=r.length then some (.msl o g n (P.cellsOf e))else none
  |_=>none
 |some (.slice e),.sl _ _=>if(i=none/\j=some 0/\p=some 0)/\(P.info? e).isSome=true then some (.sl (some 0) [])else none
 |_,_=>none
def l9{P:Program}{t:TypeId}{x v:AV}{o p r:Option Int}{H:Fl}{R:AV->Prop}(h:YO P t x o p r H=some v)(C:R v):K1 P t x o p r H R:=by
 unfold YO at h;unfold K1;split at h
 ·rename_i i;split at h
  ·rename_i J I;obtain⟨g,j⟩:=K6 h;cases j;simp only[i,I];exact⟨g.1,g.2.1,g.2.2.1,g.2.2.2,C⟩
  ·cases h
 ·rename_i i;obtain⟨g,j⟩:=K6 h;cases j;simp only[i];exact⟨g.1,g.2,C⟩
 ·cases h
def uR{g:List AV}{k:Nat}(h:g.all (λx=>x.cells.length==k)=true): ∀x∈g,x.cells.length=k:=λx hx=>by
 have:=Ao.1 h x hx;simpa using this
def rY{P:Program}{t:TypeId}{x v:AV}{r C I:Option Int}{R:AV->Prop}(h:dz P t x r C I=some v)(j:R v):O2 P t x r C I R:=by
 unfold dz at h;unfold O2;split at h
 ·rename_i i;simp only[i];obtain⟨g,o⟩:=K6 h;cases o;exact⟨g.1,g.2.1,g.2.2.1,g.2.2.2,j⟩
 ·rename_i i;simp only[i];obtain⟨⟨g,o,p,O,T⟩,h⟩:=K6 h;refine⟨g,o,p,uR O,T, ?_⟩;split at h
  ·cases h;exact j
  ·obtain⟨J,h⟩:=K6 h;cases h;exact⟨J.1,J.2,j⟩
 ·rename_i i;simp only[i];obtain⟨g,h⟩:=K6 h;cases h;exact⟨g,j⟩
 ·rename_i i;simp only[i];obtain⟨⟨g,o,p⟩,h⟩:=K6 h;refine⟨g,o,p, ?_⟩;split at h
  ·rename_i U;simp only[U];obtain⟨⟨V,g2,g3⟩,h⟩:=K6 h;cases h;exact⟨V,g2,g3,j⟩
  ·cases h
 ·rename_i i;simp only[i];obtain⟨g,h⟩:=K6 h;cases h;exact⟨g.1,g.2.1,g.2.2.1,g.2.2.2,j⟩
 ·cases h
def ADt:AV->Bool
 |.sl (some _) _=>false
 |_=>true
def ADs{g:List AV}(h:g.all ADt=true):g.map borrow1=g:=by
 induction g with
 |nil=>rfl
 |cons c g i =>
  simp only[List.all_cons,AQ]at h;rw[List.map_cons,i h.2];congr 1;have j:=h.1;cases c<;>try rfl
  rename_i w o;cases w
  ·rfl
  ·simp[ADt]at j
def YV(P:Program)(e:TypeId)(mt I:Bool)(H:Fl)(a:AV)(g:List AV):Option (AV×Fl) :=
 if g.all (λx=>x.cells.length==P.cellsOf e)=true then
  match mt,a with
  |false,.sl j o=>if j=some (P.cellsOf e)/\(o.length+g.length)*P.bytesOf e<=140737488355328/\o.length+g.length<=9223372036854775807 then some (.sl (bif I then none else some (P.cellsOf e)) (o++g),H)else none
  |true,.msl t p i C=>match H[t]? with
   | some (some r)=>if p=0/\r.length=i*C/\r.all ADt=true/\C=P.cellsOf e/\(i+g.length)*P.bytesOf e<=140737488355328/\i+g.length<=9223372036854775807 then
     some (.msl H.length 0 (i+g.length) (P.cellsOf e),H.set t none++[some (r++(Hx g).map borrow1)])else none
   |_=>none
  |true,.sl (some 0) []=>if 0<g.length/\g.length*P.bytesOf e<=140737488355328/\g.length<=9223372036854775807 then some (.msl H.length 0 g.length (P.cellsOf e),H++[some ((Hx g).map borrow1)])else none
  |_,_=>none
 else none
def mN{P:Program}{e:TypeId}{mt r:Bool}{H:Fl}{a:AV}{t:List AV}{v:AV}{C:Fl}{R:AV->Fl->Prop}(h:YV P e mt r H a t=some (v,C))(o:R v C):O4 P e mt r H a t R:=by
 unfold YV at h;unfold O4;obtain⟨I,h⟩:=K6 h;refine⟨uR I, ?_⟩;split at h
 ·obtain⟨⟨g,i,j⟩,h⟩:=K6 h;cases h;exact⟨g,i,j,o⟩
 ·split at h
  ·rename_i p;obtain⟨⟨g,i,j,J,O,T⟩,h⟩:=K6 h;cases h;refine⟨g,J,O,T, ?_⟩;simp only[p];exact⟨i,ADs j,o⟩
  ·cases h
 ·obtain⟨⟨g,i,j⟩,h⟩:=K6 h;cases h;exact⟨g,i,j,o⟩
 ·cases h
def AEF(k:IntKind):AV->Bool
 |.int g _=>decide (g=k)
 |_=>false
def ALk:AV->Bool
 |.str _=>true
 |_=>false
def tP(P:Program)(j:List TypeId)(g:TypeId)(i:List AV):Bool :=
 match P.underlying g with
 |some (.int k)=>i.all (AEF k)
 |some .string=>i.all ALk
 |some _=>j.contains g&&i.all λa=>match UQ a with
  |some v=>(keyOf P g v).isSome
  |none=>false
 |none=>false
def eN(P:Program)(g:List TypeId):Prop:=∀i∈g,WideMaps.KeyLaw P i
def kD{P:Program}{o:List TypeId}{i:TypeId}{p:List AV}(r:eN P o)(h:tP P o i p=true):NS P i p:=by
 unfold tP at h;split at h
 ·rename_i k j;refine⟨_,KLaw.plain j,λa g=>?_⟩;have:=Ao.1 h a g;cases a<;>first|cases this|skip
  rename_i t n;exact⟨_,rfl,(by simpa [AEF]using this:t=k)⟩
 ·rename_i j;refine⟨_,KLaw.plain j,λa g=>?_⟩;have:=Ao.1 h a g;cases a<;>first|cases this|skip
  exact⟨_,rfl,tV⟩
 ·simp only[AQ]at h;refine⟨_,KLaw.wide (r i (by simpa using h.1)),λa g=>?_⟩;have:=Ao.1 h.2 a g;split at this
  ·rename_i v C;exact⟨v,C,Option.isSome_iff_exists.1 this⟩
  ·cases this
 ·cases h
def bN(g:List (AV×AV)):Bool:=match g with
 |[]=>true
 |p::g=>g.all (λq => !If p.1 q.1)&&bN g
def Xx{g:List (AV×AV)}(h:bN g=true):TG g:=by
 induction g with
 |nil=>exact List.Pairwise.nil
 |cons p g i =>
  simp only[bN,AQ]at h;exact List.Pairwise.cons (λq j=>by simpa using Ao.1 h.1 q j) (i h.2)
def d9(P:Program)(t:TypeId)(H:Fl)(x:AV):Option (AV×Fl) :=
 match P.underlying t,x with
 |some .string,.str s=>some (.it H.length,H++[some (Xe s 0)])
 |some (.map _ _),.nilm=>some (.it H.length,H++[some [.nilm]])
 |some (.map _ _),.mapr g=>match JZ H (.mapr g)with
  |some i=>some (.it H.length,H++[some (VK g i.length [])])
  |none=>none
 |_,_=>none
def rc{P:Program}{t:TypeId}{H:Fl}{x v:AV}{j:Fl}{R:AV->Fl->Prop}(h:d9 P t H x=some (v,j))(i:R v j):SQ P t H x R:=by
 unfold d9 at h;unfold SQ;split at h
 ·rename_i g;simp only[g];cases h;exact i
 ·rename_i g;simp only[g];cases h;exact i
 ·rename_i g;simp only[g];split at h
  ·rename_i p o;simp only[o];cases h;exact i
  ·cases h
 ·cases h
def Tt(n:Nat)(seen:List AV):List Nat:=(An n).filter λi => !(Tw seen).contains (i:Int)
def rm(str:Bool)(H:Fl)(o:Nat):Option (AV×Fl) :=
 match str,H[o]? with
 |true,some (some [.str s,.int .i64 g]) =>
  if g.toNat<s.size then some (.tup [.bool true,.int .i64 g.toNat,.int .i32 (Utf8.decode s g.toNat).1],H.set o (some (Xe s ((g.toNat+(Utf8.decode s g.toNat).2:Nat):Int))))
  else some (.tup [.bool false],H)
 |false,some (some [.nilm])=>some (.tup [.bool false],H)
 | false,some (some [.mapr m,.int .i64 j,.tup seen])=>match JZ H (.mapr m) with
  | some r=>if j=r.length then match Tt r.length seen with
   |[]=>some (.tup [.bool false],H)
   |[i]=>match r[i]? with
    |some p=>some (.tup [.bool true,p.1.borrow,p.2.borrow],H.set o (some [.mapr m,.int .i64 j,.tup (seen++[.int .i64 i])]))
    |none=>none
   |_=>none
   else none
  |none=>none
 |_,_=>none
def Rw{n:Nat}{seen:List AV}{i:Nat}:i∈Tt n seen↔i<n/\(i:Int)∉Tw seen:=by
 simp[Tt,List.mem_filter]
def ABT{str:Bool}{H:Fl}{o':Nat}{v:AV}{H':Fl}{R:AV->Fl->Prop}(h:rm str H o'=some (v,H'))(r:R v H'):YQ str H o' R:=by
 unfold rm at h;unfold YQ;split at h
 ·rename_i t;simp only[t];split at h
  ·rename_i I;rw[iP I];cases h;exact r
  ·rename_i I;rw[iN I];cases h;exact r
 ·rename_i t;simp only[t];cases h;exact r
 ·rename_i m J seen t;simp only[t];split at h
  ·rename_i O he;simp only[he];obtain⟨hs,h⟩:=K6 h;refine⟨hs, ?_⟩;split at h
   ·rename_i g;cases h;refine⟨λ_=>r,λi p P o=>?_⟩;have:i∈Tt O.length seen:=Rw.2 ⟨(AD.1 P).1,o⟩;rw[g]at this;cases this
   ·rename_i i g;have hi:i∈Tt O.length seen:=by rw[g];exact Ag.2 rfl
    obtain⟨T,U⟩:=Rw.1 hi;split at h
    ·rename_i p P;cases h;refine⟨λC=>absurd (C i T) U,λj q V o=>?_⟩;have:j∈Tt O.length seen:=Rw.2 ⟨(AD.1 V).1,o⟩;rw[g]at this;obtain rfl:=Ag.1 this;rw[P]at V;cases V;exact r
    ·cases h
   ·cases h
  ·cases h
 ·cases h
def eG(H:Fl)(o:Nat):Option (AV×Fl) :=
 match H[o]? with
 | some (some [.mapr m,.int .i64 g,.tup seen])=>match JZ H (.mapr m),seen.getLast? with
  |some j,some (.int .i64 i)=>if g=j.length then match j[i.toNat]? with
   |some p=>some (.tup [p.1.borrow,p.2.borrow],H)
   |none=>none
   else none
  |_,_=>none
 |_=>none
def ru{H:Fl}{j:Nat}{v:AV}{o:Fl}{R:AV->Fl->Prop}(h:eG H j=some (v,o))(r:R v o):Up H j R:=by
 unfold eG at h;unfold Up;split at h
 ·rename_i m g seen t;simp only[t];split at h
  ·rename_i P i C I;simp only[C,I];obtain⟨J,h⟩:=K6 h;refine⟨J, ?_⟩;split at h
   ·rename_i p O;cases h;exact⟨p,O,r⟩
   ·cases h
  ·cases h
 ·cases h
def uP(P:Program)(V:List TypeId)(h:Er)(o:Oper)(C:List AV)(H:Fl):Option (AV×Fl) :=
 match o.op,C with
 |.move _,[a]=>some (a,H)
 |.assign _,[a]=>some (a,H)
 |.pick _ _ _,[.bool c,a,b]=>some (if c=true then a else b,H)
 |.box _ _,[a]=>if a.isVal=true then some (.ptr H.length 0,H++[some a.cells])else none
 |.alloc e,[]=>match o.dst.any h.mt.contains,F8 P e with
  |false,some z=>some (.ptr H.length 0,H++[some z.cells])
  |_,_=>none
 |.build t O,j=>(Ts P t (O.toList.map (·.1)) j).map λv=>(v,H)
 | .buildSlice t g O,j =>
  match P.underlying t with
  | some (.slice e)=>if 0<P.cellsOf e/\g*P.cellsOf e<=16777216/\O.toList.map (·.1)=An g/\j.all (λv=>v.isVal&&v.cells.length==P.cellsOf e)=true/\HD P e=true then
    match o.dst.any h.mt.contains with
    |true=>some (.msl H.length 0 g (P.cellsOf e),H++[some (Hx (j.map AV.borrow))])
    |false=>some (.sl (some (P.cellsOf e)) (j.map AV.borrow),H)
   else none
  |_=>none
 | .makeSlice t _ _,[.int _ n,.int _ c] =>
  match P.underlying t with
  | some (.slice e)=>if n=c/\0<=n/\n*P.bytesOf e<=140737488355328/\n<=9223372036854775807/\(P.info? e).isSome=true then
    match F8 P e with
    |some z=>if z.cells.length=P.cellsOf e/\0<P.cellsOf e then some (.msl H.length 0 n.toNat (P.cellsOf e),H++[some (List.replicate n.toNat z.cells).flatten])else none
    |none=>none
   else none
  |_=>none
 |.load t _,[a]=>aJ P (o.dst.any h.tk.contains) t a H
 |.store t _ _,[a,v]=>(Wd P t a v H).map λH'=>(.undef,H')
 |.nilCheck _,[a]=>(ACB a).map λv=>(v,H)
 |.binOp J t _ y _,[a,b]=>match Le y with
  |true=>(cY P J t a).map λv=>(v,H)
  |false=>(eJ P J t a b).map λv=>(v,H)
 |.unOp J _ _,[a]=>(vUn J a).map λv=>(v,H)
 |.convert src R _,[a] =>
  match P.underlying src,P.underlying R,a with
  |some _,some (.int k),.int _ n=>some (.int k (k.wrap n),H)
  |some .string,some .string,.str s=>some (.str s,H)
  |some (.slice e),some .string,.sl _ p=>if(match P.underlying e with|some (.int .u8)=>true|_=>false)=true/\p.all P5=true then some (.str (Q1 p),H)else none
  |_,_,_=>none
 |.makeFunc fn first _,j=>some (.fn fn (j.take first.size) (j.drop first.size),H)
 | .slice t _ lo hi mx,x::rest =>
  match Q2 lo.isSome hi.isSome mx.isSome rest with
  |some (l,hh,m)=>match o.dst.any h.mt.contains with
   |true=>(YO P t x l hh m H).map λv=>(v,H)
   |false=>(dz P t x l hh m).map λv=>(v,H)
  |none=>none
 |.fieldAddr s _ f,[x]=>(Tr P (fieldAt P s f) x).map λv=>(v,H)
 |.field t _ f,[x]=>(aI P (fieldAt P t f) x).map λv=>(v,H)
 |.extract _ i,[x]=>(Pc x i).map λv=>(v,H)
 |.indexAddr t _ _,[x,i]=>(Mh P (P.underlying t) x i).map λv=>(v,H)
 |.index t _ _,[x,i]=>(We P (P.underlying t) x i).map λv=>(v,H)
 |.makeMap _ none,[]=>some (.mapr H.length,H++[some (Kn [])])
 |.range t _,[x]=>d9 P t H x
 |.next _ str,[.it r]=>rm str H r
 |.entry _,[.it r]=>eG H r
 | .lookup t _ _ ok,[m,k] =>
  match P.underlying t with
  | some (.map T et)=>match JZ H m with
   | some p=>if tP P V T (k::p.map (·.1))=true/\bN p=true then
     match F8 P et with
     |some z=>some (je ok z (Jx k p 0),H)
     |none=>none
    else none
   |none=>none
  |_=>none
 | .mapUpdate t _ _ _,[.mapr r,k,v] =>
  match P.underlying t with
  |some (.map T _)=>match JZ H (.mapr r)with
   |some p=>if tP P V T (k::p.map (·.1))=true/\bN p=true/\v.isVal=true then some (.undef,H.set r (some (Kn (NO p k v))))else none
   |none=>none
  |_=>none
 | .call c,j =>
  match c.callee with
  |.builtin .len=>match j with
   |[x]=>(ACC (c.argTypes[0]?.bind P.underlying) x).map λv=>(v,H)
   |_=>none
  | .builtin .append=>match j,c.argTypes.toList with
   | [a,b],[t,t']=>if t=t' then match P.underlying t with
    |some (.slice e)=>if 0<P.cellsOf e/\HD P e=true then match Um P e (o.dst.any h.mt.contains||o.dst.any h.tk.contains) H b with
     |some xs=>YV P e (o.dst.any h.mt.contains) (o.dst.any h.pc.contains) H a xs
     |none=>none
     else none
    |_=>none
    else none
   |_,_=>none
  |.builtin .min=>match j with
   |[.int k a,.int U b]=>if k=U then some (.int k (if b<a then b else a),H)else none
   |_=>none
  |.builtin .max=>match j with
   |[.int k a,.int U b]=>if k=U then some (.int k (if b>a then b else a),H)else none
   |_=>none
  | .builtin .clear=>match j,c.argTypes.toList with
   | [.msl ob I g sz],[t]=>match P.underlying t with
    |some (.slice e)=>match H[ob]?,F8 P e with
     |some (some cs),some z=>if sz=z.cells.length/\0<g/\I+g*sz<=cs.length then some (.tup [],H.set ob (some (splice cs I (HC z g))))else none
     |_,_=>none
    |_=>none
   |_,_=>none
  |_=>none
 |_,_=>none
def Nr{α β:Type}{x:Option α}{f:α->β}{y:β}(h:x.map f=some y): ∃a,x=some a/\f a=y:=by
 cases x with
 |none=>cases h
 |some a=>exact⟨a,rfl,by simpa using h⟩
set_option maxHeartbeats 1000000 in
def AF6{P:Program}{wk:List TypeId}(hw:eN P wk){h:Er}{o:Oper}{vals:List AV}{H:Fl}{v:AV}{H':Fl}{R:AV->Fl->Prop}(hx:uP P wk h o vals H=some (v,H'))(j:R v H'):GA P h o vals H R:=by
 unfold uP at hx;split at hx<;>rename_i i
 ·cases hx;simp only[GA,i];exact j
 ·cases hx;simp only[GA,i];exact j
 ·cases hx;simp only[GA,i];exact j
 ·obtain⟨g,C⟩:=K6 hx;cases C;simp only[GA,i];exact⟨g,j⟩
 ·split at hx
  ·rename_i z hm T;cases hx;simp only[GA,i,hm];exact⟨z,T,j⟩
  ·cases hx
 ·obtain⟨a,g,C⟩:=Nr hx;cases C;unfold Ts at g;simp only[GA,i];split at g
  ·rename_i fs t;simp only[t];obtain⟨p,g⟩:=K6 g;split at g
   ·rename_i z T;obtain⟨cs,r,rfl⟩:=Nr g;exact⟨z,cs,p,T,r,j⟩
   ·cases g
  ·rename_i n e t;simp only[t];obtain⟨p,g⟩:=K6 g;split at g
   ·rename_i z T;obtain⟨cs,r,rfl⟩:=Nr g;exact⟨z,cs,p,T,r,j⟩
   ·cases g
  ·cases g
 ·split at hx
  ·rename_i e t;obtain⟨⟨p,r,J,U,g5⟩,hx⟩:=K6 hx;simp only[GA,i,t];refine⟨p,r,J,λx hx'=>?_,g5, ?_⟩
   ·have:=Ao.1 U x hx';simpa using this
   ·split at hx
    ·rename_i hm;cases hx;simp only[hm];exact j
    ·rename_i hm;cases hx;simp only[hm];exact j
  ·cases hx
 ·split at hx
  ·rename_i e t;obtain⟨⟨p,r,J,U,g5⟩,hx⟩:=K6 hx;split at hx
   ·rename_i z T;obtain⟨⟨g6,g7⟩,hx⟩:=K6 hx;cases hx;simp only[GA,i,t];exact⟨p,r,J,U,g5,z,T,g6,g7,j⟩
   ·cases hx
  ·cases hx
 · -- load
  unfold aJ at hx;split at hx
  ·split at hx
   ·rename_i cs V;split at hx
    ·rename_i x hl;split at hx
     ·rename_i htk;obtain⟨⟨p,r⟩,hx⟩:=K6 hx;cases hx;simp only[GA,i,V,hl,htk];exact⟨p,r,j⟩
     ·rename_i htk;cases hx;simp only[GA,i,V,hl,htk];exact j
    ·cases hx
   ·cases hx
  ·split at hx
   ·rename_i x hl;cases hx;simp only[GA,i,hl];exact j
   ·cases hx
  ·cases hx
 · -- store
  obtain⟨a,g,C⟩:=Nr hx;cases C;unfold Wd at g;split at g
  ·split at g
   ·rename_i cs V;obtain⟨⟨p,r,J,U⟩,g⟩:=K6 g;cases g;simp only[GA,i,V];exact⟨p,r,J,U,j⟩
   ·cases g
  ·cases g
 ·obtain⟨a,g,C⟩:=Nr hx;cases C;unfold ACB at g;split at g<;>cases g<;>(simp only[GA,i];exact j)
 ·split at hx
  ·rename_i hn;obtain⟨a,g,C⟩:=Nr hx;cases C;simp only[GA,i,hn];exact pO g j
  ·rename_i hn;obtain⟨a,g,C⟩:=Nr hx;cases C;simp only[GA,i,hn];exact rx g j
 ·obtain⟨a,g,C⟩:=Nr hx;cases C;unfold vUn at g;split at g<;>cases g<;>(simp only[GA,i];exact j)
 ·split at hx
  ·rename_i p r;cases hx;simp only[GA,i,p,r];exact j
  ·rename_i p r;cases hx;simp only[GA,i,p,r];exact j
  ·rename_i p r;obtain⟨⟨J,U⟩,hx⟩:=K6 hx;cases hx;simp only[GA,i,p,r];refine⟨?_,λx hx'=>Ao.1 U x hx',j⟩;split at J
   ·assumption
   ·cases J
  ·cases hx
 ·cases hx;simp only[GA,i];exact j
 ·split at hx
  ·rename_i hb;split at hx
   ·rename_i hm;obtain⟨a,g,C⟩:=Nr hx;cases C;simp only[GA,i,hb,hm];exact l9 g j
   ·rename_i hm;obtain⟨a,g,C⟩:=Nr hx;cases C;simp only[GA,i,hb,hm];exact rY g j
  ·cases hx
 ·obtain⟨a,g,C⟩:=Nr hx;cases C;unfold Tr fieldAt at g;simp only[GA,i];split at g
  ·rename_i fd O;split at O
   ·rename_i fs t;simp only[t,O];obtain⟨p,g⟩:=K6 g;refine⟨p, ?_⟩;unfold ul at g;split at g<;>cases g<;>exact j
   ·cases O
  ·cases g
 ·obtain⟨a,g,C⟩:=Nr hx;cases C;unfold aI fieldAt at g;split at g
  ·rename_i fd cs O;split at O
   ·rename_i fs t;simp only[GA,i,t,O,g];exact j
   ·cases O
  ·cases g
 ·obtain⟨a,g,C⟩:=Nr hx;cases C;unfold Pc at g;split at g
  ·simp only[GA,i];exact⟨_,g,j⟩
  ·cases g
 ·obtain⟨a,g,C⟩:=Nr hx;cases C;unfold Mh at g;split at g
  ·split at g
   ·rename_i e own es t;obtain⟨p,g⟩:=K6 g;simp only[GA,i,t];obtain⟨x,r,g⟩:=CG.1 g;obtain⟨⟨J,U⟩,g⟩:=K6 g;cases g;exact⟨p,x,r,J,U,j⟩
   ·rename_i t;obtain⟨⟨p,r,J,U⟩,g⟩:=K6 g;cases g;simp only[GA,i,t];exact⟨p,r,J,U,j⟩
   ·rename_i t;obtain⟨⟨p,r,J⟩,g⟩:=K6 g;cases g;simp only[GA,i,t];exact⟨p,r,J,j⟩
   ·rename_i t;obtain⟨⟨p,r,J⟩,g⟩:=K6 g;cases g;simp only[GA,i,t];exact⟨p,r,J,j⟩
   ·cases g
  ·cases g
 ·obtain⟨a,g,C⟩:=Nr hx;cases C;unfold We at g;split at g
  ·split at g
   ·rename_i t;obtain⟨⟨p,r⟩,g⟩:=K6 g;cases g;simp only[GA,i,t];exact⟨p,r,j⟩
   ·rename_i t;obtain⟨⟨p,r,J⟩,g⟩:=K6 g;simp only[GA,i,t];exact⟨p,r,J,_,g,j⟩
   ·cases g
  ·cases g
 ·cases hx;simp only[GA,i];exact j
 ·simp only[GA,i];exact rc hx j
 ·simp only[GA,i];exact ABT hx j
 ·simp only[GA,i];exact ru hx j
 ·split at hx
  ·rename_i t;split at hx
   ·rename_i es he;obtain⟨⟨p,r⟩,hx⟩:=K6 hx;split at hx
    ·rename_i z T;cases hx;simp only[GA,i,t,he];exact⟨kD hw p,Xx r,z,T,j⟩
    ·cases hx
   ·cases hx
  ·cases hx
 ·split at hx
  ·rename_i t;split at hx
   ·rename_i es he;obtain⟨⟨p,r,J⟩,hx⟩:=K6 hx;cases hx;simp only[GA,i,t,he];exact⟨kD hw p,Xx r,J,j⟩
   ·cases hx
  ·cases hx
 ·rename_i c;split at hx
  ·rename_i I;split at hx
   ·obtain⟨a,g,C⟩:=Nr hx;cases C;unfold ACC at g;split at g<;>cases g<;>(rename_i t;simp only[GA,i,I,t];exact j)
   ·cases hx
  ·rename_i I;split at hx
   ·rename_i hat
    obtain⟨g0,hx⟩:=K6 hx;split at hx
    ·rename_i e t;obtain⟨⟨p,r⟩,hx⟩:=K6 hx;split at hx
     ·rename_i xs hs;simp only[GA,i,I,hat,iP g0,t,hs];exact⟨p,r,mN hx j⟩
     ·cases hx
    ·cases hx
   ·cases hx
  ·rename_i I;split at hx
   ·obtain⟨p,hx⟩:=K6 hx;cases hx;simp only[GA,i,I];exact⟨p,j⟩
   ·cases hx
  ·rename_i I;split at hx
   ·obtain⟨p,hx⟩:=K6 hx;cases hx;simp only[GA,i,I];exact⟨p,j⟩
   ·cases hx
  ·rename_i I;split at hx
   ·rename_i hat
    split at hx
    ·rename_i e t;split at hx
     ·rename_i cs z ho T;obtain⟨⟨p,r,J⟩,hx⟩:=K6 hx;cases hx;simp only[GA,i,I,hat,t,ho];exact⟨z,T,p,r,J,j⟩
     ·cases hx
    ·cases hx
   ·cases hx
  ·cases hx
 ·cases hx
end Go.AI
namespace Go.AI
inductive Task where
 |call (f:FuncId) (vs:List AV) (H:Fl)
 |yld (o:Nat) (L:LoopRec) (ys:List AV) (H:Fl)
 |code (hf:FuncId) (n:Nat) (ar:Option Nat) (c:Code) (e:GO) (H:Fl)
 |ops (hf:FuncId) (n:Nat) (os:Array Oper) (l:List Oper) (e:GO) (H:Fl)
inductive ROut where
 |val (v:AV) (H:Fl)
 |st (ex:Exit) (e:GO) (H:Fl)
structure EvT where
 tb:FuncId->Option Func
 hs:FuncId->Er
 wk:List TypeId
 orc:FuncId->List AV->Fl->Option (AV×Fl)
def Oi(H:Fl)(o:Nat):Option (Int×List AV) :=
 match H[o]? with
 |some (some [.tup [.int .i64 st],.tup g])=>some (st,g)
 |_=>none
def Qk{H:Fl}{o:Nat}{st:Int}{g:List AV}(h:Oi H o=some (st,g)):H[o]? =some (some (Hl st g)):=by
 unfold Oi at h;split at h
 ·rename_i i;cases h;exact i
 ·cases h
def iQ(P:Program)(n:Nat):List ResultVar->GO->Fl->Option (List AV×Fl)
 |[],_,H=>some ([],H)
 |.tmp t::g,e,H=>if t<n then(iQ P n g (OC P none true (.tmp t) e).2 H).map λr=>((OC P none true (.tmp t) e).1::r.1,r.2)else none
 | .cell t i::g,e,H=>if t<n then match sf P i (GJ e t) H with
   |some (v,j)=>(iQ P n g e j).map λr=>(v::r.1,r.2)
   |none=>none
  else none
def ACm:List AV->Option AV
 |[v]=>some v
 |g=>if g.all AV.isVal=true then some (.tup g)else none
def d7(g:Option Nat)(H:Fl):Bool :=
 match g with
 |none=>true
 |some o=>match H[o]? with
  |some (some _)=>true
  |_=>false
def AZv(n:Nat):Option Tmp->Bool
 |some d=>decide (d<n)
 |none=>true
def Wi(P:Program)(T:EvT)(j:Task->Option ROut)(f:FuncId)(i:List AV)(H:Fl):Option ROut :=
 match T.orc f i H with
 |some (v,g)=>some (.val v g)
 | none=>match T.tb f with
  | some fn=>match fn.body with
   | some c=>if i.length<=fn.ntmps then
     match j (.code f fn.ntmps none c (Gw 0 i) H)with
     |some (.st .normal e g)=>(iQ P fn.ntmps fn.results.toList e g).bind λr=>(ACm r.1).map λv => .val v r.2
     |some (.st .ret e g)=>(iQ P fn.ntmps fn.results.toList e g).bind λr=>(ACm r.1).map λv => .val v r.2
     |_=>none
    else none
   |none=>none
  |none=>none
def b8(T:EvT)(I:Task->Option ROut)(o:Nat)(L:LoopRec)(J:List AV)(H:Fl):Option ROut :=
 match T.tb L.tag,Oi H o with
 | some fn,some (st,j) =>
  if st=0/\j.length=fn.ntmps/\L.ps.toList.length=J.length/\L.ps.toList.all (λp=>decide (p<fn.ntmps))=true/\HB (T.hs L.tag) L.assign=true/\HB (T.hs L.tag) L.body=true then
   match I (.code L.tag fn.ntmps (some o) L.assign (Ln j L.ps.toList J (Gw 0 j)) H)with
   | some (.st .normal P O)=>match Oi O o with
    | some (r,t)=>if r=0 then
      match I (.code L.tag fn.ntmps (some o) L.body P (O.set o (some (Hl (-1) t))))with
      | some (.st R _ i)=>match Oi i o with
       | some (C,g)=>if C = -1 then match R with
         |.normal=>some (.val (.bool true) (i.set o (some (Hl 0 g))))
         |.ret=>some (.val (.bool false) (i.set o (some (Hl (-2) g))))
         |.exit k=>some (.val (.bool false) (i.set o (some (Hl ((k:Int)+1) g))))
         |_=>none
        else none
       |none=>none
      |_=>none
     else none
    |none=>none
   |_=>none
  else none
 |_,_=>none
def rh(P:Program)(h:Er)(o g:Oper)(e:GO):Bool :=
 match K4 P h o,K4 P h g with
 |some (a,k,s),some (b,l,i)=>(s||i)&&match GJ e a,GJ e b with
  |.ptr j f1,.ptr p f2 => !(j==p)||(decide (f1+k<=f2)||decide (f2+l<=f1))
  |_,_=>false
 |_,_=>false
def Ajn(P:Program)(h:Er)(ops:Array Oper)(e:GO):Bool:=(TD h ops).all λp=>rh P h p.1 p.2 e
def Lm(P:Program)(T:EvT)(p:Task->Option ROut)(i:FuncId)(n:Nat)(J:Option Nat)(c:Code)(e:GO)(H:Fl):Option ROut :=
 match c with
 |.skip=>some (.st .normal e H)
 |.ret=>some (.st .ret e H)
 |.exit id=>some (.st (.exit id) e H)
 | .region id ops _=>match p (.ops i n ops ((T.hs i).ord id ops) e H) with
  | some (.st .normal C O) =>
   if(!((T.hs i).da id)||Ajn P (T.hs i) ops C)=true then
    match LO ((T.hs i).at id) (IQ ((T.hs i).lv id) C) O with
    |(V,R)=>some (.st .normal V (Vk ((T.hs i).ct id) V R))
   else none
  |_=>none
 |.seq a b=>match p (.code i n J a e H)with
  |some (.st .normal C O)=>p (.code i n J b C O)
  |r=>r
 |.cond c a b=>match Hh P none e c with
  |.bool t=>if t=true then p (.code i n J a e H)else p (.code i n J b e H)
  |_=>none
 |.block id c=>match p (.code i n J c e H)with
  |some (.st (.exit j) C O)=>if j=id then some (.st .normal C O)else some (.st (.exit j) C O)
  |r=>r
 |.loop c=>match p (.code i n J c e H)with
  |some (.st .normal C O)=>p (.code i n J (.loop c) C O)
  |r=>r
 | .rangeFunc g ps I U=>match Hh P none e g with
  | .fn (.func f) first o=>if d7 J H=true then
    match p (.call f (first.map AV.borrow++[.yld H.length ⟨i,ps,I,U⟩]++o.map AV.borrow) (H++[some (Hl 0 (IY n e))]))with
    |some (.val _ R)=>match Oi R H.length with
     | some (st,_)=>if st=0 then some (.st .normal e (R.set H.length none)) else if st = -2 then some (.st .ret e (R.set H.length none)) else
       if 0<st then some (.st (.exit (st - 1).toNat) e (R.set H.length none))else none
     |none=>none
    |_=>none
   else none
  |_=>none
 |_=>none
mutual
def JC:AV->AV->Bool
 |.int k n,b=>match b with | .int r C=>decide (k=r)&&n==C|_=>false
 |.bool x,b=>match b with | .bool y=>x==y|_=>false
 |.str s,b=>match b with | .str t=>s.data.toList==t.data.toList|_=>false
 |.nilp,b=>match b with | .nilp=>true|_=>false
 |.ptr o x,b=>match b with | .ptr g i=>o==g&&x==i|_=>false
 |.cptr I x,b=>match b with | .cptr j i=>Pg I j&&x==i|_=>false
 |.sl w J,b=>match b with | .sl O p=>w==O&&Pg J p|_=>false
 |.msl o x l z,b=>match b with | .msl g i P R=>o==g&&(x==i&&(l==P&&z==R))|_=>false
 |.fn (.func f) x y,b=>match b with | .fn (.func T) i U=>f==T&&(Pg x i&&Pg y U)|_=>false
 |.nilf,b=>match b with | .nilf=>true|_=>false
 |.mapr o,b=>match b with | .mapr g=>o==g|_=>false
 |.nilm,b=>match b with | .nilm=>true|_=>false
 |.it o,b=>match b with | .it g=>o==g|_=>false
 |.nili,b=>match b with | .nili=>true|_=>false
 |.agg x,b=>match b with | .agg y=>Pg x y|_=>false
 |.tup x,b=>match b with | .tup y=>Pg x y|_=>false
 |.undef,b=>match b with | .undef=>true|_=>false
 |_,_=>false
def Pg:List AV->List AV->Bool
 |[],l=>match l with|[]=>true|_=>false
 |a::x,l=>match l with|b::y=>JC a b&&Pg x y|_=>false
end
mutual
def ACe : ∀ (a b:AV),JC a b=true->a=b
 |.int k n,b,h=>by cases b<;>simp_all[JC]
 |.bool x,b,h=>by cases b<;>simp_all[JC]
 |.str s,b,h=>by
  cases b<;>simp[JC]at h;rename_i t;rw[ByteArray.ext h]
 |.nilp,b,h=>by cases b<;>simp_all[JC]
 |.ptr o x,b,h=>by cases b<;>simp_all[JC]
 |.cptr p x,b,h=>by
  cases b<;>simp[JC]at h;rw[J5 _ _ h.1,h.2]
 |.sl w r,b,h=>by
  cases b<;>simp[JC]at h;rw[J5 _ _ h.2,h.1]
 |.msl o x l z,b,h=>by cases b<;>simp_all[JC]
 | .fn (.func f) x y,b,h=>by
  cases b with
  |fn g i j =>
   cases g<;>simp[JC]at h;rw[J5 _ _ h.2.1,J5 _ _ h.2.2,h.1]
  |_=>simp[JC]at h
 |.nilf,b,h=>by cases b<;>simp_all[JC]
 |.mapr o,b,h=>by cases b<;>simp_all[JC]
 |.nilm,b,h=>by cases b<;>simp_all[JC]
 |.it o,b,h=>by cases b<;>simp_all[JC]
 |.nili,b,h=>by cases b<;>simp_all[JC]
 |.agg x,b,h=>by
  cases b<;>simp[JC]at h;rw[J5 _ _ h]
 |.tup x,b,h=>by
  cases b<;>simp[JC]at h;rw[J5 _ _ h]
 |.undef,b,h=>by cases b<;>simp_all[JC]
 |.yld o L,b,h=>by simp[JC]at h
 |.ifc t a,b,h=>by simp[JC]at h
 | .fn f x y,b,h=>by
  cases f with
  | func f =>
   cases b with
   |fn g i j =>
    cases g<;>simp[JC]at h;rw[J5 _ _ h.2.1,J5 _ _ h.2.2,h.1]
   |_=>simp[JC]at h
  |_=>simp[JC]at h
def J5:∀(x y:List AV),Pg x y=true->x=y
 |[],l,h=>by cases l<;>simp_all[Pg]
 |a::x,l,h=>by
  cases l<;>simp[Pg]at h;rw[ACe _ _ h.1,J5 _ _ h.2]
end
def ii:Fl->Fl->Bool
 |[],_=>true
 | a::H,l=>match l with
  |b::g=>(match a,b with
   |some x,some y=>Pg x y
   |none,none=>true
   |_,_=>false)&&ii H g
  |[]=>false
def ig:∀(H g:Fl),ii H g=true -> ∃ext,g=H++ext
 |[],g,_=>⟨g,rfl⟩
 | a::H,l,h=>by
  cases l with
  |nil=>simp[ii]at h
  |cons b g =>
   simp only[ii,AQ]at h;obtain⟨ext,rfl⟩:=ig H g h.2;refine⟨ext, ?_⟩;have i:=h.1;cases a<;>cases b<;>simp at i
   ·rfl
   ·rw[J5 _ _ i];rfl
def WC(T:EvT)(r:Task->Option ROut)(j:FuncId)(o:Oper)(i:List AV)(H:Fl):Option (AV×Fl) :=
 match i with
 | .fn (.func f) first g::args =>
  match o.dst.any (T.hs j).pc.contains with
  | true=>if Fq (first.map AV.borrow++args++g.map AV.borrow)=true then match r (.call f (first.map AV.borrow++args++g.map AV.borrow) []) with
    |some (.val v _)=>if v.pure=true then some (v,H)else none
    |_=>none
   else none
  |false=>match r (.call f (first.map AV.borrow++args++g.map AV.borrow) H)with
   |some (.val v p)=>if(!o.dst.any (T.hs j).mt.contains||ii H p)=true then some (v,p)else none
   |_=>none
 | .yld t L::args =>
  match o.dst.any (T.hs j).pc.contains||o.dst.any (T.hs j).mt.contains with
  |true=>none
  |false=>match r (.yld t L args H)with
   |some (.val v p)=>some (v,p)
   |_=>none
 |_=>none
def WN(o:Oper):Bool :=
 match o.op with
 |.call c=>match c.callee with
  |.value _=>true
  |_=>false
 |_=>false
def b9(P:Program)(T:EvT)(j:Task->Option ROut)(i:FuncId)(n:Nat)(p:Array Oper)(l:List Oper)(e:GO)(H:Fl):Option ROut :=
 match l with
 |[]=>some (.st .normal e H)
 | o::l=>match nc p e o with
  | some true=>if AZv n o.dst=true then
    match Pb P (IA o) (GU (T.hs i) o) o.op.operands.toList e with
    | (g,r)=>match (match WN o with
      |true=>WC T j i o g H
      |false=>uP P T.wk (T.hs i) o g H)with
     |some (v,t)=>j (.ops i n p l (put o.dst v r) t)
     |none=>none
   else none
  |some false=>if AZv n o.dst=true then j (.ops i n p l (put o.dst (.tup []) e) H)else none
  |none=>none
def AJs(P:Program)(T:EvT)(g:Task->Option ROut):Task->Option ROut
 |.call f j H=>Wi P T g f j H
 |.yld o L p H=>b8 T g o L p H
 |.code i n r c e H=>Lm P T g i n r c e H
 |.ops i n t l e H=>b9 P T g i n t l e H
noncomputable def Y'(P:Program)(T:EvT)(k:Nat):Task->Option ROut:=Nat.rec (λ_=>none) (λ_ g t=>AJs P T g t) k
structure EvOk (P:Program) (T:EvT):Prop where
 mixed:P.follows .mixedOrders=true
 wide:eN P T.wk
 fn:∀f fn,T.tb f=some fn->P.funcs[f]? =some fn/\IB P f=true/\fn.body.any (HB (T.hs f))=true/\(T.hs f).gc=[]
 orc:∀f vs H v H',T.orc f vs H=some (v,H')->Fw P f vs H λv2 H2=>v2=v/\H2=H'
def Sb(P:Program)(T:EvT):Task->ROut->Prop
 |.call f J H,.val v g=>Fw P f J H λj i=>j=v/\i=g
 |.yld o L O H,.val v g=>OH P o L O H λj i=>j=v/\i=g
 |.code p n R c e H,.st r t g=>Jw P n (T.hs p) R c (λC I i=>C=r/\I=t/\i=g) e H
 |.ops p n U l e H,.st r t g=>r = .normal/\MB P n (T.hs p) U l (λI i=>I=t/\i=g) e H
 |_,_=>False
section
variable{P:Program}{T:EvT}
def ABI{h:Er}{o j:Oper}{e:GO}(g:rh P h o j e=true):K2 P h o j e:=by
 unfold rh at g;unfold K2;generalize K4 P h o=x at g ⊢;generalize K4 P h j=y at g ⊢;cases x with
 |none=>cases g
 | some x=>cases y with
  |none=>cases g
  |some y =>
   obtain⟨a,k,s⟩:=x;obtain⟨b,l,r⟩:=y;dsimp only at g ⊢;simp only[AQ,CI]at g;obtain⟨p,i⟩:=g;refine⟨p, ?_⟩;generalize GJ e a=u at i ⊢;generalize GJ e b=w at i ⊢;cases u<;>first|(cases i;done)|skip
   cases w<;>first|(cases i;done)|skip
   simpa using i
def AIW{h:Er}{ops:Array Oper}{e:GO}(g:Ajn P h ops e=true):KQ P h ops e:=λp i=>ABI (Ao.1 g p i)
def WE{n:Nat}{K:List AV->Fl->Prop}: ∀{o:List ResultVar} {e:GO} {H:Fl} {g:List AV} {i:Fl},iQ P n o e H=some (g,i)->K g i->iR P n o e H λg _ H=>K g H
 |[],e,H,g,i,h,j=>by cases h;exact j
 |.tmp t::o,e,H,g,i,h,j=>by
  simp only[iQ]at h;obtain⟨p,h⟩:=K6 h;obtain⟨r,C,I⟩:=Nr h;cases I;exact⟨p,WE (K:=λg H=>K ((OC P none true (.tmp t) e).1::g) H) C j⟩
 | .cell t O::o,e,H,g,i,h,j=>by
  simp only[iQ]at h;obtain⟨p,h⟩:=K6 h;split at h
  ·rename_i v R J;obtain⟨r,C,I⟩:=Nr h;cases I;rw[iO];refine⟨p, ?_⟩;rw[J];exact WE (K:=λg H=>K (v::g) H) C j
  ·cases h
def s6{K:AV->Fl->Prop}{i:List AV}{v:AV}{H:Fl}(h:ACm i=some v)(j:K v H):Rp K i H:=by
 unfold ACm at h;unfold Rp;split at h
 ·cases h;exact j
 ·rename_i g;obtain⟨o,p⟩:=K6 h;cases p;split
  ·exact absurd rfl (g _)
  ·exact⟨λx hx=>Ao.1 o x hx,j⟩
def rZ{i:Option Nat}{H:Fl}(h:d7 i H=true):d8 i H:=by
 unfold d7 at h;unfold d8;split at h
 ·trivial
 ·split at h
  ·rename_i j g;exact⟨j,g⟩
  ·cases h
def tp{n:Nat}{d:Option Tmp}(h:AZv n d=true):HO n d:=by
 cases d with
 |none=>trivial
 |some d=>exact(of_decide_eq_true h:d<n)
def O_{f:FuncId}{o:List AV}{v:AV}(p:Fw P f o [] λr _=>r=v)(t:Fq o=true)(C:v.pure=true):Fm P f o v:=λH =>
 ⟨p.1,λF G w I g=>Calls.mono (p.2 _ _ w I (g.hide (Ix t))) λe T J=>by
  obtain⟨u,rfl,U,V,G',rfl,i,j⟩:=J;obtain⟨O,R⟩:=g.unhide C i j;exact⟨u,rfl,_,H,_,⟨rfl,rfl⟩,O,R⟩⟩
def uz(E:EvOk P T){C:Task->Option ROut}(I : ∀ t g,C t=some g->Sb P T t g){f:FuncId}{i:List AV}{H:Fl}{g:ROut}(h:Wi P T C f i H=some g):Sb P T (.call f i H) g:=by
 unfold Wi at h;split at h
 ·rename_i v H1 ho;cases h;exact E.orc f i H v H1 ho
 ·split at h
  ·rename_i fn J;obtain⟨e1,U,e3,e4⟩:=E.fn f fn J;split at h
   ·rename_i c hb;obtain⟨hn,h⟩:=K6 h;have j:∀(p:Exit) (e:GO) (O:Fl),(p = .normal\/p = .ret)->C (.code f fn.ntmps none c (Gw 0 i) H)=some (.st p e O) ->
      ((iQ P fn.ntmps fn.results.toList e O).bind λr=>(ACm r.1).map λv=>ROut.val v r.2)=some g->Sb P T (.call f i H) g:=by
     intro p e O R o hr;obtain⟨r,V,h2⟩:=CG.1 hr;obtain⟨v,h3,h4⟩:=Nr h2;subst h4;refine nZ (T.hs f) e4 E.mixed e3 e1 hb U hn (G9 c _ _ _ _ (λex2 U H2 hq=>?_) (I _ _ o));obtain⟨rfl,rfl,rfl⟩:=hq;rcases R with rfl|rfl
     ·exact WE (K:=λi H=>Rp _ i H) V (s6 h3 ⟨rfl,rfl⟩)
     ·exact WE (K:=λi H=>Rp _ i H) V (s6 h3 ⟨rfl,rfl⟩)
    split at h
    ·rename_i o;exact j _ _ _ (.inl rfl) o h
    ·rename_i o;exact j _ _ _ (.inr rfl) o h
    ·cases h
   ·cases h
  ·cases h
def ACQ(E:EvOk P T){ih:Task->Option ROut}(V : ∀ t g,ih t=some g->Sb P T t g){o:Nat}{L:LoopRec}{ys:List AV}{H:Fl}{g:ROut}(h:b8 T ih o L ys H=some g):Sb P T (.yld o L ys H) g:=by
 unfold b8 at h;split at h
 ·rename_i fn st av hfn hlo
  obtain⟨e1,e2,e3,e4⟩:=E.fn _ fn hfn;have h':=K6 h;clear h;obtain⟨⟨rfl,g2,g3,g4,g5,g6⟩,h⟩:=h';cases hi:ih (.code L.tag fn.ntmps (some o) L.assign (Ln av L.ps.toList ys (Gw 0 av)) H)with
  |none=>rw[hi]at h;cases h
  | some q =>
   rw[hi]at h;cases q with
   |val v U=>cases h
   | st ex0 e2 H2 =>
    cases ex0 with
    | normal =>
     dsimp only at h;cases j:Oi H2 o with
     |none=>rw[j]at h;cases h
     | some q2 =>
      obtain⟨st2,av2⟩:=q2;rw[j]at h;dsimp only at h;have h':=K6 h;clear h;obtain⟨rfl,h⟩:=h';cases O:ih (.code L.tag fn.ntmps (some o) L.body e2 (H2.set o (some (Hl (-1) av2))))with
      |none=>rw[O]at h;cases h
      | some q3 =>
       rw[O]at h;cases q3 with
       |val v U=>cases h
       | st ex e3 H3 =>
        dsimp only at h;cases r:Oi H3 o with
        |none=>rw[r]at h;cases h
        | some q4 =>
         obtain⟨st3,I⟩:=q4;rw[r]at h;dsimp only at h;have h':=K6 h;clear h;obtain⟨rfl,h⟩:=h';obtain⟨tag,ps,i,J⟩:=L;have C:∀(v:AV) (U:Fl),g = .val v U->(∀R:AV->Fl->Prop,R v U->match (generalizing:=false) ex with
           |.normal=>R (.bool true) (H3.set o (some (Hl 0 I)))
           |.ret=>R (.bool false) (H3.set o (some (Hl (-2) I)))
           |.exit k=>R (.bool false) (H3.set o (some (Hl ((k:Int)+1) I)))
           |_=>False)->Sb P T (.yld o ⟨tag,ps,i,J⟩ ys H) g:=by
          intro v U he hR;subst he;refine MJ E.mixed e4 ⟨g5,g6⟩ (λp hp=>of_decide_eq_true (Ao.1 g4 p hp)) ys H _ av (Qk hlo) g2 g3 (G9 i _ _ _ _ (λex2 e4 H4 hq=>?_) (V _ _ hi));obtain⟨rfl,rfl,rfl⟩:=hq;refine⟨rfl,av2,Qk j,G9 J _ _ _ _ (λex5 e5 H5 hq=>?_) (V _ _ O)⟩;obtain⟨rfl,rfl,rfl⟩:=hq;exact⟨I,Qk r,hR (λv2 H2=>v2=v/\H2=U) ⟨rfl,rfl⟩⟩
         cases ex with
         |normal=>cases h;exact C _ _ rfl λR hr=>hr
         |ret=>cases h;exact C _ _ rfl λR hr=>hr
         |exit k=>cases h;exact C _ _ rfl λR hr=>hr
         |_=>cases h
    |_=>cases h
 ·cases h
def ACR (E:EvOk P T) {V:Task->Option ROut} (J : ∀ t out,V t=some out->Sb P T t out) {O:FuncId} {o:Oper} (ho:WN o=true) {i:List AV} {H:Fl} {v:AV} {H':Fl} (h:WC T V O o i H=some (v,H'))
  {R:AV->Fl->Prop} (hr:R v H'):GA P (T.hs O) o i H R:=by
 obtain⟨j,op,ty,pos,after,guard⟩:=o;cases op<;>first|cases ho|skip
 rename_i c;obtain⟨C,args0,ts⟩:=c;cases C<;>first|cases ho|skip
 rename_i fo;unfold WC at h;cases i with
 |nil=>cases h
 | cons a args =>
  cases a<;>first|cases h|skip
  case fn f first g =>
   cases f<;>first|cases h|skip
   rename_i f;dsimp only at h;cases r:(Cx (T.hs O).pc.contains j)with
   | true =>
    rw[r]at h;dsimp only at h;have h':=K6 h;clear h;obtain⟨hp,h⟩:=h';cases p:V (.call f (first.map AV.borrow++args++g.map AV.borrow) [])with
    |none=>rw[p]at h;cases h
    | some q =>
     rw[p]at h;cases q with
     |st _ _ _=>cases h
     |val v1 H1 =>
      dsimp only at h;have h':=K6 h;clear h;obtain⟨hpv,h⟩:=h';cases h;have hpc:Fm P f (first.map AV.borrow++args++g.map AV.borrow) v:=O_ (Fw.mono (show Fw P f _ [] (λU I=>U=v/\I=H1)from J _ _ p) λ_ _ hq=>hq.1) hp hpv;simp only[GA,r];cases hmt:Cx (T.hs O).mt.contains j with
      |true=>exact⟨v,.inl λI _=>hpc I,hr⟩
      |false=>exact⟨v,hpc,hr⟩
   | false =>
    rw[r]at h;dsimp only at h;cases p:V (.call f (first.map AV.borrow++args++g.map AV.borrow) H)with
    |none=>rw[p]at h;cases h
    | some q =>
     rw[p]at h;cases q with
     |st _ _ _=>cases h
     | val v1 H1 =>
      dsimp only at h;have h':=K6 h;clear h;obtain⟨hpf,h⟩:=h';cases h;have hA:Fw P f (first.map AV.borrow++args++g.map AV.borrow) H (λU I=>U=v/\I=H'):=J _ _ p;simp only[GA,r];cases hmt:Cx (T.hs O).mt.contains j with
      |true =>
       rw[hmt,Bool.not_true,Bool.false_or]at hpf;obtain⟨ext,rfl⟩:=ig _ _ hpf;exact⟨v,ext,hA,hr⟩
      |false=>exact hA.mono λU I hq=>by obtain⟨rfl,rfl⟩:=hq;exact hr
  case yld o' L =>
   dsimp only at h;cases r:(Cx (T.hs O).pc.contains j||Cx (T.hs O).mt.contains j)with
   |true=>rw[r]at h;cases h
   | false =>
    rw[r]at h;rw[Bool.or_eq_false_iff]at r;dsimp only at h;cases p:V (.yld o' L args H)with
    |none=>rw[p]at h;cases h
    | some q =>
     rw[p]at h;cases q with
     |st _ _ _=>cases h
     |val v1 H1 =>
      cases h;simp only[GA];exact⟨⟨r.1,r.2⟩,OH.mono (show OH P o' L args H (λU I=>U=v/\I=H')from J _ _ p) λU I hq=>by obtain⟨rfl,rfl⟩:=hq;exact hr⟩
def ACS(E:EvOk P T){U:Task->Option ROut}(R : ∀ t g,U t=some g->Sb P T t g){j:FuncId}{n:Nat}{C:Array Oper}{l:List Oper}{e:GO}{H:Fl}{g:ROut}(h:b9 P T U j n C l e H=some g):Sb P T (.ops j n C l e H) g:=by
 unfold b9 at h;cases l with
 |nil=>cases h;exact⟨rfl,rfl,rfl⟩
 | cons o l =>
  have next:∀{e1:GO} {V:Fl},U (.ops j n C l e1 V)=some g -> ∃J I,g = .st .normal J I/\MB P n (T.hs j) C l (λe2 H2=>e2=J/\H2=I) e1 V:=λhi=>by
   have p:=R _ _ hi;cases g with
   |val v I=>exact p.elim
   |st ex J I=>obtain⟨rfl,p⟩:=p;exact⟨J,I,rfl,p⟩
  dsimp only at h;cases r:nc C e o with
  |none=>rw[r]at h;cases h
  | some b =>
   rw[r]at h;cases b with
   |false =>
    dsimp only at h;obtain⟨hd,h⟩:=K6 h;obtain⟨J,I,rfl,p⟩:=next h;refine⟨rfl, ?_⟩;show JK P n (T.hs j) C o _ e H;unfold JK;rw[r];exact⟨tp hd,p⟩
   | true =>
    dsimp only at h;have h':=K6 h;clear h;obtain⟨hd,h⟩:=h';cases O:(match WN o with
      |true=>WC T U j o (Pb P (IA o) (GU (T.hs j) o) o.op.operands.toList e).1 H
      |false=>uP P T.wk (T.hs j) o (Pb P (IA o) (GU (T.hs j) o) o.op.operands.toList e).1 H)with
    |none=>rw[O]at h;cases h
    |some q =>
     obtain⟨v,V⟩:=q;rw[O]at h;obtain⟨J,I,rfl,p⟩:=next h;refine⟨rfl, ?_⟩;show JK P n (T.hs j) C o _ e H;unfold JK;rw[r];refine⟨tp hd, ?_⟩;cases i:WN o with
     |true=>rw[i]at O;exact ACR E R i O p
     |false=>rw[i]at O;exact AF6 E.wide O p
def uy(E:EvOk P T){ih:Task->Option ROut}(hih : ∀ t i,ih t=some i->Sb P T t i){V:FuncId}{n:Nat}{ar:Option Nat}{c:Code}{e:GO}{H:Fl}{i:ROut}(h:Lm P T ih V n ar c e H=some i):Sb P T (.code V n ar c e H) i:=by
 have part:∀{c:Code} {e:GO} {H:Fl} {i:ROut},ih (.code V n ar c e H)=some i -> ∃J e' H',i = .st J e' H'/\Jw P n (T.hs V) ar c (λo O p=>o=J/\O=e'/\p=H') e H:=λ{c e H i} R=>by
  have C:=hih _ _ R;cases i with
  |val v H'=>exact C.elim
  |st J e' H'=>exact⟨J,e',H',rfl,C⟩
 cases c with
 |skip=>cases h;exact⟨rfl,rfl,rfl⟩
 |ret=>cases h;exact⟨rfl,rfl,rfl⟩
 |exit id=>cases h;exact⟨rfl,rfl,rfl⟩
 | region id ops draw =>
  simp only[Lm]at h;cases R:ih (.ops V n ops ((T.hs V).ord id ops) e H)with
  |none=>rw[R]at h;cases h
  | some q =>
   rw[R]at h;have C:=hih _ _ R;cases q with
   |val v H'=>cases h
   |st J e1 H1 =>
    obtain⟨rfl,C⟩:=C;dsimp only at h;obtain⟨hdy,h⟩:=K6 h;cases h;refine SP _ _ _ _ _ (λO p r=>?_) C;obtain⟨rfl,rfl⟩:=r;refine⟨λhd=>?_,rfl,rfl,rfl⟩;rw[hd]at hdy;exact AIW (by simpa using hdy)
 | seq a b =>
  simp only[Lm]at h;cases R:ih (.code V n ar a e H)with
  |none=>rw[R]at h;cases h
  | some q =>
   rw[R]at h;obtain⟨J,e1,H1,rfl,C⟩:=part R;have other:J ≠ .normal->i = .st J e1 H1->Sb P T (.code V n ar (.seq a b) e H) i:=λhne he=>by
    subst he;refine G9 a _ _ _ _ (λo O p r=>?_) C;obtain⟨rfl,rfl,rfl⟩:=r;cases o<;>first|exact absurd rfl hne|exact⟨rfl,rfl,rfl⟩
   cases J with
   |normal =>
    dsimp only at h;obtain⟨ex',e',H',rfl,hg2⟩:=part h;refine G9 a _ _ _ _ (λo O p r=>?_) C;obtain⟨rfl,rfl,rfl⟩:=r;exact hg2
   |_=>cases h;exact other F3 rfl
 | cond c a b =>
  simp only[Lm]at h;cases hc:Hh P none e c with
  | bool t =>
   rw[hc]at h;dsimp only at h;have C:∃J e' H',i = .st J e' H'/\Jw P n (T.hs V) ar (if t=true then a else b) (λo O p=>o=J/\O=e'/\p=H') e H:=by
    cases t with
    |true=>exact part h
    |false=>exact part h
   obtain⟨J,e',H',rfl,C⟩:=C;show Jw P n (T.hs V) ar (.cond c a b) _ e H;simp only[Jw,hc];cases t with
   |true=>exact C
   |false=>exact C
  |_=>rw[hc]at h;cases h
 | block id c =>
  simp only[Lm]at h;cases R:ih (.code V n ar c e H)with
  |none=>rw[R]at h;cases h
  | some q =>
   rw[R]at h;obtain⟨J,e1,H1,rfl,C⟩:=part R;cases J with
   | exit j =>
    dsimp only at h;by_cases hj:j=id
    ·rw[iP hj]at h;cases h;refine G9 c _ _ _ _ (λo O p r=>?_) C;obtain⟨rfl,rfl,rfl⟩:=r;dsimp only;rw[iP hj];exact⟨rfl,rfl,rfl⟩
    ·rw[iN hj]at h;cases h;refine G9 c _ _ _ _ (λo O p r=>?_) C;obtain⟨rfl,rfl,rfl⟩:=r;dsimp only;rw[iN hj];exact⟨rfl,rfl,rfl⟩
   |_ =>
    cases h;refine G9 c _ _ _ _ (λo O p r=>?_) C;obtain⟨rfl,rfl,rfl⟩:=r;exact⟨rfl,rfl,rfl⟩
 | loop c =>
  simp only[Lm]at h;cases R:ih (.code V n ar c e H)with
  |none=>rw[R]at h;cases h
  | some q =>
   rw[R]at h;obtain⟨J,e1,H1,rfl,C⟩:=part R;have other:J ≠ .normal->i = .st J e1 H1->Sb P T (.code V n ar (.loop c) e H) i:=λhne he=>by
    subst he;refine⟨λe' H'=>e'=e/\H'=H,λ_ _=>0,⟨rfl,rfl⟩,λe' H' hI=>?_⟩;obtain⟨rfl,rfl⟩:=hI;refine G9 c _ _ _ _ (λo O p r=>?_) C;obtain⟨rfl,rfl,rfl⟩:=r;cases o<;>first|exact absurd rfl hne|exact⟨rfl,rfl,rfl⟩
   cases J with
   | normal =>
    dsimp only at h;obtain⟨ex',e',H',rfl,I,μ,hI,hr⟩:=part h
    classical
    by_cases hold:I e H
    ·exact⟨I,μ,hold,hr⟩
    ·refine⟨λO p=>(O=e/\p=H)\/I O p,λO p=>if O=e/\p=H then μ e1 H1+1 else μ O p,.inl ⟨rfl,rfl⟩,λO p hI2=>?_⟩;have hne:∀{e3:GO} {H3:Fl},I e3 H3 -> ¬(e3=e/\H3=H):=λh3 hh=>hold (by rw[<- hh.1,<- hh.2];exact h3);by_cases hat:O=e/\p=H
     ·obtain⟨rfl,rfl⟩:=hat
      refine G9 c _ _ _ _ (λo e3 H3 r=>?_) C;obtain⟨rfl,rfl,rfl⟩:=r;dsimp only;refine⟨.inr hI, ?_⟩;rw[iN (hne hI),iP ⟨rfl,rfl⟩];omega
     ·have hI3:I O p:=hI2.resolve_left hat
      refine G9 c _ _ _ _ (λo e3 H3 r=>?_) (hr O p hI3);cases o with
      |normal =>
       refine⟨.inr r.1, ?_⟩;dsimp only;rw[iN hat,iN (hne r.1)];exact r.2
      |_=>exact r
   |_=>cases h;exact other F3 rfl
 | rangeFunc g ps assign body =>
  simp only[Lm]at h;cases C:Hh P none e g with
  | fn f first U =>
   rw[C]at h;cases f with
   | func f =>
    dsimp only at h;have h':=K6 h;clear h;obtain⟨har,h⟩:=h';cases R:ih (.call f (first.map AV.borrow++[.yld H.length ⟨V,ps,assign,body⟩]++U.map AV.borrow) (H++[some (Hl 0 (IY n e))]))with
    |none=>rw[R]at h;cases h
    | some q =>
     rw[R]at h;have hc:=hih _ _ R;cases q with
     |st _ _ _=>cases h
     | val v p =>
      dsimp only at h;cases hlo:Oi p H.length with
      |none=>rw[hlo]at h;cases h
      | some q2 =>
       obtain⟨st,av⟩:=q2;rw[hlo]at h;dsimp only at h;have fin:∀J:Exit,i = .st J e (p.set H.length none)->(∀Q:Exit->Kt,Q J e (p.set H.length none)->(st=0/\Q .normal e (p.set H.length none))\/(st = -2/\Q .ret e (p.set H.length none)) \/ ∃k:Nat,st=(k:Int)+1/\Q (.exit k) e (p.set H.length none)) ->
         Sb P T (.code V n ar (.rangeFunc g ps assign body) e H) i:=by
        intro J he hQ;subst he;refine⟨rZ har,V,f,first,U,C,Fw.mono (show Fw P f _ _ (λv2 H3=>v2=v/\H3=p)from hc) λv2 H3 r=>?_⟩;obtain⟨rfl,rfl⟩:=r;exact⟨st,av,Qk hlo,hQ (λo O H2'=>o=J/\O=e/\H2'=_) ⟨rfl,rfl,rfl⟩⟩
       by_cases h0:st=0
       ·rw[iP h0]at h;cases h;exact fin _ rfl λQ r => .inl ⟨h0,r⟩
       ·rw[iN h0]at h;by_cases h2:st = -2
        ·rw[iP h2]at h;cases h;exact fin _ rfl λQ r => .inr (.inl ⟨h2,r⟩)
        ·rw[iN h2]at h;have h':=K6 h;clear h;obtain⟨hp,h⟩:=h';cases h;exact fin _ rfl λQ r => .inr (.inr ⟨(st - 1).toNat,Fj,r⟩)
   |_=>cases h
  |_=>rw[C]at h;cases h
 |_=>cases h
def oI(E:EvOk P T): ∀(k:Nat) (t:Task) (g:ROut),Y' P T k t=some g->Sb P T t g
 | 0,t,g,h=>by cases h
 |k+1,t,g,h=>by
  have i:=oI E k;have h:AJs P T (Y' P T k) t=some g:=h;cases t with
  |call f p H=>exact uz E i h
  |yld o L r H=>exact ACQ E i h
  |code j n C c e H=>exact uy E i h
  |ops j n I l e H=>exact ACS E i h
def Fw.run(E:EvOk P T)(k:Nat){f:FuncId}{vs:List AV}{H:Fl}{v:AV}{g:Fl}(h:Y' P T k (.call f vs H)=some (.val v g)):Fw P f vs H λi j=>i=v/\j=g:=oI E k _ _ h
def Fm.run(E:EvOk P T)(k:Nat){f:FuncId}{g:List AV}{v:AV}(o:Fq g=true)(p:v.pure=true)(h:(match Y' P T k (.call f g [])with|some (.val j _)=>some j|_=>none)=some v):Fm P f g v:=by
 cases i:Y' P T k (.call f g [])with
 |none=>rw[i]at h;cases h
 | some q =>
  rw[i]at h;cases q with
  |st _ _ _=>cases h
  |val j t =>
   cases h;exact O_ ((Fw.run E k i).mono λ_ _ r=>r.1) o p
end
end Go.AI
namespace Go.AI
inductive ETree where
 |nil
 |node (l:ETree) (k:Nat) (fn:Func) (h:Er) (r:ETree)
def ETree.find:ETree->Nat->Option (Func×Er)
 |.nil,_=>none
 |.node l k fn h r,f=>bif CJ f k then some (fn,h)else bif Nat.blt f k then l.find f else r.find f
def GE(P:Program)(f:Nat)(fn:Func)(h:Er):Prop:=P.funcs[f]? =some fn/\IB P f=true/\fn.body.any (HB h)=true/\h.gc=[]
def ETree.All(P:Program):ETree->Prop
 |.nil=>True
 |.node l k fn h r=>l.All P/\GE P k fn h/\r.All P
def Nb{P:Program}: ∀{t:ETree} {f:Nat} {fn:Func} {h:Er},t.All P->t.find f=some (fn,h)->GE P f fn h
 |.nil,f,fn,h,_,g=>by cases g
 | .node l k p C r,f,fn,h,i,g=>by
  simp only[ETree.find]at g;cases j:CJ f k with
  |true =>
   rw[j]at g;cases g;have:=DN j;subst this;exact i.2.1
  |false =>
   rw[j]at g;cases o:Nat.blt f k with
   |true=>rw[o]at g;exact Nb i.1 g
   |false=>rw[o]at g;exact Nb i.2.2 g
def ALZ:Er:=⟨[],[],[],[],[],[],[]⟩
abbrev Orc:=FuncId->List AV->Fl->Option (AV×Fl)
def AJw:Orc:=λ_ _ _=>none
def uY(P:Program)(o:Orc):Prop:=∀f g H v i,o f g H=some (v,i)->Fw P f g H λj p=>j=v/\p=i
def ADh(P:Program):uY P AJw:=λ_ _ _ _ _ h=>by cases h
def ETree.evt(t:ETree)(g:List TypeId)(o:Orc):EvT:=⟨λf=>(t.find f).map (·.1),λf=>((t.find f).map (·.2)).getD ALZ,g,o⟩
def ETree.ok{P:Program}{t:ETree}{g:List TypeId}{o:Orc}(hm:P.follows .mixedOrders=true)(j:eN P g)(p:uY P o)(r:t.All P):EvOk P (t.evt g o):=by
 refine⟨hm,j,λf fn C=>?_,p⟩;obtain⟨⟨I,h⟩,i,rfl⟩:=Nr C;have J:(t.evt g o).hs f=h:=by simp only[ETree.evt,i];rfl
 rw[J];exact Nb r i
open Go.Proofs
def G5{P:Program}{n:Nat}{f:Func}{h:Er}(g:P.funcs[n]? =some f)(c:IB P n=true := by kernel_rfl)(d:f.body.any (HB h)=true := by kernel_rfl)(e:h.gc=[] := by rfl):GE P n f h:=⟨g,c,d,e⟩
noncomputable def e5:Er:=hx [1,2,6,6,30,122,506,4090,24570,122874,516090,2088954,0x800000000000000000000000000a9202,1,2789890,6984194,15372802,1] [124,137,138,141,142,146,152,157] [31] [(1,[(1,some 5,true)]),(3,[(2,some 5,true)])] [51,60] [] []
def Alz:GE AA 5 f5 e5:=G5 func5
noncomputable def e6:Er:=hx [90,2138,6234,481036343386,0xf00000185a,481036367962,481036449882,563430989805658,481036343386,481036343386,137242,399386,923674,0x20000000000e181a,923674,1972250,4069402,8263706,121509914,0x10000000000000000033e181a,1792,20846618,0x3800000000000000000003e181a,0x7800000000000000000003e181a,0x3800000000000000000103e181a,0x3800000000000000000703e181a,0x1003800000000000000000303e181a,0x3800000000000000000b03e181a,0x100003800000000000000000b03e181a,0x3800000000000000000003e181a,0x3800000000000000001903e181a,0x3800000000000000001903e181a,0x3800000000000000000003e181a,0x3800000000000000000003e181a,0x8000000000000000000000000000000000000e181a,1792,1792] [82,97,101,103,125,168,169,170] [] [(36,[(9,none,false)])] [131,158] [] []
def Aly:GE AA 6 f6 e6:=G5 func6
noncomputable def e8:Er:=hm [3,2051,16,35,32803,35,99,72057594037927971,16,16] [] [] []
def Alx:GE AA 8 f8 e8:=G5 func8
noncomputable def e13:Er:=hx [2,4] [] [] [(1,[(2,none,false)])] [] [] []
def AjT:GE AA 13 f13 e13:=G5 func13
noncomputable def e15:Er:=hm [240,256] [] [] []
def AjL:GE AA 15 f15 e15:=G5 func15
noncomputable def e20:Er:=hx [1,3,3,3,917507,1966083,917519,917507,917507,240518168579,515396075523,240518168627,240518168579,240518168579,3,1] [26,43] [63] [(2,[(1,some 0,true)])] [53] [] []
def Ai8:GE AA 20 f20 e20:=G5 func20
noncomputable def e21:Er:=hm [2,18,65554,12,34,4194338,12,8589934594,12,66,412316860482,962072674370,412316860610,412316860866,70781061038530,12,412316860482,0x38000000000002,0x78000000000002,0x38000000000602,0x38000000000a02,0x4038000000000a02,12,0x38000000000002,0x80000000000000000,12,12] [] [] []
def Aiy:GE AA 21 f21 e21:=G5 func21
noncomputable def e22:Er:=hm [6,7170,15362,7362,7490,2104642,48,7170,48] [] [] []
def Aix:GE AA 22 f22 e22:=G5 func22
noncomputable def e23:Er:=hm [206,462,8640,960,448,2097344,1,192] [15,16] [] []
def Aiv:GE AA 23 f23 e23:=G5 func23
noncomputable def e24:Er:=hm [14,776,4294968072,192,1288,240518169864,515396076808,240518173960,240518182152,31026843755784,66211215844616,31026843788552,31026843755784,31026843755784,0x200003800000508,0xa00003800000508,0x200003800010508,0x200003800000508,240518169864,132360,0xc00000000000020500,0x1c00000000000020500,0xc00000000000060500,0x80c00000000000060500,0xc00000000000020500,0xc00000000000020500,192] [42,80,85] [] []
def Aiq:GE AA 24 f24 e24:=G5 func24
noncomputable def e25:Er:=hx [22,52,116,116,7516192884,16106127476,7516193140,282394100084,7516192884,7516192884,0x700000000000070,0xf00000000000070,0x700000000000470,0x8700000000000470,0x18700000000000470,0x700000000000470,0x200700000000000470,0x700000000000070,0x700000000000070,16] [74] [] [(10,[(6,some 2,true)])] [18] [] []
def Aip:GE AA 25 f25 e25:=G5 func25
noncomputable def e26:Er:=hm [3,2051,16,35,32803,35,99,268435491,16,16] [] [] []
def Aih:GE AA 26 f26 e26:=G5 func26
noncomputable def e27:Er:=hm [3,1027,16,35,16419,35,33554467,16,16] [] [] []
def Aic:GE AA 27 f27 e27:=G5 func27
noncomputable def e28:Er:=hm [6,38,3622,7718,3750,8392358,3622,3622,16] [] [] []
def AiX:GE AA 28 f28 e28:=G5 func28
noncomputable def e29:Er:=hm [6,1] [3] [] []
def AiT:GE AA 29 f29 e29:=G5 func29
noncomputable def e30:Er:=hm [28,88,8280,48,24,48] [] [] []
def AiR:GE AA 30 f30 e30:=G5 func30
noncomputable def e31:Er:=hm [1,17,4,4] [6] [5,7] []
def AiK:GE AA 31 f31 e31:=G5 func31
noncomputable def e32:Er:=hm [2,18,1810,3858,1874,1874,4196178,12,1810,1810,12] [23,28] [] []
def AiF:GE AA 32 f32 e32:=G5 func32
noncomputable def e33:Er:=hm [279,24599,1879072789,4026556437,1879138325,1879269397,122138345493,259577298965,122138869781,122141491221,122140442645,0x400001c70034015,7168,122138345493,1879269397,0xe000000070016015,0x1e000000070016015,0xe000000070816015,0xe000000070816015,0xe000000071816015,0x4000e000000070816015,0xe000000070016015,0xe000000070016015,1879072789,7168] [28,34,49,50,59,61,71,79,85,86] [] []
def AiA:GE AA 33 f33 e33:=G5 func33
noncomputable def e34:Er:=hm [28,88,4184,48,24,48] [] [] []
def Ah9:GE AA 34 f34 e34:=G5 func34
noncomputable def e35:Er:=hm [1,17,4,4] [6] [] []
def Ah2:GE AA 35 f35 e35:=G5 func35
noncomputable def e36:Er:=hm [12,64,48] [] [] []
def Ahy:GE AA 36 f36 e36:=G5 func36
noncomputable def e44:Er:=hm [3,387,899,419,65955,16,387,16] [] [] []
def Ahr:GE AA 44 f44 e44:=G5 func44
noncomputable def e45:Er:=hm [62,64] [] [] [30]
def Ahq:GE AA 45 f45 e45:=G5 func45
noncomputable def e46:Er:=hx [105,256] [9] [11] [] [] [] [2006,2007]
def Ahp:GE AA 46 f46 e46:=G5 func46
noncomputable def e52:Er:=hm [1,3,5,13,4109,13,13,5,5,1] [] [9] []
def Aho:GE AA 52 f52 e52:=G5 func52
noncomputable def e53:Er:=hm [1,3,1] [] [] []
def Ahn:GE AA 53 f53 e53:=G5 func53
noncomputable def e54:Er:=hm [2,514,4,67108866,4,1924145348610,4123168604162,1924145348626,9009123400089602,4,1924145348610,0x700000000000002,0xf00000000000002,0x700000000000042,0x4000000700000000000002,4,0x700000000000002,0xe0000000000000000000002,0x1e0000000000000000000002,0xe0000000000000000000102,0x80e0000000000000000000002,4,0xe0000000000000000000002,4] [] [] []
def Ahm:GE AA 54 f54 e54:=G5 func54
noncomputable def e55:Er:=hm [1,513,4,7169,15361,7193,7225,7289,531545,4,68719483905,4,7169,4] [] [] []
def Ahl:GE AA 55 f55 e55:=G5 func55
noncomputable def e56:Er:=hm [14,142,398,16777614,64,1166,4294968462,64,0x800000000084,64,0xe000000000084,8444249301319812,0xe000000001084,0x40e000000000084,64,0xe000000000084,0xe000000000000004,0x1e000000000000004,0xe000000000004004,0xe000000000000004,0xe000000000000004,64] [] [] []
def Ahk:GE AA 56 f56 e56:=G5 func56
noncomputable def e57:Er:=hm [12,108,492,1073741996,16,0x8000000000000c,16,524,0x400000000000020c,16,1032,0x10000000000000000000000000000,16,16] [] [] [42,53]
def Ahj:GE AA 57 f57 e57:=G5 func57
noncomputable def e58:Er:=hx [2,8,1032,24,524312,4,8,4] [20] [] [(1,[(3,some 0,true)]),(6,[(3,some 0,true)])] [] [] []
def Ahi:GE AA 58 f58 e58:=G5 func58
noncomputable def e59:Er:=hm [28,280,1080,120,8240,1,16] [] [] []
def Ahh:GE AA 59 f59 e59:=G5 func59
noncomputable def e60:Er:=hm [56,64] [] [] []
def Ahg:GE AA 60 f60 e60:=G5 func60
noncomputable def e61:Er:=hm [1,17,4,4] [6] [] []
def Ahf:GE AA 61 f61 e61:=G5 func61
noncomputable def e62:Er:=hm [28,540,16,60,16] [] [] [12,14,19,21,24,25]
def Ahe:GE AA 62 f62 e62:=G5 func62
noncomputable def e63:Er:=hm [2,4] [] [] []
def Ahd:GE AA 63 f63 e63:=G5 func63
noncomputable def e64:Er:=hx [105,768] [10] [12] [] [] [] [2006,2007]
def Ahc:GE AA 64 f64 e64:=G5 func64
noncomputable def e65:Er:=hx [1365,525653,7168,9557,25941,91460,91456,72057594038019392,75072,0x400000000000010500,7168,7168] [21,31,41,60] [] [] [] [] [10,11]
def Ahb:GE AA 65 f65 e65:=G5 func65
noncomputable def e66:Er:=hm [6,2054,16,16] [] [] []
def Aha:GE AA 66 f66 e66:=G5 func66
noncomputable def e67:Er:=hm [3,387,899,419,65955,16,387,16] [] [] []
def AhZ:GE AA 67 f67 e67:=G5 func67
noncomputable def e68:Er:=hm [6,8] [] [] []
def AhY:GE AA 68 f68 e68:=G5 func68
noncomputable def e76:Er:=hm [12,44,36,32,16] [] [] []
def AhX:GE AA 76 f76 e76:=G5 func76
noncomputable def e91:Er:=hm [3,35,7202,15394,7330,7458,67116322,16,7202,7202,16] [10] [] []
def AhW:GE AA 91 f91 e91:=G5 func91
noncomputable def e92:Er:=hm [2,4] [] [] []
def AhV:GE AA 92 f92 e92:=G5 func92
noncomputable def e93:Er:=hm [3,35,7202,15394,7330,7458,67116322,16,7202,7202,16] [10] [] []
def AhU:GE AA 93 f93 e93:=G5 func93
noncomputable def e94:Er:=hm [2,4] [] [] []
def AhT:GE AA 94 f94 e94:=G5 func94
noncomputable def e95:Er:=hm [7,64] [] [] []
def AhS:GE AA 95 f95 e95:=G5 func95
noncomputable def e96:Er:=hm [6,16] [] [] []
def AhR:GE AA 96 f96 e96:=G5 func96
noncomputable def e97:Er:=hm [6,8] [] [] []
def AhQ:GE AA 97 f97 e97:=G5 func97
noncomputable def e99:Er:=hm [1,9,4] [] [] []
def AhP:GE AA 99 f99 e99:=G5 func99
noncomputable def Ajl:Er:=hm [1,1] [] [] []
def AZu:GE AA 100 f100 Ajl:=G5 func100
noncomputable def Ajk:Er:=hm [3,16] [5] [] []
def AZt:GE AA 101 f101 Ajk:=G5 func101
noncomputable def Ajj:Er:=hm [12,17179869196,16,44,549755813932,16,76,35184372088908,16,0x700000000000c,0xf00000000000c,0x700000000010c,0x700000000030c,0x100700000000030c,16,0x700000000050c,0x4000700000000050c,16,0x200000700000000000c,16,0x700000000000c,0x70000000000000000008,0xf0000000000000000008,0x70000000000000001008,0x20000000070000000000000000008,16,0x70000000000000000008,0x200000000000000000000000000000,16,16] [] [] []
def AZs:GE AA 102 f102 Ajj:=G5 func102
noncomputable def Aji:Er:=hm [9,41,553,16,16] [11] [] []
def AZr:GE AA 103 f103 Aji:=G5 func103
noncomputable def Ajh:Er:=hm [1,17,4,4] [6] [5,7] []
def AZq:GE AA 104 f104 Ajh:=G5 func104
noncomputable def Ajg:Er:=hm [3,35,4131,16,99,524387,99,227,536871139,99,99,33,16] [13,39] [] []
def AZp:GE AA 105 f105 Ajg:=G5 func105
noncomputable def Ajf:Er:=hm [6,8] [] [] []
def AZo:GE AA 106 f106 Ajf:=G5 func106
noncomputable def Aje:Er:=hm [3,16] [5] [] []
def AZn:GE AA 107 f107 Aje:=G5 func107
noncomputable def Ajd:Er:=hm [6,8] [] [] []
def AZm:GE AA 108 f108 Ajd:=G5 func108
noncomputable def Ajc:Er:=hm [2,4] [] [] []
def AZl:GE AA 109 f109 Ajc:=G5 func109
noncomputable def Ajb:Er:=hm [30,62,40,1] [] [] []
def AZk:GE AA 110 f110 Ajb:=G5 func110
noncomputable def Aja:Er:=hm [63,32827,256,14680115,31457331,14681651,68734158387,14682675,72057594052608051,256,14680115,256] [17] [] [18]
def AZj:GE AA 111 f111 Aja:=G5 func111
noncomputable def AjZ:Er:=hm [6,14,526,12,4] [] [] [13,14]
def AZi:GE AA 116 f116 AjZ:=G5 func116
noncomputable def AjY:Er:=hm [6,34,546,16,8192,16,16] [] [] []
def AZh:GE AA 117 f117 AjY:=G5 func117
noncomputable def AjX:Er:=hm [1,2] [] [] []
def AZg:GE AA 118 f118 AjX:=G5 func118
noncomputable def AjW:Er:=hm [2,26,262170,786458,4,8590196762,4,4503599627632666,4,0x800000000004001a,0x800000000000001a,4,4] [] [] [8]
def AZf:GE AA 119 f119 AjW:=G5 func119
noncomputable def AjV:Er:=hm [3,129,48,48] [8] [] []
def AZe:GE AA 120 f120 AjV:=G5 func120
noncomputable def AjU:Er:=hm [7,64] [] [] []
def AZd:GE AA 129 f129 AjU:=G5 func129
noncomputable def AjS:Er:=hx [124,4220,12412,12412,128,528508,128,2147487864,128,17592186048632,17592186044536,0x1000000000000068,128,128,352,0x400000000000000000160,0xc00000000000000000160,128,0x80000000000000000000160,128,1056,128] [] [56] [] [88,90,98,100] [] [12010,12011]
def AZc:GE AA 152 f152 AjS:=G5 func152
noncomputable def AjR:Er:=hm [25,1049,48,81,65617,48,48] [18] [] [8]
def AZb:GE AA 153 f153 AjR:=G5 func153
noncomputable def AjQ:Er:=hm [12,76,204,108,4194380,16,76,16] [] [] []
def AZa:GE AA 154 f154 AjQ:=G5 func154
noncomputable def AjP:Er:=hm [22,16] [] [] []
def AZZ:GE AA 155 f155 AjP:=G5 func155
noncomputable def AjO:Er:=hm [78,202,64] [] [] [9,20,26]
def AZY:GE AA 156 f156 AjO:=G5 func156
noncomputable def AjN:Er:=hm [60,1048636,3145788,2147483680,192,192,17180917820,304,192,0x4000000100034,3124,15360,192,0x10000000000000000000034,49172,0x100000000000000000000004014,192,192,327680,192] [78,79,110,125] [] [46,48]
def AZX:GE AA 158 f158 AjN:=G5 func158
noncomputable def AjM:Er:=hm [28,92,220,124,92,92,16] [] [] []
def AZW:GE AA 159 f159 AjM:=G5 func159
noncomputable def AjK:Er:=hm [22,16] [] [] []
def AZV:GE AA 160 f160 AjK:=G5 func160
noncomputable def AjJ:Er:=hm [3,4097,48,48] [13] [] []
def AZU:GE AA 161 f161 AjJ:=G5 func161
noncomputable def AjI:Er:=hm [3,35,544,96,1,16] [7,8,11] [] []
def AZT:GE AA 162 f162 AjI:=G5 func162
noncomputable def AjH:Er:=hm [21,277,789,115473,246545,117009,127249,115473,549755929361,115473,192] [14,31,32,41] [] []
def AZS:GE AA 163 f163 AjH:=G5 func163
noncomputable def AjG:Er:=hm [1,1] [] [] []
def AZR:GE AA 165 f165 AjG:=G5 func165
noncomputable def AjF:Er:=hm [1,4] [] [] []
def AZQ:GE AA 193 f193 AjF:=G5 func193
noncomputable def AjE:Er:=hm [3,16] [] [] []
def AZP:GE AA 194 f194 AjE:=G5 func194
noncomputable def AjD:Er:=hm [3,387,899,419,65955,16,387,16] [] [] []
def AZO:GE AA 195 f195 AjD:=G5 func195
noncomputable def AjC:Er:=hm [28,60,8388636,16,92,67108956,340,2199023255888,1,1,4503599627370512,16,16] [] [] []
def AZN:GE AA 196 f196 AjC:=G5 func196
noncomputable def AjB:Er:=hm [12,40,16424,16,917512,1966088,917640,135135368,16,8796093939720,16,917512,16] [] [] []
def AZM:GE AA 197 f197 AjB:=G5 func197
noncomputable def AjA:Er:=hm [3,35,3618,7714,3746,528034,16,3618,3618,16] [9] [] []
def AZL:GE AA 201 f201 AjA:=G5 func201
noncomputable def Ai':Er:=hm [2,4] [] [] []
def AZK:GE AA 203 f203 Ai':=G5 func203
noncomputable def Ai_:Er:=hm [28,1044,52,16436,240,496,67109360,496,536871280,1,4294967312,1,16] [] [] []
def AZJ:GE AA 204 f204 Ai_:=G5 func204
noncomputable def Ai9:Er:=hm [449,961,473,8389057,449] [] [] []
def AZI:GE AA 205 f205 Ai9:=G5 func205
noncomputable def Ai7:Er:=hm [19,51,3634,7730,3762,3634,3634,16] [9] [] [18,19]
def AZH:GE AA 210 f210 Ai7:=G5 func210
noncomputable def Ai6:Er:=hm [28,16] [] [] []
def AZG:GE AA 211 f211 Ai6:=G5 func211
noncomputable def Ai5:Er:=hm [6,4] [] [] []
def AZF:GE AA 212 f212 Ai5:=G5 func212
noncomputable def Ai4:Er:=hm [2,1024,4,4] [] [] []
def AZE:GE AA 213 f213 Ai4:=G5 func213
noncomputable def Ai3:Er:=hm [12,16] [] [] []
def AZD:GE AA 214 f214 Ai3:=G5 func214
noncomputable def Ai2:Er:=hm [2,10,262154,786442,786442,4,537133066,4,0x400000004000a,4,0x1000000000000004000a,4,0x10000000000000000000004000a,4,0x100000000000000000000000000004000a,4,0x10000000000000000000000000000004000a,0x10000000000000000000000000000000000a,4,4] [] [] []
def AZC:GE AA 215 f215 Ai2:=G5 func215
noncomputable def Ai1:Er:=hm [1,4] [] [] []
def AZB:GE AA 216 f216 Ai1:=G5 func216
noncomputable def Ai0:Er:=hm [1,4] [] [] []
def AZA:GE AA 217 f217 Ai0:=G5 func217
noncomputable def Aiz:Er:=hm [35,64] [12] [] []
def AY':GE AA 218 f218 Aiz:=G5 func218
noncomputable def Aiw:Er:=hm [6,8] [] [] []
def AY_:GE AA 239 f239 Aiw:=G5 func239
noncomputable def Aiu:Er:=hm [2,4] [] [] []
def AY9:GE AA 240 f240 Aiu:=G5 func240
noncomputable def Ait:Er:=hm [92,220,80,64] [] [] [17,19,24]
def AY8:GE AA 241 f241 Ait:=G5 func241
noncomputable def Ais:Er:=hm [2,4] [] [] []
def AY7:GE AA 242 f242 Ais:=G5 func242
noncomputable def Air:Er:=hm [12,16] [] [] []
def AY6:GE AA 243 f243 Air:=G5 func243
noncomputable def Aio:Er:=hm [3,16] [] [] []
def AY5:GE AA 261 f261 Aio:=G5 func261
noncomputable def Ain:Er:=hm [2,4] [] [] []
def AY4:GE AA 262 f262 Ain:=G5 func262
noncomputable def Aim:Er:=hm [3,16] [5] [] []
def AY3:GE AA 263 f263 Aim:=G5 func263
noncomputable def Ail:Er:=hm [2,4] [] [] []
def AY2:GE AA 264 f264 Ail:=G5 func264
noncomputable def Aik:Er:=hm [3,35,3618,7714,3746,528034,16,3618,3618,16] [9] [] []
def AY1:GE AA 265 f265 Aik:=G5 func265
noncomputable def Aij:Er:=hm [3,16] [5] [] []
def AY0:GE AA 266 f266 Aij:=G5 func266
noncomputable def Aii:Er:=hm [3,35,3618,7714,3746,528034,16,3618,3618,16] [9] [] []
def AYz:GE AA 269 f269 Aii:=G5 func269
noncomputable def Aig:Er:=hm [3,35,32803,16,917507,1966083,917635,917891,269353347,16,918019,34360656387,16,917507,2048,35184372088832,16,16] [39,40] [] []
def AYy:GE AA 271 f271 Aig:=G5 func271
noncomputable def Aif:Er:=hm [3,16] [5] [] []
def AYx:GE AA 272 f272 Aif:=G5 func272
noncomputable def Aie:Er:=hm [2,10,136,24,65560,1,4] [] [] []
def AYw:GE AA 273 f273 Aie:=G5 func273
noncomputable def Aid:Er:=hm [3,8] [] [] []
def AYv:GE AA 274 f274 Aid:=G5 func274
noncomputable def Aib:Er:=hm [1,2] [] [] []
def AYu:GE AA 283 f283 Aib:=G5 func283
noncomputable def Aia:Er:=hm [2,4] [] [] []
def AYt:GE AA 284 f284 Aia:=G5 func284
noncomputable def AiZ:Er:=hm [19,51,3634,7730,3762,3634,3634,16] [9] [] [18,19]
def AYs:GE AA 287 f287 AiZ:=G5 func287
noncomputable def AiY:Er:=hm [7,16391,64,229382,491526,229766,230150,1073971206,64,229382,64] [15] [] []
def AYr:GE AA 288 f288 AiY:=G5 func288
noncomputable def AiW:Er:=hm [1,4] [] [] []
def AYq:GE AA 291 f291 AiW:=G5 func291
noncomputable def AiV:Er:=hm [3,16] [5] [] []
def AYp:GE AA 292 f292 AiV:=G5 func292
noncomputable def AiU:Er:=hm [6,8] [] [] []
def AYo:GE AA 293 f293 AiU:=G5 func293
noncomputable def AiS:Er:=hx [8199,7,23,2097159,23,33554439,23,55,1073741879,55,137438953511,39,70368744177671] [] [] [] [] [] [9,11]
def AYn:GE AA 303 f303 AiS:=G5 func303
noncomputable def AiQ:Er:=hm [7,1030,7174,1414,525446,64,64] [] [] []
def AYm:GE AA 314 f314 AiQ:=G5 func314
noncomputable def AiP:Er:=hm [3,387,899,419,65955,16,387,16] [] [] []
def AYl:GE AA 315 f315 AiP:=G5 func315
noncomputable def AiO:Er:=hm [3,387,899,419,65955,16,387,16] [] [] []
def AYk:GE AA 316 f316 AiO:=G5 func316
noncomputable def AiN:Er:=hm [1,513,4,7168,15360,7184,7216,1055792,4,7232,67116096,4,7168,4] [10] [] []
def AYj:GE AA 317 f317 AiN:=G5 func317
noncomputable def AiM:Er:=hm [28,60,8252,16,65556,84,524372,1572948,144,134217872,1,536870996,848,274877907280,1,2199023255568,1,16] [] [] [45]
def AYi:GE AA 318 f318 AiM:=G5 func318
noncomputable def AiL:Er:=hm [12,44,524332,16,76,274877906956,16,7696581394444,0xf000000000c,7696581394828,4511296208764940,16,7696581394444,520,0x400000000000000000,16,16] [] [] [68]
def AYh:GE AA 319 f319 AiL:=G5 func319
noncomputable def AiJ:Er:=hx [3,67,195,14680257,31457473,14680769,14681281,2162164929,14683329,3848305380545,8246351891649,3848305388737,3848305396929,3848305380545,3848305380545,14748865,15142081,0x4000000000000e70cc1,15142081,0x800000000000000000000000e50cc1,48,0x10000000000000000000000000e10cc1,14746817,14680257,14680257,48] [21,52] [] [] [36] [] [18]
def AYg:GE AA 320 f320 AiJ:=G5 func320
noncomputable def AiI:Er:=hm [3,387,899,419,65955,16,387,16] [] [] []
def AYf:GE AA 321 f321 AiI:=G5 func321
noncomputable def AiH:Er:=hm [2,4] [] [] []
def AYe:GE AA 322 f322 AiH:=G5 func322
noncomputable def AiG:Er:=hm [2,4] [] [] []
def AYd:GE AA 324 f324 AiG:=G5 func324
noncomputable def AiE:Er:=hm [6,14,10,1] [] [] []
def AYc:GE AA 330 f330 AiE:=G5 func330
noncomputable def AiD:Er:=hm [14,1036,16,28676,61444,28740,2125828,16,28676,16] [] [] []
def AYb:GE AA 331 f331 AiD:=G5 func331
noncomputable def AiC:Er:=hm [1,131073,4,17,4] [] [] []
def AYa:GE AA 334 f334 AiC:=G5 func334
noncomputable def AiB:Er:=hm [3,387,899,419,65955,16,387,16] [] [] []
def AYZ:GE AA 335 f335 AiB:=G5 func335
noncomputable def Ah':Er:=hm [1,4] [] [] []
def AYY:GE AA 340 f340 Ah':=G5 func340
noncomputable def Ah_:Er:=hm [2,32,4,4] [] [] []
def AYX:GE AA 345 f345 Ah_:=G5 func345
noncomputable def Ah8:Er:=hm [6,14,10,1] [] [] []
def AYW:GE AA 350 f350 Ah8:=G5 func350
noncomputable def Ah7:Er:=hm [14,1036,16,28676,61444,28740,2125828,16,28676,16] [] [] []
def AYV:GE AA 351 f351 Ah7:=G5 func351
noncomputable def Ah6:Er:=hm [33,161,41,8225] [] [] []
def AYU:GE AA 354 f354 Ah6:=G5 func354
noncomputable def Ah5:Er:=hm [1,4] [] [] []
def AYT:GE AA 357 f357 Ah5:=G5 func357
noncomputable def Ah4:Er:=hm [3,67,451,33219,963,134218691,451,451,48] [43] [] []
def AYS:GE AA 358 f358 Ah4:=G5 func358
noncomputable def Ah3:Er:=hm [3,35,65571,35,16] [] [] []
def AYR:GE AA 359 f359 Ah3:=G5 func359
noncomputable def Ah1:Er:=hm [1,4] [] [] []
def AYQ:GE AA 360 f360 Ah1:=G5 func360
noncomputable def Ah0:Er:=hm [1,4] [] [] []
def AYP:GE AA 361 f361 Ah0:=G5 func361
noncomputable def Ahz:Er:=hm [2,66,4,2147483650,4,10,2199023255562,6597069766666,4,0x8002000000000a,4,0x800002000000000a,4,0x4000000002000000000a,4,0x1000000000000002000000000a,4,0x1000000000000000000000000002,4,4] [] [] []
def AYO:GE AA 368 f368 Ahz:=G5 func368
noncomputable def Ahx:Er:=hm [7,64] [] [] []
def AYN:GE AA 374 f374 Ahx:=G5 func374
noncomputable def Ahw:Er:=hm [3,16] [] [] []
def AYM:GE AA 375 f375 Ahw:=G5 func375
noncomputable def Ahv:Er:=hm [1,4] [] [] []
def AYL:GE AA 376 f376 Ahv:=G5 func376
noncomputable def Ahu:Er:=hm [1,1] [] [] []
def AYK:GE AA 379 f379 Ahu:=G5 func379
noncomputable def Aht:Er:=hm [12,16] [] [] []
def AYJ:GE AA 381 f381 Aht:=G5 func381
noncomputable def Ahs:Er:=hm [3,1027,16,12291,28675,12323,16789507,16,12291,16] [] [] []
def AYI:GE AA 397 f397 Ahs:=G5 func397
noncomputable def dS:ETree:=(.node (.node (.node (.node (.node (.node (.node (.node .nil 5 f5 e5 .nil) 6 f6 e6 .nil) 8 f8 e8 (.node .nil 13 f13 e13 .nil)) 15 f15 e15 (.node (.node (.node .nil 20 f20 e20 .nil) 21 f21 e21 .nil) 22 f22 e22 (.node .nil 23 f23 e23 .nil))) 24 f24 e24 (.node (.node (.node (.node .nil 25 f25 e25 .nil) 26 f26 e26 .nil) 27 f27 e27 (.node .nil 28 f28 e28 .nil)) 29 f29 e29 (.node (.node (.node .nil 30 f30 e30 .nil) 31 f31 e31 .nil) 32 f32 e32 (.node .nil 33 f33 e33 .nil)))) 34 f34 e34 (.node (.node (.node (.node (.node .nil 35 f35 e35 .nil) 36 f36 e36 .nil) 44 f44 e44 (.node .nil 45 f45 e45 .nil)) 46 f46 e46 (.node (.node (.node .nil 52 f52 e52 .nil) 53 f53 e53 .nil) 54 f54 e54 (.node .nil 55 f55 e55 .nil))) 56 f56 e56 (.node (.node (.node (.node .nil 57 f57 e57 .nil) 58 f58 e58 .nil) 59 f59 e59 (.node .nil 60 f60 e60 .nil)) 61 f61 e61 (.node (.node .nil 62 f62 e62 .nil) 63 f63 e63 (.node .nil 64 f64 e64 .nil))))) 65 f65 e65 (.node (.node (.node (.node (.node (.node .nil 66 f66 e66 .nil) 67 f67 e67 .nil) 68 f68 e68 (.node .nil 76 f76 e76 .nil)) 91 f91 e91 (.node (.node (.node .nil 92 f92 e92 .nil) 93 f93 e93 .nil) 94 f94 e94 (.node .nil 95 f95 e95 .nil))) 96 f96 e96 (.node (.node (.node (.node .nil 97 f97 e97 .nil) 99 f99 e99 .nil) 100 f100 Ajl (.node .nil 101 f101 Ajk .nil)) 102 f102 Ajj (.node (.node (.node .nil 103 f103 Aji .nil) 104 f104 Ajh .nil) 105 f105 Ajg (.node .nil 106 f106 Ajf .nil)))) 107 f107 Aje (.node (.node (.node (.node (.node .nil 108 f108 Ajd .nil) 109 f109 Ajc .nil) 110 f110 Ajb (.node .nil 111 f111 Aja .nil)) 116 f116 AjZ (.node (.node (.node .nil 117 f117 AjY .nil) 118 f118 AjX .nil) 119 f119 AjW (.node .nil 120 f120 AjV .nil))) 129 f129 AjU (.node (.node (.node (.node .nil 152 f152 AjS .nil) 153 f153 AjR .nil) 154 f154 AjQ (.node .nil 155 f155 AjP .nil)) 156 f156 AjO (.node (.node .nil 158 f158 AjN .nil) 159 f159 AjM (.node .nil 160 f160 AjK .nil)))))) 161 f161 AjJ (.node (.node (.node (.node (.node (.node (.node .nil 162 f162 AjI .nil) 163 f163 AjH .nil) 165 f165 AjG (.node .nil 193 f193 AjF .nil)) 194 f194 AjE (.node (.node (.node .nil 195 f195 AjD .nil) 196 f196 AjC .nil) 197 f197 AjB (.node .nil 201 f201 AjA .nil))) 203 f203 Ai' (.node (.node (.node (.node .nil 204 f204 Ai_ .nil) 205 f205 Ai9 .nil) 210 f210 Ai7 (.node .nil 211 f211 Ai6 .nil)) 212 f212 Ai5 (.node (.node (.node .nil 213 f213 Ai4 .nil) 214 f214 Ai3 .nil) 215 f215 Ai2 (.node .nil 216 f216 Ai1 .nil)))) 217 f217 Ai0 (.node (.node (.node (.node (.node .nil 218 f218 Aiz .nil) 239 f239 Aiw .nil) 240 f240 Aiu (.node .nil 241 f241 Ait .nil)) 242 f242 Ais (.node (.node (.node .nil 243 f243 Air .nil) 261 f261 Aio .nil) 262 f262 Ain (.node .nil 263 f263 Aim .nil))) 264 f264 Ail (.node (.node (.node (.node .nil 265 f265 Aik .nil) 266 f266 Aij .nil) 269 f269 Aii (.node .nil 271 f271 Aig .nil)) 272 f272 Aif (.node (.node .nil 273 f273 Aie .nil) 274 f274 Aid (.node .nil 283 f283 Aib .nil))))) 284 f284 Aia (.node (.node (.node (.node (.node (.node .nil 287 f287 AiZ .nil) 288 f288 AiY .nil) 291 f291 AiW (.node .nil 292 f292 AiV .nil)) 293 f293 AiU (.node (.node (.node .nil 303 f303 AiS .nil) 314 f314 AiQ .nil) 315 f315 AiP (.node .nil 316 f316 AiO .nil))) 317 f317 AiN (.node (.node (.node (.node .nil 318 f318 AiM .nil) 319 f319 AiL .nil) 320 f320 AiJ (.node .nil 321 f321 AiI .nil)) 322 f322 AiH (.node (.node .nil 324 f324 AiG .nil) 330 f330 AiE (.node .nil 331 f331 AiD .nil)))) 334 f334 AiC (.node (.node (.node (.node (.node .nil 335 f335 AiB .nil) 340 f340 Ah' .nil) 345 f345 Ah_ (.node .nil 350 f350 Ah8 .nil)) 351 f351 Ah7 (.node (.node (.node .nil 354 f354 Ah6 .nil) 357 f357 Ah5 .nil) 358 f358 Ah4 (.node .nil 359 f359 Ah3 .nil))) 360 f360 Ah1 (.node (.node (.node (.node .nil 361 f361 Ah0 .nil) 368 f368 Ahz .nil) 374 f374 Ahx (.node .nil 375 f375 Ahw .nil)) 376 f376 Ahv (.node (.node .nil 379 f379 Ahu .nil) 381 f381 Aht (.node .nil 397 f397 Ahs .nil)))))))
def Xq:dS.All AA:=⟨⟨⟨⟨⟨⟨⟨⟨tV,Alz,tV⟩,Aly,tV⟩,Alx,⟨tV,AjT,tV⟩⟩,AjL,⟨⟨⟨tV,Ai8,tV⟩,Aiy,tV⟩,Aix,⟨tV,Aiv,tV⟩⟩⟩,Aiq,⟨⟨⟨⟨tV,Aip,tV⟩,Aih,tV⟩,Aic,⟨tV,AiX,tV⟩⟩,AiT,⟨⟨⟨tV,AiR,tV⟩,AiK,tV⟩,AiF,⟨tV,AiA,tV⟩⟩⟩⟩,Ah9,⟨⟨⟨⟨⟨tV,Ah2,tV⟩,Ahy,tV⟩,Ahr,⟨tV,Ahq,tV⟩⟩,Ahp,⟨⟨⟨tV,Aho,tV⟩,Ahn,tV⟩,Ahm,⟨tV,Ahl,tV⟩⟩⟩,Ahk,⟨⟨⟨⟨tV,Ahj,tV⟩,Ahi,tV⟩,Ahh,⟨tV,Ahg,tV⟩⟩,Ahf,⟨⟨tV,Ahe,tV⟩,Ahd,⟨tV,Ahc,tV⟩⟩⟩⟩⟩,Ahb,⟨⟨⟨⟨⟨⟨tV,Aha,tV⟩,AhZ,tV⟩,AhY,⟨tV,AhX,tV⟩⟩,AhW,⟨⟨⟨tV,AhV,tV⟩,AhU,tV⟩,AhT,⟨tV,AhS,tV⟩⟩⟩,AhR,⟨⟨⟨⟨tV,AhQ,tV⟩,AhP,tV⟩,AZu,⟨tV,AZt,tV⟩⟩,AZs,⟨⟨⟨tV,AZr,tV⟩,AZq,tV⟩,AZp,⟨tV,AZo,tV⟩⟩⟩⟩,AZn,⟨⟨⟨⟨⟨tV,AZm,tV⟩,AZl,tV⟩,AZk,⟨tV,AZj,tV⟩⟩,AZi,⟨⟨⟨tV,AZh,tV⟩,AZg,tV⟩,AZf,⟨tV,AZe,tV⟩⟩⟩,AZd,⟨⟨⟨⟨tV,AZc,tV⟩,AZb,tV⟩,AZa,⟨tV,AZZ,tV⟩⟩,AZY,⟨⟨tV,AZX,tV⟩,AZW,⟨tV,AZV,tV⟩⟩⟩⟩⟩⟩,AZU,⟨⟨⟨⟨⟨⟨⟨tV,AZT,tV⟩,AZS,tV⟩,AZR,⟨tV,AZQ,tV⟩⟩,AZP,⟨⟨⟨tV,AZO,tV⟩,AZN,tV⟩,AZM,⟨tV,AZL,tV⟩⟩⟩,AZK,⟨⟨⟨⟨tV,AZJ,tV⟩,AZI,tV⟩,AZH,⟨tV,AZG,tV⟩⟩,AZF,⟨⟨⟨tV,AZE,tV⟩,AZD,tV⟩,AZC,⟨tV,AZB,tV⟩⟩⟩⟩,AZA,⟨⟨⟨⟨⟨tV,AY',tV⟩,AY_,tV⟩,AY9,⟨tV,AY8,tV⟩⟩,AY7,⟨⟨⟨tV,AY6,tV⟩,AY5,tV⟩,AY4,⟨tV,AY3,tV⟩⟩⟩,AY2,⟨⟨⟨⟨tV,AY1,tV⟩,AY0,tV⟩,AYz,⟨tV,AYy,tV⟩⟩,AYx,⟨⟨tV,AYw,tV⟩,AYv,⟨tV,AYu,tV⟩⟩⟩⟩⟩,AYt,⟨⟨⟨⟨⟨⟨tV,AYs,tV⟩,AYr,tV⟩,AYq,⟨tV,AYp,tV⟩⟩,AYo,⟨⟨⟨tV,AYn,tV⟩,AYm,tV⟩,AYl,⟨tV,AYk,tV⟩⟩⟩,AYj,⟨⟨⟨⟨tV,AYi,tV⟩,AYh,tV⟩,AYg,⟨tV,AYf,tV⟩⟩,AYe,⟨⟨tV,AYd,tV⟩,AYc,⟨tV,AYb,tV⟩⟩⟩⟩,AYa,⟨⟨⟨⟨⟨tV,AYZ,tV⟩,AYY,tV⟩,AYX,⟨tV,AYW,tV⟩⟩,AYV,⟨⟨⟨tV,AYU,tV⟩,AYT,tV⟩,AYS,⟨tV,AYR,tV⟩⟩⟩,AYQ,⟨⟨⟨⟨tV,AYP,tV⟩,AYO,tV⟩,AYN,⟨tV,AYM,tV⟩⟩,AYL,⟨⟨tV,AYK,tV⟩,AYJ,⟨tV,AYI,tV⟩⟩⟩⟩⟩⟩⟩
def ADl:AA.follows .mixedOrders=true:=kr
open Go.MapKept Go.Maps Go.WideElems Go.WideShapes
def qA(x:Int):List Int->List Int
 |[]=>[x]
 |y::l=>if x<=y then x::y::l else y::qA x l
def P4:List Int->List Int
 |[]=>[]
 |x::l=>qA x (P4 l)
def US(x:Int): ∀l,(qA x l).Perm (x::l)
 |[] => .refl _
 |y::l=>by
  unfold qA;split
  ·exact .refl _
  ·exact((US x l).cons y).trans (.swap _ _ _)
def P3:∀l,(P4 l).Perm l
 |[] => .refl _
 |x::l=>(US x _).trans ((P3 l).cons x)
def VL{x:Int}: ∀{l:List Int},l.Pairwise (· <= ·)->(qA x l).Pairwise (· <= ·)
 |[],_=>by simp[qA]
 | y::l,h=>by
  unfold qA;split
  ·rename_i g;refine List.Pairwise.cons (λz i=>?_) h;rcases AY.1 i with rfl|i
   ·exact g
   ·exact DO g ((BM.1 h).1 z i)
  ·rename_i g;obtain⟨j,o⟩:=BM.1 h;refine List.Pairwise.cons (λz i=>?_) (VL o);rcases AY.1 ((US x l).mem_iff.1 i)with rfl|i
   ·omega
   ·exact j z i
def RY:∀l:List Int,(P4 l).Pairwise (· <= ·)
 |[] => .nil
 |_::l=>VL (RY l)
def wa{l g:List Int}(h:g.Perm l):g.mergeSort (λx y=>decide (x<=y))=P4 l:=by
 have p:∀a b c:Int,leI a b=true->leI b c=true->leI a c=true:=λa b c i j=>by simp only[leI,decide_eq_true_eq]at *;exact DO i j
 have r:∀a b:Int,(leI a b||leI b a)=true:=λa b=>by simp only[leI,CI,decide_eq_true_eq];exact Int.le_total a b
 refine List.Perm.eq_of_pairwise (le:=λa b=>a<=b) (λa b _ _ i j=>Int.le_antisymm i j) ?_ (RY l) (((List.mergeSort_perm g _).trans h).trans (P3 l).symm);exact(List.pairwise_mergeSort p r g).imp λ{a b} o=>by simpa [leI]using o
def AIA:AV->Int
 |.int _ n=>n
 |_=>0
def AEG:AV->Bool
 |.int .i64 n=>(Lit.int .i64 n).wf
 |_=>false
def NT(g:List (AV×AV)):List Int:=g.map λp=>AIA p.1
def XA(g:List (AV×AV)):Bool:=g.all (λp=>AEG p.1)&&bN g
def Xf{a:AV}(h:AEG a=true): ∃n,a = .int .i64 n/\(Lit.int .i64 n).wf=true:=by
 unfold AEG at h;split at h
 ·exact⟨_,rfl,h⟩
 ·cases h
abbrev RT:Value->Option (DataW Unit×List MemPlace):=λ_=>some (.lit (.bool true),[])
section
variable{P:Program}{F:Nat->Prop}{G:Gh}{w:World}{H:Fl}
def ADm {k:TypeId} (hk:P.underlying k=some (.int .i64)) {vs:List AV} {us:List Value} (hc:CRel F G vs H us w) {o:Nat} {um:Value} (hm:VRel G w (.mapr o) um) {g:List (AV×AV)}
  (he:JZ H (.mapr o)=some g) (R:XA g=true) (hlen:g.length<=maxLen) :
  ∃b D0,um = .map (some b)/\w.ownsMap P k RT b g.length D0/\(intKeys D0).Perm (NT g)/\Maps.size D0=g.length:=by
 simp only[XA,AQ]at R;obtain⟨C,hk2⟩:=R;have hd:=Xx hk2;rcases UJ hc hm he with⟨h,_⟩|⟨o',b,j,cl,ho,rfl,hob,hkb,T,hl,hH,U⟩
 ·cases h
 cases ho;obtain⟨hcl,r⟩:=Mp hc hH hob hkb T;have I:∀(i:Nat) (x:MapEntry),j[i]? =some x -> ∃(p:AV×AV) (n:Int),g[i]? =some p/\p.1 = .int .i64 n/\x.key=encZ n/\(Lit.int .i64 n).wf=true:=λi x hx=>by
  have hlt:=(Au.1 hx).1;have V:g[i]? =some (g[i]' Fj):=AL _;obtain⟨n,hn,hw⟩:=Xf (Ao.1 C _ (List.mem_of_getElem? V));have hv:=(U i _ x V hx).2.2.1;rw[hn]at hv;refine⟨_,n,V,hn, ?_,hw⟩;generalize x.key=y at hv ⊢;cases hv;rfl
 have hR:∀x∈j.toList,∃(i:Nat) (p:AV×AV) (n:Int),j[i]? =some x/\g[i]? =some p/\p.1 = .int .i64 n/\rd P k RT x=some (.int .i64 n,.lit (.bool true)):=λx hx=>by
  obtain⟨i,J⟩:=Ab hx;rw[Af]at J;obtain⟨p,n,h1,h2,h3,h4⟩:=I i x J;refine⟨i,p,n,J,h1,h2, ?_⟩;have:keyOf P k x.key=some (.int .i64 n):=by
   rw[h3];simp[keyOf,hk,mapKey,encZ,h4]
  simp[rd,this,RT]
 have hmap:j.toList.map (λx=>intOf (rg P k RT x).1)=NT g:=by
  apply A6;intro i;unfold NT;rw[Ac,Ac,Af];cases hx:j[i]? with
  |none =>
   have:g[i]? =none:=A0 (by have:=Du.1 hx;omega);rw[this];rfl
  | some x =>
   obtain⟨p,n,h1,h2,h3,h4⟩:=I i x hx;have:keyOf P k x.key=some (.int .i64 n):=by
    rw[h3];simp[keyOf,hk,mapKey,encZ,h4]
   rw[h1];simp[rg,rd,this,RT,intOf,h2,AIA]
 have O:j.toList.map (·.key)=(NT g).map encZ:=by
  apply A6;intro i;unfold NT;rw[Ac,Ac,Ac,Af];cases hx:j[i]? with
  |none =>
   have:g[i]? =none:=A0 (by have:=Du.1 hx;omega);rw[this];rfl
  |some x =>
   obtain⟨p,n,h1,h2,h3,h4⟩:=I i x hx;rw[h1];simp[h2,h3,AIA]
 have t:j.toList.map (·.born)=An j.size:=by
  apply A6;intro i;rw[Ac,Af];cases hx:j[i]? with
  |none =>
   have:=Du.1 hx;rw[A0 (by simpa using this)];rfl
  |some x =>
   have:=(Au.1 hx).1;rw[AL (by simpa using this)];simp[r i x hx]
 have hnd:(NT g).Nodup:=by
  refine ER.2 (hd.imp_of_mem λ{p q} V hq h e=>?_);obtain⟨n,hn,_⟩:=Xf (Ao.1 C _ V);obtain⟨m,hm,_⟩:=Xf (Ao.1 C _ hq);rw[hn,hm]at h e;simp[AIA]at e;subst e;simp[If,Om]at h
 refine⟨b,_,rfl,⟨j,cl,T,⟨Fj,⟨λx hx=>?_, ?_, ?_⟩,λx hx=>?_⟩,Fj,rfl⟩, ?_, ?_⟩
 ·obtain⟨i,J⟩:=Ab hx;rw[Af]at J;have:=(Au.1 J).1;rw[r i x J];omega
 ·rw[t];exact List.nodup_range
 ·rw[O];exact ER.2 (hnd.imp λh e=>h (encZ_inj e))
 ·obtain⟨i,p,n,_,_,_,h⟩:=hR x hx;exact⟨_,h⟩
 ·show(List.map _ _).Perm _;rw[<- hmap,show(j.toList.map λx=>intOf (rg P k RT x).1)=(j.toList.map (rg P k RT)).map λp=>intOf p.1 by rw[List.map_map];rfl];exact(sorted_perm _).map _
 ·show List.length _=_;rw[(sorted_perm _).length_eq,Ap,Array.length_toList,hl]
def AAO(I:∀b,F b->b<w.heap.size){J:World}(j:RowKit.Below w.heap.size w J){g:Nat}(P:w.heap.size<=g)(k:Kind):Ext F G w (G.setKind g k) J:=by
 have r:∀b,b<w.heap.size->b≠g:=λb h e=>Fj;refine⟨j.size,⟨λ_ _ h=>h,λb C E o=>?_,λb i _=>⟨Nat.lt_of_lt_of_le i j.size,G.kind_set_ne k (r b i)⟩,λb t v O o=>?_⟩,λb h=>G.kind_set_ne k (r b (I b h)),λb h=>j.block b (I b h),⟨j.os,j.tape,j.output⟩⟩
 ·exact⟨C,(j.block b (Au.1 o).1).trans o,rfl⟩
 ·have i:=uB o;exact⟨(G.safe_set_ne k (r b i)).2 O,(j.cell (p:=⟨b,t,none⟩) i).trans o⟩
def sO{T:List AV}{U:List Value}(o:CRel F G T H U w){p:World}(J:RowKit.Below w.heap.size w p){g:Nat}(V:w.heap.size<=g){R:AV->Fl->Prop}{v:AV}{u:Value}(hR:R v H)
  (hv:VRel (G.setKind g .imm) p v u)(O:HY v u=[]):GB F G w R u p:=by
 have P:=AAO (F:=F) (G:=G) o.h.fore J V .imm;have i:∀b,b<w.heap.size->(G.setKind g .imm).kind b=G.kind b/\p.heap[b]? =w.heap[b]?:=λb r=>⟨G.kind_set_ne .imm Fj,J.block b r⟩;refine⟨v,H,_,hR,⟨.cons hv (GC O _ _ _) (.nil _ _ _),o.h.ext P rfl λb j=>?_,λb=>?_⟩,P⟩
 ·rcases j with⟨o',cs,t,I⟩|j
  ·exact i b (o.h.block_lt t I)
  ·obtain⟨_,_,C,E,t3⟩:=o.h.tok_of_pos j;exact i b (Au.1 t3).1
 ·rw[N4 (G:=G) (w:=w) (G':=G.setKind g .imm) rfl λo' cs b' t I=>(i b' (o.h.block_lt t I)).2,Fx,Gy,O];have:=o.cnt b;simp;omega
def AEH{T:World}{o e:Nat}{v:Value}{j:List Int}(h:T.ownsRow o e 1 v j.length (j.map encZ)):
  ∃g,o<=g /\ ∀G:Gh,VRel (G.setKind g .imm) T (.sl none (j.map (.int .i64))) v:=by
 obtain⟨hl,h⟩:=h;rcases h with⟨rfl,h0⟩|⟨g,O,J,rfl,P,hg,U,h2,h3,V⟩
 ·obtain rfl:=List.eq_nil_of_length_eq_zero h0;exact⟨o,Nat.le_refl _,λG => .slnil none⟩
 ·refine⟨g,P,λG=>?_⟩;have p:(j.map (AV.int .i64)).length=j.length:=Ap ..;have C:Hx (j.map (AV.int .i64))=j.map (AV.int .i64):=by
   unfold Hx;rw[List.flatMap_map];clear hl p V U;induction j with
   |nil=>rfl
   |cons x l ih=>rw[List.flatMap_cons,ih];rfl
  rw[<- p];refine .sl none _ 1 g 0 O (λi=>encZ (j[i]?.getD 0)) (λa ha=>?_) (λ_ h=>by cases h) (by rw[p];exact U) h2 (λi c r=>?_) (λi c r=>?_)
  ·obtain⟨n,_,rfl⟩:=List.mem_map.1 ha;rfl
  ·rw [C,Ac] at r
   cases I:j[i]? with
   |none=>rw[I]at r;cases r
   | some n =>
    rw[I]at r;cases r;refine⟨rfl, ?_, ?_⟩
    ·unfold Gh.safe;rw[G.kind_set];trivial
    ·have t:(J.toList.take (j.length*1))[i]? =some (encZ n):=by rw[V,Ac,I];rfl
     have R:J[i]? =some (encZ n):=by
      rw[List.getElem?_take]at t;split at t
      ·rwa [Af]at t
      ·cases t
     simp[World.cell?,hg,R]
  ·rw[C,Ac]at r;cases I:j[i]? with
   |none=>rw[I]at r;cases r
   |some n =>
    rw[I]at r;cases r;exact .int _ _
end
end Go.AI
namespace Go.Proofs
open Go.RowKit Go.Maps Go.Sort Go.Shelf Go.AI
def M5:Go.Shelf.Ren:=⟨fun|7=>324|10=>354|n=>n,fun|23=>138|26=>3|3=>4|28=>369|0=>0|27=>368|33=>302|4=>4|n=>n,fun|n=>n⟩
def ry:Go.Proofs.SlLaysZI.n7 AA M5:={
 mixed:=kr
 f7:=⟨f324.name,dc,func324.trans (congrArg some kr)⟩
 f10:=⟨f354.name,dc,func354.trans (congrArg some kr)⟩
 t0:=Tryz.underlying0
 a0:=Tryz.isAgg0
 z0:=Tryz.sizeOf0
 v0:=Tryz.zeroValue0
 t4:=Tryz.underlying4
 a4:=Tryz.isAgg4
 z4:=Tryz.sizeOf4
 v4:=Tryz.zeroValue4
 t23:=Tryz.underlying138
 a23:=Tryz.isAgg138
 z23:=Tryz.sizeOf138
 v23:=Tryz.zeroValue138
 t26:=Tryz.underlying3
 a26:=Tryz.isAgg3
 z26:=Tryz.sizeOf3
 v26:=Tryz.zeroValue3
 t27:=Tryz.underlying368
 a27:=Tryz.isAgg368
 z27:=Tryz.sizeOf368
 v27:=Tryz.zeroValue368
 t28:=Tryz.underlying369
 a28:=Tryz.isAgg369
 z28:=Tryz.sizeOf369
 v28:=Tryz.zeroValue369
 t33:=Tryz.underlying302
 a33:=Tryz.isAgg302
 z33:=Tryz.sizeOf302
 v33:=Tryz.zeroValue302 }
def OI:Go.Shelf.Ren:=⟨fun|6=>323|8=>352|9=>353|11=>371|13=>373|12=>372|23=>393|24=>394|14=>384|15=>385|16=>386|17=>387|18=>388|19=>389|20=>390|21=>391|22=>392|25=>399|26=>400|27=>401|28=>402|29=>403|30=>364|31=>404|n=>n,fun|26=>3|28=>369|24=>72|0=>0|3=>3|37=>380|48=>410|50=>412|4=>4|40=>404|39=>403|45=>105|5=>5|9=>9|51=>415|55=>353|57=>420|58=>67|33=>302|n=>n,fun|n=>n⟩
def eQ:Go.Proofs.SlLaysZI.n6 AA OI:={
 mixed:=kr
 f6:=⟨f323.name,dc,func323.trans (congrArg some kr)⟩
 f8:=⟨f352.name,dc,func352.trans (congrArg some kr)⟩
 f11:=⟨f371.name,dc,func371.trans (congrArg some kr)⟩
 t0:=Tryz.underlying0
 a0:=Tryz.isAgg0
 z0:=Tryz.sizeOf0
 v0:=Tryz.zeroValue0
 t24:=Tryz.underlying72
 a24:=Tryz.isAgg72
 z24:=Tryz.sizeOf72
 v24:=Tryz.zeroValue72
 t26:=Tryz.underlying3
 a26:=Tryz.isAgg3
 z26:=Tryz.sizeOf3
 v26:=Tryz.zeroValue3
 t28:=Tryz.underlying369
 a28:=Tryz.isAgg369
 z28:=Tryz.sizeOf369
 v28:=Tryz.zeroValue369
 i26:=by kernel_rfl }
def YX:Go.Shelf.Ren:=⟨fun|5=>353|8=>373|7=>372|19=>393|20=>394|10=>384|11=>385|12=>386|13=>387|14=>388|15=>389|16=>390|17=>391|18=>392|30=>399|31=>400|32=>401|33=>402|34=>403|35=>364|40=>404|n=>n,fun|23=>72|25=>3|3=>3|32=>380|22=>72|0=>0|44=>410|46=>412|4=>4|36=>404|35=>403|41=>105|5=>5|9=>9|53=>415|57=>353|63=>420|64=>67|n=>n,fun|n=>n⟩
def YY:Go.Proofs.SlLaysM.n5 AA YX:={
 mixed:=kr
 f5:=⟨f353.name,dc,func353.trans (congrArg some kr)⟩
 f7:=⟨f372.name,dc,func372.trans (congrArg some kr)⟩
 f8:=func373.trans (congrArg some kr)
 f10:=⟨f384.name,dc,func384.trans (congrArg some kr)⟩
 f11:=⟨f385.name,dc,func385.trans (congrArg some kr)⟩
 f12:=⟨f386.name,dc,func386.trans (congrArg some kr)⟩
 f13:=⟨f387.name,dc,func387.trans (congrArg some kr)⟩
 f14:=⟨f388.name,dc,func388.trans (congrArg some kr)⟩
 f15:=⟨f389.name,dc,func389.trans (congrArg some kr)⟩
 f16:=⟨f390.name,dc,func390.trans (congrArg some kr)⟩
 f17:=⟨f391.name,dc,func391.trans (congrArg some kr)⟩
 f18:=⟨f392.name,dc,func392.trans (congrArg some kr)⟩
 f19:=func393.trans (congrArg some kr)
 f20:=func394.trans (congrArg some kr)
 f30:=⟨f399.name,dc,func399.trans (congrArg some kr)⟩
 f31:=func400.trans (congrArg some kr)
 f32:=func401.trans (congrArg some kr)
 f33:=⟨f402.name,dc,func402.trans (congrArg some kr)⟩
 f34:=⟨f403.name,dc,func403.trans (congrArg some kr)⟩
 f35:=⟨f364.name,dc,func364.trans (congrArg some kr)⟩
 f40:=⟨f404.name,dc,func404.trans (congrArg some kr)⟩
 t0:=Tryz.underlying0
 a0:=Tryz.isAgg0
 z0:=Tryz.sizeOf0
 v0:=Tryz.zeroValue0
 t3:=Tryz.underlying3
 a3:=Tryz.isAgg3
 z3:=Tryz.sizeOf3
 v3:=Tryz.zeroValue3
 t4:=Tryz.underlying4
 a4:=Tryz.isAgg4
 z4:=Tryz.sizeOf4
 v4:=Tryz.zeroValue4
 t5:=Tryz.underlying5
 a5:=Tryz.isAgg5
 z5:=Tryz.sizeOf5
 v5:=Tryz.zeroValue5
 t9:=Tryz.underlying9
 a9:=Tryz.isAgg9
 z9:=Tryz.sizeOf9
 v9:=Tryz.zeroValue9
 t22:=Tryz.underlying72
 a22:=Tryz.isAgg72
 z22:=Tryz.sizeOf72
 v22:=Tryz.zeroValue72
 t23:=Tryz.underlying72
 a23:=Tryz.isAgg72
 z23:=Tryz.sizeOf72
 v23:=Tryz.zeroValue72
 t25:=Tryz.underlying3
 a25:=Tryz.isAgg3
 z25:=Tryz.sizeOf3
 v25:=Tryz.zeroValue3
 t32:=Tryz.underlying380
 a32:=Tryz.isAgg380
 z32:=Tryz.sizeOf380
 v32:=Tryz.zeroValue380
 t35:=Tryz.underlying403
 a35:=Tryz.isAgg403
 z35:=Tryz.sizeOf403
 v35:=Tryz.zeroValue403
 t36:=Tryz.underlying404
 a36:=Tryz.isAgg404
 z36:=Tryz.sizeOf404
 v36:=Tryz.zeroValue404
 t41:=Tryz.underlying105
 a41:=Tryz.isAgg105
 z41:=Tryz.sizeOf105
 v41:=Tryz.zeroValue105
 t44:=Tryz.underlying410
 a44:=Tryz.isAgg410
 z44:=Tryz.sizeOf410
 v44:=Tryz.zeroValue410
 t46:=Tryz.underlying412
 a46:=Tryz.isAgg412
 z46:=Tryz.sizeOf412
 v46:=Tryz.zeroValue412
 t53:=Tryz.underlying415
 a53:=Tryz.isAgg415
 z53:=Tryz.sizeOf415
 v53:=Tryz.zeroValue415
 t57:=Tryz.underlying353
 a57:=Tryz.isAgg353
 z57:=Tryz.sizeOf353
 v57:=Tryz.zeroValue353
 t63:=Tryz.underlying420
 a63:=Tryz.isAgg420
 z63:=Tryz.sizeOf420
 v63:=Tryz.zeroValue420
 t64:=Tryz.underlying67
 a64:=Tryz.isAgg67
 z64:=Tryz.sizeOf67
 v64:=Tryz.zeroValue67 }
def mX(m:Nat):AnyZI.SortsIn AA OI Fence.wide m :=
  ⟨λj o g t W C i r=>callsIn_wide.2 (AnyM.slices_Sort_int YY j o g t W C i r),
   λp g W=>callsIn_wide.2 (AnyM.slices_Sort_int_none YY p g W)⟩
end Go.Proofs
namespace Go.AI
open Go.RowKit Go.Maps Go.Sort Go.Shelf Go.Proofs
def iE{H : Fl}{ob o : Nat}{r : List (AV × AV)}(h1 : H[ob]? = some (some [.mapr o]))(h2 : JZ H (.mapr o) = some r)(h3 : XA r = true)(h4 : r.length <= 1073741824):
    Fw AA 323 [.fn (.func 354) [] [.ptr ob 0]] H λv H'=>v = .sl none ((P4 (NT r)).map (.int .i64))/\H'=H := by
  refine⟨kr,λF G w us I=>?_⟩;have J := I.l.len;obtain⟨u,rfl⟩:∃u,us=[u] := by
    match us,J with
    |[u],_=>exact⟨u,rfl⟩
  have hx := I.l.rel 0 _ _ rfl rfl;cases hx with
  |fn _ _ _ fi ca k1 k2 k3 k4 =>
  obtain rfl:fi=#[] := by
    have:fi.size=0 := k1.symm;exact Array.eq_empty_of_size_eq_zero this
  obtain ⟨x,rfl⟩ : ∃ x,ca=#[x] := by
    have:ca.size=1 := k2.symm
    exact ⟨ca[0], by apply Array.ext; · simp [this]
                     · intro i hi1 O;simp at O;subst O;rfl⟩
  have hp := k4 0 _ x rfl rfl;cases hp with
  |ptr _ _ B hB hCE =>
  obtain⟨C,E,hC⟩ := hCE;obtain⟨_,C',E',R,T,U⟩ := (I.h.obj ob _ B h1 hB).of_cells hC;rw[hC]at R;cases R;have h0:C[0]? =some (C[0]'(by simp at T;omega)) := Array.getElem?_eq_getElem _;generalize C[0]'(by simp at T;omega)=um at h0;obtain⟨_,hm,_⟩ := U 0 _ um rfl h0;obtain⟨b,D0,rfl,V,p,hsz⟩ := ADm (P := AA) (k := M5.t 26) kr I hm h2 h3 (by unfold maxLen;omega);have t:w.cell? ⟨B,0,none⟩=some (.map (some b)) := by simp[World.cell?,hC,h0]
  have hseq:SeqGives Fence.wide 2 AA 354 #[.pointer (some ⟨B,0,none⟩)] encZ (λss=>ss.Perm (intKeys D0)) (Maps.size D0) w :=
    AnyZI.keys_gives (ρ := M5) { ry with } Fence.wide _ trivial rfl Fj B b r.length D0 w (Au.1 hC).1 t V
  have cS := AnyZI.sorted_in eQ Fence.wide 5 trivial trivial trivial trivial rfl Fj (mX _) (enters_of func353 kr rfl) 354 #[.pointer (some ⟨B,0,none⟩)] trivial (enters_of func354 kr rfl) _ _ (by rw[hsz];unfold maxLen;omega) (by rw[hsz];omega) _ hseq;change CallsIn _ _ AA 323 _ _ _ at cS;refine(callsIn_wide (n := 5)).1 (cS.mono ?_);rintro e w' ⟨v,ss,rfl,hS,j,hnil,hbel⟩;have hs:ss.mergeSort (λx y=>decide (x<=y))=P4 (NT r) := wa (hS.trans p);rw[hs]at j;have hl2:ss.length=(P4 (NT r)).length := by rw[(hS.trans p).length_eq,(P3 _).length_eq]
  rw[hl2]at j;obtain⟨g,hg,hv⟩ := AEH j;exact⟨v,rfl,sO I hbel hg ⟨rfl,rfl⟩ (hv G) (Gs rfl _)⟩
def oE:Orc:=λf i H=>bif CJ f 323 then
  match i with
  | [.fn (.func s) [] [.ptr j 0]]=>bif CJ s 354 then match H[j]? with
   |some (some [.mapr o])=>match JZ H (.mapr o)with
    |some g=>bif XA g&&Nat.ble g.length 1073741824 then some (.sl none ((P4 (NT g)).map (.int .i64)),H)else none
    |none=>none
   |_=>none
   else none
  |_=>none
 else none
def u6:uY AA oE:=by
 intro f C H v I h;unfold oE at h;cases i:CJ f 323 with
 |false=>rw[i]at h;cases h
 | true =>
  rw[i]at h;have:=DN i;subst this;dsimp only[cond_true]at h;split at h
  ·rename_i s J;cases j:CJ s 354 with
   |false=>rw[j]at h;cases h
   | true =>
    rw[j]at h;have:=DN j;subst this;dsimp only[cond_true]at h;split at h
    ·rename_i o r;split at h
     ·rename_i p t;cases g:(XA p&&Nat.ble p.length 1073741824)with
      |false=>rw[g]at h;cases h
      |true =>
       rw[g]at h;cases h;simp only[AQ]at g;exact iE r t g.1 (Nat.le_of_ble_eq_true g.2)
     ·cases h
    ·cases h
  ·cases h
end Go.AI
