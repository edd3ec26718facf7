/- Abstract values for Go data,and what it means that the model's value and memory are described by one. No program in sight. -/
import Derived.WalkKit
import Derived.Orders
import Derived.OrdersIn
import Derived.TacticsIn
import Derived.RangeFuncIn
import Derived.RangeFuncRecord
import Derived.MapKept
import Derived.DeepKeys5
import Derived.Lib.LazyBuf
import Derived.KernelRfl
set_option linter.unusedSimpArgs false
set_option linter.unusedVariables false
set_option linter.defProp false
open Array renaming ext'->Bq,getElem?_eq_getElem->Al,getElem?_eq_some_iff->Au,getElem?_toList->Af,getElem_toList->EC,length_toList->Bv,range->CX
open Bool renaming and_eq_true->AQ
open Int renaming not_lt->D9,toNat_natCast->AZ
open List renaming all_cons->Am,all_eq_true->Ao,append_assoc->AF,cons_append->AU,count->CW,count_append->Cm,count_eq_zero->EA,count_le_length->D',count_nil->Bk,count_pos_iff->C7,drop_drop->A_,drop_eq_getElem_cons->BI,ext_getElem?->A6,filterMap_cons->B7,filterMap_eq_nil_iff->B5,filterMap_nil->Cj,flatMap_append->C9,flatMap_cons->BA,getElem?_append_left->Aa,getElem?_append_right->AO,getElem?_cons_succ->B2,getElem?_cons_zero->A7,getElem?_drop->A4,getElem?_eq_getElem->AL,getElem?_eq_none->A0,getElem?_eq_some_iff->AD,getElem?_map->Ac,getElem?_of_mem->Ab,getElem?_set->Az,getElem?_take->Ak,getElem?_toArray->Bl,getElem?_zip_eq_some->Bj,length_append->AE,length_cons->AC,length_drop->Ck,length_map->Ap,length_nil->AG,length_set->Aj,length_singleton->BQ,length_take->BB,map_append->Aq,map_cons->AW,map_nil->Ah,mem_filterMap->CL,mem_map->AN,mem_of_getElem?->AB,mem_of_mem_drop->Df,mem_of_mem_take->Cn,mem_singleton->Ag,of_mem_zip->Ci,range->An,range'->Di,range_succ->B9,replicate->As,size_toArray->Bd,sum_append->B_,sum_cons->B3,sum_nil->CV,take_append->C_,take_append_drop->A8,take_of_length_le->Be,take_succ_eq_append_getElem->EB,take_take->DA,toList_toArray->Dh,zipIdx_cons->ED,zip_append->C8,zip_cons_cons->B6,zip_nil_right->D_
open Nat renaming add_assoc->AT,add_comm->CB,add_mul->A1,add_sub_cancel_left->A5,add_zero->BG,le_of_not_lt->B',le_refl->AS,le_trans->AJ,lt_irrefl->Bu,lt_of_lt_of_le->BV,min_eq_left->Bw,mul_le_mul_right->BH,ne_of_lt->CA,sub_mul->EF,sub_self->AP,zero_add->AX
open Option renaming bind_some->Bi,eq_none_or_eq_some->Dd,getD_none->BR,getD_some->BP,isSome_iff_exists->Bm,map_some->Bb
open Go.Program renaming built->EE,cellsOf->BU
open Go.Result renaming andThen_ok->Ad
open Go.Sem renaming run_bind->AK,run_ite->Bc,run_pure->Ae
namespace Go.AI
def kr{p:Prop}(h:p:=by kernel_rfl):p:=h
def Fj{p:Prop}(h:p:=by omega):p:=h
def dk{p:Prop}(h:p:=by decide +kernel):p:=h
def F3{p:Prop}(h:p:=by simp):p:=h
def dc{p:Prop}(h:p:=by decide):p:=h
def IG{p:Prop}(h:p:=by simp;omega):p:=h
def dF(h:Decidable False):@decide False h=false:=decide_false h
def dT(h:Decidable True):@decide True h=true:=decide_true h
def iN{c:Prop}{h:Decidable c}(g:¬c){α:Sort _}{t e:α}:(@ite α c h t e)=e:=if_neg g
def iP{c:Prop}{h:Decidable c}(g:c){α:Sort _}{t e:α}:(@ite α c h t e)=t:=if_pos g
def tV:True:=trivial
end Go.AI
namespace Go.AI
structure LoopRec where
 tag:Nat
 ps:Array Tmp
 assign:Code
 body:Code
inductive AV where
 |undef
 |int (k:IntKind) (n:Int)
 |bool (b:Bool)
 |str (s:ByteArray)
 |nilp
 |ptr (o off:Nat)
 |cptr (cs:List AV) (off:Nat)
 |sl (own:Option Nat) (es:List AV)
 |msl (o off len sz:Nat)
 |mslc (o off len sz cap:Nat)
 |fn (f:Fn) (first captured:List AV)
 |nilf
 |mapr (o:Nat)
 |nilm
 |it (o:Nat)
 |yld (o:Nat) (L:LoopRec)
 |ifc (t:TypeId) (a:AV)
 |nili
 |agg (cs:List AV)
 |tup (vs:List AV)
 deriving Inhabited
def AV.cells:AV->List AV
 |.agg g=>g
 |v=>[v]
def AV.flat:AV->List AV
 |.tup g=>g.flatMap AV.cells
 |v=>v.cells
def AV.scalar:AV->Bool
 |.undef | .agg _ | .tup _=>false
 |_=>true
def AV.isVal:AV->Bool
 |.undef | .tup _=>false
 |_=>true
def borrow1:AV->AV
 |.sl _ g => .sl none g
 |v=>v
def borrow0:AV->AV
 |.agg g => .agg (g.map borrow1)
 |.sl _ i => .sl none i
 |v=>v
def AV.borrow:AV->AV
 |.tup g => .tup (g.map borrow0)
 |v=>borrow0 v
inductive Kind where
 |imm
 |obj
 |buf (p:Nat)
 |map
 |iter
 |loop (L:LoopRec)
def Kind.sp:Kind->Bool
 |.map | .iter | .loop _=>true
 |_=>false
structure Gh where
 obs:List Nat
 kind:Nat->Kind
def Gh.safe(G:Gh)(b o:Nat):Prop :=
 match G.kind b with
 |.imm=>True
 |.buf p=>o<p
 |_=>False
def Hx(g:List AV):List AV:=g.flatMap AV.cells
inductive VRel (G:Gh) (w:World):AV->Value->Prop where
 |undef (v:Value):VRel G w .undef v
 |int (k:IntKind) (n:Int):VRel G w (.int k n) (.int k n)
 |bool (b:Bool):VRel G w (.bool b) (.bool b)
 |str (s:ByteArray):VRel G w (.str s) (.string s)
 |nilp:VRel G w .nilp (.pointer none)
 |ptr (o off b:Nat) (h:G.obs[o]? =some b) (hc:∃(C:Array Value) (E:TypeId),w.heap[b]? =some (.cells C E (0,0))):VRel G w (.ptr o off) (.pointer (some ⟨b,off,none⟩))
 | cptr (cs:List AV) (off b q:Nat) (u:Nat->Value)
   (h:∀(i:Nat) (c:AV),cs[i]? =some c->c.scalar=true/\G.safe b (q+i)/\w.cell? ⟨b,q+i,none⟩=some (u i))
   (hu:∀(i:Nat) (c:AV),cs[i]? =some c->VRel G w c (u i)):VRel G w (.cptr cs off) (.pointer (some ⟨b,q+off,none⟩))
 |slnil (own:Option Nat):VRel G w (.sl own []) (.slice none 0 0)
 |slany (own:Option Nat) (a:Addr):VRel G w (.sl own []) (.slice (some a) 0 0)
 | sl (own:Option Nat) (es:List AV) (sz b q cap:Nat) (u:Nat->Value)
   (hsz:∀e∈es,e.cells.length=sz) (hown:∀n,own=some n->n=sz/\0<n) (hl:es.length<=cap) (hm:cap<=maxLen)
   (h:∀(i:Nat) (c:AV),(Hx es)[i]? =some c->c.scalar=true/\G.safe b (q+i)/\w.cell? ⟨b,q+i,none⟩=some (u i))
   (hu:∀(i:Nat) (c:AV),(Hx es)[i]? =some c->VRel G w c (u i)):VRel G w (.sl own es) (.slice (some ⟨b,q,none⟩) es.length cap)
 | msl (o off len sz b cap:Nat) (h:G.obs[o]? =some b) (hl:len<=cap) (hm:cap<=maxLen)
   (hc:∃(C:Array Value) (E:TypeId),w.heap[b]? =some (.cells C E (0,0))/\off+cap*sz<=C.size):VRel G w (.msl o off len sz) (.slice (some ⟨b,off,none⟩) len cap)
 | mslc (o off len sz cap b:Nat) (h:G.obs[o]? =some b) (hl:len<=cap) (hm:cap<=maxLen)
   (hc:∃(C:Array Value) (E:TypeId),w.heap[b]? =some (.cells C E (0,0))/\off+cap*sz<=C.size):VRel G w (.mslc o off len sz cap) (.slice (some ⟨b,off,none⟩) len cap)
 | fn (f:Fn) (first captured:List AV) (fi ca:Array Value) (h1:first.length=fi.size) (h2:captured.length=ca.size)
   (h3:∀(i:Nat) (c:AV) (v:Value),first[i]? =some c->fi[i]? =some v->VRel G w c v) (h4:∀(i:Nat) (c:AV) (v:Value),captured[i]? =some c->ca[i]? =some v->VRel G w c v) :
   VRel G w (.fn f first captured) (.func f fi ca)
 |nilf:VRel G w .nilf .nilFunc
 |mapr (o b:Nat) (h:G.obs[o]? =some b) (hb:b<w.heap.size) (hk:G.kind b = .map):VRel G w (.mapr o) (.map (some b))
 |nilm:VRel G w .nilm (.map none)
 |it (o b:Nat) (h:G.obs[o]? =some b) (hb:b<w.heap.size) (hk:G.kind b = .iter):VRel G w (.it o) (.pointer (some ⟨b,0,none⟩))
 |yld (o b:Nat) (L:LoopRec) (h:G.obs[o]? =some b) (hb:b<w.heap.size) (hk:G.kind b = .loop L):VRel G w (.yld o L) (.func (.yield b) #[] #[])
 |ifc (t:TypeId) (a:AV) (v:Value) (hs:a.isVal=true) (h:VRel G w a v):VRel G w (.ifc t a) (.iface t v)
 |nili:VRel G w .nili .nilIface
 | agg (cs:List AV) (vs:Array Value) (hl:cs.length=vs.size) (hs : ∀ c∈cs,c.scalar=true)
   (h:∀(i:Nat) (c:AV) (v:Value),cs[i]? =some c->vs[i]? =some v->VRel G w c v):VRel G w (.agg cs) (.agg vs)
 | tup (cs:List AV) (vs:Array Value) (hl:cs.length=vs.size) (hs : ∀ c∈cs,c.isVal=true)
   (h:∀(i:Nat) (c:AV) (v:Value),cs[i]? =some c->vs[i]? =some v->VRel G w c v):VRel G w (.tup cs) (.tuple vs)
structure Keeps (G:Gh) (w:World) (G':Gh) (w':World):Prop where
 obs:∀(o b:Nat),G.obs[o]? =some b->G'.obs[o]? =some b
 shape:∀(b:Nat) (C:Array Value) (E:TypeId),w.heap[b]? =some (.cells C E (0,0)) -> ∃C':Array Value,w'.heap[b]? =some (.cells C' E (0,0))/\C'.size=C.size
 sp:∀b:Nat,b<w.heap.size->(G.kind b).sp=true->b<w'.heap.size/\G'.kind b=G.kind b
 safe:∀(b o:Nat) (v:Value),G.safe b o->w.cell? ⟨b,o,none⟩=some v->G'.safe b o/\w'.cell? ⟨b,o,none⟩=some v
def Keeps.refl(G:Gh)(w:World):Keeps G w G w:=⟨λ_ _ h=>h,λ_ C _ h=>⟨C,h,rfl⟩,λ_ h _=>⟨h,rfl⟩,λ_ _ _ g i=>⟨g,i⟩⟩
def Keeps.trans{G P i:Gh}{w R j:World}(h:Keeps G w P R)(t:Keeps P R i j):Keeps G w i j :=
 ⟨λo b p=>t.obs o b (h.obs o b p),λb C E p=>by
   obtain⟨U,r,g⟩:=h.shape b C E p;obtain⟨I,J,O⟩:=t.shape b U E r;exact⟨I,J,O.trans g⟩,λb p T =>
   let⟨r,g⟩:=h.sp b p T
   let⟨J,O⟩:=t.sp b r (by rw[g];exact T)
   ⟨J,O.trans g⟩,λb o v r g=>let⟨a,c⟩:=h.safe b o v r g;t.safe b o v a c⟩
def VRel.keep{G G':Gh}{w w':World}(j:Keeps G w G' w'){a:AV}{v:Value}(h:VRel G w a v):VRel G' w' a v:=by
 induction h with
 |undef v=>exact .undef v
 |int k n=>exact .int k n
 |bool b=>exact .bool b
 |str s=>exact .str s
 |nilp=>exact .nilp
 |ptr o g b h hc =>
  obtain⟨C,E,U⟩:=hc;obtain⟨C',p,_⟩:=j.shape b C E U;exact .ptr o g b (j.obs o b h) ⟨C',E,p⟩
 |cptr cs g b q u h hu O=>exact .cptr cs g b q u (λi c V=>⟨(h i c V).1,j.safe b _ _ (h i c V).2.1 (h i c V).2.2⟩) O
 |slnil P=>exact .slnil P
 |slany P a=>exact .slany _ a
 |sl P es sz b q I u hsz hown R hm h hu O =>
  exact .sl P es sz b q I u hsz hown R hm (λi c V=>⟨(h i c V).1,j.safe b _ _ (h i c V).2.1 (h i c V).2.2⟩) O
 |msl o g len sz b I h R hm hc =>
  obtain⟨C,E,U,p⟩:=hc;obtain⟨C',J,T⟩:=j.shape b C E U;exact .msl o g len sz b I (j.obs o b h) R hm ⟨C',E,J,Fj⟩
 |mslc o g len sz I b h R hm hc =>
  obtain⟨C,E,U,p⟩:=hc;obtain⟨C',J,T⟩:=j.shape b C E U;exact .mslc o g len sz I b (j.obs o b h) R hm ⟨C',E,J,Fj⟩
 |fn f first r fi ca U p J T ih1 ih2=>exact .fn f first r fi ca U p ih1 ih2
 |nilf=>exact .nilf
 |mapr o b h hb p=>obtain⟨J,T⟩:=j.sp b hb (by rw[p];rfl);exact .mapr o b (j.obs o b h) J (T.trans p)
 |nilm=>exact .nilm
 |it o b h hb p=>obtain⟨J,T⟩:=j.sp b hb (by rw[p];rfl);exact .it o b (j.obs o b h) J (T.trans p)
 |yld o b L h hb p=>obtain⟨J,T⟩:=j.sp b hb (by rw[p];rfl);exact .yld o b L (j.obs o b h) J (T.trans p)
 |ifc t a v hs h O=>exact .ifc t a v hs O
 |nili=>exact .nili
 |agg cs vs R hs h O=>exact .agg cs vs R hs O
 |tup cs vs R hs h O=>exact .tup cs vs R hs O
def VRel.borrow1{G:Gh}{w:World}{a:AV}{v:Value}(h:VRel G w a v):VRel G w (borrow1 a) v:=by
 cases h with
 |slnil g=>exact .slnil none
 |slany g a=>exact .slany _ a
 |sl g t C b q i u j r I J h o=>exact .sl none t C b q i u j (λn O=>by cases O) I J h o
 |cptr P p b q u h o=>exact .cptr P p b q u h o
 |_=>constructor<;>assumption
def Gz(a:AV):(Go.AI.borrow1 a).scalar=a.scalar:=by cases a<;>rfl
def VRel.borrow0{G:Gh}{w:World}{a:AV}{v:Value}(h:VRel G w a v):VRel G w (borrow0 a) v:=by
 cases h with
 |slnil j=>exact .slnil none
 |slany j a=>exact .slany _ a
 |sl j P R b q p u r O t T h C=>exact .sl none P R b q p u r (λn U=>by cases U) t T h C
 | agg I V t hs h =>
  refine .agg _ V (by simpa using t) (λc hc=>?_) (λi c u o hv=>?_)
  ·obtain⟨d,hd,rfl⟩:=AN.1 hc;rw[Gz];exact hs d hd
  ·rw[Ac]at o;cases g:I[i]? with
   |none=>rw[g]at o;cases o
   |some d=>rw[g]at o;cases o;exact(h i d u g hv).borrow1
 |cptr I J b q u h C=>exact .cptr I J b q u h C
 |_=>constructor<;>assumption
def ZT(a:AV):(Go.AI.borrow0 a).isVal=a.isVal:=by cases a<;>rfl
def VRel.borrow{G:Gh}{w:World}{a:AV}{v:Value}(h:VRel G w a v):VRel G w a.borrow v:=by
 cases h with
 | tup o C p I h =>
  refine .tup _ C (by simpa using p) (λc T=>?_) (λi c u r U=>?_)
  ·obtain⟨d,V,rfl⟩:=AN.1 T;rw[ZT];exact I d V
  ·rw[Ac]at r;cases j:o[i]? with
   |none=>rw[j]at r;cases r
   |some d=>rw[j]at r;cases r;exact(h i d u j U).borrow0
 |slnil g=>exact(VRel.slnil g).borrow0
 |slany g a=>exact .slany _ a
 |sl g es sz b q J u O t p hm h P=>exact(VRel.sl g es sz b q J u O t p hm h P).borrow0
 |agg o C p I h=>exact(VRel.agg o C p I h).borrow0
 |cptr o R b q u h P=>exact .cptr o R b q u h P
 |_=>constructor<;>assumption
def Ry:AV->Option Value
 |.str s=>some (.string s)
 |.int k n=>some (.int k n)
 |.bool b=>some (.bool b)
 |_=>none
def Hu:List ByteArray:=[⟨#[97,110,100]⟩,⟨#[97,110,121]⟩,⟨#[97,116]⟩,⟨#[98,97,99,107]⟩,⟨#[98,111,120]⟩,⟨#[98,117,114,115,116]⟩,⟨#[98,121]⟩,⟨#[99,97,112,97,99,105,116,121]⟩,⟨#[99,101,105,108,105,110,103]⟩,⟨#[99,104,101,99,107]⟩,⟨#[99,111,110,116,114,97,99,116]⟩,⟨#[99,111,117,110,116]⟩,⟨#[100,101,109,97,110,100]⟩,⟨#[100,114,111,112]⟩,⟨#[101,97,99,104]⟩,⟨#[101,100,103,101]⟩,⟨#[101,110,116,114,105,101,115]⟩,⟨#[102,97,108,115,101]⟩,⟨#[102,105,101,108,100]⟩,⟨#[102,108,111,111,114]⟩,⟨#[102,114,111,109]⟩,⟨#[105,100]⟩,⟨#[105,110]⟩,⟨#[105,110,110,101,114]⟩,⟨#[105,110,116,111]⟩,⟨#[108,105,110,107]⟩,⟨#[110,101,116,119,111,114,107]⟩,⟨#[110,111,100,101]⟩,⟨#[110,111,116]⟩,⟨#[111,112,101,110]⟩,⟨#[111,114]⟩,⟨#[112,97,116,104]⟩,⟨#[112,111,114,116]⟩,⟨#[112,114,105,99,101]⟩,⟨#[114,111,117,116,101]⟩,⟨#[114,117,108,101,115]⟩,⟨#[115,116,97,103,101]⟩,⟨#[116,97,107,101]⟩,⟨#[116,101,110,97,110,116]⟩,⟨#[116,104,101,110]⟩,⟨#[116,105,109,101]⟩,⟨#[116,111]⟩,⟨#[116,111,107,101,110]⟩,⟨#[116,114,97,110,115,108,97,116,101]⟩,⟨#[116,114,117,101]⟩,⟨#[118,105,97]⟩,⟨#[119,105,100,116,104]⟩,⟨#[119,105,114,101]⟩,⟨#[119,105,116,104,105,110]⟩]
def glb:List (Nat×List AV):=[(0,Hu.map AV.str)]
def GOk(G:Gh)(w:World):Prop:=∀(g:Nat) (j:List AV),glb.lookup g=some j -> ∀(i:Nat) (c:AV),j[i]? =some c->G.safe g i /\ ∃u,Ry c=some u/\w.cell? ⟨g,i,none⟩=some u
def GOk.keep{G j:Gh}{w o:World}(h:GOk G w)(p:Keeps G w j o):GOk j o:=λg r t i c C =>
 let⟨I,u,J,O⟩:=h g r t i c C
 let⟨a,b⟩:=p.safe g i u I O
 ⟨a,u,J,b⟩
def GOk.same{G j:Gh}{w:World}(h:GOk G w)(o:j.kind=G.kind):GOk j w:=λg p r i c t =>
 let⟨C,u,I,J⟩:=h g p r i c t
 ⟨by unfold Gh.safe at *;rw[o];exact C,u,I,J⟩
def GOk.vrel{G:Gh}{w:World}(h:GOk G w){g:Nat}{j:List AV}(r:glb.lookup g=some j):VRel G w (.cptr j 0) (.pointer (some ⟨g,0,none⟩)):=by
 refine .cptr j 0 g 0 (λi=>((j[i]?).bind Ry).getD Go.undef) (λi c p=>?_) (λi c p=>?_)
 ·obtain⟨t,u,o,C⟩:=h g j r i c p;refine⟨?_,by rw[AX];exact t,by rw[AX,p];simp[o,C]⟩;cases c<;>first|rfl|cases o
 ·obtain⟨t,u,o,C⟩:=h g j r i c p;rw[p];simp only[Bi,o,BP];cases c<;>first|(cases o;constructor)|cases o
abbrev Fl:=List (Option (List AV))
def Io:Value->List Value
 |.tuple g=>g.toList.flatMap λv=>v.cells.toList
 |v=>v.cells.toList
def L3(a:AV)(v:Value):List (AV×Value):=a.flat.zip (Io v)
def tok(p:AV×Value):Option Nat :=
 match p with
 |(.sl (some _) _,.slice (some a) g i)=>if g<i then some a.block else none
 |_=>none
def Gg(F:Nat->Prop)(G:Gh)(w:World)(p:AV×Value):Prop :=
 match p with
 | (.sl (some n) _,.slice (some a) g i)=>g<i -> ¬ F a.block/\G.kind a.block = .buf (a.off+g*n) /\
   ∃(C:Array Value) (E:TypeId),w.heap[a.block]? =some (.cells C E (0,0))/\a.off+i*n<=C.size
 |_=>True
def HY(a:AV)(v:Value):List Nat:=(L3 a v).filterMap tok
def Hm(b:Nat)(g:List AV)(i:List Value):Nat:=((g.zip i).map λp=>(HY p.1 p.2).count b).sum
structure LRel (F:Nat->Prop) (G:Gh) (vs:List AV) (us:List Value) (w:World):Prop where
 len:vs.length=us.length
 rel:∀(i:Nat) (a:AV) (u:Value),vs[i]? =some a->us[i]? =some u->VRel G w a u
 tok:∀(i:Nat) (a:AV) (u:Value),vs[i]? =some a->us[i]? =some u -> ∀p∈L3 a u,Gg F G w p
def uV(F:Nat->Prop)(G:Gh)(w:World)(g:List AV)(b:Nat):Prop :=
 ∃(C:Array Value) (E:TypeId),w.heap[b]? =some (.cells C E (0,0))/\g.length<=C.size /\
  ∀(i:Nat) (c:AV) (v:Value),g[i]? =some c->C[i]? =some v->c.scalar=true/\VRel G w c v/\Gg F G w (c,v)
def Kn(g:List (AV×AV)):List AV:=[.tup (g.flatMap λp=>[p.1,p.2])]
def AKq(G:Gh)(w:World)(r:List AV)(b:Nat):Prop :=
 ∃(o:List (AV×AV)) (j:Array MapEntry) (g:Nat),w.heap[b]? =some (.map j g)/\r=Kn o/\o.length=j.size /\
  (∀(i:Nat) (p:AV×AV) (m:MapEntry),o[i]? =some p->j[i]? =some m->p.1.isVal=true/\p.2.isVal=true/\VRel G w p.1 m.key/\VRel G w p.2 m.val) /\
  g=j.size /\ ∀(i:Nat) (m:MapEntry),j[i]? =some m->m.born=i
def Xe(s:ByteArray)(g:Int):List AV:=[.str s,.int .i64 g]
def VK(o g:Nat)(seen:List Nat):List AV:=[.mapr o,.int .i64 (g:Int),.tup (seen.map λ(i:Nat)=>AV.int .i64 (i:Int))]
def fq(G:Gh)(w:World)(j:List AV)(b:Nat):Prop :=
 (∃s i,w.heap[b]? =some (.stringIter s i)/\j=Xe s i) \/
 (w.heap[b]? =some (.mapIter none 0 #[] 0)/\j=[.nilm]) \/
 ∃(o p g:Nat) (seen:List Nat),w.heap[b]? =some (.mapIter (some p) g seen.toArray g)/\j=VK o g seen/\VRel G w (.mapr o) (.map (some p))
def NP:LoopState->Option Code->Option Int
 |.ready,none=>some 0
 |.busy,_=>some (-1)
 |.done,some .ret=>some (-2)
 |.done,some (.exit k)=>some (k+1)
 |.exhausted,_=>some (-3)
 |_,_=>none
def Hl(st:Int)(g:List AV):List AV:=[.tup [.int .i64 st],.tup g]
def AGX(G:Gh)(w:World)(L:LoopRec)(p:List AV)(b:Nat):Prop :=
 ∃(s:LoopState) (o:Option Code) (g:Array Value) (D:FuncId×Nat) (st:Int) (j:List AV),
  w.heap[b]? =some (.loop { state:=s,pending:=o,fn:=D.1,tmps:=g,params:=L.ps,assign:=L.assign,body:=L.body,defers:=D.2 }) /\
  NP s o=some st/\p=Hl st j/\j.length=g.size/\(∀(i:Nat) (a:AV) (u:Value),j[i]? =some a->g[i]? =some u->a.borrow=a/\VRel G w a u)
structure ORel (F:Nat->Prop) (G:Gh) (w:World) (cs:List AV) (b:Nat):Prop where
 own:¬F b
 is:match G.kind b with
  |.obj=>uV F G w cs b
  |.map=>AKq G w cs b
  |.iter=>fq G w cs b
  |.loop L=>AGX G w L cs b
  |_=>False
def ORel.of_cells{F:Nat->Prop}{G:Gh}{w:World}{o:List AV}{b:Nat}(h:ORel F G w o b){C:Array Value}{E:TypeId}{I:Nat×Nat}(j:w.heap[b]? =some (.cells C E I)):
  G.kind b = .obj/\uV F G w o b:=by
 have i:=h.is;split at i
 ·rename_i J;exact⟨J,i⟩
 ·obtain⟨P,R,T,g,_⟩:=i;rw[j]at g;cases g
 ·rcases i with⟨s,O,g,_⟩|⟨g,_⟩|⟨_,_,_,_,g,_⟩<;>(rw[j]at g;cases g)
 ·obtain⟨s,p,t,D,st,r,g,_⟩:=i;rw[j]at g;cases g
 ·exact i.elim
def ORel.kinds{F:Nat->Prop}{G:Gh}{w:World}{j:List AV}{b:Nat}(h:ORel F G w j b):G.kind b = .obj\/(G.kind b).sp=true:=by
 have i:=h.is;split at i
 ·rename_i g;exact .inl g
 ·rename_i g;exact .inr (by rw[g];rfl)
 ·rename_i g;exact .inr (by rw[g];rfl)
 ·rename_i L g;exact .inr (by rw[g];rfl)
 ·exact i.elim
def ORel.no_buf{F:Nat->Prop}{G:Gh}{w:World}{j:List AV}{b q:Nat}(h:ORel F G w j b)(i:G.kind b = .buf q):False:=by
 rcases h.kinds with g|g
 ·rw[g]at i;cases i
 ·rw[i]at g;cases g
def ORel.lt{F:Nat->Prop}{G:Gh}{w:World}{o:List AV}{b:Nat}(h:ORel F G w o b):b<w.heap.size:=by
 have i:=h.is;split at i
 ·obtain⟨C,E,g,_⟩:=i;exact(Au.1 g).1
 ·obtain⟨I,J,O,g,_⟩:=i;exact(Au.1 g).1
 ·rcases i with⟨s,r,g,_⟩|⟨g,_⟩|⟨_,_,_,_,g,_⟩<;>exact(Au.1 g).1
 ·obtain⟨s,p,t,D,st,j,g,_⟩:=i;exact(Au.1 g).1
 ·exact i.elim
def ORel.keep{F F':Nat->Prop}{G V:Gh}{w w':World}{cs:List AV}{b:Nat}(h:ORel F G w cs b)(O:Keeps G w V w')(hF:¬F' b)(hkd:V.kind b=G.kind b)(r:w'.heap[b]? =w.heap[b]?)
  (hr:∀(C:Array Value) (E:TypeId),w.heap[b]? =some (.cells C E (0,0)) -> ∀(i:Nat) (c:AV) (v:Value),cs[i]? =some c->C[i]? =some v->Gg F G w (c,v)->Gg F' V w' (c,v)):ORel F' V w' cs b:=by
 refine⟨hF, ?_⟩;have I:=h.is;rw[hkd];split at I
 ·rename_i g
  try rw[g]
  obtain⟨C,E,J,P,j⟩:=I;exact⟨C,E,r.trans J,P,λi c v hc hv=>⟨(j i c v hc hv).1,(j i c v hc hv).2.1.keep O,hr C E J i c v hc hv (j i c v hc hv).2.2⟩⟩
 ·rename_i g
  try rw[g]
  obtain⟨es,ms,cl,J,P,j,g4,g5⟩:=I;exact⟨es,ms,cl,r.trans J,P,j,λi p m hp hm=>let⟨a1,a2,a3,a4⟩:=g4 i p m hp hm;⟨a1,a2,a3.keep O,a4.keep O⟩,g5⟩
 ·rename_i g
  try rw[g]
  rcases I with⟨s,pos,R,T⟩|⟨R,T⟩|⟨o,mb,si,se,R,T,h3⟩
  ·exact .inl ⟨s,pos,r.trans R,T⟩
  ·exact .inr (.inl ⟨r.trans R,T⟩)
  ·exact .inr (.inr ⟨o,mb,si,se,r.trans R,T,h3.keep O⟩)
 ·rename_i L g
  try rw[g]
  obtain⟨s,pe,t,D,st,U,J,P,j,g4,g5⟩:=I;exact⟨s,pe,t,D,st,U,r.trans J,P,j,g4,λi a u ha hu=>⟨(g5 i a u ha hu).1,(g5 i a u ha hu).2.keep O⟩⟩
 ·exact I.elim
def ORel.change{F r:Nat->Prop}{G:Gh}{w:World}{t:List AV}{b:Nat}(h:ORel F G w t b)(O:¬r b)
  (P:∀(C:Array Value) (E:TypeId),w.heap[b]? =some (.cells C E (0,0)) -> ∀(i:Nat) (c:AV) (v:Value),t[i]? =some c->C[i]? =some v->Gg F G w (c,v)->Gg r G w (c,v)):ORel r G w t b:=by
 refine⟨O, ?_⟩;have g:=h.is;split at g
 ·rename_i j
  try rw[j]
  obtain⟨C,E,J,R,I⟩:=g;exact⟨C,E,J,R,λi c v o p=>⟨(I i c v o p).1,(I i c v o p).2.1,P C E J i c v o p (I i c v o p).2.2⟩⟩
 ·rename_i j;first|exact g|(rw[j];exact g)
 ·rename_i j;first|exact g|(rw[j];exact g)
 ·rename_i L j;first|exact g|(rw[j];exact g)
 ·exact g.elim
def ORel.row_of{F:Nat->Prop}{G:Gh}{w:World}{g:List AV}{b:Nat}(i:¬F b)(j:G.kind b = .obj)(h:uV F G w g b):ORel F G w g b:=⟨i,by rw[j];exact h⟩
def HU(G:Gh)(H:Fl)(w:World)(o:Nat):List Nat :=
 match H[o]?,G.obs[o]? with
 |some (some g),some b =>
  match w.heap[b]? with
  |some (.cells C _ _)=>(g.zip C.toList).filterMap tok
  |_=>[]
 |_,_=>[]
def I3(G:Gh)(H:Fl)(w:World)(b:Nat):Nat:=((An H.length).map λo=>(HU G H w o).count b).sum
structure HRel (F:Nat->Prop) (G:Gh) (H:Fl) (w:World):Prop where
 len:G.obs.length=H.length
 obj:∀(o:Nat) (cs:List AV) (b:Nat),H[o]? =some (some cs)->G.obs[o]? =some b->ORel F G w cs b
 inj:∀(o o':Nat) (cs cs':List AV) (b:Nat),H[o]? =some (some cs)->H[o']? =some (some cs')->G.obs[o]? =some b->G.obs[o']? =some b->o=o'
 fore:∀b,F b->b<w.heap.size
 glob:GOk G w
structure CRel (F:Nat->Prop) (G:Gh) (vs:List AV) (H:Fl) (us:List Value) (w:World):Prop where
 l:LRel F G vs us w
 h:HRel F G H w
 cnt:∀b,Hm b vs us+I3 G H w b<=1
structure Ext (F:Nat->Prop) (G:Gh) (w:World) (G':Gh) (w':World):Prop where
 size:w.heap.size<=w'.heap.size
 keeps:Keeps G w G' w'
 kind:∀b,F b->G'.kind b=G.kind b
 cells:∀b,F b->w'.heap[b]? =w.heap[b]?
 io:w'.os=w.os/\w'.tape=w.tape/\w'.output=w.output
def Ext.refl(F:Nat->Prop)(G:Gh)(w:World):Ext F G w G w:=⟨AS _,.refl G w,λ_ _=>rfl,λ_ _=>rfl,⟨rfl,rfl,rfl⟩⟩
def Ext.trans{F:Nat->Prop}{G p i:Gh}{w r j:World}(h:Ext F G w p r)(g:Ext F p r i j):Ext F G w i j :=
 ⟨AJ h.size g.size,h.keeps.trans g.keeps,λb o=>(g.kind b o).trans (h.kind b o),λb o=>(g.cells b o).trans (h.cells b o),⟨g.io.1.trans h.io.1,g.io.2.1.trans h.io.2.1,g.io.2.2.trans h.io.2.2⟩⟩
def Ext.mono{F i:Nat->Prop}{G j:Gh}{w o:World}(h:Ext F G w j o)(p:∀b,i b->F b):Ext i G w j o :=
 ⟨h.size,h.keeps,λb g=>h.kind b (p b g),λb g=>h.cells b (p b g),h.io⟩
def Gy(b:Nat)(g:List Value):Hm b [] g=0:=by simp[Hm]
def Fx(b:Nat)(a:AV)(g:List AV)(u:Value)(i:List Value):Hm b (a::g) (u::i)=(HY a u).count b+Hm b g i:=by
 simp[Hm]
def G7(b:Nat): ∀(j:List AV) (o:List Value) (g:List AV) (i:List Value),j.length=o.length ->
  Hm b (j++g) (o++i)=Hm b j o+Hm b g i
 |[],[],g,i,_=>by simp[Gy]
 |[],_::_,_,_,h=>by simp at h
 |_::_,[],_,_,h=>by simp at h
 |a::j,u::o,g,i,h=>by
  rw[AU,AU,Fx,Fx,G7 b j o g i (by simpa using h)];omega
def Wg(b:Nat): ∀(j:List AV) (o:List Value) (d:Nat) (g a:AV) (i u:Value),j[d]? =some a->o[d]? =some u ->
  Hm b (j.set d g) (o.set d i)+(HY a u).count b=Hm b j o+(HY g i).count b
 |[],_,d,g,a,i,u,h,_=>by simp at h
 |_::_,[],d,g,a,i,u,_,h=>by simp at h
 |x::j,y::o,0,g,a,i,u,h,p=>by
  simp only[A7,Option.some.injEq]at h p;subst h;subst p;simp only[List.set_cons_zero,Fx];omega
 |x::j,y::o,d+1,g,a,i,u,h,p=>by
  simp only[B2]at h p;have:=Wg b j o d g a i u h p;simp only[List.set_cons_succ,Fx];omega
def NV(b:Nat): ∀(g:List AV) (j:List Value) (i:Nat) (a:AV) (u:Value),g[i]? =some a->j[i]? =some u ->
  (HY a u).count b<=Hm b g j
 |[],_,_,_,_,h,_=>by simp at h
 |_::_,[],_,_,_,_,h=>by simp at h
 |x::g,y::j,0,a,u,h,o=>by
  simp only[A7,Option.some.injEq]at h o;subst h;subst o;rw[Fx];omega
 |x::g,y::j,i+1,a,u,h,o=>by
  simp only[B2]at h o;have:=NV b g j i a u h o;rw[Fx];omega
def ACH{b:Nat}{a:AV}{u:Value}(h:0<(HY a u).count b): ∃p∈L3 a u,tok p=some b:=by
 obtain⟨p,g,i⟩:=CL.1 (C7.1 h);exact⟨p,g,i⟩
def Sh{b:Nat}: ∀(g:List AV) (j:List Value),0<Hm b g j -> ∃(i:Nat) (a:AV) (u:Value),g[i]? =some a/\j[i]? =some u /\ ∃p∈L3 a u,tok p=some b
 |[],_,h=>by simp[Hm]at h
 |_::_,[],h=>by simp[Hm]at h
 | x::g,y::j,h=>by
  rw[Fx]at h;by_cases o:0<(HY x y).count b
  ·exact⟨0,x,y,rfl,rfl,ACH o⟩
  ·obtain⟨i,a,u,r,t,C⟩:=Sh (b:=b) g j Fj;exact⟨i+1,a,u,by simpa using r,by simpa using t,C⟩
def Gg.of_tok{F:Nat->Prop}{G:Gh}{w:World}{p:AV×Value}{b:Nat}(h:Gg F G w p)(g:tok p=some b):
  ¬F b/\(∃q,G.kind b = .buf q) /\ ∃(C:Array Value) (E:TypeId),w.heap[b]? =some (.cells C E (0,0)):=by
 obtain⟨a,v⟩:=p;unfold tok at g;split at g
 ·rename_i n O P o r i;cases i;split at g
  ·rename_i j;cases g;obtain⟨t,I,C,E,J,_⟩:=h j;exact⟨t,⟨_,I⟩,C,E,J⟩
  ·cases g
 ·cases g
def Gb{F:Nat->Prop}{G:Gh}{w:World}{p:AV×Value}(j:tok p=none):Gg F G w p:=by
 obtain⟨a,v⟩:=p;unfold Gg;split
 ·rename_i n t C o r g;cases g;intro i;simp[tok,i]at j
 ·trivial
def Gg.keep{F j:Nat->Prop}{G o:Gh}{w r:World}{p:AV×Value}(h:Gg F G w p)
  (t:∀b,tok p=some b -> ¬j b/\o.kind b=G.kind b/\r.heap[b]? =w.heap[b]?):Gg j o r p:=by
 obtain⟨a,v⟩:=p;unfold Gg at h ⊢;split
 ·rename_i n es I J O i;cases i;intro g;obtain⟨h1,P,C,E,R,T⟩:=h g;obtain⟨U,V,k3⟩:=t I.block (by simp[tok,g]);exact⟨U,V.trans P,C,E,k3.trans R,T⟩
 ·trivial
def Gg.weaken{F i:Nat->Prop}{G:Gh}{w:World}{p:AV×Value}(h:Gg i G w p)(o:∀b,F b->i b):Gg F G w p :=
 (Dd (tok p)).elim Gb λ⟨_,j⟩=>h.keep λt g=>by
  rw[j]at g;cases g;exact⟨λr=>(h.of_tok j).1 (o _ r),rfl,rfl⟩
def LRel.weaken{F g:Nat->Prop}{G:Gh}{w:World}{j:List AV}{o:List Value}(h:LRel g G j o w)(r:∀b,F b->g b):LRel F G j o w :=
 ⟨h.len,h.rel,λi a u t C p I=>(h.tok i a u t C p I).weaken r⟩
def LRel.nil(F:Nat->Prop)(G:Gh)(w:World):LRel F G [] [] w:=⟨rfl,λi a u h _=>by simp at h,λi a u h _=>by simp at h⟩
def LRel.cons{F:Nat->Prop}{G:Gh}{w:World}{a:AV}{u:Value}{r:List AV}{t:List Value}(h:VRel G w a u)(C:∀p∈L3 a u,Gg F G w p)(o:LRel F G r t w):
  LRel F G (a::r) (u::t) w:=by
 refine⟨by simp[o.len],λi x y g j=>?_,λi x y g j=>?_⟩
 ·cases i with
  |zero=>simp at g j;subst g;subst j;exact h
  |succ i=>exact o.rel i x y (by simpa using g) (by simpa using j)
 ·cases i with
  |zero=>simp at g j;subst g;subst j;exact C
  |succ i=>exact o.tok i x y (by simpa using g) (by simpa using j)
def LRel.uncons{F:Nat->Prop}{G:Gh}{w:World}{a:AV}{u:Value}{o:List AV}{r:List Value}(h:LRel F G (a::o) (u::r) w):
  VRel G w a u/\(∀p∈L3 a u,Gg F G w p)/\LRel F G o r w :=
 ⟨h.rel 0 a u rfl rfl,h.tok 0 a u rfl rfl,by simpa using h.len,λi x y g j=>h.rel (i+1) x y (by simpa using g) (by simpa using j),
  λi x y g j=>h.tok (i+1) x y (by simpa using g) (by simpa using j)⟩
def LRel.append{F:Nat->Prop}{G:Gh}{w:World}{A B:List AV}{r t:List Value}(o:LRel F G A r w)(p:LRel F G B t w):LRel F G (A++B) (r++t) w:=by
 have C:=o.len;refine⟨by simp[o.len,p.len],λi x y g j=>?_,λi x y g j=>?_⟩<;>by_cases I:i<A.length
 ·rw[Aa I]at g;rw[Aa Fj]at j;exact o.rel i x y g j
 ·rw[AO Fj]at g;rw[AO Fj]at j;exact p.rel (i - A.length) x y g (by rw[C];exact j)
 ·rw[Aa I]at g;rw[Aa Fj]at j;exact o.tok i x y g j
 ·rw[AO Fj]at g;rw[AO Fj]at j;exact p.tok (i - A.length) x y g (by rw[C];exact j)
def LRel.split{F:Nat->Prop}{G:Gh}{w:World}{A B:List AV}{ua r:List Value}(h:LRel F G (A++B) (ua++r) w)(p:A.length=ua.length):
  LRel F G A ua w/\LRel F G B r w:=by
 have o:=h.len;simp only[AE]at o;refine⟨⟨p,λi x y g j=>?_,λi x y g j=>?_⟩,⟨Fj,λi x y g j=>?_,λi x y g j=>?_⟩⟩
 ·have:=(AD.1 g).1;exact h.rel i x y (by rw[Aa this];exact g) (by rw[Aa Fj];exact j)
 ·have:=(AD.1 g).1;exact h.tok i x y (by rw[Aa this];exact g) (by rw[Aa Fj];exact j)
 ·exact h.rel (A.length+i) x y (by rw[AO Fj,A5];exact g) (by rw[AO Fj,p,A5];exact j)
 ·exact h.tok (A.length+i) x y (by rw[AO Fj,A5];exact g) (by rw[AO Fj,p,A5];exact j)
def LRel.tok_of_pos{F:Nat->Prop}{G:Gh}{w:World}{g:List AV}{j:List Value}(h:LRel F G g j w){b:Nat}(o:0<Hm b g j):
  ¬F b/\(∃q,G.kind b = .buf q) /\ ∃(C:Array Value) (E:TypeId),w.heap[b]? =some (.cells C E (0,0)):=by
 obtain⟨i,a,u,r,t,p,I,J⟩:=Sh g j o;exact(h.tok i a u r t p I).of_tok J
def NA{b:Nat}{g:List AV}{j:List Value}{i:Nat}{a:AV}{u:Value}(o:g[i]? =some a)(r:j[i]? =some u){p:AV×Value}(t:p∈L3 a u)(C:tok p=some b):
  0<Hm b g j:=by
 have I:0<(HY a u).count b:=C7.2 (CL.2 ⟨p,t,C⟩);have:=NV b g j i a u o r;omega
def LRel.ext{F F':Nat->Prop}{G I:Gh}{w J:World}{o:List AV}{r:List Value}(h:LRel F G o r w)(t:Ext F' G w I J)(R:∀b,0<Hm b o r->F' b):LRel F I o r J :=
 ⟨h.len,λi a u g j=>(h.rel i a u g j).keep t.keeps,λi a u g j p C=>(h.tok i a u g j p C).keep λb O =>
  have P:=R b (NA g j C O)
  ⟨((h.tok i a u g j p C).of_tok O).1,t.kind b P,t.cells b P⟩⟩
def vn{G:Gh}{H:Fl}{w:World}{o b:Nat}(h:0<(HU G H w o).count b):
  ∃(j:List AV) (r:Nat) (C:Array Value) (E:TypeId) (t:Nat×Nat) (i:Nat) (c:AV) (v:Value),H[o]? =some (some j)/\G.obs[o]? =some r/\w.heap[r]? =some (.cells C E t) /\
   j[i]? =some c/\C[i]? =some v/\tok (c,v)=some b:=by
 have g:=C7.1 h;unfold HU at g;split at g
 ·rename_i j r J O;split at g
  ·rename_i C E t P;obtain⟨p,R,T⟩:=CL.1 g;obtain⟨i,I⟩:=Ab R;rw[Bj]at I;exact⟨j,r,C,E,t,i,p.1,p.2,J,O,P,I.1,by simpa using I.2,T⟩
  ·cases g
 ·cases g
def jF{G:Gh}{H:Fl}{w:World}{o b:Nat}{g:List AV}{j:Nat}{C:Array Value}{E:TypeId}{p:Nat×Nat}{i:Nat}{c:AV}{v:Value}
  (r:H[o]? =some (some g))(t:G.obs[o]? =some j)(I:w.heap[j]? =some (.cells C E p))(J:g[i]? =some c)(O:C[i]? =some v)(P:tok (c,v)=some b):
  0<(HU G H w o).count b:=by
 refine C7.2 ?_;unfold HU;simp only[r,t,I];refine CL.2 ⟨(c,v),AB (i:=i) ?_,P⟩;rw[Bj];exact⟨J,by simpa using O⟩
def Y_{n:Nat}{f:Nat->Nat}(h:0<((An n).map f).sum): ∃o,o<n/\0<f o:=by
 induction n with
 |zero=>simp at h
 | succ n g =>
  rw[B9,Aq,B_]at h;simp only[AW,Ah,B3,CV,BG]at h;by_cases i:0<f n
  ·exact⟨n,Fj,i⟩
  ·obtain⟨o,p,j⟩:=g Fj;exact⟨o,Fj,j⟩
def cg{n:Nat}{f:Nat->Nat}{o:Nat}(h:o<n):f o<=((An n).map f).sum:=by
 induction n with
 |zero=>omega
 |succ n g =>
  rw[B9,Aq,B_];simp only[AW,Ah,B3,CV,BG];by_cases i:o=n
  ·subst i;omega
  ·have:=g Fj ; omega
def KB{n:Nat}{f g:Nat->Nat}(h:∀o,o<n->f o=g o):((An n).map f).sum=((An n).map g).sum:=by
 congr 1;exact List.map_congr_left λo i=>h o (List.mem_range.1 i)
def J4{n:Nat}{f g:Nat->Nat}{d:Nat}(t:d<n)(h:∀o,o<n->o≠d->f o=g o):((An n).map f).sum+g d=((An n).map g).sum+f d:=by
 induction n with
 |zero=>omega
 | succ n p =>
  simp only[B9,Aq,B_,AW,Ah,B3,CV,BG];by_cases j:d=n
  ·subst j;have:((An d).map f).sum=((An d).map g).sum:=KB λo r=>h o Fj Fj;omega
  ·have:=p Fj (λo r i=>h o Fj i);have:=h n Fj (λe=>j e.symm);omega
def AEK{G:Gh}{H:Fl}{w:World}{b:Nat}(h:0<I3 G H w b): ∃o,o<H.length/\0<(HU G H w o).count b:=Y_ h
def tY{G:Gh}{H:Fl}{w:World}{b o:Nat}(g:o<H.length):(HU G H w o).count b<=I3 G H w b:=cg (f:=λo=>(HU G H w o).count b) g
def HRel.tok_of_pos{F:Nat->Prop}{G:Gh}{H:Fl}{w:World}(h:HRel F G H w){b:Nat}(p:0<I3 G H w b):
  ¬F b/\(∃q,G.kind b = .buf q) /\ ∃(C:Array Value) (E:TypeId),w.heap[b]? =some (.cells C E (0,0)):=by
 obtain⟨o,_,r⟩:=AEK p;obtain⟨t,I,C,E,V,i,c,v,J,O,g,P,R,T⟩:=vn r;obtain⟨C',E',j,_,U⟩:=((h.obj o t I J O).of_cells g).2;rw[g]at j;cases j;exact(U i c v P R).2.2.of_tok T
def CRel.split{F:Nat->Prop}{G:Gh}{A B:List AV}{H:Fl}{ua J:List Value}{w:World}(h:CRel F G (A++B) H (ua++J) w)(P:A.length=ua.length):
  CRel (λb=>F b\/0<Hm b B J) G A H ua w:=by
 obtain⟨R,hb⟩:=h.l.split P;have T:∀b,Hm b A ua+Hm b B J+I3 G H w b<=1:=λb=>by have:=h.cnt b;rw[G7 b A ua B J P]at this;exact this
 refine⟨⟨P,R.rel,λi a u j r p U=>?_⟩,⟨h.h.len,λo cs b j r=>?_,h.h.inj,λb g=>?_,h.h.glob⟩,λb=>by have:=T b;omega⟩
 ·refine(Dd (tok p)).elim Gb λ⟨b,hb'⟩=>(R.tok i a u j r p U).keep λO t=>⟨?_,rfl,rfl⟩;have:=NA j r U t;have:=T O;rintro (g|g)
  ·exact((R.tok i a u j r p U).of_tok t).1 g
  ·omega
 ·have V:=h.h.obj o cs b j r;refine V.change ?_ λC E g1 i c v hc1 hv1 I=>?_
  ·rintro (g|g)
   ·exact V.own g
   ·obtain⟨_,⟨q,hq⟩,_⟩:=hb.tok_of_pos g;exact V.no_buf hq
  ·refine I.keep λO t=>⟨?_,rfl,rfl⟩;have h5:=jF j r g1 hc1 hv1 t;have h6:=tY (G:=G) (w:=w) (b:=O) (AD.1 j).1;have:=T O;rintro (g|g)
   ·exact(I.of_tok t).1 g
   ·omega
 ·rcases g with g|g
  ·exact h.h.fore b g
  ·obtain⟨_,_,C,E,hh⟩:=hb.tok_of_pos g;exact(Au.1 hh).1
def HRel.weaken{F j:Nat->Prop}{G:Gh}{H:Fl}{w:World}(h:HRel j G H w)(g:∀b,F b->j b):HRel F G H w:=by
 refine⟨h.len,λo r b t C=>?_,h.inj,λb I=>h.fore b (g b I),h.glob⟩;have p:=h.obj o r b t C;exact p.change (λJ=>p.own (g b J)) λ_ _ _ _ _ _ _ _ i=>i.weaken g
def U2{F o:Nat->Prop}{G p:Gh}{B r:List AV}{I:Fl}{g t:List Value}{w C:World}(R:LRel F G B g w)(J:∀b,Hm b B g<=1)
  (P:∀b,F b->o b)(i:∀b,0<Hm b B g->o b)(T:Ext o G w p C)(h:CRel o p r I t C):CRel F p (r++B) I (t++g) C:=by
 refine⟨(h.l.weaken P).append (R.ext T i),h.h.weaken P,λb=>?_⟩;rw[G7 b r t B g h.l.len];by_cases U:0<Hm b B g
 ·have j:=i b U;have V:¬0<Hm b r t:=λO=>(h.l.tok_of_pos O).1 j;have h2:¬0<I3 p I C b:=λO=>(h.h.tok_of_pos O).1 j;have:=J b;omega
 ·have:=h.cnt b;omega
abbrev GO:=List (Tmp×AV)
def GJ:GO->Tmp->AV
 |[],_ => .undef
 |(k,v)::r,t=>if k=t then v else GJ r t
def HQ(n:Nat)(g:GO):List AV:=(An n).map (GJ g)
def GY:AV->Bool
 |.sl (some _) _=>true
 |_=>false
def AV.owned(a:AV):Bool:=a.flat.any GY
def const1:Value->AV
 |.int k n => .int k n
 |.bool b => .bool b
 |.string s => .str s
 |.pointer none => .nilp
 |.slice none 0 0 => .sl none []
 |.nilFunc => .nilf
 |.map none => .nilm
 |.nilIface => .nili
 |_ => .undef
def TH(g:Option Nat):Value->AV
 |.slice none 0 0 => .sl g []
 |.agg i=>if(i.toList.map const1).all AV.scalar then .agg (i.toList.map const1)else .undef
 |v=>const1 v
def UH(P:Program):Option TypeId->Option Nat
 |some t=>match P.underlying t with
  |some (.slice e)=>some (P.cellsOf e)
  |_=>none
 |none=>none
def Hh(P:Program)(j:Option TypeId)(i:GO):Operand->AV
 |.tmp t=>GJ i t
 |.const v=>TH (UH P j) v
 |.global g=>match glb.lookup g with
  |some o => .cptr o 0
  |none => .undef
 |.func f => .fn (.func f) [] []
def OC(P:Program)(i:Option TypeId)(take:Bool)(x:Operand)(g:GO):AV×GO :=
 match take with
 |true=>(Hh P i g x,match (Hh P i g x).owned,x with
  |true,.tmp t=>(t,(GJ g t).borrow)::g
  |_,_=>g)
 |false=>((Hh P i g x).borrow,g)
def Pb(P:Program)(i:Option TypeId)(take:Bool):List Operand->GO->List AV×GO
 |[],g=>([],g)
 |x::j,g=>((OC P i take x g).1::(Pb P i take j (OC P i take x g).2).1,(Pb P i take j (OC P i take x g).2).2)
def H9(n:Nat)(g:GO):(HQ n g).length=n:=by simp[HQ]
def I0{n t:Nat}(g:GO)(h:t<n):(HQ n g)[t]? =some (GJ g t):=by simp[HQ,h]
def Ua{n t:Nat}(g:GO)(v:AV)(h:t<n):HQ n ((t,v)::g)=(HQ n g).set t v:=by
 apply A6;intro i;by_cases j:i<n
 ·rw[I0 _ j,Az,H9];by_cases o:t=i
  ·subst o;simp[GJ,h]
  ·simp[GJ,o,I0 _ j]
 ·rw[A0 (by rw[H9];omega),A0 (by simp[H9];omega)]
def HF(a:AV)(v:Value):tok (borrow1 a,v)=none:=by cases a<;>rfl
def Ra(a:AV):(borrow0 a).cells=a.cells.map borrow1:=by cases a<;>rfl
def lC(a:AV):a.borrow.flat=a.flat.map borrow1:=by
 cases a with
 |tup g =>
  simp only[AV.borrow,AV.flat,List.flatMap_map,List.map_flatMap];congr 1;funext v;exact Ra v
 |_=>rfl
def M'{a:AV}{v:Value}(h:∀c∈a.flat,∀u,tok (c,u)=none):HY a v=[]:=by
 unfold HY;rw[B5];intro p g;have:=(Ci (show(p.1,p.2)∈a.flat.zip (Io v)from g)).1;exact h p.1 this p.2
def HE(a:AV)(v:Value):HY a.borrow v=[]:=M' λc g u=>by
 rw[lC]at g;obtain⟨d,_,rfl⟩:=AN.1 g;exact HF d u
def Mi{c:AV}(h:GY c=false)(u:Value):tok (c,u)=none:=by
 cases c with
 |sl g i=>cases g with
  |none=>rfl
  |some n=>cases h
 |_=>rfl
def Gs{a:AV}(h:a.owned=false)(v:Value):HY a v=[]:=M' λc g u=>by
 refine Mi ?_ u;have:=List.any_eq_false.1 h c g;simpa using this
def GC{a:AV}{v:Value}(h:HY a v=[])(F:Nat->Prop)(G:Gh)(w:World): ∀p∈L3 a v,Gg F G w p:=λp g =>
 Gb (B5.1 h p g)
def VRel.const1(G:Gh)(w:World)(v:Value):VRel G w (const1 v) v:=by
 unfold Go.AI.const1;split<;>first|exact .int _ _|exact .bool _|exact .str _|exact .nilp|exact .slnil _|exact .nilf|exact .nilm|exact .nili|exact .undef _
def NW(v:Value):GY (const1 v)=false:=by
 unfold Go.AI.const1;split<;>rfl
def VRel.const(G:Gh)(w:World)(g:Option Nat)(v:Value):VRel G w (TH g v) v:=by
 unfold TH;split
 ·exact .slnil _
 ·rename_i o;split
  ·rename_i p;refine .agg _ o F3 (Ao.1 p) (λi c u j r=>?_);rw[Ac]at j;simp only[Af,r,Bb,Option.some.injEq]at j;subst j;exact VRel.const1 G w u
  ·exact .undef _
 ·exact VRel.const1 G w v
def Wf(i:Option Nat)(v:Value):HY (TH i v) v=[]:=by
 unfold TH;split
 ·simp[HY,L3,AV.flat,AV.cells,Io,Value.cells,tok]
 ·split
  ·refine M' λc g u=>?_;simp only[AV.flat,AV.cells]at g;obtain⟨d,_,rfl⟩:=AN.1 g;exact Mi (NW d) u
  ·exact M' λc g u=>by simp only[AV.flat,AV.cells,Ag]at g;subst g;rfl
 ·refine M' λc g u=>?_;rename_i o p;have j:c=const1 v:=by
   revert g
   unfold const1;split<;>simp[AV.flat,AV.cells]
  subst j;exact Mi (NW v) u
def IF(v:Value):HY .undef v=[]:=M' λc g u=>by simp only[AV.flat,AV.cells,Ag]at g;subst g;rfl
def Sg(f:Fn)(a b:List AV)(v:Value):HY (.fn f a b) v=[]:=M' λc g u=>by simp only[AV.flat,AV.cells,Ag]at g;subst g;rfl
def CRel.insert{F:Nat->Prop}{G:Gh}{pre L j:List AV}{H:Fl}{g i:List Value}{w:World}{v:AV}{u:Value}(h:CRel F G (pre++L) H (g++i) w)(o:pre.length=g.length)
  (r:VRel G w v u)(t:∀p∈L3 v u,Gg F G w p)(C:LRel F G j i w)(I:∀b,(HY v u).count b+Hm b j i<=Hm b L i):
  CRel F G (pre++(v::j)) H (g++(u::i)) w:=by
 refine⟨(h.l.split o).1.append (.cons r t C),h.h,λb=>?_⟩;have J:=h.cnt b;have O:=I b;rw[G7 b pre g _ _ o]at J ⊢;rw[Fx];omega
def LRel.set{F:Nat->Prop}{G:Gh}{w:World}{C:List AV}{r:List Value}(h:LRel F G C r w){t:Nat}{v:AV}{u:Value}(I:r[t]? =some u)(J:VRel G w v u)
  (O:∀p∈L3 v u,Gg F G w p):LRel F G (C.set t v) r w:=by
 refine⟨by simp[h.len],λi a x g j=>?_,λi a x g j=>?_⟩<;>rw[Az]at g<;>split at g
 ·rename_i o;subst o;split at g
  ·cases g;rw[I]at j;cases j;exact J
  ·cases g
 ·exact h.rel i a x g j
 ·rename_i o;subst o;split at g
  ·cases g;rw[I]at j;cases j;exact O
  ·cases g
 ·exact h.tok i a x g j
def iF{g:List Value}{t:Nat}{u:Value}(h:g[t]? =some u):g.set t u=g:=by
 apply A6;intro i;rw[Az];split
 ·rename_i j;subst j;rw[h];simp[(AD.1 h).1]
 ·rfl
def Xr {F:Nat->Prop} {G:Gh} {P:Program} {n:Nat} {j:GO} {H:Fl} {w:World} {a:Act} {pre:List AV} {upre:List Value} (I:Option TypeId) (take:Bool) (x:Operand)
  (h:CRel F G (pre++HQ n j) H (upre++a.tmps.toList) w) (V:pre.length=upre.length) (hn:a.tmps.size=n) (R:∀t,n<=t->GJ j t = .undef) :
  CRel F G (pre++((OC P I take x j).1::HQ n (OC P I take x j).2)) H (upre++(a.eval x::a.tmps.toList)) w /\ ∀t,n<=t->GJ (OC P I take x j).2 t = .undef:=by
 have U:=(h.l.split V).2;have hv:VRel G w (Hh P I j x) (a.eval x)/\(∀p∈L3 (Hh P I j x) (a.eval x),Gg F G w p)/\((∃t,x = .tmp t/\t<n)\/HY (Hh P I j x) (a.eval x)=[]):=by
  cases x with
  | tmp t =>
   by_cases r:t<n
   ·have O:a.tmps.toList[t]? =some (a.eval (.tmp t)):=by
     simp[Act.eval,hn,r]
    exact⟨U.rel t _ _ (I0 j r) O,U.tok t _ _ (I0 j r) O,.inl ⟨t,rfl,r⟩⟩
   ·have h0:Hh P I j (.tmp t) = .undef:=R t (B' r);rw[h0];exact⟨.undef _,GC (IF _) F G w,.inr (IF _)⟩
  |const v=>exact⟨VRel.const G w _ v,GC (Wf _ v) F G w,.inr (Wf _ v)⟩
  | global g =>
   simp only[Hh];split
   ·rename_i cs hcs;exact⟨h.h.glob.vrel hcs,GC (Gs rfl _) F G w,.inr (Gs rfl _)⟩
   ·exact⟨.undef _,GC (IF _) F G w,.inr (IF _)⟩
  |func f =>
   refine⟨.fn _ [] [] #[] #[] rfl rfl (λi c v hc=>by simp at hc) (λi c v hc=>by simp at hc),GC (Sg _ _ _ _) F G w,.inr (Sg _ _ _ _)⟩
 obtain⟨J,hv2,hv3⟩:=hv;have C:∀(v:AV),VRel G w v (a.eval x)->HY v (a.eval x)=[] ->
   CRel F G (pre++(v::HQ n j)) H (upre++(a.eval x::a.tmps.toList)) w:=λv g1 g2 =>
  h.insert V g1 (GC g2 F G w) U λb=>by rw[g2];simp
 cases take with
 |false=>exact⟨C _ J.borrow (HE _ _),R⟩
 | true =>
  simp only[OC];split
  ·rename_i t o;have r:t<n:=by
    by_cases r:t<n
    ·exact r
    ·rw[show Hh P I j (.tmp t) = .undef from R t (B' r)]at o;cases o
   have O:a.tmps.toList[t]? =some (a.eval (.tmp t)):=by simp[Act.eval,hn,r]
   refine⟨?_,λt' T=>?_⟩
   ·rw[Ua j _ r];refine h.insert V J hv2 (U.set O J.borrow (GC (HE _ _) F G w)) λb=>?_;have h1:=Wg b (HQ n j) a.tmps.toList t (GJ j t).borrow (GJ j t) (a.eval (.tmp t)) (a.eval (.tmp t)) (I0 j r) O;rw[iF O,HE]at h1;simp only[Bk]at h1;simp only[Hh];omega
   ·simp only[GJ];rw[iN (λe=>by subst e;exact absurd r (Nat.not_lt.2 T))];exact R t' T
  ·rename_i hne;refine⟨C _ J ?_,R⟩;rcases hv3 with⟨t,rfl,r⟩|h3
   ·cases o:(Hh P I j (.tmp t)).owned with
    |false=>exact Gs o _
    |true=>exact absurd rfl (hne t o)
   ·exact h3
def AEx{F:Nat->Prop}{G:Gh}{P:Program}{n:Nat}{H:Fl}{w:World}{a:Act}(j:Option TypeId)(take:Bool)(C:a.tmps.size=n): ∀(o:List Operand) (i:GO) (pre:List AV) (g:List Value),
  CRel F G (pre++HQ n i) H (g++a.tmps.toList) w->pre.length=g.length->(∀t,n<=t->GJ i t = .undef) ->
  CRel F G (pre++((Pb P j take o i).1++HQ n (Pb P j take o i).2)) H (g++(o.map a.eval++a.tmps.toList)) w /\ ∀t,n<=t->GJ (Pb P j take o i).2 t = .undef
 |[],i,pre,g,h,_,p=>⟨h,p⟩
 |x::o,i,pre,g,h,I,p=>by
  obtain⟨O,r⟩:=Xr (P:=P) j take x h I C p;have J:=AEx (P:=P) j take C o (OC P j take x i).2 (pre++[(OC P j take x i).1]) (g++[a.eval x]) (by simpa using O) (by simp[I]) r;simp only[Pb,AW];exact⟨by simpa using J.1,J.2⟩
structure Hint where
 live:List (Nat×List Tmp)
 tk:List Tmp
 mt:List Tmp
 fz:List (Nat×List (Tmp×Option Nat×Bool))
 pc:List Tmp
 gc:List (Nat×Nat)
 dy:List Nat
def Mb(P:Program)(t:TypeId)(i:List AV)(g:Nat):Option AV :=
 match P.underlying t with
 |some (.struct _)|some (.array _ _)=>if g+P.cellsOf t<=i.length then some (.agg ((i.drop g).take (P.cellsOf t)))else none
 |some _=>i[g]?
 |none=>none
def splice(g:List AV)(off:Nat)(i:List AV):List AV:=g.take off++i++g.drop (off+i.length)
def K5(i:BinOp)(a b:AV)(R:AV->Prop):Prop :=
 match a,b with
 |.int k x,.int g y =>
  match i with
  |.shl=>0<=y/\R (.int k (k.wrap (x*2^(min y.toNat k.bits))))
  |.shr=>0<=y/\R (.int k (x.fdiv (2^(min y.toNat k.bits))))
  |.add=>k=g/\R (.int k (k.wrap (x+y)))
  |.sub=>k=g/\R (.int k (k.wrap (x - y)))
  |.mul=>k=g/\R (.int k (k.wrap (x*y)))
  |.quo=>k=g/\y≠0/\R (.int k (k.wrap (x.tdiv y)))
  |.rem=>k=g/\y≠0/\R (.int k (x.tmod y))
  |.and=>k=g/\R (.int k (k.wrap (BitVec.ofInt k.bits x &&& BitVec.ofInt k.bits y).toNat))
  |.or=>k=g/\R (.int k (k.wrap (BitVec.ofInt k.bits x ||| BitVec.ofInt k.bits y).toNat))
  |.xor=>k=g/\R (.int k (k.wrap (BitVec.ofInt k.bits x ^^^ BitVec.ofInt k.bits y).toNat))
  |.andNot=>k=g/\R (.int k (k.wrap (BitVec.ofInt k.bits x &&& ~~~ BitVec.ofInt k.bits y).toNat))
  |.eql=>k=g/\R (.bool (x==y))
  |.neq=>k=g/\R (.bool (x !=y))
  |.lss=>k=g/\R (.bool (decide (x<y)))
  |.leq=>k=g/\R (.bool (decide (x<=y)))
  |.gtr=>k=g/\R (.bool (decide (x>y)))
  |.geq=>k=g/\R (.bool (decide (x≥y)))
 |.str x,.str y =>
  match i with
  |.add=>x.size+y.size<=9223372036854775807/\R (.str (x++y))
  |.eql=>R (.bool (x.toList==y.toList))
  |.neq=>R (.bool !(x.toList==y.toList))
  |.lss=>R (.bool (Op.bytesLess x.toList y.toList))
  |.leq=>R (.bool (Op.bytesLess x.toList y.toList||x.toList==y.toList))
  |.gtr=>R (.bool !(Op.bytesLess x.toList y.toList||x.toList==y.toList))
  |.geq=>R (.bool !(Op.bytesLess x.toList y.toList))
  |_=>False
 |_,_=>False
def AGJ{P:Program}{i:BinOp}{t:TypeId}{a b:AV}{R:AV->Prop}{G:Gh}{w:World}{u v:Value}(h:K5 i a b R)(o:VRel G w a u)(p:VRel G w b v)(x y:Operand):
  ∃c r,R c/\VRel G w c r/\GY c=false/\c.scalar=true/\(do eqGuard i t x y u v;binOp i t u v).run P w = .ok r w:=by
 unfold K5 at h;split at h
 ·rename_i k C J I;cases o;cases p;cases i
  case shl=>exact⟨_,_,h.2,.int _ _,rfl,rfl,by simp[eqGuard,binOp,Op.shift,D9.2 h.1]⟩
  case shr=>exact⟨_,_,h.2,.int _ _,rfl,rfl,by simp[eqGuard,binOp,Op.shift,D9.2 h.1]⟩
  case quo=>obtain⟨rfl,j,g⟩:=h;exact⟨_,_,g,.int _ _,rfl,rfl,by simp[eqGuard,binOp,Op.intDiv,j]⟩
  case rem=>obtain⟨rfl,j,g⟩:=h;exact⟨_,_,g,.int _ _,rfl,rfl,by simp[eqGuard,binOp,Op.intDiv,j]⟩
  case eql=>obtain⟨rfl,g⟩:=h;exact⟨_,_,g,.bool _,rfl,rfl,by simp[eqGuard,binOp,Op.intCmp]⟩
  case neq=>obtain⟨rfl,g⟩:=h;exact⟨_,_,g,.bool _,rfl,rfl,by simp[eqGuard,binOp,Op.intCmp]⟩
  case lss=>obtain⟨rfl,g⟩:=h;exact⟨_,_,g,.bool _,rfl,rfl,by simp[eqGuard,binOp,Op.intCmp]⟩
  case leq=>obtain⟨rfl,g⟩:=h;exact⟨_,_,g,.bool _,rfl,rfl,by simp[eqGuard,binOp,Op.intCmp]⟩
  case gtr=>obtain⟨rfl,g⟩:=h;exact⟨_,_,g,.bool _,rfl,rfl,by simp[eqGuard,binOp,Op.intCmp]⟩
  case geq=>obtain⟨rfl,g⟩:=h;exact⟨_,_,g,.bool _,rfl,rfl,by simp[eqGuard,binOp,Op.intCmp]⟩
  all_goals (obtain⟨rfl,g⟩:=h;exact⟨_,_,g,.int _ _,rfl,rfl,by simp[eqGuard,binOp,Op.intArith,Op.intBits]⟩)
 ·rename_i C I;cases o;cases p;cases i
  case add =>
   refine⟨_,_,h.2,.str _,rfl,rfl, ?_⟩;have:¬(((C.size+I.size:Nat):Int)>IntKind.i64.max):=by
    have:=h.1;have e:IntKind.i64.max=9223372036854775807:=dc;rw[e];omega
   simp[eqGuard,binOp,Op.stringOp];simpa using this
  case eql=>exact⟨_,_,h,.bool _,rfl,rfl,by simp[eqGuard,binOp,Op.stringOp]⟩
  case neq=>exact⟨_,_,h,.bool _,rfl,rfl,by simp[eqGuard,binOp,Op.stringOp]⟩
  case lss=>exact⟨_,_,h,.bool _,rfl,rfl,by simp[eqGuard,binOp,Op.stringOp]⟩
  case leq=>exact⟨_,_,h,.bool _,rfl,rfl,by simp[eqGuard,binOp,Op.stringOp]⟩
  case gtr=>exact⟨_,_,h,.bool _,rfl,rfl,by simp[eqGuard,binOp,Op.stringOp]⟩
  case geq=>exact⟨_,_,h,.bool _,rfl,rfl,by simp[eqGuard,binOp,Op.stringOp]⟩
  all_goals exact h.elim
 ·exact h.elim
def GR(P:Program)(r:Result Next)(K:Value->World->Prop):Prop :=
 match r with
 |.ok (.value u) i=>K u i
 |.ok .skip i=>K Go.undef i
 |.ok (.enter f args) i=>Calls P f args i λe j => ∃u,e = .returned u/\K u j
 |.ok (.round l f o g p) i=>RoundIn Fence.wide 0 P l f o g p i λe j => ∃u,e = .returned u/\K u j
 |_=>False
def GB(F:Nat->Prop)(G:Gh)(w:World)(R:AV->Fl->Prop)(u:Value)(g:World):Prop :=
 ∃v i j,R v i/\CRel F j [v] i [u] g/\Ext F G w j g
section
variable{F:Nat->Prop}{G:Gh}{w:World}{H:Fl}{vals:List AV}{us:List Value}
def CRel.one(h:CRel F G vals H us w){v:AV}{u:Value}(g:VRel G w v u)(i:∀p∈L3 v u,Gg F G w p)(j:∀b,(HY v u).count b<=Hm b vals us):CRel F G [v] H [u] w :=
 ⟨.cons g i (.nil F G w),h.h,λb=>by
  have o:=h.cnt b;have r:=j b;rw[Fx,Gy];omega⟩
def CRel.plain(h:CRel F G vals H us w){v:AV}{u:Value}(i:VRel G w v u)(g:HY v u=[]):CRel F G [v] H [u] w :=
 h.one i (GC g F G w) λb=>by rw[g];simp
def GB.plain{R:AV->Fl->Prop}(h:CRel F G vals H us w){v:AV}{u:Value}(g:R v H)(i:VRel G w v u)(j:HY v u=[]):GB F G w R u w :=
 ⟨v,H,G,g,h.plain i j,.refl F G w⟩
def CRel.get(h:CRel F G vals H us w){i:Nat}{v:AV}{u:Value}(g:vals[i]? =some v)(j:us[i]? =some u):CRel F G [v] H [u] w :=
 h.one (h.l.rel i v u g j) (h.l.tok i v u g j) λb=>NV b vals us i v u g j
def Fu{v:AV}(h:GY v=false)(i:v.scalar=true)(u:Value):HY v u=[]:=M' λc g j=>by
 cases v<;>simp only[AV.flat,AV.cells,Ag]at g<;>first|(subst g;exact Mi h j)|cases i
def gP(G:Gh)(w:World)(g:List AV)(b q:Nat):Prop :=
 ∀(i:Nat) (c:AV),g[i]? =some c->c.scalar=true /\ ∃v,w.cell? ⟨b,q+i,none⟩=some v/\VRel G w c v
def L5{P:Program}{t:TypeId}{d:TypeDesc}(h:P.underlying t=some d): ∃i,P.info? t=some i:=by
 unfold Program.underlying at h;split at h
 ·exact⟨_,‹_›⟩
 ·exact⟨_,‹_›⟩
 ·cases h
def Wn{P:Program}{t:TypeId}{d:TypeDesc}(h:P.underlying t=some d)(w:World):(sizeOf t).run P w = .ok (P.cellsOf t) w:=by
 obtain⟨i,g⟩:=L5 h;simp[sizeOf,typeInfo,g,BU]
def Hk(b q i:Nat):(⟨b,q,none⟩:Addr).add i=⟨b,q+i,none⟩:=by
 unfold Addr.add;split
 ·rename_i h;subst h;rfl
 ·rfl
def J3{α:Type}(l:List α)(g k i:Nat)(j:i<k):((l.drop g).take k)[i]? =l[g+i]?:=by
 rw[Ak,iP j,A4]
def cj{P:Program}{t:TypeId}{U:List AV}{g b q:Nat}{v:AV}(J:Mb P t U g=some v)(hc:gP G w U b q):
  ∃u,(loadVar t ⟨b,q+g,none⟩).run P w = .ok u w/\VRel G w v u/\v.isVal=true /\
   (∀(i:Nat) (c:AV) (x:Value),v.cells[i]? =some c->u.cells[i]? =some x->U[g+i]? =some c/\w.cell? ⟨b,q+(g+i),none⟩=some x)/\v.flat=v.cells/\Io u=u.cells.toList:=by
 have agg:∀d,P.underlying t=some d->(isAgg t).run P w = .ok true w->g+P.cellsOf t<=U.length->v = .agg ((U.drop g).take (P.cellsOf t)) ->
   ∃u,(loadVar t ⟨b,q+g,none⟩).run P w = .ok u w/\VRel G w v u/\v.isVal=true /\
   (∀(i:Nat) (c:AV) (x:Value),v.cells[i]? =some c->u.cells[i]? =some x->U[g+i]? =some c/\w.cell? ⟨b,q+(g+i),none⟩=some x)/\v.flat=v.cells/\Io u=u.cells.toList:=by
  intro d O R C hv;subst hv;have key:∀i,i<P.cellsOf t -> ∃c x,U[g+i]? =some c/\c.scalar=true/\w.cell? ⟨b,q+(g+i),none⟩=some x/\VRel G w c x:=by
   intro i o;have:g+i<U.length:=Fj;obtain⟨T,x,h2,h3⟩:=hc (g+i) U[g+i] (AL this);exact⟨U[g+i],x,AL this,T,h2,h3⟩
  let f:Nat->Value:=λi=>(w.cell? ⟨b,q+(g+i),none⟩).getD Go.undef
  have hf:∀i,i<P.cellsOf t->w.cell? ⟨b,q+(g+i),none⟩=some (f i):=by
   intro i o;obtain⟨c,x,_,_,h,_⟩:=key i o;simp[f,h]
  have hld:=run_loadCells (P:=P) (w:=w) ⟨b,q+g,none⟩ (P.cellsOf t) f (λj hj=>by rw[Hk,AT];exact hf j hj);refine⟨.agg ((An (P.cellsOf t)).map f).toArray, ?_,.agg _ _ IG ?_ ?_,rfl, ?_,rfl,rfl⟩
  ·simp only[loadVar,AK,R,Ad,Wn O,Bc];simp[hld]
  ·intro c hc';obtain⟨i,o⟩:=Ab hc';have p:i<P.cellsOf t:=by
    have:=(AD.1 o).1;simp at this;omega
   rw[J3 _ _ _ _ p]at o;obtain⟨c',x,T,h2,_⟩:=key i p;rw[T]at o;cases o;exact h2
  ·intro i c x o V;have p:i<P.cellsOf t:=by
    have:=(AD.1 o).1;simp at this;omega
   rw[J3 _ _ _ _ p]at o;obtain⟨c',x',T,h2,h3,h4⟩:=key i p;rw[T]at o;cases o;have:x=x':=by
    simp[p]at V;subst V;simp[f,h3]
   subst this;exact h4
  ·intro i c x o V;simp only[AV.cells]at o;simp only[Value.cells]at V;have p:i<P.cellsOf t:=by
    have:=(AD.1 o).1;simp at this;omega
   rw[J3 _ _ _ _ p]at o;refine⟨o, ?_⟩;simp[p]at V;subst V;exact hf i p
 unfold Mb at J;split at J
 ·rename_i fs O;split at J
  ·rename_i C;cases J;exact agg _ O (by simp[isAgg,run_underlying O]) C rfl
  ·cases J
 ·rename_i n e O;split at J
  ·rename_i C;cases J;exact agg _ O (by simp[isAgg,run_underlying O]) C rfl
  ·cases J
 ·rename_i d hns hna O;obtain⟨T,u,h2,h3⟩:=hc g v J;have R:(isAgg t).run P w = .ok false w:=by
   simp only[isAgg,AK,run_underlying O,Ad];cases d<;>first|rfl|exact absurd O (hns _)|exact absurd O (hna _ _)
  have I:v.cells=[v]:=by cases v<;>first|rfl|cases T
  have hflat:v.flat=[v]:=by cases v<;>first|rfl|cases T
  have r:u.cells=#[u]:=by
   cases h3<;>first|rfl|cases T
  have huflat:Io u=[u]:=by cases h3<;>first|rfl|cases T
  have hisv:v.isVal=true:=by cases v<;>first|rfl|cases T
  have e1:v.flat=v.cells:=by rw[hflat,I]
  have e2:Io u=u.cells.toList:=by rw[huflat,r]
  refine⟨u, ?_,h3,hisv, ?_,e1,e2⟩
  ·simp only[loadVar,AK,R,Ad,Bc];simp[h2]
  ·intro i c x o V;rw[I]at o;rw[r]at V;cases i with
   |zero=>simp at o V;subst o;subst V;exact⟨J,h2⟩
   |succ i=>simp at o
 ·cases J
def Vp{j:List AV}{g:Nat}{u:Value}(h:VRel G w (.cptr j g) u): ∃b q,u = .pointer (some ⟨b,q+g,none⟩)/\gP G w j b q:=by
 cases h with
 |cptr j g b q u h p=>exact⟨b,q,rfl,λi c o=>⟨(h i c o).1,u i,(h i c o).2.2,p i c o⟩⟩
def QG{j:List AV}{b:Nat}{p:Array Value}{r:TypeId}{t:Nat×Nat}(I:w.heap[b]? =some (.cells p r t))(h:ORel F G w j b):gP G w j b 0:=by
 obtain⟨C,E,J,T,O⟩:=(h.of_cells I).2;intro i c o;have g:i<C.size:=by have:=(AD.1 o).1;omega
 obtain⟨P,R,_⟩:=O i c C[i] o (Al g);exact⟨P,C[i],by rw[AX,cell_of_row w b i C E _ J,Al g],R⟩
end
end Go.AI
namespace Go.AI
section
variable{P:Program}{F:Nat->Prop}{G:Gh}{w:World}{H:Fl}{R:AV->Fl->Prop}
def uB{a:Addr}{v:Value}(h:w.cell? a=some v):a.block<w.heap.size:=World.block_lt_of_cell? w _ h
def H8(o:Obj){b:Nat}(h:b<w.heap.size):(w.alloc o).heap[b]? =w.heap[b]?:=by
 simp only[World.alloc,Array.getElem?_push];rw[iN (CA h)]
def size_alloc(o:Obj):(w.alloc o).heap.size=w.heap.size+1:=World.size_alloc w o
def Gh.setKind(G:Gh)(b:Nat)(k:Kind):Gh:={ G with kind:=λg=>if g=b then k else G.kind g }
def Gh.kind_set_ne(G:Gh){b g:Nat}(k:Kind)(h:g≠b):(G.setKind b k).kind g=G.kind g:=by simp[Gh.setKind,h]
def Gh.kind_set(G:Gh)(b:Nat)(k:Kind):(G.setKind b k).kind b=k:=by simp[Gh.setKind]
def Gh.safe_set_ne(G:Gh){b g o:Nat}(k:Kind)(h:g≠b):(G.setKind b k).safe g o↔G.safe g o:=by
 unfold Gh.safe;rw[G.kind_set_ne k h]
def Qu(o:Obj)(k:Kind)(t:∀b,F b->b<w.heap.size)(j:List Nat)(J:∀(i b:Nat),G.obs[i]? =some b->j[i]? =some b):
  Ext F G w { (G.setKind w.heap.size k)with obs:=j } (w.alloc o):=by
 refine⟨by rw[size_alloc];omega,⟨J,λb C E g=>?_,λb g _=>⟨by rw[size_alloc];omega,G.kind_set_ne k (CA g)⟩,λb O v P I=>?_⟩,λb g=>?_,λb g=>?_,⟨rfl,rfl,rfl⟩⟩
 ·have:=(Au.1 g).1;exact⟨C,by rw[H8 o this];exact g,rfl⟩
 ·have p:=uB I;have r:b≠w.heap.size:=CA p;exact⟨(G.safe_set_ne k r).2 P,by rw[World.cell?_alloc_lt _ _ _ p];exact I⟩
 ·exact G.kind_set_ne k (CA (t b g))
 ·exact H8 o (t b g)
def HRel.block_lt(h:HRel F G H w){o:Nat}{g:List AV}{b:Nat}(i:H[o]? =some (some g))(j:G.obs[o]? =some b):b<w.heap.size:=by
 exact(h.obj o g b i j).lt
def HRel.ext{t:Gh}{I:World}{F':Nat->Prop}(h:HRel F G H w)(J:Ext F' G w t I)(g:t.obs=G.obs)
  (P:∀b,(∃(o:Nat) (j:List AV),H[o]? =some (some j)/\G.obs[o]? =some b)\/0<I3 G H w b->t.kind b=G.kind b/\I.heap[b]? =w.heap[b]?):HRel F t H I:=by
 refine⟨by rw[g];exact h.len,λo j b p r=>?_,λo V j O b p r h3 h4=>h.inj o V j O b p r (by rw[<- g];exact h3) (by rw[<- g];exact h4),λb hb=>BV (h.fore b hb) J.size,h.glob.keep J.keeps⟩;rw[g]at r;obtain⟨k1,k2⟩:=P b (.inl ⟨o,j,p,r⟩);refine(h.obj o j b p r).keep J.keeps (h.obj o j b p r).own k1 k2 λC E g2 i c v hc hv R=>R.keep λT U=>?_;have hp:=jF p r g2 hc hv U;have hle:=tY (G:=G) (w:=w) (b:=T) (AD.1 p).1;obtain⟨k3,k4⟩:=P T (.inr Fj);exact⟨(R.of_tok U).1,k3,k4⟩
def N4{G':Gh}{j:World}(g:G'.obs=G.obs)(p:∀(o:Nat) (i:List AV) (b:Nat),H[o]? =some (some i)->G.obs[o]? =some b->j.heap[b]? =w.heap[b]?)(b:Nat):I3 G' H j b=I3 G H w b:=by
 refine KB λo I=>?_;congr 1;unfold HU;rw[g];split
 ·rename_i i r t C;rw[p o i r t C]
 ·rfl
def CRel.alloc{j:List AV}{J:List Value}(h:CRel F G j H J w)(o:Obj)(k:Kind):CRel F (G.setKind w.heap.size k) j H J (w.alloc o):=by
 have O:=Qu (F:=F) (G:=G) (w:=w) o k h.h.fore G.obs (λ_ _ h=>h);have g:∀b,b<w.heap.size->(G.setKind w.heap.size k).kind b=G.kind b/\(w.alloc o).heap[b]? =w.heap[b]?:=λb r=>⟨G.kind_set_ne k (CA r),H8 o r⟩;refine⟨⟨h.l.len,λi a u t I=>(h.l.rel i a u t I).keep O.keeps,λi a u t I p P=>(h.l.tok i a u t I p P).keep λb r=>?_⟩,h.h.ext O rfl λb r=>?_,λb=>?_⟩
 ·obtain⟨t1,_,C,E,t3⟩:=(h.l.tok i a u t I p P).of_tok r;exact⟨t1,g b (Au.1 t3).1⟩
 ·rcases r with⟨R,T,t,I⟩|r
  ·exact g b (h.h.block_lt t I)
  ·obtain⟨_,_,C,E,t3⟩:=h.h.tok_of_pos r;exact g b (Au.1 t3).1
 ·rw[N4 (G:=G) (w:=w) (G':=G.setKind w.heap.size k) rfl λR T U t I=>(g U (h.h.block_lt t I)).2];exact h.cnt b
def CRel.draw{g:List AV}{r:List Value}(h:CRel F G g H r w):CRel F G g H r w.drew :=
 have t:Ext F G w G w.drew:=⟨AS _,⟨λ_ _ h=>h,λb C E h=>⟨C,h,rfl⟩,λ_ h _=>⟨h,rfl⟩,λ_ _ _ j o=>⟨j,o⟩⟩,λ_ _=>rfl,λ_ _=>rfl,⟨rfl,rfl,rfl⟩⟩
 ⟨⟨h.l.len,λi a u j o=>(h.l.rel i a u j o).keep t.keeps,λi a u j o p I=>(h.l.tok i a u j o p I).keep λb J=>⟨((h.l.tok i a u j o p I).of_tok J).1,rfl,rfl⟩⟩,
  h.h.ext t rfl λb _=>⟨rfl,rfl⟩,h.cnt⟩
def Ik:Ext F G w G w.drew:=⟨AS _,⟨λ_ _ h=>h,λb C E h=>⟨C,h,rfl⟩,λ_ h _=>⟨h,rfl⟩,λ_ _ _ g i=>⟨g,i⟩⟩,λ_ _=>rfl,λ_ _=>rfl,⟨rfl,rfl,rfl⟩⟩
end
end Go.AI
namespace Go.AI
section
variable{P:Program}{F:Nat->Prop}{G:Gh}{w:World}{H:Fl}{vals:List AV}{us:List Value}
def Lu{α:Type}{l g:List α}{i:Nat}{a:α}(h:l[i]? =some a):(l++g)[i]? =some a:=by
 rw[Aa (AD.1 h).1];exact h
def Gh.newK(G:Gh)(n:Nat)(k:Kind):Gh:={ (G.setKind n k)with obs:=G.obs++[n] }
abbrev Gh.newObj(G:Gh)(n:Nat):Gh:=G.newK n .obj
def Gh.newK_kind_ne(G:Gh){n b:Nat}(k:Kind)(h:b≠n):(G.newK n k).kind b=G.kind b:=G.kind_set_ne k h
def Gh.newObj_kind_ne(G:Gh){n b:Nat}(h:b≠n):(G.newObj n).kind b=G.kind b:=G.kind_set_ne .obj h
def OA(g:∀b,F b->b<w.heap.size)(o:Obj)(k:Kind):Ext F G w (G.newK w.heap.size k) (w.alloc o) :=
 Qu o k g (G.obs++[w.heap.size]) λ_ _ h=>Lu h
def I_(g:∀b,F b->b<w.heap.size)(o:Obj):Ext F G w (G.newObj w.heap.size) (w.alloc o):=OA g o .obj
def YJ(g:List AV):Obj->List Nat
 |.cells C _ _=>(g.zip C.toList).filterMap tok
 |_=>[]
def jG{G:Gh}{H:Fl}{w:World}{o b:Nat}{cs:List AV}{g:Obj}(i:H[o]? =some (some cs))(j:G.obs[o]? =some b)(p:w.heap[b]? =some g):HU G H w o=YJ cs g:=by
 unfold HU YJ;simp only[i,j,p];cases g<;>rfl
def CRel.newG (h:CRel F G vals H us w) (k:Kind) (j:Obj) (R:List AV)
  (his:ORel F (G.newK w.heap.size k) (w.alloc j) R w.heap.size) {vs:List AV} {us':List Value}
  (hv:LRel F (G.newK w.heap.size k) vs us' (w.alloc j)) (hn:∀b,(YJ R j).count b+Hm b vs us'<=Hm b vals us) :
  CRel F (G.newK w.heap.size k) vs (H++[some R]) us' (w.alloc j):=by
 have he:=OA (G:=G) h.h.fore j k;have p:=h.h.len;have I:∀b,b<w.heap.size->(G.newK w.heap.size k).kind b=G.kind b/\(w.alloc j).heap[b]? =w.heap[b]?:=λb J =>
  ⟨G.newK_kind_ne k (CA J),H8 _ J⟩
 have U:(w.alloc j).heap[w.heap.size]? =some j:=heap_alloc_new w j;have T:∀(o b:Nat) (g:List AV),(H++[some R])[o]? =some (some g)->(G.newK w.heap.size k).obs[o]? =some b ->
   (H[o]? =some (some g)/\G.obs[o]? =some b)\/(o=H.length/\g=R/\b=w.heap.size):=by
  intro o b g r t;have hlt:=(AD.1 r).1;simp only[AE,AC,AG]at hlt;by_cases ho:o<H.length
  ·refine .inl ⟨by rw[Aa ho]at r;exact r, ?_⟩;rw[show(G.newK w.heap.size k).obs=G.obs++[w.heap.size]from rfl,Aa Fj]at t;exact t
  ·have:o=H.length:=Fj;subst this;rw[AO Fj]at r;rw[show(G.newK w.heap.size k).obs=G.obs++[w.heap.size]from rfl,AO Fj]at t;simp only[AP,A7,Option.some.injEq]at r;rw[p]at t;simp only[AP,A7,Option.some.injEq]at t;exact .inr ⟨rfl,r.symm,t.symm⟩
 refine⟨hv,⟨?_,λo g b r t=>?_,λo o' cs1 cs2 b r t h3 h4=>?_,λb J=>BV (h.h.fore b J) he.size,h.h.glob.keep he.keeps⟩,λb=>?_⟩
 ·show(G.obs++[w.heap.size]).length=_;simp[p]
 ·rcases T o b g r t with⟨O,P⟩|⟨rfl,rfl,rfl⟩
  ·have J:=h.h.block_lt O P;refine(h.h.obj o g b O P).keep he.keeps (h.h.obj o g b O P).own (I b J).1 (I b J).2 λC E _ i c x hi hx s3=>s3.keep λb' hb'=>?_;obtain⟨t1,_,C2,E2,t3⟩:=s3.of_tok hb';exact⟨t1,I b' (Au.1 t3).1⟩
  ·exact his
 ·rcases T o b cs1 r h3 with⟨O,P⟩|⟨rfl,_,rfl⟩<;>rcases T o' _ cs2 t h4 with⟨g3,g4⟩|⟨rfl,_,J⟩
  ·exact h.h.inj _ _ _ _ _ O g3 P g4
  ·subst J;exact absurd (h.h.block_lt O P) (Bu _)
  ·exact absurd (h.h.block_lt g3 g4) (Bu _)
  ·rfl
 ·have V:I3 (G.newK w.heap.size k) (H++[some R]) (w.alloc j) b=I3 G H w b+(YJ R j).count b:=by
   unfold I3;simp only[AE,AC,AG,AX,B9,Aq,B_,AW,Ah,B3,CV,BG];congr 1
   ·refine KB λo ho=>?_;congr 1;unfold HU;rw[Aa ho,show(G.newK w.heap.size k).obs=G.obs++[w.heap.size]from rfl,Aa Fj];cases O:H[o]? with
    |none=>rfl
    | some x=>cases x with
     |none=>rfl
     |some g=>cases P:G.obs[o]? with
      |none=>rfl
      |some b'=>simp only[(I b' (h.h.block_lt O P)).2]
   ·congr 1;refine jG (b:=w.heap.size) F3 ?_ U;rw[show(G.newK w.heap.size k).obs=G.obs++[w.heap.size]from rfl,AO Fj,p];simp
  rw[V];have r:=h.cnt b;have t:=hn b;omega
def CRel.newObj(h:CRel F G vals H us w)(g:List AV)(C:Array Value)(E:TypeId)(t:g.length<=C.size)
  (I:∀(i:Nat) (c:AV) (v:Value),g[i]? =some c->C[i]? =some v->c.scalar=true/\VRel G w c v/\Gg F G w (c,v))
  (J:∀b,((g.zip C.toList).filterMap tok).count b<=Hm b vals us){v:AV}{u:Value}
  (O:VRel (G.newObj w.heap.size) (w.alloc (.cells C E)) v u)(p:HY v u=[]):
  CRel F (G.newObj w.heap.size) [v] (H++[some g]) [u] (w.alloc (.cells C E)):=by
 have P:=I_ (G:=G) h.h.fore (.cells C E);refine h.newG .obj (.cells C E) g (.row_of (λR=>absurd (h.h.fore _ R) (Bu _)) (G.kind_set _ _) ⟨C,E,heap_alloc_new w (.cells C E),t,λi c x T U=>?_⟩)
  (.cons O (GC p F _ _) (.nil F _ _)) λb=>?_
 ·obtain⟨V,s2,r⟩:=I i c x T U;refine⟨V,s2.keep P.keeps,r.keep λb' o=>?_⟩;obtain⟨t1,_,C2,E2,t3⟩:=r.of_tok o;have j:=(Au.1 t3).1;exact⟨t1,G.newObj_kind_ne (CA j),H8 _ j⟩
 ·rw[Fx,Gy,p,Bk];exact J b
def CRel.setObj (h:CRel F G vals H us w) {o b:Nat} {cs cs':List AV} (ho:H[o]? =some (some cs)) (hb:G.obs[o]? =some b) {C C':Array Value} {E:TypeId} (O:w.heap[b]? =some (.cells C E (0,0)))
  (hsize:C'.size=C.size) (hl:cs'.length<=C'.size)
  (hc:∀(i:Nat) (c:AV) (v:Value),cs'[i]? =some c->C'[i]? =some v->c.scalar=true/\VRel G w c v/\Gg F G w (c,v)) {vs:List AV} {us':List Value}
  (hvs:LRel F G vs us' w)
  (hn:∀x,Hm x vs us'+((cs'.zip C'.toList).filterMap tok).count x<=Hm x vals us+((cs.zip C.toList).filterMap tok).count x) :
  CRel F G vs (H.set o (some cs')) us' (w.setRow b C')/\Ext F G w G (w.setRow b C'):=by
 have P:=((h.h.obj o cs b ho hb).of_cells O).1;have hnF:=(h.h.obj o cs b ho hb).own;have hlen:=h.h.len;have U:o<H.length:=(AD.1 ho).1;have he:Ext F G w G (w.setRow b C'):=by
  refine⟨F3,⟨λ_ _ h=>h,λR C2 E2 I=>?_,λ_ hb' _=>⟨by simpa using hb',rfl⟩,λR off v hs hcell=>⟨hs, ?_⟩⟩,λ_ _=>rfl,λR hb'=>setRow_other w b R C' (λe=>hnF (e▸hb')),⟨rfl,rfl,rfl⟩⟩
  ·by_cases V:R=b
   ·subst V;rw[O]at I;cases I;exact⟨C',setRow_heap w R C C' E _ O,hsize⟩
   ·exact⟨C2,by rw[setRow_other w b R C' V];exact I,rfl⟩
  ·by_cases V:R=b
   ·subst V;simp[Gh.safe,P]at hs
   ·rw[cell_setRow_other w b C' _ V];exact hcell
 have J:∀R,R≠b->(w.setRow b C').heap[R]? =w.heap[R]?:=λR t=>setRow_other w b R C' t;have htokne:∀{p:AV×Value} {x:Nat},Gg F G w p->tok p=some x->x≠b:=λhp hx hxb=>by
  obtain⟨_,⟨q,hq⟩,_⟩:=hp.of_tok hx;rw[hxb,P]at hq;cases hq
 have htk:∀{p:AV×Value},Gg F G w p->Gg F G (w.setRow b C') p:=λhp=>hp.keep λx hx=>⟨(hp.of_tok hx).1,rfl,J x (htokne hp hx)⟩;have hset:∀(r:Nat) (j:List AV),(H.set o (some cs'))[r]? =some (some j)->(r=o/\j=cs')\/(r≠o/\H[r]? =some (some j)):=by
  intro r j I;rw[Az]at I;split at I
  ·rename_i heq;subst heq;simp[U]at I;exact .inl ⟨rfl,I.symm⟩
  ·rename_i t;exact .inr ⟨λe=>t e.symm,I⟩
 have hnew:(w.setRow b C').heap[b]? =some (.cells C' E (0,0)):=setRow_heap w b C C' E _ O;have hinj:∀r j,r≠o->H[r]? =some (some j)->G.obs[r]?≠some b:=λr j t I h3=>t (h.h.inj r o j cs b I ho h3 hb);refine⟨⟨⟨hvs.len,λi a u h1 I=>(hvs.rel i a u h1 I).keep he.keeps,λi a u h1 I p hp=>htk (hvs.tok i a u h1 I p hp)⟩,⟨by simp[hlen],λr j b2 I h3=>?_,λo1 o2 c1 c2 b2 h1 I h3 h4=>?_,λR hF=>by simpa using h.h.fore R hF,h.h.glob.keep he.keeps⟩,λx=>?_⟩,he⟩
 ·rcases hset r j I with⟨rfl,rfl⟩|⟨t,T⟩
  ·rw[hb]at h3;cases h3;refine .row_of hnF P ⟨C',E,hnew,hl,λi c v hi hv=>?_⟩;obtain⟨s1,s2,s3⟩:=hc i c v hi hv;exact⟨s1,s2.keep he.keeps,htk s3⟩
  ·have hbne:b2≠b:=λe=>hinj r j t T (e▸h3);exact(h.h.obj r j b2 T h3).keep he.keeps (h.h.obj r j b2 T h3).own rfl (J b2 hbne) λ_ _ _ _ _ _ _ _ s3=>htk s3
 ·rcases hset o1 c1 h1 with⟨rfl,rfl⟩|⟨hne1,h1'⟩<;>rcases hset o2 c2 I with⟨rfl,rfl⟩|⟨hne2,T⟩
  ·rfl
  ·exact(h.h.inj o2 o1 c2 cs b2 T ho h4 h3).symm
  ·exact h.h.inj o1 o2 c1 cs b2 h1' ho h3 h4
  ·exact h.h.inj o1 o2 c1 c2 b2 h1' T h3 h4
 ·have hone:=J4 (n:=H.length) (d:=o) (f:=λr=>(HU G (H.set o (some cs')) (w.setRow b C') r).count x) (g:=λr=>(HU G H w r).count x) U (λr ho' t=>by
   congr 1;unfold HU;rw[Az,iN (λe=>t e.symm)];cases g1:H[r]? with
   |none=>rfl
   | some x2=>cases x2 with
    |none=>rfl
    |some j=>cases g2:G.obs[r]? with
     |none=>rfl
     |some b2=>simp only[J b2 (λe=>hinj r j t g1 (e▸g2))])
  have e1:HU G (H.set o (some cs')) (w.setRow b C') o=(cs'.zip C'.toList).filterMap tok:=by
   unfold HU;rw[Az,iP rfl,iP U];simp only[hb,hnew]
  have e2:HU G H w o=(cs.zip C.toList).filterMap tok:=by
   unfold HU;simp only[ho,hb,O]
  rw[e1,e2]at hone;have h1:=h.cnt x;have I:=hn x;unfold I3 at h1 ⊢;simp only[Aj];omega
end
end Go.AI
namespace Go.AI
section
variable{P:Program}{F:Nat->Prop}{G:Gh}{w:World}{H:Fl}{vals:List AV}{us:List Value}
def LS{b:Nat}{r X:Obj}(J : ¬ F b)(t:w.heap[b]? =some r)(I : ∀ C E f,r ≠ .cells C E f):Ext F G w G (w.putObj b X):=by
 refine⟨F3,⟨λ_ _ h=>h,λj C E h=>?_,λj g _=>⟨by simpa using g,rfl⟩,λj o v O i=>⟨O, ?_⟩⟩,λ_ _=>rfl,λj g=>World.putObj_heap_other (λe=>J (e▸g)),⟨rfl,rfl,rfl⟩⟩
 ·by_cases e:j=b
  ·subst e;rw[t]at h;cases h;exact absurd rfl (I _ _ _)
  ·exact⟨C,by rw[World.putObj_heap_other e];exact h,rfl⟩
 ·by_cases e:j=b
  ·subst e;unfold World.cell? at i;simp only[t]at i;split at i
   ·rename_i p;cases p;exact absurd rfl (I _ _ _)
   ·cases i
  ·unfold World.cell? at i ⊢;simp only[World.putObj_heap_other e];exact i
def CRel.setSp (h:CRel F G vals H us w) {o b:Nat} {cs cs':List AV} {X:Obj} (ho:H[o]? =some (some cs)) (hb:G.obs[o]? =some b) (hk:(G.kind b).sp=true)
  (hX:∀C E f,X ≠ .cells C E f) (his:ORel F G (w.putObj b X) cs' b) {vs:List AV} {us':List Value} (hvs:LRel F G vs us' w) (hn:∀x,Hm x vs us'<=Hm x vals us) :
  CRel F G vs (H.set o (some cs')) us' (w.putObj b X)/\Ext F G w G (w.putObj b X):=by
 have hr:=h.h.obj o cs b ho hb;have hnF:=hr.own;have hlt:=hr.lt;have hlen:=h.h.len;have P:o<H.length:=(AD.1 ho).1;obtain⟨X0,hX0,hne0⟩:∃X0,w.heap[b]? =some X0 /\ ∀C E f,X0 ≠ .cells C E f:=by
  refine⟨_,Al hlt,λC E f e=>?_⟩;have hkk:=(hr.of_cells ((Al hlt).trans (congrArg some e))).1;rw[hkk]at hk;cases hk
 have he:Ext F G w G (w.putObj b X):=LS hnF hX0 hne0;have I:∀b',b'≠b->(w.putObj b X).heap[b']? =w.heap[b']?:=λb' t=>World.putObj_heap_other t;have hnew:(w.putObj b X).heap[b]? =some X:=World.putObj_heap_same hlt;have V:∀{p:AV×Value} {x:Nat},Gg F G w p->tok p=some x->x≠b:=λhp hx hxb=>by
  obtain⟨_,⟨q,hq⟩,_⟩:=hp.of_tok hx;rw[hxb]at hq;rw[hq]at hk;cases hk
 have htk:∀{p:AV×Value},Gg F G w p->Gg F G (w.putObj b X) p:=λhp=>hp.keep λx hx=>⟨(hp.of_tok hx).1,rfl,I x (V hp hx)⟩;have R:∀(r:Nat) (j:List AV),(H.set o (some cs'))[r]? =some (some j)->(r=o/\j=cs')\/(r≠o/\H[r]? =some (some j)):=by
  intro r j J;rw[Az]at J;split at J
  ·rename_i heq;subst heq;simp[P]at J;exact .inl ⟨rfl,J.symm⟩
  ·rename_i t;exact .inr ⟨λe=>t e.symm,J⟩
 have hinj:∀r j,r≠o->H[r]? =some (some j)->G.obs[r]?≠some b:=λr j t J T=>t (h.h.inj r o j cs b J ho T hb);refine⟨⟨⟨hvs.len,λi a u h1 J=>(hvs.rel i a u h1 J).keep he.keeps,λi a u h1 J p hp=>htk (hvs.tok i a u h1 J p hp)⟩,⟨by simp[hlen],λr j U J T=>?_,λo1 o2 c1 c2 U h1 J T h4=>?_,λb' hF=>by simpa using h.h.fore b' hF,h.h.glob.keep he.keeps⟩,λx=>?_⟩,he⟩
 ·rcases R r j J with⟨rfl,rfl⟩|⟨t,O⟩
  ·rw[hb]at T;cases T;exact his
  ·have hbne:U≠b:=λe=>hinj r j t O (e▸T);exact(h.h.obj r j U O T).keep he.keeps (h.h.obj r j U O T).own rfl (I U hbne) λ_ _ _ _ _ _ _ _ s3=>htk s3
 ·rcases R o1 c1 h1 with⟨rfl,rfl⟩|⟨hne1,h1'⟩<;>rcases R o2 c2 J with⟨rfl,rfl⟩|⟨hne2,O⟩
  ·rfl
  ·exact(h.h.inj o2 o1 c2 cs U O ho h4 T).symm
  ·exact h.h.inj o1 o2 c1 cs U h1' ho T h4
  ·exact h.h.inj o1 o2 c1 c2 U h1' O T h4
 ·have hall:I3 G (H.set o (some cs')) (w.putObj b X) x<=I3 G H w x:=by
   unfold I3;simp only[Aj];have hone:=J4 (n:=H.length) (d:=o) (f:=λr=>(HU G (H.set o (some cs')) (w.putObj b X) r).count x) (g:=λr=>(HU G H w r).count x) P (λr ho' t=>by
    congr 1;unfold HU;rw[Az,iN (λe=>t e.symm)];cases g1:H[r]? with
    |none=>rfl
    | some x2=>cases x2 with
     |none=>rfl
     |some j=>cases g2:G.obs[r]? with
      |none=>rfl
      |some U=>simp only[I U (λe=>hinj r j t g1 (e▸g2))])
   have e1:HU G (H.set o (some cs')) (w.putObj b X) o=[]:=by
    rw[jG (cs:=cs') (b:=b) (by rw[Az,iP rfl,iP P]) hb hnew];cases X<;>first|rfl|exact absurd rfl (hX _ _ _)
   rw[e1]at hone;simp only[Bk]at hone;omega
  have h1:=h.cnt x;have J:=hn x;omega
def CRel.setLoop(h:CRel F G vals H us w){o b:Nat}{st g:Int}{j:List AV}{L:LoopRec}(R:H[o]? =some (some (Hl st j)))(T:G.obs[o]? =some b)(C:G.kind b = .loop L)
  {s':LoopState}{p':Option Code}(hs:NP s' p'=some g):
  ∃r:Loop,w.heap[b]? =some (.loop r)/\NP r.state r.pending=some st/\r.params=L.ps/\r.assign=L.assign/\r.body=L.body /\
   j.length=r.tmps.size/\(∀(i:Nat) (a:AV) (u:Value),j[i]? =some a->r.tmps[i]? =some u->a.borrow=a/\VRel G w a u) /\
   CRel F G vals (H.set o (some (Hl g j))) us (w.putObj b (.loop { r with state:=s',pending:=p' }))/\Ext F G w G (w.putObj b (.loop { r with state:=s',pending:=p' })):=by
 have p:=h.h.obj o _ b R T;have I:=p.lt;have U:=p.is;rw[C]at U;obtain⟨s,pe,t,D,st0,J,V,g2,g3,g4,O⟩:=U;simp only[Hl,List.cons.injEq,AV.tup.injEq,and_true,AV.int.injEq,true_and]at g3;obtain⟨rfl,rfl⟩:=g3;have P:(G.kind b).sp=true:=by rw[C];rfl
 have he:Ext F G w G (w.putObj b (.loop { state:=s',pending:=p',fn:=D.1,tmps:=t,params:=L.ps,assign:=L.assign,body:=L.body,defers:=D.2 })):=LS p.own V (λ_ _ _ e=>by cases e);refine⟨_,V,g2,rfl,rfl,rfl,g4,O, ?_⟩;refine h.setSp R T P (λ_ _ _ e=>by cases e) ⟨p.own, ?_⟩ h.l (λx=>AS _);rw[C];exact⟨s',p',t,D,g,j,World.putObj_heap_same I,hs,rfl,g4,λi a u h1 h2=>⟨(O i a u h1 h2).1,(O i a u h1 h2).2.keep he.keeps⟩⟩
def CRel.drop(h:CRel F G vals H us w)(o:Nat):CRel F G vals (H.set o none) us w:=by
 have i:∀(j:Nat) (C:List AV),(H.set o none)[j]? =some (some C)->H[j]? =some (some C):=λj C t=>by
  rw[Az]at t;split at t
  ·split at t<;>cases t
  ·exact t
 refine⟨h.l,⟨by simp[h.h.len],λj C b J t=>h.h.obj j C b (i j C J) t,λO P R T b U V g3 g4=>h.h.inj O P R T b (i _ _ U) (i _ _ V) g3 g4,h.h.fore,h.h.glob⟩,λx=>?_⟩;have hle:I3 G (H.set o none) w x<=I3 G H w x:=by
  unfold I3;simp only[Aj];by_cases p:o<H.length
  ·have r:=J4 (n:=H.length) (d:=o) (f:=λj=>(HU G (H.set o none) w j).count x) (g:=λj=>(HU G H w j).count x) p (λj ho' I=>by
    congr 1;unfold HU;rw[Az,iN (λe=>I e.symm)])
   have e1:HU G (H.set o none) w o=[]:=by
    unfold HU;rw[Az,iP rfl,iP p]
   rw[e1]at r;simp only[Bk]at r;omega
  ·rw[List.set_eq_of_length_le Fj];exact AS _
 have:=h.cnt x;omega
end
end Go.AI
namespace Go.AI
section
variable{P:Program}{F:Nat->Prop}{G:Gh}{w:World}{H:Fl}{vals:List AV}{us:List Value}
def Hg{g:List AV}{n:Nat}(h:∀e∈g,e.cells.length=n):(Hx g).length=g.length*n:=by
 induction g with
 |nil=>simp[Hx]
 |cons e g j =>
  have o:=h e F3;have i:=j λx p=>h x (by simp[p]);simp only[Hx,BA,AE,AC]at i ⊢;rw[o,i,Nat.succ_mul];omega
def La(g i:List AV):Hx (g++i)=Hx g++Hx i:=by simp[Hx]
def sh(g:Option Nat)(o:List AV)(b q i j:Nat):HY (.sl g o) (.slice (some ⟨b,q,none⟩) i j)=(tok (.sl g o,.slice (some ⟨b,q,none⟩) i j)).toList:=by
 simp only[HY,L3,AV.flat,AV.cells,Io,Value.cells,B6,D_,B7,Cj];cases tok (AV.sl g o,Value.slice (some ⟨b,q,none⟩) i j)<;>rfl
def Rs(g:Option Nat)(o:List AV)(u:Value)(a:Option Addr)(i j:Nat)(p:u = .slice a i j):L3 (.sl g o) u=[(.sl g o,u)]:=by
 subst p;rfl
def CRel.newList (h:CRel F G vals H us w) (g:List AV) (n j:Nat) (C:Array Value) (E:TypeId) (V:0<n) (P : ∀ e∈g,e.cells.length=n) (hl:g.length<=j) (hm:j<=maxLen)
  (R:j*n<=C.size) (hc:∀(i:Nat) (c:AV),(Hx g)[i]? =some c->c.scalar=true /\ ∃v,C[i]? =some v/\VRel G w c v) :
  ∃G',CRel F G' [.sl (some n) g] H [.slice (some ⟨w.heap.size,0,none⟩) g.length j] (w.alloc (.cells C E))/\Ext F G w G' (w.alloc (.cells C E)):=by
 have T:=h.alloc (.cells C E) (.buf (g.length*n));have he:=Qu (F:=F) (G:=G) (w:=w) (.cells C E) (.buf (g.length*n)) h.h.fore G.obs (λ_ _ h=>h);have r:(w.alloc (.cells C E)).heap[w.heap.size]? =some (.cells C E (0,0)):=heap_alloc_new w (.cells C E);have t:∀i,i<(Hx g).length->(G.setKind w.heap.size (.buf (g.length*n))).safe w.heap.size i:=λi I=>by
  rw[Hg P]at I;simp[Gh.safe,Gh.kind_set,I]
 have J:∀(i:Nat) (v:Value),C[i]? =some v->(w.alloc (.cells C E)).cell? ⟨w.heap.size,0+i,none⟩=some v:=λi v hv=>by
  rw[AX,cell_of_row _ _ i C E _ r];exact hv
 let u:Nat->Value:=λi=>(C[i]?).getD Go.undef
 refine⟨_,⟨.cons ?_ (λp O=>?_) (.nil F _ _),T.h,λb=>?_⟩,he⟩
 ·refine .sl (some n) g n w.heap.size 0 j u P (λm hm=>by cases hm;exact⟨rfl,V⟩) hl hm (λi c I=>?_) (λi c I=>?_)
  ·obtain⟨s1,v,U,s3⟩:=hc i c I;refine⟨s1, ?_, ?_⟩
   ·rw[AX];exact t i (AD.1 I).1
   ·rw[J i v U];simp[u,U]
  ·obtain⟨s1,v,U,s3⟩:=hc i c I;have:u i=v:=by simp[u,U]
   rw[this];exact s3.keep he.keeps
 ·rw[Rs _ _ _ _ _ _ rfl]at O;simp only[Ag]at O;subst O;intro _;refine⟨λhF=>absurd (h.h.fore _ hF) (Bu _), ?_,C,E,r,by simpa using R⟩;simp[Gh.kind_set]
 ·rw[Fx,Gy,sh];by_cases hb:b=w.heap.size
  ·subst hb;have h0:¬0<I3 (G.setKind w.heap.size (.buf (g.length*n))) H (w.alloc (.cells C E)) w.heap.size:=λO=>by
    rw[N4 (G:=G) (w:=w) (G':=G.setKind w.heap.size (.buf (g.length*n))) rfl λo' cs b' T h2=>H8 _ (h.h.block_lt T h2)]at O;obtain⟨_,_,C',E',hh⟩:=h.h.tok_of_pos O;exact absurd (Au.1 hh).1 (Bu _)
   have:((tok (AV.sl (some n) g,Value.slice (some ⟨w.heap.size,0,none⟩) g.length j)).toList).count w.heap.size<=1:=by
    refine AJ D' ?_;cases tok (AV.sl (some n) g,Value.slice (some ⟨w.heap.size,0,none⟩) g.length j)<;>simp
   omega
  ·have h0:((tok (AV.sl (some n) g,Value.slice (some ⟨w.heap.size,0,none⟩) g.length j)).toList).count b=0:=by
    refine EA.2 λo=>?_;simp only[tok]at o;split at o
    ·simp at o;exact hb o
    ·simp at o
   have:=T.cnt b;omega
def CRel.appendIn (h:CRel F G vals H us w) {j V:List AV} {n b q r:Nat} {i0:Nat} (hv:vals[i0]? =some (.sl (some n) j)) (hu:us[i0]? =some (.slice (some ⟨b,q,none⟩) j.length r))
  (hroom:j.length+V.length<=r) (hpos:j.length<r) (hxs:∀e∈V,e.cells.length=n) (g:List Value) (hnl:g.length=V.length*n)
  (hnew:∀(i:Nat) (c:AV),(Hx V)[i]? =some c->c.scalar=true /\ ∃v,g[i]? =some v/\VRel G w c v)
  {C:Array Value} {E:TypeId} (hrow:w.heap[b]? =some (.cells C E (0,0))) :
  q+j.length*n+g.length<=C.size /\
  ∃G',CRel F G' [.sl (some n) (j++V)] H [.slice (some ⟨b,q,none⟩) (j.length+V.length) r] (w.setRow b (C.toList.take (q+j.length*n)++g++C.toList.drop (q+j.length*n+g.length)).toArray) /\
   Ext F G w G' (w.setRow b (C.toList.take (q+j.length*n)++g++C.toList.drop (q+j.length*n+g.length)).toArray):=by
 have htok:=h.l.tok i0 _ _ hv hu (.sl (some n) j,.slice (some ⟨b,q,none⟩) j.length r) (by rw[Rs _ _ _ _ _ _ rfl];simp);obtain⟨hnF,t,C2,E2,J,hfit⟩:=htok hpos;replace hnF:¬F b:=hnF;replace t:G.kind b = .buf (q+j.length*n):=t;replace J:w.heap[b]? =some (.cells C2 E2 (0,0)):=J;replace hfit:q+r*n<=C2.size:=hfit;rw[hrow]at J;cases J;have hrel:=h.l.rel i0 _ _ hv hu;have htk0:tok (AV.sl (some n) j,Value.slice (some ⟨b,q,none⟩) j.length r)=some b:=by simp[tok,hpos]
 have hcnt1:0<Hm b vals us:=NA hv hu (p:=(.sl (some n) j,.slice (some ⟨b,q,none⟩) j.length r)) (by rw[Rs _ _ _ _ _ _ rfl];simp) htk0;have hlen:q+j.length*n+g.length<=C.size:=by
  have:=BH n hroom;rw[A1]at this;omega
 refine⟨hlen, ?_⟩;let I:Array Value:=(C.toList.take (q+j.length*n)++g++C.toList.drop (q+j.length*n+g.length)).toArray
 have hC':I=(C.toList.take (q+j.length*n)++g++C.toList.drop (q+j.length*n+g.length)).toArray:=rfl;have hsize:I.size=C.size:=by
  rw[hC'];simp only[Bd,AE,BB,Ck,Bv];omega
 have hlow:∀i,i<q+j.length*n->I[i]? =C[i]?:=λi T=>by
  rw[hC'];simp only[Bl,AF];rw[Aa IG,Ak,iP T];simp
 have hmid:∀i,i<g.length->I[q+j.length*n+i]? =g[i]?:=λi T=>by
  rw[hC'];simp only[Bl,AF];have ht:(C.toList.take (q+j.length*n)).length=q+j.length*n:=IG;rw[AO Fj,ht,A5,Aa T]
 rw[<- hC'];let G':Gh:=G.setKind b (.buf (q+(j.length+V.length)*n))
 have hle:q+j.length*n<=q+(j.length+V.length)*n:=by rw[A1];omega
 have O:(w.setRow b I).heap[b]? =some (.cells I E (0,0)):=setRow_heap w b C I E _ hrow;have he:Ext F G w G' (w.setRow b I):=by
  refine⟨F3,⟨λ_ _ h=>h,λU C2 E2 h2=>?_,λU P hs=>⟨by simpa using P,G.kind_set_ne _ (λe=>by subst e;rw[t]at hs;cases hs)⟩,λU off v hs hcell=>?_⟩,λU P=>G.kind_set_ne _ (λe=>hnF (e▸P)),λU P=>setRow_other w b U I (λe=>hnF (e▸P)),⟨rfl,rfl,rfl⟩⟩
  ·by_cases hbb:U=b
   ·subst hbb;rw[hrow]at h2;cases h2;exact⟨I,O,hsize⟩
   ·exact⟨C2,by rw[setRow_other w b U I hbb];exact h2,rfl⟩
  ·by_cases hbb:U=b
   ·subst hbb;have hs':off<q+j.length*n:=by simpa [Gh.safe,t]using hs
    refine⟨by simp[Gh.safe,G',Gh.kind_set];omega, ?_⟩;rw[cell_of_row _ _ off I E _ O,hlow off hs'];rw[cell_of_row _ _ off C E _ hrow]at hcell;exact hcell
   ·exact⟨(G.safe_set_ne _ hbb).2 hs,by rw[cell_setRow_other w b I _ hbb];exact hcell⟩
 have hh0:I3 G H w b=0:=by have:=h.cnt b;omega
 refine⟨G',⟨.cons ?_ (λp hp=>?_) (.nil F _ _),h.h.ext he rfl λU P=>?_,λx=>?_⟩,he⟩
 · -- the longer list
  cases hrel with
  |slany=>exact absurd hpos F3
  | sl own es' sz U q' cap' u hsz hown hl hm hcs hus =>
   have hn:n=sz:=(hown n rfl).1;have hn0:0<n:=(hown n rfl).2;subst hn;have hcl:=Hg hsz;have hcx:=Hg hxs;let u':Nat->Value:=λi=>if i<j.length*n then u i else(g[i - j.length*n]?).getD Go.undef
   have:=VRel.sl (G:=G') (w:=w.setRow b I) (some n) (j++V) n b q r u' (λe he=>by
     rcases List.mem_append.1 he with h1|h1
     ·exact hsz e h1
     ·exact hxs e h1) (λm hm=>by cases hm;exact⟨rfl,hn0⟩) (by simpa using hroom) hm (λi c T=>?_) (λi c T=>?_)
   ·simpa using this
   ·rw[La]at T;by_cases hlt:i<j.length*n
    ·rw[Aa Fj]at T;obtain⟨s1,s2,s3⟩:=hcs i c T;obtain⟨k1,k2⟩:=he.keeps.safe b (q+i) _ s2 s3;exact⟨s1,k1,by simp only[u',hlt,if_true];exact k2⟩
    ·rw[AO Fj,hcl]at T;obtain⟨s1,v,s2,s3⟩:=hnew _ c T;have hlt2:=(AD.1 T).1;rw[hcx]at hlt2;refine⟨s1, ?_, ?_⟩
     ·simp only[Gh.safe,G',Gh.kind_set,A1];omega
     ·rw[cell_of_row _ _ (q+i) I E _ O];have e:=hmid (i - j.length*n) Fj;rw[show q+j.length*n+(i - j.length*n)=q+i by omega]at e;rw[e];simp only[u',hlt,if_false];rw[s2];rfl
   ·rw[La]at T;by_cases hlt:i<j.length*n
    ·rw[Aa Fj]at T;simp only[u',hlt,if_true];exact(hus i c T).keep he.keeps
    ·rw[AO Fj,hcl]at T;obtain⟨s1,v,s2,s3⟩:=hnew _ c T;simp only[u',hlt,if_false];rw[s2];exact s3.keep he.keeps
 ·rw[Rs _ _ _ _ _ _ rfl]at hp;simp only[Ag]at hp;subst hp;intro _;exact⟨hnF,by simp[G',Gh.kind_set],I,E,O,by show q+r*n<=I.size;omega⟩
 ·have hne:U≠b:=by
   rcases P with⟨o,cs,h1,h2⟩|P
   ·intro e;subst e;exact(h.h.obj o cs U h1 h2).no_buf t
   ·intro e;subst e;omega
  exact⟨G.kind_set_ne _ hne,setRow_other w b U I hne⟩
 ·rw[Fx,Gy,sh];have hhc:I3 G' H (w.setRow b I) x=I3 G H w x:=N4 rfl (λo cs U h1 h2=>setRow_other w b U I λe=>by
   subst e;exact(h.h.obj o cs U h1 h2).no_buf t) x
  rw[hhc];have hcx:=h.cnt x;by_cases hx:x=b
  ·subst hx;have:((tok (AV.sl (some n) (j++V),Value.slice (some ⟨x,q,none⟩) (j.length+V.length) r)).toList).count x<=1:=by
    refine AJ D' ?_;cases tok (AV.sl (some n) (j++V),Value.slice (some ⟨x,q,none⟩) (j.length+V.length) r)<;>simp
   omega
  ·have h0:((tok (AV.sl (some n) (j++V),Value.slice (some ⟨b,q,none⟩) (j.length+V.length) r)).toList).count x=0:=by
    refine EA.2 λR=>?_;simp only[tok]at R;split at R
    ·simp at R;exact hx R
    ·simp at R
   omega
end
end Go.AI
namespace Go.AI
structure Cells (F:Nat->Prop) (G:Gh) (w:World) (cs:List AV) (vs:List Value):Prop where
 len:cs.length=vs.length
 at_:∀(i:Nat) (c:AV) (v:Value),cs[i]? =some c->vs[i]? =some v->c.scalar=true/\VRel G w c v/\Gg F G w (c,v)
def Hd(g:List AV)(i:List Value):List Nat:=(g.zip i).filterMap tok
section
variable{P:Program}{F:Nat->Prop}{G:Gh}{w:World}
def Jr{a b:List AV}{x y:List Value}(h:a.length=x.length):Hd (a++b) (x++y)=Hd a x++Hd b y:=by
 simp[Hd,C8 h]
def Cells.append{a b:List AV}{x y:List Value}(h:Cells F G w a x)(o:Cells F G w b y):Cells F G w (a++b) (x++y):=by
 have p:=h.len;refine⟨by simp[h.len,o.len],λi c v g j=>?_⟩;by_cases r:i<a.length
 ·rw[Aa r]at g;rw[Aa Fj]at j;exact h.at_ i c v g j
 ·rw[AO Fj]at g;rw[AO Fj]at j;exact o.at_ (i - a.length) c v g (by rw[p];exact j)
def Cells.take{o:List AV}{p:List Value}(h:Cells F G w o p)(k:Nat):Cells F G w (o.take k) (p.take k):=by
 refine⟨by simp[h.len],λi c v g j=>?_⟩;rw[Ak]at g j;split at g
 ·rename_i r;rw[iP r]at j;exact h.at_ i c v g j
 ·cases g
def Cells.drop{g:List AV}{j:List Value}(h:Cells F G w g j)(k:Nat):Cells F G w (g.drop k) (j.drop k):=by
 refine⟨by simp[h.len],λi c v o p=>?_⟩;rw[A4]at o p;exact h.at_ (k+i) c v o p
def Cells.nil:Cells F G w [] []:=⟨rfl,λi c v h=>by simp at h⟩
def Cells.map_borrow{j:List AV}{p:List Value}(h:Cells F G w j p):Cells F G w (j.map borrow1) p:=by
 refine⟨by simp[h.len],λi c v g r=>?_⟩;rw[Ac]at g;cases o:j[i]? with
 |none=>rw[o]at g;cases g
 |some d =>
  rw[o]at g;cases g;obtain⟨t,C,_⟩:=h.at_ i d v o r;exact⟨by rw[Gz];exact t,C.borrow1,Gb (HF d v)⟩
def dZ(g:List AV)(i:List Value):Hd (g.map borrow1) i=[]:=by
 unfold Hd;rw[B5];intro p j;have:=(Ci (show(p.1,p.2)∈_ from j)).1;obtain⟨d,_,o⟩:=AN.1 this;rw[show p=(borrow1 d,p.2) by rw[o]];exact HF d p.2
def Ie(i:List Value)(g:Nat)(j:List Value):List Value:=i.take g++j++i.drop (g+j.length)
def NJ{i j:List AV}{g:Nat}(h:g+j.length<=i.length):(splice i g j).length=i.length:=by
 simp[splice];omega
def Cells.splice{g i:List AV}{j o:List Value}{off:Nat}(h:Cells F G w g j)(p:Cells F G w i o):Cells F G w (splice g off i) (Ie j off o):=by
 unfold Go.AI.splice Ie;rw[p.len];exact((h.take off).append p).append (h.drop _)
def QD(i:List AV)(j:List Value)(g k:Nat)(h:i.length=j.length):
  Hd i j=Hd (i.take g) (j.take g)++Hd ((i.drop g).take k) ((j.drop g).take k)++Hd (i.drop (g+k)) (j.drop (g+k)):=by
 have p:i=i.take g++((i.drop g).take k++i.drop (g+k)):=by
  rw[<- A_,A8,A8]
 have r:j=j.take g++((j.drop g).take k++j.drop (g+k)):=by
  rw[<- A_,A8,A8]
 have o:=Jr (a:=i.take g) (b:=(i.drop g).take k++i.drop (g+k)) (x:=j.take g) (y:=(j.drop g).take k++j.drop (g+k)) (by simp[h]);rw[<- p,<- r,Jr (by simp[h])]at o;rw[o,AF]
def Ot{cs xs:List AV}{vs ys:List Value}{off:Nat}(g:cs.length=vs.length)(i:xs.length=ys.length)(b:Nat):
  (Hd (splice cs off xs) (Ie vs off ys)).count b<=(Hd cs vs).count b+(Hd xs ys).count b:=by
 rw[QD cs vs off xs.length g];unfold splice Ie;rw[<- i,Jr (by simp[g,i]),Jr (by simp[g])];simp only[Cm];omega
def lN{cs:List AV}{vs:List Value}{off k:Nat}(i:cs.length=vs.length)(b:Nat)(p:off+k<=cs.length):
  (Hd (splice cs off (((cs.drop off).take k).map borrow1)) vs).count b+(Hd ((cs.drop off).take k) ((vs.drop off).take k)).count b<=(Hd cs vs).count b:=by
 have g:(((cs.drop off).take k).map borrow1).length=k:=IG;have o:vs=vs.take off++(vs.drop off).take k++vs.drop (off+k):=by
  rw[AF,<- A_,A8,A8]
 have e:Hd (splice cs off (((cs.drop off).take k).map borrow1)) vs=Hd (cs.take off) (vs.take off)++Hd (((cs.drop off).take k).map borrow1) ((vs.drop off).take k)++Hd (cs.drop (off+k)) (vs.drop (off+k)):=by
  unfold splice;rw[g];have j:Hd (cs.take off++((cs.drop off).take k).map borrow1++cs.drop (off+k)) (vs.take off++(vs.drop off).take k++vs.drop (off+k))=_ :=
   Jr (by simp[i])
  rw[<- o]at j;rw[j,Jr (by simp[i])]
 rw[e,dZ,QD cs vs off k i];simp only[Cm,Bk];omega
def Cells.unown{i:List AV}{g:List Value}(h:Cells F G w i g)(off k:Nat)(o:off+k<=i.length):Cells F G w (Go.AI.splice i off (((i.drop off).take k).map borrow1)) g:=by
 have j:=h.splice (off:=off) ((h.drop off).take k).map_borrow;have p:=h.len;have e:Ie g off ((g.drop off).take k)=g:=by
  unfold Ie;have:((g.drop off).take k).length=k:=IG;rw[this,AF,<- A_,A8,A8]
 rw[e]at j;exact j
def M2{v:AV}{u:Value}(hv:v.isVal=true)(h:VRel G w v u)(g : ∀ p∈L3 v u,Gg F G w p):Cells F G w v.cells u.cells.toList/\HY v u=Hd v.cells u.cells.toList:=by
 have one:∀(c:AV) (x:Value),c.scalar=true->VRel G w c x->c.cells=[c]->c.flat=[c]->x.cells=#[x]->Io x=[x]->(∀p∈L3 c x,Gg F G w p) ->
   Cells F G w c.cells x.cells.toList/\HY c x=Hd c.cells x.cells.toList:=by
  intro c x P hr h1 h2 h3 h4 h5;rw[h1,h3];refine⟨⟨rfl,λi d y hd hy=>?_⟩, ?_⟩
  ·cases i with
   |zero =>
    simp at hd hy;subst hd;subst hy;exact⟨P,hr,h5 (c,x) (by simp[L3,h2,h4])⟩
   |succ i=>simp at hd
  ·simp[HY,L3,h2,h4,Hd]
 cases h with
 |agg cs vs J P hr =>
  refine⟨⟨by simpa [AV.cells,Value.cells]using J,λi c x hi hx=>?_⟩,rfl⟩;simp only[AV.cells]at hi;simp only[Value.cells,Af]at hx;refine⟨P c (AB hi),hr i c x hi hx,g (c,x) ?_⟩;refine AB (i:=i) ?_;simp only[L3,AV.flat,AV.cells,Io,Value.cells];rw[Bj];exact⟨hi,by simpa using hx⟩
 |undef v=>cases hv
 |tup=>cases hv
 |int k n=>exact one _ _ rfl (.int k n) rfl rfl rfl rfl g
 |bool b=>exact one _ _ rfl (.bool b) rfl rfl rfl rfl g
 |str s=>exact one _ _ rfl (.str s) rfl rfl rfl rfl g
 |nilp=>exact one _ _ rfl .nilp rfl rfl rfl rfl g
 |ptr o j b h R=>exact one _ _ rfl (.ptr o j b h R) rfl rfl rfl rfl g
 |cptr cs j b q u h hu=>exact one _ _ rfl (.cptr cs j b q u h hu) rfl rfl rfl rfl g
 |slnil C=>exact one _ _ rfl (.slnil C) rfl rfl rfl rfl g
 |slany C a=>exact one _ _ rfl (.slany C a) rfl rfl rfl rfl g
 |sl C es T b q I u hsz U J V h hu=>exact one _ _ rfl (.sl C es T b q I u hsz U J V h hu) rfl rfl rfl rfl g
 |msl o j O T b I h J V R=>exact one _ _ rfl (.msl o j O T b I h J V R) rfl rfl rfl rfl g
 |mslc o j O T I b h J V R=>exact one _ _ rfl (.mslc o j O T I b h J V R) rfl rfl rfl rfl g
 |fn f first r fi ca h1 h2 h3 h4=>exact one _ _ rfl (.fn f first r fi ca h1 h2 h3 h4) rfl rfl rfl rfl g
 |nilf=>exact one _ _ rfl .nilf rfl rfl rfl rfl g
 |mapr o b h hb hk=>exact one _ _ rfl (.mapr o b h hb hk) rfl rfl rfl rfl g
 |it o b h hb hk=>exact one _ _ rfl (.it o b h hb hk) rfl rfl rfl rfl g
 |nilm=>exact one _ _ rfl .nilm rfl rfl rfl rfl g
 |yld o b L h hb hk=>exact one _ _ rfl (.yld o b L h hb hk) rfl rfl rfl rfl g
 |ifc t a v P h=>exact one _ _ rfl (.ifc t a v P h) rfl rfl rfl rfl g
 |nili=>exact one _ _ rfl .nili rfl rfl rfl rfl g
def Oe{c:AV}{v:Value}(g:c.scalar=true)(h:VRel G w c v):v.oneCell'=true:=by
 cases h<;>first|rfl|cases g
def Cells.oneCell{g:List AV}{o:List Value}(h:Cells F G w g o): ∀v∈o,v.oneCell'=true:=by
 intro v r;obtain⟨i,p⟩:=Ab r;have j:=(AD.1 p).1;have t:g[i]? =some (g[i]'(by rw[h.len];exact j)):=AL _;obtain⟨C,I,_⟩:=h.at_ i _ v t p;exact Oe C I
def rq{o:List AV}{j:List Value}(h:Cells F G w o j):VRel G w (.agg o) (.agg j.toArray)/\(∀p∈L3 (.agg o) (.agg j.toArray),Gg F G w p)/\HY (.agg o) (.agg j.toArray)=Hd o j:=by
 refine⟨.agg _ _ (by simpa using h.len) (λc C=>?_) (λi c v g r=>(h.at_ i c v g (by simpa using r)).2.1),λp I=>?_,rfl⟩
 ·obtain⟨i,g⟩:=Ab C;have t:=(AD.1 g).1;have r:j[i]? =some (j[i]'(by rw[<- h.len];exact t)):=AL _;exact(h.at_ i c _ g r).1
 ·obtain⟨i,g⟩:=Ab I;simp only[L3,AV.flat,AV.cells,Io,Value.cells]at g;rw[Bj]at g;exact(h.at_ i p.1 p.2 g.1 (by simpa using g.2)).2.2
end
end Go.AI
namespace Go.AI
open Go.MapKept
def UQ:AV->Option Value
 |.agg g=>if g.all (λc=>(Ry c).isSome)=true then some (.agg (g.map λc=>(Ry c).getD Go.undef).toArray)else none
 |c=>Ry c
def Om:AV->AV->Bool
 |.int k n,.int g i=>decide (k=g)&&decide (n=i)
 |.str a,.str b=>decide (a=b)
 |.bool a,.bool b=>a==b
 |_,_=>false
def R8:List AV->List AV->Bool
 |[],[]=>true
 |a::as,b::g=>Om a b&&R8 as g
 |_,_=>false
def If:AV->AV->Bool
 |.agg as,.agg g=>R8 as g
 |a,b=>Om a b
def Xd{a b:AV}{x y:Value}(g:Ry a=some x)(i:Ry b=some y):Om a b=true↔x=y:=by
 cases a<;>cases g<;>cases b<;>cases i<;>simp[Om]
def Xc:∀{as g:List AV},as.all (λc=>(Ry c).isSome)=true->g.all (λc=>(Ry c).isSome)=true ->
  (R8 as g=true↔as.map (λc=>(Ry c).getD Go.undef)=g.map (λc=>(Ry c).getD Go.undef))
 |[],[],_,_=>by simp[R8]
 |[],_::_,_,_=>by simp[R8]
 |_::_,[],_,_=>by simp[R8]
 |a::as,b::g,i,j=>by
  simp only[Am,AQ]at i j;obtain⟨x,o⟩:=Bm.1 i.1;obtain⟨y,p⟩:=Bm.1 j.1;simp only[R8,AQ,AW,List.cons.injEq,Xc i.2 j.2,Xd o p,o,p,BP]
def S3{a:AV}(h:∀g,a ≠ .agg g):UQ a=Ry a:=by cases a<;>first|rfl|exact absurd rfl (h _)
def Qp{a b:AV}{x y:Value}(p:UQ a=some x)(i:UQ b=some y):If a b=true↔x=y:=by
 have agg:∀{g:List AV} {z:Value},UQ (.agg g)=some z->g.all (λc=>(Ry c).isSome)=true/\z = .agg (g.map λc=>(Ry c).getD Go.undef).toArray:=λh=>by
  simp only[UQ]at h;split at h
  ·rename_i C;cases h;exact⟨C,rfl⟩
  ·cases h
 by_cases r:∃g,a = .agg g
 ·obtain⟨g,rfl⟩:=r;obtain⟨I,rfl⟩:=agg p;by_cases j:∃o,b = .agg o
  ·obtain⟨o,rfl⟩:=j;obtain⟨t,rfl⟩:=agg i;simp only[If,Xc I t,Value.agg.injEq];exact⟨λh=>by rw[h],λh=>by simpa using congrArg Array.toList h⟩
  ·rw[S3 (λg h=>j ⟨g,h⟩)]at i;cases b<;>cases i<;>simp[If,Om]
 ·rw[S3 (λg h=>r ⟨g,h⟩)]at p;by_cases j:∃o,b = .agg o
  ·obtain⟨o,rfl⟩:=j;obtain⟨t,rfl⟩:=agg i;cases a<;>cases p<;>simp[If,Om]
  ·rw[S3 (λg h=>j ⟨g,h⟩)]at i;have:If a b=Om a b:=by cases a<;>first|rfl|exact absurd ⟨_,rfl⟩ r
   rw[this];exact Xd p i
def jf{G:Gh}{w:World}{a:AV}{x v:Value}(g:Ry a=some x)(h:VRel G w a v):v=x:=by
 cases a<;>cases g<;>cases h<;>rfl
def Xb{G:Gh}{w:World}{a:AV}{x v:Value}(j:UQ a=some x)(h:VRel G w a v):v=x:=by
 by_cases r:∃g,a = .agg g
 ·obtain⟨g,rfl⟩:=r;cases h with
  | agg g t J T O =>
   simp only[UQ]at j;split at j
   ·rename_i P;cases j;congr 1;apply Bq;apply A6;intro i;simp only[Ac];cases o:g[i]? with
    |none =>
     have:g.length<=i:=List.getElem?_eq_none_iff.1 o;simp only[Option.map_none];exact A0 (by simpa [<- J]using this)
    |some c =>
     have R:=(AD.1 o).1;have C:t[i]? =some (t[i]' Fj):=Al _;have p:=Ao.1 P c (AB o);obtain⟨y,I⟩:=Bm.1 p;rw[Af,C,Bb,I];exact congrArg some (jf I (O i c _ o C))
   ·cases j
 ·rw[S3 (λg h=>r ⟨g,h⟩)]at j;exact jf j h
def AEB{a:AV}{x:Value}(g:UQ a=some x):a.isVal=true:=by
 cases a<;>first|rfl|cases g
structure KLaw (P:Program) (kt:TypeId) (D:Value->Prop):Prop where
 check:∀(w:World) (em:Bool) {v:Value},D v->(Instr.checkKey em 10000 kt v).run P w = .ok () w
 find:∀(w:World) {x:Value},D x -> ∀es:List MapEntry,(∀e∈es,D e.key) ->
  ((Instr.findKey kt x es).run P w = .ok none w /\ ∀e∈es,e.key≠x) \/ ∃j e,(Instr.findKey kt x es).run P w = .ok (some (j,e.val)) w/\es[j]? =some e/\e.key=x
 stays:∀(w:World) {v:Value},D v->(Instr.keyThatStays v v).run P w = .ok v w
def KLaw.plain{P:Program}{t:TypeId}{d:TypeDesc}(g:P.underlying t=some d):KLaw P t (IsKey d) where
 check w C _ i:=run_checkKey g i C 9999
 find w x I J o:=by
  rcases findNow_spec I J 0 o with⟨p,r⟩|⟨j,O,p,r,R⟩
  ·exact .inl ⟨run_findKey g p,r⟩
  ·exact .inr ⟨j,O,by simpa using run_findKey g p,r,R⟩
 stays w _ i:=run_keyThatStays i
def KLaw.wide{P:Program}{g:TypeId}(K:WideMaps.KeyLaw P g):KLaw P g (λv => ∃l,keyOf P g v=some l) where
 check w o _ i:=K.check w o i.choose_spec
 find w x p r j:=K.find w p.choose_spec r j
 stays w _ i:=K.stays w i.choose_spec
def NS(P:Program)(g:TypeId)(i:List AV):Prop:=∃D:Value->Prop,KLaw P g D /\ ∀a∈i,∃v,UQ a=some v/\D v
def Jx(k:AV):List (AV×AV)->Nat->Option (Nat×AV)
 |[],_=>none
 |p::g,i=>if If p.1 k=true then some (i,p.2)else Jx k g (i+1)
def TG(g:List (AV×AV)):Prop:=g.Pairwise λp q=>If p.1 q.1=false
def NO(g:List (AV×AV))(k v:AV):List (AV×AV) :=
 match Jx k g 0 with
 |some (i,_)=>g.set i (k,v)
 |none=>g++[(k,v)]
def tC:List AV->Option (List (AV×AV))
 |[]=>some []
 |[_]=>none
 |a::b::r=>(tC r).map ((a,b) :: ·)
def ACF:List AV->Option (List (AV×AV))
 |[.tup g]=>tC g
 |_=>none
def Wz:∀g:List (AV×AV),tC (g.flatMap λp=>[p.1,p.2])=some g
 |[]=>rfl
 |p::g=>by simp[tC,Wz g]
def U6(g:List (AV×AV)):ACF (Kn g)=some g:=Wz g
def JZ(H:Fl):AV->Option (List (AV×AV))
 |.nilm=>some []
 |.mapr o=>match H[o]? with
  |some (some g)=>ACF g
  |_=>none
 |_=>none
def je(g:Bool)(z:AV):Option (Nat×AV)->AV
 |some (_,v)=>if g=true then .tup [v.borrow,.bool true]else v.borrow
 |none=>if g=true then .tup [z.borrow,.bool false]else z.borrow
def YT{k:AV}: ∀{g:List (AV×AV)} {i:Nat},(∀p∈g,If p.1 k=false)->Jx k g i=none
 |[],_,_=>rfl
 |p::g,i,h=>by
  unfold Jx;rw[iN (by rw[h p F3];simp)];exact YT λq j=>h q (by simp[j])
def mJ{k:AV}: ∀{g:List (AV×AV)} {i j:Nat} {p:AV×AV},g[j]? =some p->If p.1 k=true->(∀(l:Nat) (q:AV×AV),g[l]? =some q->l<j->If q.1 k=false)->Jx k g i=some (i+j,p.2)
 |[],_,_,_,h,_,_=>by simp at h
 |q::g,i,0,p,h,o,_=>by
  simp only[A7,Option.some.injEq]at h;subst h;unfold Jx;rw[iP o];rfl
 |q::g,i,j+1,p,h,o,r=>by
  unfold Jx;rw[iN (by rw[r 0 q rfl Fj];simp),mJ (by simpa using h) o λl t C I=>r (l+1) t (by simpa using C) Fj];rw[AT,CB 1 j]
end Go.AI
namespace Go.AI
def IX(j:Bool)(g:Nat):Nat->List AV->List AV
 | 0,_=>[]
 |k+1,i=>(if j=true then .agg (i.take g)else i.headD .undef)::IX j g k (i.drop g)
def MU(g:Bool)(i:Nat): ∀(k:Nat) (j:List AV),(IX g i k j).length=k
 | 0,_=>rfl
 |k+1,j=>by simp[IX,MU g i k]
def MV{c:AV}(h:c.scalar=true):c.cells=[c]:=by cases c<;>first|rfl|cases h
def QF(j:Bool)(g:Nat)(I:j=true\/g=1): ∀ (k:Nat) (i:List AV),k*g<=i.length->(∀ c∈i,c.scalar=true) ->
  Hx (IX j g k i)=i.take (k*g) /\ ∀e∈IX j g k i,e.cells.length=g
 | 0,i,_,_=>by simp[IX,Hx]
 | k+1,i,O,J=>by
  have r:g+k*g<=i.length:=by rw[A1]at O;omega
  obtain⟨o,P⟩:=QF j g I k (i.drop g) IG λc R=>J c (Df R);have t:(if j=true then AV.agg (i.take g)else i.headD .undef).cells=i.take g/\(i.take g).length=g:=by
   refine⟨?_,IG⟩;by_cases C:j=true
   ·rw[iP C];rfl
   ·rw[iN C];have o:g=1:=I.resolve_left C;subst o;match i,r with
    |c::i,_=>simpa using MV (J c F3)
    |[],h=>simp at h
  refine⟨?_,λe p=>?_⟩
  ·simp only[Hx,IX,BA]at o ⊢;rw[o,t.1,A1,Nat.one_mul,CB (k*g) g,List.take_add]
  ·simp only[IX,List.mem_cons]at p;rcases p with rfl|p
   ·rw[t.1];exact t.2
   ·exact P e p
def IB(P:Program)(f:FuncId):Bool :=
 match P.funcs[f]? with
 |some fn => !(fn.name == "runtime.NumGoroutine")&&fn.body.isSome
 |none=>false
def Fw(P:Program)(f:FuncId)(vs:List AV)(H:Fl)(R:AV->Fl->Prop):Prop :=
 IB P f=true /\ ∀(F:Nat->Prop) (G:Gh) (w:World) (g:List Value),CRel F G vs H g w ->
  Calls P f g.toArray w λe i => ∃u,e = .returned u /\ ∃v j o,R v j/\CRel F o [v] j [u] i/\Ext F G w o i
def OH(P:Program)(o:Nat)(L:LoopRec)(j:List AV)(H:Fl)(R:AV->Fl->Prop):Prop :=
 ∀ (F:Nat->Prop) (G:Gh) (w:World) (i:List Value) (b:Nat),CRel F G j H i w->G.obs[o]? =some b->G.kind b = .loop L ->
  ∃r:Loop,w.heap[b]? =some (.loop r)/\i.length=r.params.size /\
   RoundIn Fence.wide 0 P b r.fn ((r.params.zip i.toArray).foldl (λg (t,a)=>g.setIfInBounds t a) r.tmps) r.assign r.body w λe p => ∃u,e = .returned u/\GB F G w R u p
def GB.mono{F:Nat->Prop}{G:Gh}{w:World}{R i:AV->Fl->Prop}{u:Value}{j:World}(h:GB F G w R u j)(o:∀v g,R v g->i v g):GB F G w i u j :=
 let⟨v,g,p,r,t,C⟩:=h;⟨v,g,p,o _ _ r,t,C⟩
def OH.mono{P:Program}{o:Nat}{L:LoopRec}{g:List AV}{H:Fl}{R i:AV->Fl->Prop}(h:OH P o L g H R)(p:∀v j,R v j->i v j):OH P o L g H i :=
 λF G w t b C I J=>let⟨r,O,T,U⟩:=h F G w t b C I J;⟨r,O,T,RoundIn.mono U λe w' V=>let⟨u,a,b⟩:=V;⟨u,a,b.mono p⟩⟩
def K9(P:Program)(f:FuncId)(g:List AV)(Q:AV->Prop):Prop:=∀H,Fw P f g H λv i=>Q v/\i=H
def Fm(P:Program)(f:FuncId)(g:List AV)(v:AV):Prop:=K9 P f g λi=>i=v
def Hc(H:Fl):Fl:=H.map (Option.map (List.map borrow1))
def QT(P:Program)(f:FuncId)(i:List AV)(H:Fl)(v:AV):Prop:=∀g,Hc g=Hc H->Fw P f i g λj o=>j=v/\o=g
def Fw.mono{P:Program}{f:FuncId}{vs:List AV}{H:Fl}{R i:AV->Fl->Prop}(h:Fw P f vs H R)(j:∀v g,R v g->i v g):Fw P f vs H i :=
 ⟨h.1,λF G w o p=>Calls.mono (h.2 F G w o p) λe O r=>by
  obtain⟨u,rfl,v,g,t,C,I,J⟩:=r;exact⟨u,rfl,v,g,t,j _ _ C,I,J⟩⟩
def Ql(P:Program):Nat->TypeId->List TypeId
 | 0,t=>[t]
 |d+1,t=>match P.underlying t with
  |some (.struct g)=>g.toList.flatMap λf=>Ql P d f.type
  |some (.array n e)=>(As n (Ql P d e)).flatten
  |_=>[t]
def constT(P:Program)(g:Option TypeId)(v:Value):AV :=
 match v with
 |.slice none 0 0 => .sl (UH P g) []
 |v=>const1 v
def F8(P:Program)(t:TypeId):Option AV :=
 match (P.info? t).bind (·.zero)with
 |some (.agg g) =>
  if(g.toList.zipIdx.map λ(c,i)=>constT P (Ql P 20 t)[i]? c).all AV.scalar then some (.agg (g.toList.zipIdx.map λ(c,i)=>constT P (Ql P 20 t)[i]? c))else none
 |some z=>if(constT P (some t) z).scalar then some (constT P (some t) z)else none
 |none=>none
def ADi(P:Program)(t:TypeId):Bool:=match (P.info? t).bind (·.zero)with
 |some (.slice none 0 0)=>true
 |_=>false
def Iz(g:Nat->Option (Nat×Nat))(cells:List AV):List Nat->List AV->Option (List AV)
 |[],[]=>some cells
 |i::is,v::o =>
  match g i with
  |some (j,size)=>if v.isVal=true/\v.cells.length=size/\j+size<=cells.length then Iz g (splice cells j v.cells) is o else none
  |none=>none
 |_,_=>none
def HD(P:Program)(t:TypeId):Bool :=
 match P.info? t with
 |some i=>match i.zero with
  |some z=>z.cells.size==i.size
  |none=>false
 |none=>false
def N'(P:Program)(g:Array Field):Bool:=g.all λf=>(P.info? f.type).isSome
def Jd(P:Program)(g:Array Field):Array (Nat×Nat):=g.map λf=>(f.offset,P.cellsOf f.type)
def P5:AV->Bool
 |.int .u8 _=>true
 |_=>false
def Q1(g:List AV):ByteArray:=⟨(g.map fun
 |.int _ n=>UInt8.ofNat n.toNat
 |_=>0).toArray⟩
def Q2(i j g:Bool)(o:List AV):Option (Option Int×Option Int×Option Int) :=
 match i,j,g,o with
 |false,false,false,[]=>some (none,none,none)
 |true,false,false,[.int _ l]=>some (some l,none,none)
 |false,true,false,[.int _ h]=>some (none,some h,none)
 |true,true,false,[.int _ l,.int _ h]=>some (some l,some h,none)
 |false,true,true,[.int _ h,.int _ m]=>some (none,some h,some m)
 |true,true,true,[.int _ l,.int _ h,.int _ m]=>some (some l,some h,some m)
 |_,_,_,_=>none
def O2(P:Program)(t:TypeId)(x:AV)(g o C:Option Int)(R:AV->Prop):Prop :=
 match P.underlying t,x with
 |some .string,.str s =>
  C=none/\0<=g.getD 0/\g.getD 0<=o.getD s.size/\o.getD s.size<=s.size/\R (.str (s.extract (g.getD 0).toNat (o.getD s.size).toNat))
 | some (.slice e),.sl J p =>
  0<=g.getD 0/\g.getD 0<=o.getD p.length/\o.getD p.length<=p.length/\(∀x∈p,x.cells.length=P.cellsOf e)/\(P.info? e).isSome=true /\
   match C with
   |none=>R (.sl (if o.getD p.length=p.length then J else none) ((p.take (o.getD p.length).toNat).drop (g.getD 0).toNat))
   |some m=>m=o.getD p.length/\0<P.cellsOf e/\R (.sl (some (P.cellsOf e)) ((p.take (o.getD p.length).toNat).drop (g.getD 0).toNat))
 | some (.slice e),.msl O i j r =>
  (0<=g.getD 0/\g.getD 0<=o.getD j/\o.getD j<=j/\r=P.cellsOf e/\(P.info? e).isSome=true/\C=none/\(g.getD 0=0\/g.getD 0<j)) /\
   R (.msl O (i+(g.getD 0).toNat*r) ((o.getD j).toNat - (g.getD 0).toNat) r)
 | some (.slice e),.mslc O i j r c =>
  (0<=g.getD 0/\g.getD 0<=o.getD j/\o.getD j<=c/\r=P.cellsOf e/\(P.info? e).isSome=true/\C=none) /\
   R (if g.getD 0=c/\0<g.getD 0 then .sl none []else .mslc O (i+(g.getD 0).toNat*r) ((o.getD j).toNat - (g.getD 0).toNat) r (c - (g.getD 0).toNat))
 | some (.pointer T),.cptr I i=>g=none/\o=none/\C=none/\match P.underlying T with
   |some (.array n e)=>P.cellsOf e=1/\i+n<=I.length/\n<=9223372036854775807/\R (.sl none ((I.drop i).take n))
   |_=>False
 |some (.array n e),.cptr I i=>(g=none/\o=none/\C=none)/\P.cellsOf e=1/\i+n<=I.length/\n<=9223372036854775807/\R (.sl none ((I.drop i).take n))
 |_,_=>False
def K1(P:Program)(t:TypeId)(x:AV)(i j p:Option Int)(H:Fl)(R:AV->Prop):Prop :=
 match P.underlying t,x with
 | some (.array n e),.ptr o g=>(i=none/\j=none/\p=none)/\n<=9223372036854775807/\(P.info? e).isSome=true /\
   match H[o]? with
   |some (some r)=>g+n*P.cellsOf e<=r.length/\R (.msl o g n (P.cellsOf e))
   |_=>False
 |some (.slice e),.sl _ _=>(i=none/\j=some 0/\p=some 0)/\(P.info? e).isSome=true/\R (.sl (some 0) [])
 |_,_=>False
def TR(P:Program)(t:TypeId):Bool:=match P.underlying t with|some (.struct _)|some (.array _ _)=>true|_=>false
def Xy:List (Option Bool)->Option Bool
 |[]=>some true
 |a::as=>match a,Xy as with
  |some x,some y=>some (x&&y)
  |_,_=>none
def ABW(P:Program):Nat->TypeId->AV->AV->Option Bool
 | 0,_,_,_=>none
 |d+1,t,x,y=>match P.underlying t,x,y with
  |some .bool,.bool a,.bool b=>some (a==b)
  |some (.int _),.int k a,.int o b=>if k=o then some (a==b)else none
  |some .string,.str a,.str b=>some (a.toList==b.toList)
  | some (.struct p),.agg g,.agg j=>if P.stoodInHeld t=true then none else Xy (p.toList.map λf=>if f.name = "_" then none else
    match Mb P f.type g f.offset,Mb P f.type j f.offset with
    |some a,some b=>ABW P d f.type a b
    |_,_=>none)
  | some (.array n e),.agg g,.agg j=>if (P.info? e).isSome=true then Xy ((An n).map λi =>
    match Mb P e g (i*P.cellsOf e),Mb P e j (i*P.cellsOf e)with
    |some a,some b=>ABW P d e a b
    |_,_=>none)else none
  |_,_,_=>none
def K3(P:Program)(t:TypeId)(a b:AV):Option Bool :=
 match P.underlying t,a,b with
 |some .bool,.bool x,.bool y=>some (x==y)
 |some (.pointer _),.nilp,.nilp=>some true
 |some (.pointer _),.ptr _ _,.nilp=>some false
 |some (.pointer _),.nilp,.ptr _ _=>some false
 |some (.pointer _),.cptr _ _,.nilp=>some false
 |some (.pointer _),.nilp,.cptr _ _=>some false
 |some _,.agg g,.agg i=>if P.eqGuardType P.depth t=true then none else ABW P 40 t (.agg g) (.agg i)
 |_,_,_=>none
def KU(P:Program)(g:BinOp)(t:TypeId)(a b:AV)(R:AV->Prop):Prop :=
 match g,K3 P t a b with
 |.eql,some r=>R (.bool r)
 |.neq,some r=>R (.bool !r)
 |_,_=>K5 g a b R
def Le:Operand->Bool
 |.const (.slice none 0 0)=>true
 |_=>false
def Of(P:Program)(g:BinOp)(t:TypeId)(a:AV)(R:AV->Prop):Prop :=
 match P.underlying t with
 |some (.slice _)=>match g,a with
  |.eql,.sl _ []=>R (.bool true)/\R (.bool false)
  |.neq,.sl _ []=>R (.bool true)/\R (.bool false)
  |.eql,.sl _ (_::_)=>R (.bool false)
  |.neq,.sl _ (_::_)=>R (.bool true)
  |.eql,.msl _ _ _ _=>R (.bool false)
  |.neq,.msl _ _ _ _=>R (.bool true)
  |_,_=>False
 |_=>False
def Um(P:Program)(e:TypeId)(rd:Bool)(H:Fl):AV->Option (List AV)
 |.sl _ p=>some p
 |.msl r g i j=>match rd,H[r]? with
  |true,some (some o)=>if g+i*j<=o.length/\j=P.cellsOf e/\(TR P e=true\/j=1)then some (IX (TR P e) j i ((o.drop g).map borrow1))else none
  |_,_=>none
 |_=>none
def O4(P:Program)(e:TypeId)(mt I:Bool)(H:Fl)(a:AV)(i:List AV)(R:AV->Fl->Prop):Prop :=
 (∀ x∈i,x.cells.length=P.cellsOf e)/\match mt,a with
  |false,.sl t C=>t=some (P.cellsOf e)/\(C.length+i.length)*P.bytesOf e<=140737488355328/\C.length+i.length<=9223372036854775807/\R (.sl (bif I then none else some (P.cellsOf e)) (C++i)) H
  | true,.msl p o g r=>o=0/\r=P.cellsOf e/\(g+i.length)*P.bytesOf e<=140737488355328/\g+i.length<=9223372036854775807/\match H[p]? with
    |some (some j)=>j.length=g*r/\j.map borrow1=j/\R (.msl H.length 0 (g+i.length) (P.cellsOf e)) (H.set p none++[some (j++(Hx i).map borrow1)])
    |_=>False
  | true,.mslc p o g r _=>o=0/\r=P.cellsOf e/\(g+i.length)*P.bytesOf e<=140737488355328/\g+i.length<=9223372036854775807/\match H[p]? with
    |some (some j)=>j.length=g*r/\j.map borrow1=j/\R (.msl H.length 0 (g+i.length) (P.cellsOf e)) (H.set p none++[some (j++(Hx i).map borrow1)])
    |_=>False
  |true,.sl (some 0) []=>0<i.length/\i.length*P.bytesOf e<=140737488355328/\i.length<=9223372036854775807/\R (.msl H.length 0 i.length (P.cellsOf e)) (H++[some ((Hx i).map borrow1)])
  |_,_=>False
def Tw(l:List AV):List Int:=l.filterMap λv=>match v with
 |.int .i64 i=>some i
 |_=>none
def SQ(P:Program)(t:TypeId)(H:Fl)(x:AV)(R:AV->Fl->Prop):Prop :=
 match P.underlying t,x with
 |some .string,.str s=>R (.it H.length) (H++[some (Xe s 0)])
 |some (.map _ _),.nilm=>R (.it H.length) (H++[some [.nilm]])
 |some (.map _ _),.mapr g=>match JZ H (.mapr g)with
  |some i=>R (.it H.length) (H++[some (VK g i.length [])])
  |none=>False
 |_,_=>False
def YQ(str:Bool)(H:Fl)(o:Nat)(R:AV->Fl->Prop):Prop :=
 match str,H[o]? with
 |true,some (some [.str s,.int .i64 g]) =>
  if g.toNat<s.size then R (.tup [.bool true,.int .i64 g.toNat,.int .i32 (Utf8.decode s g.toNat).1]) (H.set o (some (Xe s ((g.toNat+(Utf8.decode s g.toNat).2:Nat):Int))))
  else R (.tup [.bool false]) H
 |false,some (some [.nilm])=>R (.tup [.bool false]) H
 |false,some (some [.mapr m,.int .i64 j,.tup seen])=>match JZ H (.mapr m)with
  | some r=>j=r.length/\((∀ i,i<r.length->(i:Int)∈Tw seen)->R (.tup [.bool false]) H) /\
    ∀(i:Nat) (p:AV×AV),r[i]? =some p->(i:Int)∉Tw seen->R (.tup [.bool true,p.1.borrow,p.2.borrow]) (H.set o (some [.mapr m,.int .i64 j,.tup (seen++[.int .i64 i])]))
  |none=>False
 |_,_=>False
def Up(H:Fl)(o:Nat)(R:AV->Fl->Prop):Prop :=
 match H[o]? with
 |some (some [.mapr m,.int .i64 g,.tup seen])=>match JZ H (.mapr m),seen.getLast? with
  |some j,some (.int .i64 i)=>g=j.length /\ ∃p,j[i.toNat]? =some p/\R (.tup [p.1.borrow,p.2.borrow]) H
  |_,_=>False
 |_=>False
def lP(P:Program)(e:TypeId)(H:Fl)(k:Nat):AV->Option (List AV)
 |.sl _ p=>if(∀x∈p,x.cells.length=P.cellsOf e)/\k<=p.length then some ((Hx p).take (k*P.cellsOf e))else none
 |.msl r g i j=>match H[r]? with
  |some (some o)=>if g+k*j<=o.length/\j=P.cellsOf e/\k<=i then some ((o.drop g).take (k*j))else none
  |_=>none
 |.mslc r g i j _=>match H[r]? with
  |some (some o)=>if g+k*j<=o.length/\j=P.cellsOf e/\k<=i then some ((o.drop g).take (k*j))else none
  |_=>none
 |_=>none
def ACY:AV->Option Nat
 |.sl _ i=>some i.length
 |.msl _ _ g _=>some g
 |.mslc _ _ g _ _=>some g
 |_=>none
def qh:AV->Option (Nat×Nat×Nat×Nat×Bool)
 |.msl j g i o=>some (j,g,i,o,false)
 |.mslc j g i o _=>some (j,g,i,o,true)
 |_=>none
def VQ(P:Program)(t:TypeId)(a b:AV)(H:Fl)(R:AV->Fl->Prop):Prop :=
 match P.underlying t,qh a,ACY b with
 | some (.slice e),some (p,g,i,o,r),some n=>match H[p]? with
  |some (some j)=>(o=P.cellsOf e/\(P.info? e).isSome=true/\j.map borrow1=j/\g<=j.length/\(r=true\/g+Nat.min n i*o<=j.length))/\match lP P e H (Nat.min n i) b with
   |some X=>R (.int .i64 (Nat.min n i:Nat)) (H.set p (some (j.take g++X.map borrow1++j.drop (g+Nat.min n i*o))))
   |none=>False
  |_=>False
 |_,_,_=>False
def XFn(P:Program)(f:FuncId):Prop := ∃(fn:Func) (g i e:TypeId),P.funcs[f]? =some fn/\(fn.name == "runtime.NumGoroutine")=false/\fn.body.isNone=true/\Extern.findNext fn=none /\
 Extern.find fn=some (Extern.SlicesOverlaps.overlaps #[g,g] #[i])/\P.underlying g=some (.slice e)/\(P.info? e).isSome=true
def Rc(P:Program)(f:FuncId)(r:List AV)(H:Fl)(v:AV):Prop :=
 match r with
 |[.msl p _ _ _,.mslc g _ i j _]=>p≠g/\XFn P f/\(∃o,H[p]? =some (some o))/\(∃o,H[g]? =some (some o))/\0<i*j/\v = .bool false
 |_=>False
def HC(z:AV)(n:Nat):List AV:=(An (n*z.cells.length)).map λi=>(z.cells[i % z.cells.length]?).getD .undef
def apz(P:Program)(t p:TypeId)(mt:Bool)(a b:AV)(H:Fl)(R:AV->Fl->Prop):Prop :=
 match mt,P.underlying t,P.underlying p,a,b with
 |true,some (.slice e),some (.int _),.mslc r i g j c,.int _ m=>match H[r]? with
  | some (some o) => ∃ z,F8 P e=some z/\(z.cells.length=P.cellsOf e/\HD P e=true/\0<P.cellsOf e/\j=P.cellsOf e/\i+g*j<=o.length/\0<m/\(c:Int)<g+m /\
    (g+m.toNat)*P.bytesOf e<=140737488355328/\g+m.toNat<=9223372036854775807)/\R (.msl H.length 0 (g+m.toNat) (P.cellsOf e)) (H++[some (((o.drop i).take (g*j)).map borrow1++(HC z m.toNat).map borrow1)])
  |_=>False
 |_,_,_,_,_=>False
def GA(P:Program)(h:Hint)(o:Oper)(vals:List AV)(H:Fl)(R:AV->Fl->Prop):Prop :=
 match o.op,vals with
 |.move _,[a]=>R a H
 |.assign _,[a]=>R a H
 |.pick _ _ _,[.bool c,a,b]=>R (if c=true then a else b) H
 |.box _ _,[a]=>a.isVal=true/\R (.ptr H.length 0) (H++[some a.cells])
 |.alloc e,[]=>match o.dst.any h.mt.contains with
  |true=>ADi P e=true/\R (.ptr H.length 0) (H++[some [.sl (some 0) []]])
  |false => ∃z,F8 P e=some z/\R (.ptr H.length 0) (H++[some z.cells])
 |.build t ps,C =>
  match P.underlying t with
  |some (.struct T) => ∃z r,N' P T=true/\F8 P t=some (.agg z)/\Iz ((Jd P T)[·]?) z (ps.toList.map (·.1)) C=some r/\R (.agg r) H
  |some (.array _ e) => ∃z r,(P.info? e).isSome=true/\F8 P t=some (.agg z)/\Iz (λi=>some (i*P.cellsOf e,P.cellsOf e)) z (ps.toList.map (·.1)) C=some r/\R (.agg r) H
  |_=>False
 |.buildSlice t p ps,C =>
  match P.underlying t with
  | some (.slice e)=>0<P.cellsOf e/\p*P.cellsOf e<=16777216/\ps.toList.map (·.1)=An p/\(∀ v∈C,v.isVal=true/\v.cells.length=P.cellsOf e)/\HD P e=true /\
    match o.dst.any h.mt.contains with
    |true=>R (.msl H.length 0 p (P.cellsOf e)) (H++[some (Hx (C.map AV.borrow))])
    |false=>R (.sl (some (P.cellsOf e)) (C.map AV.borrow)) H
  |_=>False
 |.makeSlice t _ _,[.int _ n,.int _ c] =>
  match P.underlying t with
  | some (.slice e)=>n=c/\0<=n/\n*P.bytesOf e<=140737488355328/\n<=9223372036854775807/\(P.info? e).isSome=true /\ ∃ z,F8 P e=some z/\z.cells.length=P.cellsOf e/\0<P.cellsOf e /\
    R (.msl H.length 0 n.toNat (P.cellsOf e)) (H++[some (As n.toNat z.cells).flatten])
  |_=>False
 | .load t _,[.ptr I g] =>
  match H[I]? with
  | some (some r)=>match Mb P t r g with
   |some v=>match o.dst.any h.tk.contains with
    |true=>v.owned=true/\v.scalar=true/\R v (H.set I (some (splice r g (v.cells.map borrow1))))
    |false=>R v.borrow H
   |none=>False
  |_=>False
 |.load t _,[.cptr r g] =>
  match Mb P t r g with
  |some v=>R v.borrow H
  |none=>False
 |.store t _ _,[.ptr I g,v] =>
  match H[I]? with
  |some (some r)=>v.isVal=true/\v.cells.length=P.cellsOf t/\0<P.cellsOf t/\g+P.cellsOf t<=r.length/\R .undef (H.set I (some (splice r g v.cells)))
  |_=>False
 |.nilCheck _,[.ptr I g]=>R (.ptr I g) H
 |.nilCheck _,[.cptr r g]=>R (.cptr r g) H
 |.nilCheck _,[.fn (.func f) a b]=>R (.fn (.func f) a b) H
 |.nilCheck _,[.yld O L]=>R (.yld O L) H
 |.binOp op t _ y _,[a,b]=>match Le y with
  |true=>Of P op t a λv=>R v H
  |false=>KU P op t a b λv=>R v H
 |.unOp op _ _,[a] =>
  match op,a with
  |.neg,.int k n=>R (.int k (k.wrap (0 - n))) H
  |.not,.bool b=>R (.bool !b) H
  |_,_=>False
 |.convert src dst _,[a] =>
  match P.underlying src,P.underlying dst,a with
  |some _,some (.int k),.int _ n=>R (.int k (k.wrap n)) H
  |some .string,some .string,.str s=>R (.str s) H
  |some (.slice e),some .string,.sl _ J=>P.underlying e=some (.int .u8)/\(∀x∈J,P5 x=true)/\R (.str (Q1 J)) H
  |_,_,_=>False
 |.makeFunc fn first _,C=>R (.fn fn (C.take first.size) (C.drop first.size)) H
 | .slice t _ lo hi mx,x::rest =>
  match Q2 lo.isSome hi.isSome mx.isSome rest with
  |some (l,hh,m)=>match o.dst.any h.mt.contains with
   |true=>K1 P t x l hh m H λv=>R v H
   |false=>O2 P t x l hh m λv=>R v H
  |none=>False
 | .fieldAddr s _ f,[x] =>
  match P.underlying s with
  | some (.struct T)=>match T[f]? with
   |some U=>0<P.cellsOf U.type/\match x with
    |.ptr I g=>R (.ptr I (g+U.offset)) H
    |.cptr r g=>R (.cptr r (g+U.offset)) H
    |_=>False
   |none=>False
  |_=>False
 | .field t _ f,[.agg r] =>
  match P.underlying t with
  | some (.struct T)=>match T[f]? with
   |some U=>match Mb P U.type r U.offset with
    |some v=>R v H
    |none=>False
   |none=>False
  |_=>False
 |.extract _ i,[.tup C] => ∃v,C[i]? =some v/\R v H
 |.indexAddr t _ _,[x,.int _ i] =>
  match P.underlying t,x with
  |some (.slice e),.sl _ J=>0<=i /\ ∃v,J[i.toNat]? =some v/\v.cells.length=P.cellsOf e/\0<P.cellsOf e/\R (.cptr v.cells 0) H
  |some (.slice e),.msl I g p V=>0<=i/\i<p/\V=P.cellsOf e/\0<V/\R (.ptr I (g+i.toNat*V)) H
  |some (.array n e),.ptr I g=>0<=i/\i<n/\0<P.cellsOf e/\R (.ptr I (g+i.toNat*P.cellsOf e)) H
  |some (.array n e),.cptr r g=>0<=i/\i<n/\0<P.cellsOf e/\R (.cptr r (g+i.toNat*P.cellsOf e)) H
  |_,_=>False
 |.index t _ _,[x,.int _ i] =>
  match P.underlying t,x with
  |some .string,.str s=>0<=i/\i<s.size/\R (.int .u8 ((s.data[i.toNat]?).getD 0).toNat) H
  |some (.array n e),.agg r=>0<=i/\i<n/\0<P.cellsOf e /\ ∃v,Mb P e r (i.toNat*P.cellsOf e)=some v/\R v H
  |_,_=>False
 |.makeMap _ none,[]=>R (.mapr H.length) (H++[some (Kn [])])
 |.makeMap t (some _),[.int _ _]=>(match P.underlying t with|some (.map _ _)=>true|_=>false)=true/\R (.mapr H.length) (H++[some (Kn [])])
 | .lookup t _ _ ok,[m,k] =>
  match P.underlying t with
  |some (.map kt et)=>match JZ H m with
   |some J=>NS P kt (k::J.map (·.1))/\TG J /\ ∃z,F8 P et=some z/\R (je ok z (Jx k J 0)) H
   |none=>False
  |_=>False
 | .mapUpdate t _ _ _,[.mapr O,k,v] =>
  match P.underlying t with
  |some (.map kt _)=>match JZ H (.mapr O)with
   |some J=>NS P kt (k::J.map (·.1))/\TG J/\v.isVal=true/\R .undef (H.set O (some (Kn (NO J k v))))
   |none=>False
  |_=>False
 |.range t _,[x]=>SQ P t H x R
 |.next _ str,[.it O]=>YQ str H O R
 |.entry _,[.it O]=>Up H O R
 | .call c,C =>
  match c.callee with
  | .builtin .len=>match C with
   |[x]=>match c.argTypes[0]?.bind P.underlying,x with
    |some (.slice _),.sl _ J=>R (.int .i64 J.length) H
    |some (.slice _),.msl _ _ p _=>R (.int .i64 p) H
    |some (.slice _),.mslc _ _ p _ _=>R (.int .i64 p) H
    |some .string,.str s=>R (.int .i64 s.size) H
    |some (.array n _),_=>R (.int .i64 n) H
    |_,_=>False
   |_=>False
  | .builtin .cap=>match C with
   |[.mslc _ _ _ _ cp]=>match c.argTypes[0]?.bind P.underlying with
    |some (.slice _)=>R (.int .i64 cp) H
    |_=>False
   |_=>False
  |.builtin .copy=>match C,c.argTypes.toList with
   |[a,b],[t,_]=>VQ P t a b H R
   |_,_=>False
  | .builtin .clear=>match C,c.argTypes.toList with
   | [.msl I g p V],[t]=>match P.underlying t with
    |some (.slice e)=>match H[I]? with
     |some (some r) => ∃z,F8 P e=some z/\V=z.cells.length/\0<p/\g+p*V<=r.length/\R (.tup []) (H.set I (some (splice r g (HC z p))))
     |_=>False
    |_=>False
   |_,_=>False
  | .builtin .append=>match C,c.argTypes.toList with
   | [a,b],[t,t']=>if t=t' then match P.underlying t with
    |some (.slice e)=>0<P.cellsOf e/\HD P e=true/\match Um P e (o.dst.any h.mt.contains||o.dst.any h.tk.contains) H b with
     |some xs=>O4 P e (o.dst.any h.mt.contains) (o.dst.any h.pc.contains) H a xs R
     |none=>False
    |_=>False
    else apz P t t' (o.dst.any h.mt.contains) a b H R
   |_,_=>False
  |.builtin .min=>match C with
   |[.int k a,.int k' b]=>k=k'/\R (.int k (if b<a then b else a)) H
   |_=>False
  |.builtin .max=>match C with
   |[.int k a,.int k' b]=>k=k'/\R (.int k (if b>a then b else a)) H
   |_=>False
  | .value _=>match C with
   | .fn (.func f) first j::args=>match o.dst.any h.pc.contains with
    |true=>match o.dst.any h.mt.contains with
     |true => ∃v,(QT P f (first.map AV.borrow++args++j.map AV.borrow) H v\/Rc P f (first.map AV.borrow++args++j.map AV.borrow) H v)/\R v H
     |false => ∃v,Fm P f (first.map AV.borrow++args++j.map AV.borrow) v/\R v H
    |false=>match o.dst.any h.mt.contains with
     |true => ∃v ext,Fw P f (first.map AV.borrow++args++j.map AV.borrow) H (λv2 H2=>v2=v/\H2=H++ext)/\R v (H++ext)
     |false=>Fw P f (first.map AV.borrow++args++j.map AV.borrow) H R
   |.yld O L::args=>(o.dst.any h.pc.contains=false/\o.dst.any h.mt.contains=false)/\OH P O L args H R
   |_=>False
  |_=>False
 |_,_=>False
def GU(h:Hint)(o:Oper):Bool :=
 match o.op with
 |.move _=>o.dst.any h.tk.contains
 |.assign _ | .box _ _ | .build _ _ | .store _ _ _ | .slice _ _ _ _ _=>true
 |.call c=>match c.callee with
  |.builtin .append=>true
  |.value _=>true
  |_=>false
 |_=>false
def IA(o:Oper):Option TypeId :=
 match o.op with
 |.move _ | .assign _=>some o.type
 |.store t _ _=>some t
 |_=>none
section
variable{P:Program}{F:Nat->Prop}{G:Gh}{w:World}{H:Fl}{R:AV->Fl->Prop}{ρ:Operand->Value}
def GR.value{K:Value->World->Prop}{r:Result Next}{u:Value}{w':World}(g:r = .ok (.value u) w')(h:K u w'):GR P r K:=by subst g;exact h
def GB.same{v:AV}{u:Value}(h:CRel F G [v] H [u] w)(g:R v H):GB F G w R u w:=⟨v,H,G,g,h,.refl F G w⟩
def AHr{c a b:Operand}{g:Bool}{x y:AV}(h:CRel F G [.bool g,x,y] H [ρ c,ρ a,ρ b] w)(o:R (if g=true then x else y) H):
  GR P ((do pure (Next.value (if<-asBool (ρ c)then ρ a else ρ b)):Sem Next).run P w) (GB F G w R):=by
 have j:=h.l.rel 0 _ _ rfl rfl;generalize ρ c=p at *;cases j;cases g
 ·exact .value (by simp[asBool]) (GB.same (h.get (i:=2) rfl rfl) o)
 ·exact .value (by simp[asBool]) (GB.same (h.get (i:=1) rfl rfl) o)
def Ve{x:Value}{i g:Nat}(h:CRel F G [.ptr i g] H [x] w)(j:R (.ptr i g) H): ∃a,x = .pointer (some a)/\GB F G w R x w:=by
 have o:=h.l.rel 0 _ _ rfl rfl;cases o;exact⟨_,rfl,.same h j⟩
def UC{x:Value}{i:List AV}{g:Nat}(h:CRel F G [.cptr i g] H [x] w)(j:R (.cptr i g) H): ∃a,x = .pointer (some a)/\GB F G w R x w:=by
 have o:=h.l.rel 0 _ _ rfl rfl;cases o;exact⟨_,rfl,.same h j⟩
def Ph(d:Nat){t e:TypeId}(a:Option Addr)(h:P.underlying t=some (.pointer e)):(Op.equalIn (d+1) t (.pointer none) (.pointer a)).run P w = .ok a.isNone w:=by
 simp[Op.equalIn,run_underlying h]
def PL(d:Nat){t e:TypeId}(a:Addr)(h:P.underlying t=some (.pointer e)):(Op.equalIn (d+1) t (.pointer (some a)) (.pointer none)).run P w = .ok false w:=by
 simp[Op.equalIn,run_underlying h]
def L7{t e:TypeId}(a:Option Addr)(h:P.underlying t=some (.pointer e)):(Op.equal t (.pointer none) (.pointer a)).run P w = .ok a.isNone w:=Ph 9999 a h
def Nk{t e:TypeId}(a:Addr)(h:P.underlying t=some (.pointer e)):(Op.equal t (.pointer (some a)) (.pointer none)).run P w = .ok false w:=PL 9999 a h
def jJ{k:IntKind}{n:Int}{x:Value}(h:CRel F G [.int k n] H [x] w)(g:R (.int k (k.wrap (0 - n))) H):
  GR P ((do let v<-Op.unary .neg x;pure (Next.value v):Sem Next).run P w) (GB F G w R):=by
 have i:=h.l.rel 0 _ _ rfl rfl;cases i;exact .value (by simp[Op.unary,Op.intArith]) (GB.plain h g (.int _ _) (Fu rfl rfl _))
def jI{b:Bool}{x:Value}(h:CRel F G [.bool b] H [x] w)(g:R (.bool !b) H):
  GR P ((do let v<-Op.unary .not x;pure (Next.value v):Sem Next).run P w) (GB F G w R):=by
 have i:=h.l.rel 0 _ _ rfl rfl;cases i;exact .value (by simp[Op.unary]) (GB.plain h g (.bool _) (Fu rfl rfl _))
def W8{src g:TypeId}{d:TypeDesc}{k i:IntKind}{n:Int}{x:Value}(h:CRel F G [.int i n] H [x] w)(j:P.underlying src=some d)(o:P.underlying g=some (.int k))(p:R (.int k (k.wrap n)) H):
  GR P ((do let v<-convert src g x;pure (Next.value v):Sem Next).run P w) (GB F G w R):=by
 have r:=h.l.rel 0 _ _ rfl rfl;cases r;exact .value (by simp[convert,run_underlying j,run_underlying o,Conv.intToInt]) (GB.plain h p (.int _ _) (Fu rfl rfl _))
def W7{src g:TypeId}{d:TypeDesc}{s:ByteArray}{x:Value}(h:CRel F G [.str s] H [x] w)(i:P.underlying src=some d)(j:P.underlying g=some .string)(o:R (.str s) H):
  GR P ((do let v<-convert src g x;pure (Next.value v):Sem Next).run P w) (GB F G w R):=by
 have p:=h.l.rel 0 _ _ rfl rfl;cases p;exact .value (by simp[convert,run_underlying i,run_underlying j]) (GB.plain h o (.str _) (Fu rfl rfl _))
def jM{fn:Fn}{first captured:List Operand}{j:List AV}(h:CRel F G j H ((first++captured).map ρ) w)(p:R (.fn fn (j.take first.length) (j.drop first.length)) H):
  GR P ((do let v<-Instr.makeFunc fn (first.map ρ).toArray (captured.map ρ).toArray;pure (Next.value v):Sem Next).run P w) (GB F G w R):=by
 have r:=h.l.len;simp only[Ap,AE]at r;refine .value (u:=.func fn (first.map ρ).toArray (captured.map ρ).toArray) (w':=w) (by simp[Instr.makeFunc]) (GB.plain h p (.fn fn _ _ _ _ IG IG  (λi c v g o=>?_) (λi c v g o=>?_)) (Sg _ _ _ _))
 ·rw[Ak]at g;split at g
  ·rename_i t;refine h.l.rel i c v g ?_;rw[Aq,Aa (by simpa using t)];simpa using o
  ·cases g
 ·rw[A4]at g;refine h.l.rel _ c v g ?_;rw[Aq,AO F3];simpa using o
def KV{v:AV}{u:Value}(g:v.isVal=true)(h:VRel G w v u):v.flat=v.cells/\Io u=u.cells.toList/\v.cells.length=u.cells.size:=by
 cases h<;>first|exact⟨rfl,rfl,rfl⟩|exact⟨rfl,rfl,‹_›⟩|cases g
def Qg{v:AV}{u:Value}(g:v.isVal=true)(h:VRel G w v u):L3 v u=v.cells.zip u.cells.toList:=by
 obtain⟨i,j,_⟩:=KV g h;rw[L3,i,j]
def pL{o:List AV}{i:Nat}{x:Value}{v:AV}(h:CRel F G [.tup o] H [x] w)(I:o[i]? =some v)(hr:R v H):
  GR P ((do let r<-Instr.extract x i;pure (Next.value r):Sem Next).run P w) (GB F G w R):=by
 have hx:=h.l.rel 0 _ _ rfl rfl;have ht:=h.l.tok 0 _ _ rfl rfl;cases hx with
 | tup o g hl hs J =>
  have O:=(AD.1 I).1;have hu:g[i]? =some (g[i]' Fj):=Al _;have hv:=J i v _ I hu;have T:v.isVal=true:=hs v (AB I);have t:∀(j:Nat) (c:AV) (d:Value),o[j]? =some c->g[j]? =some d->c.cells.length=d.cells.size:=by
   intro j c d h1 h2;exact(KV (hs c (AB h1)) (J j c d h1 h2)).2.2
  have C:∃pre post,L3 (.tup o) (.tuple g)=pre++(L3 v g[i]++post):=by
   have e1:o=o.take i++v::o.drop (i+1):=by
    have:o[i]=v:=by rw[AL O]at I;exact Option.some.inj I
    rw[<- this,<- BI O,A8]
   have U:i<g.toList.length:=IG;have e2:g.toList=g.toList.take i++g.toList[i]::g.toList.drop (i+1):=by
    rw[<- BI U,A8]
   have V:∀n,((o.take n).flatMap AV.cells).length=((g.toList.take n).flatMap λv=>v.cells.toList).length:=by
    intro n;induction n with
    |zero=>rfl
    | succ n ih =>
     by_cases hn:n<o.length
     ·have hn2:n<g.toList.length:=IG;rw[EB hn,EB hn2];simp only[C9,AE,ih,BA,List.flatMap_nil,List.append_nil];have:=t n o[n] g[n] (AL hn) (Al Fj);simp only[EC,Bv];omega
     ·rw[Be Fj,Be IG];rw[Be Fj,Be IG]at ih;exact ih
   refine⟨((o.take i).flatMap AV.cells).zip ((g.toList.take i).flatMap λv=>v.cells.toList),((o.drop (i+1)).flatMap AV.cells).zip ((g.toList.drop (i+1)).flatMap λv=>v.cells.toList), ?_⟩;have hci:v.cells.length=g.toList[i].cells.toList.length:=by
    have:=t i v g[i] I hu;simpa using this
   rw[Qg T hv];show(o.flatMap AV.cells).zip (g.toList.flatMap λv=>v.cells.toList)=_
   conv=>lhs;rw[e1,e2]
   simp only[C9,BA];rw[C8 (V i),C8 hci];simp only[EC]
  obtain⟨pre,post,C⟩:=C;refine .value (u:=g[i]) (w':=w) (by simp[Instr.extract,hu]) (GB.same (h.one hv (λp hp=>ht p (by rw[C];simp[hp])) λb=>?_) hr);rw[Fx];unfold HY;rw[C];simp only[List.filterMap_append,Cm];omega
end
end Go.AI
namespace Go.AI
section
variable{P:Program}{F:Nat->Prop}{G:Gh}{w:World}{H:Fl}{R:AV->Fl->Prop}
def HG{t:TypeId}(h:0<P.cellsOf t)(w:World):(sizeOf t).run P w = .ok (P.cellsOf t) w:=by
 unfold BU at h ⊢;cases g:P.info? t with
 |none=>rw[g]at h;simp at h
 |some i=>simp[sizeOf,typeInfo,g]
def NI(b q k:Nat):(⟨b,q,none⟩:Addr).add k=⟨b,q+k,none⟩:=Hk b q k
def Wo{g:Field}(h:0<P.cellsOf g.type)(b q:Nat)(w:World):(fieldPlace ⟨b,q,none⟩ g).run P w = .ok ⟨b,q+g.offset,none⟩ w:=by
 simp only[fieldPlace,AK,HG h,Ad,Bc];rw[iN Fj];simp[NI]
def cW {s f:Nat} {I:Array Field} {i:Field} {x:AV} {u:Value} (h:CRel F G [x] H [u] w) (J:P.underlying s=some (.struct I)) (O:I[f]? =some i) (T:0<P.cellsOf i.type)
  (p:match (generalizing:=false) x with
    |.ptr U g=>R (.ptr U (g+i.offset)) H
    |.cptr t g=>R (.cptr t (g+i.offset)) H
    |_=>False) :
  GR P ((do let r<-Instr.fieldAt s u f;pure (Next.value r):Sem Next).run P w) (GB F G w R):=by
 have V:=h.l.rel 0 _ _ rfl rfl;have j:∀b q,(Instr.fieldAt s (.pointer (some ⟨b,q,none⟩)) f).run P w = .ok (.pointer (some ⟨b,q+i.offset,none⟩)) w:=λb q=>by
  simp[Instr.fieldAt,run_underlying J,O,Instr.sureAddr,Wo T]
 cases V with
 |ptr o g b hb C=>exact .value (by rw[AK,j];rfl) (GB.plain h p (.ptr _ _ b hb C) (Fu rfl rfl _))
 |cptr t g b q u' h1 h2=>exact .value (by rw[AK,j];rfl) (GB.plain h p (by rw[AT];exact .cptr t _ b q u' h1 h2) (Fu rfl rfl _))
 |_=>exact p.elim
def ip{t:TypeId}{r:List AV}{o:Array Value}{g:Nat}{v:AV}(hc:Cells F G w r o.toList)(p:Mb P t r g=some v):
  ∃u,(part t o g).run P w = .ok u w/\VRel G w v u/\v.isVal=true/\v.cells=(r.drop g).take v.cells.length/\u.cells.toList=(o.toList.drop g).take v.cells.length/\g+v.cells.length<=r.length:=by
 have i:=hc.len;have agg:(isAgg t).run P w = .ok true w -> ∀d,P.underlying t=some d->g+P.cellsOf t<=r.length->v = .agg ((r.drop g).take (P.cellsOf t)) ->
   ∃u,(part t o g).run P w = .ok u w/\VRel G w v u/\v.isVal=true/\v.cells=(r.drop g).take v.cells.length/\u.cells.toList=(o.toList.drop g).take v.cells.length/\g+v.cells.length<=r.length:=by
  intro ha d C hle hv;subst hv;have hk:((r.drop g).take (P.cellsOf t)).length=P.cellsOf t:=IG;have e:(o.extract g (g+P.cellsOf t))=((o.toList.drop g).take (P.cellsOf t)).toArray:=by
   apply Bq;simp[Array.toList_extract,List.extract_eq_take_drop]
  refine⟨.agg (o.extract g (g+P.cellsOf t)), ?_, ?_,rfl, ?_, ?_, ?_⟩
  ·simp[part,ha,Wn C]
  ·rw[e];exact(rq ((hc.drop g).take (P.cellsOf t))).1
  ·simp only[AV.cells,hk]
  ·simp only[AV.cells,Value.cells,hk,e]
  ·simp only[AV.cells,hk];exact hle
 unfold Mb at p;split at p
 ·rename_i fs C;split at p
  ·cases p;exact agg (by simp[isAgg,run_underlying C]) _ C ‹_› rfl
  ·cases p
 ·rename_i n e C;split at p
  ·cases p;exact agg (by simp[isAgg,run_underlying C]) _ C ‹_› rfl
  ·cases p
 ·rename_i d hns hna C;have T:(isAgg t).run P w = .ok false w:=by
   simp only[isAgg,AK,run_underlying C,Ad];cases d<;>first|rfl|exact absurd C (hns _)|exact absurd C (hna _ _)
  have O:=(AD.1 p).1;have hv:o[g]? =some (o[g]'(by simp at i;omega)):=Al _;obtain⟨s1,s2,_⟩:=hc.at_ g v _ p (by rw[Af];exact hv);have j:v.cells=[v]:=by cases v<;>first|rfl|cases s1
  have R:(r.drop g).take 1=[v]:=by
   rw[BI O];have:r[g]=v:=by rw[AL O]at p;exact Option.some.inj p
   simp[this]
  have J:(o.toList.drop g).take 1=[o[g]'(by simp at i;omega)]:=by
   have U:g<o.toList.length:=by simp at i ⊢;omega
   rw[BI U];simp
  have I:(o[g]'(by simp at i;omega)).cells.toList=[o[g]'(by simp at i;omega)]:=by
   generalize o[g]'(by simp at i;omega)=u at *;cases s2<;>first|rfl|cases s1
  have V:v.isVal=true:=by cases v<;>first|rfl|cases s1
  refine⟨o[g]'(by simp at i;omega), ?_,s2,V, ?_, ?_, ?_⟩
  ·simp[part,T,hv]
  ·rw[j,BQ,R]
  ·rw[j,BQ,J,I]
  ·rw[j];exact O
 ·cases p
def iq{t:TypeId}{o:List AV}{C:Array Value}{g:Nat}{v:AV}(h:CRel F G [.agg o] H [.agg C] w)(hl:Mb P t o g=some v)(hr:R v H):
  GR P ((do let r<-part t C g;pure (Next.value r):Sem Next).run P w) (GB F G w R):=by
 have hx:=h.l.rel 0 _ _ rfl rfl;have ht:=h.l.tok 0 _ _ rfl rfl;obtain⟨V,htk⟩:=M2 rfl hx ht;have hc:Cells F G w o C.toList:=V;obtain⟨u,I,hv,j,e1,e2,hle⟩:=ip (P:=P) hc hl;have J:∀p∈v.cells.zip u.cells.toList,p∈L3 (.agg o) (.agg C):=by
  intro p T;rw[e1,e2]at T;obtain⟨i,hi⟩:=Ab T;rw[Bj]at hi;obtain⟨O,U⟩:=hi;rw[Ak]at O U;split at O
  ·rename_i hlt;rw[iP hlt]at U;rw[A4]at O U;refine AB (i:=g+i) ?_;simp only[L3,AV.flat,AV.cells,Io,Value.cells];rw[Bj];exact⟨O,U⟩
  ·cases O
 refine .value (u:=u) (w':=w) (by rw[AK,I];rfl) (GB.same (h.one hv (λp T=>ht p (J p (by rw[<- Qg j hv];exact T))) λb=>?_) hr);rw[Fx,Gy,htk];have e3:HY v u=Hd ((o.drop g).take v.cells.length) ((C.toList.drop g).take v.cells.length):=by
  unfold HY Hd;rw[Qg j hv,<- e1,<- e2]
 rw[e3];show _<=CW b (Hd o C.toList)+0;rw[QD o C.toList g v.cells.length hc.len];simp only[Cm];omega
def ADZ{t f:Nat}{j:Array Field}{g:Field}{i:List AV}{u:Value}{v:AV}(h:CRel F G [.agg i] H [u] w)(p:P.underlying t=some (.struct j))(C:j[f]? =some g)(I:Mb P g.type i g.offset=some v)(J:R v H):
  GR P ((do let r<-Instr.field t u f;pure (Next.value r):Sem Next).run P w) (GB F G w R):=by
 have O:=h.l.rel 0 _ _ rfl rfl;cases O with
 | agg i o T V U =>
  have e:(do let r<-Instr.field t (.agg o) f;pure (Next.value r):Sem Next).run P w=(do let r<-part g.type o g.offset;pure (Next.value r):Sem Next).run P w:=by
   simp only[Instr.field,AK,run_underlying p,Ad,C,asAgg,Ae]
  rw[e];exact iq h I J
def cV{t e n:Nat}{g:List AV}{k:IntKind}{i:Int}{u x:Value}{v:AV}(h:CRel F G [.agg g,.int k i] H [u,x] w)(o:P.underlying t=some (.array n e))(p:0<=i)(C:i<n)(I:0<P.cellsOf e)
  (J:Mb P e g (i.toNat*P.cellsOf e)=some v)(O:R v H):
  GR P ((do let r<-Instr.index t u x;pure (Next.value r):Sem Next).run P w) (GB F G w R):=by
 have T:=h.l.rel 0 _ _ rfl rfl;have U:=h.l.rel 1 _ _ rfl rfl;have V:=h.get (i:=0) rfl rfl;cases U;cases T with
 | agg g j hl' hs hr' =>
  have e:(do let r<-Instr.index t (.agg j) (.int k i);pure (Next.value r):Sem Next).run P w=(do let r<-part e j (i.toNat*P.cellsOf e);pure (Next.value r):Sem Next).run P w:=by
   simp only[Instr.index,asIntOf,AK,run_underlying o,Ad,Ae,Bc,iP (show 0<=i/\i<(n:Int)from⟨p,C⟩),HG I]
  rw[e];exact iq V J O
def cU{t:Nat}{s:ByteArray}{k:IntKind}{i:Int}{u x:Value}(h:CRel F G [.str s,.int k i] H [u,x] w)(o:P.underlying t=some .string)(p:0<=i)(T:i<s.size)
  (j:R (.int .u8 ((s.data[i.toNat]?).getD 0).toNat) H):
  GR P ((do let r<-Instr.index t u x;pure (Next.value r):Sem Next).run P w) (GB F G w R):=by
 have C:=h.l.rel 0 _ _ rfl rfl;have I:=h.l.rel 1 _ _ rfl rfl;cases I;cases C;have g:i.toNat<s.size:=Fj;have J:s[i.toNat]? =some s[i.toNat]:=getElem?_pos s i.toNat g;have O:(s.data[i.toNat]?).getD 0=s[i.toNat]:=by
  have:i.toNat<s.data.size:=g;rw[Al this];rfl
 rw[O]at j;refine .value (u:=.int .u8 s[i.toNat].toNat) (w':=w) ?_ (GB.plain h j (.int _ _) (Fu rfl rfl _));simp only[Instr.index,asIntOf,AK,run_underlying o,Ad,Ae,iP p,J]
def Vg {t e:Nat} {o:Option Nat} {g:List AV} {k:IntKind} {i:Int} {u x:Value} {v:AV} (h:CRel F G [.sl o g,.int k i] H [u,x] w) (hu:P.underlying t=some (.slice e)) (h0:0<=i) (C:g[i.toNat]? =some v)
  (hv:v.cells.length=P.cellsOf e) (hz:0<P.cellsOf e) (hr:R (.cptr v.cells 0) H) :
  GR P ((do let r<-Instr.indexAt t u x;pure (Next.value r):Sem Next).run P w) (GB F G w R):=by
 have V:=h.l.rel 0 _ _ rfl rfl;have hk:=h.l.rel 1 _ _ rfl rfl;cases hk;have J:=(AD.1 C).1;cases V with
 |slnil o=>simp at C
 |slany o a=>simp at C
 | sl o g sz b q cap f O hown hl hm hcs hus =>
  have T:sz=P.cellsOf e:=by rw[<- hv];exact(O v (AB C)).symm
  subst T;have U:∀n,n<=g.length->(Hx (g.take n)).length=n*P.cellsOf e:=λn hn=>by
   rw[Hg (n:=P.cellsOf e) λx V=>O x (Cn V),BB,Bw hn]
  have p:∀(j:Nat) (c:AV),v.cells[j]? =some c->(Hx g)[i.toNat*P.cellsOf e+j]? =some c:=by
   intro j c I;have e1:g=g.take i.toNat++v::g.drop (i.toNat+1):=by
    have:g[i.toNat]=v:=by rw[AL J]at C;exact Option.some.inj C
    rw[<- this,<- BI J,A8]
   rw[e1,La,AO (by rw[U _ Fj];omega),U _ Fj,A5];simp only[Hx,BA];rw[Aa (AD.1 I).1];exact I
  refine .value (u:=.pointer (some ⟨b,q+i.toNat*P.cellsOf e+0,none⟩)) (w':=w) ?_ (GB.plain h hr (.cptr v.cells 0 b (q+i.toNat*P.cellsOf e) (λj=>f (i.toNat*P.cellsOf e+j)) (λj c I=>?_) (λj c I=>?_)) (Fu rfl rfl _))
  ·have hc:0<=i/\i<(g.length:Int):=⟨h0,Fj⟩;simp only[Instr.indexAt,asIntOf,AK,run_underlying hu,Ad,Ae,Bc,iP hc,HG hz,NI,BG]
  ·have:=hcs _ c (p j c I);rw[<- AT]at this;exact this
  ·exact hus _ c (p j c I)
def UD{t e:Nat}{I g j o:Nat}{k:IntKind}{i:Int}{u x:Value}(h:CRel F G [.msl I g j o,.int k i] H [u,x] w)(J:P.underlying t=some (.slice e))(O:0<=i)(hi:i<j)
  (T:o=P.cellsOf e)(U:0<o)(V:R (.ptr I (g+i.toNat*o)) H):
  GR P ((do let r<-Instr.indexAt t u x;pure (Next.value r):Sem Next).run P w) (GB F G w R):=by
 have hx:=h.l.rel 0 _ _ rfl rfl;have hk:=h.l.rel 1 _ _ rfl rfl;cases hk;subst T;cases hx with
 |msl _ _ _ _ b cap hb hl hm p =>
  obtain⟨C0,E0,C,_⟩:=p;refine .value (u:=.pointer (some ⟨b,g+i.toNat*P.cellsOf e,none⟩)) (w':=w) ?_ (GB.plain h V (.ptr _ _ b hb ⟨C0,E0,C⟩) (Fu rfl rfl _));have p:0<=i/\i<(j:Int):=⟨O,Fj⟩;simp only[Instr.indexAt,asIntOf,AK,run_underlying J,Ad,Ae,Bc,iP p,HG U,NI]
def Np{t e n:Nat}{p:AV}{k:IntKind}{i:Int}{u x:Value}(h:CRel F G [p,.int k i] H [u,x] w)(O:P.underlying t=some (.array n e))(T:0<=i)(U:i<n)(V:0<P.cellsOf e)
  (C:match (generalizing:=false) p with
   |.ptr ob g=>R (.ptr ob (g+i.toNat*P.cellsOf e)) H
   |.cptr I g=>R (.cptr I (g+i.toNat*P.cellsOf e)) H
   |_=>False) :
  GR P ((do let r<-Instr.indexAt t u x;pure (Next.value r):Sem Next).run P w) (GB F G w R):=by
 have hx:=h.l.rel 0 _ _ rfl rfl;have hk:=h.l.rel 1 _ _ rfl rfl;cases hk;have hc:0<=i/\i<(n:Int):=⟨T,U⟩;have j:∀b q,(Instr.indexAt t (.pointer (some ⟨b,q,none⟩)) (.int k i)).run P w = .ok (.pointer (some ⟨b,q+i.toNat*P.cellsOf e,none⟩)) w:=λb q=>by
  simp only[Instr.indexAt,asIntOf,AK,run_underlying O,Ad,Ae,Instr.sureAddr,Bc,iP hc,HG V,NI]
 cases hx with
 |ptr o g b hb J=>exact .value (by rw[AK,j];rfl) (GB.plain h C (.ptr _ _ b hb J) (Fu rfl rfl _))
 |cptr I g b q u' h1 h2=>exact .value (by rw[AK,j];rfl) (GB.plain h C (by rw[AT];exact .cptr I _ b q u' h1 h2) (Fu rfl rfl _))
 |_=>exact C.elim
end
end Go.AI
namespace Go.AI
section
variable{P:Program}{F:Nat->Prop}{G:Gh}{w:World}{H:Fl}{R:AV->Fl->Prop}{ρ:Operand->Value}
def bO{a:Option Bool}{as:List (Option Bool)}{r:Bool}(h:Xy (a::as)=some r): ∃x y,a=some x/\Xy as=some y/\r=(x&&y):=by
 cases a with
 |none=>simp[Xy]at h
 | some x=>cases g:Xy as with
  |none=>simp[Xy,g]at h
  |some y =>
   simp only[Xy,g,Option.some.injEq]at h;exact⟨x,y,rfl,rfl,h.symm⟩
def Ov{t:TypeId}{i:List AV}{vs:Array Value}{g:Nat}{v:AV}(j:Cells F G w i vs.toList)(p:Mb P t i g=some v):
  ∃u,(part t vs g).run P w = .ok u w/\VRel G w v u/\Cells F G w v.cells u.cells.toList:=by
 obtain⟨u,r,C,J,o,I,O⟩:=ip j p;refine⟨u,r,C, ?_⟩;rw[I,o];have:=(j.drop g).take v.cells.length;rw[o]at this ⊢;simpa using this
def YU : ∀ (d:Nat) (t:TypeId) (x y:AV) (r:Bool),ABW P d t x y=some r -> ∀ (k:Nat) (u v:Value),VRel G w x u->VRel G w y v->Cells F G w x.cells u.cells.toList->Cells F G w y.cells v.cells.toList ->
  (Op.equalIn (d+k) t u v).run P w = .ok r w
 | 0,t,x,y,r,h,_,_,_,_,_,_,_=>by simp[ABW]at h
 | d+1,t,x,y,r,h,k,u,v,I,J,cx,cy=>by
  rw[show d+1+k=(d+k)+1 by omega];unfold ABW at h;split at h
  ·rename_i g;cases h;cases I;cases J;exact run_equalIn_bool w _ t _ _ g
  ·rename_i kk g;split at h
   ·rename_i hk;subst hk;cases h;cases I;cases J;exact run_equalIn_int w _ t _ _ _ _ g
   ·cases h
  ·rename_i g;cases h;cases I;cases J;exact run_equalIn_string w _ t _ _ g
  ·rename_i fs xs ys g;split at h
   ·cases h
   ·rename_i U;cases I with
    | agg _ O _ _ _=>cases J with
     | agg _ R _ _ _ =>
      have T:P.fieldsOf t=fs:=by unfold Program.fieldsOf;rw[g]
      rw[run_equalIn_struct w (d+k) t O R (by rw[T];exact g) (by simpa using U),T];generalize fs.toList=l at h;induction l generalizing r with
      |nil=>simp only[Ah,Xy]at h;cases h;rfl
      | cons f l V =>
       simp only[AW]at h;obtain⟨a,b,o,h2,rfl⟩:=bO h;split at o
       ·cases o
       ·rename_i hn;split at o
        ·rename_i va vb p C;obtain⟨ua,p1,p2,p3⟩:=Ov (P:=P) (vs:=O) cx p;obtain⟨ub,q1,q2,q3⟩:=Ov (P:=P) (vs:=R) cy C;have e:=YU d f.type va vb a o k ua ub p2 q2 p3 q3;simp only[Op.eqFields,hn,ne_eq,not_false_eq_true,if_true,AK,p1,q1,e,Ad];cases a
         ·simp
         ·simpa using V b h2
        ·cases o
  ·rename_i n el xs ys g;split at h
   ·rename_i hi;obtain⟨i,hi⟩:=Bm.1 hi;cases I with
    | agg _ O _ _ _=>cases J with
     | agg _ R _ _ _ =>
      rw[run_equalIn_array w (d+k) O R g hi];generalize An n=l at h ⊢;induction l generalizing r with
      |nil=>simp only[Ah,Xy]at h;cases h;rfl
      | cons j l V =>
       simp only[AW]at h;obtain⟨a,b,o,h2,rfl⟩:=bO h;split at o
       ·rename_i va vb p C;obtain⟨ua,p1,p2,p3⟩:=Ov (P:=P) (vs:=O) cx p;obtain⟨ub,q1,q2,q3⟩:=Ov (P:=P) (vs:=R) cy C;have e:=YU d el va vb a o k ua ub p2 q2 p3 q3;simp only[Op.eqItems,AK,p1,q1,e,Ad];cases a
        ·simp
        ·simpa using V b h2
       ·cases o
   ·cases h
  ·cases h
def mK{t:TypeId}{a b:AV}{r:Bool}(h:K3 P t a b=some r){u v:Value}(g:VRel G w a u)(i:VRel G w b v)(o:∀p∈L3 a u,Gg F G w p)(C:∀p∈L3 b v,Gg F G w p)(x y:Operand):
  (do eqGuard .eql t x y u v;binOp .eql t u v).run P w = .ok (.bool r) w/\(do eqGuard .neq t x y u v;binOp .neq t u v).run P w = .ok (.bool !r) w:=by
 unfold K3 at h;split at h<;>first|cases h|skip
 ·rename_i I;cases g;cases i;simp[eqGuard,binOp,run_equal_bool w t _ _ I]
 ·rename_i j;cases g;cases i;constructor<;>simp[eqGuard,binOp,L7 _ j]
 ·rename_i j;cases g;cases i;constructor<;>simp[eqGuard,binOp,Nk _ j]
 ·rename_i j;cases g;cases i;constructor<;>simp[eqGuard,binOp,L7 _ j]
 ·rename_i j;cases g;cases i;constructor<;>simp[eqGuard,binOp,Nk _ j]
 ·rename_i j;cases g;cases i;constructor<;>simp[eqGuard,binOp,L7 _ j]
 ·split at h
  ·cases h
  ·rename_i J;have O:=(M2 rfl g o).1;have R:=(M2 rfl i C).1;have e:=YU (P:=P) 40 t _ _ r h 9960 u v g i O R;cases g;cases i;have T:(Op.equal t (.agg _) (.agg _)).run P w = .ok r w:=e;constructor<;>simp[eqGuard,binOp,J,T]
def ADc{i:BinOp}{t:TypeId}{x y:Operand}{a b:AV}(h:CRel F G [a,b] H [ρ x,ρ y] w)(j:KU P i t a b λv=>R v H):
  GR P ((do let v<-(do eqGuard i t x y (ρ x) (ρ y);binOp i t (ρ x) (ρ y));pure (Next.value v):Sem Next).run P w) (GB F G w R):=by
 have C:=h.l.rel 0 _ _ rfl rfl;have I:=h.l.rel 1 _ _ rfl rfl;have plain:K5 i a b (λv=>R v H)->GR P ((do let v<-(do eqGuard i t x y (ρ x) (ρ y);binOp i t (ρ x) (ρ y));pure (Next.value v):Sem Next).run P w) (GB F G w R):=λO=>by
  obtain⟨c,r,T,U,V,hs,o⟩:=AGJ (P:=P) (t:=t) O C I x y;refine .value (u:=r) (w':=w) ?_ (GB.plain h T U (Fu V hs r));rw[AK,o];rfl
 unfold KU at j;split at j
 ·rename_i r J;have:=(mK J C I (λp g=>h.l.tok 0 _ _ rfl rfl p g) (λp g=>h.l.tok 1 _ _ rfl rfl p g) x y).1;refine .value (u:=.bool r) (w':=w) ?_ (GB.plain h j (.bool _) (Fu rfl rfl _));rw[AK,this];rfl
 ·rename_i r J;have:=(mK J C I (λp g=>h.l.tok 0 _ _ rfl rfl p g) (λp g=>h.l.tok 1 _ _ rfl rfl p g) x y).2;refine .value (u:=.bool !r) (w':=w) ?_ (GB.plain h j (.bool _) (Fu rfl rfl _));rw[AK,this];rfl
 ·exact plain j
def vp{o:BinOp}{t:TypeId}{x y:Operand}{a b:AV}(h:CRel F G [a,b] H [ρ x,ρ y] w)(O:ρ y = .slice none 0 0)(j:Of P o t a λv=>R v H):
  GR P ((do let v<-(do eqGuard o t x y (ρ x) (ρ y);binOp o t (ρ x) (ρ y));pure (Next.value v):Sem Next).run P w) (GB F G w R):=by
 have p:=h.l.rel 0 _ _ rfl rfl;rw[O];have i:∀r:Bool,(do eqGuard o t x y (ρ x) (.slice none 0 0);binOp o t (ρ x) (.slice none 0 0)).run P w = .ok (.bool r) w->R (.bool r) H ->
   GR P ((do let v<-(do eqGuard o t x y (ρ x) (.slice none 0 0);binOp o t (ρ x) (.slice none 0 0));pure (Next.value v):Sem Next).run P w) (GB F G w R):=λr I T=>by
  refine .value (u:=.bool r) (w':=w) ?_ (GB.plain h T (.bool _) (Fu rfl rfl _));rw[AK,I];rfl
 unfold Of at j;split at j
 case h_2=>exact j.elim
 rename_i e U;have C:∀(J:Option Addr) (l c:Nat),ρ x = .slice J l c->(o = .eql->(do eqGuard o t x y (ρ x) (.slice none 0 0);binOp o t (ρ x) (.slice none 0 0)).run P w = .ok (.bool J.isNone) w) /\
   (o = .neq->(do eqGuard o t x y (ρ x) (.slice none 0 0);binOp o t (ρ x) (.slice none 0 0)).run P w = .ok (.bool !J.isNone) w):=by
  intro J l c g;constructor<;>rintro rfl<;>simp[g,eqGuard,binOp,Op.equal,Op.maxDepth,run_equalIn_slice_nil w 9999 t e J l c U]
 split at j
 ·obtain⟨u,g⟩:∃u,u=ρ x:=⟨_,rfl⟩;rw[<- g]at p;cases p with
  |slnil=>exact i _ ((C _ _ _ g.symm).1 rfl) j.1
  |slany=>exact i _ ((C _ _ _ g.symm).1 rfl) j.2
  |sl=>exact i _ ((C _ _ _ g.symm).1 rfl) j.2
 ·obtain⟨u,g⟩:∃u,u=ρ x:=⟨_,rfl⟩;rw[<- g]at p;cases p with
  |slnil=>exact i _ ((C _ _ _ g.symm).2 rfl) j.2
  |slany=>exact i _ ((C _ _ _ g.symm).2 rfl) j.1
  |sl=>exact i _ ((C _ _ _ g.symm).2 rfl) j.1
 ·obtain⟨u,g⟩:∃u,u=ρ x:=⟨_,rfl⟩;rw[<- g]at p;cases p with
  |sl=>exact i _ ((C _ _ _ g.symm).1 rfl) j
 ·obtain⟨u,g⟩:∃u,u=ρ x:=⟨_,rfl⟩;rw[<- g]at p;cases p with
  |sl=>exact i _ ((C _ _ _ g.symm).2 rfl) j
 ·obtain⟨u,g⟩:∃u,u=ρ x:=⟨_,rfl⟩;rw[<- g]at p;cases p with
  |msl=>exact i _ ((C _ _ _ g.symm).1 rfl) j
 ·obtain⟨u,g⟩:∃u,u=ρ x:=⟨_,rfl⟩;rw[<- g]at p;cases p with
  |msl=>exact i _ ((C _ _ _ g.symm).2 rfl) j
 ·exact j.elim
end
end Go.AI
namespace Go.AI
section
variable{P:Program}{F:Nat->Prop}{G:Gh}{w:World}{H:Fl}{R:AV->Fl->Prop}
def GR.skip{K:Value->World->Prop}{r:Result Next}{g:World}(i:r = .ok .skip g)(h:K Go.undef g):GR P r K:=by subst i;exact h
def HRel.at_obj(h:HRel F G H w){o:Nat}{g:List AV}(t:H[o]? =some (some g)){b:Nat}(I:G.obs[o]? =some b)(p:∃(C:Array Value) (E:TypeId),w.heap[b]? =some (.cells C E (0,0))):
  ∃(C:Array Value) (E:TypeId),w.heap[b]? =some (.cells C E (0,0))/\g.length<=C.size/\Cells F G w g (C.toList.take g.length):=by
 obtain⟨T,U,r⟩:=p;obtain⟨C,E,J,O,P⟩:=((h.obj o g b t I).of_cells r).2;refine⟨C,E,J,O,IG,λi c v R j=>?_⟩;rw[Ak]at j;split at j
 ·exact P i c v R (by simpa using j)
 ·cases j
def Me{α β:Type}: ∀(a:List α) (b:List β),a.zip b=a.zip (b.take a.length)
 |[],b=>F3
 |_::_,[]=>F3
 |x::a,y::b=>by simp[<- Me a b]
def U9{α:Type}(l i:List α)(g m:Nat)(h:g+i.length<=m)(o:m<=l.length):
  (l.take g++i++l.drop (g+i.length)).take m=(l.take m).take g++i++(l.take m).drop (g+i.length):=by
 have j:(l.take g).length=g:=IG;rw[AF,C_,j,C_,DA,DA,List.drop_take,AF];rw[Nat.min_eq_right Fj,Bw Fj,Be (l:=i) Fj];rw[show m - g - i.length=m - (g+i.length) by omega]
def Pp {t ob off:Nat} {cs:List AV} {v:AV} {u:Value} (h:CRel F G [.ptr ob off] H [u] w) (ho:H[ob]? =some (some cs)) (j:Mb P t cs off=some v)
  (hr:R v.borrow H\/R v (H.set ob (some (splice cs off (v.cells.map borrow1))))) :
  GR P ((do let r<-Instr.loadAt t u;pure (Next.value r):Sem Next).run P w) (GB F G w R):=by
 have hx:=h.l.rel 0 _ _ rfl rfl;cases hx with
 | ptr o off b hb hbc =>
  have hobj:=h.h.obj ob cs b ho hb;obtain⟨x,hrun,hv,I,hcells,hf1,hf2⟩:=cj (P:=P) j (QG hbc.choose_spec.choose_spec hobj);rw[AX]at hrun;have J:(do let r<-Instr.loadAt t (.pointer (some ⟨b,off,none⟩));pure (Next.value r):Sem Next).run P w = .ok (.value x) w:=by
   simp only[Instr.loadAt,Instr.sureAddr,AK,Ae,Ad,hrun]
  rcases hr with hr|hr
  ·exact .value J (GB.plain h hr hv.borrow (HE v x))
  ·obtain⟨C,E,O,hCs,hC⟩:=h.h.at_obj ho hb hbc;have hxl:v.cells.length=x.cells.toList.length:=by have:=(KV I hv).2.2;simpa using this
   have g:∀(i:Nat),i<v.cells.length->cs[off+i]? =v.cells[i]?/\C[off+i]? =x.cells.toList[i]?:=by
    intro i T;have h1:v.cells[i]? =some v.cells[i]:=AL T;have h2:x.cells.toList[i]? =some (x.cells.toList[i]' Fj):=AL _;obtain⟨g1,g2⟩:=hcells i _ _ h1 (by rw[<- Af];exact h2);rw[AX,cell_of_row w b _ C E _ O]at g2;exact⟨g1.trans h1.symm,g2.trans h2.symm⟩
   have hle:off+v.cells.length<=cs.length:=by
    by_cases h0:v.cells.length=0
    ·unfold Mb at j;split at j
     ·split at j
      ·cases j;simp only[AV.cells]at h0 ⊢;simp at h0 ⊢;omega
      ·cases j
     ·split at j
      ·cases j;simp only[AV.cells]at h0 ⊢;simp at h0 ⊢;omega
      ·cases j
     ·have:=(AD.1 j).1;omega
     ·cases j
    ·have:=(g (v.cells.length - 1) Fj).1;rw[AL (show v.cells.length - 1<v.cells.length by omega)]at this;have:=(AD.1 this).1;omega
   have e1:v.cells=(cs.drop off).take v.cells.length:=by
    apply A6;intro i;by_cases T:i<v.cells.length
    ·rw[J3 _ _ _ _ T,(g i T).1]
    ·rw[A0 Fj,A0 IG]
   have e2:x.cells.toList=((C.toList.take cs.length).drop off).take v.cells.length:=by
    apply A6;intro i;by_cases T:i<v.cells.length
    ·rw[J3 _ _ _ _ T,Ak,iP Fj,<- (g i T).2];simp
    ·rw[A0 Fj,A0 IG]
   have hC2:=hC.unown off v.cells.length hle;rw[<- e1]at hC2;have U:(splice cs off (v.cells.map borrow1)).length=cs.length:=by rw[NJ (by simpa using hle)]
   have htoksv:HY v x=Hd ((cs.drop off).take v.cells.length) (((C.toList.take cs.length).drop off).take v.cells.length):=by
    unfold HY Hd;rw[Qg I hv,<- e1,<- e2]
   have htokok:∀p∈L3 v x,Gg F G w p:=by
    intro p hp;rw[Qg I hv,e1,e2]at hp;obtain⟨i,T⟩:=Ab hp;rw[Bj]at T;obtain⟨h1,h2⟩:=T;exact(((hC.drop off).take v.cells.length).at_ i p.1 p.2 h1 h2).2.2
   have V:=h.setObj ho hb O (C':=C) rfl (cs':=splice cs off (v.cells.map borrow1)) (by rw[U];exact hCs) (λi c y hc hy=>?_) (vs:=[v]) (us':=[x]) (.cons hv htokok (.nil F G w)) (λy=>?_)
   ·rw[setRow_self w b C E _ O]at V;exact .value J ⟨v,_,G,hr,V.1,V.2⟩
   ·have T:=(AD.1 hc).1;exact hC2.at_ i c y hc (by rw[Ak,iP Fj];simpa using hy)
   ·have h1:=lN (cs:=cs) (vs:=C.toList.take cs.length) (off:=off) (k:=v.cells.length) hC.len y hle;rw[<- e1]at h1;rw[Fx,Gy,htoksv,<- e1];have z1:(splice cs off (v.cells.map borrow1)).zip C.toList=(splice cs off (v.cells.map borrow1)).zip (C.toList.take cs.length):=by
     have:=Me (splice cs off (v.cells.map borrow1)) C.toList;rw[U]at this;exact this
    rw[z1,Me cs C.toList];unfold Hd at h1 ⊢;omega
def cT{t g:Nat}{j:List AV}{v:AV}{u:Value}(h:CRel F G [.cptr j g] H [u] w)(o:Mb P t j g=some v)(p:R v.borrow H):
  GR P ((do let r<-Instr.loadAt t u;pure (Next.value r):Sem Next).run P w) (GB F G w R):=by
 have C:=h.l.rel 0 _ _ rfl rfl;obtain⟨b,q,rfl,I⟩:=Vp C;obtain⟨x,i,J,_⟩:=cj (P:=P) o I;exact .value (by simp only[Instr.loadAt,Instr.sureAddr,AK,Ae,Ad,i]) (GB.plain h p J.borrow (HE v x))
def ADX {t ob off:Nat} {cs:List AV} {v:AV} {u x:Value} (h:CRel F G [.ptr ob off,v] H [u,x] w) (ho:H[ob]? =some (some cs)) (p:v.isVal=true) (hk:v.cells.length=P.cellsOf t) (hz:0<P.cellsOf t)
  (hle:off+P.cellsOf t<=cs.length) (hr:R .undef (H.set ob (some (splice cs off v.cells)))) :
  GR P ((do Instr.storeAt t u x;pure Next.skip:Sem Next).run P w) (GB F G w R):=by
 have hp:=h.l.rel 0 _ _ rfl rfl;have hv:=h.l.rel 1 _ _ rfl rfl;have ht:=h.l.tok 1 _ _ rfl rfl;cases hp with
 | ptr o off b hb hbc =>
  obtain⟨C,E,r,U,hC⟩:=h.h.at_obj ho hb hbc;obtain⟨V,htk⟩:=M2 p hv ht;have hxl:x.cells.size=P.cellsOf t:=by have:=(KV p hv).2.2;omega
  have hst:=run_storeCells_at P b off E x.cells.toList 0 C w r IG V.oneCell;simp only[BG,Bv]at hst;let O:Array Value:=(C.toList.take off++x.cells.toList++C.toList.drop (off+x.cells.size)).toArray
  have T:O=(C.toList.take off++x.cells.toList++C.toList.drop (off+x.cells.size)).toArray:=rfl;have g:O.size=C.size:=by rw[T];simp;omega
  have hrun:(do Instr.storeAt t (.pointer (some ⟨b,off,none⟩)) x;pure Next.skip:Sem Next).run P w = .ok .skip (w.setRow b O):=by
   simp only[Instr.storeAt,Instr.sureAddr,storeVar,AK,Ae,Ad,HG hz,Bc];rw[iN Fj];simp only[Ae,Ad,hst,T]
  have j:(splice cs off v.cells).length=cs.length:=NJ Fj;have I:O.toList.take cs.length=Ie (C.toList.take cs.length) off x.cells.toList:=by
   rw[T];have:=U9 C.toList x.cells.toList off cs.length IG (by simpa using U);simpa [Ie]using this
  have hCC:=hC.splice (off:=off) V;have J:=h.setObj ho hb r (C':=O) g (cs':=splice cs off v.cells) (by rw[j,g];exact U) (λi c y hc hy=>?_) (vs:=[.undef]) (us':=[Go.undef]) (.cons (.undef _) (GC (IF _) F G w) (.nil F G w)) (λy=>?_)
  ·exact GR.skip hrun ⟨.undef,_,G,hr,J.1,J.2⟩
  ·have hi:=(AD.1 hc).1;refine hCC.at_ i c y hc ?_;rw[<- I,Ak,iP Fj];simpa using hy
  ·rw[Fx,Gy,IF,Fx,Fx,Gy,htk];have z1:(splice cs off v.cells).zip O.toList=(splice cs off v.cells).zip (Ie (C.toList.take cs.length) off x.cells.toList):=by
    have:=Me (splice cs off v.cells) O.toList;rw[j,I]at this;exact this
   rw[z1,Me cs C.toList];have h1:=Ot (cs:=cs) (xs:=v.cells) (vs:=C.toList.take cs.length) (ys:=x.cells.toList) (off:=off) hC.len IG y;unfold Hd at h1 ⊢;simp only[Bk];omega
def ALX{elem:TypeId}{v:AV}{u:Value}(h:CRel F G [v] H [u] w)(g:v.isVal=true)(p:R (.ptr H.length 0) (H++[some v.cells])):
  GR P ((do let r<-Instr.box elem u;pure (Next.value r):Sem Next).run P w) (GB F G w R):=by
 have t:=h.l.rel 0 _ _ rfl rfl;have C:=h.l.tok 0 _ _ rfl rfl;obtain⟨o,j⟩:=M2 g t C;refine .value (u:=.pointer (some ⟨w.heap.size,0,none⟩)) (w':=w.alloc (.cells u.cells elem)) (by simp[Instr.box,newVar,newRow]) ⟨_,_,_,p, ?_,I_ h.h.fore _⟩;refine h.newObj v.cells u.cells elem (by have:=o.len;simp at this;omega) (λi c x I J=>o.at_ i c x I (by simpa using J)) (λb=>?_) (.ptr _ _ _ ?_ ⟨_,_,heap_alloc_new w _⟩) (Fu rfl rfl _)
 ·rw[Fx,Gy,j];exact AS _
 ·show(G.obs++[w.heap.size])[H.length]? =_;rw[<- h.h.len,AO (AS _)];simp
end
end Go.AI
namespace Go.AI
section
variable{P:Program}{F:Nat->Prop}{G:Gh}{w:World}{H:Fl}{R:AV->Fl->Prop}
def VRel.constT(G:Gh)(w:World)(g:Option TypeId)(v:Value):VRel G w (constT P g v) v:=by
 unfold Go.AI.constT;split
 ·exact .slnil _
 ·exact VRel.const1 G w v
def OV(g:Option TypeId)(v u:Value)(h:u=v):tok (constT P g v,u)=none:=by
 subst h;unfold constT;split
 ·cases UH P g<;>rfl
 ·exact Mi (NW _) _
def Cells.constT(j:List Value)(g:List TypeId)(k:Nat)(o:((j.zipIdx k).map λ(c,i)=>Go.AI.constT P g[i]? c).all AV.scalar=true):
  Cells F G w ((j.zipIdx k).map λ(c,i)=>Go.AI.constT P g[i]? c) j/\Hd ((j.zipIdx k).map λ(c,i)=>Go.AI.constT P g[i]? c) j=[]:=by
 induction j generalizing k with
 |nil=>exact⟨.nil,rfl⟩
 | cons c j t =>
  simp only[ED,AW,Am,AQ]at o ⊢;obtain⟨C,I⟩:=t (k+1) o.2;refine⟨?_, ?_⟩
  ·have one:Cells F G w [Go.AI.constT P g[k]? c] [c]:=⟨rfl,λi x y p r=>by
    cases i with
    |zero=>simp at p r;subst p;subst r;exact⟨o.1,VRel.constT G w _ c,Gb (OV _ c c rfl)⟩
    |succ i=>simp at p⟩
   exact one.append C
  ·simp only[Hd,B6,B7,OV _ c c rfl];exact I
def Nc{t:TypeId}{z:AV}(h:F8 P t=some z): ∃ g,(∀ w,(zeroValue t).run P w = .ok g w)/\z.isVal=true /\
  (∀(F:Nat->Prop) (G:Gh) (w:World),Cells F G w z.cells g.cells.toList)/\Hd z.cells g.cells.toList=[]:=by
 unfold F8 at h;split at h
 ·rename_i I o;split at h
  ·rename_i j;cases h;cases p:P.info? t with
   |none=>rw[p]at o;cases o
   |some i =>
    rw[p]at o;have r:i.zero=some (.agg I):=o;refine⟨.agg I,λw=>by simp[zeroValue,typeInfo,p,r],rfl,λF G w=>?_, ?_⟩
    ·exact(Cells.constT (F:=F) (G:=G) (w:=w) I.toList (Ql P 20 t) 0 j).1
    ·exact(Cells.constT (F:=λ_=>False) (G:=⟨[],λ_ => .imm⟩) (w:=default) I.toList (Ql P 20 t) 0 j).2
  ·cases h
 ·rename_i g U o;split at h
  ·rename_i j;cases h;cases p:P.info? t with
   |none=>rw[p]at o;cases o
   | some i =>
    rw[p]at o;have r:i.zero=some g:=o;have C:(Go.AI.constT P (some t) g).isVal=true:=by
     generalize Go.AI.constT P (some t) g=c at j;cases c<;>first|rfl|cases j
    have O:(Go.AI.constT P (some t) g).cells=[Go.AI.constT P (some t) g]:=by
     generalize Go.AI.constT P (some t) g=c at j;cases c<;>first|rfl|cases j
    have R:g.cells.toList=[g]:=by
     have:=VRel.constT (P:=P) ⟨[],λ_ => .imm⟩ default (some t) g;generalize Go.AI.constT P (some t) g=c at j this;cases this<;>first|rfl|cases j
    refine⟨g,λw=>by simp[zeroValue,typeInfo,p,r],C,λF G w=>?_, ?_⟩
    ·rw[O,R];exact⟨rfl,λi x y J T=>by
      cases i with
      |zero=>simp at J T;subst J;subst T;exact⟨j,VRel.constT G w _ g,Gb (OV _ g g rfl)⟩
      |succ i=>simp at J⟩
    ·rw[O,R];simp[Hd,OV _ g g rfl]
  ·cases h
 ·cases h
end
end Go.AI
namespace Go.AI
section
variable{P:Program}{F:Nat->Prop}{G:Gh}{w:World}{H:Fl}{R:AV->Fl->Prop}
def ADd{elem:TypeId}{z:AV}(h:CRel F G [] H [] w)(t:F8 P elem=some z)(C:R (.ptr H.length 0) (H++[some z.cells])):
  GR P ((do let r<-Instr.alloc elem true (.tuple #[]);pure (Next.value r):Sem Next).run P w) (GB F G w R):=by
 obtain⟨o,g,p,I,J⟩:=Nc t;have j:=I F G w;refine .value (u:=.pointer (some ⟨w.heap.size,0,none⟩)) (w':=w.alloc (.cells o.cells elem)) (by simp[Instr.alloc,newVar,newRow,g]) ⟨_,_,_,C, ?_,I_ h.h.fore _⟩;refine h.newObj z.cells o.cells elem (by have:=j.len;simp at this;omega) (λi c x O T=>j.at_ i c x O (by rw[Af];exact T)) (λb=>?_) (.ptr _ _ _ ?_ ⟨_,_,heap_alloc_new w _⟩) (Fu rfl rfl _)
 ·show CW b (Hd z.cells o.cells.toList)<=_;rw[J];simp
 ·show(G.obs++[w.heap.size])[H.length]? =_;rw[<- h.h.len,AO (AS _)];simp
def cX{elem:TypeId}(h:CRel F G [] H [] w)(p:ADi P elem=true)(O:R (.ptr H.length 0) (H++[some [.sl (some 0) []]])):
  GR P ((do let r<-Instr.alloc elem true (.tuple #[]);pure (Next.value r):Sem Next).run P w) (GB F G w R):=by
 unfold ADi at p;split at p
 case h_2=>cases p
 rename_i g;cases t:P.info? elem with
 |none=>rw[t]at g;cases g
 | some i =>
  rw[t]at g;have C:i.zero=some (.slice none 0 0):=g;have j:∀w,(zeroValue elem).run P w = .ok (.slice none 0 0) w:=λw=>by simp[zeroValue,typeInfo,t,C]
  refine .value (u:=.pointer (some ⟨w.heap.size,0,none⟩)) (w':=w.alloc (.cells #[.slice none 0 0] elem)) (by simp[Instr.alloc,newVar,newRow,j,Value.cells]) ⟨_,_,_,O, ?_,I_ h.h.fore _⟩;have o:tok (.sl (some 0) [],.slice none 0 0)=none:=rfl;refine h.newObj [.sl (some 0) []] #[.slice none 0 0] elem F3 (λi c x I J=>?_) (λb=>?_) (.ptr _ _ _ ?_ ⟨_,_,heap_alloc_new w _⟩) (Fu rfl rfl _)
  ·cases i with
   |zero=>simp at I J;subst I;subst J;exact⟨rfl,.slnil _,Gb o⟩
   |succ i=>simp at I
  ·simp[o]
  ·show(G.obs++[w.heap.size])[H.length]? =_;rw[<- h.h.len,AO (AS _)];simp
def lA(g:Nat): ∀(l:List Value) (k:Nat) (cells:Array Value),g+k+l.length<=cells.size ->
  ((l.zipIdx k).foldl (λi p=>i.setIfInBounds (g+p.2) p.1) cells).toList=cells.toList.take (g+k)++l++cells.toList.drop (g+k+l.length)
 |[],k,cells,h=>F3
 |v::l,k,cells,h=>by
  simp only[ED,List.foldl_cons];rw[lA g l (k+1) _ (by simp at h ⊢;omega)];have e:=list_seg_step cells.toList (g+k) v l (by simp at h ⊢;omega);simpa [Array.toList_setIfInBounds,AT]using e
def lE(v:Value)(g:Nat)(cells:Array Value)(h:g+v.cells.size<=cells.size):
  v.cells.zipIdx.foldl (λi (c,j)=>i.setIfInBounds (g+j) c) cells=(Ie cells.toList g v.cells.toList).toArray:=by
 apply Bq;have:=lA g v.cells.toList 0 cells (by simpa using h);rw[<- Array.foldl_toList,Array.toList_zipIdx];simpa [Ie]using this
def lD(g:Nat->Option (Nat×Nat)): ∀ (is:List Nat) (vs:List AV) (p:List Value) (cs j:List AV) (C:Array Value),Iz g cs is vs=some j->LRel F G vs p w->Cells F G w cs C.toList ->
  ∃I,Instr.fill g C (is.zip p)=some I/\Cells F G w j I.toList /\ ∀b,(Hd j I.toList).count b<=(Hd cs C.toList).count b+Hm b vs p
 |[],[],p,cs,j,C,h,P,J=>by
  simp only[Iz,Option.some.injEq]at h;subst h;exact⟨C,by simp[Instr.fill],J,λb=>Fj⟩
 |[],_::_,_,_,_,_,h,_,_=>by simp[Iz]at h
 |_::_,[],_,_,_,_,h,_,_=>by simp[Iz]at h
 | i::is,v::vs,p,cs,j,C,h,P,J=>by
  match p,P.len with
  | u::p,_ =>
   obtain⟨V,ht,R⟩:=P.uncons;simp only[Iz]at h;split at h
   ·rename_i o size hp;split at h
    ·rename_i t;obtain⟨r,hk,hle⟩:=t;obtain⟨O,T⟩:=M2 r V ht;have U:u.cells.size=size:=by have:=(KV r V).2.2;omega
     have hCs:cs.length=C.size:=by simpa using J.len
     obtain⟨I,h1,h2,h3⟩:=lD g is vs p (splice cs o v.cells) j (Ie C.toList o u.cells.toList).toArray h R (by simpa using J.splice (off:=o) O);refine⟨I, ?_,h2,λb=>?_⟩
     ·simp only[B6,Instr.fill,hp];rw[iN (by simp[U];omega),lE u o C Fj];exact h1
     ·have g1:=h3 b;have g2:=Ot (cs:=cs) (xs:=v.cells) (vs:=C.toList) (ys:=u.cells.toList) (off:=o) J.len O.len b;rw[Fx,T];simp only[Dh]at g1;omega
    ·cases h
   ·cases h
def Qc(ρ:Operand->Value): ∀(g:List (Nat×Operand)),(g.map (·.1)).zip (g.map λp=>ρ p.2)=g.map λp=>(p.1,ρ p.2)
 |[]=>rfl
 |p::g=>by simp[Qc ρ g]
def Pq{t:TypeId}{j:List (Nat×Operand)}{ρ:Operand->Value}{g:Nat->Option (Nat×Nat)}{I z J:List AV}(h:CRel F G I H (j.map λp=>ρ p.2) w)(hz:F8 P t=some (.agg z))
  (hf:Iz g z (j.map (·.1)) I=some J)(hr:R (.agg J) H)
  (hb:∀(o:Value) (cells:Array Value),(∀w,(zeroValue t).run P w = .ok o w)->Instr.fill g o.cells (j.map λp=>(p.1,ρ p.2))=some cells->(Instr.build t (j.map λp=>(p.1,ρ p.2)).toArray).run P w = .ok (.agg cells) w):
  GR P ((do let r<-Instr.build t (j.map λp=>(p.1,ρ p.2)).toArray;pure (Next.value r):Sem Next).run P w) (GB F G w R):=by
 obtain⟨o,C,O,hc,T⟩:=Nc hz;obtain⟨U,V,h2,h3⟩:=lD (F:=F) (G:=G) (w:=w) g _ _ _ _ _ o.cells hf h.l (hc F G w);rw[Qc]at V;have i:=hb o U C V;obtain⟨g1,g2,g3⟩:=rq h2;rw[Array.toArray_toList]at g1 g2 g3;refine .value (u:=.agg U) (w':=w) (by rw[AK,i];rfl) (GB.same (h.one g1 g2 λb=>?_) hr);rw[g3];have:=h3 b;simp only[AV.cells]at T;rw[T]at this;simpa using this
def Vh{t:TypeId}{C:Array Field}{U:List (Nat×Operand)}{ρ:Operand->Value}{vs z cs:List AV}(h:CRel F G vs H (U.map λp=>ρ p.2) w)(V:P.underlying t=some (.struct C))(J:N' P C=true)
  (hz:F8 P t=some (.agg z))(hf:Iz ((Jd P C)[·]?) z (U.map (·.1)) vs=some cs)(hr:R (.agg cs) H):
  GR P ((do let r<-Instr.build t (U.map λp=>(p.1,ρ p.2)).toArray;pure (Next.value r):Sem Next).run P w) (GB F G w R):=by
 refine Pq h hz hf hr λzv cells O o=>?_;obtain⟨i,hi⟩:=L5 V;have I:i.zero=some zv:=by
  have:=O w;simp only[zeroValue,typeInfo,AK,run_program,Ad,hi,Ae]at this;cases T:i.zero with
  |none=>rw[T]at this;cases this
  |some v=>rw[T]at this;cases this;rfl
 have hpl:C.toList.mapM (λf=>(P.info? f.type).map λi=>(f.offset,i.size))=some (Jd P C).toList:=by
  have j:∀f∈C.toList,(P.info? f.type).isSome=true:=by
   intro f hf';have:=Array.all_eq_true_iff_forall_mem.1 J f (by simpa using hf');exact this
  have:(Jd P C).toList=C.toList.map λf=>(f.offset,P.cellsOf f.type):=by simp[Jd]
  rw[this];clear hf o V J this
  revert j
  generalize C.toList=L;intro j;induction L with
  |nil=>rfl
  |cons f l ih =>
   have h1:=j f F3;obtain⟨fi,hfi⟩:=Bm.1 h1;have ih':=ih λg hg=>j g (by simp[hg]);simp only[List.mapM_cons,Option.bind_eq_bind,Option.pure_def,hfi,Bb,Bi,ih',AW,BU,BP]
 refine run_build w t _ cells ?_;simp only[EE,hi,V,I,hpl];simpa using o
def W9{t e n:Nat}{J:List (Nat×Operand)}{ρ:Operand->Value}{T z U:List AV}(h:CRel F G T H (J.map λp=>ρ p.2) w)(V:P.underlying t=some (.array n e))(he:(P.info? e).isSome=true)
  (hz:F8 P t=some (.agg z))(hf:Iz (λi=>some (i*P.cellsOf e,P.cellsOf e)) z (J.map (·.1)) T=some U)(hr:R (.agg U) H):
  GR P ((do let r<-Instr.build t (J.map λp=>(p.1,ρ p.2)).toArray;pure (Next.value r):Sem Next).run P w) (GB F G w R):=by
 refine Pq h hz hf hr λzv cells o g=>?_;obtain⟨i,hi⟩:=L5 V;obtain⟨ie,C⟩:=Bm.1 he;have j:i.zero=some zv:=by
  have:=o w;simp only[zeroValue,typeInfo,AK,run_program,Ad,hi,Ae]at this;cases I:i.zero with
  |none=>rw[I]at this;cases this
  |some v=>rw[I]at this;cases this;rfl
 refine run_build w t _ cells ?_;simp only[EE,hi,V,j,C];have O:P.cellsOf e=ie.size:=by simp[BU,C]
 rw[O]at g;simpa using g
def Xo(size:Nat): ∀ (g:List Value) (k:Nat) (C:Array Value),(∀ u∈g,u.cells.size=size)->C.size=(k+g.length)*size ->
  Instr.fill (λi=>some (i*size,size)) C ((Di k g.length).zip g)=some (C.toList.take (k*size)++g.flatMap λu=>u.cells.toList).toArray
 |[],k,C,_,j=>by
  simp only[AG,BG]at j;simp[Instr.fill,Be,j]
 | u::g,k,C,o,j=>by
  have p:u.cells.size=size:=o u F3;have r:C.size=k*size+size+g.length*size:=by rw[j];simp only[AC,A1];omega
  simp only[AC,List.range'_succ,B6,Instr.fill];rw[iN (by simp[p];omega),lE u (k*size) C Fj,Xo size g (k+1) _ (λx t=>o x (by simp[t])) ?_]
  ·congr 1;apply Bq;simp only[Dh,BA];have e:(Ie C.toList (k*size) u.cells.toList).take ((k+1)*size)=C.toList.take (k*size)++u.cells.toList:=by
    unfold Ie;rw[List.take_append_of_le_length (by simp;rw[A1];omega),Be (by simp;rw[A1];omega)]
   rw[e,AF]
  ·simp only[Ie,Bd,AE,BB,Ck,Bv,p,A1]at *;omega
def Ue : ∀ (i:List AV) (g:List Value),LRel F G i g w->(∀ v∈i,v.isVal=true)->Cells F G w (Hx (i.map AV.borrow)) (g.flatMap λu=>u.cells.toList)
 |[],g,h,_=>by
  match g,h.len with
  |[],_=>exact .nil
 | v::i,g,h,o=>by
  match g,h.len with
  | u::g,_ =>
   obtain⟨p,I,r⟩:=h.uncons;have j:v.borrow.isVal=true:=by
    have:=o v F3;cases v<;>first|rfl|cases this
   have t:=(M2 j p.borrow (GC (HE v u) F G w)).1;have:=Ue i g r λx C=>o x (by simp[C]);simp only[AW,Hx,BA];exact t.append this
def LZ(v:AV):v.borrow.cells.length=v.cells.length:=by
 cases v<;>simp[AV.borrow,borrow0,AV.cells]
def ZJ {t e g:Nat} {j:List (Nat×Operand)} {ρ:Operand->Value} {J:List AV} (h:CRel F G J H (j.map λp=>ρ p.2) w) (hu:P.underlying t=some (.slice e)) (o:0<P.cellsOf e) (hsmall:g*P.cellsOf e<=16777216)
  (O:j.map (·.1)=An g) (I:∀v∈J,v.isVal=true/\v.cells.length=P.cellsOf e) (hz:HD P e=true) (hr:R (.sl (some (P.cellsOf e)) (J.map AV.borrow)) H) :
  GR P ((do let r<-Instr.buildSlice t g (j.map λp=>(p.1,ρ p.2)).toArray;pure (Next.value r):Sem Next).run P w) (GB F G w R):=by
 have hpl:j.length=g:=by have:=congrArg List.length O;simpa using this
 have U:J.length=g:=by have:=h.l.len;simp at this;omega
 have hus:∀u∈j.map (λp=>ρ p.2),u.cells.size=P.cellsOf e:=by
  intro u hu';obtain⟨i,hi⟩:=Ab hu';have V:=(AD.1 hi).1;simp at V;have T:J[i]? =some (J[i]' Fj):=AL _;obtain⟨g1,g2⟩:=I _ (AB T);have:=(KV g1 (h.l.rel i _ u T hi)).2.2;omega
 unfold HD at hz;split at hz
 ·rename_i i hi;split at hz
  ·rename_i z hz';have key:∀zc:Array Value,Instr.fill (λi=>some (i*P.cellsOf e,P.cellsOf e)) ((CX (g*P.cellsOf e)).map (zc[· % zc.size]!)) (j.map λp=>(p.1,ρ p.2)) =
     some ((j.map λp=>ρ p.2).flatMap λu=>u.cells.toList).toArray:=λzc=>by
    have C:=Xo (P.cellsOf e) (j.map λp=>ρ p.2) 0 ((CX (g*P.cellsOf e)).map (zc[· % zc.size]!)) hus (by simp[hpl]);rw[show(Di 0 (j.map λp=>ρ p.2).length)=j.map (·.1) by rw[O,List.range_eq_range'];simp[hpl],Qc]at C;simpa using C
   have hcc:=Ue J _ h.l λv T=>(I v T).1;have hrun:(Instr.buildSlice t g (j.map λp=>(p.1,ρ p.2)).toArray).run P w = .ok (.slice (some ⟨w.heap.size,0,none⟩) g g) (w.alloc (.cells ((j.map λp=>ρ p.2).flatMap λu=>u.cells.toList).toArray e)):=by
    have hs:(sizeOf e).run P w = .ok (P.cellsOf e) w:=HG o w;simp only[Instr.buildSlice,AK,run_underlying hu,Ad,hs,Bc];rw[iN Fj];simp only[Ae,Ad];by_cases h0:g*P.cellsOf e=0
    ·simp only[iP h0,key];simp[newRow]
    ·simp only[iN h0,zeroValue,typeInfo,AK,run_program,Ad,hi,hz',Ae,key];simp[newRow]
   obtain⟨G',hc1,hc2⟩:=h.newList (J.map AV.borrow) (P.cellsOf e) g ((j.map λp=>ρ p.2).flatMap λu=>u.cells.toList).toArray e o (λx hx=>by
     obtain⟨v,T,rfl⟩:=AN.1 hx;rw[LZ];exact(I v T).2) (by simp[U]) (by
      have:g<=g*P.cellsOf e:=Nat.le_mul_of_pos_right _ o;unfold maxLen;omega) (by
      have:=hcc.len;rw[Hg (n:=P.cellsOf e) λx hx=>by
       obtain⟨v,T,rfl⟩:=AN.1 hx;rw[LZ];exact(I v T).2]at this
      simp only[Ap,U]at this;simp only[Bd];omega) (λi c hi'=>by
       have V:=(AD.1 hi').1;have hx:=AL (l:=(j.map λp=>ρ p.2).flatMap λu=>u.cells.toList) (i:=i) (by rw[<- hcc.len];exact V);obtain⟨s1,s2,_⟩:=hcc.at_ i c _ hi' hx;exact⟨s1,_,F3,s2⟩)
   simp only[Ap,U]at hc1;exact .value (by rw[AK,hrun];rfl) ⟨_,H,G',hr,hc1,hc2⟩
  ·cases hz
 ·cases hz
end
end Go.AI
namespace Go.AI
section
variable{P:Program}{F:Nat->Prop}{G:Gh}{w:World}{H:Fl}{R:AV->Fl->Prop}
def Iw{k:IntKind}{i:Int}{y:Nat}{code:BoundsCode}(g:0<=i)(j:i<=y)(w:World):(Instr.sliceBound (.int k i) y code).run P w = .ok i.toNat w:=by
 simp only[Instr.sliceBound,asIntOf,AK,Ae,Ad,Bc];rw[iP ⟨g,j⟩]
inductive OptB:Option Value->Option Int->Prop where
 |none:OptB none none
 |some (k:IntKind) (i:Int):OptB (some (.int k i)) (some i)
def Hs {isSlice:Bool} {len cap:Nat} {t C I:Option Value} {l h m:Option Int} (o:OptB t l) (J:OptB C h) (T:OptB I m) (U:m.isSome=true->h.isSome=true)
  (V:0<=l.getD 0) (h1:l.getD 0<=h.getD len) (h2:h.getD len<=m.getD cap) (h3:m.getD cap<=cap) (w:World) :
  (Instr.sliceBounds isSlice len cap t C I).run P w = .ok ((l.getD 0).toNat,(h.getD len).toNat,(m.getD cap).toNat) w:=by
 cases T with
 | none =>
  cases J with
  | none =>
   cases o with
   |none=>simp[Instr.sliceBounds]
   |some k i =>
    simp only[BP,BR]at *;simp[Instr.sliceBounds,Iw V h1]
  | some p j =>
   simp only[BP,BR]at *;have g:=Iw (P:=P) (k:=p) (i:=j) (y:=cap) (code:=if isSlice then .sliceAcap else .sliceAlen) Fj Fj  w;cases o with
   |none=>simp[Instr.sliceBounds,g]
   |some k i =>
    simp only[BP]at *;have r:=Iw (P:=P) (k:=k) (i:=i) (y:=j.toNat) (code:=.sliceB) Fj Fj  w;simp[Instr.sliceBounds,g,r]
 | some km O =>
  cases J with
  |none=>simp at U
  | some p j =>
   simp only[BP]at *;have g:=Iw (P:=P) (k:=km) (i:=O) (y:=cap) (code:=if isSlice then .slice3Acap else .slice3Alen) Fj Fj  w;have R:=Iw (P:=P) (k:=p) (i:=j) (y:=O.toNat) (code:=.slice3B) Fj Fj  w;cases o with
   |none=>simp[Instr.sliceBounds,g,R]
   |some k i =>
    simp only[BP]at *;have r:=Iw (P:=P) (k:=k) (i:=i) (y:=j.toNat) (code:=.slice3C) Fj Fj  w;simp[Instr.sliceBounds,g,R,r]
def VRel.stretch {J:Option Nat} {g:List AV} {b q r n:Nat} (h:VRel G w (.sl J g) (.slice (some ⟨b,q,none⟩) g.length r)) (V : ∀ x∈g,x.cells.length=n) {l k m:Nat} (O:l<=k) (hk:k<=g.length) (hkm:k<=m) (hm:m<=r)
  (j:Option Nat) (ho:∀x,j=some x->x=n/\0<x) :
  VRel G w (.sl j ((g.take k).drop l)) (.slice (some (if m=l then⟨b,q,none⟩else(⟨b,q,none⟩:Addr).add (l*n))) (k - l) (m - l)):=by
 have t:((g.take k).drop l).length=k - l:=IG;cases h with
 |slany =>
  have h1:k=0:=by simpa using hk
  have h2:m=0:=Fj;have h3:l=0:=Fj;subst h1;subst h2;subst h3;simpa using VRel.slany j ⟨b,q,none⟩
 | sl _ _ sz _ _ _ u hsz hown hl hmx P R =>
  have T:∀x∈(g.take k).drop l,x.cells.length=n:=λx U=>V x (Cn (Df U));have p:∀(i:Nat) (c:AV),(Hx ((g.take k).drop l))[i]? =some c->(Hx g)[l*n+i]? =some c:=by
   intro i c o;have e1:g=g.take l++((g.take k).drop l++g.drop k):=by
    have:(g.take k).take l=g.take l:=by rw[DA,Bw O]
    rw[<- this,<- AF,A8,A8]
   have e2:(Hx (g.take l)).length=l*n:=by
    rw[Hg (n:=n) λx U=>V x (Cn U),BB,Bw Fj]
   rw[e1,La,AO Fj,e2,A5,La,Aa (AD.1 o).1];exact o
  by_cases C:m=l
  ·have hkl:k=l:=Fj;have I:(g.take k).drop l=[]:=List.eq_nil_of_length_eq_zero Fj;rw[iP C,I,show k - l=([]:List AV).length by simp;omega];exact .sl j [] n b q (m - l) u (λe he=>by simp at he) ho F3 Fj (λi c o=>by simp[Hx]at o) (λi c o=>by simp[Hx]at o)
  ·rw[iN C,Hk];have:=VRel.sl (G:=G) (w:=w) j ((g.take k).drop l) n b (q+l*n) (m - l) (λi=>u (l*n+i)) T ho Fj Fj  (λi c o=>by
     have:=P _ c (p i c o);rw[<- AT]at this;exact this) (λi c o=>R _ c (p i c o))
   rw[t]at this;exact this
def cP {t e ob o len p:Nat} {u:Value} {O:List AV} {I:List Value} {lo hi mx:Option Value} {l h:Option Int} (hc:CRel F G (.msl ob o len p::O) H (u::I) w) (hu:P.underlying t=some (.slice e))
  (hl:OptB lo l) (hh:OptB hi h) (hm:OptB mx none)
  (h0:0<=l.getD 0) (h1:l.getD 0<=h.getD len) (h2:h.getD len<=len) (hs:p=P.cellsOf e) (hz:∃i,P.info? e=some i) (h3:l.getD 0=0\/l.getD 0<len)
  (hr:R (.msl ob (o+(l.getD 0).toNat*p) ((h.getD len).toNat - (l.getD 0).toNat) p) H) :
  GR P ((do let r<-Instr.sliceAt t u lo hi mx;pure (Next.value r):Sem Next).run P w) (GB F G w R):=by
 have T:=hc.l.rel 0 _ _ rfl rfl;obtain⟨i,hi'⟩:=hz;have J:∀w,(sizeOf e).run P w = .ok (P.cellsOf e) w:=λw=>by simp[sizeOf,typeInfo,hi',BU]
 cases T with
 | msl _ _ _ _ b g hob hlc hmx j =>
  obtain⟨C,E,j,hfit⟩:=j;have hb:=Hs (P:=P) (isSlice:=true) (len:=len) (cap:=g) hl hh hm (λh=>by cases h) h0 h1 (by simp only[BR];omega) F3 w;have U:(Instr.sliceAt t (.slice (some ⟨b,o,none⟩) len g) lo hi mx).run P w = .ok (.slice (some ⟨b,o+(l.getD 0).toNat*p,none⟩) ((h.getD len).toNat - (l.getD 0).toNat) (g - (l.getD 0).toNat)) w:=by
   simp only[Instr.sliceAt,Instr.slice,AK,run_underlying hu,Ad,hb,J,BR,AZ];subst hs;by_cases V:g=(l.getD 0).toNat
   ·have e0:(l.getD 0).toNat=0:=Fj;rw[iP V,e0];simp
   ·rw[iN V];simp[Hk]
  have hmul:g*p=(l.getD 0).toNat*p+(g - (l.getD 0).toNat)*p:=by
   rw[<- A1];congr 1;omega
  exact .value (by rw[AK,U];rfl) (GB.plain hc hr (.msl _ _ _ _ b _ hob Fj Fj  ⟨C,E,j,Fj⟩) (Fu rfl rfl _))
def jK{t e:Nat}{o:Option Nat}{j:List AV}{u:Value}{rest:List AV}{urest:List Value}{lo hi mx:Option Value}{l h m:Option Int}(hc:CRel F G (.sl o j::rest) H (u::urest) w)(hu:P.underlying t=some (.slice e))
  (hl:OptB lo l)(hh:OptB hi h)(hm:OptB mx m)(hx:m.isSome=true->h.isSome=true)
  (h0:0<=l.getD 0)(h1:l.getD 0<=h.getD j.length)(h2:h.getD j.length<=j.length)(hn:∀x∈j,x.cells.length=P.cellsOf e)
  (T:match (generalizing:=false) m with
   |none=>R (.sl (if h.getD j.length=j.length then o else none) ((j.take (h.getD j.length).toNat).drop (l.getD 0).toNat)) H
   |some m=>m=h.getD j.length/\0<P.cellsOf e/\R (.sl (some (P.cellsOf e)) ((j.take (h.getD j.length).toNat).drop (l.getD 0).toNat)) H) (hz:∃i,P.info? e=some i) :
  GR P ((do let r<-Instr.sliceAt t u lo hi mx;pure (Next.value r):Sem Next).run P w) (GB F G w R):=by
 have V:=hc.l.rel 0 _ _ rfl rfl;have htok:=hc.l.tok 0 _ _ rfl rfl;obtain⟨i,hi'⟩:=hz;have hsize:∀w,(sizeOf e).run P w = .ok (P.cellsOf e) w:=λw=>by simp[sizeOf,typeInfo,hi',BU]
 have hown:∀x,o=some x->j≠[]->x=P.cellsOf e/\0<x:=by
  intro x hx hne;cases V with
  |slnil=>exact absurd rfl hne
  |slany=>exact absurd rfl hne
  |sl _ _ sz b q g f hsz O _ _ _ _ =>
   obtain⟨y,ys,rfl⟩:=List.exists_cons_of_ne_nil hne;exact⟨by rw[(O x hx).1,<- hsz y F3,hn y F3],(O x hx).2⟩
 have run:∀(a:Option Addr) (g:Nat),j.length<=g->(Instr.sliceAt t (.slice a j.length g) lo hi mx).run P w =
   .ok (.slice (if(m.getD g).toNat=(l.getD 0).toNat then a else a.map (·.add ((l.getD 0).toNat*P.cellsOf e))) ((h.getD j.length).toNat - (l.getD 0).toNat) ((m.getD g).toNat - (l.getD 0).toNat)) w:=by
  intro a g hcap;have hmc:h.getD j.length<=m.getD g/\m.getD g<=g:=by
   cases m with
   |none=>simp only[BR];omega
   |some mm=>simp only[BP]at *;omega
  have hb:=Hs (P:=P) (isSlice:=true) (len:=j.length) (cap:=g) hl hh hm hx h0 h1 hmc.1 hmc.2 w;simp only[Instr.sliceAt,Instr.slice,AK,run_underlying hu,Ad,hb,hsize];rfl
 cases V with
 | slnil o =>
  have e1:(h.getD (([]:List AV).length:Int)).toNat=0:=by simp at h1 h2 ⊢;omega
  have e2:(l.getD 0).toNat=0:=by simp at h1 h2;omega
  have e3:(m.getD ((0:Nat):Int)).toNat=0:=by
   cases m with
   |none=>rfl
   |some mm=>simp at T h1 h2 ⊢;omega
  have I:=run none 0 F3;simp only[e1,e2,e3,AG]at I;have U:(Instr.sliceAt t (.slice none 0 0) lo hi mx).run P w = .ok (.slice none 0 0) w:=by
   have e4:(h.getD 0).toNat=0:=by simpa using e1
   simpa [e4]using I
  refine .value (u:=.slice none 0 0) (w':=w) (by rw[AK,U];rfl) ?_;cases m with
  |none=>exact GB.plain hc T (by simp;exact .slnil _) (by simp[HY,L3,AV.flat,AV.cells,Io,Value.cells,tok])
  |some mm=>exact GB.plain hc T.2.2 (by simp;exact .slnil _) (by simp[HY,L3,AV.flat,AV.cells,Io,Value.cells,tok])
 | slany o a =>
  have e1:(h.getD (([]:List AV).length:Int)).toNat=0:=by simp at h1 h2 ⊢;omega
  have e2:(l.getD 0).toNat=0:=by simp at h1 h2;omega
  have e3:(m.getD ((0:Nat):Int)).toNat=0:=by
   cases m with
   |none=>rfl
   |some mm=>simp at T h1 h2 ⊢;omega
  have I:=run (some a) 0 F3;simp only[e1,e2,e3,AG]at I;have U:(Instr.sliceAt t (.slice (some a) 0 0) lo hi mx).run P w = .ok (.slice (some a) 0 0) w:=by
   have e4:(h.getD 0).toNat=0:=by simpa using e1
   simpa [e4]using I
  refine .value (u:=.slice (some a) 0 0) (w':=w) (by rw[AK,U];rfl) ?_;cases m with
  |none=>exact GB.plain hc T (by simp;exact .slany _ _) (by by_cases hh:h.getD 0=0<;>cases o<;>simp[hh,HY,L3,AV.flat,AV.cells,Io,Value.cells,tok])
  |some mm=>exact GB.plain hc T.2.2 (by simp;exact .slany _ _) (by simp[HY,L3,AV.flat,AV.cells,Io,Value.cells,tok])
 | sl o j sz b q g f hsz O hle hmx hcs hus =>
  have V:VRel G w (.sl o j) (.slice (some ⟨b,q,none⟩) j.length g):=.sl o j sz b q g f hsz O hle hmx hcs hus;have I:=run (some ⟨b,q,none⟩) g hle;have hmc:h.getD j.length<=m.getD g/\m.getD g<=g:=by
   cases m with
   |none=>simp only[BR];omega
   |some mm=>simp only[BP]at *;omega
  have eaddr:(if(m.getD g).toNat=(l.getD 0).toNat then some (⟨b,q,none⟩:Addr)else(some (⟨b,q,none⟩:Addr)).map (·.add ((l.getD 0).toNat*P.cellsOf e))) =
    some (if(m.getD g).toNat=(l.getD 0).toNat then⟨b,q,none⟩else(⟨b,q,none⟩:Addr).add ((l.getD 0).toNat*P.cellsOf e)):=by split<;>rfl
  rw[eaddr]at I;have hst:∀(own':Option Nat),(∀x,own'=some x->x=P.cellsOf e/\0<x)->_:=λown' ho =>
   V.stretch hn (l:=(l.getD 0).toNat) (k:=(h.getD j.length).toNat) (m:=(m.getD g).toNat) Fj Fj  Fj Fj  own' ho
  refine .value (by rw[AK,I];rfl) ?_;cases m with
  |some mm =>
   obtain⟨hmm,hp0,T⟩:=T;have hv:=hst (some (P.cellsOf e)) λx hx=>by cases hx;exact⟨rfl,hp0⟩
   refine GB.plain hc T hv ?_;simp only[BP,hmm]at hv ⊢;simp[HY,L3,AV.flat,AV.cells,Io,Value.cells,tok]
  | none =>
   simp only at T;by_cases J:h.getD j.length=j.length
   ·rw [iP J] at T
    by_cases hes:j=[]
    ·subst hes;have e0:(l.getD 0).toNat=0:=by simp at h1 h2;omega
     have e1:(h.getD (([]:List AV).length:Int)).toNat=0:=by rw[J];rfl
     simp only[e0,e1,BR,List.take_nil,List.drop_nil,Nat.sub_zero,Nat.zero_mul]at T ⊢;have:(if(g:Int).toNat=0 then(⟨b,q,none⟩:Addr)else(⟨b,q,none⟩:Addr).add 0)=⟨b,q,none⟩:=by split<;>simp[Addr.add]
     rw[this];exact GB.same (hc.get (i:=0) rfl F3) T
    ·have hv:=hst o λx hx=>hown x hx hes;refine GB.same (hc.one hv (λp hp=>?_) λbb=>?_) T
     ·rw[Rs _ _ _ _ _ _ rfl,Ag]at hp;subst hp;cases o with
      |none=>trivial
      | some n =>
       have hn':n=P.cellsOf e:=(hown n rfl hes).1;subst hn';intro hlt;simp only[BR,J,AZ]at hlt ⊢;obtain⟨t1,t2,C,E,t3,t4⟩:=htok (.sl (some (P.cellsOf e)) j,.slice (some ⟨b,q,none⟩) j.length g) (by rw[Rs _ _ _ _ _ _ rfl];simp) Fj;have hcl:¬g=(l.getD 0).toNat:=Fj;rw[iN hcl,Hk];refine⟨t1, ?_,C,E,t3, ?_⟩
       ·show G.kind b=_;rw[t2];have hL:(l.getD 0).toNat<=j.length:=Fj;have:=BH (P.cellsOf e) hL;rw[EF];congr 1;show q+_=q+_+_;omega
       ·show q+_+_<=_;have hL:(l.getD 0).toNat<=g:=Fj;have h5:=BH (P.cellsOf e) hL;rw[EF];have h4:q+g*P.cellsOf e<=C.size:=t4;omega
     ·rw [Fx]
      have hle2:CW bb (HY (AV.sl o ((j.take (h.getD j.length).toNat).drop (l.getD 0).toNat)) (Value.slice (some (if((none:Option Int).getD g).toNat=(l.getD 0).toNat then⟨b,q,none⟩else(⟨b,q,none⟩:Addr).add ((l.getD 0).toNat*P.cellsOf e))) ((h.getD j.length).toNat - (l.getD 0).toNat) (((none:Option Int).getD g).toNat - (l.getD 0).toNat)))
        <= CW bb (HY (AV.sl o j) (Value.slice (some ⟨b,q,none⟩) j.length g)):=by
       cases o with
       |none=>rw[Fu rfl rfl,Fu rfl rfl];exact AS _
       | some n =>
        simp only[HY,L3,AV.flat,AV.cells,Io,Value.cells,B6,D_,B7,Cj,tok,BR,J,AZ];by_cases hlt:j.length<g
        ·have hcl:¬g=(l.getD 0).toNat:=Fj;rw[iP hlt,iN hcl,iP Fj,Hk];exact AS _
        ·rw[iN hlt,iN Fj];exact AS _
      omega
   ·rw[iN J]at T;exact GB.plain hc T (hst none λx hx=>by cases hx) (Fu rfl rfl _)
end
end Go.AI
