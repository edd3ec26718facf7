/- A part. -/
import Derived.WalkKit
import Derived.Orders
import Derived.OrdersIn
import Derived.TacticsIn
import Derived.RangeFuncIn
import Derived.RangeFuncRecord
import Derived.MapKept
import Derived.DeepKeys5
import Derived.Lib.LazyBuf
import Derived.KernelRfl
set_option linter.unusedSimpArgs false
set_option linter.unusedVariables false
set_option linter.defProp false
open Array renaming ext'->Bj,getElem?_eq_getElem->Ai,getElem?_eq_some_iff->An,getElem?_toList->Ac,getElem_toList->D3,length_toList->Bt,range->CR
open Bool renaming and_eq_true->AM
open Int renaming not_lt->Dw,toNat_natCast->Ag
open List renaming all_cons->Al,all_eq_true->Am,append_assoc->AE,cons_append->AW,count->CQ,count_append->Cc,count_eq_zero->Dz,count_le_length->Dy,count_nil->Ba,count_pos_iff->C1,drop_drop->A9,drop_eq_getElem_cons->BG,ext_getElem?->A3,filterMap_cons->B5,filterMap_eq_nil_iff->B3,filterMap_nil->Ca,flatMap_append->DX,flatMap_cons->A5,getElem?_append_left->AX,getElem?_append_right->AN,getElem?_cons_succ->B1,getElem?_cons_zero->A7,getElem?_drop->A2,getElem?_eq_getElem->AH,getElem?_eq_none->Av,getElem?_eq_some_iff->AC,getElem?_map->Aa,getElem?_of_mem->Ae,getElem?_set->Ax,getElem?_take->Aj,getElem?_toArray->Bb,getElem?_zip_eq_some->BZ,length_append->AF,length_cons->AD,length_drop->Cb,length_map->Ap,length_nil->AJ,length_set->Ao,length_singleton->BL,length_take->BF,map_append->Aq,map_cons->AS,map_nil->Ah,mem_filterMap->CH,mem_map->AO,mem_of_getElem?->AB,mem_of_mem_drop->DV,mem_of_mem_take->Ce,mem_singleton->Ab,of_mem_zip->CZ,range->Ak,range'->DY,range_succ->B9,replicate->A0,size_toArray->BR,sum_append->B_,sum_cons->B2,sum_nil->CP,take_append->D4,take_append_drop->A_,take_of_length_le->Bu,take_succ_eq_append_getElem->D1,take_take->C4,zipIdx_cons->D5,zip_append->C3,zip_cons_cons->B4,zip_nil_right->Dx
open Nat renaming add_assoc->Ay,add_comm->Bk,add_mul->Az,add_sub_cancel_left->A4,add_zero->BA,le_of_not_lt->B',le_refl->AT,le_trans->AL,lt_irrefl->Bs,lt_of_lt_of_le->BP,min_eq_left->B6,mul_le_mul_right->BE,ne_of_lt->CA,sub_mul->D7,sub_self->AP,zero_add->AU
open Option renaming bind_some->BY,eq_none_or_eq_some->DT,getD_none->BH,getD_some->BO,isSome_iff_exists->Bc,map_some->BQ
open Go.Program renaming built->D6,cellsOf->BJ
open Go.Result renaming andThen_ok->AZ
open Go.Sem renaming run_bind->AK,run_ite->Bi,run_pure->Ad
namespace Go.AI
def kr{p:Prop}(h:p:=by kernel_rfl):p:=h
def FR{p:Prop}(h:p:=by omega):p:=h
def dk{p:Prop}(h:p:=by decide +kernel):p:=h
def sm{p:Prop}(h:p:=by simp):p:=h
def dc{p:Prop}(h:p:=by decide):p:=h
def Hy{p:Prop}(h:p:=by simp;omega):p:=h
def dF(h:Decidable False):@decide False h=false:=decide_false h
def dT(h:Decidable True):@decide True h=true:=decide_true h
def iN{c:Prop}{h:Decidable c}(hnc:¬c){α:Sort _}{t e:α}:(@ite α c h t e)=e:=if_neg hnc
def iP{c:Prop}{h:Decidable c}(hc:c){α:Sort _}{t e:α}:(@ite α c h t e)=t:=if_pos hc
def tV:True:=trivial
end Go.AI
namespace Go.AI
structure LoopRec where
 tag:Nat
 ps:Array Tmp
 assign:Code
 body:Code
inductive AV where
 |undef
 |int (k:IntKind) (n:Int)
 |bool (b:Bool)
 |str (s:ByteArray)
 |nilp
 |ptr (o off:Nat)
 |cptr (cs:List AV) (off:Nat)
 |sl (own:Option Nat) (es:List AV)
 |msl (o off len sz:Nat)
 |mslc (o off len sz cap:Nat)
 |fn (f:Fn) (first captured:List AV)
 |nilf
 |mapr (o:Nat)
 |nilm
 |it (o:Nat)
 |yld (o:Nat) (L:LoopRec)
 |ifc (t:TypeId) (a:AV)
 |nili
 |agg (cs:List AV)
 |tup (vs:List AV)
 deriving Inhabited
def AV.cells:AV->List AV
 |.agg cs=>cs
 |v=>[v]
def AV.flat:AV->List AV
 |.tup vs=>vs.flatMap AV.cells
 |v=>v.cells
def AV.scalar:AV->Bool
 |.undef | .agg _ | .tup _=>false
 |_=>true
def AV.isVal:AV->Bool
 |.undef | .tup _=>false
 |_=>true
def borrow1:AV->AV
 |.sl _ es => .sl none es
 |v=>v
def borrow0:AV->AV
 |.agg cs => .agg (cs.map borrow1)
 |.sl _ es => .sl none es
 |v=>v
def AV.borrow:AV->AV
 |.tup vs => .tup (vs.map borrow0)
 |v=>borrow0 v
inductive Kind where
 |imm
 |obj
 |buf (p:Nat)
 |map
 |iter
 |loop (L:LoopRec)
def Kind.sp:Kind->Bool
 |.map | .iter | .loop _=>true
 |_=>false
structure Gh where
 obs:List Nat
 kind:Nat->Kind
def Gh.safe(G:Gh)(b o:Nat):Prop :=
 match G.kind b with
 |.imm=>True
 |.buf p=>o<p
 |_=>False
def HP(es:List AV):List AV:=es.flatMap AV.cells
inductive VRel (G:Gh) (w:World):AV->Value->Prop where
 |undef (v:Value):VRel G w .undef v
 |int (k:IntKind) (n:Int):VRel G w (.int k n) (.int k n)
 |bool (b:Bool):VRel G w (.bool b) (.bool b)
 |str (s:ByteArray):VRel G w (.str s) (.string s)
 |nilp:VRel G w .nilp (.pointer none)
 |ptr (o off b:Nat) (h:G.obs[o]? =some b) (hc:∃(C:Array Value) (E:TypeId),w.heap[b]? =some (.cells C E (0,0))):VRel G w (.ptr o off) (.pointer (some ⟨b,off,none⟩))
 | cptr (cs:List AV) (off b q:Nat) (u:Nat->Value)
   (h:∀(i:Nat) (c:AV),cs[i]? =some c->c.scalar=true/\G.safe b (q+i)/\w.cell? ⟨b,q+i,none⟩=some (u i))
   (hu:∀(i:Nat) (c:AV),cs[i]? =some c->VRel G w c (u i)):VRel G w (.cptr cs off) (.pointer (some ⟨b,q+off,none⟩))
 |slnil (own:Option Nat):VRel G w (.sl own []) (.slice none 0 0)
 |slany (own:Option Nat) (a:Addr):VRel G w (.sl own []) (.slice (some a) 0 0)
 | sl (own:Option Nat) (es:List AV) (sz b q cap:Nat) (u:Nat->Value)
   (hsz:∀e∈es,e.cells.length=sz) (hown:∀n,own=some n->n=sz/\0<n) (hl:es.length<=cap) (hm:cap<=maxLen)
   (h:∀(i:Nat) (c:AV),(HP es)[i]? =some c->c.scalar=true/\G.safe b (q+i)/\w.cell? ⟨b,q+i,none⟩=some (u i))
   (hu:∀(i:Nat) (c:AV),(HP es)[i]? =some c->VRel G w c (u i)):VRel G w (.sl own es) (.slice (some ⟨b,q,none⟩) es.length cap)
 | msl (o off len sz b cap:Nat) (h:G.obs[o]? =some b) (hl:len<=cap) (hm:cap<=maxLen)
   (hc:∃(C:Array Value) (E:TypeId),w.heap[b]? =some (.cells C E (0,0))/\off+cap*sz<=C.size):VRel G w (.msl o off len sz) (.slice (some ⟨b,off,none⟩) len cap)
 | mslc (o off len sz cap b:Nat) (h:G.obs[o]? =some b) (hl:len<=cap) (hm:cap<=maxLen)
   (hc:∃(C:Array Value) (E:TypeId),w.heap[b]? =some (.cells C E (0,0))/\off+cap*sz<=C.size):VRel G w (.mslc o off len sz cap) (.slice (some ⟨b,off,none⟩) len cap)
 | fn (f:Fn) (first captured:List AV) (fi ca:Array Value) (h1:first.length=fi.size) (h2:captured.length=ca.size)
   (h3:∀(i:Nat) (c:AV) (v:Value),first[i]? =some c->fi[i]? =some v->VRel G w c v) (h4:∀(i:Nat) (c:AV) (v:Value),captured[i]? =some c->ca[i]? =some v->VRel G w c v) :
   VRel G w (.fn f first captured) (.func f fi ca)
 |nilf:VRel G w .nilf .nilFunc
 |mapr (o b:Nat) (h:G.obs[o]? =some b) (hb:b<w.heap.size) (hk:G.kind b = .map):VRel G w (.mapr o) (.map (some b))
 |nilm:VRel G w .nilm (.map none)
 |it (o b:Nat) (h:G.obs[o]? =some b) (hb:b<w.heap.size) (hk:G.kind b = .iter):VRel G w (.it o) (.pointer (some ⟨b,0,none⟩))
 |yld (o b:Nat) (L:LoopRec) (h:G.obs[o]? =some b) (hb:b<w.heap.size) (hk:G.kind b = .loop L):VRel G w (.yld o L) (.func (.yield b) #[] #[])
 |ifc (t:TypeId) (a:AV) (v:Value) (hs:a.isVal=true) (h:VRel G w a v):VRel G w (.ifc t a) (.iface t v)
 |nili:VRel G w .nili .nilIface
 | agg (cs:List AV) (vs:Array Value) (hl:cs.length=vs.size) (hs : ∀ c∈cs,c.scalar=true)
   (h:∀(i:Nat) (c:AV) (v:Value),cs[i]? =some c->vs[i]? =some v->VRel G w c v):VRel G w (.agg cs) (.agg vs)
 | tup (cs:List AV) (vs:Array Value) (hl:cs.length=vs.size) (hs : ∀ c∈cs,c.isVal=true)
   (h:∀(i:Nat) (c:AV) (v:Value),cs[i]? =some c->vs[i]? =some v->VRel G w c v):VRel G w (.tup cs) (.tuple vs)
structure Keeps (G:Gh) (w:World) (G':Gh) (w':World):Prop where
 obs:∀(o b:Nat),G.obs[o]? =some b->G'.obs[o]? =some b
 shape:∀(b:Nat) (C:Array Value) (E:TypeId),w.heap[b]? =some (.cells C E (0,0)) -> ∃C':Array Value,w'.heap[b]? =some (.cells C' E (0,0))/\C'.size=C.size
 sp:∀b:Nat,b<w.heap.size->(G.kind b).sp=true->b<w'.heap.size/\G'.kind b=G.kind b
 safe:∀(b o:Nat) (v:Value),G.safe b o->w.cell? ⟨b,o,none⟩=some v->G'.safe b o/\w'.cell? ⟨b,o,none⟩=some v
def Keeps.refl(G:Gh)(w:World):Keeps G w G w:=⟨λ_ _ h=>h,λ_ C _ h=>⟨C,h,rfl⟩,λ_ h _=>⟨h,rfl⟩,λ_ _ _ h1 h2=>⟨h1,h2⟩⟩
def Keeps.trans{G G' G'':Gh}{w w' w'':World}(h:Keeps G w G' w')(h':Keeps G' w' G'' w''):Keeps G w G'' w'' :=
 ⟨λo b hb=>h'.obs o b (h.obs o b hb),λb C E hb=>by
   obtain⟨C',h1,h2⟩:=h.shape b C E hb
   obtain⟨C'',h3,h4⟩:=h'.shape b C' E h1
   exact⟨C'',h3,h4.trans h2⟩,λb hb hs =>
   let⟨h1,h2⟩:=h.sp b hb hs
   let⟨h3,h4⟩:=h'.sp b h1 (by rw[h2];exact hs)
   ⟨h3,h4.trans h2⟩,λb o v h1 h2=>let⟨a,c⟩:=h.safe b o v h1 h2;h'.safe b o v a c⟩
def VRel.keep{G G':Gh}{w w':World}(hk:Keeps G w G' w'){a:AV}{v:Value}(h:VRel G w a v):VRel G' w' a v:=by
 induction h with
 |undef v=>exact .undef v
 |int k n=>exact .int k n
 |bool b=>exact .bool b
 |str s=>exact .str s
 |nilp=>exact .nilp
 |ptr o off b h hc =>
  obtain⟨C,E,h1⟩:=hc
  obtain⟨C',h2,_⟩:=hk.shape b C E h1
  exact .ptr o off b (hk.obs o b h) ⟨C',E,h2⟩
 |cptr cs off b q u h hu ih=>exact .cptr cs off b q u (λi c hi=>⟨(h i c hi).1,hk.safe b _ _ (h i c hi).2.1 (h i c hi).2.2⟩) ih
 |slnil own=>exact .slnil own
 |slany own a=>exact .slany _ a
 |sl own es sz b q cap u hsz hown hl hm h hu ih =>
  exact .sl own es sz b q cap u hsz hown hl hm (λi c hi=>⟨(h i c hi).1,hk.safe b _ _ (h i c hi).2.1 (h i c hi).2.2⟩) ih
 |msl o off len sz b cap h hl hm hc =>
  obtain⟨C,E,h1,h2⟩:=hc
  obtain⟨C',h3,h4⟩:=hk.shape b C E h1
  exact .msl o off len sz b cap (hk.obs o b h) hl hm ⟨C',E,h3,FR⟩
 |mslc o off len sz cap b h hl hm hc =>
  obtain⟨C,E,h1,h2⟩:=hc
  obtain⟨C',h3,h4⟩:=hk.shape b C E h1
  exact .mslc o off len sz cap b (hk.obs o b h) hl hm ⟨C',E,h3,FR⟩
 |fn f first captured fi ca h1 h2 h3 h4 ih1 ih2=>exact .fn f first captured fi ca h1 h2 ih1 ih2
 |nilf=>exact .nilf
 |mapr o b h hb h2=>obtain⟨h3,h4⟩:=hk.sp b hb (by rw[h2];rfl);exact .mapr o b (hk.obs o b h) h3 (h4.trans h2)
 |nilm=>exact .nilm
 |it o b h hb h2=>obtain⟨h3,h4⟩:=hk.sp b hb (by rw[h2];rfl);exact .it o b (hk.obs o b h) h3 (h4.trans h2)
 |yld o b L h hb h2=>obtain⟨h3,h4⟩:=hk.sp b hb (by rw[h2];rfl);exact .yld o b L (hk.obs o b h) h3 (h4.trans h2)
 |ifc t a v hs h ih=>exact .ifc t a v hs ih
 |nili=>exact .nili
 |agg cs vs hl hs h ih=>exact .agg cs vs hl hs ih
 |tup cs vs hl hs h ih=>exact .tup cs vs hl hs ih
def VRel.borrow1{G:Gh}{w:World}{a:AV}{v:Value}(h:VRel G w a v):VRel G w (borrow1 a) v:=by
 cases h with
 |slnil own=>exact .slnil none
 |slany own a=>exact .slany _ a
 |sl own es sz b q cap u hsz hown hl hm h hu=>exact .sl none es sz b q cap u hsz (λn hn=>by cases hn) hl hm h hu
 |cptr cs off b q u h hu=>exact .cptr cs off b q u h hu
 |_=>constructor<;>assumption
def GT(a:AV):(Go.AI.borrow1 a).scalar=a.scalar:=by cases a<;>rfl
def VRel.borrow0{G:Gh}{w:World}{a:AV}{v:Value}(h:VRel G w a v):VRel G w (borrow0 a) v:=by
 cases h with
 |slnil own=>exact .slnil none
 |slany own a=>exact .slany _ a
 |sl own es sz b q cap u hsz hown hl hm h hu=>exact .sl none es sz b q cap u hsz (λn hn=>by cases hn) hl hm h hu
 | agg cs vs hl hs h =>
  refine .agg _ vs (by simpa using hl) (λc hc=>?_) (λi c u hi hv=>?_)
  ·obtain⟨d,hd,rfl⟩:=AO.1 hc
   rw[GT];exact hs d hd
  ·rw[Aa]at hi
   cases hci:cs[i]? with
   |none=>rw[hci]at hi;cases hi
   |some d=>rw[hci]at hi;cases hi;exact(h i d u hci hv).borrow1
 |cptr cs off b q u h hu=>exact .cptr cs off b q u h hu
 |_=>constructor<;>assumption
def Xe(a:AV):(Go.AI.borrow0 a).isVal=a.isVal:=by cases a<;>rfl
def VRel.borrow{G:Gh}{w:World}{a:AV}{v:Value}(h:VRel G w a v):VRel G w a.borrow v:=by
 cases h with
 | tup cs vs hl hs h =>
  refine .tup _ vs (by simpa using hl) (λc hc=>?_) (λi c u hi hv=>?_)
  ·obtain⟨d,hd,rfl⟩:=AO.1 hc
   rw[Xe];exact hs d hd
  ·rw[Aa]at hi
   cases hci:cs[i]? with
   |none=>rw[hci]at hi;cases hi
   |some d=>rw[hci]at hi;cases hi;exact(h i d u hci hv).borrow0
 |slnil own=>exact(VRel.slnil own).borrow0
 |slany own a=>exact .slany _ a
 |sl own es sz b q cap u hsz hown hl hm h hu=>exact(VRel.sl own es sz b q cap u hsz hown hl hm h hu).borrow0
 |agg cs vs hl hs h=>exact(VRel.agg cs vs hl hs h).borrow0
 |cptr cs off b q u h hu=>exact .cptr cs off b q u h hu
 |_=>constructor<;>assumption
def Qm:AV->Option Value
 |.str s=>some (.string s)
 |.int k n=>some (.int k n)
 |.bool b=>some (.bool b)
 |_=>none
def HJ:List ByteArray:=[⟨#[97,110,100]⟩,⟨#[97,110,121]⟩,⟨#[97,116]⟩,⟨#[98,97,99,107]⟩,⟨#[98,111,120]⟩,⟨#[98,117,114,115,116]⟩,⟨#[98,121]⟩,⟨#[99,97,112,97,99,105,116,121]⟩,⟨#[99,101,105,108,105,110,103]⟩,⟨#[99,104,101,99,107]⟩,⟨#[99,111,110,116,114,97,99,116]⟩,⟨#[99,111,117,110,116]⟩,⟨#[100,101,109,97,110,100]⟩,⟨#[100,114,111,112]⟩,⟨#[101,97,99,104]⟩,⟨#[101,100,103,101]⟩,⟨#[101,110,116,114,105,101,115]⟩,⟨#[102,97,108,115,101]⟩,⟨#[102,105,101,108,100]⟩,⟨#[102,108,111,111,114]⟩,⟨#[102,114,111,109]⟩,⟨#[105,100]⟩,⟨#[105,110]⟩,⟨#[105,110,110,101,114]⟩,⟨#[105,110,116,111]⟩,⟨#[108,105,110,107]⟩,⟨#[110,101,116,119,111,114,107]⟩,⟨#[110,111,100,101]⟩,⟨#[110,111,116]⟩,⟨#[111,112,101,110]⟩,⟨#[111,114]⟩,⟨#[112,97,116,104]⟩,⟨#[112,111,114,116]⟩,⟨#[112,114,105,99,101]⟩,⟨#[114,111,117,116,101]⟩,⟨#[114,117,108,101,115]⟩,⟨#[115,116,97,103,101]⟩,⟨#[116,97,107,101]⟩,⟨#[116,101,110,97,110,116]⟩,⟨#[116,104,101,110]⟩,⟨#[116,105,109,101]⟩,⟨#[116,111]⟩,⟨#[116,111,107,101,110]⟩,⟨#[116,114,97,110,115,108,97,116,101]⟩,⟨#[116,114,117,101]⟩,⟨#[118,105,97]⟩,⟨#[119,105,100,116,104]⟩,⟨#[119,105,114,101]⟩,⟨#[119,105,116,104,105,110]⟩]
def glb:List (Nat×List AV):=[(0,HJ.map AV.str)]
def yy(G:Gh)(w:World):Prop:=∀(g:Nat) (cs:List AV),glb.lookup g=some cs -> ∀(i:Nat) (c:AV),cs[i]? =some c->G.safe g i /\ ∃u,Qm c=some u/\w.cell? ⟨g,i,none⟩=some u
def yy.keep{G G':Gh}{w w':World}(h:yy G w)(hk:Keeps G w G' w'):yy G' w':=λg cs hg i c hc =>
 let⟨h1,u,h2,h3⟩:=h g cs hg i c hc
 let⟨a,b⟩:=hk.safe g i u h1 h3
 ⟨a,u,h2,b⟩
def yy.same{G G':Gh}{w:World}(h:yy G w)(hk:G'.kind=G.kind):yy G' w:=λg cs hg i c hc =>
 let⟨h1,u,h2,h3⟩:=h g cs hg i c hc
 ⟨by unfold Gh.safe at *;rw[hk];exact h1,u,h2,h3⟩
def yy.vrel{G:Gh}{w:World}(h:yy G w){g:Nat}{cs:List AV}(hg:glb.lookup g=some cs):VRel G w (.cptr cs 0) (.pointer (some ⟨g,0,none⟩)):=by
 refine .cptr cs 0 g 0 (λi=>((cs[i]?).bind Qm).getD Go.undef) (λi c hc=>?_) (λi c hc=>?_)
 ·obtain⟨h1,u,h2,h3⟩:=h g cs hg i c hc
  refine⟨?_,by rw[AU];exact h1,by rw[AU,hc];simp[h2,h3]⟩
  cases c<;>first|rfl|cases h2
 ·obtain⟨h1,u,h2,h3⟩:=h g cs hg i c hc
  rw[hc]
  simp only[BY,h2,BO]
  cases c<;>first|(cases h2;constructor)|cases h2
abbrev cj:=List (Option (List AV))
def ID:Value->List Value
 |.tuple vs=>vs.toList.flatMap λv=>v.cells.toList
 |v=>v.cells.toList
def LG(a:AV)(v:Value):List (AV×Value):=a.flat.zip (ID v)
def tok(p:AV×Value):Option Nat :=
 match p with
 |(.sl (some _) _,.slice (some a) len cap)=>if len<cap then some a.block else none
 |_=>none
def GD(F:Nat->Prop)(G:Gh)(w:World)(p:AV×Value):Prop :=
 match p with
 | (.sl (some n) _,.slice (some a) len cap)=>len<cap -> ¬ F a.block/\G.kind a.block = .buf (a.off+len*n) /\
   ∃(C:Array Value) (E:TypeId),w.heap[a.block]? =some (.cells C E (0,0))/\a.off+cap*n<=C.size
 |_=>True
def Gs(a:AV)(v:Value):List Nat:=(LG a v).filterMap tok
def HA(b:Nat)(vs:List AV)(us:List Value):Nat:=((vs.zip us).map λp=>(Gs p.1 p.2).count b).sum
structure LRel (F:Nat->Prop) (G:Gh) (vs:List AV) (us:List Value) (w:World):Prop where
 len:vs.length=us.length
 rel:∀(i:Nat) (a:AV) (u:Value),vs[i]? =some a->us[i]? =some u->VRel G w a u
 tok:∀(i:Nat) (a:AV) (u:Value),vs[i]? =some a->us[i]? =some u -> ∀p∈LG a u,GD F G w p
def rU(F:Nat->Prop)(G:Gh)(w:World)(cs:List AV)(b:Nat):Prop :=
 ∃(C:Array Value) (E:TypeId),w.heap[b]? =some (.cells C E (0,0))/\cs.length<=C.size /\
  ∀(i:Nat) (c:AV) (v:Value),cs[i]? =some c->C[i]? =some v->c.scalar=true/\VRel G w c v/\GD F G w (c,v)
def J6(es:List (AV×AV)):List AV:=[.tup (es.flatMap λp=>[p.1,p.2])]
def AHk(G:Gh)(w:World)(cs:List AV)(b:Nat):Prop :=
 ∃(es:List (AV×AV)) (ms:Array MapEntry) (clock:Nat),w.heap[b]? =some (.map ms clock)/\cs=J6 es/\es.length=ms.size /\
  (∀(i:Nat) (p:AV×AV) (m:MapEntry),es[i]? =some p->ms[i]? =some m->p.1.isVal=true/\p.2.isVal=true/\VRel G w p.1 m.key/\VRel G w p.2 m.val) /\
  clock=ms.size /\ ∀(i:Nat) (m:MapEntry),ms[i]? =some m->m.born=i
def Vz(s:ByteArray)(pos:Int):List AV:=[.str s,.int .i64 pos]
def Ti(o since:Nat)(seen:List Nat):List AV:=[.mapr o,.int .i64 (since:Int),.tup (seen.map λ(i:Nat)=>AV.int .i64 (i:Int))]
def cO(G:Gh)(w:World)(cs:List AV)(b:Nat):Prop :=
 (∃s pos,w.heap[b]? =some (.stringIter s pos)/\cs=Vz s pos) \/
 (w.heap[b]? =some (.mapIter none 0 #[] 0)/\cs=[.nilm]) \/
 ∃(o mb since:Nat) (seen:List Nat),w.heap[b]? =some (.mapIter (some mb) since seen.toArray since)/\cs=Ti o since seen/\VRel G w (.mapr o) (.map (some mb))
def Mo:LoopState->Option Code->Option Int
 |.ready,none=>some 0
 |.busy,_=>some (-1)
 |.done,some .ret=>some (-2)
 |.done,some (.exit k)=>some (k+1)
 |.exhausted,_=>some (-3)
 |_,_=>none
def G8(st:Int)(vals:List AV):List AV:=[.tup [.int .i64 st],.tup vals]
def ADp(G:Gh)(w:World)(L:LoopRec)(cs:List AV)(b:Nat):Prop :=
 ∃(s:LoopState) (pend:Option Code) (tmps:Array Value) (D:FuncId×Nat) (st:Int) (vals:List AV),
  w.heap[b]? =some (.loop { state:=s,pending:=pend,fn:=D.1,tmps:=tmps,params:=L.ps,assign:=L.assign,body:=L.body,defers:=D.2 }) /\
  Mo s pend=some st/\cs=G8 st vals/\vals.length=tmps.size/\(∀(i:Nat) (a:AV) (u:Value),vals[i]? =some a->tmps[i]? =some u->a.borrow=a/\VRel G w a u)
structure ORel (F:Nat->Prop) (G:Gh) (w:World) (cs:List AV) (b:Nat):Prop where
 own:¬F b
 is:match G.kind b with
  |.obj=>rU F G w cs b
  |.map=>AHk G w cs b
  |.iter=>cO G w cs b
  |.loop L=>ADp G w L cs b
  |_=>False
def ORel.of_cells{F:Nat->Prop}{G:Gh}{w:World}{cs:List AV}{b:Nat}(h:ORel F G w cs b){C:Array Value}{E:TypeId}{fr:Nat×Nat}(hb:w.heap[b]? =some (.cells C E fr)):
  G.kind b = .obj/\rU F G w cs b:=by
 have hi:=h.is
 split at hi
 ·rename_i hk;exact⟨hk,hi⟩
 ·obtain⟨es,ms,cl,h1,_⟩:=hi
  rw[hb]at h1;cases h1
 ·rcases hi with⟨s,pos,h1,_⟩|⟨h1,_⟩|⟨_,_,_,_,h1,_⟩<;>(rw[hb]at h1;cases h1)
 ·obtain⟨s,p,t,D,st,vals,h1,_⟩:=hi
  rw[hb]at h1;cases h1
 ·exact hi.elim
def ORel.kinds{F:Nat->Prop}{G:Gh}{w:World}{cs:List AV}{b:Nat}(h:ORel F G w cs b):G.kind b = .obj\/(G.kind b).sp=true:=by
 have hi:=h.is
 split at hi
 ·rename_i hk;exact .inl hk
 ·rename_i hk;exact .inr (by rw[hk];rfl)
 ·rename_i hk;exact .inr (by rw[hk];rfl)
 ·rename_i L hk;exact .inr (by rw[hk];rfl)
 ·exact hi.elim
def ORel.no_buf{F:Nat->Prop}{G:Gh}{w:World}{cs:List AV}{b q:Nat}(h:ORel F G w cs b)(hq:G.kind b = .buf q):False:=by
 rcases h.kinds with hk|hk
 ·rw[hk]at hq;cases hq
 ·rw[hq]at hk;cases hk
def ORel.lt{F:Nat->Prop}{G:Gh}{w:World}{cs:List AV}{b:Nat}(h:ORel F G w cs b):b<w.heap.size:=by
 have hi:=h.is
 split at hi
 ·obtain⟨C,E,h1,_⟩:=hi;exact(An.1 h1).1
 ·obtain⟨es,ms,cl,h1,_⟩:=hi;exact(An.1 h1).1
 ·rcases hi with⟨s,pos,h1,_⟩|⟨h1,_⟩|⟨_,_,_,_,h1,_⟩<;>exact(An.1 h1).1
 ·obtain⟨s,p,t,D,st,vals,h1,_⟩:=hi;exact(An.1 h1).1
 ·exact hi.elim
def ORel.keep{F F':Nat->Prop}{G G':Gh}{w w':World}{cs:List AV}{b:Nat}(h:ORel F G w cs b)(hk:Keeps G w G' w')(hF:¬F' b)(hkd:G'.kind b=G.kind b)(hw:w'.heap[b]? =w.heap[b]?)
  (hr:∀(C:Array Value) (E:TypeId),w.heap[b]? =some (.cells C E (0,0)) -> ∀(i:Nat) (c:AV) (v:Value),cs[i]? =some c->C[i]? =some v->GD F G w (c,v)->GD F' G' w' (c,v)):ORel F' G' w' cs b:=by
 refine⟨hF, ?_⟩
 have hi:=h.is
 rw[hkd]
 split at hi
 ·rename_i hk2
  try rw[hk2]
  obtain⟨C,E,g1,g2,g3⟩:=hi
  exact⟨C,E,hw.trans g1,g2,λi c v hc hv=>⟨(g3 i c v hc hv).1,(g3 i c v hc hv).2.1.keep hk,hr C E g1 i c v hc hv (g3 i c v hc hv).2.2⟩⟩
 ·rename_i hk2
  try rw[hk2]
  obtain⟨es,ms,cl,g1,g2,g3,g4,g5⟩:=hi
  exact⟨es,ms,cl,hw.trans g1,g2,g3,λi p m hp hm=>let⟨a1,a2,a3,a4⟩:=g4 i p m hp hm;⟨a1,a2,a3.keep hk,a4.keep hk⟩,g5⟩
 ·rename_i hk2
  try rw[hk2]
  rcases hi with⟨s,pos,h1,h2⟩|⟨h1,h2⟩|⟨o,mb,si,se,h1,h2,h3⟩
  ·exact .inl ⟨s,pos,hw.trans h1,h2⟩
  ·exact .inr (.inl ⟨hw.trans h1,h2⟩)
  ·exact .inr (.inr ⟨o,mb,si,se,hw.trans h1,h2,h3.keep hk⟩)
 ·rename_i L hk2
  try rw[hk2]
  obtain⟨s,pe,t,D,st,vals,g1,g2,g3,g4,g5⟩:=hi
  exact⟨s,pe,t,D,st,vals,hw.trans g1,g2,g3,g4,λi a u ha hu=>⟨(g5 i a u ha hu).1,(g5 i a u ha hu).2.keep hk⟩⟩
 ·exact hi.elim
def ORel.change{F F':Nat->Prop}{G:Gh}{w:World}{cs:List AV}{b:Nat}(h:ORel F G w cs b)(hF:¬F' b)
  (hr:∀(C:Array Value) (E:TypeId),w.heap[b]? =some (.cells C E (0,0)) -> ∀(i:Nat) (c:AV) (v:Value),cs[i]? =some c->C[i]? =some v->GD F G w (c,v)->GD F' G w (c,v)):ORel F' G w cs b:=by
 refine⟨hF, ?_⟩
 have hi:=h.is
 split at hi
 ·rename_i hk
  try rw[hk]
  obtain⟨C,E,g1,g2,g3⟩:=hi
  exact⟨C,E,g1,g2,λi c v hc hv=>⟨(g3 i c v hc hv).1,(g3 i c v hc hv).2.1,hr C E g1 i c v hc hv (g3 i c v hc hv).2.2⟩⟩
 ·rename_i hk;first|exact hi|(rw[hk];exact hi)
 ·rename_i hk;first|exact hi|(rw[hk];exact hi)
 ·rename_i L hk;first|exact hi|(rw[hk];exact hi)
 ·exact hi.elim
def ORel.row_of{F:Nat->Prop}{G:Gh}{w:World}{cs:List AV}{b:Nat}(hF:¬F b)(hk:G.kind b = .obj)(h:rU F G w cs b):ORel F G w cs b:=⟨hF,by rw[hk];exact h⟩
def Gq(G:Gh)(H:cj)(w:World)(o:Nat):List Nat :=
 match H[o]?,G.obs[o]? with
 |some (some cs),some b =>
  match w.heap[b]? with
  |some (.cells C _ _)=>(cs.zip C.toList).filterMap tok
  |_=>[]
 |_,_=>[]
def IM(G:Gh)(H:cj)(w:World)(b:Nat):Nat:=((Ak H.length).map λo=>(Gq G H w o).count b).sum
structure HRel (F:Nat->Prop) (G:Gh) (H:cj) (w:World):Prop where
 len:G.obs.length=H.length
 obj:∀(o:Nat) (cs:List AV) (b:Nat),H[o]? =some (some cs)->G.obs[o]? =some b->ORel F G w cs b
 inj:∀(o o':Nat) (cs cs':List AV) (b:Nat),H[o]? =some (some cs)->H[o']? =some (some cs')->G.obs[o]? =some b->G.obs[o']? =some b->o=o'
 fore:∀b,F b->b<w.heap.size
 glob:yy G w
structure CRel (F:Nat->Prop) (G:Gh) (vs:List AV) (H:cj) (us:List Value) (w:World):Prop where
 l:LRel F G vs us w
 h:HRel F G H w
 cnt:∀b,HA b vs us+IM G H w b<=1
structure Ext (F:Nat->Prop) (G:Gh) (w:World) (G':Gh) (w':World):Prop where
 size:w.heap.size<=w'.heap.size
 keeps:Keeps G w G' w'
 kind:∀b,F b->G'.kind b=G.kind b
 cells:∀b,F b->w'.heap[b]? =w.heap[b]?
 io:w'.os=w.os/\w'.tape=w.tape/\w'.output=w.output
def Ext.refl(F:Nat->Prop)(G:Gh)(w:World):Ext F G w G w:=⟨AT _,.refl G w,λ_ _=>rfl,λ_ _=>rfl,⟨rfl,rfl,rfl⟩⟩
def Ext.trans{F:Nat->Prop}{G G' G'':Gh}{w w' w'':World}(h:Ext F G w G' w')(h':Ext F G' w' G'' w''):Ext F G w G'' w'' :=
 ⟨AL h.size h'.size,h.keeps.trans h'.keeps,λb hb=>(h'.kind b hb).trans (h.kind b hb),λb hb=>(h'.cells b hb).trans (h.cells b hb),⟨h'.io.1.trans h.io.1,h'.io.2.1.trans h.io.2.1,h'.io.2.2.trans h.io.2.2⟩⟩
def Ext.mono{F F':Nat->Prop}{G G':Gh}{w w':World}(h:Ext F G w G' w')(hf:∀b,F' b->F b):Ext F' G w G' w' :=
 ⟨h.size,h.keeps,λb hb=>h.kind b (hf b hb),λb hb=>h.cells b (hf b hb),h.io⟩
def GS(b:Nat)(us:List Value):HA b [] us=0:=by simp[HA]
def Fc(b:Nat)(a:AV)(vs:List AV)(u:Value)(us:List Value):HA b (a::vs) (u::us)=(Gs a u).count b+HA b vs us:=by
 simp[HA]
def GV(b:Nat): ∀(vs:List AV) (us:List Value) (vs':List AV) (us':List Value),vs.length=us.length ->
  HA b (vs++vs') (us++us')=HA b vs us+HA b vs' us'
 |[],[],vs',us',_=>by simp[GS]
 |[],_::_,_,_,h=>by simp at h
 |_::_,[],_,_,h=>by simp at h
 |a::vs,u::us,vs',us',h=>by
  rw[AW,AW,Fc,Fc,GV b vs us vs' us' (by simpa using h)]
  omega
def Uz(b:Nat): ∀(vs:List AV) (us:List Value) (d:Nat) (a' a:AV) (u' u:Value),vs[d]? =some a->us[d]? =some u ->
  HA b (vs.set d a') (us.set d u')+(Gs a u).count b=HA b vs us+(Gs a' u').count b
 |[],_,d,a',a,u',u,h,_=>by simp at h
 |_::_,[],d,a',a,u',u,_,h=>by simp at h
 |x::vs,y::us,0,a',a,u',u,h,h'=>by
  simp only[A7,Option.some.injEq]at h h'
  subst h;subst h'
  simp only[List.set_cons_zero,Fc];omega
 |x::vs,y::us,d+1,a',a,u',u,h,h'=>by
  simp only[B1]at h h'
  have:=Uz b vs us d a' a u' u h h'
  simp only[List.set_cons_succ,Fc];omega
def Mu(b:Nat): ∀(vs:List AV) (us:List Value) (i:Nat) (a:AV) (u:Value),vs[i]? =some a->us[i]? =some u ->
  (Gs a u).count b<=HA b vs us
 |[],_,_,_,_,h,_=>by simp at h
 |_::_,[],_,_,_,_,h=>by simp at h
 |x::vs,y::us,0,a,u,h,h'=>by
  simp only[A7,Option.some.injEq]at h h'
  subst h;subst h'
  rw[Fc];omega
 |x::vs,y::us,i+1,a,u,h,h'=>by
  simp only[B1]at h h'
  have:=Mu b vs us i a u h h'
  rw[Fc];omega
def zX{b:Nat}{a:AV}{u:Value}(h:0<(Gs a u).count b): ∃p∈LG a u,tok p=some b:=by
 obtain⟨p,hp,hb⟩:=CH.1 (C1.1 h)
 exact⟨p,hp,hb⟩
def RQ{b:Nat}: ∀(vs:List AV) (us:List Value),0<HA b vs us -> ∃(i:Nat) (a:AV) (u:Value),vs[i]? =some a/\us[i]? =some u /\ ∃p∈LG a u,tok p=some b
 |[],_,h=>by simp[HA]at h
 |_::_,[],h=>by simp[HA]at h
 | x::vs,y::us,h=>by
  rw[Fc]at h
  by_cases h0:0<(Gs x y).count b
  ·exact⟨0,x,y,rfl,rfl,zX h0⟩
  ·obtain⟨i,a,u,h1,h2,h3⟩:=RQ (b:=b) vs us FR
   exact⟨i+1,a,u,by simpa using h1,by simpa using h2,h3⟩
def GD.of_tok{F:Nat->Prop}{G:Gh}{w:World}{p:AV×Value}{b:Nat}(h:GD F G w p)(ht:tok p=some b):
  ¬F b/\(∃q,G.kind b = .buf q) /\ ∃(C:Array Value) (E:TypeId),w.heap[b]? =some (.cells C E (0,0)):=by
 obtain⟨a,v⟩:=p
 unfold tok at ht
 split at ht
 ·rename_i n es ad len cap heq
  cases heq
  split at ht
  ·rename_i hlt
   cases ht
   obtain⟨h1,h2,C,E,h3,_⟩:=h hlt
   exact⟨h1,⟨_,h2⟩,C,E,h3⟩
  ·cases ht
 ·cases ht
def GA{F:Nat->Prop}{G:Gh}{w:World}{p:AV×Value}(ht:tok p=none):GD F G w p:=by
 obtain⟨a,v⟩:=p
 unfold GD
 split
 ·rename_i n es ad len cap heq
  cases heq
  intro hlt
  simp[tok,hlt]at ht
 ·trivial
def GD.keep{F F':Nat->Prop}{G G':Gh}{w w':World}{p:AV×Value}(h:GD F G w p)
  (hk:∀b,tok p=some b -> ¬F' b/\G'.kind b=G.kind b/\w'.heap[b]? =w.heap[b]?):GD F' G' w' p:=by
 obtain⟨a,v⟩:=p
 unfold GD at h ⊢
 split
 ·rename_i n es ad len cap heq
  cases heq
  intro hlt
  obtain⟨h1,h2,C,E,h3,h4⟩:=h hlt
  obtain⟨k1,k2,k3⟩:=hk ad.block (by simp[tok,hlt])
  exact⟨k1,k2.trans h2,C,E,k3.trans h3,h4⟩
 ·trivial
def GD.weaken{F F':Nat->Prop}{G:Gh}{w:World}{p:AV×Value}(h:GD F' G w p)(hf:∀b,F b->F' b):GD F G w p :=
 (DT (tok p)).elim GA λ⟨_,hb⟩=>h.keep λb' hb'=>by
  rw[hb]at hb';cases hb'
  exact⟨λhF=>(h.of_tok hb).1 (hf _ hF),rfl,rfl⟩
def LRel.weaken{F F':Nat->Prop}{G:Gh}{w:World}{vs:List AV}{us:List Value}(h:LRel F' G vs us w)(hf:∀b,F b->F' b):LRel F G vs us w :=
 ⟨h.len,h.rel,λi a u h1 h2 p hp=>(h.tok i a u h1 h2 p hp).weaken hf⟩
def LRel.nil(F:Nat->Prop)(G:Gh)(w:World):LRel F G [] [] w:=⟨rfl,λi a u h _=>by simp at h,λi a u h _=>by simp at h⟩
def LRel.cons{F:Nat->Prop}{G:Gh}{w:World}{a:AV}{u:Value}{vs:List AV}{us:List Value}(h:VRel G w a u)(ht:∀p∈LG a u,GD F G w p)(hl:LRel F G vs us w):
  LRel F G (a::vs) (u::us) w:=by
 refine⟨by simp[hl.len],λi x y h1 h2=>?_,λi x y h1 h2=>?_⟩
 ·cases i with
  |zero=>simp at h1 h2;subst h1;subst h2;exact h
  |succ i=>exact hl.rel i x y (by simpa using h1) (by simpa using h2)
 ·cases i with
  |zero=>simp at h1 h2;subst h1;subst h2;exact ht
  |succ i=>exact hl.tok i x y (by simpa using h1) (by simpa using h2)
def LRel.uncons{F:Nat->Prop}{G:Gh}{w:World}{a:AV}{u:Value}{vs:List AV}{us:List Value}(h:LRel F G (a::vs) (u::us) w):
  VRel G w a u/\(∀p∈LG a u,GD F G w p)/\LRel F G vs us w :=
 ⟨h.rel 0 a u rfl rfl,h.tok 0 a u rfl rfl,by simpa using h.len,λi x y h1 h2=>h.rel (i+1) x y (by simpa using h1) (by simpa using h2),
  λi x y h1 h2=>h.tok (i+1) x y (by simpa using h1) (by simpa using h2)⟩
def LRel.append{F:Nat->Prop}{G:Gh}{w:World}{A B:List AV}{ua ub:List Value}(ha:LRel F G A ua w)(hb:LRel F G B ub w):LRel F G (A++B) (ua++ub) w:=by
 have hl:=ha.len
 refine⟨by simp[ha.len,hb.len],λi x y h1 h2=>?_,λi x y h1 h2=>?_⟩<;>by_cases hi:i<A.length
 ·rw[AX hi]at h1;rw[AX FR]at h2;exact ha.rel i x y h1 h2
 ·rw[AN FR]at h1;rw[AN FR]at h2
  exact hb.rel (i - A.length) x y h1 (by rw[hl];exact h2)
 ·rw[AX hi]at h1;rw[AX FR]at h2;exact ha.tok i x y h1 h2
 ·rw[AN FR]at h1;rw[AN FR]at h2
  exact hb.tok (i - A.length) x y h1 (by rw[hl];exact h2)
def LRel.split{F:Nat->Prop}{G:Gh}{w:World}{A B:List AV}{ua ub:List Value}(h:LRel F G (A++B) (ua++ub) w)(hl:A.length=ua.length):
  LRel F G A ua w/\LRel F G B ub w:=by
 have hlen:=h.len
 simp only[AF]at hlen
 refine⟨⟨hl,λi x y h1 h2=>?_,λi x y h1 h2=>?_⟩,⟨FR,λi x y h1 h2=>?_,λi x y h1 h2=>?_⟩⟩
 ·have:=(AC.1 h1).1
  exact h.rel i x y (by rw[AX this];exact h1) (by rw[AX FR];exact h2)
 ·have:=(AC.1 h1).1
  exact h.tok i x y (by rw[AX this];exact h1) (by rw[AX FR];exact h2)
 ·exact h.rel (A.length+i) x y (by rw[AN FR,A4];exact h1) (by rw[AN FR,hl,A4];exact h2)
 ·exact h.tok (A.length+i) x y (by rw[AN FR,A4];exact h1) (by rw[AN FR,hl,A4];exact h2)
def LRel.tok_of_pos{F:Nat->Prop}{G:Gh}{w:World}{vs:List AV}{us:List Value}(h:LRel F G vs us w){b:Nat}(hb:0<HA b vs us):
  ¬F b/\(∃q,G.kind b = .buf q) /\ ∃(C:Array Value) (E:TypeId),w.heap[b]? =some (.cells C E (0,0)):=by
 obtain⟨i,a,u,h1,h2,p,hp,ht⟩:=RQ vs us hb
 exact(h.tok i a u h1 h2 p hp).of_tok ht
def MY{b:Nat}{vs:List AV}{us:List Value}{i:Nat}{a:AV}{u:Value}(h1:vs[i]? =some a)(h2:us[i]? =some u){p:AV×Value}(hp:p∈LG a u)(ht:tok p=some b):
  0<HA b vs us:=by
 have h3:0<(Gs a u).count b:=C1.2 (CH.2 ⟨p,hp,ht⟩)
 have:=Mu b vs us i a u h1 h2
 omega
def LRel.ext{F F':Nat->Prop}{G G':Gh}{w w':World}{vs:List AV}{us:List Value}(h:LRel F G vs us w)(he:Ext F' G w G' w')(hf:∀b,0<HA b vs us->F' b):LRel F G' vs us w' :=
 ⟨h.len,λi a u h1 h2=>(h.rel i a u h1 h2).keep he.keeps,λi a u h1 h2 p hp=>(h.tok i a u h1 h2 p hp).keep λb hb =>
  have hF:=hf b (MY h1 h2 hp hb)
  ⟨((h.tok i a u h1 h2 p hp).of_tok hb).1,he.kind b hF,he.cells b hF⟩⟩
def s5{G:Gh}{H:cj}{w:World}{o b:Nat}(h:0<(Gq G H w o).count b):
  ∃(cs:List AV) (b0:Nat) (C:Array Value) (E:TypeId) (fr:Nat×Nat) (i:Nat) (c:AV) (v:Value),H[o]? =some (some cs)/\G.obs[o]? =some b0/\w.heap[b0]? =some (.cells C E fr) /\
   cs[i]? =some c/\C[i]? =some v/\tok (c,v)=some b:=by
 have hm:=C1.1 h
 unfold Gq at hm
 split at hm
 ·rename_i cs b0 h1 h2
  split at hm
  ·rename_i C E fr h3
   obtain⟨p,hp,ht⟩:=CH.1 hm
   obtain⟨i,hi⟩:=Ae hp
   rw[BZ]at hi
   exact⟨cs,b0,C,E,fr,i,p.1,p.2,h1,h2,h3,hi.1,by simpa using hi.2,ht⟩
  ·cases hm
 ·cases hm
def fA{G:Gh}{H:cj}{w:World}{o b:Nat}{cs:List AV}{b0:Nat}{C:Array Value}{E:TypeId}{fr:Nat×Nat}{i:Nat}{c:AV}{v:Value}
  (h1:H[o]? =some (some cs))(h2:G.obs[o]? =some b0)(h3:w.heap[b0]? =some (.cells C E fr))(h4:cs[i]? =some c)(h5:C[i]? =some v)(h6:tok (c,v)=some b):
  0<(Gq G H w o).count b:=by
 refine C1.2 ?_
 unfold Gq
 simp only[h1,h2,h3]
 refine CH.2 ⟨(c,v),AB (i:=i) ?_,h6⟩
 rw[BZ]
 exact⟨h4,by simpa using h5⟩
def XF{n:Nat}{f:Nat->Nat}(h:0<((Ak n).map f).sum): ∃o,o<n/\0<f o:=by
 induction n with
 |zero=>simp at h
 | succ n ih =>
  rw[B9,Aq,B_]at h
  simp only[AS,Ah,B2,CP,BA]at h
  by_cases h0:0<f n
  ·exact⟨n,FR,h0⟩
  ·obtain⟨o,ho,hf⟩:=ih FR
   exact⟨o,FR,hf⟩
def aJ{n:Nat}{f:Nat->Nat}{o:Nat}(h:o<n):f o<=((Ak n).map f).sum:=by
 induction n with
 |zero=>omega
 |succ n ih =>
  rw[B9,Aq,B_]
  simp only[AS,Ah,B2,CP,BA]
  by_cases h0:o=n
  ·subst h0;omega
  ·have:=ih FR ; omega
def JW{n:Nat}{f g:Nat->Nat}(h:∀o,o<n->f o=g o):((Ak n).map f).sum=((Ak n).map g).sum:=by
 congr 1
 exact List.map_congr_left λo ho=>h o (List.mem_range.1 ho)
def JO{n:Nat}{f g:Nat->Nat}{d:Nat}(hd:d<n)(h:∀o,o<n->o≠d->f o=g o):((Ak n).map f).sum+g d=((Ak n).map g).sum+f d:=by
 induction n with
 |zero=>omega
 | succ n ih =>
  simp only[B9,Aq,B_,AS,Ah,B2,CP,BA]
  by_cases h0:d=n
  ·subst h0
   have:((Ak d).map f).sum=((Ak d).map g).sum:=JW λo ho=>h o FR FR
   omega
  ·have:=ih FR (λo ho hne=>h o FR hne)
   have:=h n FR (λe=>h0 e.symm)
   omega
def ABf{G:Gh}{H:cj}{w:World}{b:Nat}(h:0<IM G H w b): ∃o,o<H.length/\0<(Gq G H w o).count b:=XF h
def qn{G:Gh}{H:cj}{w:World}{b o:Nat}(ho:o<H.length):(Gq G H w o).count b<=IM G H w b:=aJ (f:=λo=>(Gq G H w o).count b) ho
def HRel.tok_of_pos{F:Nat->Prop}{G:Gh}{H:cj}{w:World}(h:HRel F G H w){b:Nat}(hb:0<IM G H w b):
  ¬F b/\(∃q,G.kind b = .buf q) /\ ∃(C:Array Value) (E:TypeId),w.heap[b]? =some (.cells C E (0,0)):=by
 obtain⟨o,_,hp⟩:=ABf hb
 obtain⟨cs,b0,C,E,fr,i,c,v,h1,h2,h3,h4,h5,h6⟩:=s5 hp
 obtain⟨C',E',g1,_,g3⟩:=((h.obj o cs b0 h1 h2).of_cells h3).2
 rw[h3]at g1
 cases g1
 exact(g3 i c v h4 h5).2.2.of_tok h6
def CRel.split{F:Nat->Prop}{G:Gh}{A B:List AV}{H:cj}{ua ub:List Value}{w:World}(h:CRel F G (A++B) H (ua++ub) w)(hl:A.length=ua.length):
  CRel (λb=>F b\/0<HA b B ub) G A H ua w:=by
 obtain⟨ha,hb⟩:=h.l.split hl
 have hc:∀b,HA b A ua+HA b B ub+IM G H w b<=1:=λb=>by have:=h.cnt b;rw[GV b A ua B ub hl]at this;exact this
 refine⟨⟨hl,ha.rel,λi a u h1 h2 p hp=>?_⟩,⟨h.h.len,λo cs b h1 h2=>?_,h.h.inj,λb hF=>?_,h.h.glob⟩,λb=>by have:=hc b;omega⟩
 ·refine(DT (tok p)).elim GA λ⟨b,hb'⟩=>(ha.tok i a u h1 h2 p hp).keep λb' ht=>⟨?_,rfl,rfl⟩
  have:=MY h1 h2 hp ht
  have:=hc b'
  rintro (hF|hF)
  ·exact((ha.tok i a u h1 h2 p hp).of_tok ht).1 hF
  ·omega
 ·have ho:=h.h.obj o cs b h1 h2
  refine ho.change ?_ λC E g1 i c v hc1 hv1 hto=>?_
  ·rintro (hF|hF)
   ·exact ho.own hF
   ·obtain⟨_,⟨q,hq⟩,_⟩:=hb.tok_of_pos hF
    exact ho.no_buf hq
  ·refine hto.keep λb' ht=>⟨?_,rfl,rfl⟩
   have h5:=fA h1 h2 g1 hc1 hv1 ht
   have h6:=qn (G:=G) (w:=w) (b:=b') (AC.1 h1).1
   have:=hc b'
   rintro (hF|hF)
   ·exact(hto.of_tok ht).1 hF
   ·omega
 ·rcases hF with hF|hF
  ·exact h.h.fore b hF
  ·obtain⟨_,_,C,E,hh⟩:=hb.tok_of_pos hF
   exact(An.1 hh).1
def HRel.weaken{F F':Nat->Prop}{G:Gh}{H:cj}{w:World}(h:HRel F' G H w)(hf:∀b,F b->F' b):HRel F G H w:=by
 refine⟨h.len,λo cs b h1 h2=>?_,h.inj,λb hb=>h.fore b (hf b hb),h.glob⟩
 have ho:=h.obj o cs b h1 h2
 exact ho.change (λhF=>ho.own (hf b hF)) λ_ _ _ _ _ _ _ _ hto=>hto.weaken hf
def TL{F F':Nat->Prop}{G G':Gh}{B vs:List AV}{H':cj}{ub us:List Value}{w w':World}(hb:LRel F G B ub w)(hcb:∀b,HA b B ub<=1)
  (hF:∀b,F b->F' b)(hFB:∀b,0<HA b B ub->F' b)(he:Ext F' G w G' w')(h:CRel F' G' vs H' us w'):CRel F G' (vs++B) H' (us++ub) w':=by
 refine⟨(h.l.weaken hF).append (hb.ext he hFB),h.h.weaken hF,λb=>?_⟩
 rw[GV b vs us B ub h.l.len]
 by_cases h0:0<HA b B ub
 ·have hFb:=hFB b h0
  have h1:¬0<HA b vs us:=λhp=>(h.l.tok_of_pos hp).1 hFb
  have h2:¬0<IM G' H' w' b:=λhp=>(h.h.tok_of_pos hp).1 hFb
  have:=hcb b
  omega
 ·have:=h.cnt b;omega
abbrev Fs:=List (Tmp×AV)
def Fr:Fs->Tmp->AV
 |[],_ => .undef
 |(k,v)::r,t=>if k=t then v else Fr r t
def Gn(n:Nat)(env:Fs):List AV:=(Ak n).map (Fr env)
def GB:AV->Bool
 |.sl (some _) _=>true
 |_=>false
def AV.owned(a:AV):Bool:=a.flat.any GB
def const1:Value->AV
 |.int k n => .int k n
 |.bool b => .bool b
 |.string s => .str s
 |.pointer none => .nilp
 |.slice none 0 0 => .sl none []
 |.nilFunc => .nilf
 |.map none => .nilm
 |.nilIface => .nili
 |_ => .undef
def Ry(own:Option Nat):Value->AV
 |.slice none 0 0 => .sl own []
 |.agg cs=>if(cs.toList.map const1).all AV.scalar then .agg (cs.toList.map const1)else .undef
 |v=>const1 v
def Sp(P:Program):Option TypeId->Option Nat
 |some t=>match P.underlying t with
  |some (.slice e)=>some (P.cellsOf e)
  |_=>none
 |none=>none
def G6(P:Program)(ty:Option TypeId)(env:Fs):Operand->AV
 |.tmp t=>Fr env t
 |.const v=>Ry (Sp P ty) v
 |.global g=>match glb.lookup g with
  |some cs => .cptr cs 0
  |none => .undef
 |.func f => .fn (.func f) [] []
def NO(P:Program)(ty:Option TypeId)(take:Bool)(x:Operand)(env:Fs):AV×Fs :=
 match take with
 |true=>(G6 P ty env x,match (G6 P ty env x).owned,x with
  |true,.tmp t=>(t,(Fr env t).borrow)::env
  |_,_=>env)
 |false=>((G6 P ty env x).borrow,env)
def OX(P:Program)(ty:Option TypeId)(take:Bool):List Operand->Fs->List AV×Fs
 |[],env=>([],env)
 |x::xs,env=>((NO P ty take x env).1::(OX P ty take xs (NO P ty take x env).2).1,(OX P ty take xs (NO P ty take x env).2).2)
def HO(n:Nat)(env:Fs):(Gn n env).length=n:=by simp[Gn]
def IK{n t:Nat}(env:Fs)(h:t<n):(Gn n env)[t]? =some (Fr env t):=by simp[Gn,h]
def S4{n t:Nat}(env:Fs)(v:AV)(h:t<n):Gn n ((t,v)::env)=(Gn n env).set t v:=by
 apply A3
 intro i
 by_cases hi:i<n
 ·rw[IK _ hi,Ax,HO]
  by_cases ht:t=i
  ·subst ht;simp[Fr,h]
  ·simp[Fr,ht,IK _ hi]
 ·rw[Av (by rw[HO];omega),Av (by simp[HO];omega)]
def Gd(a:AV)(v:Value):tok (borrow1 a,v)=none:=by cases a<;>rfl
def QO(a:AV):(borrow0 a).cells=a.cells.map borrow1:=by cases a<;>rfl
def iU(a:AV):a.borrow.flat=a.flat.map borrow1:=by
 cases a with
 |tup vs =>
  simp only[AV.borrow,AV.flat,List.flatMap_map,List.map_flatMap]
  congr 1
  funext v
  exact QO v
 |_=>rfl
def MX{a:AV}{v:Value}(h:∀c∈a.flat,∀u,tok (c,u)=none):Gs a v=[]:=by
 unfold Gs
 rw[B3]
 intro p hp
 have:=(CZ (show(p.1,p.2)∈a.flat.zip (ID v)from hp)).1
 exact h p.1 this p.2
def Gc(a:AV)(v:Value):Gs a.borrow v=[]:=MX λc hc u=>by
 rw[iU]at hc
 obtain⟨d,_,rfl⟩:=AO.1 hc
 exact Gd d u
def Lw{c:AV}(h:GB c=false)(u:Value):tok (c,u)=none:=by
 cases c with
 |sl own es=>cases own with
  |none=>rfl
  |some n=>cases h
 |_=>rfl
def GP{a:AV}(h:a.owned=false)(v:Value):Gs a v=[]:=MX λc hc u=>by
 refine Lw ?_ u
 have:=List.any_eq_false.1 h c hc
 simpa using this
def Fj{a:AV}{v:Value}(h:Gs a v=[])(F:Nat->Prop)(G:Gh)(w:World): ∀p∈LG a v,GD F G w p:=λp hp =>
 GA (B3.1 h p hp)
def VRel.const1(G:Gh)(w:World)(v:Value):VRel G w (const1 v) v:=by
 unfold Go.AI.const1
 split<;>first|exact .int _ _|exact .bool _|exact .str _|exact .nilp|exact .slnil _|exact .nilf|exact .nilm|exact .nili|exact .undef _
def Mv(v:Value):GB (const1 v)=false:=by
 unfold Go.AI.const1
 split<;>rfl
def VRel.const(G:Gh)(w:World)(own:Option Nat)(v:Value):VRel G w (Ry own v) v:=by
 unfold Ry
 split
 ·exact .slnil _
 ·rename_i cs
  split
  ·rename_i hs
   refine .agg _ cs sm (Am.1 hs) (λi c u hi hu=>?_)
   rw[Aa]at hi
   simp only[Ac,hu,BQ,Option.some.injEq]at hi
   subst hi
   exact VRel.const1 G w u
  ·exact .undef _
 ·exact VRel.const1 G w v
def Ux(own:Option Nat)(v:Value):Gs (Ry own v) v=[]:=by
 unfold Ry
 split
 ·simp[Gs,LG,AV.flat,AV.cells,ID,Value.cells,tok]
 ·split
  ·refine MX λc hc u=>?_
   simp only[AV.flat,AV.cells]at hc
   obtain⟨d,_,rfl⟩:=AO.1 hc
   exact Lw (Mv d) u
  ·exact MX λc hc u=>by simp only[AV.flat,AV.cells,Ab]at hc;subst hc;rfl
 ·refine MX λc hc u=>?_
  rename_i h1 h2
  have hc':c=const1 v:=by
   revert hc
   unfold const1
   split<;>simp[AV.flat,AV.cells]
  subst hc'
  exact Lw (Mv v) u
def Ha(v:Value):Gs .undef v=[]:=MX λc hc u=>by simp only[AV.flat,AV.cells,Ab]at hc;subst hc;rfl
def RP(f:Fn)(a b:List AV)(v:Value):Gs (.fn f a b) v=[]:=MX λc hc u=>by simp only[AV.flat,AV.cells,Ab]at hc;subst hc;rfl
def CRel.insert{F:Nat->Prop}{G:Gh}{pre L L':List AV}{H:cj}{upre tm:List Value}{w:World}{v:AV}{u:Value}(h:CRel F G (pre++L) H (upre++tm) w)(hp:pre.length=upre.length)
  (hv:VRel G w v u)(ht:∀p∈LG v u,GD F G w p)(hl:LRel F G L' tm w)(hc:∀b,(Gs v u).count b+HA b L' tm<=HA b L tm):
  CRel F G (pre++(v::L')) H (upre++(u::tm)) w:=by
 refine⟨(h.l.split hp).1.append (.cons hv ht hl),h.h,λb=>?_⟩
 have h1:=h.cnt b
 have h2:=hc b
 rw[GV b pre upre _ _ hp]at h1 ⊢
 rw[Fc]
 omega
def LRel.set{F:Nat->Prop}{G:Gh}{w:World}{vs:List AV}{us:List Value}(h:LRel F G vs us w){t:Nat}{v:AV}{u:Value}(hu:us[t]? =some u)(hv:VRel G w v u)
  (ht:∀p∈LG v u,GD F G w p):LRel F G (vs.set t v) us w:=by
 refine⟨by simp[h.len],λi a x h1 h2=>?_,λi a x h1 h2=>?_⟩<;>rw[Ax]at h1<;>split at h1
 ·rename_i hti
  subst hti
  split at h1
  ·cases h1;rw[hu]at h2;cases h2;exact hv
  ·cases h1
 ·exact h.rel i a x h1 h2
 ·rename_i hti
  subst hti
  split at h1
  ·cases h1;rw[hu]at h2;cases h2;exact ht
  ·cases h1
 ·exact h.tok i a x h1 h2
def db{us:List Value}{t:Nat}{u:Value}(h:us[t]? =some u):us.set t u=us:=by
 apply A3
 intro i
 rw[Ax]
 split
 ·rename_i hti
  subst hti
  rw[h]
  simp[(AC.1 h).1]
 ·rfl
def WC {F:Nat->Prop} {G:Gh} {P:Program} {n:Nat} {env:Fs} {H:cj} {w:World} {a:Act} {pre:List AV} {upre:List Value} (ty:Option TypeId) (take:Bool) (x:Operand)
  (h:CRel F G (pre++Gn n env) H (upre++a.tmps.toList) w) (hp:pre.length=upre.length) (hn:a.tmps.size=n) (ho:∀t,n<=t->Fr env t = .undef) :
  CRel F G (pre++((NO P ty take x env).1::Gn n (NO P ty take x env).2)) H (upre++(a.eval x::a.tmps.toList)) w /\ ∀t,n<=t->Fr (NO P ty take x env).2 t = .undef:=by
 have hL:=(h.l.split hp).2
 have hv:VRel G w (G6 P ty env x) (a.eval x)/\(∀p∈LG (G6 P ty env x) (a.eval x),GD F G w p)/\((∃t,x = .tmp t/\t<n)\/Gs (G6 P ty env x) (a.eval x)=[]):=by
  cases x with
  | tmp t =>
   by_cases ht:t<n
   ·have hu:a.tmps.toList[t]? =some (a.eval (.tmp t)):=by
     simp[Act.eval,hn,ht]
    exact⟨hL.rel t _ _ (IK env ht) hu,hL.tok t _ _ (IK env ht) hu,.inl ⟨t,rfl,ht⟩⟩
   ·have h0:G6 P ty env (.tmp t) = .undef:=ho t (B' ht)
    rw[h0]
    exact⟨.undef _,Fj (Ha _) F G w,.inr (Ha _)⟩
  |const v=>exact⟨VRel.const G w _ v,Fj (Ux _ v) F G w,.inr (Ux _ v)⟩
  | global g =>
   simp only[G6]
   split
   ·rename_i cs hcs
    exact⟨h.h.glob.vrel hcs,Fj (GP rfl _) F G w,.inr (GP rfl _)⟩
   ·exact⟨.undef _,Fj (Ha _) F G w,.inr (Ha _)⟩
  |func f =>
   refine⟨.fn _ [] [] #[] #[] rfl rfl (λi c v hc=>by simp at hc) (λi c v hc=>by simp at hc),Fj (RP _ _ _ _) F G w,.inr (RP _ _ _ _)⟩
 obtain⟨hv1,hv2,hv3⟩:=hv
 have plain:∀(v:AV),VRel G w v (a.eval x)->Gs v (a.eval x)=[] ->
   CRel F G (pre++(v::Gn n env)) H (upre++(a.eval x::a.tmps.toList)) w:=λv g1 g2 =>
  h.insert hp g1 (Fj g2 F G w) hL λb=>by rw[g2];simp
 cases take with
 |false=>exact⟨plain _ hv1.borrow (Gc _ _),ho⟩
 | true =>
  simp only[NO]
  split
  ·rename_i t hown
   have ht:t<n:=by
    by_cases ht:t<n
    ·exact ht
    ·rw[show G6 P ty env (.tmp t) = .undef from ho t (B' ht)]at hown
     cases hown
   have hu:a.tmps.toList[t]? =some (a.eval (.tmp t)):=by simp[Act.eval,hn,ht]
   refine⟨?_,λt' ht'=>?_⟩
   ·rw[S4 env _ ht]
    refine h.insert hp hv1 hv2 (hL.set hu hv1.borrow (Fj (Gc _ _) F G w)) λb=>?_
    have h1:=Uz b (Gn n env) a.tmps.toList t (Fr env t).borrow (Fr env t) (a.eval (.tmp t)) (a.eval (.tmp t)) (IK env ht) hu
    rw[db hu,Gc]at h1
    simp only[Ba]at h1
    simp only[G6]
    omega
   ·simp only[Fr]
    rw[iN (λe=>by subst e;exact absurd ht (Nat.not_lt.2 ht'))]
    exact ho t' ht'
  ·rename_i hne
   refine⟨plain _ hv1 ?_,ho⟩
   rcases hv3 with⟨t,rfl,ht⟩|h3
   ·cases hown:(G6 P ty env (.tmp t)).owned with
    |false=>exact GP hown _
    |true=>exact absurd rfl (hne t hown)
   ·exact h3
def ACH{F:Nat->Prop}{G:Gh}{P:Program}{n:Nat}{H:cj}{w:World}{a:Act}(ty:Option TypeId)(take:Bool)(hn:a.tmps.size=n): ∀(xs:List Operand) (env:Fs) (pre:List AV) (upre:List Value),
  CRel F G (pre++Gn n env) H (upre++a.tmps.toList) w->pre.length=upre.length->(∀t,n<=t->Fr env t = .undef) ->
  CRel F G (pre++((OX P ty take xs env).1++Gn n (OX P ty take xs env).2)) H (upre++(xs.map a.eval++a.tmps.toList)) w /\ ∀t,n<=t->Fr (OX P ty take xs env).2 t = .undef
 |[],env,pre,upre,h,_,ho=>⟨h,ho⟩
 |x::xs,env,pre,upre,h,hp,ho=>by
  obtain⟨h1,ho1⟩:=WC (P:=P) ty take x h hp hn ho
  have h2:=ACH (P:=P) ty take hn xs (NO P ty take x env).2 (pre++[(NO P ty take x env).1]) (upre++[a.eval x]) (by simpa using h1) (by simp[hp]) ho1
  simp only[OX,AS]
  exact⟨by simpa using h2.1,h2.2⟩
structure Hint where
 live:List (Nat×List Tmp)
 tk:List Tmp
 mt:List Tmp
 fz:List (Nat×List (Tmp×Option Nat×Bool))
 pc:List Tmp
 gc:List (Nat×Nat)
 dy:List Nat
def Ll(P:Program)(t:TypeId)(cs:List AV)(off:Nat):Option AV :=
 match P.underlying t with
 |some (.struct _)|some (.array _ _)=>if off+P.cellsOf t<=cs.length then some (.agg ((cs.drop off).take (P.cellsOf t)))else none
 |some _=>cs[off]?
 |none=>none
def splice(cs:List AV)(off:Nat)(xs:List AV):List AV:=cs.take off++xs++cs.drop (off+xs.length)
def KJ(op:BinOp)(a b:AV)(R:AV->Prop):Prop :=
 match a,b with
 |.int k x,.int k' y =>
  match op with
  |.shl=>0<=y/\R (.int k (k.wrap (x*2^(min y.toNat k.bits))))
  |.shr=>0<=y/\R (.int k (x.fdiv (2^(min y.toNat k.bits))))
  |.add=>k=k'/\R (.int k (k.wrap (x+y)))
  |.sub=>k=k'/\R (.int k (k.wrap (x - y)))
  |.mul=>k=k'/\R (.int k (k.wrap (x*y)))
  |.quo=>k=k'/\y≠0/\R (.int k (k.wrap (x.tdiv y)))
  |.rem=>k=k'/\y≠0/\R (.int k (x.tmod y))
  |.and=>k=k'/\R (.int k (k.wrap (BitVec.ofInt k.bits x &&& BitVec.ofInt k.bits y).toNat))
  |.or=>k=k'/\R (.int k (k.wrap (BitVec.ofInt k.bits x ||| BitVec.ofInt k.bits y).toNat))
  |.xor=>k=k'/\R (.int k (k.wrap (BitVec.ofInt k.bits x ^^^ BitVec.ofInt k.bits y).toNat))
  |.andNot=>k=k'/\R (.int k (k.wrap (BitVec.ofInt k.bits x &&& ~~~ BitVec.ofInt k.bits y).toNat))
  |.eql=>k=k'/\R (.bool (x==y))
  |.neq=>k=k'/\R (.bool (x !=y))
  |.lss=>k=k'/\R (.bool (decide (x<y)))
  |.leq=>k=k'/\R (.bool (decide (x<=y)))
  |.gtr=>k=k'/\R (.bool (decide (x>y)))
  |.geq=>k=k'/\R (.bool (decide (x≥y)))
 |.str x,.str y =>
  match op with
  |.add=>x.size+y.size<=9223372036854775807/\R (.str (x++y))
  |.eql=>R (.bool (x.toList==y.toList))
  |.neq=>R (.bool !(x.toList==y.toList))
  |.lss=>R (.bool (Op.bytesLess x.toList y.toList))
  |.leq=>R (.bool (Op.bytesLess x.toList y.toList||x.toList==y.toList))
  |.gtr=>R (.bool !(Op.bytesLess x.toList y.toList||x.toList==y.toList))
  |.geq=>R (.bool !(Op.bytesLess x.toList y.toList))
  |_=>False
 |_,_=>False
def ADY{P:Program}{op:BinOp}{t:TypeId}{a b:AV}{R:AV->Prop}{G:Gh}{w:World}{u v:Value}(h:KJ op a b R)(hu:VRel G w a u)(hv:VRel G w b v)(x y:Operand):
  ∃c r,R c/\VRel G w c r/\GB c=false/\c.scalar=true/\(do eqGuard op t x y u v;binOp op t u v).run P w = .ok r w:=by
 unfold KJ at h
 split at h
 ·rename_i k x' k' y'
  cases hu;cases hv
  cases op
  case shl=>exact⟨_,_,h.2,.int _ _,rfl,rfl,by simp[eqGuard,binOp,Op.shift,Dw.2 h.1]⟩
  case shr=>exact⟨_,_,h.2,.int _ _,rfl,rfl,by simp[eqGuard,binOp,Op.shift,Dw.2 h.1]⟩
  case quo=>obtain⟨rfl,h0,hR⟩:=h;exact⟨_,_,hR,.int _ _,rfl,rfl,by simp[eqGuard,binOp,Op.intDiv,h0]⟩
  case rem=>obtain⟨rfl,h0,hR⟩:=h;exact⟨_,_,hR,.int _ _,rfl,rfl,by simp[eqGuard,binOp,Op.intDiv,h0]⟩
  case eql=>obtain⟨rfl,hR⟩:=h;exact⟨_,_,hR,.bool _,rfl,rfl,by simp[eqGuard,binOp,Op.intCmp]⟩
  case neq=>obtain⟨rfl,hR⟩:=h;exact⟨_,_,hR,.bool _,rfl,rfl,by simp[eqGuard,binOp,Op.intCmp]⟩
  case lss=>obtain⟨rfl,hR⟩:=h;exact⟨_,_,hR,.bool _,rfl,rfl,by simp[eqGuard,binOp,Op.intCmp]⟩
  case leq=>obtain⟨rfl,hR⟩:=h;exact⟨_,_,hR,.bool _,rfl,rfl,by simp[eqGuard,binOp,Op.intCmp]⟩
  case gtr=>obtain⟨rfl,hR⟩:=h;exact⟨_,_,hR,.bool _,rfl,rfl,by simp[eqGuard,binOp,Op.intCmp]⟩
  case geq=>obtain⟨rfl,hR⟩:=h;exact⟨_,_,hR,.bool _,rfl,rfl,by simp[eqGuard,binOp,Op.intCmp]⟩
  all_goals (obtain⟨rfl,hR⟩:=h;exact⟨_,_,hR,.int _ _,rfl,rfl,by simp[eqGuard,binOp,Op.intArith,Op.intBits]⟩)
 ·rename_i x' y'
  cases hu;cases hv
  cases op
  case add =>
   refine⟨_,_,h.2,.str _,rfl,rfl, ?_⟩
   have:¬(((x'.size+y'.size:Nat):Int)>IntKind.i64.max):=by
    have:=h.1
    have e:IntKind.i64.max=9223372036854775807:=dc
    rw[e];omega
   simp[eqGuard,binOp,Op.stringOp]
   simpa using this
  case eql=>exact⟨_,_,h,.bool _,rfl,rfl,by simp[eqGuard,binOp,Op.stringOp]⟩
  case neq=>exact⟨_,_,h,.bool _,rfl,rfl,by simp[eqGuard,binOp,Op.stringOp]⟩
  case lss=>exact⟨_,_,h,.bool _,rfl,rfl,by simp[eqGuard,binOp,Op.stringOp]⟩
  case leq=>exact⟨_,_,h,.bool _,rfl,rfl,by simp[eqGuard,binOp,Op.stringOp]⟩
  case gtr=>exact⟨_,_,h,.bool _,rfl,rfl,by simp[eqGuard,binOp,Op.stringOp]⟩
  case geq=>exact⟨_,_,h,.bool _,rfl,rfl,by simp[eqGuard,binOp,Op.stringOp]⟩
  all_goals exact h.elim
 ·exact h.elim
def Fy(P:Program)(r:Result Next)(K:Value->World->Prop):Prop :=
 match r with
 |.ok (.value u) w'=>K u w'
 |.ok .skip w'=>K Go.undef w'
 |.ok (.enter f args) w'=>Calls P f args w' λe w'' => ∃u,e = .returned u/\K u w''
 |.ok (.round l f tmps assign body) w'=>RoundIn Fence.wide 0 P l f tmps assign body w' λe w'' => ∃u,e = .returned u/\K u w''
 |_=>False
def Fi(F:Nat->Prop)(G:Gh)(w:World)(R:AV->cj->Prop)(u:Value)(w':World):Prop :=
 ∃v H' G',R v H'/\CRel F G' [v] H' [u] w'/\Ext F G w G' w'
section
variable{F:Nat->Prop}{G:Gh}{w:World}{H:cj}{vals:List AV}{us:List Value}
def CRel.one(h:CRel F G vals H us w){v:AV}{u:Value}(hv:VRel G w v u)(ht:∀p∈LG v u,GD F G w p)(hc:∀b,(Gs v u).count b<=HA b vals us):CRel F G [v] H [u] w :=
 ⟨.cons hv ht (.nil F G w),h.h,λb=>by
  have h1:=h.cnt b
  have h2:=hc b
  rw[Fc,GS]
  omega⟩
def CRel.plain(h:CRel F G vals H us w){v:AV}{u:Value}(hv:VRel G w v u)(ht:Gs v u=[]):CRel F G [v] H [u] w :=
 h.one hv (Fj ht F G w) λb=>by rw[ht];simp
def Fi.plain{R:AV->cj->Prop}(h:CRel F G vals H us w){v:AV}{u:Value}(hR:R v H)(hv:VRel G w v u)(ht:Gs v u=[]):Fi F G w R u w :=
 ⟨v,H,G,hR,h.plain hv ht,.refl F G w⟩
def CRel.get(h:CRel F G vals H us w){i:Nat}{v:AV}{u:Value}(h1:vals[i]? =some v)(h2:us[i]? =some u):CRel F G [v] H [u] w :=
 h.one (h.l.rel i v u h1 h2) (h.l.tok i v u h1 h2) λb=>Mu b vals us i v u h1 h2
def FX{v:AV}(h:GB v=false)(hs:v.scalar=true)(u:Value):Gs v u=[]:=MX λc hc u'=>by
 cases v<;>simp only[AV.flat,AV.cells,Ab]at hc<;>first|(subst hc;exact Lw h u')|cases hs
def cq(G:Gh)(w:World)(cs:List AV)(b q:Nat):Prop :=
 ∀(i:Nat) (c:AV),cs[i]? =some c->c.scalar=true /\ ∃v,w.cell? ⟨b,q+i,none⟩=some v/\VRel G w c v
def LI{P:Program}{t:TypeId}{d:TypeDesc}(h:P.underlying t=some d): ∃i,P.info? t=some i:=by
 unfold Program.underlying at h
 split at h
 ·exact⟨_,‹_›⟩
 ·exact⟨_,‹_›⟩
 ·cases h
def U7{P:Program}{t:TypeId}{d:TypeDesc}(h:P.underlying t=some d)(w:World):(sizeOf t).run P w = .ok (P.cellsOf t) w:=by
 obtain⟨i,hi⟩:=LI h
 simp[sizeOf,typeInfo,hi,BJ]
def G7(b q i:Nat):(⟨b,q,none⟩:Addr).add i=⟨b,q+i,none⟩:=by
 unfold Addr.add
 split
 ·rename_i h;subst h;rfl
 ·rfl
def JN{α:Type}(l:List α)(off k i:Nat)(hi:i<k):((l.drop off).take k)[i]? =l[off+i]?:=by
 rw[Aj,iP hi,A2]
def aK{P:Program}{t:TypeId}{cs:List AV}{off b q:Nat}{v:AV}(hl:Ll P t cs off=some v)(hc:cq G w cs b q):
  ∃u,(loadVar t ⟨b,q+off,none⟩).run P w = .ok u w/\VRel G w v u/\v.isVal=true /\
   (∀(i:Nat) (c:AV) (x:Value),v.cells[i]? =some c->u.cells[i]? =some x->cs[off+i]? =some c/\w.cell? ⟨b,q+(off+i),none⟩=some x)/\v.flat=v.cells/\ID u=u.cells.toList:=by
 have agg:∀d,P.underlying t=some d->(isAgg t).run P w = .ok true w->off+P.cellsOf t<=cs.length->v = .agg ((cs.drop off).take (P.cellsOf t)) ->
   ∃u,(loadVar t ⟨b,q+off,none⟩).run P w = .ok u w/\VRel G w v u/\v.isVal=true /\
   (∀(i:Nat) (c:AV) (x:Value),v.cells[i]? =some c->u.cells[i]? =some x->cs[off+i]? =some c/\w.cell? ⟨b,q+(off+i),none⟩=some x)/\v.flat=v.cells/\ID u=u.cells.toList:=by
  intro d hu hagg hlen hv
  subst hv
  have key:∀i,i<P.cellsOf t -> ∃c x,cs[off+i]? =some c/\c.scalar=true/\w.cell? ⟨b,q+(off+i),none⟩=some x/\VRel G w c x:=by
   intro i hi
   have:off+i<cs.length:=FR
   obtain⟨h1,x,h2,h3⟩:=hc (off+i) cs[off+i] (AH this)
   exact⟨cs[off+i],x,AH this,h1,h2,h3⟩
  let f:Nat->Value:=λi=>(w.cell? ⟨b,q+(off+i),none⟩).getD Go.undef
  have hf:∀i,i<P.cellsOf t->w.cell? ⟨b,q+(off+i),none⟩=some (f i):=by
   intro i hi
   obtain⟨c,x,_,_,h,_⟩:=key i hi
   simp[f,h]
  have hld:=run_loadCells (P:=P) (w:=w) ⟨b,q+off,none⟩ (P.cellsOf t) f (λj hj=>by rw[G7,Ay];exact hf j hj)
  refine⟨.agg ((Ak (P.cellsOf t)).map f).toArray, ?_,.agg _ _ Hy ?_ ?_,rfl, ?_,rfl,rfl⟩
  ·simp only[loadVar,AK,hagg,AZ,U7 hu,Bi]
   simp[hld]
  ·intro c hc'
   obtain⟨i,hi⟩:=Ae hc'
   have hi':i<P.cellsOf t:=by
    have:=(AC.1 hi).1
    simp at this;omega
   rw[JN _ _ _ _ hi']at hi
   obtain⟨c',x,h1,h2,_⟩:=key i hi'
   rw[h1]at hi;cases hi;exact h2
  ·intro i c x hi hx
   have hi':i<P.cellsOf t:=by
    have:=(AC.1 hi).1
    simp at this;omega
   rw[JN _ _ _ _ hi']at hi
   obtain⟨c',x',h1,h2,h3,h4⟩:=key i hi'
   rw[h1]at hi;cases hi
   have:x=x':=by
    simp[hi']at hx
    subst hx
    simp[f,h3]
   subst this;exact h4
  ·intro i c x hi hx
   simp only[AV.cells]at hi
   simp only[Value.cells]at hx
   have hi':i<P.cellsOf t:=by
    have:=(AC.1 hi).1
    simp at this;omega
   rw[JN _ _ _ _ hi']at hi
   refine⟨hi, ?_⟩
   simp[hi']at hx
   subst hx
   exact hf i hi'
 unfold Ll at hl
 split at hl
 ·rename_i fs hu
  split at hl
  ·rename_i hlen
   cases hl
   exact agg _ hu (by simp[isAgg,run_underlying hu]) hlen rfl
  ·cases hl
 ·rename_i n e hu
  split at hl
  ·rename_i hlen
   cases hl
   exact agg _ hu (by simp[isAgg,run_underlying hu]) hlen rfl
  ·cases hl
 ·rename_i d hns hna hu
  obtain⟨h1,u,h2,h3⟩:=hc off v hl
  have hagg:(isAgg t).run P w = .ok false w:=by
   simp only[isAgg,AK,run_underlying hu,AZ]
   cases d<;>first|rfl|exact absurd hu (hns _)|exact absurd hu (hna _ _)
  have hcells:v.cells=[v]:=by cases v<;>first|rfl|cases h1
  have hflat:v.flat=[v]:=by cases v<;>first|rfl|cases h1
  have hucells:u.cells=#[u]:=by
   cases h3<;>first|rfl|cases h1
  have huflat:ID u=[u]:=by cases h3<;>first|rfl|cases h1
  have hisv:v.isVal=true:=by cases v<;>first|rfl|cases h1
  have e1:v.flat=v.cells:=by rw[hflat,hcells]
  have e2:ID u=u.cells.toList:=by rw[huflat,hucells]
  refine⟨u, ?_,h3,hisv, ?_,e1,e2⟩
  ·simp only[loadVar,AK,hagg,AZ,Bi]
   simp[h2]
  ·intro i c x hi hx
   rw[hcells]at hi
   rw[hucells]at hx
   cases i with
   |zero=>simp at hi hx;subst hi;subst hx;exact⟨hl,h2⟩
   |succ i=>simp at hi
 ·cases hl
def UC{cs:List AV}{off:Nat}{u:Value}(h:VRel G w (.cptr cs off) u): ∃b q,u = .pointer (some ⟨b,q+off,none⟩)/\cq G w cs b q:=by
 cases h with
 |cptr cs off b q u h hu=>exact⟨b,q,rfl,λi c hi=>⟨(h i c hi).1,u i,(h i c hi).2.2,hu i c hi⟩⟩
def PD{cs:List AV}{b:Nat}{C0:Array Value}{E0:TypeId}{fr:Nat×Nat}(hb:w.heap[b]? =some (.cells C0 E0 fr))(h:ORel F G w cs b):cq G w cs b 0:=by
 obtain⟨C,E,h1,h2,h3⟩:=(h.of_cells hb).2
 intro i c hi
 have hlt:i<C.size:=by have:=(AC.1 hi).1;omega
 obtain⟨g1,g2,_⟩:=h3 i c C[i] hi (Ai hlt)
 exact⟨g1,C[i],by rw[AU,cell_of_row w b i C E _ h1,Ai hlt],g2⟩
end
end Go.AI
namespace Go.AI
section
variable{P:Program}{F:Nat->Prop}{G:Gh}{w:World}{H:cj}{R:AV->cj->Prop}
def rD{a:Addr}{v:Value}(h:w.cell? a=some v):a.block<w.heap.size:=World.block_lt_of_cell? w _ h
def HN(o:Obj){b:Nat}(h:b<w.heap.size):(w.alloc o).heap[b]? =w.heap[b]?:=by
 simp only[World.alloc,Array.getElem?_push]
 rw[iN (CA h)]
def size_alloc(o:Obj):(w.alloc o).heap.size=w.heap.size+1:=World.size_alloc w o
def Gh.setKind(G:Gh)(b:Nat)(k:Kind):Gh:={ G with kind:=λb'=>if b'=b then k else G.kind b' }
def Gh.kind_set_ne(G:Gh){b b':Nat}(k:Kind)(h:b'≠b):(G.setKind b k).kind b'=G.kind b':=by simp[Gh.setKind,h]
def Gh.kind_set(G:Gh)(b:Nat)(k:Kind):(G.setKind b k).kind b=k:=by simp[Gh.setKind]
def Gh.safe_set_ne(G:Gh){b b' o:Nat}(k:Kind)(h:b'≠b):(G.setKind b k).safe b' o↔G.safe b' o:=by
 unfold Gh.safe
 rw[G.kind_set_ne k h]
def Pp(o:Obj)(k:Kind)(hF:∀b,F b->b<w.heap.size)(obs:List Nat)(ho:∀(i b:Nat),G.obs[i]? =some b->obs[i]? =some b):
  Ext F G w { (G.setKind w.heap.size k)with obs:=obs } (w.alloc o):=by
 refine⟨by rw[size_alloc];omega,⟨ho,λb C E hb=>?_,λb hb _=>⟨by rw[size_alloc];omega,G.kind_set_ne k (CA hb)⟩,λb off v hs hc=>?_⟩,λb hb=>?_,λb hb=>?_,⟨rfl,rfl,rfl⟩⟩
 ·have:=(An.1 hb).1
  exact⟨C,by rw[HN o this];exact hb,rfl⟩
 ·have hlt:=rD hc
  have hne:b≠w.heap.size:=CA hlt
  exact⟨(G.safe_set_ne k hne).2 hs,by rw[World.cell?_alloc_lt _ _ _ hlt];exact hc⟩
 ·exact G.kind_set_ne k (CA (hF b hb))
 ·exact HN o (hF b hb)
def HRel.block_lt(h:HRel F G H w){o:Nat}{cs:List AV}{b:Nat}(h1:H[o]? =some (some cs))(h2:G.obs[o]? =some b):b<w.heap.size:=by
 exact(h.obj o cs b h1 h2).lt
def HRel.ext{G':Gh}{w':World}{F':Nat->Prop}(h:HRel F G H w)(he:Ext F' G w G' w')(hobs:G'.obs=G.obs)
  (hk:∀b,(∃(o:Nat) (cs:List AV),H[o]? =some (some cs)/\G.obs[o]? =some b)\/0<IM G H w b->G'.kind b=G.kind b/\w'.heap[b]? =w.heap[b]?):HRel F G' H w':=by
 refine⟨by rw[hobs];exact h.len,λo cs b h1 h2=>?_,λo o' cs cs' b h1 h2 h3 h4=>h.inj o o' cs cs' b h1 h2 (by rw[<- hobs];exact h3) (by rw[<- hobs];exact h4),λb hb=>BP (h.fore b hb) he.size,h.glob.keep he.keeps⟩
 rw[hobs]at h2
 obtain⟨k1,k2⟩:=hk b (.inl ⟨o,cs,h1,h2⟩)
 refine(h.obj o cs b h1 h2).keep he.keeps (h.obj o cs b h1 h2).own k1 k2 λC E g2 i c v hc hv s3=>s3.keep λb' ht=>?_
 have hp:=fA h1 h2 g2 hc hv ht
 have hle:=qn (G:=G) (w:=w) (b:=b') (AC.1 h1).1
 obtain⟨k3,k4⟩:=hk b' (.inr FR)
 exact⟨(s3.of_tok ht).1,k3,k4⟩
def NG{G':Gh}{w':World}(hobs:G'.obs=G.obs)(hk:∀(o:Nat) (cs:List AV) (b:Nat),H[o]? =some (some cs)->G.obs[o]? =some b->w'.heap[b]? =w.heap[b]?)(b:Nat):IM G' H w' b=IM G H w b:=by
 refine JW λo ho=>?_
 congr 1
 unfold Gq
 rw[hobs]
 split
 ·rename_i cs b' h1 h2
  rw[hk o cs b' h1 h2]
 ·rfl
def CRel.alloc{vals:List AV}{us:List Value}(h:CRel F G vals H us w)(o:Obj)(k:Kind):CRel F (G.setKind w.heap.size k) vals H us (w.alloc o):=by
 have he:=Pp (F:=F) (G:=G) (w:=w) o k h.h.fore G.obs (λ_ _ h=>h)
 have hne:∀b,b<w.heap.size->(G.setKind w.heap.size k).kind b=G.kind b/\(w.alloc o).heap[b]? =w.heap[b]?:=λb hb=>⟨G.kind_set_ne k (CA hb),HN o hb⟩
 refine⟨⟨h.l.len,λi a u h1 h2=>(h.l.rel i a u h1 h2).keep he.keeps,λi a u h1 h2 p hp=>(h.l.tok i a u h1 h2 p hp).keep λb hb=>?_⟩,h.h.ext he rfl λb hb=>?_,λb=>?_⟩
 ·obtain⟨t1,_,C,E,t3⟩:=(h.l.tok i a u h1 h2 p hp).of_tok hb
  exact⟨t1,hne b (An.1 t3).1⟩
 ·rcases hb with⟨o',cs,h1,h2⟩|hb
  ·exact hne b (h.h.block_lt h1 h2)
  ·obtain⟨_,_,C,E,t3⟩:=h.h.tok_of_pos hb
   exact hne b (An.1 t3).1
 ·rw[NG (G:=G) (w:=w) (G':=G.setKind w.heap.size k) rfl λo' cs b' h1 h2=>(hne b' (h.h.block_lt h1 h2)).2]
  exact h.cnt b
def CRel.draw{vals:List AV}{us:List Value}(h:CRel F G vals H us w):CRel F G vals H us w.drew :=
 have he:Ext F G w G w.drew:=⟨AT _,⟨λ_ _ h=>h,λb C E h=>⟨C,h,rfl⟩,λ_ h _=>⟨h,rfl⟩,λ_ _ _ h1 h2=>⟨h1,h2⟩⟩,λ_ _=>rfl,λ_ _=>rfl,⟨rfl,rfl,rfl⟩⟩
 ⟨⟨h.l.len,λi a u h1 h2=>(h.l.rel i a u h1 h2).keep he.keeps,λi a u h1 h2 p hp=>(h.l.tok i a u h1 h2 p hp).keep λb hb=>⟨((h.l.tok i a u h1 h2 p hp).of_tok hb).1,rfl,rfl⟩⟩,
  h.h.ext he rfl λb _=>⟨rfl,rfl⟩,h.cnt⟩
def H9:Ext F G w G w.drew:=⟨AT _,⟨λ_ _ h=>h,λb C E h=>⟨C,h,rfl⟩,λ_ h _=>⟨h,rfl⟩,λ_ _ _ h1 h2=>⟨h1,h2⟩⟩,λ_ _=>rfl,λ_ _=>rfl,⟨rfl,rfl,rfl⟩⟩
end
end Go.AI
namespace Go.AI
section
variable{P:Program}{F:Nat->Prop}{G:Gh}{w:World}{H:cj}{vals:List AV}{us:List Value}
def K_{α:Type}{l l':List α}{i:Nat}{a:α}(h:l[i]? =some a):(l++l')[i]? =some a:=by
 rw[AX (AC.1 h).1];exact h
def Gh.newK(G:Gh)(n:Nat)(k:Kind):Gh:={ (G.setKind n k)with obs:=G.obs++[n] }
abbrev Gh.newObj(G:Gh)(n:Nat):Gh:=G.newK n .obj
def Gh.newK_kind_ne(G:Gh){n b:Nat}(k:Kind)(h:b≠n):(G.newK n k).kind b=G.kind b:=G.kind_set_ne k h
def Gh.newObj_kind_ne(G:Gh){n b:Nat}(h:b≠n):(G.newObj n).kind b=G.kind b:=G.kind_set_ne .obj h
def NM(hF:∀b,F b->b<w.heap.size)(o:Obj)(k:Kind):Ext F G w (G.newK w.heap.size k) (w.alloc o) :=
 Pp o k hF (G.obs++[w.heap.size]) λ_ _ h=>K_ h
def IU(hF:∀b,F b->b<w.heap.size)(o:Obj):Ext F G w (G.newObj w.heap.size) (w.alloc o):=NM hF o .obj
def WW(cs:List AV):Obj->List Nat
 |.cells C _ _=>(cs.zip C.toList).filterMap tok
 |_=>[]
def fB{G:Gh}{H:cj}{w:World}{o b:Nat}{cs:List AV}{ob:Obj}(h1:H[o]? =some (some cs))(h2:G.obs[o]? =some b)(h3:w.heap[b]? =some ob):Gq G H w o=WW cs ob:=by
 unfold Gq WW
 simp only[h1,h2,h3]
 cases ob<;>rfl
def CRel.newG (h:CRel F G vals H us w) (k:Kind) (ob:Obj) (cs:List AV)
  (his:ORel F (G.newK w.heap.size k) (w.alloc ob) cs w.heap.size) {vs:List AV} {us':List Value}
  (hv:LRel F (G.newK w.heap.size k) vs us' (w.alloc ob)) (hn:∀b,(WW cs ob).count b+HA b vs us'<=HA b vals us) :
  CRel F (G.newK w.heap.size k) vs (H++[some cs]) us' (w.alloc ob):=by
 have he:=NM (G:=G) h.h.fore ob k
 have hlen:=h.h.len
 have old:∀b,b<w.heap.size->(G.newK w.heap.size k).kind b=G.kind b/\(w.alloc ob).heap[b]? =w.heap[b]?:=λb hb =>
  ⟨G.newK_kind_ne k (CA hb),HN _ hb⟩
 have hnew:(w.alloc ob).heap[w.heap.size]? =some ob:=heap_alloc_new w ob
 have hat:∀(o b:Nat) (cs':List AV),(H++[some cs])[o]? =some (some cs')->(G.newK w.heap.size k).obs[o]? =some b ->
   (H[o]? =some (some cs')/\G.obs[o]? =some b)\/(o=H.length/\cs'=cs/\b=w.heap.size):=by
  intro o b cs' h1 h2
  have hlt:=(AC.1 h1).1
  simp only[AF,AD,AJ]at hlt
  by_cases ho:o<H.length
  ·refine .inl ⟨by rw[AX ho]at h1;exact h1, ?_⟩
   rw[show(G.newK w.heap.size k).obs=G.obs++[w.heap.size]from rfl,AX FR]at h2
   exact h2
  ·have:o=H.length:=FR
   subst this
   rw[AN FR]at h1
   rw[show(G.newK w.heap.size k).obs=G.obs++[w.heap.size]from rfl,AN FR]at h2
   simp only[AP,A7,Option.some.injEq]at h1
   rw[hlen]at h2
   simp only[AP,A7,Option.some.injEq]at h2
   exact .inr ⟨rfl,h1.symm,h2.symm⟩
 refine⟨hv,⟨?_,λo cs' b h1 h2=>?_,λo o' cs1 cs2 b h1 h2 h3 h4=>?_,λb hb=>BP (h.h.fore b hb) he.size,h.h.glob.keep he.keeps⟩,λb=>?_⟩
 ·show(G.obs++[w.heap.size]).length=_
  simp[hlen]
 ·rcases hat o b cs' h1 h2 with⟨g1,g2⟩|⟨rfl,rfl,rfl⟩
  ·have hb:=h.h.block_lt g1 g2
   refine(h.h.obj o cs' b g1 g2).keep he.keeps (h.h.obj o cs' b g1 g2).own (old b hb).1 (old b hb).2 λC E _ i c x hi hx s3=>s3.keep λb' hb'=>?_
   obtain⟨t1,_,C2,E2,t3⟩:=s3.of_tok hb'
   exact⟨t1,old b' (An.1 t3).1⟩
  ·exact his
 ·rcases hat o b cs1 h1 h3 with⟨g1,g2⟩|⟨rfl,_,rfl⟩<;>rcases hat o' _ cs2 h2 h4 with⟨g3,g4⟩|⟨rfl,_,hb⟩
  ·exact h.h.inj _ _ _ _ _ g1 g3 g2 g4
  ·subst hb;exact absurd (h.h.block_lt g1 g2) (Bs _)
  ·exact absurd (h.h.block_lt g3 g4) (Bs _)
  ·rfl
 ·have hsum:IM (G.newK w.heap.size k) (H++[some cs]) (w.alloc ob) b=IM G H w b+(WW cs ob).count b:=by
   unfold IM
   simp only[AF,AD,AJ,AU,B9,Aq,B_,AS,Ah,B2,CP,BA]
   congr 1
   ·refine JW λo ho=>?_
    congr 1
    unfold Gq
    rw[AX ho,show(G.newK w.heap.size k).obs=G.obs++[w.heap.size]from rfl,AX FR]
    cases g1:H[o]? with
    |none=>rfl
    | some x=>cases x with
     |none=>rfl
     |some cs'=>cases g2:G.obs[o]? with
      |none=>rfl
      |some b'=>simp only[(old b' (h.h.block_lt g1 g2)).2]
   ·congr 1
    refine fB (b:=w.heap.size) sm ?_ hnew
    rw[show(G.newK w.heap.size k).obs=G.obs++[w.heap.size]from rfl,AN FR,hlen]
    simp
  rw[hsum]
  have h1:=h.cnt b
  have h2:=hn b
  omega
def CRel.newObj(h:CRel F G vals H us w)(cs:List AV)(C:Array Value)(E:TypeId)(hl:cs.length<=C.size)
  (hc:∀(i:Nat) (c:AV) (v:Value),cs[i]? =some c->C[i]? =some v->c.scalar=true/\VRel G w c v/\GD F G w (c,v))
  (hn:∀b,((cs.zip C.toList).filterMap tok).count b<=HA b vals us){v:AV}{u:Value}
  (hv:VRel (G.newObj w.heap.size) (w.alloc (.cells C E)) v u)(ht:Gs v u=[]):
  CRel F (G.newObj w.heap.size) [v] (H++[some cs]) [u] (w.alloc (.cells C E)):=by
 have he:=IU (G:=G) h.h.fore (.cells C E)
 refine h.newG .obj (.cells C E) cs (.row_of (λhF=>absurd (h.h.fore _ hF) (Bs _)) (G.kind_set _ _) ⟨C,E,heap_alloc_new w (.cells C E),hl,λi c x hi hx=>?_⟩)
  (.cons hv (Fj ht F _ _) (.nil F _ _)) λb=>?_
 ·obtain⟨s1,s2,s3⟩:=hc i c x hi hx
  refine⟨s1,s2.keep he.keeps,s3.keep λb' hb'=>?_⟩
  obtain⟨t1,_,C2,E2,t3⟩:=s3.of_tok hb'
  have hlt:=(An.1 t3).1
  exact⟨t1,G.newObj_kind_ne (CA hlt),HN _ hlt⟩
 ·rw[Fc,GS,ht,Ba]
  exact hn b
def CRel.setObj (h:CRel F G vals H us w) {o b:Nat} {cs cs':List AV} (ho:H[o]? =some (some cs)) (hb:G.obs[o]? =some b) {C C':Array Value} {E:TypeId} (hrow:w.heap[b]? =some (.cells C E (0,0)))
  (hsize:C'.size=C.size) (hl:cs'.length<=C'.size)
  (hc:∀(i:Nat) (c:AV) (v:Value),cs'[i]? =some c->C'[i]? =some v->c.scalar=true/\VRel G w c v/\GD F G w (c,v)) {vs:List AV} {us':List Value}
  (hvs:LRel F G vs us' w)
  (hn:∀x,HA x vs us'+((cs'.zip C'.toList).filterMap tok).count x<=HA x vals us+((cs.zip C.toList).filterMap tok).count x) :
  CRel F G vs (H.set o (some cs')) us' (w.setRow b C')/\Ext F G w G (w.setRow b C'):=by
 have hkind:=((h.h.obj o cs b ho hb).of_cells hrow).1
 have hnF:=(h.h.obj o cs b ho hb).own
 have hlen:=h.h.len
 have holt:o<H.length:=(AC.1 ho).1
 have he:Ext F G w G (w.setRow b C'):=by
  refine⟨sm,⟨λ_ _ h=>h,λb' C2 E2 h2=>?_,λ_ hb' _=>⟨by simpa using hb',rfl⟩,λb' off v hs hcell=>⟨hs, ?_⟩⟩,λ_ _=>rfl,λb' hb'=>setRow_other w b b' C' (λe=>hnF (e▸hb')),⟨rfl,rfl,rfl⟩⟩
  ·by_cases hbb:b'=b
   ·subst hbb
    rw[hrow]at h2;cases h2
    exact⟨C',setRow_heap w b' C C' E _ hrow,hsize⟩
   ·exact⟨C2,by rw[setRow_other w b b' C' hbb];exact h2,rfl⟩
  ·by_cases hbb:b'=b
   ·subst hbb
    simp[Gh.safe,hkind]at hs
   ·rw[cell_setRow_other w b C' _ hbb];exact hcell
 have hother:∀b',b'≠b->(w.setRow b C').heap[b']? =w.heap[b']?:=λb' hne=>setRow_other w b b' C' hne
 have htokne:∀{p:AV×Value} {x:Nat},GD F G w p->tok p=some x->x≠b:=λhp hx hxb=>by
  obtain⟨_,⟨q,hq⟩,_⟩:=hp.of_tok hx
  rw[hxb,hkind]at hq;cases hq
 have htk:∀{p:AV×Value},GD F G w p->GD F G (w.setRow b C') p:=λhp=>hp.keep λx hx=>⟨(hp.of_tok hx).1,rfl,hother x (htokne hp hx)⟩
 have hset:∀(o':Nat) (cs2:List AV),(H.set o (some cs'))[o']? =some (some cs2)->(o'=o/\cs2=cs')\/(o'≠o/\H[o']? =some (some cs2)):=by
  intro o' cs2 h2
  rw[Ax]at h2
  split at h2
  ·rename_i heq
   subst heq
   simp[]at h2
   exact .inl ⟨rfl,h2.symm⟩
  ·rename_i hne
   exact .inr ⟨λe=>hne e.symm,h2⟩
 have hnew:(w.setRow b C').heap[b]? =some (.cells C' E (0,0)):=setRow_heap w b C C' E _ hrow
 have hinj:∀o' cs2,o'≠o->H[o']? =some (some cs2)->G.obs[o']?≠some b:=λo' cs2 hne h2 h3=>hne (h.h.inj o' o cs2 cs b h2 ho h3 hb)
 refine⟨⟨⟨hvs.len,λi a u h1 h2=>(hvs.rel i a u h1 h2).keep he.keeps,λi a u h1 h2 p hp=>htk (hvs.tok i a u h1 h2 p hp)⟩,⟨by simp[hlen],λo' cs2 b2 h2 h3=>?_,λo1 o2 c1 c2 b2 h1 h2 h3 h4=>?_,λb' hF=>by simpa using h.h.fore b' hF,h.h.glob.keep he.keeps⟩,λx=>?_⟩,he⟩
 ·rcases hset o' cs2 h2 with⟨rfl,rfl⟩|⟨hne,h2'⟩
  ·rw[hb]at h3;cases h3
   refine .row_of hnF hkind ⟨C',E,hnew,hl,λi c v hi hv=>?_⟩
   obtain⟨s1,s2,s3⟩:=hc i c v hi hv
   exact⟨s1,s2.keep he.keeps,htk s3⟩
  ·have hbne:b2≠b:=λe=>hinj o' cs2 hne h2' (e▸h3)
   exact(h.h.obj o' cs2 b2 h2' h3).keep he.keeps (h.h.obj o' cs2 b2 h2' h3).own rfl (hother b2 hbne) λ_ _ _ _ _ _ _ _ s3=>htk s3
 ·rcases hset o1 c1 h1 with⟨rfl,rfl⟩|⟨hne1,h1'⟩<;>rcases hset o2 c2 h2 with⟨rfl,rfl⟩|⟨hne2,h2'⟩
  ·rfl
  ·exact(h.h.inj o2 o1 c2 cs b2 h2' ho h4 h3).symm
  ·exact h.h.inj o1 o2 c1 cs b2 h1' ho h3 h4
  ·exact h.h.inj o1 o2 c1 c2 b2 h1' h2' h3 h4
 ·have hone:=JO (n:=H.length) (d:=o) (f:=λo'=>(Gq G (H.set o (some cs')) (w.setRow b C') o').count x) (g:=λo'=>(Gq G H w o').count x) holt (λo' ho' hne=>by
   congr 1
   unfold Gq
   rw[Ax,iN (λe=>hne e.symm)]
   cases g1:H[o']? with
   |none=>rfl
   | some x2=>cases x2 with
    |none=>rfl
    |some cs2=>cases g2:G.obs[o']? with
     |none=>rfl
     |some b2=>simp only[hother b2 (λe=>hinj o' cs2 hne g1 (e▸g2))])
  have e1:Gq G (H.set o (some cs')) (w.setRow b C') o=(cs'.zip C'.toList).filterMap tok:=by
   unfold Gq
   rw[Ax,iP rfl,iP holt]
   simp only[hb,hnew]
  have e2:Gq G H w o=(cs.zip C.toList).filterMap tok:=by
   unfold Gq
   simp only[ho,hb,hrow]
  rw[e1,e2]at hone
  have h1:=h.cnt x
  have h2:=hn x
  unfold IM at h1 ⊢
  simp only[Ao]
  omega
end
end Go.AI
namespace Go.AI
section
variable{P:Program}{F:Nat->Prop}{G:Gh}{w:World}{H:cj}{vals:List AV}{us:List Value}
def Ki{b:Nat}{X0 X:Obj}(hF : ¬ F b)(hb:w.heap[b]? =some X0)(hX : ∀ C E f,X0 ≠ .cells C E f):Ext F G w G (w.putObj b X):=by
 refine⟨sm,⟨λ_ _ h=>h,λb' C E h=>?_,λb' hb' _=>⟨by simpa using hb',rfl⟩,λb' o v hs hc=>⟨hs, ?_⟩⟩,λ_ _=>rfl,λb' hb'=>World.putObj_heap_other (λe=>hF (e▸hb')),⟨rfl,rfl,rfl⟩⟩
 ·by_cases e:b'=b
  ·subst e
   rw[hb]at h;cases h
   exact absurd rfl (hX _ _ _)
  ·exact⟨C,by rw[World.putObj_heap_other e];exact h,rfl⟩
 ·by_cases e:b'=b
  ·subst e
   unfold World.cell? at hc
   simp only[hb]at hc
   split at hc
   ·rename_i heq
    cases heq
    exact absurd rfl (hX _ _ _)
   ·cases hc
  ·unfold World.cell? at hc ⊢
   simp only[World.putObj_heap_other e]
   exact hc
def CRel.setSp (h:CRel F G vals H us w) {o b:Nat} {cs cs':List AV} {X:Obj} (ho:H[o]? =some (some cs)) (hb:G.obs[o]? =some b) (hk:(G.kind b).sp=true)
  (hX:∀C E f,X ≠ .cells C E f) (his:ORel F G (w.putObj b X) cs' b) {vs:List AV} {us':List Value} (hvs:LRel F G vs us' w) (hn:∀x,HA x vs us'<=HA x vals us) :
  CRel F G vs (H.set o (some cs')) us' (w.putObj b X)/\Ext F G w G (w.putObj b X):=by
 have hr:=h.h.obj o cs b ho hb
 have hnF:=hr.own
 have hlt:=hr.lt
 have hlen:=h.h.len
 have holt:o<H.length:=(AC.1 ho).1
 obtain⟨X0,hX0,hne0⟩:∃X0,w.heap[b]? =some X0 /\ ∀C E f,X0 ≠ .cells C E f:=by
  refine⟨_,Ai hlt,λC E f e=>?_⟩
  have hkk:=(hr.of_cells ((Ai hlt).trans (congrArg some e))).1
  rw[hkk]at hk;cases hk
 have he:Ext F G w G (w.putObj b X):=Ki hnF hX0 hne0
 have hother:∀b',b'≠b->(w.putObj b X).heap[b']? =w.heap[b']?:=λb' hne=>World.putObj_heap_other hne
 have hnew:(w.putObj b X).heap[b]? =some X:=World.putObj_heap_same hlt
 have htokne:∀{p:AV×Value} {x:Nat},GD F G w p->tok p=some x->x≠b:=λhp hx hxb=>by
  obtain⟨_,⟨q,hq⟩,_⟩:=hp.of_tok hx
  rw[hxb]at hq;rw[hq]at hk;cases hk
 have htk:∀{p:AV×Value},GD F G w p->GD F G (w.putObj b X) p:=λhp=>hp.keep λx hx=>⟨(hp.of_tok hx).1,rfl,hother x (htokne hp hx)⟩
 have hset:∀(o':Nat) (cs2:List AV),(H.set o (some cs'))[o']? =some (some cs2)->(o'=o/\cs2=cs')\/(o'≠o/\H[o']? =some (some cs2)):=by
  intro o' cs2 h2
  rw[Ax]at h2
  split at h2
  ·rename_i heq
   subst heq
   simp[]at h2
   exact .inl ⟨rfl,h2.symm⟩
  ·rename_i hne
   exact .inr ⟨λe=>hne e.symm,h2⟩
 have hinj:∀o' cs2,o'≠o->H[o']? =some (some cs2)->G.obs[o']?≠some b:=λo' cs2 hne h2 h3=>hne (h.h.inj o' o cs2 cs b h2 ho h3 hb)
 refine⟨⟨⟨hvs.len,λi a u h1 h2=>(hvs.rel i a u h1 h2).keep he.keeps,λi a u h1 h2 p hp=>htk (hvs.tok i a u h1 h2 p hp)⟩,⟨by simp[hlen],λo' cs2 b2 h2 h3=>?_,λo1 o2 c1 c2 b2 h1 h2 h3 h4=>?_,λb' hF=>by simpa using h.h.fore b' hF,h.h.glob.keep he.keeps⟩,λx=>?_⟩,he⟩
 ·rcases hset o' cs2 h2 with⟨rfl,rfl⟩|⟨hne,h2'⟩
  ·rw[hb]at h3;cases h3
   exact his
  ·have hbne:b2≠b:=λe=>hinj o' cs2 hne h2' (e▸h3)
   exact(h.h.obj o' cs2 b2 h2' h3).keep he.keeps (h.h.obj o' cs2 b2 h2' h3).own rfl (hother b2 hbne) λ_ _ _ _ _ _ _ _ s3=>htk s3
 ·rcases hset o1 c1 h1 with⟨rfl,rfl⟩|⟨hne1,h1'⟩<;>rcases hset o2 c2 h2 with⟨rfl,rfl⟩|⟨hne2,h2'⟩
  ·rfl
  ·exact(h.h.inj o2 o1 c2 cs b2 h2' ho h4 h3).symm
  ·exact h.h.inj o1 o2 c1 cs b2 h1' ho h3 h4
  ·exact h.h.inj o1 o2 c1 c2 b2 h1' h2' h3 h4
 ·have hall:IM G (H.set o (some cs')) (w.putObj b X) x<=IM G H w x:=by
   unfold IM
   simp only[Ao]
   have hone:=JO (n:=H.length) (d:=o) (f:=λo'=>(Gq G (H.set o (some cs')) (w.putObj b X) o').count x) (g:=λo'=>(Gq G H w o').count x) holt (λo' ho' hne=>by
    congr 1
    unfold Gq
    rw[Ax,iN (λe=>hne e.symm)]
    cases g1:H[o']? with
    |none=>rfl
    | some x2=>cases x2 with
     |none=>rfl
     |some cs2=>cases g2:G.obs[o']? with
      |none=>rfl
      |some b2=>simp only[hother b2 (λe=>hinj o' cs2 hne g1 (e▸g2))])
   have e1:Gq G (H.set o (some cs')) (w.putObj b X) o=[]:=by
    rw[fB (cs:=cs') (b:=b) (by rw[Ax,iP rfl,iP holt]) hb hnew]
    cases X<;>first|rfl|exact absurd rfl (hX _ _ _)
   rw[e1]at hone
   simp only[Ba]at hone
   omega
  have h1:=h.cnt x
  have h2:=hn x
  omega
def CRel.setLoop(h:CRel F G vals H us w){o b:Nat}{st st':Int}{av:List AV}{L:LoopRec}(ho:H[o]? =some (some (G8 st av)))(hb:G.obs[o]? =some b)(hk:G.kind b = .loop L)
  {s':LoopState}{p':Option Code}(hs:Mo s' p'=some st'):
  ∃r:Loop,w.heap[b]? =some (.loop r)/\Mo r.state r.pending=some st/\r.params=L.ps/\r.assign=L.assign/\r.body=L.body /\
   av.length=r.tmps.size/\(∀(i:Nat) (a:AV) (u:Value),av[i]? =some a->r.tmps[i]? =some u->a.borrow=a/\VRel G w a u) /\
   CRel F G vals (H.set o (some (G8 st' av))) us (w.putObj b (.loop { r with state:=s',pending:=p' }))/\Ext F G w G (w.putObj b (.loop { r with state:=s',pending:=p' })):=by
 have hr:=h.h.obj o _ b ho hb
 have hlt:=hr.lt
 have hi:=hr.is
 rw[hk]at hi
 obtain⟨s,pe,t,D,st0,vals0,g1,g2,g3,g4,g5⟩:=hi
 simp only[G8,List.cons.injEq,AV.tup.injEq,and_true,AV.int.injEq,true_and]at g3
 obtain⟨rfl,rfl⟩:=g3
 have hsp:(G.kind b).sp=true:=by rw[hk];rfl
 have he:Ext F G w G (w.putObj b (.loop { state:=s',pending:=p',fn:=D.1,tmps:=t,params:=L.ps,assign:=L.assign,body:=L.body,defers:=D.2 })):=Ki hr.own g1 (λ_ _ _ e=>by cases e)
 refine⟨_,g1,g2,rfl,rfl,rfl,g4,g5, ?_⟩
 refine h.setSp ho hb hsp (λ_ _ _ e=>by cases e) ⟨hr.own, ?_⟩ h.l (λx=>AT _)
 rw[hk]
 exact⟨s',p',t,D,st',av,World.putObj_heap_same hlt,hs,rfl,g4,λi a u h1 h2=>⟨(g5 i a u h1 h2).1,(g5 i a u h1 h2).2.keep he.keeps⟩⟩
def CRel.drop(h:CRel F G vals H us w)(o:Nat):CRel F G vals (H.set o none) us w:=by
 have hget:∀(o':Nat) (cs:List AV),(H.set o none)[o']? =some (some cs)->H[o']? =some (some cs):=λo' cs h2=>by
  rw[Ax]at h2
  split at h2
  ·split at h2<;>cases h2
  ·exact h2
 refine⟨h.l,⟨by simp[h.h.len],λo' cs b h1 h2=>h.h.obj o' cs b (hget o' cs h1) h2,λo1 o2 c1 c2 b g1 g2 g3 g4=>h.h.inj o1 o2 c1 c2 b (hget _ _ g1) (hget _ _ g2) g3 g4,h.h.fore,h.h.glob⟩,λx=>?_⟩
 have hle:IM G (H.set o none) w x<=IM G H w x:=by
  unfold IM
  simp only[Ao]
  by_cases holt:o<H.length
  ·have hone:=JO (n:=H.length) (d:=o) (f:=λo'=>(Gq G (H.set o none) w o').count x) (g:=λo'=>(Gq G H w o').count x) holt (λo' ho' hne=>by
    congr 1
    unfold Gq
    rw[Ax,iN (λe=>hne e.symm)])
   have e1:Gq G (H.set o none) w o=[]:=by
    unfold Gq
    rw[Ax,iP rfl,iP holt]
   rw[e1]at hone
   simp only[Ba]at hone
   omega
  ·rw[List.set_eq_of_length_le FR]
   exact AT _
 have:=h.cnt x
 omega
end
end Go.AI
namespace Go.AI
section
variable{P:Program}{F:Nat->Prop}{G:Gh}{w:World}{H:cj}{vals:List AV}{us:List Value}
def Gz{es:List AV}{n:Nat}(h:∀e∈es,e.cells.length=n):(HP es).length=es.length*n:=by
 induction es with
 |nil=>simp[HP]
 |cons e es ih =>
  have h1:=h e sm
  have h2:=ih λx hx=>h x (by simp[hx])
  simp only[HP,A5,AF,AD]at h2 ⊢
  rw[h1,h2,Nat.succ_mul]
  omega
def Kq(es fs:List AV):HP (es++fs)=HP es++HP fs:=by simp[HP]
def qG(own:Option Nat)(es:List AV)(b q len cap:Nat):Gs (.sl own es) (.slice (some ⟨b,q,none⟩) len cap)=(tok (.sl own es,.slice (some ⟨b,q,none⟩) len cap)).toList:=by
 simp only[Gs,LG,AV.flat,AV.cells,ID,Value.cells,B4,Dx,B5,Ca]
 cases tok (AV.sl own es,Value.slice (some ⟨b,q,none⟩) len cap)<;>rfl
def Qh(own:Option Nat)(es:List AV)(u:Value)(a:Option Addr)(len cap:Nat)(hu:u = .slice a len cap):LG (.sl own es) u=[(.sl own es,u)]:=by
 subst hu;rfl
def CRel.newList (h:CRel F G vals H us w) (es:List AV) (n cap:Nat) (C:Array Value) (E:TypeId) (hn0:0<n) (hsz : ∀ e∈es,e.cells.length=n) (hl:es.length<=cap) (hm:cap<=maxLen)
  (hcap:cap*n<=C.size) (hc:∀(i:Nat) (c:AV),(HP es)[i]? =some c->c.scalar=true /\ ∃v,C[i]? =some v/\VRel G w c v) :
  ∃G',CRel F G' [.sl (some n) es] H [.slice (some ⟨w.heap.size,0,none⟩) es.length cap] (w.alloc (.cells C E))/\Ext F G w G' (w.alloc (.cells C E)):=by
 have h1:=h.alloc (.cells C E) (.buf (es.length*n))
 have he:=Pp (F:=F) (G:=G) (w:=w) (.cells C E) (.buf (es.length*n)) h.h.fore G.obs (λ_ _ h=>h)
 have hnew:(w.alloc (.cells C E)).heap[w.heap.size]? =some (.cells C E (0,0)):=heap_alloc_new w (.cells C E)
 have hsafe:∀i,i<(HP es).length->(G.setKind w.heap.size (.buf (es.length*n))).safe w.heap.size i:=λi hi=>by
  rw[Gz hsz]at hi
  simp[Gh.safe,Gh.kind_set,hi]
 have hcell:∀(i:Nat) (v:Value),C[i]? =some v->(w.alloc (.cells C E)).cell? ⟨w.heap.size,0+i,none⟩=some v:=λi v hv=>by
  rw[AU,cell_of_row _ _ i C E _ hnew];exact hv
 let u:Nat->Value:=λi=>(C[i]?).getD Go.undef
 refine⟨_,⟨.cons ?_ (λp hp=>?_) (.nil F _ _),h1.h,λb=>?_⟩,he⟩
 ·refine .sl (some n) es n w.heap.size 0 cap u hsz (λm hm=>by cases hm;exact⟨rfl,hn0⟩) hl hm (λi c hi=>?_) (λi c hi=>?_)
  ·obtain⟨s1,v,s2,s3⟩:=hc i c hi
   refine⟨s1, ?_, ?_⟩
   ·rw[AU];exact hsafe i (AC.1 hi).1
   ·rw[hcell i v s2];simp[u,s2]
  ·obtain⟨s1,v,s2,s3⟩:=hc i c hi
   have:u i=v:=by simp[u,s2]
   rw[this]
   exact s3.keep he.keeps
 ·rw[Qh _ _ _ _ _ _ rfl]at hp
  simp only[Ab]at hp
  subst hp
  intro _
  refine⟨λhF=>absurd (h.h.fore _ hF) (Bs _), ?_,C,E,hnew,by simpa using hcap⟩
  simp[Gh.kind_set]
 ·rw[Fc,GS,qG]
  by_cases hb:b=w.heap.size
  ·subst hb
   have h0:¬0<IM (G.setKind w.heap.size (.buf (es.length*n))) H (w.alloc (.cells C E)) w.heap.size:=λhp=>by
    rw[NG (G:=G) (w:=w) (G':=G.setKind w.heap.size (.buf (es.length*n))) rfl λo' cs b' h1 h2=>HN _ (h.h.block_lt h1 h2)]at hp
    obtain⟨_,_,C',E',hh⟩:=h.h.tok_of_pos hp
    exact absurd (An.1 hh).1 (Bs _)
   have:((tok (AV.sl (some n) es,Value.slice (some ⟨w.heap.size,0,none⟩) es.length cap)).toList).count w.heap.size<=1:=by
    refine AL Dy ?_
    cases tok (AV.sl (some n) es,Value.slice (some ⟨w.heap.size,0,none⟩) es.length cap)<;>simp
   omega
  ·have h0:((tok (AV.sl (some n) es,Value.slice (some ⟨w.heap.size,0,none⟩) es.length cap)).toList).count b=0:=by
    refine Dz.2 λhmem=>?_
    simp only[tok]at hmem
    split at hmem
    ·simp at hmem;exact hb hmem
    ·simp at hmem
   have:=h1.cnt b
   omega
def CRel.appendIn (h:CRel F G vals H us w) {es xs:List AV} {n b q cap:Nat} {i0:Nat} (hv:vals[i0]? =some (.sl (some n) es)) (hu:us[i0]? =some (.slice (some ⟨b,q,none⟩) es.length cap))
  (hroom:es.length+xs.length<=cap) (hpos:es.length<cap) (hxs:∀e∈xs,e.cells.length=n) (news:List Value) (hnl:news.length=xs.length*n)
  (hnew:∀(i:Nat) (c:AV),(HP xs)[i]? =some c->c.scalar=true /\ ∃v,news[i]? =some v/\VRel G w c v)
  {C:Array Value} {E:TypeId} (hrow:w.heap[b]? =some (.cells C E (0,0))) :
  q+es.length*n+news.length<=C.size /\
  ∃G',CRel F G' [.sl (some n) (es++xs)] H [.slice (some ⟨b,q,none⟩) (es.length+xs.length) cap] (w.setRow b (C.toList.take (q+es.length*n)++news++C.toList.drop (q+es.length*n+news.length)).toArray) /\
   Ext F G w G' (w.setRow b (C.toList.take (q+es.length*n)++news++C.toList.drop (q+es.length*n+news.length)).toArray):=by
 have htok:=h.l.tok i0 _ _ hv hu (.sl (some n) es,.slice (some ⟨b,q,none⟩) es.length cap) (by rw[Qh _ _ _ _ _ _ rfl];simp)
 obtain⟨hnF,hkind,C2,E2,hrow2,hfit⟩:=htok hpos
 replace hnF:¬F b:=hnF
 replace hkind:G.kind b = .buf (q+es.length*n):=hkind
 replace hrow2:w.heap[b]? =some (.cells C2 E2 (0,0)):=hrow2
 replace hfit:q+cap*n<=C2.size:=hfit
 rw[hrow]at hrow2;cases hrow2
 have hrel:=h.l.rel i0 _ _ hv hu
 have htk0:tok (AV.sl (some n) es,Value.slice (some ⟨b,q,none⟩) es.length cap)=some b:=by simp[tok,hpos]
 have hcnt1:0<HA b vals us:=MY hv hu (p:=(.sl (some n) es,.slice (some ⟨b,q,none⟩) es.length cap)) (by rw[Qh _ _ _ _ _ _ rfl];simp) htk0
 have hlen:q+es.length*n+news.length<=C.size:=by
  have:=BE n hroom
  rw[Az]at this
  omega
 refine⟨hlen, ?_⟩
 let C':Array Value:=(C.toList.take (q+es.length*n)++news++C.toList.drop (q+es.length*n+news.length)).toArray
 have hC':C'=(C.toList.take (q+es.length*n)++news++C.toList.drop (q+es.length*n+news.length)).toArray:=rfl
 have hsize:C'.size=C.size:=by
  rw[hC']
  simp only[BR,AF,BF,Cb,Bt]
  omega
 have hlow:∀i,i<q+es.length*n->C'[i]? =C[i]?:=λi hi=>by
  rw[hC']
  simp only[Bb,AE]
  rw[AX Hy,Aj,iP hi]
  simp
 have hmid:∀i,i<news.length->C'[q+es.length*n+i]? =news[i]?:=λi hi=>by
  rw[hC']
  simp only[Bb,AE]
  have ht:(C.toList.take (q+es.length*n)).length=q+es.length*n:=Hy
  rw[AN FR,ht,A4,AX hi]
 rw[<- hC']
 let G':Gh:=G.setKind b (.buf (q+(es.length+xs.length)*n))
 have hle:q+es.length*n<=q+(es.length+xs.length)*n:=by rw[Az];omega
 have hrow':(w.setRow b C').heap[b]? =some (.cells C' E (0,0)):=setRow_heap w b C C' E _ hrow
 have he:Ext F G w G' (w.setRow b C'):=by
  refine⟨sm,⟨λ_ _ h=>h,λb' C2 E2 h2=>?_,λb' hb' hs=>⟨by simpa using hb',G.kind_set_ne _ (λe=>by subst e;rw[hkind]at hs;cases hs)⟩,λb' off v hs hcell=>?_⟩,λb' hb'=>G.kind_set_ne _ (λe=>hnF (e▸hb')),λb' hb'=>setRow_other w b b' C' (λe=>hnF (e▸hb')),⟨rfl,rfl,rfl⟩⟩
  ·by_cases hbb:b'=b
   ·subst hbb
    rw[hrow]at h2;cases h2
    exact⟨C',hrow',hsize⟩
   ·exact⟨C2,by rw[setRow_other w b b' C' hbb];exact h2,rfl⟩
  ·by_cases hbb:b'=b
   ·subst hbb
    have hs':off<q+es.length*n:=by simpa [Gh.safe,hkind]using hs
    refine⟨by simp[Gh.safe,G',Gh.kind_set];omega, ?_⟩
    rw[cell_of_row _ _ off C' E _ hrow',hlow off hs']
    rw[cell_of_row _ _ off C E _ hrow]at hcell
    exact hcell
   ·exact⟨(G.safe_set_ne _ hbb).2 hs,by rw[cell_setRow_other w b C' _ hbb];exact hcell⟩
 have hh0:IM G H w b=0:=by have:=h.cnt b;omega
 refine⟨G',⟨.cons ?_ (λp hp=>?_) (.nil F _ _),h.h.ext he rfl λb' hb'=>?_,λx=>?_⟩,he⟩
 · -- the longer list
  cases hrel with
  |slany=>exact absurd hpos sm
  | sl own es' sz b' q' cap' u hsz hown hl hm hcs hus =>
   have hn:n=sz:=(hown n rfl).1
   have hn0:0<n:=(hown n rfl).2
   subst hn
   have hcl:=Gz hsz
   have hcx:=Gz hxs
   let u':Nat->Value:=λi=>if i<es.length*n then u i else(news[i - es.length*n]?).getD Go.undef
   have:=VRel.sl (G:=G') (w:=w.setRow b C') (some n) (es++xs) n b q cap u' (λe he=>by
     rcases List.mem_append.1 he with h1|h1
     ·exact hsz e h1
     ·exact hxs e h1) (λm hm=>by cases hm;exact⟨rfl,hn0⟩) (by simpa using hroom) hm (λi c hi=>?_) (λi c hi=>?_)
   ·simpa using this
   ·rw[Kq]at hi
    by_cases hlt:i<es.length*n
    ·rw[AX FR]at hi
     obtain⟨s1,s2,s3⟩:=hcs i c hi
     obtain⟨k1,k2⟩:=he.keeps.safe b (q+i) _ s2 s3
     exact⟨s1,k1,by simp only[u',hlt,if_true];exact k2⟩
    ·rw[AN FR,hcl]at hi
     obtain⟨s1,v,s2,s3⟩:=hnew _ c hi
     have hlt2:=(AC.1 hi).1
     rw[hcx]at hlt2
     refine⟨s1, ?_, ?_⟩
     ·simp only[Gh.safe,G',Gh.kind_set,Az];omega
     ·rw[cell_of_row _ _ (q+i) C' E _ hrow']
      have e:=hmid (i - es.length*n) FR
      rw[show q+es.length*n+(i - es.length*n)=q+i by omega]at e
      rw[e]
      simp only[u',hlt,if_false]
      rw[s2];rfl
   ·rw[Kq]at hi
    by_cases hlt:i<es.length*n
    ·rw[AX FR]at hi
     simp only[u',hlt,if_true]
     exact(hus i c hi).keep he.keeps
    ·rw[AN FR,hcl]at hi
     obtain⟨s1,v,s2,s3⟩:=hnew _ c hi
     simp only[u',hlt,if_false]
     rw[s2]
     exact s3.keep he.keeps
 ·rw[Qh _ _ _ _ _ _ rfl]at hp
  simp only[Ab]at hp
  subst hp
  intro _
  exact⟨hnF,by simp[G',Gh.kind_set],C',E,hrow',by show q+cap*n<=C'.size;omega⟩
 ·have hne:b'≠b:=by
   rcases hb' with⟨o,cs,h1,h2⟩|hb'
   ·intro e
    subst e
    exact(h.h.obj o cs b' h1 h2).no_buf hkind
   ·intro e;subst e;omega
  exact⟨G.kind_set_ne _ hne,setRow_other w b b' C' hne⟩
 ·rw[Fc,GS,qG]
  have hhc:IM G' H (w.setRow b C') x=IM G H w x:=NG rfl (λo cs b' h1 h2=>setRow_other w b b' C' λe=>by
   subst e
   exact(h.h.obj o cs b' h1 h2).no_buf hkind) x
  rw[hhc]
  have hcx:=h.cnt x
  by_cases hx:x=b
  ·subst hx
   have:((tok (AV.sl (some n) (es++xs),Value.slice (some ⟨x,q,none⟩) (es.length+xs.length) cap)).toList).count x<=1:=by
    refine AL Dy ?_
    cases tok (AV.sl (some n) (es++xs),Value.slice (some ⟨x,q,none⟩) (es.length+xs.length) cap)<;>simp
   omega
  ·have h0:((tok (AV.sl (some n) (es++xs),Value.slice (some ⟨b,q,none⟩) (es.length+xs.length) cap)).toList).count x=0:=by
    refine Dz.2 λhmem=>?_
    simp only[tok]at hmem
    split at hmem
    ·simp at hmem;exact hx hmem
    ·simp at hmem
   omega
end
end Go.AI
namespace Go.AI
structure Cells (F:Nat->Prop) (G:Gh) (w:World) (cs:List AV) (vs:List Value):Prop where
 len:cs.length=vs.length
 at_:∀(i:Nat) (c:AV) (v:Value),cs[i]? =some c->vs[i]? =some v->c.scalar=true/\VRel G w c v/\GD F G w (c,v)
def Gw(cs:List AV)(vs:List Value):List Nat:=(cs.zip vs).filterMap tok
section
variable{P:Program}{F:Nat->Prop}{G:Gh}{w:World}
def I_{a b:List AV}{x y:List Value}(h:a.length=x.length):Gw (a++b) (x++y)=Gw a x++Gw b y:=by
 simp[Gw,C3 h]
def Cells.append{a b:List AV}{x y:List Value}(h:Cells F G w a x)(h':Cells F G w b y):Cells F G w (a++b) (x++y):=by
 have hl:=h.len
 refine⟨by simp[h.len,h'.len],λi c v h1 h2=>?_⟩
 by_cases hi:i<a.length
 ·rw[AX hi]at h1;rw[AX FR]at h2;exact h.at_ i c v h1 h2
 ·rw[AN FR]at h1;rw[AN FR]at h2
  exact h'.at_ (i - a.length) c v h1 (by rw[hl];exact h2)
def Cells.take{cs:List AV}{vs:List Value}(h:Cells F G w cs vs)(k:Nat):Cells F G w (cs.take k) (vs.take k):=by
 refine⟨by simp[h.len],λi c v h1 h2=>?_⟩
 rw[Aj]at h1 h2
 split at h1
 ·rename_i hi
  rw[iP hi]at h2
  exact h.at_ i c v h1 h2
 ·cases h1
def Cells.drop{cs:List AV}{vs:List Value}(h:Cells F G w cs vs)(k:Nat):Cells F G w (cs.drop k) (vs.drop k):=by
 refine⟨by simp[h.len],λi c v h1 h2=>?_⟩
 rw[A2]at h1 h2
 exact h.at_ (k+i) c v h1 h2
def Cells.nil:Cells F G w [] []:=⟨rfl,λi c v h=>by simp at h⟩
def Cells.map_borrow{cs:List AV}{vs:List Value}(h:Cells F G w cs vs):Cells F G w (cs.map borrow1) vs:=by
 refine⟨by simp[h.len],λi c v h1 h2=>?_⟩
 rw[Aa]at h1
 cases hc:cs[i]? with
 |none=>rw[hc]at h1;cases h1
 |some d =>
  rw[hc]at h1;cases h1
  obtain⟨s1,s2,_⟩:=h.at_ i d v hc h2
  exact⟨by rw[GT];exact s1,s2.borrow1,GA (Gd d v)⟩
def ax(cs:List AV)(vs:List Value):Gw (cs.map borrow1) vs=[]:=by
 unfold Gw
 rw[B3]
 intro p hp
 have:=(CZ (show(p.1,p.2)∈_ from hp)).1
 obtain⟨d,_,hd⟩:=AO.1 this
 rw[show p=(borrow1 d,p.2) by rw[hd]]
 exact Gd d p.2
def Hp(vs:List Value)(off:Nat)(ys:List Value):List Value:=vs.take off++ys++vs.drop (off+ys.length)
def Mi{cs xs:List AV}{off:Nat}(h:off+xs.length<=cs.length):(splice cs off xs).length=cs.length:=by
 simp[splice];omega
def Cells.splice{cs xs:List AV}{vs ys:List Value}{off:Nat}(h:Cells F G w cs vs)(h':Cells F G w xs ys):Cells F G w (splice cs off xs) (Hp vs off ys):=by
 unfold Go.AI.splice Hp
 rw[h'.len]
 exact((h.take off).append h').append (h.drop _)
def O'(cs:List AV)(vs:List Value)(off k:Nat)(h:cs.length=vs.length):
  Gw cs vs=Gw (cs.take off) (vs.take off)++Gw ((cs.drop off).take k) ((vs.drop off).take k)++Gw (cs.drop (off+k)) (vs.drop (off+k)):=by
 have e1:cs=cs.take off++((cs.drop off).take k++cs.drop (off+k)):=by
  rw[<- A9,A_,A_]
 have e2:vs=vs.take off++((vs.drop off).take k++vs.drop (off+k)):=by
  rw[<- A9,A_,A_]
 have e3:=I_ (a:=cs.take off) (b:=(cs.drop off).take k++cs.drop (off+k)) (x:=vs.take off) (y:=(vs.drop off).take k++vs.drop (off+k)) (by simp[h])
 rw[<- e1,<- e2,I_ (by simp[h])]at e3
 rw[e3,AE]
def Ny{cs xs:List AV}{vs ys:List Value}{off:Nat}(hl:cs.length=vs.length)(hx:xs.length=ys.length)(b:Nat):
  (Gw (splice cs off xs) (Hp vs off ys)).count b<=(Gw cs vs).count b+(Gw xs ys).count b:=by
 rw[O' cs vs off xs.length hl]
 unfold splice Hp
 rw[<- hx,I_ (by simp[hl,hx]),I_ (by simp[hl])]
 simp only[Cc]
 omega
def ik{cs:List AV}{vs:List Value}{off k:Nat}(hl:cs.length=vs.length)(b:Nat)(hk:off+k<=cs.length):
  (Gw (splice cs off (((cs.drop off).take k).map borrow1)) vs).count b+(Gw ((cs.drop off).take k) ((vs.drop off).take k)).count b<=(Gw cs vs).count b:=by
 have hlen:(((cs.drop off).take k).map borrow1).length=k:=Hy
 have e2:vs=vs.take off++(vs.drop off).take k++vs.drop (off+k):=by
  rw[AE,<- A9,A_,A_]
 have e:Gw (splice cs off (((cs.drop off).take k).map borrow1)) vs=Gw (cs.take off) (vs.take off)++Gw (((cs.drop off).take k).map borrow1) ((vs.drop off).take k)++Gw (cs.drop (off+k)) (vs.drop (off+k)):=by
  unfold splice
  rw[hlen]
  have e3:Gw (cs.take off++((cs.drop off).take k).map borrow1++cs.drop (off+k)) (vs.take off++(vs.drop off).take k++vs.drop (off+k))=_ :=
   I_ (by simp[hl])
  rw[<- e2]at e3
  rw[e3,I_ (by simp[hl])]
 rw[e,ax,O' cs vs off k hl]
 simp only[Cc,Ba]
 omega
def Cells.unown{cs:List AV}{vs:List Value}(h:Cells F G w cs vs)(off k:Nat)(hk:off+k<=cs.length):Cells F G w (Go.AI.splice cs off (((cs.drop off).take k).map borrow1)) vs:=by
 have h1:=h.splice (off:=off) ((h.drop off).take k).map_borrow
 have hl:=h.len
 have e:Hp vs off ((vs.drop off).take k)=vs:=by
  unfold Hp
  have:((vs.drop off).take k).length=k:=Hy
  rw[this,AE,<- A9,A_,A_]
 rw[e]at h1
 exact h1
def MK{v:AV}{u:Value}(hv:v.isVal=true)(h:VRel G w v u)(ht : ∀ p∈LG v u,GD F G w p):Cells F G w v.cells u.cells.toList/\Gs v u=Gw v.cells u.cells.toList:=by
 have one:∀(c:AV) (x:Value),c.scalar=true->VRel G w c x->c.cells=[c]->c.flat=[c]->x.cells=#[x]->ID x=[x]->(∀p∈LG c x,GD F G w p) ->
   Cells F G w c.cells x.cells.toList/\Gs c x=Gw c.cells x.cells.toList:=by
  intro c x hs hr h1 h2 h3 h4 h5
  rw[h1,h3]
  refine⟨⟨rfl,λi d y hd hy=>?_⟩, ?_⟩
  ·cases i with
   |zero =>
    simp at hd hy
    subst hd;subst hy
    exact⟨hs,hr,h5 (c,x) (by simp[LG,h2,h4])⟩
   |succ i=>simp at hd
  ·simp[Gs,LG,h2,h4,Gw]
 cases h with
 |agg cs vs hl hs hr =>
  refine⟨⟨by simpa [AV.cells,Value.cells]using hl,λi c x hi hx=>?_⟩,rfl⟩
  simp only[AV.cells]at hi
  simp only[Value.cells,Ac]at hx
  refine⟨hs c (AB hi),hr i c x hi hx,ht (c,x) ?_⟩
  refine AB (i:=i) ?_
  simp only[LG,AV.flat,AV.cells,ID,Value.cells]
  rw[BZ]
  exact⟨hi,by simpa using hx⟩
 |undef v=>cases hv
 |tup=>cases hv
 |int k n=>exact one _ _ rfl (.int k n) rfl rfl rfl rfl ht
 |bool b=>exact one _ _ rfl (.bool b) rfl rfl rfl rfl ht
 |str s=>exact one _ _ rfl (.str s) rfl rfl rfl rfl ht
 |nilp=>exact one _ _ rfl .nilp rfl rfl rfl rfl ht
 |ptr o off b h hc=>exact one _ _ rfl (.ptr o off b h hc) rfl rfl rfl rfl ht
 |cptr cs off b q u h hu=>exact one _ _ rfl (.cptr cs off b q u h hu) rfl rfl rfl rfl ht
 |slnil own=>exact one _ _ rfl (.slnil own) rfl rfl rfl rfl ht
 |slany own a=>exact one _ _ rfl (.slany own a) rfl rfl rfl rfl ht
 |sl own es sz b q cap u hsz hown hl hm h hu=>exact one _ _ rfl (.sl own es sz b q cap u hsz hown hl hm h hu) rfl rfl rfl rfl ht
 |msl o off len sz b cap h hl hm hc=>exact one _ _ rfl (.msl o off len sz b cap h hl hm hc) rfl rfl rfl rfl ht
 |mslc o off len sz cap b h hl hm hc=>exact one _ _ rfl (.mslc o off len sz cap b h hl hm hc) rfl rfl rfl rfl ht
 |fn f first captured fi ca h1 h2 h3 h4=>exact one _ _ rfl (.fn f first captured fi ca h1 h2 h3 h4) rfl rfl rfl rfl ht
 |nilf=>exact one _ _ rfl .nilf rfl rfl rfl rfl ht
 |mapr o b h hb hk=>exact one _ _ rfl (.mapr o b h hb hk) rfl rfl rfl rfl ht
 |it o b h hb hk=>exact one _ _ rfl (.it o b h hb hk) rfl rfl rfl rfl ht
 |nilm=>exact one _ _ rfl .nilm rfl rfl rfl rfl ht
 |yld o b L h hb hk=>exact one _ _ rfl (.yld o b L h hb hk) rfl rfl rfl rfl ht
 |ifc t a v hs h=>exact one _ _ rfl (.ifc t a v hs h) rfl rfl rfl rfl ht
 |nili=>exact one _ _ rfl .nili rfl rfl rfl rfl ht
def No{c:AV}{v:Value}(hs:c.scalar=true)(h:VRel G w c v):v.oneCell'=true:=by
 cases h<;>first|rfl|cases hs
def Cells.oneCell{cs:List AV}{vs:List Value}(h:Cells F G w cs vs): ∀v∈vs,v.oneCell'=true:=by
 intro v hv
 obtain⟨i,hi⟩:=Ae hv
 have hlt:=(AC.1 hi).1
 have hc:cs[i]? =some (cs[i]'(by rw[h.len];exact hlt)):=AH _
 obtain⟨s1,s2,_⟩:=h.at_ i _ v hc hi
 exact No s1 s2
def pH{cs:List AV}{vs:List Value}(h:Cells F G w cs vs):VRel G w (.agg cs) (.agg vs.toArray)/\(∀p∈LG (.agg cs) (.agg vs.toArray),GD F G w p)/\Gs (.agg cs) (.agg vs.toArray)=Gw cs vs:=by
 refine⟨.agg _ _ (by simpa using h.len) (λc hc=>?_) (λi c v hi hv=>(h.at_ i c v hi (by simpa using hv)).2.1),λp hp=>?_,rfl⟩
 ·obtain⟨i,hi⟩:=Ae hc
  have hlt:=(AC.1 hi).1
  have hv:vs[i]? =some (vs[i]'(by rw[<- h.len];exact hlt)):=AH _
  exact(h.at_ i c _ hi hv).1
 ·obtain⟨i,hi⟩:=Ae hp
  simp only[LG,AV.flat,AV.cells,ID,Value.cells]at hi
  rw[BZ]at hi
  exact(h.at_ i p.1 p.2 hi.1 (by simpa using hi.2)).2.2
end
end Go.AI
namespace Go.AI
open Go.MapKept
def Sz:AV->Option Value
 |.agg cs=>if cs.all (λc=>(Qm c).isSome)=true then some (.agg (cs.map λc=>(Qm c).getD Go.undef).toArray)else none
 |c=>Qm c
def Nu:AV->AV->Bool
 |.int k n,.int k' n'=>decide (k=k')&&decide (n=n')
 |.str a,.str b=>decide (a=b)
 |.bool a,.bool b=>a==b
 |_,_=>false
def Qw:List AV->List AV->Bool
 |[],[]=>true
 |a::as,b::bs=>Nu a b&&Qw as bs
 |_,_=>false
def Hr:AV->AV->Bool
 |.agg as,.agg bs=>Qw as bs
 |a,b=>Nu a b
def Vy{a b:AV}{x y:Value}(ha:Qm a=some x)(hb:Qm b=some y):Nu a b=true↔x=y:=by
 cases a<;>cases ha<;>cases b<;>cases hb<;>simp[Nu]
def Vx:∀{as bs:List AV},as.all (λc=>(Qm c).isSome)=true->bs.all (λc=>(Qm c).isSome)=true ->
  (Qw as bs=true↔as.map (λc=>(Qm c).getD Go.undef)=bs.map (λc=>(Qm c).getD Go.undef))
 |[],[],_,_=>by simp[Qw]
 |[],_::_,_,_=>by simp[Qw]
 |_::_,[],_,_=>by simp[Qw]
 |a::as,b::bs,ha,hb=>by
  simp only[Al,AM]at ha hb
  obtain⟨x,hx⟩:=Bc.1 ha.1
  obtain⟨y,hy⟩:=Bc.1 hb.1
  simp only[Qw,AM,AS,List.cons.injEq,Vx ha.2 hb.2,Vy hx hy,hx,hy,BO]
def Ro{a:AV}(h:∀cs,a ≠ .agg cs):Sz a=Qm a:=by cases a<;>first|rfl|exact absurd rfl (h _)
def Pi{a b:AV}{x y:Value}(ha:Sz a=some x)(hb:Sz b=some y):Hr a b=true↔x=y:=by
 have agg:∀{cs:List AV} {z:Value},Sz (.agg cs)=some z->cs.all (λc=>(Qm c).isSome)=true/\z = .agg (cs.map λc=>(Qm c).getD Go.undef).toArray:=λh=>by
  simp only[Sz]at h
  split at h
  ·rename_i hh;cases h;exact⟨hh,rfl⟩
  ·cases h
 by_cases h1:∃cs,a = .agg cs
 ·obtain⟨cs,rfl⟩:=h1
  obtain⟨g1,rfl⟩:=agg ha
  by_cases h2:∃ds,b = .agg ds
  ·obtain⟨ds,rfl⟩:=h2
   obtain⟨g2,rfl⟩:=agg hb
   simp only[Hr,Vx g1 g2,Value.agg.injEq]
   exact⟨λh=>by rw[h],λh=>by simpa using congrArg Array.toList h⟩
  ·rw[Ro (λcs h=>h2 ⟨cs,h⟩)]at hb
   cases b<;>cases hb<;>simp[Hr,Nu]
 ·rw[Ro (λcs h=>h1 ⟨cs,h⟩)]at ha
  by_cases h2:∃ds,b = .agg ds
  ·obtain⟨ds,rfl⟩:=h2
   obtain⟨g2,rfl⟩:=agg hb
   cases a<;>cases ha<;>simp[Hr,Nu]
  ·rw[Ro (λcs h=>h2 ⟨cs,h⟩)]at hb
   have:Hr a b=Nu a b:=by cases a<;>first|rfl|exact absurd ⟨_,rfl⟩ h1
   rw[this];exact Vy ha hb
def fk{G:Gh}{w:World}{a:AV}{x v:Value}(ha:Qm a=some x)(h:VRel G w a v):v=x:=by
 cases a<;>cases ha<;>cases h<;>rfl
def Vv{G:Gh}{w:World}{a:AV}{x v:Value}(ha:Sz a=some x)(h:VRel G w a v):v=x:=by
 by_cases h1:∃cs,a = .agg cs
 ·obtain⟨cs,rfl⟩:=h1
  cases h with
  | agg cs vs hl hs hr =>
   simp only[Sz]at ha
   split at ha
   ·rename_i hh
    cases ha
    congr 1
    apply Bj
    apply A3
    intro i
    simp only[Aa]
    cases hc:cs[i]? with
    |none =>
     have:cs.length<=i:=List.getElem?_eq_none_iff.1 hc
     simp only[Option.map_none]
     exact Av (by simpa [<- hl]using this)
    |some c =>
     have hlt:=(AC.1 hc).1
     have hv:vs[i]? =some (vs[i]' FR):=Ai _
     have hlc:=Am.1 hh c (AB hc)
     obtain⟨y,hy⟩:=Bc.1 hlc
     rw[Ac,hv,BQ,hy]
     exact congrArg some (fk hy (hr i c _ hc hv))
   ·cases ha
 ·rw[Ro (λcs h=>h1 ⟨cs,h⟩)]at ha
  exact fk ha h
def ABX{a:AV}{x:Value}(ha:Sz a=some x):a.isVal=true:=by
 cases a<;>first|rfl|cases ha
structure KLaw (P:Program) (kt:TypeId) (D:Value->Prop):Prop where
 check:∀(w:World) (em:Bool) {v:Value},D v->(Instr.checkKey em 10000 kt v).run P w = .ok () w
 find:∀(w:World) {x:Value},D x -> ∀es:List MapEntry,(∀e∈es,D e.key) ->
  ((Instr.findKey kt x es).run P w = .ok none w /\ ∀e∈es,e.key≠x) \/ ∃j e,(Instr.findKey kt x es).run P w = .ok (some (j,e.val)) w/\es[j]? =some e/\e.key=x
 stays:∀(w:World) {v:Value},D v->(Instr.keyThatStays v v).run P w = .ok v w
def KLaw.plain{P:Program}{kt:TypeId}{d:TypeDesc}(hd:P.underlying kt=some d):KLaw P kt (IsKey d) where
 check w em _ hv:=run_checkKey hd hv em 9999
 find w x hx es hes:=by
  rcases findNow_spec hx es 0 hes with⟨h1,h2⟩|⟨j,e0,h1,h2,h3⟩
  ·exact .inl ⟨run_findKey hd h1,h2⟩
  ·exact .inr ⟨j,e0,by simpa using run_findKey hd h1,h2,h3⟩
 stays w _ hv:=run_keyThatStays hv
def KLaw.wide{P:Program}{kt:TypeId}(K:WideMaps.KeyLaw P kt):KLaw P kt (λv => ∃l,keyOf P kt v=some l) where
 check w em _ hv:=K.check w em hv.choose_spec
 find w x hx es hes:=K.find w hx.choose_spec es hes
 stays w _ hv:=K.stays w hv.choose_spec
def Mq(P:Program)(kt:TypeId)(ks:List AV):Prop:=∃D:Value->Prop,KLaw P kt D /\ ∀a∈ks,∃v,Sz a=some v/\D v
def JG(k:AV):List (AV×AV)->Nat->Option (Nat×AV)
 |[],_=>none
 |p::es,i=>if Hr p.1 k=true then some (i,p.2)else JG k es (i+1)
def Rx(es:List (AV×AV)):Prop:=es.Pairwise λp q=>Hr p.1 q.1=false
def Mn(es:List (AV×AV))(k v:AV):List (AV×AV) :=
 match JG k es 0 with
 |some (i,_)=>es.set i (k,v)
 |none=>es++[(k,v)]
def qV:List AV->Option (List (AV×AV))
 |[]=>some []
 |[_]=>none
 |a::b::r=>(qV r).map ((a,b) :: ·)
def zV:List AV->Option (List (AV×AV))
 |[.tup vs]=>qV vs
 |_=>none
def VG:∀es:List (AV×AV),qV (es.flatMap λp=>[p.1,p.2])=some es
 |[]=>rfl
 |p::es=>by simp[qV,VG es]
def TP(es:List (AV×AV)):zV (J6 es)=some es:=VG es
def Is(H:cj):AV->Option (List (AV×AV))
 |.nilm=>some []
 |.mapr o=>match H[o]? with
  |some (some cs)=>zV cs
  |_=>none
 |_=>none
def fj(ok:Bool)(z:AV):Option (Nat×AV)->AV
 |some (_,v)=>if ok=true then .tup [v.borrow,.bool true]else v.borrow
 |none=>if ok=true then .tup [z.borrow,.bool false]else z.borrow
def Wi{k:AV}: ∀{es:List (AV×AV)} {i:Nat},(∀p∈es,Hr p.1 k=false)->JG k es i=none
 |[],_,_=>rfl
 |p::es,i,h=>by
  unfold JG
  rw[iN (by rw[h p sm];simp)]
  exact Wi λq hq=>h q (by simp[hq])
def ji{k:AV}: ∀{es:List (AV×AV)} {i j:Nat} {p:AV×AV},es[j]? =some p->Hr p.1 k=true->(∀(l:Nat) (q:AV×AV),es[l]? =some q->l<j->Hr q.1 k=false)->JG k es i=some (i+j,p.2)
 |[],_,_,_,h,_,_=>by simp at h
 |q::es,i,0,p,h,hk,_=>by
  simp only[A7,Option.some.injEq]at h
  subst h
  unfold JG
  rw[iP hk];rfl
 |q::es,i,j+1,p,h,hk,hb=>by
  unfold JG
  rw[iN (by rw[hb 0 q rfl FR];simp),ji (by simpa using h) hk λl q' hl hlt=>hb (l+1) q' (by simpa using hl) FR]
  rw[Ay,Bk 1 j]
end Go.AI
namespace Go.AI
def Ho(ag:Bool)(sz:Nat):Nat->List AV->List AV
 | 0,_=>[]
 |k+1,cs=>(if ag=true then .agg (cs.take sz)else cs.headD .undef)::Ho ag sz k (cs.drop sz)
def Lf(ag:Bool)(sz:Nat): ∀(k:Nat) (cs:List AV),(Ho ag sz k cs).length=k
 | 0,_=>rfl
 |k+1,cs=>by simp[Ho,Lf ag sz k]
def Lg{c:AV}(h:c.scalar=true):c.cells=[c]:=by cases c<;>first|rfl|cases h
def PC(ag:Bool)(sz:Nat)(hs:ag=true\/sz=1): ∀ (k:Nat) (cs:List AV),k*sz<=cs.length->(∀ c∈cs,c.scalar=true) ->
  HP (Ho ag sz k cs)=cs.take (k*sz) /\ ∀e∈Ho ag sz k cs,e.cells.length=sz
 | 0,cs,_,_=>by simp[Ho,HP]
 | k+1,cs,hk,hc=>by
  have hk':sz+k*sz<=cs.length:=by rw[Az]at hk;omega
  obtain⟨h1,h2⟩:=PC ag sz hs k (cs.drop sz) Hy λc hm=>hc c (DV hm)
  have hd:(if ag=true then AV.agg (cs.take sz)else cs.headD .undef).cells=cs.take sz/\(cs.take sz).length=sz:=by
   refine⟨?_,Hy⟩
   by_cases ha:ag=true
   ·rw[iP ha];rfl
   ·rw[iN ha]
    have h1:sz=1:=hs.resolve_left ha
    subst h1
    match cs,hk' with
    |c::cs,_=>simpa using Lg (hc c sm)
    |[],h=>simp at h
  refine⟨?_,λe he=>?_⟩
  ·simp only[HP,Ho,A5]at h1 ⊢
   rw[h1,hd.1,Az,Nat.one_mul,Bk (k*sz) sz,List.take_add]
  ·simp only[Ho,List.mem_cons]at he
   rcases he with rfl|he
   ·rw[hd.1];exact hd.2
   ·exact h2 e he
def HS(P:Program)(f:FuncId):Bool :=
 match P.funcs[f]? with
 |some fn => !(fn.name == "runtime.NumGoroutine")&&fn.body.isSome
 |none=>false
def Fa(P:Program)(f:FuncId)(vs:List AV)(H:cj)(R:AV->cj->Prop):Prop :=
 HS P f=true /\ ∀(F:Nat->Prop) (G:Gh) (w:World) (us:List Value),CRel F G vs H us w ->
  Calls P f us.toArray w λe w' => ∃u,e = .returned u /\ ∃v H' G',R v H'/\CRel F G' [v] H' [u] w'/\Ext F G w G' w'
def NR(P:Program)(o:Nat)(L:LoopRec)(ys:List AV)(H:cj)(R:AV->cj->Prop):Prop :=
 ∀ (F:Nat->Prop) (G:Gh) (w:World) (us:List Value) (b:Nat),CRel F G ys H us w->G.obs[o]? =some b->G.kind b = .loop L ->
  ∃r:Loop,w.heap[b]? =some (.loop r)/\us.length=r.params.size /\
   RoundIn Fence.wide 0 P b r.fn ((r.params.zip us.toArray).foldl (λtmps (t,a)=>tmps.setIfInBounds t a) r.tmps) r.assign r.body w λe w' => ∃u,e = .returned u/\Fi F G w R u w'
def Fi.mono{F:Nat->Prop}{G:Gh}{w:World}{R R':AV->cj->Prop}{u:Value}{w':World}(h:Fi F G w R u w')(hr:∀v H',R v H'->R' v H'):Fi F G w R' u w' :=
 let⟨v,H',G',h1,h2,h3⟩:=h;⟨v,H',G',hr _ _ h1,h2,h3⟩
def NR.mono{P:Program}{o:Nat}{L:LoopRec}{ys:List AV}{H:cj}{R R':AV->cj->Prop}(h:NR P o L ys H R)(hr:∀v H',R v H'->R' v H'):NR P o L ys H R' :=
 λF G w us b hc h1 h2=>let⟨r,g1,g2,g3⟩:=h F G w us b hc h1 h2;⟨r,g1,g2,RoundIn.mono g3 λe w' he=>let⟨u,a,b⟩:=he;⟨u,a,b.mono hr⟩⟩
def KL(P:Program)(f:FuncId)(vs:List AV)(Q:AV->Prop):Prop:=∀H,Fa P f vs H λv H'=>Q v/\H'=H
def FT(P:Program)(f:FuncId)(vs:List AV)(v:AV):Prop:=KL P f vs λv'=>v'=v
def Gv(H:cj):cj:=H.map (Option.map (List.map borrow1))
def PP(P:Program)(f:FuncId)(vs:List AV)(H:cj)(v:AV):Prop:=∀H2,Gv H2=Gv H->Fa P f vs H2 λv' H'=>v'=v/\H'=H2
def Fa.mono{P:Program}{f:FuncId}{vs:List AV}{H:cj}{R R':AV->cj->Prop}(h:Fa P f vs H R)(hr:∀v H',R v H'->R' v H'):Fa P f vs H R' :=
 ⟨h.1,λF G w us hc=>Calls.mono (h.2 F G w us hc) λe w' he=>by
  obtain⟨u,rfl,v,H',G',h1,h2,h3⟩:=he
  exact⟨u,rfl,v,H',G',hr _ _ h1,h2,h3⟩⟩
def Pe(P:Program):Nat->TypeId->List TypeId
 | 0,t=>[t]
 |d+1,t=>match P.underlying t with
  |some (.struct fs)=>fs.toList.flatMap λf=>Pe P d f.type
  |some (.array n e)=>(A0 n (Pe P d e)).flatten
  |_=>[t]
def constT(P:Program)(ty:Option TypeId)(v:Value):AV :=
 match v with
 |.slice none 0 0 => .sl (Sp P ty) []
 |v=>const1 v
def Fk(P:Program)(t:TypeId):Option AV :=
 match (P.info? t).bind (·.zero)with
 |some (.agg cs) =>
  if(cs.toList.zipIdx.map λ(c,i)=>constT P (Pe P 20 t)[i]? c).all AV.scalar then some (.agg (cs.toList.zipIdx.map λ(c,i)=>constT P (Pe P 20 t)[i]? c))else none
 |some z=>if(constT P (some t) z).scalar then some (constT P (some t) z)else none
 |none=>none
def AA1(P:Program)(t:TypeId):Bool:=match (P.info? t).bind (·.zero)with
 |some (.slice none 0 0)=>true
 |_=>false
def IJ(place:Nat->Option (Nat×Nat))(cells:List AV):List Nat->List AV->Option (List AV)
 |[],[]=>some cells
 |i::is,v::vs =>
  match place i with
  |some (off,size)=>if v.isVal=true/\v.cells.length=size/\off+size<=cells.length then IJ place (splice cells off v.cells) is vs else none
  |none=>none
 |_,_=>none
def GW(P:Program)(t:TypeId):Bool :=
 match P.info? t with
 |some i=>match i.zero with
  |some z=>z.cells.size==i.size
  |none=>false
 |none=>false
def NL(P:Program)(fs:Array Field):Bool:=fs.all λf=>(P.info? f.type).isSome
def Iw(P:Program)(fs:Array Field):Array (Nat×Nat):=fs.map λf=>(f.offset,P.cellsOf f.type)
def Oz:AV->Bool
 |.int .u8 _=>true
 |_=>false
def Pu(es:List AV):ByteArray:=⟨(es.map fun
 |.int _ n=>UInt8.ofNat n.toNat
 |_=>0).toArray⟩
def Pv(hasLo hasHi hasMax:Bool)(rest:List AV):Option (Option Int×Option Int×Option Int) :=
 match hasLo,hasHi,hasMax,rest with
 |false,false,false,[]=>some (none,none,none)
 |true,false,false,[.int _ l]=>some (some l,none,none)
 |false,true,false,[.int _ h]=>some (none,some h,none)
 |true,true,false,[.int _ l,.int _ h]=>some (some l,some h,none)
 |false,true,true,[.int _ h,.int _ m]=>some (none,some h,some m)
 |true,true,true,[.int _ l,.int _ h,.int _ m]=>some (some l,some h,some m)
 |_,_,_,_=>none
def N7(P:Program)(t:TypeId)(x:AV)(lo hi mx:Option Int)(R:AV->Prop):Prop :=
 match P.underlying t,x with
 |some .string,.str s =>
  mx=none/\0<=lo.getD 0/\lo.getD 0<=hi.getD s.size/\hi.getD s.size<=s.size/\R (.str (s.extract (lo.getD 0).toNat (hi.getD s.size).toNat))
 | some (.slice e),.sl own es =>
  0<=lo.getD 0/\lo.getD 0<=hi.getD es.length/\hi.getD es.length<=es.length/\(∀x∈es,x.cells.length=P.cellsOf e)/\(P.info? e).isSome=true /\
   match mx with
   |none=>R (.sl (if hi.getD es.length=es.length then own else none) ((es.take (hi.getD es.length).toNat).drop (lo.getD 0).toNat))
   |some m=>m=hi.getD es.length/\0<P.cellsOf e/\R (.sl (some (P.cellsOf e)) ((es.take (hi.getD es.length).toNat).drop (lo.getD 0).toNat))
 | some (.slice e),.msl ob off len sz =>
  (0<=lo.getD 0/\lo.getD 0<=hi.getD len/\hi.getD len<=len/\sz=P.cellsOf e/\(P.info? e).isSome=true/\mx=none/\(lo.getD 0=0\/lo.getD 0<len)) /\
   R (.msl ob (off+(lo.getD 0).toNat*sz) ((hi.getD len).toNat - (lo.getD 0).toNat) sz)
 | some (.slice e),.mslc ob off len sz c =>
  (0<=lo.getD 0/\lo.getD 0<=hi.getD len/\hi.getD len<=c/\sz=P.cellsOf e/\(P.info? e).isSome=true/\mx=none) /\
   R (if lo.getD 0=c/\0<lo.getD 0 then .sl none []else .mslc ob (off+(lo.getD 0).toNat*sz) ((hi.getD len).toNat - (lo.getD 0).toNat) sz (c - (lo.getD 0).toNat))
 | some (.pointer ta),.cptr cs off=>lo=none/\hi=none/\mx=none/\match P.underlying ta with
   |some (.array n e)=>P.cellsOf e=1/\off+n<=cs.length/\n<=9223372036854775807/\R (.sl none ((cs.drop off).take n))
   |_=>False
 |some (.array n e),.cptr cs off=>(lo=none/\hi=none/\mx=none)/\P.cellsOf e=1/\off+n<=cs.length/\n<=9223372036854775807/\R (.sl none ((cs.drop off).take n))
 |_,_=>False
def KF(P:Program)(t:TypeId)(x:AV)(lo hi mx:Option Int)(H:cj)(R:AV->Prop):Prop :=
 match P.underlying t,x with
 | some (.array n e),.ptr o off=>(lo=none/\hi=none/\mx=none)/\n<=9223372036854775807/\(P.info? e).isSome=true /\
   match H[o]? with
   |some (some cs)=>off+n*P.cellsOf e<=cs.length/\R (.msl o off n (P.cellsOf e))
   |_=>False
 |some (.slice e),.sl _ _=>(lo=none/\hi=some 0/\mx=some 0)/\(P.info? e).isSome=true/\R (.sl (some 0) [])
 |_,_=>False
def R6(P:Program)(t:TypeId):Bool:=match P.underlying t with|some (.struct _)|some (.array _ _)=>true|_=>false
def WJ:List (Option Bool)->Option Bool
 |[]=>some true
 |a::as=>match a,WJ as with
  |some x,some y=>some (x&&y)
  |_,_=>none
def yV(P:Program):Nat->TypeId->AV->AV->Option Bool
 | 0,_,_,_=>none
 |d+1,t,x,y=>match P.underlying t,x,y with
  |some .bool,.bool a,.bool b=>some (a==b)
  |some (.int _),.int k a,.int k' b=>if k=k' then some (a==b)else none
  |some .string,.str a,.str b=>some (a.toList==b.toList)
  | some (.struct fs),.agg xs,.agg ys=>if P.stoodInHeld t=true then none else WJ (fs.toList.map λf=>if f.name = "_" then none else
    match Ll P f.type xs f.offset,Ll P f.type ys f.offset with
    |some a,some b=>yV P d f.type a b
    |_,_=>none)
  | some (.array n e),.agg xs,.agg ys=>if (P.info? e).isSome=true then WJ ((Ak n).map λi =>
    match Ll P e xs (i*P.cellsOf e),Ll P e ys (i*P.cellsOf e)with
    |some a,some b=>yV P d e a b
    |_,_=>none)else none
  |_,_,_=>none
def KM(P:Program)(t:TypeId)(a b:AV):Option Bool :=
 match P.underlying t,a,b with
 |some .bool,.bool x,.bool y=>some (x==y)
 |some (.pointer _),.nilp,.nilp=>some true
 |some (.pointer _),.ptr _ _,.nilp=>some false
 |some (.pointer _),.nilp,.ptr _ _=>some false
 |some (.pointer _),.cptr _ _,.nilp=>some false
 |some (.pointer _),.nilp,.cptr _ _=>some false
 |some _,.agg xs,.agg ys=>if P.eqGuardType P.depth t=true then none else yV P 40 t (.agg xs) (.agg ys)
 |_,_,_=>none
def KI(P:Program)(op:BinOp)(t:TypeId)(a b:AV)(R:AV->Prop):Prop :=
 match op,KM P t a b with
 |.eql,some r=>R (.bool r)
 |.neq,some r=>R (.bool !r)
 |_,_=>KJ op a b R
def Kw:Operand->Bool
 |.const (.slice none 0 0)=>true
 |_=>false
def Np(P:Program)(op:BinOp)(t:TypeId)(a:AV)(R:AV->Prop):Prop :=
 match P.underlying t with
 |some (.slice _)=>match op,a with
  |.eql,.sl _ []=>R (.bool true)/\R (.bool false)
  |.neq,.sl _ []=>R (.bool true)/\R (.bool false)
  |.eql,.sl _ (_::_)=>R (.bool false)
  |.neq,.sl _ (_::_)=>R (.bool true)
  |.eql,.msl _ _ _ _=>R (.bool false)
  |.neq,.msl _ _ _ _=>R (.bool true)
  |_,_=>False
 |_=>False
def S'(P:Program)(e:TypeId)(rd:Bool)(H:cj):AV->Option (List AV)
 |.sl _ xs=>some xs
 |.msl ob off len sz=>match rd,H[ob]? with
  |true,some (some cs)=>if off+len*sz<=cs.length/\sz=P.cellsOf e/\(R6 P e=true\/sz=1)then some (Ho (R6 P e) sz len ((cs.drop off).map borrow1))else none
  |_,_=>none
 |_=>none
def N9(P:Program)(e:TypeId)(mt ln:Bool)(H:cj)(a:AV)(xs:List AV)(R:AV->cj->Prop):Prop :=
 (∀ x∈xs,x.cells.length=P.cellsOf e)/\match mt,a with
  |false,.sl own es=>own=some (P.cellsOf e)/\(es.length+xs.length)*P.bytesOf e<=140737488355328/\es.length+xs.length<=9223372036854775807/\R (.sl (bif ln then none else some (P.cellsOf e)) (es++xs)) H
  | true,.msl ob off len sz=>off=0/\sz=P.cellsOf e/\(len+xs.length)*P.bytesOf e<=140737488355328/\len+xs.length<=9223372036854775807/\match H[ob]? with
    |some (some cs)=>cs.length=len*sz/\cs.map borrow1=cs/\R (.msl H.length 0 (len+xs.length) (P.cellsOf e)) (H.set ob none++[some (cs++(HP xs).map borrow1)])
    |_=>False
  | true,.mslc ob off len sz _=>off=0/\sz=P.cellsOf e/\(len+xs.length)*P.bytesOf e<=140737488355328/\len+xs.length<=9223372036854775807/\match H[ob]? with
    |some (some cs)=>cs.length=len*sz/\cs.map borrow1=cs/\R (.msl H.length 0 (len+xs.length) (P.cellsOf e)) (H.set ob none++[some (cs++(HP xs).map borrow1)])
    |_=>False
  |true,.sl (some 0) []=>0<xs.length/\xs.length*P.bytesOf e<=140737488355328/\xs.length<=9223372036854775807/\R (.msl H.length 0 xs.length (P.cellsOf e)) (H++[some ((HP xs).map borrow1)])
  |_,_=>False
def SW(l:List AV):List Int:=l.filterMap λv=>match v with
 |.int .i64 i=>some i
 |_=>none
def RA(P:Program)(t:TypeId)(H:cj)(x:AV)(R:AV->cj->Prop):Prop :=
 match P.underlying t,x with
 |some .string,.str s=>R (.it H.length) (H++[some (Vz s 0)])
 |some (.map _ _),.nilm=>R (.it H.length) (H++[some [.nilm]])
 |some (.map _ _),.mapr o'=>match Is H (.mapr o')with
  |some es=>R (.it H.length) (H++[some (Ti o' es.length [])])
  |none=>False
 |_,_=>False
def Wf(str:Bool)(H:cj)(o':Nat)(R:AV->cj->Prop):Prop :=
 match str,H[o']? with
 |true,some (some [.str s,.int .i64 pos]) =>
  if pos.toNat<s.size then R (.tup [.bool true,.int .i64 pos.toNat,.int .i32 (Utf8.decode s pos.toNat).1]) (H.set o' (some (Vz s ((pos.toNat+(Utf8.decode s pos.toNat).2:Nat):Int))))
  else R (.tup [.bool false]) H
 |false,some (some [.nilm])=>R (.tup [.bool false]) H
 |false,some (some [.mapr m,.int .i64 since,.tup seen])=>match Is H (.mapr m)with
  | some es=>since=es.length/\((∀ i,i<es.length->(i:Int)∈SW seen)->R (.tup [.bool false]) H) /\
    ∀(i:Nat) (p:AV×AV),es[i]? =some p->(i:Int)∉SW seen->R (.tup [.bool true,p.1.borrow,p.2.borrow]) (H.set o' (some [.mapr m,.int .i64 since,.tup (seen++[.int .i64 i])]))
  |none=>False
 |_,_=>False
def TC(H:cj)(o':Nat)(R:AV->cj->Prop):Prop :=
 match H[o']? with
 |some (some [.mapr m,.int .i64 since,.tup seen])=>match Is H (.mapr m),seen.getLast? with
  |some es,some (.int .i64 i)=>since=es.length /\ ∃p,es[i.toNat]? =some p/\R (.tup [p.1.borrow,p.2.borrow]) H
  |_,_=>False
 |_=>False
def ip(P:Program)(e:TypeId)(H:cj)(k:Nat):AV->Option (List AV)
 |.sl _ xs=>if(∀x∈xs,x.cells.length=P.cellsOf e)/\k<=xs.length then some ((HP xs).take (k*P.cellsOf e))else none
 |.msl ob off len sz=>match H[ob]? with
  |some (some cs)=>if off+k*sz<=cs.length/\sz=P.cellsOf e/\k<=len then some ((cs.drop off).take (k*sz))else none
  |_=>none
 |.mslc ob off len sz _=>match H[ob]? with
  |some (some cs)=>if off+k*sz<=cs.length/\sz=P.cellsOf e/\k<=len then some ((cs.drop off).take (k*sz))else none
  |_=>none
 |_=>none
def zl:AV->Option Nat
 |.sl _ xs=>some xs.length
 |.msl _ _ len _=>some len
 |.mslc _ _ len _ _=>some len
 |_=>none
def nq:AV->Option (Nat×Nat×Nat×Nat×Bool)
 |.msl ob off len sz=>some (ob,off,len,sz,false)
 |.mslc ob off len sz _=>some (ob,off,len,sz,true)
 |_=>none
def To(P:Program)(t:TypeId)(a b:AV)(H:cj)(R:AV->cj->Prop):Prop :=
 match P.underlying t,nq a,zl b with
 | some (.slice e),some (ob,off,len,sz,gr),some n=>match H[ob]? with
  |some (some cs)=>(sz=P.cellsOf e/\(P.info? e).isSome=true/\cs.map borrow1=cs/\off<=cs.length/\(gr=true\/off+Nat.min n len*sz<=cs.length))/\match ip P e H (Nat.min n len) b with
   |some X=>R (.int .i64 (Nat.min n len:Nat)) (H.set ob (some (cs.take off++X.map borrow1++cs.drop (off+Nat.min n len*sz))))
   |none=>False
  |_=>False
 |_,_,_=>False
def XFn(P:Program)(f:FuncId):Prop := ∃(fn:Func) (tS tR e:TypeId),P.funcs[f]? =some fn/\(fn.name == "runtime.NumGoroutine")=false/\fn.body.isNone=true/\Extern.findNext fn=none /\
 Extern.find fn=some (Extern.SlicesOverlaps.overlaps #[tS,tS] #[tR])/\P.underlying tS=some (.slice e)/\(P.info? e).isSome=true
def QP(P:Program)(f:FuncId)(vs:List AV)(H:cj)(v:AV):Prop :=
 match vs with
 |[.msl ob _ _ _,.mslc ob2 _ len2 sz2 _]=>ob≠ob2/\XFn P f/\(∃cs,H[ob]? =some (some cs))/\(∃cs,H[ob2]? =some (some cs))/\0<len2*sz2/\v = .bool false
 |_=>False
def Gb(z:AV)(n:Nat):List AV:=(Ak (n*z.cells.length)).map λi=>(z.cells[i % z.cells.length]?).getD .undef
def apz(P:Program)(t t':TypeId)(mt:Bool)(a b:AV)(H:cj)(R:AV->cj->Prop):Prop :=
 match mt,P.underlying t,P.underlying t',a,b with
 |true,some (.slice e),some (.int _),.mslc ob off len sz c,.int _ m=>match H[ob]? with
  | some (some cs) => ∃ z,Fk P e=some z/\(z.cells.length=P.cellsOf e/\GW P e=true/\0<P.cellsOf e/\sz=P.cellsOf e/\off+len*sz<=cs.length/\0<m/\(c:Int)<len+m /\
    (len+m.toNat)*P.bytesOf e<=140737488355328/\len+m.toNat<=9223372036854775807)/\R (.msl H.length 0 (len+m.toNat) (P.cellsOf e)) (H++[some (((cs.drop off).take (len*sz)).map borrow1++(Gb z m.toNat).map borrow1)])
  |_=>False
 |_,_,_,_,_=>False
def Fh(P:Program)(h:Hint)(o:Oper)(vals:List AV)(H:cj)(R:AV->cj->Prop):Prop :=
 match o.op,vals with
 |.move _,[a]=>R a H
 |.assign _,[a]=>R a H
 |.pick _ _ _,[.bool c,a,b]=>R (if c=true then a else b) H
 |.box _ _,[a]=>a.isVal=true/\R (.ptr H.length 0) (H++[some a.cells])
 |.alloc e,[]=>match o.dst.any h.mt.contains with
  |true=>AA1 P e=true/\R (.ptr H.length 0) (H++[some [.sl (some 0) []]])
  |false => ∃z,Fk P e=some z/\R (.ptr H.length 0) (H++[some z.cells])
 |.build t ps,vs =>
  match P.underlying t with
  |some (.struct fs) => ∃z cs,NL P fs=true/\Fk P t=some (.agg z)/\IJ ((Iw P fs)[·]?) z (ps.toList.map (·.1)) vs=some cs/\R (.agg cs) H
  |some (.array _ e) => ∃z cs,(P.info? e).isSome=true/\Fk P t=some (.agg z)/\IJ (λi=>some (i*P.cellsOf e,P.cellsOf e)) z (ps.toList.map (·.1)) vs=some cs/\R (.agg cs) H
  |_=>False
 |.buildSlice t len ps,vs =>
  match P.underlying t with
  | some (.slice e)=>0<P.cellsOf e/\len*P.cellsOf e<=16777216/\ps.toList.map (·.1)=Ak len/\(∀ v∈vs,v.isVal=true/\v.cells.length=P.cellsOf e)/\GW P e=true /\
    match o.dst.any h.mt.contains with
    |true=>R (.msl H.length 0 len (P.cellsOf e)) (H++[some (HP (vs.map AV.borrow))])
    |false=>R (.sl (some (P.cellsOf e)) (vs.map AV.borrow)) H
  |_=>False
 |.makeSlice t _ _,[.int _ n,.int _ c] =>
  match P.underlying t with
  | some (.slice e)=>n=c/\0<=n/\n*P.bytesOf e<=140737488355328/\n<=9223372036854775807/\(P.info? e).isSome=true /\ ∃ z,Fk P e=some z/\z.cells.length=P.cellsOf e/\0<P.cellsOf e /\
    R (.msl H.length 0 n.toNat (P.cellsOf e)) (H++[some (A0 n.toNat z.cells).flatten])
  |_=>False
 | .load t _,[.ptr ob off] =>
  match H[ob]? with
  | some (some cs)=>match Ll P t cs off with
   |some v=>match o.dst.any h.tk.contains with
    |true=>v.owned=true/\v.scalar=true/\R v (H.set ob (some (splice cs off (v.cells.map borrow1))))
    |false=>R v.borrow H
   |none=>False
  |_=>False
 |.load t _,[.cptr cs off] =>
  match Ll P t cs off with
  |some v=>R v.borrow H
  |none=>False
 |.store t _ _,[.ptr ob off,v] =>
  match H[ob]? with
  |some (some cs)=>v.isVal=true/\v.cells.length=P.cellsOf t/\0<P.cellsOf t/\off+P.cellsOf t<=cs.length/\R .undef (H.set ob (some (splice cs off v.cells)))
  |_=>False
 |.nilCheck _,[.ptr ob off]=>R (.ptr ob off) H
 |.nilCheck _,[.cptr cs off]=>R (.cptr cs off) H
 |.nilCheck _,[.fn (.func f) a b]=>R (.fn (.func f) a b) H
 |.nilCheck _,[.yld o' L]=>R (.yld o' L) H
 |.binOp op t _ y _,[a,b]=>match Kw y with
  |true=>Np P op t a λv=>R v H
  |false=>KI P op t a b λv=>R v H
 |.unOp op _ _,[a] =>
  match op,a with
  |.neg,.int k n=>R (.int k (k.wrap (0 - n))) H
  |.not,.bool b=>R (.bool !b) H
  |_,_=>False
 |.convert src dst _,[a] =>
  match P.underlying src,P.underlying dst,a with
  |some _,some (.int k),.int _ n=>R (.int k (k.wrap n)) H
  |some .string,some .string,.str s=>R (.str s) H
  |some (.slice e),some .string,.sl _ es=>P.underlying e=some (.int .u8)/\(∀x∈es,Oz x=true)/\R (.str (Pu es)) H
  |_,_,_=>False
 |.makeFunc fn first _,vs=>R (.fn fn (vs.take first.size) (vs.drop first.size)) H
 | .slice t _ lo hi mx,x::rest =>
  match Pv lo.isSome hi.isSome mx.isSome rest with
  |some (l,hh,m)=>match o.dst.any h.mt.contains with
   |true=>KF P t x l hh m H λv=>R v H
   |false=>N7 P t x l hh m λv=>R v H
  |none=>False
 | .fieldAddr s _ f,[x] =>
  match P.underlying s with
  | some (.struct fs)=>match fs[f]? with
   |some fd=>0<P.cellsOf fd.type/\match x with
    |.ptr ob off=>R (.ptr ob (off+fd.offset)) H
    |.cptr cs off=>R (.cptr cs (off+fd.offset)) H
    |_=>False
   |none=>False
  |_=>False
 | .field t _ f,[.agg cs] =>
  match P.underlying t with
  | some (.struct fs)=>match fs[f]? with
   |some fd=>match Ll P fd.type cs fd.offset with
    |some v=>R v H
    |none=>False
   |none=>False
  |_=>False
 |.extract _ i,[.tup vs] => ∃v,vs[i]? =some v/\R v H
 |.indexAddr t _ _,[x,.int _ i] =>
  match P.underlying t,x with
  |some (.slice e),.sl _ es=>0<=i /\ ∃v,es[i.toNat]? =some v/\v.cells.length=P.cellsOf e/\0<P.cellsOf e/\R (.cptr v.cells 0) H
  |some (.slice e),.msl ob off len sz=>0<=i/\i<len/\sz=P.cellsOf e/\0<sz/\R (.ptr ob (off+i.toNat*sz)) H
  |some (.array n e),.ptr ob off=>0<=i/\i<n/\0<P.cellsOf e/\R (.ptr ob (off+i.toNat*P.cellsOf e)) H
  |some (.array n e),.cptr cs off=>0<=i/\i<n/\0<P.cellsOf e/\R (.cptr cs (off+i.toNat*P.cellsOf e)) H
  |_,_=>False
 |.index t _ _,[x,.int _ i] =>
  match P.underlying t,x with
  |some .string,.str s=>0<=i/\i<s.size/\R (.int .u8 ((s.data[i.toNat]?).getD 0).toNat) H
  |some (.array n e),.agg cs=>0<=i/\i<n/\0<P.cellsOf e /\ ∃v,Ll P e cs (i.toNat*P.cellsOf e)=some v/\R v H
  |_,_=>False
 |.makeMap _ none,[]=>R (.mapr H.length) (H++[some (J6 [])])
 |.makeMap t (some _),[.int _ _]=>(match P.underlying t with|some (.map _ _)=>true|_=>false)=true/\R (.mapr H.length) (H++[some (J6 [])])
 | .lookup t _ _ ok,[m,k] =>
  match P.underlying t with
  |some (.map kt et)=>match Is H m with
   |some es=>Mq P kt (k::es.map (·.1))/\Rx es /\ ∃z,Fk P et=some z/\R (fj ok z (JG k es 0)) H
   |none=>False
  |_=>False
 | .mapUpdate t _ _ _,[.mapr o',k,v] =>
  match P.underlying t with
  |some (.map kt _)=>match Is H (.mapr o')with
   |some es=>Mq P kt (k::es.map (·.1))/\Rx es/\v.isVal=true/\R .undef (H.set o' (some (J6 (Mn es k v))))
   |none=>False
  |_=>False
 |.range t _,[x]=>RA P t H x R
 |.next _ str,[.it o']=>Wf str H o' R
 |.entry _,[.it o']=>TC H o' R
 | .call c,vs =>
  match c.callee with
  | .builtin .len=>match vs with
   |[x]=>match c.argTypes[0]?.bind P.underlying,x with
    |some (.slice _),.sl _ es=>R (.int .i64 es.length) H
    |some (.slice _),.msl _ _ len _=>R (.int .i64 len) H
    |some (.slice _),.mslc _ _ len _ _=>R (.int .i64 len) H
    |some .string,.str s=>R (.int .i64 s.size) H
    |some (.array n _),_=>R (.int .i64 n) H
    |_,_=>False
   |_=>False
  | .builtin .cap=>match vs with
   |[.mslc _ _ _ _ cp]=>match c.argTypes[0]?.bind P.underlying with
    |some (.slice _)=>R (.int .i64 cp) H
    |_=>False
   |_=>False
  |.builtin .copy=>match vs,c.argTypes.toList with
   |[a,b],[t,_]=>To P t a b H R
   |_,_=>False
  | .builtin .clear=>match vs,c.argTypes.toList with
   | [.msl ob off len sz],[t]=>match P.underlying t with
    |some (.slice e)=>match H[ob]? with
     |some (some cs) => ∃z,Fk P e=some z/\sz=z.cells.length/\0<len/\off+len*sz<=cs.length/\R (.tup []) (H.set ob (some (splice cs off (Gb z len))))
     |_=>False
    |_=>False
   |_,_=>False
  | .builtin .append=>match vs,c.argTypes.toList with
   | [a,b],[t,t']=>if t=t' then match P.underlying t with
    |some (.slice e)=>0<P.cellsOf e/\GW P e=true/\match S' P e (o.dst.any h.mt.contains||o.dst.any h.tk.contains) H b with
     |some xs=>N9 P e (o.dst.any h.mt.contains) (o.dst.any h.pc.contains) H a xs R
     |none=>False
    |_=>False
    else apz P t t' (o.dst.any h.mt.contains) a b H R
   |_,_=>False
  |.builtin .min=>match vs with
   |[.int k a,.int k' b]=>k=k'/\R (.int k (if b<a then b else a)) H
   |_=>False
  |.builtin .max=>match vs with
   |[.int k a,.int k' b]=>k=k'/\R (.int k (if b>a then b else a)) H
   |_=>False
  | .value _=>match vs with
   | .fn (.func f) first captured::args=>match o.dst.any h.pc.contains with
    |true=>match o.dst.any h.mt.contains with
     |true => ∃v,(PP P f (first.map AV.borrow++args++captured.map AV.borrow) H v\/QP P f (first.map AV.borrow++args++captured.map AV.borrow) H v)/\R v H
     |false => ∃v,FT P f (first.map AV.borrow++args++captured.map AV.borrow) v/\R v H
    |false=>match o.dst.any h.mt.contains with
     |true => ∃v ext,Fa P f (first.map AV.borrow++args++captured.map AV.borrow) H (λv2 H2=>v2=v/\H2=H++ext)/\R v (H++ext)
     |false=>Fa P f (first.map AV.borrow++args++captured.map AV.borrow) H R
   |.yld o' L::args=>(o.dst.any h.pc.contains=false/\o.dst.any h.mt.contains=false)/\NR P o' L args H R
   |_=>False
  |_=>False
 |_,_=>False
def F0(h:Hint)(o:Oper):Bool :=
 match o.op with
 |.move _=>o.dst.any h.tk.contains
 |.assign _ | .box _ _ | .build _ _ | .store _ _ _ | .slice _ _ _ _ _=>true
 |.call c=>match c.callee with
  |.builtin .append=>true
  |.value _=>true
  |_=>false
 |_=>false
def HQ(o:Oper):Option TypeId :=
 match o.op with
 |.move _ | .assign _=>some o.type
 |.store t _ _=>some t
 |_=>none
section
variable{P:Program}{F:Nat->Prop}{G:Gh}{w:World}{H:cj}{R:AV->cj->Prop}{ρ:Operand->Value}
def Fy.value{K:Value->World->Prop}{r:Result Next}{u:Value}{w':World}(hr:r = .ok (.value u) w')(h:K u w'):Fy P r K:=by subst hr;exact h
def Fi.same{v:AV}{u:Value}(h:CRel F G [v] H [u] w)(hR:R v H):Fi F G w R u w:=⟨v,H,G,hR,h,.refl F G w⟩
def AE5{c a b:Operand}{cv:Bool}{x y:AV}(h:CRel F G [.bool cv,x,y] H [ρ c,ρ a,ρ b] w)(hr:R (if cv=true then x else y) H):
  Fy P ((do pure (Next.value (if<-asBool (ρ c)then ρ a else ρ b)):Sem Next).run P w) (Fi F G w R):=by
 have hcv:=h.l.rel 0 _ _ rfl rfl
 generalize ρ c=cu at *
 cases hcv
 cases cv
 ·exact .value (by simp[asBool]) (Fi.same (h.get (i:=2) rfl rfl) hr)
 ·exact .value (by simp[asBool]) (Fi.same (h.get (i:=1) rfl rfl) hr)
def T1{x:Value}{ob off:Nat}(h:CRel F G [.ptr ob off] H [x] w)(hr:R (.ptr ob off) H): ∃a,x = .pointer (some a)/\Fi F G w R x w:=by
 have hx:=h.l.rel 0 _ _ rfl rfl
 cases hx
 exact⟨_,rfl,.same h hr⟩
def Sl{x:Value}{cs:List AV}{off:Nat}(h:CRel F G [.cptr cs off] H [x] w)(hr:R (.cptr cs off) H): ∃a,x = .pointer (some a)/\Fi F G w R x w:=by
 have hx:=h.l.rel 0 _ _ rfl rfl
 cases hx
 exact⟨_,rfl,.same h hr⟩
def Od(d:Nat){t e:TypeId}(a:Option Addr)(h:P.underlying t=some (.pointer e)):(Op.equalIn (d+1) t (.pointer none) (.pointer a)).run P w = .ok a.isNone w:=by
 simp[Op.equalIn,run_underlying h]
def OL(d:Nat){t e:TypeId}(a:Addr)(h:P.underlying t=some (.pointer e)):(Op.equalIn (d+1) t (.pointer (some a)) (.pointer none)).run P w = .ok false w:=by
 simp[Op.equalIn,run_underlying h]
def LJ{t e:TypeId}(a:Option Addr)(h:P.underlying t=some (.pointer e)):(Op.equal t (.pointer none) (.pointer a)).run P w = .ok a.isNone w:=Od 9999 a h
def M5{t e:TypeId}(a:Addr)(h:P.underlying t=some (.pointer e)):(Op.equal t (.pointer (some a)) (.pointer none)).run P w = .ok false w:=OL 9999 a h
def fD{k:IntKind}{n:Int}{x:Value}(h:CRel F G [.int k n] H [x] w)(hr:R (.int k (k.wrap (0 - n))) H):
  Fy P ((do let v<-Op.unary .neg x;pure (Next.value v):Sem Next).run P w) (Fi F G w R):=by
 have hx:=h.l.rel 0 _ _ rfl rfl
 cases hx
 exact .value (by simp[Op.unary,Op.intArith]) (Fi.plain h hr (.int _ _) (FX rfl rfl _))
def fC{b:Bool}{x:Value}(h:CRel F G [.bool b] H [x] w)(hr:R (.bool !b) H):
  Fy P ((do let v<-Op.unary .not x;pure (Next.value v):Sem Next).run P w) (Fi F G w R):=by
 have hx:=h.l.rel 0 _ _ rfl rfl
 cases hx
 exact .value (by simp[Op.unary]) (Fi.plain h hr (.bool _) (FX rfl rfl _))
def VP{src dst:TypeId}{d:TypeDesc}{k k':IntKind}{n:Int}{x:Value}(h:CRel F G [.int k' n] H [x] w)(hs:P.underlying src=some d)(hd:P.underlying dst=some (.int k))(hr:R (.int k (k.wrap n)) H):
  Fy P ((do let v<-convert src dst x;pure (Next.value v):Sem Next).run P w) (Fi F G w R):=by
 have hx:=h.l.rel 0 _ _ rfl rfl
 cases hx
 exact .value (by simp[convert,run_underlying hs,run_underlying hd,Conv.intToInt]) (Fi.plain h hr (.int _ _) (FX rfl rfl _))
def VO{src dst:TypeId}{d:TypeDesc}{s:ByteArray}{x:Value}(h:CRel F G [.str s] H [x] w)(hs:P.underlying src=some d)(hd:P.underlying dst=some .string)(hr:R (.str s) H):
  Fy P ((do let v<-convert src dst x;pure (Next.value v):Sem Next).run P w) (Fi F G w R):=by
 have hx:=h.l.rel 0 _ _ rfl rfl
 cases hx
 exact .value (by simp[convert,run_underlying hs,run_underlying hd]) (Fi.plain h hr (.str _) (FX rfl rfl _))
def fH{fn:Fn}{first captured:List Operand}{vs:List AV}(h:CRel F G vs H ((first++captured).map ρ) w)(hr:R (.fn fn (vs.take first.length) (vs.drop first.length)) H):
  Fy P ((do let v<-Instr.makeFunc fn (first.map ρ).toArray (captured.map ρ).toArray;pure (Next.value v):Sem Next).run P w) (Fi F G w R):=by
 have hl:=h.l.len
 simp only[Ap,AF]at hl
 refine .value (u:=.func fn (first.map ρ).toArray (captured.map ρ).toArray) (w':=w) (by simp[Instr.makeFunc]) (Fi.plain h hr (.fn fn _ _ _ _ Hy Hy  (λi c v hc hv=>?_) (λi c v hc hv=>?_)) (RP _ _ _ _))
 ·rw[Aj]at hc
  split at hc
  ·rename_i hi
   refine h.l.rel i c v hc ?_
   rw[Aq,AX (by simpa using hi)]
   simpa using hv
  ·cases hc
 ·rw[A2]at hc
  refine h.l.rel _ c v hc ?_
  rw[Aq,AN sm]
  simpa using hv
def Jm{v:AV}{u:Value}(hv:v.isVal=true)(h:VRel G w v u):v.flat=v.cells/\ID u=u.cells.toList/\v.cells.length=u.cells.size:=by
 cases h<;>first|exact⟨rfl,rfl,rfl⟩|exact⟨rfl,rfl,‹_›⟩|cases hv
def Pa{v:AV}{u:Value}(hv:v.isVal=true)(h:VRel G w v u):LG v u=v.cells.zip u.cells.toList:=by
 obtain⟨h1,h2,_⟩:=Jm hv h
 rw[LG,h1,h2]
def mW{vs:List AV}{i:Nat}{x:Value}{v:AV}(h:CRel F G [.tup vs] H [x] w)(hi:vs[i]? =some v)(hr:R v H):
  Fy P ((do let r<-Instr.extract x i;pure (Next.value r):Sem Next).run P w) (Fi F G w R):=by
 have hx:=h.l.rel 0 _ _ rfl rfl
 have ht:=h.l.tok 0 _ _ rfl rfl
 cases hx with
 | tup vs us hl hs hr' =>
  have hlt:=(AC.1 hi).1
  have hu:us[i]? =some (us[i]' FR):=Ai _
  have hv:=hr' i v _ hi hu
  have hval:v.isVal=true:=hs v (AB hi)
  have hcells:∀(j:Nat) (c:AV) (d:Value),vs[j]? =some c->us[j]? =some d->c.cells.length=d.cells.size:=by
   intro j c d h1 h2
   exact(Jm (hs c (AB h1)) (hr' j c d h1 h2)).2.2
  have hsub:∃pre post,LG (.tup vs) (.tuple us)=pre++(LG v us[i]++post):=by
   have e1:vs=vs.take i++v::vs.drop (i+1):=by
    have:vs[i]=v:=by rw[AH hlt]at hi;exact Option.some.inj hi
    rw[<- this,<- BG hlt,A_]
   have hlt2:i<us.toList.length:=Hy
   have e2:us.toList=us.toList.take i++us.toList[i]::us.toList.drop (i+1):=by
    rw[<- BG hlt2,A_]
   have hlen:∀n,((vs.take n).flatMap AV.cells).length=((us.toList.take n).flatMap λv=>v.cells.toList).length:=by
    intro n
    induction n with
    |zero=>rfl
    | succ n ih =>
     by_cases hn:n<vs.length
     ·have hn2:n<us.toList.length:=Hy
      rw[D1 hn,D1 hn2]
      simp only[DX,AF,ih,A5,List.flatMap_nil,List.append_nil]
      have:=hcells n vs[n] us[n] (AH hn) (Ai FR)
      simp only[D3,Bt]
      omega
     ·rw[Bu FR,Bu Hy]
      rw[Bu FR,Bu Hy]at ih
      exact ih
   refine⟨((vs.take i).flatMap AV.cells).zip ((us.toList.take i).flatMap λv=>v.cells.toList),((vs.drop (i+1)).flatMap AV.cells).zip ((us.toList.drop (i+1)).flatMap λv=>v.cells.toList), ?_⟩
   have hci:v.cells.length=us.toList[i].cells.toList.length:=by
    have:=hcells i v us[i] hi hu
    simpa using this
   rw[Pa hval hv]
   show(vs.flatMap AV.cells).zip (us.toList.flatMap λv=>v.cells.toList)=_
   conv=>lhs;rw[e1,e2]
   simp only[DX,A5]
   rw[C3 (hlen i),C3 hci]
   simp only[D3]
  obtain⟨pre,post,hsub⟩:=hsub
  refine .value (u:=us[i]) (w':=w) (by simp[Instr.extract,hu]) (Fi.same (h.one hv (λp hp=>ht p (by rw[hsub];simp[hp])) λb=>?_) hr)
  rw[Fc]
  unfold Gs
  rw[hsub]
  simp only[List.filterMap_append,Cc]
  omega
end
end Go.AI
namespace Go.AI
section
variable{P:Program}{F:Nat->Prop}{G:Gh}{w:World}{H:cj}{R:AV->cj->Prop}
def Ge{t:TypeId}(h:0<P.cellsOf t)(w:World):(sizeOf t).run P w = .ok (P.cellsOf t) w:=by
 unfold BJ at h ⊢
 cases hi:P.info? t with
 |none=>rw[hi]at h;simp at h
 |some i=>simp[sizeOf,typeInfo,hi]
def Me(b q k:Nat):(⟨b,q,none⟩:Addr).add k=⟨b,q+k,none⟩:=G7 b q k
def U8{fd:Field}(h:0<P.cellsOf fd.type)(b q:Nat)(w:World):(fieldPlace ⟨b,q,none⟩ fd).run P w = .ok ⟨b,q+fd.offset,none⟩ w:=by
 simp only[fieldPlace,AK,Ge h,AZ,Bi]
 rw[iN FR]
 simp[Me]
def aB {s f:Nat} {fs:Array Field} {fd:Field} {x:AV} {u:Value} (h:CRel F G [x] H [u] w) (hu:P.underlying s=some (.struct fs)) (hf:fs[f]? =some fd) (hz:0<P.cellsOf fd.type)
  (hr:match (generalizing:=false) x with
    |.ptr ob off=>R (.ptr ob (off+fd.offset)) H
    |.cptr cs off=>R (.cptr cs (off+fd.offset)) H
    |_=>False) :
  Fy P ((do let r<-Instr.fieldAt s u f;pure (Next.value r):Sem Next).run P w) (Fi F G w R):=by
 have hx:=h.l.rel 0 _ _ rfl rfl
 have run:∀b q,(Instr.fieldAt s (.pointer (some ⟨b,q,none⟩)) f).run P w = .ok (.pointer (some ⟨b,q+fd.offset,none⟩)) w:=λb q=>by
  simp[Instr.fieldAt,run_underlying hu,hf,Instr.sureAddr,U8 hz]
 cases hx with
 |ptr o off b hb hbc=>exact .value (by rw[AK,run];rfl) (Fi.plain h hr (.ptr _ _ b hb hbc) (FX rfl rfl _))
 |cptr cs off b q u' h1 h2=>exact .value (by rw[AK,run];rfl) (Fi.plain h hr (by rw[Ay];exact .cptr cs _ b q u' h1 h2) (FX rfl rfl _))
 |_=>exact hr.elim
def eQ{t:TypeId}{cs:List AV}{vs:Array Value}{off:Nat}{v:AV}(hc:Cells F G w cs vs.toList)(hl:Ll P t cs off=some v):
  ∃u,(part t vs off).run P w = .ok u w/\VRel G w v u/\v.isVal=true/\v.cells=(cs.drop off).take v.cells.length/\u.cells.toList=(vs.toList.drop off).take v.cells.length/\off+v.cells.length<=cs.length:=by
 have hlen:=hc.len
 have agg:(isAgg t).run P w = .ok true w -> ∀d,P.underlying t=some d->off+P.cellsOf t<=cs.length->v = .agg ((cs.drop off).take (P.cellsOf t)) ->
   ∃u,(part t vs off).run P w = .ok u w/\VRel G w v u/\v.isVal=true/\v.cells=(cs.drop off).take v.cells.length/\u.cells.toList=(vs.toList.drop off).take v.cells.length/\off+v.cells.length<=cs.length:=by
  intro ha d hu hle hv
  subst hv
  have hk:((cs.drop off).take (P.cellsOf t)).length=P.cellsOf t:=Hy
  have e:(vs.extract off (off+P.cellsOf t))=((vs.toList.drop off).take (P.cellsOf t)).toArray:=by
   apply Bj
   simp[Array.toList_extract,List.extract_eq_take_drop]
  refine⟨.agg (vs.extract off (off+P.cellsOf t)), ?_, ?_,rfl, ?_, ?_, ?_⟩
  ·simp[part,ha,U7 hu]
  ·rw[e]
   exact(pH ((hc.drop off).take (P.cellsOf t))).1
  ·simp only[AV.cells,hk]
  ·simp only[AV.cells,Value.cells,hk,e]
  ·simp only[AV.cells,hk];exact hle
 unfold Ll at hl
 split at hl
 ·rename_i fs hu
  split at hl
  ·cases hl;exact agg (by simp[isAgg,run_underlying hu]) _ hu ‹_› rfl
  ·cases hl
 ·rename_i n e hu
  split at hl
  ·cases hl;exact agg (by simp[isAgg,run_underlying hu]) _ hu ‹_› rfl
  ·cases hl
 ·rename_i d hns hna hu
  have hagg:(isAgg t).run P w = .ok false w:=by
   simp only[isAgg,AK,run_underlying hu,AZ]
   cases d<;>first|rfl|exact absurd hu (hns _)|exact absurd hu (hna _ _)
  have hlt:=(AC.1 hl).1
  have hv:vs[off]? =some (vs[off]'(by simp at hlen;omega)):=Ai _
  obtain⟨s1,s2,_⟩:=hc.at_ off v _ hl (by rw[Ac];exact hv)
  have hcells:v.cells=[v]:=by cases v<;>first|rfl|cases s1
  have hdrop:(cs.drop off).take 1=[v]:=by
   rw[BG hlt]
   have:cs[off]=v:=by rw[AH hlt]at hl;exact Option.some.inj hl
   simp[this]
  have hdropv:(vs.toList.drop off).take 1=[vs[off]'(by simp at hlen;omega)]:=by
   have hlt2:off<vs.toList.length:=by simp at hlen ⊢;omega
   rw[BG hlt2]
   simp
  have hucells:(vs[off]'(by simp at hlen;omega)).cells.toList=[vs[off]'(by simp at hlen;omega)]:=by
   generalize vs[off]'(by simp at hlen;omega)=u at *
   cases s2<;>first|rfl|cases s1
  have hisv:v.isVal=true:=by cases v<;>first|rfl|cases s1
  refine⟨vs[off]'(by simp at hlen;omega), ?_,s2,hisv, ?_, ?_, ?_⟩
  ·simp[part,hagg,hv]
  ·rw[hcells,BL,hdrop]
  ·rw[hcells,BL,hdropv,hucells]
  ·rw[hcells];exact hlt
 ·cases hl
def eR{t:TypeId}{cs:List AV}{vs:Array Value}{off:Nat}{v:AV}(h:CRel F G [.agg cs] H [.agg vs] w)(hl:Ll P t cs off=some v)(hr:R v H):
  Fy P ((do let r<-part t vs off;pure (Next.value r):Sem Next).run P w) (Fi F G w R):=by
 have hx:=h.l.rel 0 _ _ rfl rfl
 have ht:=h.l.tok 0 _ _ rfl rfl
 obtain⟨hc',htk⟩:=MK rfl hx ht
 have hc:Cells F G w cs vs.toList:=hc'
 obtain⟨u,hrun,hv,hval,e1,e2,hle⟩:=eQ (P:=P) hc hl
 have hsub:∀p∈v.cells.zip u.cells.toList,p∈LG (.agg cs) (.agg vs):=by
  intro p hp
  rw[e1,e2]at hp
  obtain⟨i,hi⟩:=Ae hp
  rw[BZ]at hi
  obtain⟨h1,h2⟩:=hi
  rw[Aj]at h1 h2
  split at h1
  ·rename_i hlt
   rw[iP hlt]at h2
   rw[A2]at h1 h2
   refine AB (i:=off+i) ?_
   simp only[LG,AV.flat,AV.cells,ID,Value.cells]
   rw[BZ]
   exact⟨h1,h2⟩
  ·cases h1
 refine .value (u:=u) (w':=w) (by rw[AK,hrun];rfl) (Fi.same (h.one hv (λp hp=>ht p (hsub p (by rw[<- Pa hval hv];exact hp))) λb=>?_) hr)
 rw[Fc,GS,htk]
 have e3:Gs v u=Gw ((cs.drop off).take v.cells.length) ((vs.toList.drop off).take v.cells.length):=by
  unfold Gs Gw
  rw[Pa hval hv,<- e1,<- e2]
 rw[e3]
 show _<=CQ b (Gw cs vs.toList)+0
 rw[O' cs vs.toList off v.cells.length hc.len]
 simp only[Cc]
 omega
def AAu{t f:Nat}{fs:Array Field}{fd:Field}{cs:List AV}{u:Value}{v:AV}(h:CRel F G [.agg cs] H [u] w)(hu:P.underlying t=some (.struct fs))(hf:fs[f]? =some fd)(hl:Ll P fd.type cs fd.offset=some v)(hr:R v H):
  Fy P ((do let r<-Instr.field t u f;pure (Next.value r):Sem Next).run P w) (Fi F G w R):=by
 have hx:=h.l.rel 0 _ _ rfl rfl
 cases hx with
 | agg cs vs hl' hs hr' =>
  have e:(do let r<-Instr.field t (.agg vs) f;pure (Next.value r):Sem Next).run P w=(do let r<-part fd.type vs fd.offset;pure (Next.value r):Sem Next).run P w:=by
   simp only[Instr.field,AK,run_underlying hu,AZ,hf,asAgg,Ad]
  rw[e]
  exact eR h hl hr
def aA{t e n:Nat}{cs:List AV}{k:IntKind}{i:Int}{u x:Value}{v:AV}(h:CRel F G [.agg cs,.int k i] H [u,x] w)(hu:P.underlying t=some (.array n e))(h0:0<=i)(hn:i<n)(hz:0<P.cellsOf e)
  (hl:Ll P e cs (i.toNat*P.cellsOf e)=some v)(hr:R v H):
  Fy P ((do let r<-Instr.index t u x;pure (Next.value r):Sem Next).run P w) (Fi F G w R):=by
 have hx:=h.l.rel 0 _ _ rfl rfl
 have hi:=h.l.rel 1 _ _ rfl rfl
 have h1:=h.get (i:=0) rfl rfl
 cases hi
 cases hx with
 | agg cs vs hl' hs hr' =>
  have e:(do let r<-Instr.index t (.agg vs) (.int k i);pure (Next.value r):Sem Next).run P w=(do let r<-part e vs (i.toNat*P.cellsOf e);pure (Next.value r):Sem Next).run P w:=by
   simp only[Instr.index,asIntOf,AK,run_underlying hu,AZ,Ad,Bi,iP (show 0<=i/\i<(n:Int)from⟨h0,hn⟩),Ge hz]
  rw[e]
  exact eR h1 hl hr
def Z'{t:Nat}{s:ByteArray}{k:IntKind}{i:Int}{u x:Value}(h:CRel F G [.str s,.int k i] H [u,x] w)(hu:P.underlying t=some .string)(h0:0<=i)(hn:i<s.size)
  (hr:R (.int .u8 ((s.data[i.toNat]?).getD 0).toNat) H):
  Fy P ((do let r<-Instr.index t u x;pure (Next.value r):Sem Next).run P w) (Fi F G w R):=by
 have hx:=h.l.rel 0 _ _ rfl rfl
 have hi:=h.l.rel 1 _ _ rfl rfl
 cases hi;cases hx
 have hlt:i.toNat<s.size:=FR
 have hb:s[i.toNat]? =some s[i.toNat]:=getElem?_pos s i.toNat hlt
 have hd:(s.data[i.toNat]?).getD 0=s[i.toNat]:=by
  have:i.toNat<s.data.size:=hlt
  rw[Ai this];rfl
 rw[hd]at hr
 refine .value (u:=.int .u8 s[i.toNat].toNat) (w':=w) ?_ (Fi.plain h hr (.int _ _) (FX rfl rfl _))
 simp only[Instr.index,asIntOf,AK,run_underlying hu,AZ,Ad,iP h0,hb]
def T3 {t e:Nat} {own:Option Nat} {es:List AV} {k:IntKind} {i:Int} {u x:Value} {v:AV} (h:CRel F G [.sl own es,.int k i] H [u,x] w) (hu:P.underlying t=some (.slice e)) (h0:0<=i) (hi:es[i.toNat]? =some v)
  (hv:v.cells.length=P.cellsOf e) (hz:0<P.cellsOf e) (hr:R (.cptr v.cells 0) H) :
  Fy P ((do let r<-Instr.indexAt t u x;pure (Next.value r):Sem Next).run P w) (Fi F G w R):=by
 have hx:=h.l.rel 0 _ _ rfl rfl
 have hk:=h.l.rel 1 _ _ rfl rfl
 cases hk
 have hlt:=(AC.1 hi).1
 cases hx with
 |slnil own=>simp at hi
 |slany own a=>simp at hi
 | sl own es sz b q cap f hsz hown hl hm hcs hus =>
  have hszv:sz=P.cellsOf e:=by rw[<- hv];exact(hsz v (AB hi)).symm
  subst hszv
  have hcl:∀n,n<=es.length->(HP (es.take n)).length=n*P.cellsOf e:=λn hn=>by
   rw[Gz (n:=P.cellsOf e) λx hx=>hsz x (Ce hx),BF,B6 hn]
  have hcat:∀(j:Nat) (c:AV),v.cells[j]? =some c->(HP es)[i.toNat*P.cellsOf e+j]? =some c:=by
   intro j c hj
   have e1:es=es.take i.toNat++v::es.drop (i.toNat+1):=by
    have:es[i.toNat]=v:=by rw[AH hlt]at hi;exact Option.some.inj hi
    rw[<- this,<- BG hlt,A_]
   rw[e1,Kq,AN (by rw[hcl _ FR];omega),hcl _ FR,A4]
   simp only[HP,A5]
   rw[AX (AC.1 hj).1]
   exact hj
  refine .value (u:=.pointer (some ⟨b,q+i.toNat*P.cellsOf e+0,none⟩)) (w':=w) ?_ (Fi.plain h hr (.cptr v.cells 0 b (q+i.toNat*P.cellsOf e) (λj=>f (i.toNat*P.cellsOf e+j)) (λj c hj=>?_) (λj c hj=>?_)) (FX rfl rfl _))
  ·have hc:0<=i/\i<(es.length:Int):=⟨h0,FR⟩
   simp only[Instr.indexAt,asIntOf,AK,run_underlying hu,AZ,Ad,Bi,iP hc,Ge hz,Me,BA]
  ·have:=hcs _ c (hcat j c hj)
   rw[<- Ay]at this
   exact this
  ·exact hus _ c (hcat j c hj)
def Sm{t e:Nat}{ob off len sz:Nat}{k:IntKind}{i:Int}{u x:Value}(h:CRel F G [.msl ob off len sz,.int k i] H [u,x] w)(hu:P.underlying t=some (.slice e))(h0:0<=i)(hi:i<len)
  (hs:sz=P.cellsOf e)(hz:0<sz)(hr:R (.ptr ob (off+i.toNat*sz)) H):
  Fy P ((do let r<-Instr.indexAt t u x;pure (Next.value r):Sem Next).run P w) (Fi F G w R):=by
 have hx:=h.l.rel 0 _ _ rfl rfl
 have hk:=h.l.rel 1 _ _ rfl rfl
 cases hk
 subst hs
 cases hx with
 |msl _ _ _ _ b cap hb hl hm hc =>
  obtain⟨C0,E0,hC0,_⟩:=hc
  refine .value (u:=.pointer (some ⟨b,off+i.toNat*P.cellsOf e,none⟩)) (w':=w) ?_ (Fi.plain h hr (.ptr _ _ b hb ⟨C0,E0,hC0⟩) (FX rfl rfl _))
  have hc:0<=i/\i<(len:Int):=⟨h0,FR⟩
  simp only[Instr.indexAt,asIntOf,AK,run_underlying hu,AZ,Ad,Bi,iP hc,Ge hz,Me]
def M_{t e n:Nat}{p:AV}{k:IntKind}{i:Int}{u x:Value}(h:CRel F G [p,.int k i] H [u,x] w)(hu:P.underlying t=some (.array n e))(h0:0<=i)(hi:i<n)(hz:0<P.cellsOf e)
  (hr:match (generalizing:=false) p with
   |.ptr ob off=>R (.ptr ob (off+i.toNat*P.cellsOf e)) H
   |.cptr cs off=>R (.cptr cs (off+i.toNat*P.cellsOf e)) H
   |_=>False) :
  Fy P ((do let r<-Instr.indexAt t u x;pure (Next.value r):Sem Next).run P w) (Fi F G w R):=by
 have hx:=h.l.rel 0 _ _ rfl rfl
 have hk:=h.l.rel 1 _ _ rfl rfl
 cases hk
 have hc:0<=i/\i<(n:Int):=⟨h0,hi⟩
 have run:∀b q,(Instr.indexAt t (.pointer (some ⟨b,q,none⟩)) (.int k i)).run P w = .ok (.pointer (some ⟨b,q+i.toNat*P.cellsOf e,none⟩)) w:=λb q=>by
  simp only[Instr.indexAt,asIntOf,AK,run_underlying hu,AZ,Ad,Instr.sureAddr,Bi,iP hc,Ge hz,Me]
 cases hx with
 |ptr o off b hb hbc=>exact .value (by rw[AK,run];rfl) (Fi.plain h hr (.ptr _ _ b hb hbc) (FX rfl rfl _))
 |cptr cs off b q u' h1 h2=>exact .value (by rw[AK,run];rfl) (Fi.plain h hr (by rw[Ay];exact .cptr cs _ b q u' h1 h2) (FX rfl rfl _))
 |_=>exact hr.elim
end
end Go.AI
namespace Go.AI
section
variable{P:Program}{F:Nat->Prop}{G:Gh}{w:World}{H:cj}{R:AV->cj->Prop}{ρ:Operand->Value}
def ZG{a:Option Bool}{as:List (Option Bool)}{r:Bool}(h:WJ (a::as)=some r): ∃x y,a=some x/\WJ as=some y/\r=(x&&y):=by
 cases a with
 |none=>simp[WJ]at h
 | some x=>cases hc:WJ as with
  |none=>simp[WJ,hc]at h
  |some y =>
   simp only[WJ,hc,Option.some.injEq]at h
   exact⟨x,y,rfl,rfl,h.symm⟩
def N0{t:TypeId}{cs:List AV}{vs:Array Value}{off:Nat}{v:AV}(hc:Cells F G w cs vs.toList)(hl:Ll P t cs off=some v):
  ∃u,(part t vs off).run P w = .ok u w/\VRel G w v u/\Cells F G w v.cells u.cells.toList:=by
 obtain⟨u,h1,h2,h3,h4,h5,h6⟩:=eQ hc hl
 refine⟨u,h1,h2, ?_⟩
 rw[h5,h4]
 have:=(hc.drop off).take v.cells.length
 rw[h4]at this ⊢
 simpa using this
def Wj : ∀ (d:Nat) (t:TypeId) (x y:AV) (r:Bool),yV P d t x y=some r -> ∀ (k:Nat) (u v:Value),VRel G w x u->VRel G w y v->Cells F G w x.cells u.cells.toList->Cells F G w y.cells v.cells.toList ->
  (Op.equalIn (d+k) t u v).run P w = .ok r w
 | 0,t,x,y,r,h,_,_,_,_,_,_,_=>by simp[yV]at h
 | d+1,t,x,y,r,h,k,u,v,hu,hv,cx,cy=>by
  rw[show d+1+k=(d+k)+1 by omega]
  unfold yV at h
  split at h
  ·rename_i ht
   cases h;cases hu;cases hv
   exact run_equalIn_bool w _ t _ _ ht
  ·rename_i kk ht
   split at h
   ·rename_i hk
    subst hk
    cases h;cases hu;cases hv
    exact run_equalIn_int w _ t _ _ _ _ ht
   ·cases h
  ·rename_i ht
   cases h;cases hu;cases hv
   exact run_equalIn_string w _ t _ _ ht
  ·rename_i fs xs ys ht
   split at h
   ·cases h
   ·rename_i hso
    cases hu with
    | agg _ us _ _ _=>cases hv with
     | agg _ vs _ _ _ =>
      have hfs:P.fieldsOf t=fs:=by unfold Program.fieldsOf;rw[ht]
      rw[run_equalIn_struct w (d+k) t us vs (by rw[hfs];exact ht) (by simpa using hso),hfs]
      generalize fs.toList=l at h
      induction l generalizing r with
      |nil=>simp only[Ah,WJ]at h;cases h;rfl
      | cons f l ih =>
       simp only[AS]at h
       obtain⟨a,b,h1,h2,rfl⟩:=ZG h
       split at h1
       ·cases h1
       ·rename_i hn
        split at h1
        ·rename_i va vb hla hlb
         obtain⟨ua,p1,p2,p3⟩:=N0 (P:=P) (vs:=us) cx hla
         obtain⟨ub,q1,q2,q3⟩:=N0 (P:=P) (vs:=vs) cy hlb
         have e:=Wj d f.type va vb a h1 k ua ub p2 q2 p3 q3
         simp only[Op.eqFields,hn,ne_eq,not_false_eq_true,if_true,AK,p1,q1,e,AZ]
         cases a
         ·simp
         ·simpa using ih b h2
        ·cases h1
  ·rename_i n el xs ys ht
   split at h
   ·rename_i hi
    obtain⟨i,hi⟩:=Bc.1 hi
    cases hu with
    | agg _ us _ _ _=>cases hv with
     | agg _ vs _ _ _ =>
      rw[run_equalIn_array w (d+k) us vs ht hi]
      generalize Ak n=l at h ⊢
      induction l generalizing r with
      |nil=>simp only[Ah,WJ]at h;cases h;rfl
      | cons j l ih =>
       simp only[AS]at h
       obtain⟨a,b,h1,h2,rfl⟩:=ZG h
       split at h1
       ·rename_i va vb hla hlb
        obtain⟨ua,p1,p2,p3⟩:=N0 (P:=P) (vs:=us) cx hla
        obtain⟨ub,q1,q2,q3⟩:=N0 (P:=P) (vs:=vs) cy hlb
        have e:=Wj d el va vb a h1 k ua ub p2 q2 p3 q3
        simp only[Op.eqItems,AK,p1,q1,e,AZ]
        cases a
        ·simp
        ·simpa using ih b h2
       ·cases h1
   ·cases h
  ·cases h
def jj{t:TypeId}{a b:AV}{r:Bool}(h:KM P t a b=some r){u v:Value}(hu:VRel G w a u)(hv:VRel G w b v)(tu:∀p∈LG a u,GD F G w p)(tv:∀p∈LG b v,GD F G w p)(x y:Operand):
  (do eqGuard .eql t x y u v;binOp .eql t u v).run P w = .ok (.bool r) w/\(do eqGuard .neq t x y u v;binOp .neq t u v).run P w = .ok (.bool !r) w:=by
 unfold KM at h
 split at h<;>first|cases h|skip
 ·rename_i hb
  cases hu;cases hv
  simp[eqGuard,binOp,run_equal_bool w t _ _ hb]
 ·rename_i hp
  cases hu;cases hv
  constructor<;>simp[eqGuard,binOp,LJ _ hp]
 ·rename_i hp
  cases hu;cases hv
  constructor<;>simp[eqGuard,binOp,M5 _ hp]
 ·rename_i hp
  cases hu;cases hv
  constructor<;>simp[eqGuard,binOp,LJ _ hp]
 ·rename_i hp
  cases hu;cases hv
  constructor<;>simp[eqGuard,binOp,M5 _ hp]
 ·rename_i hp
  cases hu;cases hv
  constructor<;>simp[eqGuard,binOp,LJ _ hp]
 ·split at h
  ·cases h
  ·rename_i hg
   have ca:=(MK rfl hu tu).1
   have cb:=(MK rfl hv tv).1
   have e:=Wj (P:=P) 40 t _ _ r h 9960 u v hu hv ca cb
   cases hu;cases hv
   have e2:(Op.equal t (.agg _) (.agg _)).run P w = .ok r w:=e
   constructor<;>simp[eqGuard,binOp,hg,e2]
def AAx{op:BinOp}{t:TypeId}{x y:Operand}{a b:AV}(h:CRel F G [a,b] H [ρ x,ρ y] w)(hr:KI P op t a b λv=>R v H):
  Fy P ((do let v<-(do eqGuard op t x y (ρ x) (ρ y);binOp op t (ρ x) (ρ y));pure (Next.value v):Sem Next).run P w) (Fi F G w R):=by
 have h1:=h.l.rel 0 _ _ rfl rfl
 have h2:=h.l.rel 1 _ _ rfl rfl
 have plain:KJ op a b (λv=>R v H)->Fy P ((do let v<-(do eqGuard op t x y (ρ x) (ρ y);binOp op t (ρ x) (ρ y));pure (Next.value v):Sem Next).run P w) (Fi F G w R):=λhb=>by
  obtain⟨c,r,hR,hv,ho,hs,hrun⟩:=ADY (P:=P) (t:=t) hb h1 h2 x y
  refine .value (u:=r) (w':=w) ?_ (Fi.plain h hR hv (FX ho hs r))
  rw[AK,hrun];rfl
 unfold KI at hr
 split at hr
 ·rename_i r he
  have:=(jj he h1 h2 (λp hp=>h.l.tok 0 _ _ rfl rfl p hp) (λp hp=>h.l.tok 1 _ _ rfl rfl p hp) x y).1
  refine .value (u:=.bool r) (w':=w) ?_ (Fi.plain h hr (.bool _) (FX rfl rfl _))
  rw[AK,this];rfl
 ·rename_i r he
  have:=(jj he h1 h2 (λp hp=>h.l.tok 0 _ _ rfl rfl p hp) (λp hp=>h.l.tok 1 _ _ rfl rfl p hp) x y).2
  refine .value (u:=.bool !r) (w':=w) ?_ (Fi.plain h hr (.bool _) (FX rfl rfl _))
  rw[AK,this];rfl
 ·exact plain hr
def s6{op:BinOp}{t:TypeId}{x y:Operand}{a b:AV}(h:CRel F G [a,b] H [ρ x,ρ y] w)(hy:ρ y = .slice none 0 0)(hr:Np P op t a λv=>R v H):
  Fy P ((do let v<-(do eqGuard op t x y (ρ x) (ρ y);binOp op t (ρ x) (ρ y));pure (Next.value v):Sem Next).run P w) (Fi F G w R):=by
 have h1:=h.l.rel 0 _ _ rfl rfl
 rw[hy]
 have out:∀r:Bool,(do eqGuard op t x y (ρ x) (.slice none 0 0);binOp op t (ρ x) (.slice none 0 0)).run P w = .ok (.bool r) w->R (.bool r) H ->
   Fy P ((do let v<-(do eqGuard op t x y (ρ x) (.slice none 0 0);binOp op t (ρ x) (.slice none 0 0));pure (Next.value v):Sem Next).run P w) (Fi F G w R):=λr hrun hR=>by
  refine .value (u:=.bool r) (w':=w) ?_ (Fi.plain h hR (.bool _) (FX rfl rfl _))
  rw[AK,hrun];rfl
 unfold Np at hr
 split at hr
 case h_2=>exact hr.elim
 rename_i e hu
 have ev:∀(ad:Option Addr) (l c:Nat),ρ x = .slice ad l c->(op = .eql->(do eqGuard op t x y (ρ x) (.slice none 0 0);binOp op t (ρ x) (.slice none 0 0)).run P w = .ok (.bool ad.isNone) w) /\
   (op = .neq->(do eqGuard op t x y (ρ x) (.slice none 0 0);binOp op t (ρ x) (.slice none 0 0)).run P w = .ok (.bool !ad.isNone) w):=by
  intro ad l c hx
  constructor<;>rintro rfl<;>simp[hx,eqGuard,binOp,Op.equal,Op.maxDepth,run_equalIn_slice_nil w 9999 t e ad l c hu]
 split at hr
 ·obtain⟨u,hx⟩:∃u,u=ρ x:=⟨_,rfl⟩
  rw[<- hx]at h1
  cases h1 with
  |slnil=>exact out _ ((ev _ _ _ hx.symm).1 rfl) hr.1
  |slany=>exact out _ ((ev _ _ _ hx.symm).1 rfl) hr.2
  |sl=>exact out _ ((ev _ _ _ hx.symm).1 rfl) hr.2
 ·obtain⟨u,hx⟩:∃u,u=ρ x:=⟨_,rfl⟩
  rw[<- hx]at h1
  cases h1 with
  |slnil=>exact out _ ((ev _ _ _ hx.symm).2 rfl) hr.2
  |slany=>exact out _ ((ev _ _ _ hx.symm).2 rfl) hr.1
  |sl=>exact out _ ((ev _ _ _ hx.symm).2 rfl) hr.1
 ·obtain⟨u,hx⟩:∃u,u=ρ x:=⟨_,rfl⟩
  rw[<- hx]at h1
  cases h1 with
  |sl=>exact out _ ((ev _ _ _ hx.symm).1 rfl) hr
 ·obtain⟨u,hx⟩:∃u,u=ρ x:=⟨_,rfl⟩
  rw[<- hx]at h1
  cases h1 with
  |sl=>exact out _ ((ev _ _ _ hx.symm).2 rfl) hr
 ·obtain⟨u,hx⟩:∃u,u=ρ x:=⟨_,rfl⟩
  rw[<- hx]at h1
  cases h1 with
  |msl=>exact out _ ((ev _ _ _ hx.symm).1 rfl) hr
 ·obtain⟨u,hx⟩:∃u,u=ρ x:=⟨_,rfl⟩
  rw[<- hx]at h1
  cases h1 with
  |msl=>exact out _ ((ev _ _ _ hx.symm).2 rfl) hr
 ·exact hr.elim
end
end Go.AI
namespace Go.AI
section
variable{P:Program}{F:Nat->Prop}{G:Gh}{w:World}{H:cj}{R:AV->cj->Prop}
def Fy.skip{K:Value->World->Prop}{r:Result Next}{w':World}(hr:r = .ok .skip w')(h:K Go.undef w'):Fy P r K:=by subst hr;exact h
def HRel.at_obj(h:HRel F G H w){ob:Nat}{cs:List AV}(ho:H[ob]? =some (some cs)){b:Nat}(hb:G.obs[ob]? =some b)(hbc:∃(C:Array Value) (E:TypeId),w.heap[b]? =some (.cells C E (0,0))):
  ∃(C:Array Value) (E:TypeId),w.heap[b]? =some (.cells C E (0,0))/\cs.length<=C.size/\Cells F G w cs (C.toList.take cs.length):=by
 obtain⟨C0,E0,hb0⟩:=hbc
 obtain⟨C,E,h1,h2,h3⟩:=((h.obj ob cs b ho hb).of_cells hb0).2
 refine⟨C,E,h1,h2,Hy,λi c v hc hv=>?_⟩
 rw[Aj]at hv
 split at hv
 ·exact h3 i c v hc (by simpa using hv)
 ·cases hv
def Ls{α β:Type}: ∀(a:List α) (b:List β),a.zip b=a.zip (b.take a.length)
 |[],b=>sm
 |_::_,[]=>sm
 |x::a,y::b=>by simp[<- Ls a b]
def TS{α:Type}(l ys:List α)(off m:Nat)(h:off+ys.length<=m)(hm:m<=l.length):
  (l.take off++ys++l.drop (off+ys.length)).take m=(l.take m).take off++ys++(l.take m).drop (off+ys.length):=by
 have h1:(l.take off).length=off:=Hy
 rw[AE,D4,h1,D4,C4,C4,List.drop_take,AE]
 rw[Nat.min_eq_right FR,B6 FR,Bu (l:=ys) FR]
 rw[show m - off - ys.length=m - (off+ys.length) by omega]
def Ok {t ob off:Nat} {cs:List AV} {v:AV} {u:Value} (h:CRel F G [.ptr ob off] H [u] w) (ho:H[ob]? =some (some cs)) (hl:Ll P t cs off=some v)
  (hr:R v.borrow H\/R v (H.set ob (some (splice cs off (v.cells.map borrow1))))) :
  Fy P ((do let r<-Instr.loadAt t u;pure (Next.value r):Sem Next).run P w) (Fi F G w R):=by
 have hx:=h.l.rel 0 _ _ rfl rfl
 cases hx with
 | ptr o off b hb hbc =>
  have hobj:=h.h.obj ob cs b ho hb
  obtain⟨x,hrun,hv,hval,hcells,hf1,hf2⟩:=aK (P:=P) hl (PD hbc.choose_spec.choose_spec hobj)
  rw[AU]at hrun
  have hrun':(do let r<-Instr.loadAt t (.pointer (some ⟨b,off,none⟩));pure (Next.value r):Sem Next).run P w = .ok (.value x) w:=by
   simp only[Instr.loadAt,Instr.sureAddr,AK,Ad,AZ,hrun]
  rcases hr with hr|hr
  ·exact .value hrun' (Fi.plain h hr hv.borrow (Gc v x))
  ·obtain⟨C,E,hrow,hCs,hC⟩:=h.h.at_obj ho hb hbc
   have hxl:v.cells.length=x.cells.toList.length:=by have:=(Jm hval hv).2.2;simpa using this
   have hstretch:∀(i:Nat),i<v.cells.length->cs[off+i]? =v.cells[i]?/\C[off+i]? =x.cells.toList[i]?:=by
    intro i hi
    have h1:v.cells[i]? =some v.cells[i]:=AH hi
    have h2:x.cells.toList[i]? =some (x.cells.toList[i]' FR):=AH _
    obtain⟨g1,g2⟩:=hcells i _ _ h1 (by rw[<- Ac];exact h2)
    rw[AU,cell_of_row w b _ C E _ hrow]at g2
    exact⟨g1.trans h1.symm,g2.trans h2.symm⟩
   have hle:off+v.cells.length<=cs.length:=by
    by_cases h0:v.cells.length=0
    ·unfold Ll at hl
     split at hl
     ·split at hl
      ·cases hl;simp only[AV.cells]at h0 ⊢;simp at h0 ⊢;omega
      ·cases hl
     ·split at hl
      ·cases hl;simp only[AV.cells]at h0 ⊢;simp at h0 ⊢;omega
      ·cases hl
     ·have:=(AC.1 hl).1;omega
     ·cases hl
    ·have:=(hstretch (v.cells.length - 1) FR).1
     rw[AH (show v.cells.length - 1<v.cells.length by omega)]at this
     have:=(AC.1 this).1
     omega
   have e1:v.cells=(cs.drop off).take v.cells.length:=by
    apply A3
    intro i
    by_cases hi:i<v.cells.length
    ·rw[JN _ _ _ _ hi,(hstretch i hi).1]
    ·rw[Av FR,Av Hy]
   have e2:x.cells.toList=((C.toList.take cs.length).drop off).take v.cells.length:=by
    apply A3
    intro i
    by_cases hi:i<v.cells.length
    ·rw[JN _ _ _ _ hi,Aj,iP FR,<- (hstretch i hi).2]
     simp
    ·rw[Av FR,Av Hy]
   have hC2:=hC.unown off v.cells.length hle
   rw[<- e1]at hC2
   have hlen2:(splice cs off (v.cells.map borrow1)).length=cs.length:=by rw[Mi (by simpa using hle)]
   have htoksv:Gs v x=Gw ((cs.drop off).take v.cells.length) (((C.toList.take cs.length).drop off).take v.cells.length):=by
    unfold Gs Gw
    rw[Pa hval hv,<- e1,<- e2]
   have htokok:∀p∈LG v x,GD F G w p:=by
    intro p hp
    rw[Pa hval hv,e1,e2]at hp
    obtain⟨i,hi⟩:=Ae hp
    rw[BZ]at hi
    obtain⟨h1,h2⟩:=hi
    exact(((hC.drop off).take v.cells.length).at_ i p.1 p.2 h1 h2).2.2
   have hset:=h.setObj ho hb hrow (C':=C) rfl (cs':=splice cs off (v.cells.map borrow1)) (by rw[hlen2];exact hCs) (λi c y hc hy=>?_) (vs:=[v]) (us':=[x]) (.cons hv htokok (.nil F G w)) (λy=>?_)
   ·rw[setRow_self w b C E _ hrow]at hset
    exact .value hrun' ⟨v,_,G,hr,hset.1,hset.2⟩
   ·have hi:=(AC.1 hc).1
    exact hC2.at_ i c y hc (by rw[Aj,iP FR];simpa using hy)
   ·have h1:=ik (cs:=cs) (vs:=C.toList.take cs.length) (off:=off) (k:=v.cells.length) hC.len y hle
    rw[<- e1]at h1
    rw[Fc,GS,htoksv,<- e1]
    have z1:(splice cs off (v.cells.map borrow1)).zip C.toList=(splice cs off (v.cells.map borrow1)).zip (C.toList.take cs.length):=by
     have:=Ls (splice cs off (v.cells.map borrow1)) C.toList
     rw[hlen2]at this;exact this
    rw[z1,Ls cs C.toList]
    unfold Gw at h1 ⊢
    omega
def Z_{t off:Nat}{cs:List AV}{v:AV}{u:Value}(h:CRel F G [.cptr cs off] H [u] w)(hl:Ll P t cs off=some v)(hr:R v.borrow H):
  Fy P ((do let r<-Instr.loadAt t u;pure (Next.value r):Sem Next).run P w) (Fi F G w R):=by
 have hx:=h.l.rel 0 _ _ rfl rfl
 obtain⟨b,q,rfl,hc⟩:=UC hx
 obtain⟨x,hrun,hv,_⟩:=aK (P:=P) hl hc
 exact .value (by simp only[Instr.loadAt,Instr.sureAddr,AK,Ad,AZ,hrun]) (Fi.plain h hr hv.borrow (Gc v x))
def AAs {t ob off:Nat} {cs:List AV} {v:AV} {u x:Value} (h:CRel F G [.ptr ob off,v] H [u,x] w) (ho:H[ob]? =some (some cs)) (hval:v.isVal=true) (hk:v.cells.length=P.cellsOf t) (hz:0<P.cellsOf t)
  (hle:off+P.cellsOf t<=cs.length) (hr:R .undef (H.set ob (some (splice cs off v.cells)))) :
  Fy P ((do Instr.storeAt t u x;pure Next.skip:Sem Next).run P w) (Fi F G w R):=by
 have hp:=h.l.rel 0 _ _ rfl rfl
 have hv:=h.l.rel 1 _ _ rfl rfl
 have ht:=h.l.tok 1 _ _ rfl rfl
 cases hp with
 | ptr o off b hb hbc =>
  obtain⟨C,E,hrow,hCs,hC⟩:=h.h.at_obj ho hb hbc
  obtain⟨hcv,htk⟩:=MK hval hv ht
  have hxl:x.cells.size=P.cellsOf t:=by have:=(Jm hval hv).2.2;omega
  have hst:=run_storeCells_at P b off E x.cells.toList 0 C w hrow Hy hcv.oneCell
  simp only[BA,Bt]at hst
  let C':Array Value:=(C.toList.take off++x.cells.toList++C.toList.drop (off+x.cells.size)).toArray
  have hC':C'=(C.toList.take off++x.cells.toList++C.toList.drop (off+x.cells.size)).toArray:=rfl
  have hsize:C'.size=C.size:=by rw[hC'];simp;omega
  have hrun:(do Instr.storeAt t (.pointer (some ⟨b,off,none⟩)) x;pure Next.skip:Sem Next).run P w = .ok .skip (w.setRow b C'):=by
   simp only[Instr.storeAt,Instr.sureAddr,storeVar,AK,Ad,AZ,Ge hz,Bi]
   rw[iN FR]
   simp only[AZ,hst,hC']
  have hlen2:(splice cs off v.cells).length=cs.length:=Mi FR
  have hspl:C'.toList.take cs.length=Hp (C.toList.take cs.length) off x.cells.toList:=by
   rw[hC']
   have:=TS C.toList x.cells.toList off cs.length Hy (by simpa using hCs)
   simpa [Hp]using this
  have hCC:=hC.splice (off:=off) hcv
  have hset:=h.setObj ho hb hrow (C':=C') hsize (cs':=splice cs off v.cells) (by rw[hlen2,hsize];exact hCs) (λi c y hc hy=>?_) (vs:=[.undef]) (us':=[Go.undef]) (.cons (.undef _) (Fj (Ha _) F G w) (.nil F G w)) (λy=>?_)
  ·exact Fy.skip hrun ⟨.undef,_,G,hr,hset.1,hset.2⟩
  ·have hi:=(AC.1 hc).1
   refine hCC.at_ i c y hc ?_
   rw[<- hspl,Aj,iP FR]
   simpa using hy
  ·rw[Fc,GS,Ha,Fc,Fc,GS,htk]
   have z1:(splice cs off v.cells).zip C'.toList=(splice cs off v.cells).zip (Hp (C.toList.take cs.length) off x.cells.toList):=by
    have:=Ls (splice cs off v.cells) C'.toList
    rw[hlen2,hspl]at this;exact this
   rw[z1,Ls cs C.toList]
   have h1:=Ny (cs:=cs) (xs:=v.cells) (vs:=C.toList.take cs.length) (ys:=x.cells.toList) (off:=off) hC.len Hy y
   unfold Gw at h1 ⊢
   simp only[Ba]
   omega
def AIN{elem:TypeId}{v:AV}{u:Value}(h:CRel F G [v] H [u] w)(hval:v.isVal=true)(hr:R (.ptr H.length 0) (H++[some v.cells])):
  Fy P ((do let r<-Instr.box elem u;pure (Next.value r):Sem Next).run P w) (Fi F G w R):=by
 have hv:=h.l.rel 0 _ _ rfl rfl
 have ht:=h.l.tok 0 _ _ rfl rfl
 obtain⟨hc,htk⟩:=MK hval hv ht
 refine .value (u:=.pointer (some ⟨w.heap.size,0,none⟩)) (w':=w.alloc (.cells u.cells elem)) (by simp[Instr.box,newVar,newRow]) ⟨_,_,_,hr, ?_,IU h.h.fore _⟩
 refine h.newObj v.cells u.cells elem (by have:=hc.len;simp at this;omega) (λi c x h1 h2=>hc.at_ i c x h1 (by simpa using h2)) (λb=>?_) (.ptr _ _ _ ?_ ⟨_,_,heap_alloc_new w _⟩) (FX rfl rfl _)
 ·rw[Fc,GS,htk]
  exact AT _
 ·show(G.obs++[w.heap.size])[H.length]? =_
  rw[<- h.h.len,AN (AT _)]
  simp
end
end Go.AI
namespace Go.AI
section
variable{P:Program}{F:Nat->Prop}{G:Gh}{w:World}{H:cj}{R:AV->cj->Prop}
def VRel.constT(G:Gh)(w:World)(ty:Option TypeId)(v:Value):VRel G w (constT P ty v) v:=by
 unfold Go.AI.constT
 split
 ·exact .slnil _
 ·exact VRel.const1 G w v
def Nf(ty:Option TypeId)(v u:Value)(h:u=v):tok (constT P ty v,u)=none:=by
 subst h
 unfold constT
 split
 ·cases Sp P ty<;>rfl
 ·exact Lw (Mv _) _
def Cells.constT(cs:List Value)(tys:List TypeId)(k:Nat)(hs:((cs.zipIdx k).map λ(c,i)=>Go.AI.constT P tys[i]? c).all AV.scalar=true):
  Cells F G w ((cs.zipIdx k).map λ(c,i)=>Go.AI.constT P tys[i]? c) cs/\Gw ((cs.zipIdx k).map λ(c,i)=>Go.AI.constT P tys[i]? c) cs=[]:=by
 induction cs generalizing k with
 |nil=>exact⟨.nil,rfl⟩
 | cons c cs ih =>
  simp only[D5,AS,Al,AM]at hs ⊢
  obtain⟨h1,h2⟩:=ih (k+1) hs.2
  refine⟨?_, ?_⟩
  ·have one:Cells F G w [Go.AI.constT P tys[k]? c] [c]:=⟨rfl,λi x y hx hy=>by
    cases i with
    |zero=>simp at hx hy;subst hx;subst hy;exact⟨hs.1,VRel.constT G w _ c,GA (Nf _ c c rfl)⟩
    |succ i=>simp at hx⟩
   exact one.append h1
  ·simp only[Gw,B4,B5,Nf _ c c rfl]
   exact h2
def M1{t:TypeId}{z:AV}(h:Fk P t=some z): ∃ zv,(∀ w,(zeroValue t).run P w = .ok zv w)/\z.isVal=true /\
  (∀(F:Nat->Prop) (G:Gh) (w:World),Cells F G w z.cells zv.cells.toList)/\Gw z.cells zv.cells.toList=[]:=by
 unfold Fk at h
 split at h
 ·rename_i cs hz
  split at h
  ·rename_i hs
   cases h
   cases hi:P.info? t with
   |none=>rw[hi]at hz;cases hz
   |some i =>
    rw[hi]at hz
    have hz':i.zero=some (.agg cs):=hz
    refine⟨.agg cs,λw=>by simp[zeroValue,typeInfo,hi,hz'],rfl,λF G w=>?_, ?_⟩
    ·exact(Cells.constT (F:=F) (G:=G) (w:=w) cs.toList (Pe P 20 t) 0 hs).1
    ·exact(Cells.constT (F:=λ_=>False) (G:=⟨[],λ_ => .imm⟩) (w:=default) cs.toList (Pe P 20 t) 0 hs).2
  ·cases h
 ·rename_i zv hne hz
  split at h
  ·rename_i hs
   cases h
   cases hi:P.info? t with
   |none=>rw[hi]at hz;cases hz
   | some i =>
    rw[hi]at hz
    have hz':i.zero=some zv:=hz
    have hval:(Go.AI.constT P (some t) zv).isVal=true:=by
     generalize Go.AI.constT P (some t) zv=c at hs
     cases c<;>first|rfl|cases hs
    have h1:(Go.AI.constT P (some t) zv).cells=[Go.AI.constT P (some t) zv]:=by
     generalize Go.AI.constT P (some t) zv=c at hs
     cases c<;>first|rfl|cases hs
    have h2:zv.cells.toList=[zv]:=by
     have:=VRel.constT (P:=P) ⟨[],λ_ => .imm⟩ default (some t) zv
     generalize Go.AI.constT P (some t) zv=c at hs this
     cases this<;>first|rfl|cases hs
    refine⟨zv,λw=>by simp[zeroValue,typeInfo,hi,hz'],hval,λF G w=>?_, ?_⟩
    ·rw[h1,h2]
     exact⟨rfl,λi x y hx hy=>by
      cases i with
      |zero=>simp at hx hy;subst hx;subst hy;exact⟨hs,VRel.constT G w _ zv,GA (Nf _ zv zv rfl)⟩
      |succ i=>simp at hx⟩
    ·rw[h1,h2]
     simp[Gw,Nf _ zv zv rfl]
  ·cases h
 ·cases h
end
end Go.AI
namespace Go.AI
section
variable{P:Program}{F:Nat->Prop}{G:Gh}{w:World}{H:cj}{R:AV->cj->Prop}
def AAy{elem:TypeId}{z:AV}(h:CRel F G [] H [] w)(hz:Fk P elem=some z)(hr:R (.ptr H.length 0) (H++[some z.cells])):
  Fy P ((do let r<-Instr.alloc elem true (.tuple #[]);pure (Next.value r):Sem Next).run P w) (Fi F G w R):=by
 obtain⟨zv,hrun,hval,hc,ht⟩:=M1 hz
 have hc':=hc F G w
 refine .value (u:=.pointer (some ⟨w.heap.size,0,none⟩)) (w':=w.alloc (.cells zv.cells elem)) (by simp[Instr.alloc,newVar,newRow,hrun]) ⟨_,_,_,hr, ?_,IU h.h.fore _⟩
 refine h.newObj z.cells zv.cells elem (by have:=hc'.len;simp at this;omega) (λi c x h1 h2=>hc'.at_ i c x h1 (by rw[Ac];exact h2)) (λb=>?_) (.ptr _ _ _ ?_ ⟨_,_,heap_alloc_new w _⟩) (FX rfl rfl _)
 ·show CQ b (Gw z.cells zv.cells.toList)<=_
  rw[ht];simp
 ·show(G.obs++[w.heap.size])[H.length]? =_
  rw[<- h.h.len,AN (AT _)]
  simp
def aD{elem:TypeId}(h:CRel F G [] H [] w)(hz:AA1 P elem=true)(hr:R (.ptr H.length 0) (H++[some [.sl (some 0) []]])):
  Fy P ((do let r<-Instr.alloc elem true (.tuple #[]);pure (Next.value r):Sem Next).run P w) (Fi F G w R):=by
 unfold AA1 at hz
 split at hz
 case h_2=>cases hz
 rename_i hz0
 cases hi:P.info? elem with
 |none=>rw[hi]at hz0;cases hz0
 | some i =>
  rw[hi]at hz0
  have hz':i.zero=some (.slice none 0 0):=hz0
  have hrun:∀w,(zeroValue elem).run P w = .ok (.slice none 0 0) w:=λw=>by simp[zeroValue,typeInfo,hi,hz']
  refine .value (u:=.pointer (some ⟨w.heap.size,0,none⟩)) (w':=w.alloc (.cells #[.slice none 0 0] elem)) (by simp[Instr.alloc,newVar,newRow,hrun,Value.cells]) ⟨_,_,_,hr, ?_,IU h.h.fore _⟩
  have htk:tok (.sl (some 0) [],.slice none 0 0)=none:=rfl
  refine h.newObj [.sl (some 0) []] #[.slice none 0 0] elem sm (λi c x h1 h2=>?_) (λb=>?_) (.ptr _ _ _ ?_ ⟨_,_,heap_alloc_new w _⟩) (FX rfl rfl _)
  ·cases i with
   |zero=>simp at h1 h2;subst h1;subst h2;exact⟨rfl,.slnil _,GA htk⟩
   |succ i=>simp at h1
  ·simp[htk]
  ·show(G.obs++[w.heap.size])[H.length]? =_
   rw[<- h.h.len,AN (AT _)]
   simp
def iS(off:Nat): ∀(l:List Value) (k:Nat) (cells:Array Value),off+k+l.length<=cells.size ->
  ((l.zipIdx k).foldl (λcs p=>cs.setIfInBounds (off+p.2) p.1) cells).toList=cells.toList.take (off+k)++l++cells.toList.drop (off+k+l.length)
 |[],k,cells,h=>sm
 |v::l,k,cells,h=>by
  simp only[D5,List.foldl_cons]
  rw[iS off l (k+1) _ (by simp at h ⊢;omega)]
  have e:=list_seg_step cells.toList (off+k) v l (by simp at h ⊢;omega)
  simpa [Array.toList_setIfInBounds,Ay]using e
def iW(v:Value)(off:Nat)(cells:Array Value)(h:off+v.cells.size<=cells.size):
  v.cells.zipIdx.foldl (λcs (c,j)=>cs.setIfInBounds (off+j) c) cells=(Hp cells.toList off v.cells.toList).toArray:=by
 apply Bj
 have:=iS off v.cells.toList 0 cells (by simpa using h)
 rw[<- Array.foldl_toList,Array.toList_zipIdx]
 simpa [Hp]using this
def iV(place:Nat->Option (Nat×Nat)): ∀ (is:List Nat) (vs:List AV) (us:List Value) (cs cs':List AV) (C:Array Value),IJ place cs is vs=some cs'->LRel F G vs us w->Cells F G w cs C.toList ->
  ∃C',Instr.fill place C (is.zip us)=some C'/\Cells F G w cs' C'.toList /\ ∀b,(Gw cs' C'.toList).count b<=(Gw cs C.toList).count b+HA b vs us
 |[],[],us,cs,cs',C,h,hl,hc=>by
  simp only[IJ,Option.some.injEq]at h
  subst h
  exact⟨C,by simp[Instr.fill],hc,λb=>FR⟩
 |[],_::_,_,_,_,_,h,_,_=>by simp[IJ]at h
 |_::_,[],_,_,_,_,h,_,_=>by simp[IJ]at h
 | i::is,v::vs,us,cs,cs',C,h,hl,hc=>by
  match us,hl.len with
  | u::us,_ =>
   obtain⟨hv,ht,hl'⟩:=hl.uncons
   simp only[IJ]at h
   split at h
   ·rename_i off size hp
    split at h
    ·rename_i hcond
     obtain⟨hval,hk,hle⟩:=hcond
     obtain⟨hcv,htk⟩:=MK hval hv ht
     have hus:u.cells.size=size:=by have:=(Jm hval hv).2.2;omega
     have hCs:cs.length=C.size:=by simpa using hc.len
     obtain⟨C',h1,h2,h3⟩:=iV place is vs us (splice cs off v.cells) cs' (Hp C.toList off u.cells.toList).toArray h hl' (by simpa using hc.splice (off:=off) hcv)
     refine⟨C', ?_,h2,λb=>?_⟩
     ·simp only[B4,Instr.fill,hp]
      rw[iN (by simp[hus];omega),iW u off C FR]
      exact h1
     ·have g1:=h3 b
      have g2:=Ny (cs:=cs) (xs:=v.cells) (vs:=C.toList) (ys:=u.cells.toList) (off:=off) hc.len hcv.len b
      rw[Fc,htk]
      simp only[]at g1
      omega
    ·cases h
   ·cases h
def PX(ρ:Operand->Value): ∀(ps:List (Nat×Operand)),(ps.map (·.1)).zip (ps.map λp=>ρ p.2)=ps.map λp=>(p.1,ρ p.2)
 |[]=>rfl
 |p::ps=>by simp[PX ρ ps]
def Ol{t:TypeId}{ps:List (Nat×Operand)}{ρ:Operand->Value}{place:Nat->Option (Nat×Nat)}{vs z cs:List AV}(h:CRel F G vs H (ps.map λp=>ρ p.2) w)(hz:Fk P t=some (.agg z))
  (hf:IJ place z (ps.map (·.1)) vs=some cs)(hr:R (.agg cs) H)
  (hb:∀(zv:Value) (cells:Array Value),(∀w,(zeroValue t).run P w = .ok zv w)->Instr.fill place zv.cells (ps.map λp=>(p.1,ρ p.2))=some cells->(Instr.build t (ps.map λp=>(p.1,ρ p.2)).toArray).run P w = .ok (.agg cells) w):
  Fy P ((do let r<-Instr.build t (ps.map λp=>(p.1,ρ p.2)).toArray;pure (Next.value r):Sem Next).run P w) (Fi F G w R):=by
 obtain⟨zv,hrun,hval,hc,ht⟩:=M1 hz
 obtain⟨C',h1,h2,h3⟩:=iV (F:=F) (G:=G) (w:=w) place _ _ _ _ _ zv.cells hf h.l (hc F G w)
 rw[PX]at h1
 have hbuild:=hb zv C' hrun h1
 obtain⟨g1,g2,g3⟩:=pH h2
 rw[Array.toArray_toList]at g1 g2 g3
 refine .value (u:=.agg C') (w':=w) (by rw[AK,hbuild];rfl) (Fi.same (h.one g1 g2 λb=>?_) hr)
 rw[g3]
 have:=h3 b
 simp only[AV.cells]at ht
 rw[ht]at this
 simpa using this
def T4{t:TypeId}{fs:Array Field}{ps:List (Nat×Operand)}{ρ:Operand->Value}{vs z cs:List AV}(h:CRel F G vs H (ps.map λp=>ρ p.2) w)(hu:P.underlying t=some (.struct fs))(hfs:NL P fs=true)
  (hz:Fk P t=some (.agg z))(hf:IJ ((Iw P fs)[·]?) z (ps.map (·.1)) vs=some cs)(hr:R (.agg cs) H):
  Fy P ((do let r<-Instr.build t (ps.map λp=>(p.1,ρ p.2)).toArray;pure (Next.value r):Sem Next).run P w) (Fi F G w R):=by
 refine Ol h hz hf hr λzv cells hrun hfill=>?_
 obtain⟨i,hi⟩:=LI hu
 have hzero:i.zero=some zv:=by
  have:=hrun w
  simp only[zeroValue,typeInfo,AK,run_program,AZ,hi,Ad]at this
  cases hz':i.zero with
  |none=>rw[hz']at this;cases this
  |some v=>rw[hz']at this;cases this;rfl
 have hpl:fs.toList.mapM (λf=>(P.info? f.type).map λi=>(f.offset,i.size))=some (Iw P fs).toList:=by
  have hall:∀f∈fs.toList,(P.info? f.type).isSome=true:=by
   intro f hf'
   have:=Array.all_eq_true_iff_forall_mem.1 hfs f (by simpa using hf')
   exact this
  have:(Iw P fs).toList=fs.toList.map λf=>(f.offset,P.cellsOf f.type):=by simp[Iw]
  rw[this]
  clear hf hfill hu hfs this
  revert hall
  generalize fs.toList=L
  intro hall
  induction L with
  |nil=>rfl
  |cons f l ih =>
   have h1:=hall f sm
   obtain⟨fi,hfi⟩:=Bc.1 h1
   have ih':=ih λg hg=>hall g (by simp[hg])
   simp only[List.mapM_cons,Option.bind_eq_bind,Option.pure_def,hfi,BQ,BY,ih',AS,BJ,BO]
 refine run_build w t _ cells ?_
 simp only[D6,hi,hu,hzero,hpl]
 simpa using hfill
def VQ{t e n:Nat}{ps:List (Nat×Operand)}{ρ:Operand->Value}{vs z cs:List AV}(h:CRel F G vs H (ps.map λp=>ρ p.2) w)(hu:P.underlying t=some (.array n e))(he:(P.info? e).isSome=true)
  (hz:Fk P t=some (.agg z))(hf:IJ (λi=>some (i*P.cellsOf e,P.cellsOf e)) z (ps.map (·.1)) vs=some cs)(hr:R (.agg cs) H):
  Fy P ((do let r<-Instr.build t (ps.map λp=>(p.1,ρ p.2)).toArray;pure (Next.value r):Sem Next).run P w) (Fi F G w R):=by
 refine Ol h hz hf hr λzv cells hrun hfill=>?_
 obtain⟨i,hi⟩:=LI hu
 obtain⟨ie,hie⟩:=Bc.1 he
 have hzero:i.zero=some zv:=by
  have:=hrun w
  simp only[zeroValue,typeInfo,AK,run_program,AZ,hi,Ad]at this
  cases hz':i.zero with
  |none=>rw[hz']at this;cases this
  |some v=>rw[hz']at this;cases this;rfl
 refine run_build w t _ cells ?_
 simp only[D6,hi,hu,hzero,hie]
 have hce:P.cellsOf e=ie.size:=by simp[BJ,hie]
 rw[hce]at hfill
 simpa using hfill
def V'(size:Nat): ∀ (us:List Value) (k:Nat) (C:Array Value),(∀ u∈us,u.cells.size=size)->C.size=(k+us.length)*size ->
  Instr.fill (λi=>some (i*size,size)) C ((DY k us.length).zip us)=some (C.toList.take (k*size)++us.flatMap λu=>u.cells.toList).toArray
 |[],k,C,_,hC=>by
  simp only[AJ,BA]at hC
  simp[Instr.fill,Bu,hC]
 | u::us,k,C,hs,hC=>by
  have hu:u.cells.size=size:=hs u sm
  have hC':C.size=k*size+size+us.length*size:=by rw[hC];simp only[AD,Az];omega
  simp only[AD,List.range'_succ,B4,Instr.fill]
  rw[iN (by simp[hu];omega),iW u (k*size) C FR,V' size us (k+1) _ (λx hx=>hs x (by simp[hx])) ?_]
  ·congr 1
   apply Bj
   simp only[A5]
   have e:(Hp C.toList (k*size) u.cells.toList).take ((k+1)*size)=C.toList.take (k*size)++u.cells.toList:=by
    unfold Hp
    rw[List.take_append_of_le_length (by simp;rw[Az];omega),Bu (by simp;rw[Az];omega)]
   rw[e,AE]
  ·simp only[Hp,BR,AF,BF,Cb,Bt,hu,Az]at *
   omega
def S7 : ∀ (vs:List AV) (us:List Value),LRel F G vs us w->(∀ v∈vs,v.isVal=true)->Cells F G w (HP (vs.map AV.borrow)) (us.flatMap λu=>u.cells.toList)
 |[],us,h,_=>by
  match us,h.len with
  |[],_=>exact .nil
 | v::vs,us,h,hv=>by
  match us,h.len with
  | u::us,_ =>
   obtain⟨h1,h2,h3⟩:=h.uncons
   have hval:v.borrow.isVal=true:=by
    have:=hv v sm
    cases v<;>first|rfl|cases this
   have hc:=(MK hval h1.borrow (Fj (Gc v u) F G w)).1
   have:=S7 vs us h3 λx hx=>hv x (by simp[hx])
   simp only[AS,HP,A5]
   exact hc.append this
def Kp(v:AV):v.borrow.cells.length=v.cells.length:=by
 cases v<;>simp[AV.borrow,borrow0,AV.cells]
def XR {t e len:Nat} {ps:List (Nat×Operand)} {ρ:Operand->Value} {vs:List AV} (h:CRel F G vs H (ps.map λp=>ρ p.2) w) (hu:P.underlying t=some (.slice e)) (hpos:0<P.cellsOf e) (hsmall:len*P.cellsOf e<=16777216)
  (hidx:ps.map (·.1)=Ak len) (hvs:∀v∈vs,v.isVal=true/\v.cells.length=P.cellsOf e) (hz:GW P e=true) (hr:R (.sl (some (P.cellsOf e)) (vs.map AV.borrow)) H) :
  Fy P ((do let r<-Instr.buildSlice t len (ps.map λp=>(p.1,ρ p.2)).toArray;pure (Next.value r):Sem Next).run P w) (Fi F G w R):=by
 have hpl:ps.length=len:=by have:=congrArg List.length hidx;simpa using this
 have hvl:vs.length=len:=by have:=h.l.len;simp at this;omega
 have hus:∀u∈ps.map (λp=>ρ p.2),u.cells.size=P.cellsOf e:=by
  intro u hu'
  obtain⟨i,hi⟩:=Ae hu'
  have hlt:=(AC.1 hi).1
  simp at hlt
  have hv:vs[i]? =some (vs[i]' FR):=AH _
  obtain⟨g1,g2⟩:=hvs _ (AB hv)
  have:=(Jm g1 (h.l.rel i _ u hv hi)).2.2
  omega
 unfold GW at hz
 split at hz
 ·rename_i i hi
  split at hz
  ·rename_i z hz'
   have key:∀zc:Array Value,Instr.fill (λi=>some (i*P.cellsOf e,P.cellsOf e)) ((CR (len*P.cellsOf e)).map (zc[· % zc.size]!)) (ps.map λp=>(p.1,ρ p.2)) =
     some ((ps.map λp=>ρ p.2).flatMap λu=>u.cells.toList).toArray:=λzc=>by
    have hfill:=V' (P.cellsOf e) (ps.map λp=>ρ p.2) 0 ((CR (len*P.cellsOf e)).map (zc[· % zc.size]!)) hus (by simp[hpl])
    rw[show(DY 0 (ps.map λp=>ρ p.2).length)=ps.map (·.1) by rw[hidx,List.range_eq_range'];simp[hpl],PX]at hfill
    simpa using hfill
   have hcc:=S7 vs _ h.l λv hv=>(hvs v hv).1
   have hrun:(Instr.buildSlice t len (ps.map λp=>(p.1,ρ p.2)).toArray).run P w = .ok (.slice (some ⟨w.heap.size,0,none⟩) len len) (w.alloc (.cells ((ps.map λp=>ρ p.2).flatMap λu=>u.cells.toList).toArray e)):=by
    have hs:(sizeOf e).run P w = .ok (P.cellsOf e) w:=Ge hpos w
    simp only[Instr.buildSlice,AK,run_underlying hu,AZ,hs,Bi]
    rw[iN FR]
    simp only[Ad,AZ]
    by_cases h0:len*P.cellsOf e=0
    ·simp only[iP h0,key]
     simp[newRow]
    ·simp only[iN h0,zeroValue,typeInfo,AK,run_program,AZ,hi,hz',Ad,key]
     simp[newRow]
   obtain⟨G',hc1,hc2⟩:=h.newList (vs.map AV.borrow) (P.cellsOf e) len ((ps.map λp=>ρ p.2).flatMap λu=>u.cells.toList).toArray e hpos (λx hx=>by
     obtain⟨v,hv,rfl⟩:=AO.1 hx
     rw[Kp];exact(hvs v hv).2) (by simp[hvl]) (by
      have:len<=len*P.cellsOf e:=Nat.le_mul_of_pos_right _ hpos
      unfold maxLen;omega) (by
      have:=hcc.len
      rw[Gz (n:=P.cellsOf e) λx hx=>by
       obtain⟨v,hv,rfl⟩:=AO.1 hx
       rw[Kp];exact(hvs v hv).2]at this
      simp only[Ap,hvl]at this
      simp only[BR]
      omega) (λi c hi'=>by
       have hlt:=(AC.1 hi').1
       have hx:=AH (l:=(ps.map λp=>ρ p.2).flatMap λu=>u.cells.toList) (i:=i) (by rw[<- hcc.len];exact hlt)
       obtain⟨s1,s2,_⟩:=hcc.at_ i c _ hi' hx
       exact⟨s1,_,sm,s2⟩)
   simp only[Ap,hvl]at hc1
   exact .value (by rw[AK,hrun];rfl) ⟨_,H,G',hr,hc1,hc2⟩
  ·cases hz
 ·cases hz
end
end Go.AI
namespace Go.AI
section
variable{P:Program}{F:Nat->Prop}{G:Gh}{w:World}{H:cj}{R:AV->cj->Prop}
def IF{k:IntKind}{i:Int}{y:Nat}{code:BoundsCode}(h0:0<=i)(h1:i<=y)(w:World):(Instr.sliceBound (.int k i) y code).run P w = .ok i.toNat w:=by
 simp only[Instr.sliceBound,asIntOf,AK,Ad,AZ,Bi]
 rw[iP ⟨h0,h1⟩]
inductive OptB:Option Value->Option Int->Prop where
 |none:OptB none none
 |some (k:IntKind) (i:Int):OptB (some (.int k i)) (some i)
def HF {isSlice:Bool} {len cap:Nat} {lo hi mx:Option Value} {l h m:Option Int} (hl:OptB lo l) (hh:OptB hi h) (hm:OptB mx m) (hx:m.isSome=true->h.isSome=true)
  (h0:0<=l.getD 0) (h1:l.getD 0<=h.getD len) (h2:h.getD len<=m.getD cap) (h3:m.getD cap<=cap) (w:World) :
  (Instr.sliceBounds isSlice len cap lo hi mx).run P w = .ok ((l.getD 0).toNat,(h.getD len).toNat,(m.getD cap).toNat) w:=by
 cases hm with
 | none =>
  cases hh with
  | none =>
   cases hl with
   |none=>simp[Instr.sliceBounds]
   |some k i =>
    simp only[BO,BH]at *
    simp[Instr.sliceBounds,IF h0 h1]
  | some kh ih =>
   simp only[BO,BH]at *
   have g:=IF (P:=P) (k:=kh) (i:=ih) (y:=cap) (code:=if isSlice then .sliceAcap else .sliceAlen) FR FR  w
   cases hl with
   |none=>simp[Instr.sliceBounds,g]
   |some k i =>
    simp only[BO]at *
    have g2:=IF (P:=P) (k:=k) (i:=i) (y:=ih.toNat) (code:=.sliceB) FR FR  w
    simp[Instr.sliceBounds,g,g2]
 | some km im =>
  cases hh with
  |none=>simp at hx
  | some kh ih =>
   simp only[BO]at *
   have g:=IF (P:=P) (k:=km) (i:=im) (y:=cap) (code:=if isSlice then .slice3Acap else .slice3Alen) FR FR  w
   have g1:=IF (P:=P) (k:=kh) (i:=ih) (y:=im.toNat) (code:=.slice3B) FR FR  w
   cases hl with
   |none=>simp[Instr.sliceBounds,g,g1]
   |some k i =>
    simp only[BO]at *
    have g2:=IF (P:=P) (k:=k) (i:=i) (y:=ih.toNat) (code:=.slice3C) FR FR  w
    simp[Instr.sliceBounds,g,g1,g2]
def VRel.stretch {own:Option Nat} {es:List AV} {b q cap n:Nat} (h:VRel G w (.sl own es) (.slice (some ⟨b,q,none⟩) es.length cap)) (hn : ∀ x∈es,x.cells.length=n) {l k m:Nat} (hlk:l<=k) (hk:k<=es.length) (hkm:k<=m) (hm:m<=cap)
  (own':Option Nat) (ho:∀x,own'=some x->x=n/\0<x) :
  VRel G w (.sl own' ((es.take k).drop l)) (.slice (some (if m=l then⟨b,q,none⟩else(⟨b,q,none⟩:Addr).add (l*n))) (k - l) (m - l)):=by
 have hlen:((es.take k).drop l).length=k - l:=Hy
 cases h with
 |slany =>
  have h1:k=0:=by simpa using hk
  have h2:m=0:=FR
  have h3:l=0:=FR
  subst h1;subst h2;subst h3
  simpa using VRel.slany own' ⟨b,q,none⟩
 | sl _ _ sz _ _ _ u hsz hown hl hmx hcs hus =>
  have hn':∀x∈(es.take k).drop l,x.cells.length=n:=λx hx=>hn x (Ce (DV hx))
  have hcat:∀(i:Nat) (c:AV),(HP ((es.take k).drop l))[i]? =some c->(HP es)[l*n+i]? =some c:=by
   intro i c hi
   have e1:es=es.take l++((es.take k).drop l++es.drop k):=by
    have:(es.take k).take l=es.take l:=by rw[C4,B6 hlk]
    rw[<- this,<- AE,A_,A_]
   have e2:(HP (es.take l)).length=l*n:=by
    rw[Gz (n:=n) λx hx=>hn x (Ce hx),BF,B6 FR]
   rw[e1,Kq,AN FR,e2,A4,Kq,AX (AC.1 hi).1]
   exact hi
  by_cases hml:m=l
  ·have hkl:k=l:=FR
   have hnil:(es.take k).drop l=[]:=List.eq_nil_of_length_eq_zero FR
   rw[iP hml,hnil,show k - l=([]:List AV).length by simp;omega]
   exact .sl own' [] n b q (m - l) u (λe he=>by simp at he) ho sm FR (λi c hi=>by simp[HP]at hi) (λi c hi=>by simp[HP]at hi)
  ·rw[iN hml,G7]
   have:=VRel.sl (G:=G) (w:=w) own' ((es.take k).drop l) n b (q+l*n) (m - l) (λi=>u (l*n+i)) hn' ho FR FR  (λi c hi=>by
     have:=hcs _ c (hcat i c hi)
     rw[<- Ay]at this
     exact this) (λi c hi=>hus _ c (hcat i c hi))
   rw[hlen]at this
   exact this
def Z7 {t e ob off len sz:Nat} {u:Value} {rest:List AV} {urest:List Value} {lo hi mx:Option Value} {l h:Option Int} (hc:CRel F G (.msl ob off len sz::rest) H (u::urest) w) (hu:P.underlying t=some (.slice e))
  (hl:OptB lo l) (hh:OptB hi h) (hm:OptB mx none)
  (h0:0<=l.getD 0) (h1:l.getD 0<=h.getD len) (h2:h.getD len<=len) (hs:sz=P.cellsOf e) (hz:∃i,P.info? e=some i) (h3:l.getD 0=0\/l.getD 0<len)
  (hr:R (.msl ob (off+(l.getD 0).toNat*sz) ((h.getD len).toNat - (l.getD 0).toNat) sz) H) :
  Fy P ((do let r<-Instr.sliceAt t u lo hi mx;pure (Next.value r):Sem Next).run P w) (Fi F G w R):=by
 have hrel:=hc.l.rel 0 _ _ rfl rfl
 obtain⟨i,hi'⟩:=hz
 have hsize:∀w,(sizeOf e).run P w = .ok (P.cellsOf e) w:=λw=>by simp[sizeOf,typeInfo,hi',BJ]
 cases hrel with
 | msl _ _ _ _ b cap hob hlc hmx hrow =>
  obtain⟨C,E,hrow,hfit⟩:=hrow
  have hb:=HF (P:=P) (isSlice:=true) (len:=len) (cap:=cap) hl hh hm (λh=>by cases h) h0 h1 (by simp only[BH];omega) sm w
  have hrun:(Instr.sliceAt t (.slice (some ⟨b,off,none⟩) len cap) lo hi mx).run P w = .ok (.slice (some ⟨b,off+(l.getD 0).toNat*sz,none⟩) ((h.getD len).toNat - (l.getD 0).toNat) (cap - (l.getD 0).toNat)) w:=by
   simp only[Instr.sliceAt,Instr.slice,AK,run_underlying hu,AZ,hb,hsize,BH,Ag]
   subst hs
   by_cases hcl:cap=(l.getD 0).toNat
   ·have e0:(l.getD 0).toNat=0:=FR
    rw[iP hcl,e0];simp
   ·rw[iN hcl]
    simp[G7]
  have hmul:cap*sz=(l.getD 0).toNat*sz+(cap - (l.getD 0).toNat)*sz:=by
   rw[<- Az];congr 1;omega
  exact .value (by rw[AK,hrun];rfl) (Fi.plain hc hr (.msl _ _ _ _ b _ hob FR FR  ⟨C,E,hrow,FR⟩) (FX rfl rfl _))
def fE{t e:Nat}{own:Option Nat}{es:List AV}{u:Value}{rest:List AV}{urest:List Value}{lo hi mx:Option Value}{l h m:Option Int}(hc:CRel F G (.sl own es::rest) H (u::urest) w)(hu:P.underlying t=some (.slice e))
  (hl:OptB lo l)(hh:OptB hi h)(hm:OptB mx m)(hx:m.isSome=true->h.isSome=true)
  (h0:0<=l.getD 0)(h1:l.getD 0<=h.getD es.length)(h2:h.getD es.length<=es.length)(hn:∀x∈es,x.cells.length=P.cellsOf e)
  (hr:match (generalizing:=false) m with
   |none=>R (.sl (if h.getD es.length=es.length then own else none) ((es.take (h.getD es.length).toNat).drop (l.getD 0).toNat)) H
   |some m=>m=h.getD es.length/\0<P.cellsOf e/\R (.sl (some (P.cellsOf e)) ((es.take (h.getD es.length).toNat).drop (l.getD 0).toNat)) H) (hz:∃i,P.info? e=some i) :
  Fy P ((do let r<-Instr.sliceAt t u lo hi mx;pure (Next.value r):Sem Next).run P w) (Fi F G w R):=by
 have hrel:=hc.l.rel 0 _ _ rfl rfl
 have htok:=hc.l.tok 0 _ _ rfl rfl
 obtain⟨i,hi'⟩:=hz
 have hsize:∀w,(sizeOf e).run P w = .ok (P.cellsOf e) w:=λw=>by simp[sizeOf,typeInfo,hi',BJ]
 have hown:∀x,own=some x->es≠[]->x=P.cellsOf e/\0<x:=by
  intro x hx hne
  cases hrel with
  |slnil=>exact absurd rfl hne
  |slany=>exact absurd rfl hne
  |sl _ _ sz b q cap f hsz hown' _ _ _ _ =>
   obtain⟨y,ys,rfl⟩:=List.exists_cons_of_ne_nil hne
   exact⟨by rw[(hown' x hx).1,<- hsz y sm,hn y sm],(hown' x hx).2⟩
 have run:∀(a:Option Addr) (cap:Nat),es.length<=cap->(Instr.sliceAt t (.slice a es.length cap) lo hi mx).run P w =
   .ok (.slice (if(m.getD cap).toNat=(l.getD 0).toNat then a else a.map (·.add ((l.getD 0).toNat*P.cellsOf e))) ((h.getD es.length).toNat - (l.getD 0).toNat) ((m.getD cap).toNat - (l.getD 0).toNat)) w:=by
  intro a cap hcap
  have hmc:h.getD es.length<=m.getD cap/\m.getD cap<=cap:=by
   cases m with
   |none=>simp only[BH];omega
   |some mm=>simp only[BO]at *;omega
  have hb:=HF (P:=P) (isSlice:=true) (len:=es.length) (cap:=cap) hl hh hm hx h0 h1 hmc.1 hmc.2 w
  simp only[Instr.sliceAt,Instr.slice,AK,run_underlying hu,AZ,hb,hsize]
  rfl
 cases hrel with
 | slnil own =>
  have e1:(h.getD (([]:List AV).length:Int)).toNat=0:=by simp at h1 h2 ⊢;omega
  have e2:(l.getD 0).toNat=0:=by simp at h1 h2;omega
  have e3:(m.getD ((0:Nat):Int)).toNat=0:=by
   cases m with
   |none=>rfl
   |some mm=>simp at hr h1 h2 ⊢;omega
  have hrun:=run none 0 sm
  simp only[e2,e3,AJ]at hrun
  have hrun':(Instr.sliceAt t (.slice none 0 0) lo hi mx).run P w = .ok (.slice none 0 0) w:=by
   have e4:(h.getD 0).toNat=0:=by simpa using e1
   simpa [e4]using hrun
  refine .value (u:=.slice none 0 0) (w':=w) (by rw[AK,hrun'];rfl) ?_
  cases m with
  |none=>exact Fi.plain hc hr (by simp;exact .slnil _) (by simp[Gs,LG,AV.flat,AV.cells,ID,Value.cells,tok])
  |some mm=>exact Fi.plain hc hr.2.2 (by simp;exact .slnil _) (by simp[Gs,LG,AV.flat,AV.cells,ID,Value.cells,tok])
 | slany own a =>
  have e1:(h.getD (([]:List AV).length:Int)).toNat=0:=by simp at h1 h2 ⊢;omega
  have e2:(l.getD 0).toNat=0:=by simp at h1 h2;omega
  have e3:(m.getD ((0:Nat):Int)).toNat=0:=by
   cases m with
   |none=>rfl
   |some mm=>simp at hr h1 h2 ⊢;omega
  have hrun:=run (some a) 0 sm
  simp only[e2,e3,AJ]at hrun
  have hrun':(Instr.sliceAt t (.slice (some a) 0 0) lo hi mx).run P w = .ok (.slice (some a) 0 0) w:=by
   have e4:(h.getD 0).toNat=0:=by simpa using e1
   simpa [e4]using hrun
  refine .value (u:=.slice (some a) 0 0) (w':=w) (by rw[AK,hrun'];rfl) ?_
  cases m with
  |none=>exact Fi.plain hc hr (by simp;exact .slany _ _) (by by_cases hh:h.getD 0=0<;>cases own<;>simp[hh,Gs,LG,AV.flat,AV.cells,ID,Value.cells,tok])
  |some mm=>exact Fi.plain hc hr.2.2 (by simp;exact .slany _ _) (by simp[Gs,LG,AV.flat,AV.cells,ID,Value.cells,tok])
 | sl own es sz b q cap f hsz hown' hle hmx hcs hus =>
  have hrel:VRel G w (.sl own es) (.slice (some ⟨b,q,none⟩) es.length cap):=.sl own es sz b q cap f hsz hown' hle hmx hcs hus
  have hrun:=run (some ⟨b,q,none⟩) cap hle
  have hmc:h.getD es.length<=m.getD cap/\m.getD cap<=cap:=by
   cases m with
   |none=>simp only[BH];omega
   |some mm=>simp only[BO]at *;omega
  have eaddr:(if(m.getD cap).toNat=(l.getD 0).toNat then some (⟨b,q,none⟩:Addr)else(some (⟨b,q,none⟩:Addr)).map (·.add ((l.getD 0).toNat*P.cellsOf e))) =
    some (if(m.getD cap).toNat=(l.getD 0).toNat then⟨b,q,none⟩else(⟨b,q,none⟩:Addr).add ((l.getD 0).toNat*P.cellsOf e)):=by split<;>rfl
  rw[eaddr]at hrun
  have hst:∀(own':Option Nat),(∀x,own'=some x->x=P.cellsOf e/\0<x)->_:=λown' ho =>
   hrel.stretch hn (l:=(l.getD 0).toNat) (k:=(h.getD es.length).toNat) (m:=(m.getD cap).toNat) FR FR  FR FR  own' ho
  refine .value (by rw[AK,hrun];rfl) ?_
  cases m with
  |some mm =>
   obtain⟨hmm,hp0,hr⟩:=hr
   have hv:=hst (some (P.cellsOf e)) λx hx=>by cases hx;exact⟨rfl,hp0⟩
   refine Fi.plain hc hr hv ?_
   simp only[BO,hmm]at hv ⊢
   simp[Gs,LG,AV.flat,AV.cells,ID,Value.cells,tok]
  | none =>
   simp only at hr
   by_cases hfull:h.getD es.length=es.length
   ·rw [iP hfull] at hr
    by_cases hes:es=[]
    ·subst hes
     have e0:(l.getD 0).toNat=0:=by simp at h1 h2;omega
     have e1:(h.getD (([]:List AV).length:Int)).toNat=0:=by rw[hfull];rfl
     simp only[e0,e1,BH,List.take_nil,List.drop_nil,Nat.sub_zero,Nat.zero_mul]at hr ⊢
     have:(if(cap:Int).toNat=0 then(⟨b,q,none⟩:Addr)else(⟨b,q,none⟩:Addr).add 0)=⟨b,q,none⟩:=by split<;>simp[Addr.add]
     rw[this]
     exact Fi.same (hc.get (i:=0) rfl sm) hr
    ·have hv:=hst own λx hx=>hown x hx hes
     refine Fi.same (hc.one hv (λp hp=>?_) λbb=>?_) hr
     ·rw[Qh _ _ _ _ _ _ rfl,Ab]at hp
      subst hp
      cases own with
      |none=>trivial
      | some n =>
       have hn':n=P.cellsOf e:=(hown n rfl hes).1
       subst hn'
       intro hlt
       simp only[BH,hfull,Ag]at hlt ⊢
       obtain⟨t1,t2,C,E,t3,t4⟩:=htok (.sl (some (P.cellsOf e)) es,.slice (some ⟨b,q,none⟩) es.length cap) (by rw[Qh _ _ _ _ _ _ rfl];simp) FR
       have hcl:¬cap=(l.getD 0).toNat:=FR
       rw[iN hcl,G7]
       refine⟨t1, ?_,C,E,t3, ?_⟩
       ·show G.kind b=_
        rw[t2]
        have hL:(l.getD 0).toNat<=es.length:=FR
        have:=BE (P.cellsOf e) hL
        rw[D7]
        congr 1
        show q+_=q+_+_
        omega
       ·show q+_+_<=_
        have hL:(l.getD 0).toNat<=cap:=FR
        have h5:=BE (P.cellsOf e) hL
        rw[D7]
        have h4:q+cap*P.cellsOf e<=C.size:=t4
        omega
     ·rw [Fc]
      have hle2:CQ bb (Gs (AV.sl own ((es.take (h.getD es.length).toNat).drop (l.getD 0).toNat)) (Value.slice (some (if((none:Option Int).getD cap).toNat=(l.getD 0).toNat then⟨b,q,none⟩else(⟨b,q,none⟩:Addr).add ((l.getD 0).toNat*P.cellsOf e))) ((h.getD es.length).toNat - (l.getD 0).toNat) (((none:Option Int).getD cap).toNat - (l.getD 0).toNat)))
        <= CQ bb (Gs (AV.sl own es) (Value.slice (some ⟨b,q,none⟩) es.length cap)):=by
       cases own with
       |none=>rw[FX rfl rfl,FX rfl rfl];exact AT _
       | some n =>
        simp only[Gs,LG,AV.flat,AV.cells,ID,Value.cells,B4,Dx,B5,Ca,tok,BH,hfull,Ag]
        by_cases hlt:es.length<cap
        ·have hcl:¬cap=(l.getD 0).toNat:=FR
         rw[iP hlt,iN hcl,iP FR,G7]
         exact AT _
        ·rw[iN hlt,iN FR]
         exact AT _
      omega
   ·rw[iN hfull]at hr
    exact Fi.plain hc hr (hst none λx hx=>by cases hx) (FX rfl rfl _)
end
end Go.AI
