/- Abstract values for Go data,and what it means that the model's value and memory are described by one. No program in sight. -/
import Derived.WalkKit
import Derived.Orders
import Derived.OrdersIn
import Derived.TacticsIn
import Derived.RangeFuncIn
import Derived.RangeFuncRecord
import Derived.MapKept
import Derived.DeepKeys5
import Derived.Lib.LazyBuf
import Derived.KernelRfl
set_option linter.unusedSimpArgs false
set_option linter.unusedVariables false
set_option linter.defProp false
open Array renaming ext'->Bm,getElem?_eq_getElem->Aj,getElem?_eq_some_iff->Ao,getElem?_toList->Ae,getElem_toList->Dz,length_toList->Br,range->CU
open Bool renaming and_eq_true->AQ
open Int renaming not_lt->Dt,toNat_natCast->Aa
open List renaming all_cons->Al,all_eq_true->An,append_assoc->AE,cons_append->AR,count->CT,count_append->Cf,count_eq_zero->Dw,count_le_length->Dv,count_nil->Bd,count_pos_iff->Cy,drop_drop->A8,drop_eq_getElem_cons->BL,ext_getElem?->A5,filterMap_cons->B5,filterMap_eq_nil_iff->B3,filterMap_nil->Cd,flatMap_append->Dy,flatMap_cons->BJ,getElem?_append_left->AT,getElem?_append_right->AM,getElem?_cons_succ->B0,getElem?_cons_zero->A7,getElem?_drop->A1,getElem?_eq_getElem->AL,getElem?_eq_none->Az,getElem?_eq_some_iff->AC,getElem?_map->Ab,getElem?_of_mem->Af,getElem?_set->Aw,getElem?_take->Ak,getElem?_toArray->Bf,getElem?_zip_eq_some->Bc,length_append->AF,length_cons->AD,length_drop->Ce,length_map->Aq,length_nil->AH,length_set->Ap,length_singleton->Bt,length_take->BC,map_append->Ar,map_cons->AS,map_nil->Ah,mem_filterMap->CK,mem_map->AP,mem_of_getElem?->AB,mem_of_mem_drop->DV,mem_of_mem_take->Cg,mem_singleton->Ac,of_mem_zip->Cc,range->Am,range'->DY,range_succ->B8,replicate->A4,size_toArray->BV,sum_append->B9,sum_cons->B1,sum_nil->CS,take_append->D1,take_append_drop->A9,take_of_length_le->Bs,take_succ_eq_append_getElem->Dx,take_take->C1,zipIdx_cons->DX,zip_append->Cz,zip_cons_cons->B4,zip_nil_right->Du
open Nat renaming add_assoc->Ag,add_comm->CC,add_mul->A2,add_sub_cancel_left->A0,add_zero->BB,le_of_not_lt->CA,le_refl->AU,le_trans->AK,lt_irrefl->Bq,lt_of_lt_of_le->BR,min_eq_left->B6,mul_le_mul_right->BF,ne_of_lt->CB,sub_mul->D4,sub_self->AO,zero_add->AY
open Option renaming bind_some->Bb,eq_none_or_eq_some->DT,getD_none->BG,getD_some->BQ,isSome_iff_exists->Bg,map_some->BU
open Go.Program renaming built->D3,cellsOf->BI
open Go.Result renaming andThen_ok->AZ
open Go.Sem renaming run_bind->AJ,run_ite->Be,run_pure->Ad
namespace Go.AI
def kr{p:Prop}(h:p:=by kernel_rfl):p:=h
def FO{p:Prop}(h:p:=by omega):p:=h
def dk{p:Prop}(h:p:=by decide +kernel):p:=h
def sm{p:Prop}(h:p:=by simp):p:=h
def dc{p:Prop}(h:p:=by decide):p:=h
def dF(h:Decidable False):@decide False h=false:=decide_false h
def dT(h:Decidable True):@decide True h=true:=decide_true h
def iN{c:Prop}{h:Decidable c}(hnc : ¬c){α:Sort _}{t e:α}:(@ite α c h t e)=e:=if_neg hnc
def iP{c:Prop}{h:Decidable c}(hc:c){α:Sort _}{t e:α}:(@ite α c h t e)=t:=if_pos hc
def tV:True:=trivial
end Go.AI
namespace Go.AI
structure LoopRec where
 tag:Nat
 ps:Array Tmp
 assign:Code
 body:Code
inductive AV where
 | undef
 | int (k:IntKind) (n:Int)
 | bool (b:Bool)
 | str (s:ByteArray)
 | nilp
 | ptr (o off:Nat)
 | cptr (cs:List AV) (off:Nat)
 | sl (own:Option Nat) (es:List AV)
 | msl (o off len sz:Nat)
 | mslc (o off len sz cap:Nat)
 | fn (f:Fn) (first captured:List AV)
 | nilf
 | mapr (o:Nat)
 | nilm
 | it (o:Nat)
 | yld (o:Nat) (L:LoopRec)
 | ifc (t:TypeId) (a:AV)
 | nili
 | agg (cs:List AV)
 | tup (vs:List AV)
 deriving Inhabited
def AV.cells:AV->List AV
 | .agg cs=>cs
 | v=>[v]
def AV.flat:AV->List AV
 | .tup vs=>vs.flatMap AV.cells
 | v=>v.cells
def AV.scalar:AV->Bool
 | .undef | .agg _ | .tup _=>false
 | _=>true
def AV.isVal:AV->Bool
 | .undef | .tup _=>false
 | _=>true
def borrow1:AV->AV
 | .sl _ es => .sl none es
 | v=>v
def borrow0:AV->AV
 | .agg cs => .agg (cs.map borrow1)
 | .sl _ es => .sl none es
 | v=>v
def AV.borrow:AV->AV
 | .tup vs => .tup (vs.map borrow0)
 | v=>borrow0 v
inductive Kind where
 | imm
 | obj
 | buf (p:Nat)
 | map
 | iter
 | loop (L:LoopRec)
def Kind.sp:Kind->Bool
 | .map | .iter | .loop _=>true
 | _=>false
structure Gh where
 obs:List Nat
 kind:Nat->Kind
def Gh.safe(G:Gh)(b o:Nat):Prop :=
 match G.kind b with
 | .imm=>True
 | .buf p=>o<p
 | _=>False
def HU(es:List AV):List AV:=es.flatMap AV.cells
inductive VRel (G:Gh) (w:World):AV->Value->Prop where
 | undef (v:Value):VRel G w .undef v
 | int (k:IntKind) (n:Int):VRel G w (.int k n) (.int k n)
 | bool (b:Bool):VRel G w (.bool b) (.bool b)
 | str (s:ByteArray):VRel G w (.str s) (.string s)
 | nilp:VRel G w .nilp (.pointer none)
 | ptr (o off b:Nat) (h:G.obs[o]? =some b) (hc : ∃ (C:Array Value) (E:TypeId),w.heap[b]? =some (.cells C E (0,0))):VRel G w (.ptr o off) (.pointer (some ⟨b,off,none⟩))
 | cptr (cs:List AV) (off b q:Nat) (u:Nat->Value)
   (h : ∀ (i:Nat) (c:AV),cs[i]? =some c->c.scalar=true/\G.safe b (q+i)/\w.cell? ⟨b,q+i,none⟩=some (u i))
   (hu : ∀ (i:Nat) (c:AV),cs[i]? =some c->VRel G w c (u i)):VRel G w (.cptr cs off) (.pointer (some ⟨b,q+off,none⟩))
 | slnil (own:Option Nat):VRel G w (.sl own []) (.slice none 0 0)
 | slany (own:Option Nat) (a:Addr):VRel G w (.sl own []) (.slice (some a) 0 0)
 | sl (own:Option Nat) (es:List AV) (sz b q cap:Nat) (u:Nat->Value)
   (hsz : ∀ e∈es,e.cells.length=sz) (hown : ∀ n,own=some n->n=sz/\0<n) (hl:es.length<=cap) (hm:cap<=maxLen)
   (h : ∀ (i:Nat) (c:AV),(HU es)[i]? =some c->c.scalar=true/\G.safe b (q+i)/\w.cell? ⟨b,q+i,none⟩=some (u i))
   (hu : ∀ (i:Nat) (c:AV),(HU es)[i]? =some c->VRel G w c (u i)):VRel G w (.sl own es) (.slice (some ⟨b,q,none⟩) es.length cap)
 | msl (o off len sz b cap:Nat) (h:G.obs[o]? =some b) (hl:len<=cap) (hm:cap<=maxLen)
   (hc : ∃ (C:Array Value) (E:TypeId),w.heap[b]? =some (.cells C E (0,0))/\off+cap*sz<=C.size):VRel G w (.msl o off len sz) (.slice (some ⟨b,off,none⟩) len cap)
 | mslc (o off len sz cap b:Nat) (h:G.obs[o]? =some b) (hl:len<=cap) (hm:cap<=maxLen)
   (hc : ∃ (C:Array Value) (E:TypeId),w.heap[b]? =some (.cells C E (0,0))/\off+cap*sz<=C.size):VRel G w (.mslc o off len sz cap) (.slice (some ⟨b,off,none⟩) len cap)
 | fn (f:Fn) (first captured:List AV) (fi ca:Array Value) (h1:first.length=fi.size) (h2:captured.length=ca.size)
   (h3 : ∀ (i:Nat) (c:AV) (v:Value),first[i]? =some c->fi[i]? =some v->VRel G w c v) (h4 : ∀ (i:Nat) (c:AV) (v:Value),captured[i]? =some c->ca[i]? =some v->VRel G w c v) :
   VRel G w (.fn f first captured) (.func f fi ca)
 | nilf:VRel G w .nilf .nilFunc
 | mapr (o b:Nat) (h:G.obs[o]? =some b) (hb:b<w.heap.size) (hk:G.kind b = .map):VRel G w (.mapr o) (.map (some b))
 | nilm:VRel G w .nilm (.map none)
 | it (o b:Nat) (h:G.obs[o]? =some b) (hb:b<w.heap.size) (hk:G.kind b = .iter):VRel G w (.it o) (.pointer (some ⟨b,0,none⟩))
 | yld (o b:Nat) (L:LoopRec) (h:G.obs[o]? =some b) (hb:b<w.heap.size) (hk:G.kind b = .loop L):VRel G w (.yld o L) (.func (.yield b) #[] #[])
 | ifc (t:TypeId) (a:AV) (v:Value) (hs:a.isVal=true) (h:VRel G w a v):VRel G w (.ifc t a) (.iface t v)
 | nili:VRel G w .nili .nilIface
 | agg (cs:List AV) (vs:Array Value) (hl:cs.length=vs.size) (hs : ∀ c∈cs,c.scalar=true)
   (h : ∀ (i:Nat) (c:AV) (v:Value),cs[i]? =some c->vs[i]? =some v->VRel G w c v):VRel G w (.agg cs) (.agg vs)
 | tup (cs:List AV) (vs:Array Value) (hl:cs.length=vs.size) (hs : ∀ c∈cs,c.isVal=true)
   (h : ∀ (i:Nat) (c:AV) (v:Value),cs[i]? =some c->vs[i]? =some v->VRel G w c v):VRel G w (.tup cs) (.tuple vs)
structure Keeps (G:Gh) (w:World) (G':Gh) (w':World):Prop where
 obs : ∀ (o b:Nat),G.obs[o]? =some b->G'.obs[o]? =some b
 shape : ∀ (b:Nat) (C:Array Value) (E:TypeId),w.heap[b]? =some (.cells C E (0,0)) -> ∃ C':Array Value,w'.heap[b]? =some (.cells C' E (0,0))/\C'.size=C.size
 sp : ∀ b:Nat,b<w.heap.size->(G.kind b).sp=true->b<w'.heap.size/\G'.kind b=G.kind b
 safe : ∀ (b o:Nat) (v:Value),G.safe b o->w.cell? ⟨b,o,none⟩=some v->G'.safe b o/\w'.cell? ⟨b,o,none⟩=some v
def Keeps.refl(G:Gh)(w:World):Keeps G w G w:=⟨λ_ _ h=>h,λ_ C _ h=>⟨C,h,rfl⟩,λ_ h _=>⟨h,rfl⟩,λ_ _ _ h1 h2=>⟨h1,h2⟩⟩
def Keeps.trans{G G' G'':Gh}{w w' w'':World}(h:Keeps G w G' w')(h':Keeps G' w' G'' w''):Keeps G w G'' w'' :=
 ⟨λo b hb=>h'.obs o b (h.obs o b hb),λb C E hb=>by
   obtain ⟨C',h1,h2⟩:=h.shape b C E hb
   obtain ⟨C'',h3,h4⟩:=h'.shape b C' E h1
   exact ⟨C'',h3,h4.trans h2⟩,λb hb hs =>
   let ⟨h1,h2⟩:=h.sp b hb hs
   let ⟨h3,h4⟩:=h'.sp b h1 (by rw [h2];exact hs)
   ⟨h3,h4.trans h2⟩,λb o v h1 h2=>let ⟨a,c⟩:=h.safe b o v h1 h2;h'.safe b o v a c⟩
def VRel.keep{G G':Gh}{w w':World}(hk:Keeps G w G' w'){a:AV}{v:Value}(h:VRel G w a v):VRel G' w' a v:=by
 induction h with
 | undef v=>exact .undef v
 | int k n=>exact .int k n
 | bool b=>exact .bool b
 | str s=>exact .str s
 | nilp=>exact .nilp
 | ptr o off b h hc =>
  obtain ⟨C,E,h1⟩:=hc
  obtain ⟨C',h2,_⟩:=hk.shape b C E h1
  exact .ptr o off b (hk.obs o b h) ⟨C',E,h2⟩
 | cptr cs off b q u h hu ih=>exact .cptr cs off b q u (λi c hi=>⟨(h i c hi).1,hk.safe b _ _ (h i c hi).2.1 (h i c hi).2.2⟩) ih
 | slnil own=>exact .slnil own
 | slany own a=>exact .slany _ a
 | sl own es sz b q cap u hsz hown hl hm h hu ih =>
  exact .sl own es sz b q cap u hsz hown hl hm (λi c hi=>⟨(h i c hi).1,hk.safe b _ _ (h i c hi).2.1 (h i c hi).2.2⟩) ih
 | msl o off len sz b cap h hl hm hc =>
  obtain ⟨C,E,h1,h2⟩:=hc
  obtain ⟨C',h3,h4⟩:=hk.shape b C E h1
  exact .msl o off len sz b cap (hk.obs o b h) hl hm ⟨C',E,h3,FO⟩
 | mslc o off len sz cap b h hl hm hc =>
  obtain ⟨C,E,h1,h2⟩:=hc
  obtain ⟨C',h3,h4⟩:=hk.shape b C E h1
  exact .mslc o off len sz cap b (hk.obs o b h) hl hm ⟨C',E,h3,FO⟩
 | fn f first captured fi ca h1 h2 h3 h4 ih1 ih2=>exact .fn f first captured fi ca h1 h2 ih1 ih2
 | nilf=>exact .nilf
 | mapr o b h hb h2=>obtain ⟨h3,h4⟩:=hk.sp b hb (by rw [h2];rfl);exact .mapr o b (hk.obs o b h) h3 (h4.trans h2)
 | nilm=>exact .nilm
 | it o b h hb h2=>obtain ⟨h3,h4⟩:=hk.sp b hb (by rw [h2];rfl);exact .it o b (hk.obs o b h) h3 (h4.trans h2)
 | yld o b L h hb h2=>obtain ⟨h3,h4⟩:=hk.sp b hb (by rw [h2];rfl);exact .yld o b L (hk.obs o b h) h3 (h4.trans h2)
 | ifc t a v hs h ih=>exact .ifc t a v hs ih
 | nili=>exact .nili
 | agg cs vs hl hs h ih=>exact .agg cs vs hl hs ih
 | tup cs vs hl hs h ih=>exact .tup cs vs hl hs ih
def VRel.borrow1{G:Gh}{w:World}{a:AV}{v:Value}(h:VRel G w a v):VRel G w (borrow1 a) v:=by
 cases h with
 | slnil own=>exact .slnil none
 | slany own a=>exact .slany _ a
 | sl own es sz b q cap u hsz hown hl hm h hu=>exact .sl none es sz b q cap u hsz (λn hn=>by cases hn) hl hm h hu
 | cptr cs off b q u h hu=>exact .cptr cs off b q u h hu
 | _=>constructor<;>assumption
def GT(a:AV):(Go.AI.borrow1 a).scalar=a.scalar:=by cases a<;>rfl
def VRel.borrow0{G:Gh}{w:World}{a:AV}{v:Value}(h:VRel G w a v):VRel G w (borrow0 a) v:=by
 cases h with
 | slnil own=>exact .slnil none
 | slany own a=>exact .slany _ a
 | sl own es sz b q cap u hsz hown hl hm h hu=>exact .sl none es sz b q cap u hsz (λn hn=>by cases hn) hl hm h hu
 | agg cs vs hl hs h =>
  refine .agg _ vs (by simpa using hl) (λc hc=>?_) (λi c u hi hv=>?_)
  ·obtain ⟨d,hd,rfl⟩:=AP.1 hc
   rw [GT];exact hs d hd
  ·rw [Ab] at hi
   cases hci:cs[i]? with
   | none=>rw [hci] at hi;cases hi
   | some d=>rw [hci] at hi;cases hi;exact (h i d u hci hv).borrow1
 | cptr cs off b q u h hu=>exact .cptr cs off b q u h hu
 | _=>constructor<;>assumption
def Xf(a:AV):(Go.AI.borrow0 a).isVal=a.isVal:=by cases a<;>rfl
def VRel.borrow{G:Gh}{w:World}{a:AV}{v:Value}(h:VRel G w a v):VRel G w a.borrow v:=by
 cases h with
 | tup cs vs hl hs h =>
  refine .tup _ vs (by simpa using hl) (λc hc=>?_) (λi c u hi hv=>?_)
  ·obtain ⟨d,hd,rfl⟩:=AP.1 hc
   rw [Xf];exact hs d hd
  ·rw [Ab] at hi
   cases hci:cs[i]? with
   | none=>rw [hci] at hi;cases hi
   | some d=>rw [hci] at hi;cases hi;exact (h i d u hci hv).borrow0
 | slnil own=>exact (VRel.slnil own).borrow0
 | slany own a=>exact .slany _ a
 | sl own es sz b q cap u hsz hown hl hm h hu=>exact (VRel.sl own es sz b q cap u hsz hown hl hm h hu).borrow0
 | agg cs vs hl hs h=>exact (VRel.agg cs vs hl hs h).borrow0
 | cptr cs off b q u h hu=>exact .cptr cs off b q u h hu
 | _=>constructor<;>assumption
def QY:AV->Option Value
 | .str s=>some (.string s)
 | .int k n=>some (.int k n)
 | .bool b=>some (.bool b)
 | _=>none
def HK:List ByteArray:=[⟨#[97,110,100]⟩,⟨#[97,110,121]⟩,⟨#[97,116]⟩,⟨#[98,97,99,107]⟩,⟨#[98,111,120]⟩,⟨#[98,117,114,115,116]⟩,⟨#[98,121]⟩,⟨#[99,97,112,97,99,105,116,121]⟩,⟨#[99,101,105,108,105,110,103]⟩,⟨#[99,104,101,99,107]⟩,⟨#[99,111,110,116,114,97,99,116]⟩,⟨#[99,111,117,110,116]⟩,⟨#[100,101,109,97,110,100]⟩,⟨#[100,114,111,112]⟩,⟨#[101,97,99,104]⟩,⟨#[101,100,103,101]⟩,⟨#[101,110,116,114,105,101,115]⟩,⟨#[102,97,108,115,101]⟩,⟨#[102,105,101,108,100]⟩,⟨#[102,108,111,111,114]⟩,⟨#[102,114,111,109]⟩,⟨#[105,100]⟩,⟨#[105,110]⟩,⟨#[105,110,110,101,114]⟩,⟨#[105,110,116,111]⟩,⟨#[108,105,110,107]⟩,⟨#[110,101,116,119,111,114,107]⟩,⟨#[110,111,100,101]⟩,⟨#[110,111,116]⟩,⟨#[111,112,101,110]⟩,⟨#[111,114]⟩,⟨#[112,97,116,104]⟩,⟨#[112,111,114,116]⟩,⟨#[112,114,105,99,101]⟩,⟨#[114,111,117,116,101]⟩,⟨#[114,117,108,101,115]⟩,⟨#[115,116,97,103,101]⟩,⟨#[116,97,107,101]⟩,⟨#[116,101,110,97,110,116]⟩,⟨#[116,104,101,110]⟩,⟨#[116,105,109,101]⟩,⟨#[116,111]⟩,⟨#[116,111,107,101,110]⟩,⟨#[116,114,97,110,115,108,97,116,101]⟩,⟨#[116,114,117,101]⟩,⟨#[118,105,97]⟩,⟨#[119,105,100,116,104]⟩,⟨#[119,105,114,101]⟩,⟨#[119,105,116,104,105,110]⟩]
def glb:List (Nat×List AV):=[(0,HK.map AV.str)]
def yh(G:Gh)(w:World):Prop:=∀ (g:Nat) (cs:List AV),glb.lookup g=some cs -> ∀ (i:Nat) (c:AV),cs[i]? =some c->G.safe g i /\ ∃ u,QY c=some u/\w.cell? ⟨g,i,none⟩=some u
def yh.keep{G G':Gh}{w w':World}(h:yh G w)(hk:Keeps G w G' w'):yh G' w':=λg cs hg i c hc =>
 let ⟨h1,u,h2,h3⟩:=h g cs hg i c hc
 let ⟨a,b⟩:=hk.safe g i u h1 h3
 ⟨a,u,h2,b⟩
def yh.same{G G':Gh}{w:World}(h:yh G w)(hk:G'.kind=G.kind):yh G' w:=λg cs hg i c hc =>
 let ⟨h1,u,h2,h3⟩:=h g cs hg i c hc
 ⟨by unfold Gh.safe at *;rw [hk];exact h1,u,h2,h3⟩
def yh.vrel{G:Gh}{w:World}(h:yh G w){g:Nat}{cs:List AV}(hg:glb.lookup g=some cs):VRel G w (.cptr cs 0) (.pointer (some ⟨g,0,none⟩)):=by
 refine .cptr cs 0 g 0 (λi=>((cs[i]?).bind QY).getD Go.undef) (λi c hc=>?_) (λi c hc=>?_)
 ·obtain ⟨h1,u,h2,h3⟩:=h g cs hg i c hc
  refine ⟨?_,by rw [AY];exact h1,by rw [AY,hc];simp [h2,h3]⟩
  cases c<;>first|rfl|cases h2
 ·obtain ⟨h1,u,h2,h3⟩:=h g cs hg i c hc
  rw [hc]
  simp only [Bb,h2,BQ]
  cases c<;>first|(cases h2;constructor)|cases h2
abbrev FP:=List (Option (List AV))
def IA:Value->List Value
 | .tuple vs=>vs.toList.flatMap λv=>v.cells.toList
 | v=>v.cells.toList
def LE(a:AV)(v:Value):List (AV×Value):=a.flat.zip (IA v)
def tok(p:AV×Value):Option Nat :=
 match p with
 | (.sl (some _) _,.slice (some a) len cap)=>if len<cap then some a.block else none
 | _=>none
def GD(F:Nat->Prop)(G:Gh)(w:World)(p:AV×Value):Prop :=
 match p with
 | (.sl (some n) _,.slice (some a) len cap)=>len<cap -> ¬ F a.block/\G.kind a.block = .buf (a.off+len*n) /\
   ∃ (C:Array Value) (E:TypeId),w.heap[a.block]? =some (.cells C E (0,0))/\a.off+cap*n<=C.size
 | _=>True
def Gs(a:AV)(v:Value):List Nat:=(LE a v).filterMap tok
def HC(b:Nat)(vs:List AV)(us:List Value):Nat:=((vs.zip us).map λp=>(Gs p.1 p.2).count b).sum
structure LRel (F:Nat->Prop) (G:Gh) (vs:List AV) (us:List Value) (w:World):Prop where
 len:vs.length=us.length
 rel : ∀ (i:Nat) (a:AV) (u:Value),vs[i]? =some a->us[i]? =some u->VRel G w a u
 tok : ∀ (i:Nat) (a:AV) (u:Value),vs[i]? =some a->us[i]? =some u -> ∀ p∈LE a u,GD F G w p
def q8(F:Nat->Prop)(G:Gh)(w:World)(cs:List AV)(b:Nat):Prop :=
 ∃ (C:Array Value) (E:TypeId),w.heap[b]? =some (.cells C E (0,0))/\cs.length<=C.size /\
  ∀ (i:Nat) (c:AV) (v:Value),cs[i]? =some c->C[i]? =some v->c.scalar=true/\VRel G w c v/\GD F G w (c,v)
def J1(es:List (AV×AV)):List AV:=[.tup (es.flatMap λp=>[p.1,p.2])]
def AHc(G:Gh)(w:World)(cs:List AV)(b:Nat):Prop :=
 ∃ (es:List (AV×AV)) (ms:Array MapEntry) (clock:Nat),w.heap[b]? =some (.map ms clock)/\cs=J1 es/\es.length=ms.size /\
  (∀ (i:Nat) (p:AV×AV) (m:MapEntry),es[i]? =some p->ms[i]? =some m->p.1.isVal=true/\p.2.isVal=true/\VRel G w p.1 m.key/\VRel G w p.2 m.val) /\
  clock=ms.size /\ ∀ (i:Nat) (m:MapEntry),ms[i]? =some m->m.born=i
def V2(s:ByteArray)(pos:Int):List AV:=[.str s,.int .i64 pos]
def Tg(o since:Nat)(seen:List Nat):List AV:=[.mapr o,.int .i64 (since:Int),.tup (seen.map λ(i:Nat)=>AV.int .i64 (i:Int))]
def cA(G:Gh)(w:World)(cs:List AV)(b:Nat):Prop :=
 (∃ s pos,w.heap[b]? =some (.stringIter s pos)/\cs=V2 s pos) \/
 (w.heap[b]? =some (.mapIter none 0 #[] 0)/\cs=[.nilm]) \/
 ∃ (o mb since:Nat) (seen:List Nat),w.heap[b]? =some (.mapIter (some mb) since seen.toArray since)/\cs=Tg o since seen/\VRel G w (.mapr o) (.map (some mb))
def MV:LoopState->Option Code->Option Int
 | .ready,none=>some 0
 | .busy,_=>some (-1)
 | .done,some .ret=>some (-2)
 | .done,some (.exit k)=>some (k+1)
 | .exhausted,_=>some (-3)
 | _,_=>none
def G8(st:Int)(vals:List AV):List AV:=[.tup [.int .i64 st],.tup vals]
def ADl(G:Gh)(w:World)(L:LoopRec)(cs:List AV)(b:Nat):Prop :=
 ∃ (s:LoopState) (pend:Option Code) (tmps:Array Value) (D:FuncId×Nat) (st:Int) (vals:List AV),
  w.heap[b]? =some (.loop { state:=s,pending:=pend,fn:=D.1,tmps:=tmps,params:=L.ps,assign:=L.assign,body:=L.body,defers:=D.2 }) /\
  MV s pend=some st/\cs=G8 st vals/\vals.length=tmps.size/\(∀ (i:Nat) (a:AV) (u:Value),vals[i]? =some a->tmps[i]? =some u->a.borrow=a/\VRel G w a u)
structure ORel (F:Nat->Prop) (G:Gh) (w:World) (cs:List AV) (b:Nat):Prop where
 own : ¬ F b
 is:match G.kind b with
  | .obj=>q8 F G w cs b
  | .map=>AHc G w cs b
  | .iter=>cA G w cs b
  | .loop L=>ADl G w L cs b
  | _=>False
def ORel.of_cells{F:Nat->Prop}{G:Gh}{w:World}{cs:List AV}{b:Nat}(h:ORel F G w cs b){C:Array Value}{E:TypeId}{fr:Nat×Nat}(hb:w.heap[b]? =some (.cells C E fr)):
  G.kind b = .obj/\q8 F G w cs b:=by
 have hi:=h.is
 split at hi
 ·rename_i hk;exact ⟨hk,hi⟩
 ·obtain ⟨es,ms,cl,h1,_⟩:=hi
  rw [hb] at h1;cases h1
 ·rcases hi with ⟨s,pos,h1,_⟩|⟨h1,_⟩|⟨_,_,_,_,h1,_⟩<;>(rw [hb] at h1;cases h1)
 ·obtain ⟨s,p,t,D,st,vals,h1,_⟩:=hi
  rw [hb] at h1;cases h1
 ·exact hi.elim
def ORel.kinds{F:Nat->Prop}{G:Gh}{w:World}{cs:List AV}{b:Nat}(h:ORel F G w cs b):G.kind b = .obj\/(G.kind b).sp=true:=by
 have hi:=h.is
 split at hi
 ·rename_i hk;exact .inl hk
 ·rename_i hk;exact .inr (by rw [hk];rfl)
 ·rename_i hk;exact .inr (by rw [hk];rfl)
 ·rename_i L hk;exact .inr (by rw [hk];rfl)
 ·exact hi.elim
def ORel.no_buf{F:Nat->Prop}{G:Gh}{w:World}{cs:List AV}{b q:Nat}(h:ORel F G w cs b)(hq:G.kind b = .buf q):False:=by
 rcases h.kinds with hk|hk
 ·rw [hk] at hq;cases hq
 ·rw [hq] at hk;cases hk
def ORel.lt{F:Nat->Prop}{G:Gh}{w:World}{cs:List AV}{b:Nat}(h:ORel F G w cs b):b<w.heap.size:=by
 have hi:=h.is
 split at hi
 ·obtain ⟨C,E,h1,_⟩:=hi;exact (Ao.1 h1).1
 ·obtain ⟨es,ms,cl,h1,_⟩:=hi;exact (Ao.1 h1).1
 ·rcases hi with ⟨s,pos,h1,_⟩|⟨h1,_⟩|⟨_,_,_,_,h1,_⟩<;>exact (Ao.1 h1).1
 ·obtain ⟨s,p,t,D,st,vals,h1,_⟩:=hi;exact (Ao.1 h1).1
 ·exact hi.elim
def ORel.keep {F F':Nat->Prop} {G G':Gh} {w w':World} {cs:List AV} {b:Nat} (h:ORel F G w cs b) (hk:Keeps G w G' w') (hF : ¬ F' b) (hkd:G'.kind b=G.kind b) (hw:w'.heap[b]? =w.heap[b]?)
  (hr : ∀ (C:Array Value) (E:TypeId),w.heap[b]? =some (.cells C E (0,0)) -> ∀ (i:Nat) (c:AV) (v:Value),cs[i]? =some c->C[i]? =some v->GD F G w (c,v)->GD F' G' w' (c,v)):ORel F' G' w' cs b:=by
 refine ⟨hF, ?_⟩
 have hi:=h.is
 rw [hkd]
 split at hi
 ·rename_i hk2
  try rw [hk2]
  obtain ⟨C,E,g1,g2,g3⟩:=hi
  exact ⟨C,E,hw.trans g1,g2,λi c v hc hv=>⟨(g3 i c v hc hv).1,(g3 i c v hc hv).2.1.keep hk,hr C E g1 i c v hc hv (g3 i c v hc hv).2.2⟩⟩
 ·rename_i hk2
  try rw [hk2]
  obtain ⟨es,ms,cl,g1,g2,g3,g4,g5⟩:=hi
  exact ⟨es,ms,cl,hw.trans g1,g2,g3,λi p m hp hm=>let ⟨a1,a2,a3,a4⟩:=g4 i p m hp hm;⟨a1,a2,a3.keep hk,a4.keep hk⟩,g5⟩
 ·rename_i hk2
  try rw [hk2]
  rcases hi with ⟨s,pos,h1,h2⟩|⟨h1,h2⟩|⟨o,mb,si,se,h1,h2,h3⟩
  ·exact .inl ⟨s,pos,hw.trans h1,h2⟩
  ·exact .inr (.inl ⟨hw.trans h1,h2⟩)
  ·exact .inr (.inr ⟨o,mb,si,se,hw.trans h1,h2,h3.keep hk⟩)
 ·rename_i L hk2
  try rw [hk2]
  obtain ⟨s,pe,t,D,st,vals,g1,g2,g3,g4,g5⟩:=hi
  exact ⟨s,pe,t,D,st,vals,hw.trans g1,g2,g3,g4,λi a u ha hu=>⟨(g5 i a u ha hu).1,(g5 i a u ha hu).2.keep hk⟩⟩
 ·exact hi.elim
def ORel.change {F F':Nat->Prop} {G:Gh} {w:World} {cs:List AV} {b:Nat} (h:ORel F G w cs b) (hF : ¬ F' b)
  (hr : ∀ (C:Array Value) (E:TypeId),w.heap[b]? =some (.cells C E (0,0)) -> ∀ (i:Nat) (c:AV) (v:Value),cs[i]? =some c->C[i]? =some v->GD F G w (c,v)->GD F' G w (c,v)):ORel F' G w cs b:=by
 refine ⟨hF, ?_⟩
 have hi:=h.is
 split at hi
 ·rename_i hk
  try rw [hk]
  obtain ⟨C,E,g1,g2,g3⟩:=hi
  exact ⟨C,E,g1,g2,λi c v hc hv=>⟨(g3 i c v hc hv).1,(g3 i c v hc hv).2.1,hr C E g1 i c v hc hv (g3 i c v hc hv).2.2⟩⟩
 ·rename_i hk;first|exact hi|(rw [hk];exact hi)
 ·rename_i hk;first|exact hi|(rw [hk];exact hi)
 ·rename_i L hk;first|exact hi|(rw [hk];exact hi)
 ·exact hi.elim
def ORel.row_of{F:Nat->Prop}{G:Gh}{w:World}{cs:List AV}{b:Nat}(hF : ¬ F b)(hk:G.kind b = .obj)(h:q8 F G w cs b):ORel F G w cs b:=⟨hF,by rw [hk];exact h⟩
def Gp(G:Gh)(H:FP)(w:World)(o:Nat):List Nat :=
 match H[o]?,G.obs[o]? with
 | some (some cs),some b =>
  match w.heap[b]? with
  | some (.cells C _ _)=>(cs.zip C.toList).filterMap tok
  | _=>[]
 | _,_=>[]
def IJ(G:Gh)(H:FP)(w:World)(b:Nat):Nat:=((Am H.length).map λo=>(Gp G H w o).count b).sum
structure HRel (F:Nat->Prop) (G:Gh) (H:FP) (w:World):Prop where
 len:G.obs.length=H.length
 obj : ∀ (o:Nat) (cs:List AV) (b:Nat),H[o]? =some (some cs)->G.obs[o]? =some b->ORel F G w cs b
 inj : ∀ (o o':Nat) (cs cs':List AV) (b:Nat),H[o]? =some (some cs)->H[o']? =some (some cs')->G.obs[o]? =some b->G.obs[o']? =some b->o=o'
 fore : ∀ b,F b->b<w.heap.size
 glob:yh G w
structure CRel (F:Nat->Prop) (G:Gh) (vs:List AV) (H:FP) (us:List Value) (w:World):Prop where
 l:LRel F G vs us w
 h:HRel F G H w
 cnt : ∀ b,HC b vs us+IJ G H w b<=1
structure Ext (F:Nat->Prop) (G:Gh) (w:World) (G':Gh) (w':World):Prop where
 size:w.heap.size<=w'.heap.size
 keeps:Keeps G w G' w'
 kind : ∀ b,F b->G'.kind b=G.kind b
 cells : ∀ b,F b->w'.heap[b]? =w.heap[b]?
 io:w'.os=w.os/\w'.tape=w.tape/\w'.output=w.output
def Ext.refl(F:Nat->Prop)(G:Gh)(w:World):Ext F G w G w:=⟨AU _,.refl G w,λ_ _=>rfl,λ_ _=>rfl,⟨rfl,rfl,rfl⟩⟩
def Ext.trans{F:Nat->Prop}{G G' G'':Gh}{w w' w'':World}(h:Ext F G w G' w')(h':Ext F G' w' G'' w''):Ext F G w G'' w'' :=
 ⟨AK h.size h'.size,h.keeps.trans h'.keeps,λb hb=>(h'.kind b hb).trans (h.kind b hb),λb hb=>(h'.cells b hb).trans (h.cells b hb),⟨h'.io.1.trans h.io.1,h'.io.2.1.trans h.io.2.1,h'.io.2.2.trans h.io.2.2⟩⟩
def Ext.mono{F F':Nat->Prop}{G G':Gh}{w w':World}(h:Ext F G w G' w')(hf : ∀ b,F' b->F b):Ext F' G w G' w' :=
 ⟨h.size,h.keeps,λb hb=>h.kind b (hf b hb),λb hb=>h.cells b (hf b hb),h.io⟩
def GS(b:Nat)(us:List Value):HC b [] us=0:=by simp [HC]
def FY(b:Nat)(a:AV)(vs:List AV)(u:Value)(us:List Value):HC b (a::vs) (u::us)=(Gs a u).count b+HC b vs us:=by
 simp [HC]
def GW(b:Nat): ∀ (vs:List AV) (us:List Value) (vs':List AV) (us':List Value),vs.length=us.length ->
  HC b (vs++vs') (us++us')=HC b vs us+HC b vs' us'
 | [],[],vs',us',_=>by simp [GS]
 | [],_::_,_,_,h=>by simp at h
 | _::_,[],_,_,h=>by simp at h
 | a::vs,u::us,vs',us',h=>by
  rw [AR,AR,FY,FY,GW b vs us vs' us' (by simpa using h)]
  omega
def Uz(b:Nat): ∀ (vs:List AV) (us:List Value) (d:Nat) (a' a:AV) (u' u:Value),vs[d]? =some a->us[d]? =some u ->
  HC b (vs.set d a') (us.set d u')+(Gs a u).count b=HC b vs us+(Gs a' u').count b
 | [],_,d,a',a,u',u,h,_=>by simp at h
 | _::_,[],d,a',a,u',u,_,h=>by simp at h
 | x::vs,y::us,0,a',a,u',u,h,h'=>by
  simp only [A7,Option.some.injEq] at h h'
  subst h;subst h'
  simp only [List.set_cons_zero,FY];omega
 | x::vs,y::us,d+1,a',a,u',u,h,h'=>by
  simp only [B0] at h h'
  have:=Uz b vs us d a' a u' u h h'
  simp only [List.set_cons_succ,FY];omega
def Ma(b:Nat): ∀ (vs:List AV) (us:List Value) (i:Nat) (a:AV) (u:Value),vs[i]? =some a->us[i]? =some u ->
  (Gs a u).count b<=HC b vs us
 | [],_,_,_,_,h,_=>by simp at h
 | _::_,[],_,_,_,_,h=>by simp at h
 | x::vs,y::us,0,a,u,h,h'=>by
  simp only [A7,Option.some.injEq] at h h'
  subst h;subst h'
  rw [FY];omega
 | x::vs,y::us,i+1,a,u,h,h'=>by
  simp only [B0] at h h'
  have:=Ma b vs us i a u h h'
  rw [FY];omega
def zI{b:Nat}{a:AV}{u:Value}(h:0<(Gs a u).count b): ∃ p∈LE a u,tok p=some b:=by
 obtain ⟨p,hp,hb⟩:=CK.1 (Cy.1 h)
 exact ⟨p,hp,hb⟩
def RF{b:Nat}: ∀ (vs:List AV) (us:List Value),0<HC b vs us -> ∃ (i:Nat) (a:AV) (u:Value),vs[i]? =some a/\us[i]? =some u /\ ∃ p∈LE a u,tok p=some b
 | [],_,h=>by simp [HC] at h
 | _::_,[],h=>by simp [HC] at h
 | x::vs,y::us,h=>by
  rw [FY] at h
  by_cases h0:0<(Gs x y).count b
  ·exact ⟨0,x,y,rfl,rfl,zI h0⟩
  ·obtain ⟨i,a,u,h1,h2,h3⟩:=RF (b:=b) vs us FO
   exact ⟨i+1,a,u,by simpa using h1,by simpa using h2,h3⟩
def GD.of_tok{F:Nat->Prop}{G:Gh}{w:World}{p:AV×Value}{b:Nat}(h:GD F G w p)(ht:tok p=some b):
  ¬ F b/\(∃ q,G.kind b = .buf q) /\ ∃ (C:Array Value) (E:TypeId),w.heap[b]? =some (.cells C E (0,0)):=by
 obtain ⟨a,v⟩:=p
 unfold tok at ht
 split at ht
 ·rename_i n es ad len cap heq
  cases heq
  split at ht
  ·rename_i hlt
   cases ht
   obtain ⟨h1,h2,C,E,h3,_⟩:=h hlt
   exact ⟨h1,⟨_,h2⟩,C,E,h3⟩
  ·cases ht
 ·cases ht
def F7{F:Nat->Prop}{G:Gh}{w:World}{p:AV×Value}(ht:tok p=none):GD F G w p:=by
 obtain ⟨a,v⟩:=p
 unfold GD
 split
 ·rename_i n es ad len cap heq
  cases heq
  intro hlt
  simp [tok,hlt] at ht
 ·trivial
def GD.keep {F F':Nat->Prop} {G G':Gh} {w w':World} {p:AV×Value} (h:GD F G w p)
  (hk : ∀ b,tok p=some b -> ¬ F' b/\G'.kind b=G.kind b/\w'.heap[b]? =w.heap[b]?):GD F' G' w' p:=by
 obtain ⟨a,v⟩:=p
 unfold GD at h ⊢
 split
 ·rename_i n es ad len cap heq
  cases heq
  intro hlt
  obtain ⟨h1,h2,C,E,h3,h4⟩:=h hlt
  obtain ⟨k1,k2,k3⟩:=hk ad.block (by simp [tok,hlt])
  exact ⟨k1,k2.trans h2,C,E,k3.trans h3,h4⟩
 ·trivial
def GD.weaken{F F':Nat->Prop}{G:Gh}{w:World}{p:AV×Value}(h:GD F' G w p)(hf : ∀ b,F b->F' b):GD F G w p :=
 (DT (tok p)).elim F7 λ⟨_,hb⟩=>h.keep λb' hb'=>by
  rw [hb] at hb';cases hb'
  exact ⟨λhF=>(h.of_tok hb).1 (hf _ hF),rfl,rfl⟩
def LRel.weaken{F F':Nat->Prop}{G:Gh}{w:World}{vs:List AV}{us:List Value}(h:LRel F' G vs us w)(hf : ∀ b,F b->F' b):LRel F G vs us w :=
 ⟨h.len,h.rel,λi a u h1 h2 p hp=>(h.tok i a u h1 h2 p hp).weaken hf⟩
def LRel.nil(F:Nat->Prop)(G:Gh)(w:World):LRel F G [] [] w:=⟨rfl,λi a u h _=>by simp at h,λi a u h _=>by simp at h⟩
def LRel.cons{F:Nat->Prop}{G:Gh}{w:World}{a:AV}{u:Value}{vs:List AV}{us:List Value}(h:VRel G w a u)(ht : ∀ p∈LE a u,GD F G w p)(hl:LRel F G vs us w):
  LRel F G (a::vs) (u::us) w:=by
 refine ⟨by simp [hl.len],λi x y h1 h2=>?_,λi x y h1 h2=>?_⟩
 ·cases i with
  | zero=>simp at h1 h2;subst h1;subst h2;exact h
  | succ i=>exact hl.rel i x y (by simpa using h1) (by simpa using h2)
 ·cases i with
  | zero=>simp at h1 h2;subst h1;subst h2;exact ht
  | succ i=>exact hl.tok i x y (by simpa using h1) (by simpa using h2)
def LRel.uncons{F:Nat->Prop}{G:Gh}{w:World}{a:AV}{u:Value}{vs:List AV}{us:List Value}(h:LRel F G (a::vs) (u::us) w):
  VRel G w a u/\(∀ p∈LE a u,GD F G w p)/\LRel F G vs us w :=
 ⟨h.rel 0 a u rfl rfl,h.tok 0 a u rfl rfl,by simpa using h.len,λi x y h1 h2=>h.rel (i+1) x y (by simpa using h1) (by simpa using h2),
  λi x y h1 h2=>h.tok (i+1) x y (by simpa using h1) (by simpa using h2)⟩
def LRel.append{F:Nat->Prop}{G:Gh}{w:World}{A B:List AV}{ua ub:List Value}(ha:LRel F G A ua w)(hb:LRel F G B ub w):LRel F G (A++B) (ua++ub) w:=by
 have hl:=ha.len
 refine ⟨by simp [ha.len,hb.len],λi x y h1 h2=>?_,λi x y h1 h2=>?_⟩<;>by_cases hi:i<A.length
 ·rw [AT hi] at h1;rw [AT FO] at h2;exact ha.rel i x y h1 h2
 ·rw [AM FO] at h1;rw [AM FO] at h2
  exact hb.rel (i - A.length) x y h1 (by rw [hl];exact h2)
 ·rw [AT hi] at h1;rw [AT FO] at h2;exact ha.tok i x y h1 h2
 ·rw [AM FO] at h1;rw [AM FO] at h2
  exact hb.tok (i - A.length) x y h1 (by rw [hl];exact h2)
def LRel.split{F:Nat->Prop}{G:Gh}{w:World}{A B:List AV}{ua ub:List Value}(h:LRel F G (A++B) (ua++ub) w)(hl:A.length=ua.length):
  LRel F G A ua w/\LRel F G B ub w:=by
 have hlen:=h.len
 simp only [AF] at hlen
 refine ⟨⟨hl,λi x y h1 h2=>?_,λi x y h1 h2=>?_⟩,⟨FO,λi x y h1 h2=>?_,λi x y h1 h2=>?_⟩⟩
 ·have:=(AC.1 h1).1
  exact h.rel i x y (by rw [AT this];exact h1) (by rw [AT FO];exact h2)
 ·have:=(AC.1 h1).1
  exact h.tok i x y (by rw [AT this];exact h1) (by rw [AT FO];exact h2)
 ·exact h.rel (A.length+i) x y (by rw [AM FO,A0];exact h1) (by rw [AM FO,hl,A0];exact h2)
 ·exact h.tok (A.length+i) x y (by rw [AM FO,A0];exact h1) (by rw [AM FO,hl,A0];exact h2)
def LRel.tok_of_pos{F:Nat->Prop}{G:Gh}{w:World}{vs:List AV}{us:List Value}(h:LRel F G vs us w){b:Nat}(hb:0<HC b vs us):
  ¬ F b/\(∃ q,G.kind b = .buf q) /\ ∃ (C:Array Value) (E:TypeId),w.heap[b]? =some (.cells C E (0,0)):=by
 obtain ⟨i,a,u,h1,h2,p,hp,ht⟩:=RF vs us hb
 exact (h.tok i a u h1 h2 p hp).of_tok ht
def MG{b:Nat}{vs:List AV}{us:List Value}{i:Nat}{a:AV}{u:Value}(h1:vs[i]? =some a)(h2:us[i]? =some u){p:AV×Value}(hp:p∈LE a u)(ht:tok p=some b):
  0<HC b vs us:=by
 have h3:0<(Gs a u).count b:=Cy.2 (CK.2 ⟨p,hp,ht⟩)
 have:=Ma b vs us i a u h1 h2
 omega
def LRel.ext{F F':Nat->Prop}{G G':Gh}{w w':World}{vs:List AV}{us:List Value}(h:LRel F G vs us w)(he:Ext F' G w G' w')(hf : ∀ b,0<HC b vs us->F' b):LRel F G' vs us w' :=
 ⟨h.len,λi a u h1 h2=>(h.rel i a u h1 h2).keep he.keeps,λi a u h1 h2 p hp=>(h.tok i a u h1 h2 p hp).keep λb hb =>
  have hF:=hf b (MG h1 h2 hp hb)
  ⟨((h.tok i a u h1 h2 p hp).of_tok hb).1,he.kind b hF,he.cells b hF⟩⟩
def sP{G:Gh}{H:FP}{w:World}{o b:Nat}(h:0<(Gp G H w o).count b):
  ∃ (cs:List AV) (b0:Nat) (C:Array Value) (E:TypeId) (fr:Nat×Nat) (i:Nat) (c:AV) (v:Value),H[o]? =some (some cs)/\G.obs[o]? =some b0/\w.heap[b0]? =some (.cells C E fr) /\
   cs[i]? =some c/\C[i]? =some v/\tok (c,v)=some b:=by
 have hm:=Cy.1 h
 unfold Gp at hm
 split at hm
 ·rename_i cs b0 h1 h2
  split at hm
  ·rename_i C E fr h3
   obtain ⟨p,hp,ht⟩:=CK.1 hm
   obtain ⟨i,hi⟩:=Af hp
   rw [Bc] at hi
   exact ⟨cs,b0,C,E,fr,i,p.1,p.2,h1,h2,h3,hi.1,by simpa using hi.2,ht⟩
  ·cases hm
 ·cases hm
def eQ {G:Gh} {H:FP} {w:World} {o b:Nat} {cs:List AV} {b0:Nat} {C:Array Value} {E:TypeId} {fr:Nat×Nat} {i:Nat} {c:AV} {v:Value}
  (h1:H[o]? =some (some cs)) (h2:G.obs[o]? =some b0) (h3:w.heap[b0]? =some (.cells C E fr)) (h4:cs[i]? =some c) (h5:C[i]? =some v) (h6:tok (c,v)=some b) :
  0<(Gp G H w o).count b:=by
 refine Cy.2 ?_
 unfold Gp
 simp only [h1,h2,h3]
 refine CK.2 ⟨(c,v),AB (i:=i) ?_,h6⟩
 rw [Bc]
 exact ⟨h4,by simpa using h5⟩
def XK{n:Nat}{f:Nat->Nat}(h:0<((Am n).map f).sum): ∃ o,o<n/\0<f o:=by
 induction n with
 | zero=>simp at h
 | succ n ih =>
  rw [B8,Ar,B9] at h
  simp only [AS,Ah,B1,CS,BB] at h
  by_cases h0:0<f n
  ·exact ⟨n,FO,h0⟩
  ·obtain ⟨o,ho,hf⟩:=ih FO
   exact ⟨o,FO,hf⟩
def aA{n:Nat}{f:Nat->Nat}{o:Nat}(h:o<n):f o<=((Am n).map f).sum:=by
 induction n with
 | zero=>omega
 | succ n ih =>
  rw [B8,Ar,B9]
  simp only [AS,Ah,B1,CS,BB]
  by_cases h0:o=n
  ·subst h0;omega
  ·have:=ih FO ; omega
def JT{n:Nat}{f g:Nat->Nat}(h : ∀ o,o<n->f o=g o):((Am n).map f).sum=((Am n).map g).sum:=by
 congr 1
 exact List.map_congr_left λo ho=>h o (List.mem_range.1 ho)
def JK{n:Nat}{f g:Nat->Nat}{d:Nat}(hd:d<n)(h : ∀ o,o<n->o≠d->f o=g o):((Am n).map f).sum+g d=((Am n).map g).sum+f d:=by
 induction n with
 | zero=>omega
 | succ n ih =>
  simp only [B8,Ar,B9,AS,Ah,B1,CS,BB]
  by_cases h0:d=n
  ·subst h0
   have:((Am d).map f).sum=((Am d).map g).sum:=JT λo ho=>h o FO FO
   omega
  ·have:=ih FO (λo ho hne=>h o FO hne)
   have:=h n FO (λe=>h0 e.symm)
   omega
def ABW{G:Gh}{H:FP}{w:World}{b:Nat}(h:0<IJ G H w b): ∃ o,o<H.length/\0<(Gp G H w o).count b:=XK h
def qM{G:Gh}{H:FP}{w:World}{b o:Nat}(ho:o<H.length):(Gp G H w o).count b<=IJ G H w b:=aA (f:=λo=>(Gp G H w o).count b) ho
def HRel.tok_of_pos{F:Nat->Prop}{G:Gh}{H:FP}{w:World}(h:HRel F G H w){b:Nat}(hb:0<IJ G H w b):
  ¬ F b/\(∃ q,G.kind b = .buf q) /\ ∃ (C:Array Value) (E:TypeId),w.heap[b]? =some (.cells C E (0,0)):=by
 obtain ⟨o,_,hp⟩:=ABW hb
 obtain ⟨cs,b0,C,E,fr,i,c,v,h1,h2,h3,h4,h5,h6⟩:=sP hp
 obtain ⟨C',E',g1,_,g3⟩:=((h.obj o cs b0 h1 h2).of_cells h3).2
 rw [h3] at g1
 cases g1
 exact (g3 i c v h4 h5).2.2.of_tok h6
def CRel.split{F:Nat->Prop}{G:Gh}{A B:List AV}{H:FP}{ua ub:List Value}{w:World}(h:CRel F G (A++B) H (ua++ub) w)(hl:A.length=ua.length):
  CRel (λb=>F b\/0<HC b B ub) G A H ua w:=by
 obtain ⟨ha,hb⟩:=h.l.split hl
 have hc : ∀ b,HC b A ua+HC b B ub+IJ G H w b<=1:=λb=>by have:=h.cnt b;rw [GW b A ua B ub hl] at this;exact this
 refine ⟨⟨hl,ha.rel,λi a u h1 h2 p hp=>?_⟩,⟨h.h.len,λo cs b h1 h2=>?_,h.h.inj,λb hF=>?_,h.h.glob⟩,λb=>by have:=hc b;omega⟩
 ·refine (DT (tok p)).elim F7 λ⟨b,hb'⟩=>(ha.tok i a u h1 h2 p hp).keep λb' ht=>⟨?_,rfl,rfl⟩
  have:=MG h1 h2 hp ht
  have:=hc b'
  rintro (hF|hF)
  ·exact ((ha.tok i a u h1 h2 p hp).of_tok ht).1 hF
  ·omega
 ·have ho:=h.h.obj o cs b h1 h2
  refine ho.change ?_ λC E g1 i c v hc1 hv1 hto=>?_
  ·rintro (hF|hF)
   ·exact ho.own hF
   ·obtain ⟨_,⟨q,hq⟩,_⟩:=hb.tok_of_pos hF
    exact ho.no_buf hq
  ·refine hto.keep λb' ht=>⟨?_,rfl,rfl⟩
   have h5:=eQ h1 h2 g1 hc1 hv1 ht
   have h6:=qM (G:=G) (w:=w) (b:=b') (AC.1 h1).1
   have:=hc b'
   rintro (hF|hF)
   ·exact (hto.of_tok ht).1 hF
   ·omega
 ·rcases hF with hF|hF
  ·exact h.h.fore b hF
  ·obtain ⟨_,_,C,E,hh⟩:=hb.tok_of_pos hF
   exact (Ao.1 hh).1
def HRel.weaken{F F':Nat->Prop}{G:Gh}{H:FP}{w:World}(h:HRel F' G H w)(hf : ∀ b,F b->F' b):HRel F G H w:=by
 refine ⟨h.len,λo cs b h1 h2=>?_,h.inj,λb hb=>h.fore b (hf b hb),h.glob⟩
 have ho:=h.obj o cs b h1 h2
 exact ho.change (λhF=>ho.own (hf b hF)) λ_ _ _ _ _ _ _ _ hto=>hto.weaken hf
def TJ {F F':Nat->Prop} {G G':Gh} {B vs:List AV} {H':FP} {ub us:List Value} {w w':World} (hb:LRel F G B ub w) (hcb : ∀ b,HC b B ub<=1)
  (hF : ∀ b,F b->F' b) (hFB : ∀ b,0<HC b B ub->F' b) (he:Ext F' G w G' w') (h:CRel F' G' vs H' us w'):CRel F G' (vs++B) H' (us++ub) w':=by
 refine ⟨(h.l.weaken hF).append (hb.ext he hFB),h.h.weaken hF,λb=>?_⟩
 rw [GW b vs us B ub h.l.len]
 by_cases h0:0<HC b B ub
 ·have hFb:=hFB b h0
  have h1 : ¬ 0<HC b vs us:=λhp=>(h.l.tok_of_pos hp).1 hFb
  have h2 : ¬ 0<IJ G' H' w' b:=λhp=>(h.h.tok_of_pos hp).1 hFb
  have:=hcb b
  omega
 ·have:=h.cnt b;omega
abbrev Fs:=List (Tmp×AV)
def Fq:Fs->Tmp->AV
 | [],_ => .undef
 | (k,v)::r,t=>if k=t then v else Fq r t
def Gk(n:Nat)(env:Fs):List AV:=(Am n).map (Fq env)
def GE:AV->Bool
 | .sl (some _) _=>true
 | _=>false
def AV.owned(a:AV):Bool:=a.flat.any GE
def const1:Value->AV
 | .int k n => .int k n
 | .bool b => .bool b
 | .string s => .str s
 | .pointer none => .nilp
 | .slice none 0 0 => .sl none []
 | .nilFunc => .nilf
 | .map none => .nilm
 | .nilIface => .nili
 | _ => .undef
def Rn(own:Option Nat):Value->AV
 | .slice none 0 0 => .sl own []
 | .agg cs=>if (cs.toList.map const1).all AV.scalar then .agg (cs.toList.map const1) else .undef
 | v=>const1 v
def Si(P:Program):Option TypeId->Option Nat
 | some t=>match P.underlying t with
  | some (.slice e)=>some (P.cellsOf e)
  | _=>none
 | none=>none
def G7(P:Program)(ty:Option TypeId)(env:Fs):Operand->AV
 | .tmp t=>Fq env t
 | .const v=>Rn (Si P ty) v
 | .global g=>match glb.lookup g with
  | some cs => .cptr cs 0
  | none => .undef
 | .func f => .fn (.func f) [] []
def NB(P:Program)(ty:Option TypeId)(take:Bool)(x:Operand)(env:Fs):AV×Fs :=
 match take with
 | true=>(G7 P ty env x,match (G7 P ty env x).owned,x with
  | true,.tmp t=>(t,(Fq env t).borrow)::env
  | _,_=>env)
 | false=>((G7 P ty env x).borrow,env)
def ON(P:Program)(ty:Option TypeId)(take:Bool):List Operand->Fs->List AV×Fs
 | [],env=>([],env)
 | x::xs,env=>((NB P ty take x env).1::(ON P ty take xs (NB P ty take x env).2).1,(ON P ty take xs (NB P ty take x env).2).2)
def HT(n:Nat)(env:Fs):(Gk n env).length=n:=by simp [Gk]
def IH{n t:Nat}(env:Fs)(h:t<n):(Gk n env)[t]? =some (Fq env t):=by simp [Gk,h]
def Sw{n t:Nat}(env:Fs)(v:AV)(h:t<n):Gk n ((t,v)::env)=(Gk n env).set t v:=by
 apply A5
 intro i
 by_cases hi:i<n
 ·rw [IH _ hi,Aw,HT]
  by_cases ht:t=i
  ·subst ht;simp [Fq,h]
  ·simp [Fq,ht,IH _ hi]
 ·rw [Az (by rw [HT];omega),Az (by simp [HT];omega)]
def Gc(a:AV)(v:Value):tok (borrow1 a,v)=none:=by cases a<;>rfl
def QC(a:AV):(borrow0 a).cells=a.cells.map borrow1:=by cases a<;>rfl
def gh(a:AV):a.borrow.flat=a.flat.map borrow1:=by
 cases a with
 | tup vs =>
  simp only [AV.borrow,AV.flat,List.flatMap_map,List.map_flatMap]
  congr 1
  funext v
  exact QC v
 | _=>rfl
def MF{a:AV}{v:Value}(h : ∀ c∈a.flat,∀ u,tok (c,u)=none):Gs a v=[]:=by
 unfold Gs
 rw [B3]
 intro p hp
 have:=(Cc (show (p.1,p.2)∈a.flat.zip (IA v) from hp)).1
 exact h p.1 this p.2
def Gb(a:AV)(v:Value):Gs a.borrow v=[]:=MF λc hc u=>by
 rw [gh] at hc
 obtain ⟨d,_,rfl⟩:=AP.1 hc
 exact Gc d u
def Lp{c:AV}(h:GE c=false)(u:Value):tok (c,u)=none:=by
 cases c with
 | sl own es=>cases own with
  | none=>rfl
  | some n=>cases h
 | _=>rfl
def GM{a:AV}(h:a.owned=false)(v:Value):Gs a v=[]:=MF λc hc u=>by
 refine Lp ?_ u
 have:=List.any_eq_false.1 h c hc
 simpa using this
def Ff{a:AV}{v:Value}(h:Gs a v=[])(F:Nat->Prop)(G:Gh)(w:World): ∀ p∈LE a v,GD F G w p:=λp hp =>
 F7 (B3.1 h p hp)
def VRel.const1(G:Gh)(w:World)(v:Value):VRel G w (const1 v) v:=by
 unfold Go.AI.const1
 split<;>first|exact .int _ _|exact .bool _|exact .str _|exact .nilp|exact .slnil _|exact .nilf|exact .nilm|exact .nili|exact .undef _
def Mb(v:Value):GE (const1 v)=false:=by
 unfold Go.AI.const1
 split<;>rfl
def VRel.const(G:Gh)(w:World)(own:Option Nat)(v:Value):VRel G w (Rn own v) v:=by
 unfold Rn
 split
 ·exact .slnil _
 ·rename_i cs
  split
  ·rename_i hs
   refine .agg _ cs sm (An.1 hs) (λi c u hi hu=>?_)
   rw [Ab] at hi
   simp only [Ae,hu,BU,Option.some.injEq] at hi
   subst hi
   exact VRel.const1 G w u
  ·exact .undef _
 ·exact VRel.const1 G w v
def Uy(own:Option Nat)(v:Value):Gs (Rn own v) v=[]:=by
 unfold Rn
 split
 ·simp [Gs,LE,AV.flat,AV.cells,IA,Value.cells,tok]
 ·split
  ·refine MF λc hc u=>?_
   simp only [AV.flat,AV.cells] at hc
   obtain ⟨d,_,rfl⟩:=AP.1 hc
   exact Lp (Mb d) u
  ·exact MF λc hc u=>by simp only [AV.flat,AV.cells,Ac] at hc;subst hc;rfl
 ·refine MF λc hc u=>?_
  rename_i h1 h2
  have hc':c=const1 v:=by
   revert hc
   unfold const1
   split<;>simp [AV.flat,AV.cells]
  subst hc'
  exact Lp (Mb v) u
def Hc(v:Value):Gs .undef v=[]:=MF λc hc u=>by simp only [AV.flat,AV.cells,Ac] at hc;subst hc;rfl
def RD(f:Fn)(a b:List AV)(v:Value):Gs (.fn f a b) v=[]:=MF λc hc u=>by simp only [AV.flat,AV.cells,Ac] at hc;subst hc;rfl
def CRel.insert {F:Nat->Prop} {G:Gh} {pre L L':List AV} {H:FP} {upre tm:List Value} {w:World} {v:AV} {u:Value} (h:CRel F G (pre++L) H (upre++tm) w) (hp:pre.length=upre.length)
  (hv:VRel G w v u) (ht : ∀ p∈LE v u,GD F G w p) (hl:LRel F G L' tm w) (hc : ∀ b,(Gs v u).count b+HC b L' tm<=HC b L tm) :
  CRel F G (pre++(v::L')) H (upre++(u::tm)) w:=by
 refine ⟨(h.l.split hp).1.append (.cons hv ht hl),h.h,λb=>?_⟩
 have h1:=h.cnt b
 have h2:=hc b
 rw [GW b pre upre _ _ hp] at h1 ⊢
 rw [FY]
 omega
def LRel.set {F:Nat->Prop} {G:Gh} {w:World} {vs:List AV} {us:List Value} (h:LRel F G vs us w) {t:Nat} {v:AV} {u:Value} (hu:us[t]? =some u) (hv:VRel G w v u)
  (ht : ∀ p∈LE v u,GD F G w p):LRel F G (vs.set t v) us w:=by
 refine ⟨by simp [h.len],λi a x h1 h2=>?_,λi a x h1 h2=>?_⟩<;>rw [Aw] at h1<;>split at h1
 ·rename_i hti
  subst hti
  split at h1
  ·cases h1;rw [hu] at h2;cases h2;exact hv
  ·cases h1
 ·exact h.rel i a x h1 h2
 ·rename_i hti
  subst hti
  split at h1
  ·cases h1;rw [hu] at h2;cases h2;exact ht
  ·cases h1
 ·exact h.tok i a x h1 h2
def dH{us:List Value}{t:Nat}{u:Value}(h:us[t]? =some u):us.set t u=us:=by
 apply A5
 intro i
 rw [Aw]
 split
 ·rename_i hti
  subst hti
  rw [h]
  simp [(AC.1 h).1]
 ·rfl
def WH {F:Nat->Prop} {G:Gh} {P:Program} {n:Nat} {env:Fs} {H:FP} {w:World} {a:Act} {pre:List AV} {upre:List Value} (ty:Option TypeId) (take:Bool) (x:Operand)
  (h:CRel F G (pre++Gk n env) H (upre++a.tmps.toList) w) (hp:pre.length=upre.length) (hn:a.tmps.size=n) (ho : ∀ t,n<=t->Fq env t = .undef) :
  CRel F G (pre++((NB P ty take x env).1::Gk n (NB P ty take x env).2)) H (upre++(a.eval x::a.tmps.toList)) w /\ ∀ t,n<=t->Fq (NB P ty take x env).2 t = .undef:=by
 have hL:=(h.l.split hp).2
 have hv:VRel G w (G7 P ty env x) (a.eval x)/\(∀ p∈LE (G7 P ty env x) (a.eval x),GD F G w p)/\((∃ t,x = .tmp t/\t<n)\/Gs (G7 P ty env x) (a.eval x)=[]):=by
  cases x with
  | tmp t =>
   by_cases ht:t<n
   ·have hu:a.tmps.toList[t]? =some (a.eval (.tmp t)):=by
     simp [Act.eval,hn,ht]
    exact ⟨hL.rel t _ _ (IH env ht) hu,hL.tok t _ _ (IH env ht) hu,.inl ⟨t,rfl,ht⟩⟩
   ·have h0:G7 P ty env (.tmp t) = .undef:=ho t (CA ht)
    rw [h0]
    exact ⟨.undef _,Ff (Hc _) F G w,.inr (Hc _)⟩
  | const v=>exact ⟨VRel.const G w _ v,Ff (Uy _ v) F G w,.inr (Uy _ v)⟩
  | global g =>
   simp only [G7]
   split
   ·rename_i cs hcs
    exact ⟨h.h.glob.vrel hcs,Ff (GM rfl _) F G w,.inr (GM rfl _)⟩
   ·exact ⟨.undef _,Ff (Hc _) F G w,.inr (Hc _)⟩
  | func f =>
   refine ⟨.fn _ [] [] #[] #[] rfl rfl (λi c v hc=>by simp at hc) (λi c v hc=>by simp at hc),Ff (RD _ _ _ _) F G w,.inr (RD _ _ _ _)⟩
 obtain ⟨hv1,hv2,hv3⟩:=hv
 have plain : ∀ (v:AV),VRel G w v (a.eval x)->Gs v (a.eval x)=[] ->
   CRel F G (pre++(v::Gk n env)) H (upre++(a.eval x::a.tmps.toList)) w:=λv g1 g2 =>
  h.insert hp g1 (Ff g2 F G w) hL λb=>by rw [g2];simp
 cases take with
 | false=>exact ⟨plain _ hv1.borrow (Gb _ _),ho⟩
 | true =>
  simp only [NB]
  split
  ·rename_i t hown
   have ht:t<n:=by
    by_cases ht:t<n
    ·exact ht
    ·rw [show G7 P ty env (.tmp t) = .undef from ho t (CA ht)] at hown
     cases hown
   have hu:a.tmps.toList[t]? =some (a.eval (.tmp t)):=by simp [Act.eval,hn,ht]
   refine ⟨?_,λt' ht'=>?_⟩
   ·rw [Sw env _ ht]
    refine h.insert hp hv1 hv2 (hL.set hu hv1.borrow (Ff (Gb _ _) F G w)) λb=>?_
    have h1:=Uz b (Gk n env) a.tmps.toList t (Fq env t).borrow (Fq env t) (a.eval (.tmp t)) (a.eval (.tmp t)) (IH env ht) hu
    rw [dH hu,Gb] at h1
    simp only [Bd] at h1
    simp only [G7]
    omega
   ·simp only [Fq]
    rw [iN (λe=>by subst e;exact absurd ht (Nat.not_lt.2 ht'))]
    exact ho t' ht'
  ·rename_i hne
   refine ⟨plain _ hv1 ?_,ho⟩
   rcases hv3 with ⟨t,rfl,ht⟩|h3
   ·cases hown:(G7 P ty env (.tmp t)).owned with
    | false=>exact GM hown _
    | true=>exact absurd rfl (hne t hown)
   ·exact h3
def ACB{F:Nat->Prop}{G:Gh}{P:Program}{n:Nat}{H:FP}{w:World}{a:Act}(ty:Option TypeId)(take:Bool)(hn:a.tmps.size=n): ∀ (xs:List Operand) (env:Fs) (pre:List AV) (upre:List Value),
  CRel F G (pre++Gk n env) H (upre++a.tmps.toList) w->pre.length=upre.length->(∀ t,n<=t->Fq env t = .undef) ->
  CRel F G (pre++((ON P ty take xs env).1++Gk n (ON P ty take xs env).2)) H (upre++(xs.map a.eval++a.tmps.toList)) w /\ ∀ t,n<=t->Fq (ON P ty take xs env).2 t = .undef
 | [],env,pre,upre,h,_,ho=>⟨h,ho⟩
 | x::xs,env,pre,upre,h,hp,ho=>by
  obtain ⟨h1,ho1⟩:=WH (P:=P) ty take x h hp hn ho
  have h2:=ACB (P:=P) ty take hn xs (NB P ty take x env).2 (pre++[(NB P ty take x env).1]) (upre++[a.eval x]) (by simpa using h1) (by simp [hp]) ho1
  simp only [ON,AS]
  exact ⟨by simpa using h2.1,h2.2⟩
structure Hint where
 live:List (Nat×List Tmp)
 tk:List Tmp
 mt:List Tmp
 fz:List (Nat×List (Tmp×Option Nat×Bool))
 pc:List Tmp
 gc:List (Nat×Nat)
 dy:List Nat
def Lj(P:Program)(t:TypeId)(cs:List AV)(off:Nat):Option AV :=
 match P.underlying t with
 | some (.struct _)|some (.array _ _)=>if off+P.cellsOf t<=cs.length then some (.agg ((cs.drop off).take (P.cellsOf t))) else none
 | some _=>cs[off]?
 | none=>none
def splice(cs:List AV)(off:Nat)(xs:List AV):List AV:=cs.take off++xs++cs.drop (off+xs.length)
def KE(op:BinOp)(a b:AV)(R:AV->Prop):Prop :=
 match a,b with
 | .int k x,.int k' y =>
  match op with
  | .shl=>0<=y/\R (.int k (k.wrap (x*2^(min y.toNat k.bits))))
  | .shr=>0<=y/\R (.int k (x.fdiv (2^(min y.toNat k.bits))))
  | .add=>k=k'/\R (.int k (k.wrap (x+y)))
  | .sub=>k=k'/\R (.int k (k.wrap (x - y)))
  | .mul=>k=k'/\R (.int k (k.wrap (x*y)))
  | .quo=>k=k'/\y≠0/\R (.int k (k.wrap (x.tdiv y)))
  | .rem=>k=k'/\y≠0/\R (.int k (x.tmod y))
  | .and=>k=k'/\R (.int k (k.wrap (BitVec.ofInt k.bits x &&& BitVec.ofInt k.bits y).toNat))
  | .or=>k=k'/\R (.int k (k.wrap (BitVec.ofInt k.bits x ||| BitVec.ofInt k.bits y).toNat))
  | .xor=>k=k'/\R (.int k (k.wrap (BitVec.ofInt k.bits x ^^^ BitVec.ofInt k.bits y).toNat))
  | .andNot=>k=k'/\R (.int k (k.wrap (BitVec.ofInt k.bits x &&& ~~~ BitVec.ofInt k.bits y).toNat))
  | .eql=>k=k'/\R (.bool (x==y))
  | .neq=>k=k'/\R (.bool (x !=y))
  | .lss=>k=k'/\R (.bool (decide (x<y)))
  | .leq=>k=k'/\R (.bool (decide (x<=y)))
  | .gtr=>k=k'/\R (.bool (decide (x>y)))
  | .geq=>k=k'/\R (.bool (decide (x≥y)))
 | .str x,.str y =>
  match op with
  | .add=>x.size+y.size<=9223372036854775807/\R (.str (x++y))
  | .eql=>R (.bool (x.toList==y.toList))
  | .neq=>R (.bool !(x.toList==y.toList))
  | .lss=>R (.bool (Op.bytesLess x.toList y.toList))
  | .leq=>R (.bool (Op.bytesLess x.toList y.toList||x.toList==y.toList))
  | .gtr=>R (.bool !(Op.bytesLess x.toList y.toList||x.toList==y.toList))
  | .geq=>R (.bool !(Op.bytesLess x.toList y.toList))
  | _=>False
 | _,_=>False
def ADX{P:Program}{op:BinOp}{t:TypeId}{a b:AV}{R:AV->Prop}{G:Gh}{w:World}{u v:Value}(h:KE op a b R)(hu:VRel G w a u)(hv:VRel G w b v)(x y:Operand):
  ∃ c r,R c/\VRel G w c r/\GE c=false/\c.scalar=true/\(do eqGuard op t x y u v;binOp op t u v).run P w = .ok r w:=by
 unfold KE at h
 split at h
 ·rename_i k x' k' y'
  cases hu;cases hv
  cases op
  case shl=>exact ⟨_,_,h.2,.int _ _,rfl,rfl,by simp [eqGuard,binOp,Op.shift,Dt.2 h.1]⟩
  case shr=>exact ⟨_,_,h.2,.int _ _,rfl,rfl,by simp [eqGuard,binOp,Op.shift,Dt.2 h.1]⟩
  case quo=>obtain ⟨rfl,h0,hR⟩:=h;exact ⟨_,_,hR,.int _ _,rfl,rfl,by simp [eqGuard,binOp,Op.intDiv,h0]⟩
  case rem=>obtain ⟨rfl,h0,hR⟩:=h;exact ⟨_,_,hR,.int _ _,rfl,rfl,by simp [eqGuard,binOp,Op.intDiv,h0]⟩
  case eql=>obtain ⟨rfl,hR⟩:=h;exact ⟨_,_,hR,.bool _,rfl,rfl,by simp [eqGuard,binOp,Op.intCmp]⟩
  case neq=>obtain ⟨rfl,hR⟩:=h;exact ⟨_,_,hR,.bool _,rfl,rfl,by simp [eqGuard,binOp,Op.intCmp]⟩
  case lss=>obtain ⟨rfl,hR⟩:=h;exact ⟨_,_,hR,.bool _,rfl,rfl,by simp [eqGuard,binOp,Op.intCmp]⟩
  case leq=>obtain ⟨rfl,hR⟩:=h;exact ⟨_,_,hR,.bool _,rfl,rfl,by simp [eqGuard,binOp,Op.intCmp]⟩
  case gtr=>obtain ⟨rfl,hR⟩:=h;exact ⟨_,_,hR,.bool _,rfl,rfl,by simp [eqGuard,binOp,Op.intCmp]⟩
  case geq=>obtain ⟨rfl,hR⟩:=h;exact ⟨_,_,hR,.bool _,rfl,rfl,by simp [eqGuard,binOp,Op.intCmp]⟩
  all_goals (obtain ⟨rfl,hR⟩:=h;exact ⟨_,_,hR,.int _ _,rfl,rfl,by simp [eqGuard,binOp,Op.intArith,Op.intBits]⟩)
 ·rename_i x' y'
  cases hu;cases hv
  cases op
  case add =>
   refine ⟨_,_,h.2,.str _,rfl,rfl, ?_⟩
   have : ¬ (((x'.size+y'.size:Nat):Int)>IntKind.i64.max):=by
    have:=h.1
    have e:IntKind.i64.max=9223372036854775807:=dc
    rw [e];omega
   simp [eqGuard,binOp,Op.stringOp]
   simpa using this
  case eql=>exact ⟨_,_,h,.bool _,rfl,rfl,by simp [eqGuard,binOp,Op.stringOp]⟩
  case neq=>exact ⟨_,_,h,.bool _,rfl,rfl,by simp [eqGuard,binOp,Op.stringOp]⟩
  case lss=>exact ⟨_,_,h,.bool _,rfl,rfl,by simp [eqGuard,binOp,Op.stringOp]⟩
  case leq=>exact ⟨_,_,h,.bool _,rfl,rfl,by simp [eqGuard,binOp,Op.stringOp]⟩
  case gtr=>exact ⟨_,_,h,.bool _,rfl,rfl,by simp [eqGuard,binOp,Op.stringOp]⟩
  case geq=>exact ⟨_,_,h,.bool _,rfl,rfl,by simp [eqGuard,binOp,Op.stringOp]⟩
  all_goals exact h.elim
 ·exact h.elim
def Fx(P:Program)(r:Result Next)(K:Value->World->Prop):Prop :=
 match r with
 | .ok (.value u) w'=>K u w'
 | .ok .skip w'=>K Go.undef w'
 | .ok (.enter f args) w'=>Calls P f args w' λe w'' => ∃ u,e = .returned u/\K u w''
 | .ok (.round l f tmps assign body) w'=>RoundIn Fence.wide 0 P l f tmps assign body w' λe w'' => ∃ u,e = .returned u/\K u w''
 | _=>False
def Fe(F:Nat->Prop)(G:Gh)(w:World)(R:AV->FP->Prop)(u:Value)(w':World):Prop :=
 ∃ v H' G',R v H'/\CRel F G' [v] H' [u] w'/\Ext F G w G' w'
section
variable {F:Nat->Prop} {G:Gh} {w:World} {H:FP} {vals:List AV} {us:List Value}
def CRel.one(h:CRel F G vals H us w){v:AV}{u:Value}(hv:VRel G w v u)(ht : ∀ p∈LE v u,GD F G w p)(hc : ∀ b,(Gs v u).count b<=HC b vals us):CRel F G [v] H [u] w :=
 ⟨.cons hv ht (.nil F G w),h.h,λb=>by
  have h1:=h.cnt b
  have h2:=hc b
  rw [FY,GS]
  omega⟩
def CRel.plain(h:CRel F G vals H us w){v:AV}{u:Value}(hv:VRel G w v u)(ht:Gs v u=[]):CRel F G [v] H [u] w :=
 h.one hv (Ff ht F G w) λb=>by rw [ht];simp
def Fe.plain{R:AV->FP->Prop}(h:CRel F G vals H us w){v:AV}{u:Value}(hR:R v H)(hv:VRel G w v u)(ht:Gs v u=[]):Fe F G w R u w :=
 ⟨v,H,G,hR,h.plain hv ht,.refl F G w⟩
def CRel.get(h:CRel F G vals H us w){i:Nat}{v:AV}{u:Value}(h1:vals[i]? =some v)(h2:us[i]? =some u):CRel F G [v] H [u] w :=
 h.one (h.l.rel i v u h1 h2) (h.l.tok i v u h1 h2) λb=>Ma b vals us i v u h1 h2
def FT{v:AV}(h:GE v=false)(hs:v.scalar=true)(u:Value):Gs v u=[]:=MF λc hc u'=>by
 cases v<;>simp only [AV.flat,AV.cells,Ac] at hc<;>first|(subst hc;exact Lp h u')|cases hs
def cQ(G:Gh)(w:World)(cs:List AV)(b q:Nat):Prop :=
 ∀ (i:Nat) (c:AV),cs[i]? =some c->c.scalar=true /\ ∃ v,w.cell? ⟨b,q+i,none⟩=some v/\VRel G w c v
def LG{P:Program}{t:TypeId}{d:TypeDesc}(h:P.underlying t=some d): ∃ i,P.info? t=some i:=by
 unfold Program.underlying at h
 split at h
 ·exact ⟨_,‹_›⟩
 ·exact ⟨_,‹_›⟩
 ·cases h
def U8{P:Program}{t:TypeId}{d:TypeDesc}(h:P.underlying t=some d)(w:World):(sizeOf t).run P w = .ok (P.cellsOf t) w:=by
 obtain ⟨i,hi⟩:=LG h
 simp [sizeOf,typeInfo,hi,BI]
def G9(b q i:Nat):(⟨b,q,none⟩:Addr).add i=⟨b,q+i,none⟩:=by
 unfold Addr.add
 split
 ·rename_i h;subst h;rfl
 ·rfl
def JJ{α:Type}(l:List α)(off k i:Nat)(hi:i<k):((l.drop off).take k)[i]? =l[off+i]?:=by
 rw [Ak,iP hi,A1]
def aB{P:Program}{t:TypeId}{cs:List AV}{off b q:Nat}{v:AV}(hl:Lj P t cs off=some v)(hc:cQ G w cs b q):
  ∃ u,(loadVar t ⟨b,q+off,none⟩).run P w = .ok u w/\VRel G w v u/\v.isVal=true /\
   (∀ (i:Nat) (c:AV) (x:Value),v.cells[i]? =some c->u.cells[i]? =some x->cs[off+i]? =some c/\w.cell? ⟨b,q+(off+i),none⟩=some x)/\v.flat=v.cells/\IA u=u.cells.toList:=by
 have agg : ∀ d,P.underlying t=some d->(isAgg t).run P w = .ok true w->off+P.cellsOf t<=cs.length->v = .agg ((cs.drop off).take (P.cellsOf t)) ->
   ∃ u,(loadVar t ⟨b,q+off,none⟩).run P w = .ok u w/\VRel G w v u/\v.isVal=true /\
   (∀ (i:Nat) (c:AV) (x:Value),v.cells[i]? =some c->u.cells[i]? =some x->cs[off+i]? =some c/\w.cell? ⟨b,q+(off+i),none⟩=some x)/\v.flat=v.cells/\IA u=u.cells.toList:=by
  intro d hu hagg hlen hv
  subst hv
  have key : ∀ i,i<P.cellsOf t -> ∃ c x,cs[off+i]? =some c/\c.scalar=true/\w.cell? ⟨b,q+(off+i),none⟩=some x/\VRel G w c x:=by
   intro i hi
   have:off+i<cs.length:=FO
   obtain ⟨h1,x,h2,h3⟩:=hc (off+i) cs[off+i] (AL this)
   exact ⟨cs[off+i],x,AL this,h1,h2,h3⟩
  let f:Nat->Value:=λi=>(w.cell? ⟨b,q+(off+i),none⟩).getD Go.undef
  have hf : ∀ i,i<P.cellsOf t->w.cell? ⟨b,q+(off+i),none⟩=some (f i):=by
   intro i hi
   obtain ⟨c,x,_,_,h,_⟩:=key i hi
   simp [f,h]
  have hld:=run_loadCells (P:=P) (w:=w) ⟨b,q+off,none⟩ (P.cellsOf t) f (λj hj=>by rw [G9,Ag];exact hf j hj)
  refine ⟨.agg ((Am (P.cellsOf t)).map f).toArray, ?_,.agg _ _ (by simp;omega) ?_ ?_,rfl, ?_,rfl,rfl⟩
  ·simp only [loadVar,AJ,hagg,AZ,U8 hu,Be]
   simp [hld]
  ·intro c hc'
   obtain ⟨i,hi⟩:=Af hc'
   have hi':i<P.cellsOf t:=by
    have:=(AC.1 hi).1
    simp at this;omega
   rw [JJ _ _ _ _ hi'] at hi
   obtain ⟨c',x,h1,h2,_⟩:=key i hi'
   rw [h1] at hi;cases hi;exact h2
  ·intro i c x hi hx
   have hi':i<P.cellsOf t:=by
    have:=(AC.1 hi).1
    simp at this;omega
   rw [JJ _ _ _ _ hi'] at hi
   obtain ⟨c',x',h1,h2,h3,h4⟩:=key i hi'
   rw [h1] at hi;cases hi
   have:x=x':=by
    simp [hi'] at hx
    subst hx
    simp [f,h3]
   subst this;exact h4
  ·intro i c x hi hx
   simp only [AV.cells] at hi
   simp only [Value.cells] at hx
   have hi':i<P.cellsOf t:=by
    have:=(AC.1 hi).1
    simp at this;omega
   rw [JJ _ _ _ _ hi'] at hi
   refine ⟨hi, ?_⟩
   simp [hi'] at hx
   subst hx
   exact hf i hi'
 unfold Lj at hl
 split at hl
 ·rename_i fs hu
  split at hl
  ·rename_i hlen
   cases hl
   exact agg _ hu (by simp [isAgg,run_underlying hu]) hlen rfl
  ·cases hl
 ·rename_i n e hu
  split at hl
  ·rename_i hlen
   cases hl
   exact agg _ hu (by simp [isAgg,run_underlying hu]) hlen rfl
  ·cases hl
 ·rename_i d hns hna hu
  obtain ⟨h1,u,h2,h3⟩:=hc off v hl
  have hagg:(isAgg t).run P w = .ok false w:=by
   simp only [isAgg,AJ,run_underlying hu,AZ]
   cases d<;>first|rfl|exact absurd hu (hns _)|exact absurd hu (hna _ _)
  have hcells:v.cells=[v]:=by cases v<;>first|rfl|cases h1
  have hflat:v.flat=[v]:=by cases v<;>first|rfl|cases h1
  have hucells:u.cells=#[u]:=by
   cases h3<;>first|rfl|cases h1
  have huflat:IA u=[u]:=by cases h3<;>first|rfl|cases h1
  have hisv:v.isVal=true:=by cases v<;>first|rfl|cases h1
  have e1:v.flat=v.cells:=by rw [hflat,hcells]
  have e2:IA u=u.cells.toList:=by rw [huflat,hucells]
  refine ⟨u, ?_,h3,hisv, ?_,e1,e2⟩
  ·simp only [loadVar,AJ,hagg,AZ,Be]
   simp [h2]
  ·intro i c x hi hx
   rw [hcells] at hi
   rw [hucells] at hx
   cases i with
   | zero=>simp at hi hx;subst hi;subst hx;exact ⟨hl,h2⟩
   | succ i=>simp at hi
 ·cases hl
def UA{cs:List AV}{off:Nat}{u:Value}(h:VRel G w (.cptr cs off) u): ∃ b q,u = .pointer (some ⟨b,q+off,none⟩)/\cQ G w cs b q:=by
 cases h with
 | cptr cs off b q u h hu=>exact ⟨b,q,rfl,λi c hi=>⟨(h i c hi).1,u i,(h i c hi).2.2,hu i c hi⟩⟩
def O3{cs:List AV}{b:Nat}{C0:Array Value}{E0:TypeId}{fr:Nat×Nat}(hb:w.heap[b]? =some (.cells C0 E0 fr))(h:ORel F G w cs b):cQ G w cs b 0:=by
 obtain ⟨C,E,h1,h2,h3⟩:=(h.of_cells hb).2
 intro i c hi
 have hlt:i<C.size:=by have:=(AC.1 hi).1;omega
 obtain ⟨g1,g2,_⟩:=h3 i c C[i] hi (Aj hlt)
 exact ⟨g1,C[i],by rw [AY,cell_of_row w b i C E _ h1,Aj hlt],g2⟩
end
end Go.AI
namespace Go.AI
section
variable {P:Program} {F:Nat->Prop} {G:Gh} {w:World} {H:FP} {R:AV->FP->Prop}
def qh{a:Addr}{v:Value}(h:w.cell? a=some v):a.block<w.heap.size:=World.block_lt_of_cell? w _ h
def HS(o:Obj){b:Nat}(h:b<w.heap.size):(w.alloc o).heap[b]? =w.heap[b]?:=by
 simp only [World.alloc,Array.getElem?_push]
 rw [iN (CB h)]
def size_alloc(o:Obj):(w.alloc o).heap.size=w.heap.size+1:=World.size_alloc w o
def Gh.setKind(G:Gh)(b:Nat)(k:Kind):Gh:={ G with kind:=λb'=>if b'=b then k else G.kind b' }
def Gh.kind_set_ne(G:Gh){b b':Nat}(k:Kind)(h:b'≠b):(G.setKind b k).kind b'=G.kind b':=by simp [Gh.setKind,h]
def Gh.kind_set(G:Gh)(b:Nat)(k:Kind):(G.setKind b k).kind b=k:=by simp [Gh.setKind]
def Gh.safe_set_ne(G:Gh){b b' o:Nat}(k:Kind)(h:b'≠b):(G.setKind b k).safe b' o↔G.safe b' o:=by
 unfold Gh.safe
 rw [G.kind_set_ne k h]
def Pf(o:Obj)(k:Kind)(hF : ∀ b,F b->b<w.heap.size)(obs:List Nat)(ho : ∀ (i b:Nat),G.obs[i]? =some b->obs[i]? =some b):
  Ext F G w { (G.setKind w.heap.size k) with obs:=obs } (w.alloc o):=by
 refine ⟨by rw [size_alloc];omega,⟨ho,λb C E hb=>?_,λb hb _=>⟨by rw [size_alloc];omega,G.kind_set_ne k (CB hb)⟩,λb off v hs hc=>?_⟩,λb hb=>?_,λb hb=>?_,⟨rfl,rfl,rfl⟩⟩
 ·have:=(Ao.1 hb).1
  exact ⟨C,by rw [HS o this];exact hb,rfl⟩
 ·have hlt:=qh hc
  have hne:b≠w.heap.size:=CB hlt
  exact ⟨(G.safe_set_ne k hne).2 hs,by rw [World.cell?_alloc_lt _ _ _ hlt];exact hc⟩
 ·exact G.kind_set_ne k (CB (hF b hb))
 ·exact HS o (hF b hb)
def HRel.block_lt(h:HRel F G H w){o:Nat}{cs:List AV}{b:Nat}(h1:H[o]? =some (some cs))(h2:G.obs[o]? =some b):b<w.heap.size:=by
 exact (h.obj o cs b h1 h2).lt
def HRel.ext {G':Gh} {w':World} {F':Nat->Prop} (h:HRel F G H w) (he:Ext F' G w G' w') (hobs:G'.obs=G.obs)
  (hk : ∀ b,(∃ (o:Nat) (cs:List AV),H[o]? =some (some cs)/\G.obs[o]? =some b)\/0<IJ G H w b->G'.kind b=G.kind b/\w'.heap[b]? =w.heap[b]?):HRel F G' H w':=by
 refine ⟨by rw [hobs];exact h.len,λo cs b h1 h2=>?_,λo o' cs cs' b h1 h2 h3 h4=>h.inj o o' cs cs' b h1 h2 (by rw [<- hobs];exact h3) (by rw [<- hobs];exact h4),λb hb=>BR (h.fore b hb) he.size,h.glob.keep he.keeps⟩
 rw [hobs] at h2
 obtain ⟨k1,k2⟩:=hk b (.inl ⟨o,cs,h1,h2⟩)
 refine (h.obj o cs b h1 h2).keep he.keeps (h.obj o cs b h1 h2).own k1 k2 λC E g2 i c v hc hv s3=>s3.keep λb' ht=>?_
 have hp:=eQ h1 h2 g2 hc hv ht
 have hle:=qM (G:=G) (w:=w) (b:=b') (AC.1 h1).1
 obtain ⟨k3,k4⟩:=hk b' (.inr FO)
 exact ⟨(s3.of_tok ht).1,k3,k4⟩
def M4{G':Gh}{w':World}(hobs:G'.obs=G.obs)(hk : ∀ (o:Nat) (cs:List AV) (b:Nat),H[o]? =some (some cs)->G.obs[o]? =some b->w'.heap[b]? =w.heap[b]?)(b:Nat):IJ G' H w' b=IJ G H w b:=by
 refine JT λo ho=>?_
 congr 1
 unfold Gp
 rw [hobs]
 split
 ·rename_i cs b' h1 h2
  rw [hk o cs b' h1 h2]
 ·rfl
def CRel.alloc{vals:List AV}{us:List Value}(h:CRel F G vals H us w)(o:Obj)(k:Kind):CRel F (G.setKind w.heap.size k) vals H us (w.alloc o):=by
 have he:=Pf (F:=F) (G:=G) (w:=w) o k h.h.fore G.obs (λ_ _ h=>h)
 have hne : ∀ b,b<w.heap.size->(G.setKind w.heap.size k).kind b=G.kind b/\(w.alloc o).heap[b]? =w.heap[b]?:=λb hb=>⟨G.kind_set_ne k (CB hb),HS o hb⟩
 refine ⟨⟨h.l.len,λi a u h1 h2=>(h.l.rel i a u h1 h2).keep he.keeps,λi a u h1 h2 p hp=>(h.l.tok i a u h1 h2 p hp).keep λb hb=>?_⟩,h.h.ext he rfl λb hb=>?_,λb=>?_⟩
 ·obtain ⟨t1,_,C,E,t3⟩:=(h.l.tok i a u h1 h2 p hp).of_tok hb
  exact ⟨t1,hne b (Ao.1 t3).1⟩
 ·rcases hb with ⟨o',cs,h1,h2⟩|hb
  ·exact hne b (h.h.block_lt h1 h2)
  ·obtain ⟨_,_,C,E,t3⟩:=h.h.tok_of_pos hb
   exact hne b (Ao.1 t3).1
 ·rw [M4 (G:=G) (w:=w) (G':=G.setKind w.heap.size k) rfl λo' cs b' h1 h2=>(hne b' (h.h.block_lt h1 h2)).2]
  exact h.cnt b
def CRel.draw{vals:List AV}{us:List Value}(h:CRel F G vals H us w):CRel F G vals H us w.drew :=
 have he:Ext F G w G w.drew:=⟨AU _,⟨λ_ _ h=>h,λb C E h=>⟨C,h,rfl⟩,λ_ h _=>⟨h,rfl⟩,λ_ _ _ h1 h2=>⟨h1,h2⟩⟩,λ_ _=>rfl,λ_ _=>rfl,⟨rfl,rfl,rfl⟩⟩
 ⟨⟨h.l.len,λi a u h1 h2=>(h.l.rel i a u h1 h2).keep he.keeps,λi a u h1 h2 p hp=>(h.l.tok i a u h1 h2 p hp).keep λb hb=>⟨((h.l.tok i a u h1 h2 p hp).of_tok hb).1,rfl,rfl⟩⟩,
  h.h.ext he rfl λb _=>⟨rfl,rfl⟩,h.cnt⟩
def Hy:Ext F G w G w.drew:=⟨AU _,⟨λ_ _ h=>h,λb C E h=>⟨C,h,rfl⟩,λ_ h _=>⟨h,rfl⟩,λ_ _ _ h1 h2=>⟨h1,h2⟩⟩,λ_ _=>rfl,λ_ _=>rfl,⟨rfl,rfl,rfl⟩⟩
end
end Go.AI
namespace Go.AI
section
variable {P:Program} {F:Nat->Prop} {G:Gh} {w:World} {H:FP} {vals:List AV} {us:List Value}
def K7{α:Type}{l l':List α}{i:Nat}{a:α}(h:l[i]? =some a):(l++l')[i]? =some a:=by
 rw [AT (AC.1 h).1];exact h
def Gh.newK(G:Gh)(n:Nat)(k:Kind):Gh:={ (G.setKind n k) with obs:=G.obs++[n] }
abbrev Gh.newObj(G:Gh)(n:Nat):Gh:=G.newK n .obj
def Gh.newK_kind_ne(G:Gh){n b:Nat}(k:Kind)(h:b≠n):(G.newK n k).kind b=G.kind b:=G.kind_set_ne k h
def Gh.newObj_kind_ne(G:Gh){n b:Nat}(h:b≠n):(G.newObj n).kind b=G.kind b:=G.kind_set_ne .obj h
def M9(hF : ∀ b,F b->b<w.heap.size)(o:Obj)(k:Kind):Ext F G w (G.newK w.heap.size k) (w.alloc o) :=
 Pf o k hF (G.obs++[w.heap.size]) λ_ _ h=>K7 h
def IQ(hF : ∀ b,F b->b<w.heap.size)(o:Obj):Ext F G w (G.newObj w.heap.size) (w.alloc o):=M9 hF o .obj
def Wa(cs:List AV):Obj->List Nat
 | .cells C _ _=>(cs.zip C.toList).filterMap tok
 | _=>[]
def eR{G:Gh}{H:FP}{w:World}{o b:Nat}{cs:List AV}{ob:Obj}(h1:H[o]? =some (some cs))(h2:G.obs[o]? =some b)(h3:w.heap[b]? =some ob):Gp G H w o=Wa cs ob:=by
 unfold Gp Wa
 simp only [h1,h2,h3]
 cases ob<;>rfl
def CRel.newG (h:CRel F G vals H us w) (k:Kind) (ob:Obj) (cs:List AV)
  (his:ORel F (G.newK w.heap.size k) (w.alloc ob) cs w.heap.size) {vs:List AV} {us':List Value}
  (hv:LRel F (G.newK w.heap.size k) vs us' (w.alloc ob)) (hn : ∀ b,(Wa cs ob).count b+HC b vs us'<=HC b vals us) :
  CRel F (G.newK w.heap.size k) vs (H++[some cs]) us' (w.alloc ob):=by
 have he:=M9 (G:=G) h.h.fore ob k
 have hlen:=h.h.len
 have old : ∀ b,b<w.heap.size->(G.newK w.heap.size k).kind b=G.kind b/\(w.alloc ob).heap[b]? =w.heap[b]?:=λb hb =>
  ⟨G.newK_kind_ne k (CB hb),HS _ hb⟩
 have hnew:(w.alloc ob).heap[w.heap.size]? =some ob:=heap_alloc_new w ob
 have hat : ∀ (o b:Nat) (cs':List AV),(H++[some cs])[o]? =some (some cs')->(G.newK w.heap.size k).obs[o]? =some b ->
   (H[o]? =some (some cs')/\G.obs[o]? =some b)\/(o=H.length/\cs'=cs/\b=w.heap.size):=by
  intro o b cs' h1 h2
  have hlt:=(AC.1 h1).1
  simp only [AF,AD,AH] at hlt
  by_cases ho:o<H.length
  ·refine .inl ⟨by rw [AT ho] at h1;exact h1, ?_⟩
   rw [show (G.newK w.heap.size k).obs=G.obs++[w.heap.size] from rfl,AT FO] at h2
   exact h2
  ·have:o=H.length:=FO
   subst this
   rw [AM FO] at h1
   rw [show (G.newK w.heap.size k).obs=G.obs++[w.heap.size] from rfl,AM FO] at h2
   simp only [AO,A7,Option.some.injEq] at h1
   rw [hlen] at h2
   simp only [AO,A7,Option.some.injEq] at h2
   exact .inr ⟨rfl,h1.symm,h2.symm⟩
 refine ⟨hv,⟨?_,λo cs' b h1 h2=>?_,λo o' cs1 cs2 b h1 h2 h3 h4=>?_,λb hb=>BR (h.h.fore b hb) he.size,h.h.glob.keep he.keeps⟩,λb=>?_⟩
 ·show (G.obs++[w.heap.size]).length=_
  simp [hlen]
 ·rcases hat o b cs' h1 h2 with ⟨g1,g2⟩|⟨rfl,rfl,rfl⟩
  ·have hb:=h.h.block_lt g1 g2
   refine (h.h.obj o cs' b g1 g2).keep he.keeps (h.h.obj o cs' b g1 g2).own (old b hb).1 (old b hb).2 λC E _ i c x hi hx s3=>s3.keep λb' hb'=>?_
   obtain ⟨t1,_,C2,E2,t3⟩:=s3.of_tok hb'
   exact ⟨t1,old b' (Ao.1 t3).1⟩
  ·exact his
 ·rcases hat o b cs1 h1 h3 with ⟨g1,g2⟩|⟨rfl,_,rfl⟩<;>rcases hat o' _ cs2 h2 h4 with ⟨g3,g4⟩|⟨rfl,_,hb⟩
  ·exact h.h.inj _ _ _ _ _ g1 g3 g2 g4
  ·subst hb;exact absurd (h.h.block_lt g1 g2) (Bq _)
  ·exact absurd (h.h.block_lt g3 g4) (Bq _)
  ·rfl
 ·have hsum:IJ (G.newK w.heap.size k) (H++[some cs]) (w.alloc ob) b=IJ G H w b+(Wa cs ob).count b:=by
   unfold IJ
   simp only [AF,AD,AH,AY,B8,Ar,B9,AS,Ah,B1,CS,BB]
   congr 1
   ·refine JT λo ho=>?_
    congr 1
    unfold Gp
    rw [AT ho,show (G.newK w.heap.size k).obs=G.obs++[w.heap.size] from rfl,AT FO]
    cases g1:H[o]? with
    | none=>rfl
    | some x=>cases x with
     | none=>rfl
     | some cs'=>cases g2:G.obs[o]? with
      | none=>rfl
      | some b'=>simp only [(old b' (h.h.block_lt g1 g2)).2]
   ·congr 1
    refine eR (b:=w.heap.size) sm ?_ hnew
    rw [show (G.newK w.heap.size k).obs=G.obs++[w.heap.size] from rfl,AM FO,hlen]
    simp
  rw [hsum]
  have h1:=h.cnt b
  have h2:=hn b
  omega
def CRel.newObj (h:CRel F G vals H us w) (cs:List AV) (C:Array Value) (E:TypeId) (hl:cs.length<=C.size)
  (hc : ∀ (i:Nat) (c:AV) (v:Value),cs[i]? =some c->C[i]? =some v->c.scalar=true/\VRel G w c v/\GD F G w (c,v))
  (hn : ∀ b,((cs.zip C.toList).filterMap tok).count b<=HC b vals us) {v:AV} {u:Value}
  (hv:VRel (G.newObj w.heap.size) (w.alloc (.cells C E)) v u) (ht:Gs v u=[]) :
  CRel F (G.newObj w.heap.size) [v] (H++[some cs]) [u] (w.alloc (.cells C E)):=by
 have he:=IQ (G:=G) h.h.fore (.cells C E)
 refine h.newG .obj (.cells C E) cs (.row_of (λhF=>absurd (h.h.fore _ hF) (Bq _)) (G.kind_set _ _) ⟨C,E,heap_alloc_new w (.cells C E),hl,λi c x hi hx=>?_⟩)
  (.cons hv (Ff ht F _ _) (.nil F _ _)) λb=>?_
 ·obtain ⟨s1,s2,s3⟩:=hc i c x hi hx
  refine ⟨s1,s2.keep he.keeps,s3.keep λb' hb'=>?_⟩
  obtain ⟨t1,_,C2,E2,t3⟩:=s3.of_tok hb'
  have hlt:=(Ao.1 t3).1
  exact ⟨t1,G.newObj_kind_ne (CB hlt),HS _ hlt⟩
 ·rw [FY,GS,ht,Bd]
  exact hn b
def CRel.setObj (h:CRel F G vals H us w) {o b:Nat} {cs cs':List AV} (ho:H[o]? =some (some cs)) (hb:G.obs[o]? =some b) {C C':Array Value} {E:TypeId} (hrow:w.heap[b]? =some (.cells C E (0,0)))
  (hsize:C'.size=C.size) (hl:cs'.length<=C'.size)
  (hc : ∀ (i:Nat) (c:AV) (v:Value),cs'[i]? =some c->C'[i]? =some v->c.scalar=true/\VRel G w c v/\GD F G w (c,v)) {vs:List AV} {us':List Value}
  (hvs:LRel F G vs us' w)
  (hn : ∀ x,HC x vs us'+((cs'.zip C'.toList).filterMap tok).count x<=HC x vals us+((cs.zip C.toList).filterMap tok).count x) :
  CRel F G vs (H.set o (some cs')) us' (w.setRow b C')/\Ext F G w G (w.setRow b C'):=by
 have hkind:=((h.h.obj o cs b ho hb).of_cells hrow).1
 have hnF:=(h.h.obj o cs b ho hb).own
 have hlen:=h.h.len
 have holt:o<H.length:=(AC.1 ho).1
 have he:Ext F G w G (w.setRow b C'):=by
  refine ⟨sm,⟨λ_ _ h=>h,λb' C2 E2 h2=>?_,λ_ hb' _=>⟨by simpa using hb',rfl⟩,λb' off v hs hcell=>⟨hs, ?_⟩⟩,λ_ _=>rfl,λb' hb'=>setRow_other w b b' C' (λe=>hnF (e▸hb')),⟨rfl,rfl,rfl⟩⟩
  ·by_cases hbb:b'=b
   ·subst hbb
    rw [hrow] at h2;cases h2
    exact ⟨C',setRow_heap w b' C C' E _ hrow,hsize⟩
   ·exact ⟨C2,by rw [setRow_other w b b' C' hbb];exact h2,rfl⟩
  ·by_cases hbb:b'=b
   ·subst hbb
    simp [Gh.safe,hkind] at hs
   ·rw [cell_setRow_other w b C' _ hbb];exact hcell
 have hother : ∀ b',b'≠b->(w.setRow b C').heap[b']? =w.heap[b']?:=λb' hne=>setRow_other w b b' C' hne
 have htokne : ∀ {p:AV×Value} {x:Nat},GD F G w p->tok p=some x->x≠b:=λhp hx hxb=>by
  obtain ⟨_,⟨q,hq⟩,_⟩:=hp.of_tok hx
  rw [hxb,hkind] at hq;cases hq
 have htk : ∀ {p:AV×Value},GD F G w p->GD F G (w.setRow b C') p:=λhp=>hp.keep λx hx=>⟨(hp.of_tok hx).1,rfl,hother x (htokne hp hx)⟩
 have hset : ∀ (o':Nat) (cs2:List AV),(H.set o (some cs'))[o']? =some (some cs2)->(o'=o/\cs2=cs')\/(o'≠o/\H[o']? =some (some cs2)):=by
  intro o' cs2 h2
  rw [Aw] at h2
  split at h2
  ·rename_i heq
   subst heq
   simp [holt] at h2
   exact .inl ⟨rfl,h2.symm⟩
  ·rename_i hne
   exact .inr ⟨λe=>hne e.symm,h2⟩
 have hnew:(w.setRow b C').heap[b]? =some (.cells C' E (0,0)):=setRow_heap w b C C' E _ hrow
 have hinj : ∀ o' cs2,o'≠o->H[o']? =some (some cs2)->G.obs[o']?≠some b:=λo' cs2 hne h2 h3=>hne (h.h.inj o' o cs2 cs b h2 ho h3 hb)
 refine ⟨⟨⟨hvs.len,λi a u h1 h2=>(hvs.rel i a u h1 h2).keep he.keeps,λi a u h1 h2 p hp=>htk (hvs.tok i a u h1 h2 p hp)⟩,⟨by simp [hlen],λo' cs2 b2 h2 h3=>?_,λo1 o2 c1 c2 b2 h1 h2 h3 h4=>?_,λb' hF=>by simpa using h.h.fore b' hF,h.h.glob.keep he.keeps⟩,λx=>?_⟩,he⟩
 ·rcases hset o' cs2 h2 with ⟨rfl,rfl⟩|⟨hne,h2'⟩
  ·rw [hb] at h3;cases h3
   refine .row_of hnF hkind ⟨C',E,hnew,hl,λi c v hi hv=>?_⟩
   obtain ⟨s1,s2,s3⟩:=hc i c v hi hv
   exact ⟨s1,s2.keep he.keeps,htk s3⟩
  ·have hbne:b2≠b:=λe=>hinj o' cs2 hne h2' (e▸h3)
   exact (h.h.obj o' cs2 b2 h2' h3).keep he.keeps (h.h.obj o' cs2 b2 h2' h3).own rfl (hother b2 hbne) λ_ _ _ _ _ _ _ _ s3=>htk s3
 ·rcases hset o1 c1 h1 with ⟨rfl,rfl⟩|⟨hne1,h1'⟩<;>rcases hset o2 c2 h2 with ⟨rfl,rfl⟩|⟨hne2,h2'⟩
  ·rfl
  ·exact (h.h.inj o2 o1 c2 cs b2 h2' ho h4 h3).symm
  ·exact h.h.inj o1 o2 c1 cs b2 h1' ho h3 h4
  ·exact h.h.inj o1 o2 c1 c2 b2 h1' h2' h3 h4
 ·have hone:=JK (n:=H.length) (d:=o) (f:=λo'=>(Gp G (H.set o (some cs')) (w.setRow b C') o').count x) (g:=λo'=>(Gp G H w o').count x) holt (λo' ho' hne=>by
   congr 1
   unfold Gp
   rw [Aw,iN (λe=>hne e.symm)]
   cases g1:H[o']? with
   | none=>rfl
   | some x2=>cases x2 with
    | none=>rfl
    | some cs2=>cases g2:G.obs[o']? with
     | none=>rfl
     | some b2=>simp only [hother b2 (λe=>hinj o' cs2 hne g1 (e▸g2))])
  have e1:Gp G (H.set o (some cs')) (w.setRow b C') o=(cs'.zip C'.toList).filterMap tok:=by
   unfold Gp
   rw [Aw,iP rfl,iP holt]
   simp only [hb,hnew]
  have e2:Gp G H w o=(cs.zip C.toList).filterMap tok:=by
   unfold Gp
   simp only [ho,hb,hrow]
  rw [e1,e2] at hone
  have h1:=h.cnt x
  have h2:=hn x
  unfold IJ at h1 ⊢
  simp only [Ap]
  omega
end
end Go.AI
namespace Go.AI
section
variable {P:Program} {F:Nat->Prop} {G:Gh} {w:World} {H:FP} {vals:List AV} {us:List Value}
def Ke{b:Nat}{X0 X:Obj}(hF : ¬ F b)(hb:w.heap[b]? =some X0)(hX : ∀ C E f,X0 ≠ .cells C E f):Ext F G w G (w.putObj b X):=by
 refine ⟨sm,⟨λ_ _ h=>h,λb' C E h=>?_,λb' hb' _=>⟨by simpa using hb',rfl⟩,λb' o v hs hc=>⟨hs, ?_⟩⟩,λ_ _=>rfl,λb' hb'=>World.putObj_heap_other (λe=>hF (e▸hb')),⟨rfl,rfl,rfl⟩⟩
 ·by_cases e:b'=b
  ·subst e
   rw [hb] at h;cases h
   exact absurd rfl (hX _ _ _)
  ·exact ⟨C,by rw [World.putObj_heap_other e];exact h,rfl⟩
 ·by_cases e:b'=b
  ·subst e
   unfold World.cell? at hc
   simp only [hb] at hc
   split at hc
   ·rename_i heq
    cases heq
    exact absurd rfl (hX _ _ _)
   ·cases hc
  ·unfold World.cell? at hc ⊢
   simp only [World.putObj_heap_other e]
   exact hc
def CRel.setSp (h:CRel F G vals H us w) {o b:Nat} {cs cs':List AV} {X:Obj} (ho:H[o]? =some (some cs)) (hb:G.obs[o]? =some b) (hk:(G.kind b).sp=true)
  (hX : ∀ C E f,X ≠ .cells C E f) (his:ORel F G (w.putObj b X) cs' b) {vs:List AV} {us':List Value} (hvs:LRel F G vs us' w) (hn : ∀ x,HC x vs us'<=HC x vals us) :
  CRel F G vs (H.set o (some cs')) us' (w.putObj b X)/\Ext F G w G (w.putObj b X):=by
 have hr:=h.h.obj o cs b ho hb
 have hnF:=hr.own
 have hlt:=hr.lt
 have hlen:=h.h.len
 have holt:o<H.length:=(AC.1 ho).1
 obtain ⟨X0,hX0,hne0⟩ : ∃ X0,w.heap[b]? =some X0 /\ ∀ C E f,X0 ≠ .cells C E f:=by
  refine ⟨_,Aj hlt,λC E f e=>?_⟩
  have hkk:=(hr.of_cells ((Aj hlt).trans (congrArg some e))).1
  rw [hkk] at hk;cases hk
 have he:Ext F G w G (w.putObj b X):=Ke hnF hX0 hne0
 have hother : ∀ b',b'≠b->(w.putObj b X).heap[b']? =w.heap[b']?:=λb' hne=>World.putObj_heap_other hne
 have hnew:(w.putObj b X).heap[b]? =some X:=World.putObj_heap_same hlt
 have htokne : ∀ {p:AV×Value} {x:Nat},GD F G w p->tok p=some x->x≠b:=λhp hx hxb=>by
  obtain ⟨_,⟨q,hq⟩,_⟩:=hp.of_tok hx
  rw [hxb] at hq;rw [hq] at hk;cases hk
 have htk : ∀ {p:AV×Value},GD F G w p->GD F G (w.putObj b X) p:=λhp=>hp.keep λx hx=>⟨(hp.of_tok hx).1,rfl,hother x (htokne hp hx)⟩
 have hset : ∀ (o':Nat) (cs2:List AV),(H.set o (some cs'))[o']? =some (some cs2)->(o'=o/\cs2=cs')\/(o'≠o/\H[o']? =some (some cs2)):=by
  intro o' cs2 h2
  rw [Aw] at h2
  split at h2
  ·rename_i heq
   subst heq
   simp [holt] at h2
   exact .inl ⟨rfl,h2.symm⟩
  ·rename_i hne
   exact .inr ⟨λe=>hne e.symm,h2⟩
 have hinj : ∀ o' cs2,o'≠o->H[o']? =some (some cs2)->G.obs[o']?≠some b:=λo' cs2 hne h2 h3=>hne (h.h.inj o' o cs2 cs b h2 ho h3 hb)
 refine ⟨⟨⟨hvs.len,λi a u h1 h2=>(hvs.rel i a u h1 h2).keep he.keeps,λi a u h1 h2 p hp=>htk (hvs.tok i a u h1 h2 p hp)⟩,⟨by simp [hlen],λo' cs2 b2 h2 h3=>?_,λo1 o2 c1 c2 b2 h1 h2 h3 h4=>?_,λb' hF=>by simpa using h.h.fore b' hF,h.h.glob.keep he.keeps⟩,λx=>?_⟩,he⟩
 ·rcases hset o' cs2 h2 with ⟨rfl,rfl⟩|⟨hne,h2'⟩
  ·rw [hb] at h3;cases h3
   exact his
  ·have hbne:b2≠b:=λe=>hinj o' cs2 hne h2' (e▸h3)
   exact (h.h.obj o' cs2 b2 h2' h3).keep he.keeps (h.h.obj o' cs2 b2 h2' h3).own rfl (hother b2 hbne) λ_ _ _ _ _ _ _ _ s3=>htk s3
 ·rcases hset o1 c1 h1 with ⟨rfl,rfl⟩|⟨hne1,h1'⟩<;>rcases hset o2 c2 h2 with ⟨rfl,rfl⟩|⟨hne2,h2'⟩
  ·rfl
  ·exact (h.h.inj o2 o1 c2 cs b2 h2' ho h4 h3).symm
  ·exact h.h.inj o1 o2 c1 cs b2 h1' ho h3 h4
  ·exact h.h.inj o1 o2 c1 c2 b2 h1' h2' h3 h4
 ·have hall:IJ G (H.set o (some cs')) (w.putObj b X) x<=IJ G H w x:=by
   unfold IJ
   simp only [Ap]
   have hone:=JK (n:=H.length) (d:=o) (f:=λo'=>(Gp G (H.set o (some cs')) (w.putObj b X) o').count x) (g:=λo'=>(Gp G H w o').count x) holt (λo' ho' hne=>by
    congr 1
    unfold Gp
    rw [Aw,iN (λe=>hne e.symm)]
    cases g1:H[o']? with
    | none=>rfl
    | some x2=>cases x2 with
     | none=>rfl
     | some cs2=>cases g2:G.obs[o']? with
      | none=>rfl
      | some b2=>simp only [hother b2 (λe=>hinj o' cs2 hne g1 (e▸g2))])
   have e1:Gp G (H.set o (some cs')) (w.putObj b X) o=[]:=by
    rw [eR (cs:=cs') (b:=b) (by rw [Aw,iP rfl,iP holt]) hb hnew]
    cases X<;>first|rfl|exact absurd rfl (hX _ _ _)
   rw [e1] at hone
   simp only [Bd] at hone
   omega
  have h1:=h.cnt x
  have h2:=hn x
  omega
def CRel.setLoop (h:CRel F G vals H us w) {o b:Nat} {st st':Int} {av:List AV} {L:LoopRec} (ho:H[o]? =some (some (G8 st av))) (hb:G.obs[o]? =some b) (hk:G.kind b = .loop L)
  {s':LoopState} {p':Option Code} (hs:MV s' p'=some st') :
  ∃ r:Loop,w.heap[b]? =some (.loop r)/\MV r.state r.pending=some st/\r.params=L.ps/\r.assign=L.assign/\r.body=L.body /\
   av.length=r.tmps.size/\(∀ (i:Nat) (a:AV) (u:Value),av[i]? =some a->r.tmps[i]? =some u->a.borrow=a/\VRel G w a u) /\
   CRel F G vals (H.set o (some (G8 st' av))) us (w.putObj b (.loop { r with state:=s',pending:=p' }))/\Ext F G w G (w.putObj b (.loop { r with state:=s',pending:=p' })):=by
 have hr:=h.h.obj o _ b ho hb
 have hlt:=hr.lt
 have hi:=hr.is
 rw [hk] at hi
 obtain ⟨s,pe,t,D,st0,vals0,g1,g2,g3,g4,g5⟩:=hi
 simp only [G8,List.cons.injEq,AV.tup.injEq,and_true,AV.int.injEq,true_and] at g3
 obtain ⟨rfl,rfl⟩:=g3
 have hsp:(G.kind b).sp=true:=by rw [hk];rfl
 have he:Ext F G w G (w.putObj b (.loop { state:=s',pending:=p',fn:=D.1,tmps:=t,params:=L.ps,assign:=L.assign,body:=L.body,defers:=D.2 })):=Ke hr.own g1 (λ_ _ _ e=>by cases e)
 refine ⟨_,g1,g2,rfl,rfl,rfl,g4,g5, ?_⟩
 refine h.setSp ho hb hsp (λ_ _ _ e=>by cases e) ⟨hr.own, ?_⟩ h.l (λx=>AU _)
 rw [hk]
 exact ⟨s',p',t,D,st',av,World.putObj_heap_same hlt,hs,rfl,g4,λi a u h1 h2=>⟨(g5 i a u h1 h2).1,(g5 i a u h1 h2).2.keep he.keeps⟩⟩
def CRel.drop(h:CRel F G vals H us w)(o:Nat):CRel F G vals (H.set o none) us w:=by
 have hget : ∀ (o':Nat) (cs:List AV),(H.set o none)[o']? =some (some cs)->H[o']? =some (some cs):=λo' cs h2=>by
  rw [Aw] at h2
  split at h2
  ·split at h2<;>cases h2
  ·exact h2
 refine ⟨h.l,⟨by simp [h.h.len],λo' cs b h1 h2=>h.h.obj o' cs b (hget o' cs h1) h2,λo1 o2 c1 c2 b g1 g2 g3 g4=>h.h.inj o1 o2 c1 c2 b (hget _ _ g1) (hget _ _ g2) g3 g4,h.h.fore,h.h.glob⟩,λx=>?_⟩
 have hle:IJ G (H.set o none) w x<=IJ G H w x:=by
  unfold IJ
  simp only [Ap]
  by_cases holt:o<H.length
  ·have hone:=JK (n:=H.length) (d:=o) (f:=λo'=>(Gp G (H.set o none) w o').count x) (g:=λo'=>(Gp G H w o').count x) holt (λo' ho' hne=>by
    congr 1
    unfold Gp
    rw [Aw,iN (λe=>hne e.symm)])
   have e1:Gp G (H.set o none) w o=[]:=by
    unfold Gp
    rw [Aw,iP rfl,iP holt]
   rw [e1] at hone
   simp only [Bd] at hone
   omega
  ·rw [List.set_eq_of_length_le FO]
   exact AU _
 have:=h.cnt x
 omega
end
end Go.AI
namespace Go.AI
section
variable {P:Program} {F:Nat->Prop} {G:Gh} {w:World} {H:FP} {vals:List AV} {us:List Value}
def G6{es:List AV}{n:Nat}(h : ∀ e∈es,e.cells.length=n):(HU es).length=es.length*n:=by
 induction es with
 | nil=>simp [HU]
 | cons e es ih =>
  have h1:=h e sm
  have h2:=ih λx hx=>h x (by simp [hx])
  simp only [HU,BJ,AF,AD] at h2 ⊢
  rw [h1,h2,Nat.succ_mul]
  omega
def Kl(es fs:List AV):HU (es++fs)=HU es++HU fs:=by simp [HU]
def pZ(own:Option Nat)(es:List AV)(b q len cap:Nat):Gs (.sl own es) (.slice (some ⟨b,q,none⟩) len cap)=(tok (.sl own es,.slice (some ⟨b,q,none⟩) len cap)).toList:=by
 simp only [Gs,LE,AV.flat,AV.cells,IA,Value.cells,B4,Du,B5,Cd]
 cases tok (AV.sl own es,Value.slice (some ⟨b,q,none⟩) len cap)<;>rfl
def QT(own:Option Nat)(es:List AV)(u:Value)(a:Option Addr)(len cap:Nat)(hu:u = .slice a len cap):LE (.sl own es) u=[(.sl own es,u)]:=by
 subst hu;rfl
def CRel.newList (h:CRel F G vals H us w) (es:List AV) (n cap:Nat) (C:Array Value) (E:TypeId) (hn0:0<n) (hsz : ∀ e∈es,e.cells.length=n) (hl:es.length<=cap) (hm:cap<=maxLen)
  (hcap:cap*n<=C.size) (hc : ∀ (i:Nat) (c:AV),(HU es)[i]? =some c->c.scalar=true /\ ∃ v,C[i]? =some v/\VRel G w c v) :
  ∃ G',CRel F G' [.sl (some n) es] H [.slice (some ⟨w.heap.size,0,none⟩) es.length cap] (w.alloc (.cells C E))/\Ext F G w G' (w.alloc (.cells C E)):=by
 have h1:=h.alloc (.cells C E) (.buf (es.length*n))
 have he:=Pf (F:=F) (G:=G) (w:=w) (.cells C E) (.buf (es.length*n)) h.h.fore G.obs (λ_ _ h=>h)
 have hnew:(w.alloc (.cells C E)).heap[w.heap.size]? =some (.cells C E (0,0)):=heap_alloc_new w (.cells C E)
 have hsafe : ∀ i,i<(HU es).length->(G.setKind w.heap.size (.buf (es.length*n))).safe w.heap.size i:=λi hi=>by
  rw [G6 hsz] at hi
  simp [Gh.safe,Gh.kind_set,hi]
 have hcell : ∀ (i:Nat) (v:Value),C[i]? =some v->(w.alloc (.cells C E)).cell? ⟨w.heap.size,0+i,none⟩=some v:=λi v hv=>by
  rw [AY,cell_of_row _ _ i C E _ hnew];exact hv
 let u:Nat->Value:=λi=>(C[i]?).getD Go.undef
 refine ⟨_,⟨.cons ?_ (λp hp=>?_) (.nil F _ _),h1.h,λb=>?_⟩,he⟩
 ·refine .sl (some n) es n w.heap.size 0 cap u hsz (λm hm=>by cases hm;exact ⟨rfl,hn0⟩) hl hm (λi c hi=>?_) (λi c hi=>?_)
  ·obtain ⟨s1,v,s2,s3⟩:=hc i c hi
   refine ⟨s1, ?_, ?_⟩
   ·rw [AY];exact hsafe i (AC.1 hi).1
   ·rw [hcell i v s2];simp [u,s2]
  ·obtain ⟨s1,v,s2,s3⟩:=hc i c hi
   have:u i=v:=by simp [u,s2]
   rw [this]
   exact s3.keep he.keeps
 ·rw [QT _ _ _ _ _ _ rfl] at hp
  simp only [Ac] at hp
  subst hp
  intro _
  refine ⟨λhF=>absurd (h.h.fore _ hF) (Bq _), ?_,C,E,hnew,by simpa using hcap⟩
  simp [Gh.kind_set]
 ·rw [FY,GS,pZ]
  by_cases hb:b=w.heap.size
  ·subst hb
   have h0 : ¬ 0<IJ (G.setKind w.heap.size (.buf (es.length*n))) H (w.alloc (.cells C E)) w.heap.size:=λhp=>by
    rw [M4 (G:=G) (w:=w) (G':=G.setKind w.heap.size (.buf (es.length*n))) rfl λo' cs b' h1 h2=>HS _ (h.h.block_lt h1 h2)] at hp
    obtain ⟨_,_,C',E',hh⟩:=h.h.tok_of_pos hp
    exact absurd (Ao.1 hh).1 (Bq _)
   have:((tok (AV.sl (some n) es,Value.slice (some ⟨w.heap.size,0,none⟩) es.length cap)).toList).count w.heap.size<=1:=by
    refine AK Dv ?_
    cases tok (AV.sl (some n) es,Value.slice (some ⟨w.heap.size,0,none⟩) es.length cap)<;>simp
   omega
  ·have h0:((tok (AV.sl (some n) es,Value.slice (some ⟨w.heap.size,0,none⟩) es.length cap)).toList).count b=0:=by
    refine Dw.2 λhmem=>?_
    simp only [tok] at hmem
    split at hmem
    ·simp at hmem;exact hb hmem
    ·simp at hmem
   have:=h1.cnt b
   omega
def CRel.appendIn (h:CRel F G vals H us w) {es xs:List AV} {n b q cap:Nat} {i0:Nat} (hv:vals[i0]? =some (.sl (some n) es)) (hu:us[i0]? =some (.slice (some ⟨b,q,none⟩) es.length cap))
  (hroom:es.length+xs.length<=cap) (hpos:es.length<cap) (hxs : ∀ e∈xs,e.cells.length=n) (news:List Value) (hnl:news.length=xs.length*n)
  (hnew : ∀ (i:Nat) (c:AV),(HU xs)[i]? =some c->c.scalar=true /\ ∃ v,news[i]? =some v/\VRel G w c v)
  {C:Array Value} {E:TypeId} (hrow:w.heap[b]? =some (.cells C E (0,0))) :
  q+es.length*n+news.length<=C.size /\
  ∃ G',CRel F G' [.sl (some n) (es++xs)] H [.slice (some ⟨b,q,none⟩) (es.length+xs.length) cap] (w.setRow b (C.toList.take (q+es.length*n)++news++C.toList.drop (q+es.length*n+news.length)).toArray) /\
   Ext F G w G' (w.setRow b (C.toList.take (q+es.length*n)++news++C.toList.drop (q+es.length*n+news.length)).toArray):=by
 have htok:=h.l.tok i0 _ _ hv hu (.sl (some n) es,.slice (some ⟨b,q,none⟩) es.length cap) (by rw [QT _ _ _ _ _ _ rfl];simp)
 obtain ⟨hnF,hkind,C2,E2,hrow2,hfit⟩:=htok hpos
 replace hnF : ¬ F b:=hnF
 replace hkind:G.kind b = .buf (q+es.length*n):=hkind
 replace hrow2:w.heap[b]? =some (.cells C2 E2 (0,0)):=hrow2
 replace hfit:q+cap*n<=C2.size:=hfit
 rw [hrow] at hrow2;cases hrow2
 have hrel:=h.l.rel i0 _ _ hv hu
 have htk0:tok (AV.sl (some n) es,Value.slice (some ⟨b,q,none⟩) es.length cap)=some b:=by simp [tok,hpos]
 have hcnt1:0<HC b vals us:=MG hv hu (p:=(.sl (some n) es,.slice (some ⟨b,q,none⟩) es.length cap)) (by rw [QT _ _ _ _ _ _ rfl];simp) htk0
 have hlen:q+es.length*n+news.length<=C.size:=by
  have:=BF n hroom
  rw [A2] at this
  omega
 refine ⟨hlen, ?_⟩
 let C':Array Value:=(C.toList.take (q+es.length*n)++news++C.toList.drop (q+es.length*n+news.length)).toArray
 have hC':C'=(C.toList.take (q+es.length*n)++news++C.toList.drop (q+es.length*n+news.length)).toArray:=rfl
 have hsize:C'.size=C.size:=by
  rw [hC']
  simp only [BV,AF,BC,Ce,Br]
  omega
 have hlow : ∀ i,i<q+es.length*n->C'[i]? =C[i]?:=λi hi=>by
  rw [hC']
  simp only [Bf,AE]
  rw [AT (by simp;omega),Ak,iP hi]
  simp
 have hmid : ∀ i,i<news.length->C'[q+es.length*n+i]? =news[i]?:=λi hi=>by
  rw [hC']
  simp only [Bf,AE]
  have ht:(C.toList.take (q+es.length*n)).length=q+es.length*n:=by simp;omega
  rw [AM FO,ht,A0,AT hi]
 rw [<- hC']
 let G':Gh:=G.setKind b (.buf (q+(es.length+xs.length)*n))
 have hle:q+es.length*n<=q+(es.length+xs.length)*n:=by rw [A2];omega
 have hrow':(w.setRow b C').heap[b]? =some (.cells C' E (0,0)):=setRow_heap w b C C' E _ hrow
 have he:Ext F G w G' (w.setRow b C'):=by
  refine ⟨sm,⟨λ_ _ h=>h,λb' C2 E2 h2=>?_,λb' hb' hs=>⟨by simpa using hb',G.kind_set_ne _ (λe=>by subst e;rw [hkind] at hs;cases hs)⟩,λb' off v hs hcell=>?_⟩,λb' hb'=>G.kind_set_ne _ (λe=>hnF (e▸hb')),λb' hb'=>setRow_other w b b' C' (λe=>hnF (e▸hb')),⟨rfl,rfl,rfl⟩⟩
  ·by_cases hbb:b'=b
   ·subst hbb
    rw [hrow] at h2;cases h2
    exact ⟨C',hrow',hsize⟩
   ·exact ⟨C2,by rw [setRow_other w b b' C' hbb];exact h2,rfl⟩
  ·by_cases hbb:b'=b
   ·subst hbb
    have hs':off<q+es.length*n:=by simpa [Gh.safe,hkind] using hs
    refine ⟨by simp [Gh.safe,G',Gh.kind_set];omega, ?_⟩
    rw [cell_of_row _ _ off C' E _ hrow',hlow off hs']
    rw [cell_of_row _ _ off C E _ hrow] at hcell
    exact hcell
   ·exact ⟨(G.safe_set_ne _ hbb).2 hs,by rw [cell_setRow_other w b C' _ hbb];exact hcell⟩
 have hh0:IJ G H w b=0:=by have:=h.cnt b;omega
 refine ⟨G',⟨.cons ?_ (λp hp=>?_) (.nil F _ _),h.h.ext he rfl λb' hb'=>?_,λx=>?_⟩,he⟩
 · -- the longer list
  cases hrel with
  | slany=>exact absurd hpos sm
  | sl own es' sz b' q' cap' u hsz hown hl hm hcs hus =>
   have hn:n=sz:=(hown n rfl).1
   have hn0:0<n:=(hown n rfl).2
   subst hn
   have hcl:=G6 hsz
   have hcx:=G6 hxs
   let u':Nat->Value:=λi=>if i<es.length*n then u i else (news[i - es.length*n]?).getD Go.undef
   have:=VRel.sl (G:=G') (w:=w.setRow b C') (some n) (es++xs) n b q cap u' (λe he=>by
     rcases List.mem_append.1 he with h1|h1
     ·exact hsz e h1
     ·exact hxs e h1) (λm hm=>by cases hm;exact ⟨rfl,hn0⟩) (by simpa using hroom) hm (λi c hi=>?_) (λi c hi=>?_)
   ·simpa using this
   ·rw [Kl] at hi
    by_cases hlt:i<es.length*n
    ·rw [AT FO] at hi
     obtain ⟨s1,s2,s3⟩:=hcs i c hi
     obtain ⟨k1,k2⟩:=he.keeps.safe b (q+i) _ s2 s3
     exact ⟨s1,k1,by simp only [u',hlt,if_true];exact k2⟩
    ·rw [AM FO,hcl] at hi
     obtain ⟨s1,v,s2,s3⟩:=hnew _ c hi
     have hlt2:=(AC.1 hi).1
     rw [hcx] at hlt2
     refine ⟨s1, ?_, ?_⟩
     ·simp only [Gh.safe,G',Gh.kind_set,A2];omega
     ·rw [cell_of_row _ _ (q+i) C' E _ hrow']
      have e:=hmid (i - es.length*n) FO
      rw [show q+es.length*n+(i - es.length*n)=q+i by omega] at e
      rw [e]
      simp only [u',hlt,if_false]
      rw [s2];rfl
   ·rw [Kl] at hi
    by_cases hlt:i<es.length*n
    ·rw [AT FO] at hi
     simp only [u',hlt,if_true]
     exact (hus i c hi).keep he.keeps
    ·rw [AM FO,hcl] at hi
     obtain ⟨s1,v,s2,s3⟩:=hnew _ c hi
     simp only [u',hlt,if_false]
     rw [s2]
     exact s3.keep he.keeps
 ·rw [QT _ _ _ _ _ _ rfl] at hp
  simp only [Ac] at hp
  subst hp
  intro _
  exact ⟨hnF,by simp [G',Gh.kind_set],C',E,hrow',by show q+cap*n<=C'.size;omega⟩
 ·have hne:b'≠b:=by
   rcases hb' with ⟨o,cs,h1,h2⟩|hb'
   ·intro e
    subst e
    exact (h.h.obj o cs b' h1 h2).no_buf hkind
   ·intro e;subst e;omega
  exact ⟨G.kind_set_ne _ hne,setRow_other w b b' C' hne⟩
 ·rw [FY,GS,pZ]
  have hhc:IJ G' H (w.setRow b C') x=IJ G H w x:=M4 rfl (λo cs b' h1 h2=>setRow_other w b b' C' λe=>by
   subst e
   exact (h.h.obj o cs b' h1 h2).no_buf hkind) x
  rw [hhc]
  have hcx:=h.cnt x
  by_cases hx:x=b
  ·subst hx
   have:((tok (AV.sl (some n) (es++xs),Value.slice (some ⟨x,q,none⟩) (es.length+xs.length) cap)).toList).count x<=1:=by
    refine AK Dv ?_
    cases tok (AV.sl (some n) (es++xs),Value.slice (some ⟨x,q,none⟩) (es.length+xs.length) cap)<;>simp
   omega
  ·have h0:((tok (AV.sl (some n) (es++xs),Value.slice (some ⟨b,q,none⟩) (es.length+xs.length) cap)).toList).count x=0:=by
    refine Dw.2 λhmem=>?_
    simp only [tok] at hmem
    split at hmem
    ·simp at hmem;exact hx hmem
    ·simp at hmem
   omega
end
end Go.AI
namespace Go.AI
structure Cells (F:Nat->Prop) (G:Gh) (w:World) (cs:List AV) (vs:List Value):Prop where
 len:cs.length=vs.length
 at_ : ∀ (i:Nat) (c:AV) (v:Value),cs[i]? =some c->vs[i]? =some v->c.scalar=true/\VRel G w c v/\GD F G w (c,v)
def Gy(cs:List AV)(vs:List Value):List Nat:=(cs.zip vs).filterMap tok
section
variable {P:Program} {F:Nat->Prop} {G:Gh} {w:World}
def I5{a b:List AV}{x y:List Value}(h:a.length=x.length):Gy (a++b) (x++y)=Gy a x++Gy b y:=by
 simp [Gy,Cz h]
def Cells.append{a b:List AV}{x y:List Value}(h:Cells F G w a x)(h':Cells F G w b y):Cells F G w (a++b) (x++y):=by
 have hl:=h.len
 refine ⟨by simp [h.len,h'.len],λi c v h1 h2=>?_⟩
 by_cases hi:i<a.length
 ·rw [AT hi] at h1;rw [AT FO] at h2;exact h.at_ i c v h1 h2
 ·rw [AM FO] at h1;rw [AM FO] at h2
  exact h'.at_ (i - a.length) c v h1 (by rw [hl];exact h2)
def Cells.take{cs:List AV}{vs:List Value}(h:Cells F G w cs vs)(k:Nat):Cells F G w (cs.take k) (vs.take k):=by
 refine ⟨by simp [h.len],λi c v h1 h2=>?_⟩
 rw [Ak] at h1 h2
 split at h1
 ·rename_i hi
  rw [iP hi] at h2
  exact h.at_ i c v h1 h2
 ·cases h1
def Cells.drop{cs:List AV}{vs:List Value}(h:Cells F G w cs vs)(k:Nat):Cells F G w (cs.drop k) (vs.drop k):=by
 refine ⟨by simp [h.len],λi c v h1 h2=>?_⟩
 rw [A1] at h1 h2
 exact h.at_ (k+i) c v h1 h2
def Cells.nil:Cells F G w [] []:=⟨rfl,λi c v h=>by simp at h⟩
def Cells.map_borrow{cs:List AV}{vs:List Value}(h:Cells F G w cs vs):Cells F G w (cs.map borrow1) vs:=by
 refine ⟨by simp [h.len],λi c v h1 h2=>?_⟩
 rw [Ab] at h1
 cases hc:cs[i]? with
 | none=>rw [hc] at h1;cases h1
 | some d =>
  rw [hc] at h1;cases h1
  obtain ⟨s1,s2,_⟩:=h.at_ i d v hc h2
  exact ⟨by rw [GT];exact s1,s2.borrow1,F7 (Gc d v)⟩
def aj(cs:List AV)(vs:List Value):Gy (cs.map borrow1) vs=[]:=by
 unfold Gy
 rw [B3]
 intro p hp
 have:=(Cc (show (p.1,p.2)∈_ from hp)).1
 obtain ⟨d,_,hd⟩:=AP.1 this
 rw [show p=(borrow1 d,p.2) by rw [hd]]
 exact Gc d p.2
def Hr(vs:List Value)(off:Nat)(ys:List Value):List Value:=vs.take off++ys++vs.drop (off+ys.length)
def MP{cs xs:List AV}{off:Nat}(h:off+xs.length<=cs.length):(splice cs off xs).length=cs.length:=by
 simp [splice];omega
def Cells.splice{cs xs:List AV}{vs ys:List Value}{off:Nat}(h:Cells F G w cs vs)(h':Cells F G w xs ys):Cells F G w (splice cs off xs) (Hr vs off ys):=by
 unfold Go.AI.splice Hr
 rw [h'.len]
 exact ((h.take off).append h').append (h.drop _)
def Oz(cs:List AV)(vs:List Value)(off k:Nat)(h:cs.length=vs.length):
  Gy cs vs=Gy (cs.take off) (vs.take off)++Gy ((cs.drop off).take k) ((vs.drop off).take k)++Gy (cs.drop (off+k)) (vs.drop (off+k)):=by
 have e1:cs=cs.take off++((cs.drop off).take k++cs.drop (off+k)):=by
  rw [<- A8,A9,A9]
 have e2:vs=vs.take off++((vs.drop off).take k++vs.drop (off+k)):=by
  rw [<- A8,A9,A9]
 have e3:=I5 (a:=cs.take off) (b:=(cs.drop off).take k++cs.drop (off+k)) (x:=vs.take off) (y:=(vs.drop off).take k++vs.drop (off+k)) (by simp [h])
 rw [<- e1,<- e2,I5 (by simp [h])] at e3
 rw [e3,AE]
def Nl{cs xs:List AV}{vs ys:List Value}{off:Nat}(hl:cs.length=vs.length)(hx:xs.length=ys.length)(b:Nat):
  (Gy (splice cs off xs) (Hr vs off ys)).count b<=(Gy cs vs).count b+(Gy xs ys).count b:=by
 rw [Oz cs vs off xs.length hl]
 unfold splice Hr
 rw [<- hx,I5 (by simp [hl,hx]),I5 (by simp [hl])]
 simp only [Cf]
 omega
def iG{cs:List AV}{vs:List Value}{off k:Nat}(hl:cs.length=vs.length)(b:Nat)(hk:off+k<=cs.length):
  (Gy (splice cs off (((cs.drop off).take k).map borrow1)) vs).count b+(Gy ((cs.drop off).take k) ((vs.drop off).take k)).count b<=(Gy cs vs).count b:=by
 have hlen:(((cs.drop off).take k).map borrow1).length=k:=by simp;omega
 have e2:vs=vs.take off++(vs.drop off).take k++vs.drop (off+k):=by
  rw [AE,<- A8,A9,A9]
 have e:Gy (splice cs off (((cs.drop off).take k).map borrow1)) vs=Gy (cs.take off) (vs.take off)++Gy (((cs.drop off).take k).map borrow1) ((vs.drop off).take k)++Gy (cs.drop (off+k)) (vs.drop (off+k)):=by
  unfold splice
  rw [hlen]
  have e3:Gy (cs.take off++((cs.drop off).take k).map borrow1++cs.drop (off+k)) (vs.take off++(vs.drop off).take k++vs.drop (off+k))=_ :=
   I5 (by simp [hl])
  rw [<- e2] at e3
  rw [e3,I5 (by simp [hl])]
 rw [e,aj,Oz cs vs off k hl]
 simp only [Cf,Bd]
 omega
def Cells.unown{cs:List AV}{vs:List Value}(h:Cells F G w cs vs)(off k:Nat)(hk:off+k<=cs.length):Cells F G w (Go.AI.splice cs off (((cs.drop off).take k).map borrow1)) vs:=by
 have h1:=h.splice (off:=off) ((h.drop off).take k).map_borrow
 have hl:=h.len
 have e:Hr vs off ((vs.drop off).take k)=vs:=by
  unfold Hr
  have:((vs.drop off).take k).length=k:=by simp;omega
  rw [this,AE,<- A8,A9,A9]
 rw [e] at h1
 exact h1
def L6{v:AV}{u:Value}(hv:v.isVal=true)(h:VRel G w v u)(ht : ∀ p∈LE v u,GD F G w p):Cells F G w v.cells u.cells.toList/\Gs v u=Gy v.cells u.cells.toList:=by
 have one : ∀ (c:AV) (x:Value),c.scalar=true->VRel G w c x->c.cells=[c]->c.flat=[c]->x.cells=#[x]->IA x=[x]->(∀ p∈LE c x,GD F G w p) ->
   Cells F G w c.cells x.cells.toList/\Gs c x=Gy c.cells x.cells.toList:=by
  intro c x hs hr h1 h2 h3 h4 h5
  rw [h1,h3]
  refine ⟨⟨rfl,λi d y hd hy=>?_⟩, ?_⟩
  ·cases i with
   | zero =>
    simp at hd hy
    subst hd;subst hy
    exact ⟨hs,hr,h5 (c,x) (by simp [LE,h2,h4])⟩
   | succ i=>simp at hd
  ·simp [Gs,LE,h2,h4,Gy]
 cases h with
 | agg cs vs hl hs hr =>
  refine ⟨⟨by simpa [AV.cells,Value.cells] using hl,λi c x hi hx=>?_⟩,rfl⟩
  simp only [AV.cells] at hi
  simp only [Value.cells,Ae] at hx
  refine ⟨hs c (AB hi),hr i c x hi hx,ht (c,x) ?_⟩
  refine AB (i:=i) ?_
  simp only [LE,AV.flat,AV.cells,IA,Value.cells]
  rw [Bc]
  exact ⟨hi,by simpa using hx⟩
 | undef v=>cases hv
 | tup=>cases hv
 | int k n=>exact one _ _ rfl (.int k n) rfl rfl rfl rfl ht
 | bool b=>exact one _ _ rfl (.bool b) rfl rfl rfl rfl ht
 | str s=>exact one _ _ rfl (.str s) rfl rfl rfl rfl ht
 | nilp=>exact one _ _ rfl .nilp rfl rfl rfl rfl ht
 | ptr o off b h hc=>exact one _ _ rfl (.ptr o off b h hc) rfl rfl rfl rfl ht
 | cptr cs off b q u h hu=>exact one _ _ rfl (.cptr cs off b q u h hu) rfl rfl rfl rfl ht
 | slnil own=>exact one _ _ rfl (.slnil own) rfl rfl rfl rfl ht
 | slany own a=>exact one _ _ rfl (.slany own a) rfl rfl rfl rfl ht
 | sl own es sz b q cap u hsz hown hl hm h hu=>exact one _ _ rfl (.sl own es sz b q cap u hsz hown hl hm h hu) rfl rfl rfl rfl ht
 | msl o off len sz b cap h hl hm hc=>exact one _ _ rfl (.msl o off len sz b cap h hl hm hc) rfl rfl rfl rfl ht
 | mslc o off len sz cap b h hl hm hc=>exact one _ _ rfl (.mslc o off len sz cap b h hl hm hc) rfl rfl rfl rfl ht
 | fn f first captured fi ca h1 h2 h3 h4=>exact one _ _ rfl (.fn f first captured fi ca h1 h2 h3 h4) rfl rfl rfl rfl ht
 | nilf=>exact one _ _ rfl .nilf rfl rfl rfl rfl ht
 | mapr o b h hb hk=>exact one _ _ rfl (.mapr o b h hb hk) rfl rfl rfl rfl ht
 | it o b h hb hk=>exact one _ _ rfl (.it o b h hb hk) rfl rfl rfl rfl ht
 | nilm=>exact one _ _ rfl .nilm rfl rfl rfl rfl ht
 | yld o b L h hb hk=>exact one _ _ rfl (.yld o b L h hb hk) rfl rfl rfl rfl ht
 | ifc t a v hs h=>exact one _ _ rfl (.ifc t a v hs h) rfl rfl rfl rfl ht
 | nili=>exact one _ _ rfl .nili rfl rfl rfl rfl ht
def NX{c:AV}{v:Value}(hs:c.scalar=true)(h:VRel G w c v):v.oneCell'=true:=by
 cases h<;>first|rfl|cases hs
def Cells.oneCell{cs:List AV}{vs:List Value}(h:Cells F G w cs vs): ∀ v∈vs,v.oneCell'=true:=by
 intro v hv
 obtain ⟨i,hi⟩:=Af hv
 have hlt:=(AC.1 hi).1
 have hc:cs[i]? =some (cs[i]'(by rw [h.len];exact hlt)):=AL _
 obtain ⟨s1,s2,_⟩:=h.at_ i _ v hc hi
 exact NX s1 s2
def oV{cs:List AV}{vs:List Value}(h:Cells F G w cs vs):VRel G w (.agg cs) (.agg vs.toArray)/\(∀ p∈LE (.agg cs) (.agg vs.toArray),GD F G w p)/\Gs (.agg cs) (.agg vs.toArray)=Gy cs vs:=by
 refine ⟨.agg _ _ (by simpa using h.len) (λc hc=>?_) (λi c v hi hv=>(h.at_ i c v hi (by simpa using hv)).2.1),λp hp=>?_,rfl⟩
 ·obtain ⟨i,hi⟩:=Af hc
  have hlt:=(AC.1 hi).1
  have hv:vs[i]? =some (vs[i]'(by rw [<- h.len];exact hlt)):=AL _
  exact (h.at_ i c _ hi hv).1
 ·obtain ⟨i,hi⟩:=Af hp
  simp only [LE,AV.flat,AV.cells,IA,Value.cells] at hi
  rw [Bc] at hi
  exact (h.at_ i p.1 p.2 hi.1 (by simpa using hi.2)).2.2
end
end Go.AI
namespace Go.AI
open Go.MapKept
def Sq:AV->Option Value
 | .agg cs=>if cs.all (λc=>(QY c).isSome)=true then some (.agg (cs.map λc=>(QY c).getD Go.undef).toArray) else none
 | c=>QY c
def Ng:AV->AV->Bool
 | .int k n,.int k' n'=>decide (k=k')&&decide (n=n')
 | .str a,.str b=>decide (a=b)
 | .bool a,.bool b=>a==b
 | _,_=>false
def Qh:List AV->List AV->Bool
 | [],[]=>true
 | a::as,b::bs=>Ng a b&&Qh as bs
 | _,_=>false
def Ht:AV->AV->Bool
 | .agg as,.agg bs=>Qh as bs
 | a,b=>Ng a b
def V1{a b:AV}{x y:Value}(ha:QY a=some x)(hb:QY b=some y):Ng a b=true↔x=y:=by
 cases a<;>cases ha<;>cases b<;>cases hb<;>simp [Ng]
def V0 : ∀ {as bs:List AV},as.all (λc=>(QY c).isSome)=true->bs.all (λc=>(QY c).isSome)=true ->
  (Qh as bs=true↔as.map (λc=>(QY c).getD Go.undef)=bs.map (λc=>(QY c).getD Go.undef))
 | [],[],_,_=>by simp [Qh]
 | [],_::_,_,_=>by simp [Qh]
 | _::_,[],_,_=>by simp [Qh]
 | a::as,b::bs,ha,hb=>by
  simp only [Al,AQ] at ha hb
  obtain ⟨x,hx⟩:=Bg.1 ha.1
  obtain ⟨y,hy⟩:=Bg.1 hb.1
  simp only [Qh,AQ,AS,List.cons.injEq,V0 ha.2 hb.2,V1 hx hy,hx,hy,BQ]
def Rc{a:AV}(h : ∀ cs,a ≠ .agg cs):Sq a=QY a:=by cases a<;>first|rfl|exact absurd rfl (h _)
def PY{a b:AV}{x y:Value}(ha:Sq a=some x)(hb:Sq b=some y):Ht a b=true↔x=y:=by
 have agg : ∀ {cs:List AV} {z:Value},Sq (.agg cs)=some z->cs.all (λc=>(QY c).isSome)=true/\z = .agg (cs.map λc=>(QY c).getD Go.undef).toArray:=λh=>by
  simp only [Sq] at h
  split at h
  ·rename_i hh;cases h;exact ⟨hh,rfl⟩
  ·cases h
 by_cases h1 : ∃ cs,a = .agg cs
 ·obtain ⟨cs,rfl⟩:=h1
  obtain ⟨g1,rfl⟩:=agg ha
  by_cases h2 : ∃ ds,b = .agg ds
  ·obtain ⟨ds,rfl⟩:=h2
   obtain ⟨g2,rfl⟩:=agg hb
   simp only [Ht,V0 g1 g2,Value.agg.injEq]
   exact ⟨λh=>by rw [h],λh=>by simpa using congrArg Array.toList h⟩
  ·rw [Rc (λcs h=>h2 ⟨cs,h⟩)] at hb
   cases b<;>cases hb<;>simp [Ht,Ng]
 ·rw [Rc (λcs h=>h1 ⟨cs,h⟩)] at ha
  by_cases h2 : ∃ ds,b = .agg ds
  ·obtain ⟨ds,rfl⟩:=h2
   obtain ⟨g2,rfl⟩:=agg hb
   cases a<;>cases ha<;>simp [Ht,Ng]
  ·rw [Rc (λcs h=>h2 ⟨cs,h⟩)] at hb
   have:Ht a b=Ng a b:=by cases a<;>first|rfl|exact absurd ⟨_,rfl⟩ h1
   rw [this];exact V1 ha hb
def fI{G:Gh}{w:World}{a:AV}{x v:Value}(ha:QY a=some x)(h:VRel G w a v):v=x:=by
 cases a<;>cases ha<;>cases h<;>rfl
def Vy{G:Gh}{w:World}{a:AV}{x v:Value}(ha:Sq a=some x)(h:VRel G w a v):v=x:=by
 by_cases h1 : ∃ cs,a = .agg cs
 ·obtain ⟨cs,rfl⟩:=h1
  cases h with
  | agg cs vs hl hs hr =>
   simp only [Sq] at ha
   split at ha
   ·rename_i hh
    cases ha
    congr 1
    apply Bm
    apply A5
    intro i
    simp only [Ab]
    cases hc:cs[i]? with
    | none =>
     have:cs.length<=i:=List.getElem?_eq_none_iff.1 hc
     simp only [Option.map_none]
     exact Az (by simpa [<- hl] using this)
    | some c =>
     have hlt:=(AC.1 hc).1
     have hv:vs[i]? =some (vs[i]' FO):=Aj _
     have hlc:=An.1 hh c (AB hc)
     obtain ⟨y,hy⟩:=Bg.1 hlc
     rw [Ae,hv,BU,hy]
     exact congrArg some (fI hy (hr i c _ hc hv))
   ·cases ha
 ·rw [Rc (λcs h=>h1 ⟨cs,h⟩)] at ha
  exact fI ha h
def ABO{a:AV}{x:Value}(ha:Sq a=some x):a.isVal=true:=by
 cases a<;>first|rfl|cases ha
structure KLaw (P:Program) (kt:TypeId) (D:Value->Prop):Prop where
 check : ∀ (w:World) (em:Bool) {v:Value},D v->(Instr.checkKey em 10000 kt v).run P w = .ok () w
 find : ∀ (w:World) {x:Value},D x -> ∀ es:List MapEntry,(∀ e∈es,D e.key) ->
  ((Instr.findKey kt x es).run P w = .ok none w /\ ∀ e∈es,e.key≠x) \/ ∃ j e,(Instr.findKey kt x es).run P w = .ok (some (j,e.val)) w/\es[j]? =some e/\e.key=x
 stays : ∀ (w:World) {v:Value},D v->(Instr.keyThatStays v v).run P w = .ok v w
def KLaw.plain{P:Program}{kt:TypeId}{d:TypeDesc}(hd:P.underlying kt=some d):KLaw P kt (IsKey d) where
 check w em _ hv:=run_checkKey hd hv em 9999
 find w x hx es hes:=by
  rcases findNow_spec hx es 0 hes with ⟨h1,h2⟩|⟨j,e0,h1,h2,h3⟩
  ·exact .inl ⟨run_findKey hd h1,h2⟩
  ·exact .inr ⟨j,e0,by simpa using run_findKey hd h1,h2,h3⟩
 stays w _ hv:=run_keyThatStays hv
def KLaw.wide{P:Program}{kt:TypeId}(K:WideMaps.KeyLaw P kt):KLaw P kt (λv => ∃ l,keyOf P kt v=some l) where
 check w em _ hv:=K.check w em hv.choose_spec
 find w x hx es hes:=K.find w hx.choose_spec es hes
 stays w _ hv:=K.stays w hv.choose_spec
def MW(P:Program)(kt:TypeId)(ks:List AV):Prop:=∃ D:Value->Prop,KLaw P kt D /\ ∀ a∈ks,∃ v,Sq a=some v/\D v
def JD(k:AV):List (AV×AV)->Nat->Option (Nat×AV)
 | [],_=>none
 | p::es,i=>if Ht p.1 k=true then some (i,p.2) else JD k es (i+1)
def Rm(es:List (AV×AV)):Prop:=es.Pairwise λp q=>Ht p.1 q.1=false
def MU(es:List (AV×AV))(k v:AV):List (AV×AV) :=
 match JD k es 0 with
 | some (i,_)=>es.set i (k,v)
 | none=>es++[(k,v)]
def pt:List AV->Option (List (AV×AV))
 | []=>some []
 | [_]=>none
 | a::b::r=>(pt r).map ((a,b) :: ·)
def zG:List AV->Option (List (AV×AV))
 | [.tup vs]=>pt vs
 | _=>none
def VJ : ∀ es:List (AV×AV),pt (es.flatMap λp=>[p.1,p.2])=some es
 | []=>rfl
 | p::es=>by simp [pt,VJ es]
def TN(es:List (AV×AV)):zG (J1 es)=some es:=VJ es
def Im(H:FP):AV->Option (List (AV×AV))
 | .nilm=>some []
 | .mapr o=>match H[o]? with
  | some (some cs)=>zG cs
  | _=>none
 | _=>none
def fH(ok:Bool)(z:AV):Option (Nat×AV)->AV
 | some (_,v)=>if ok=true then .tup [v.borrow,.bool true] else v.borrow
 | none=>if ok=true then .tup [z.borrow,.bool false] else z.borrow
def Wl{k:AV}: ∀ {es:List (AV×AV)} {i:Nat},(∀ p∈es,Ht p.1 k=false)->JD k es i=none
 | [],_,_=>rfl
 | p::es,i,h=>by
  unfold JD
  rw [iN (by rw [h p sm];simp)]
  exact Wl λq hq=>h q (by simp [hq])
def jM{k:AV}: ∀ {es:List (AV×AV)} {i j:Nat} {p:AV×AV},es[j]? =some p->Ht p.1 k=true->(∀ (l:Nat) (q:AV×AV),es[l]? =some q->l<j->Ht q.1 k=false)->JD k es i=some (i+j,p.2)
 | [],_,_,_,h,_,_=>by simp at h
 | q::es,i,0,p,h,hk,_=>by
  simp only [A7,Option.some.injEq] at h
  subst h
  unfold JD
  rw [iP hk];rfl
 | q::es,i,j+1,p,h,hk,hb=>by
  unfold JD
  rw [iN (by rw [hb 0 q rfl FO];simp),jM (by simpa using h) hk λl q' hl hlt=>hb (l+1) q' (by simpa using hl) FO]
  rw [Ag,CC 1 j]
end Go.AI
namespace Go.AI
def Ia(ag:Bool)(sz:Nat):Nat->List AV->List AV
 | 0,_=>[]
 | k+1,cs=>(if ag=true then .agg (cs.take sz) else cs.headD .undef)::Ia ag sz k (cs.drop sz)
def Le(ag:Bool)(sz:Nat): ∀ (k:Nat) (cs:List AV),(Ia ag sz k cs).length=k
 | 0,_=>rfl
 | k+1,cs=>by simp [Ia,Le ag sz k]
def Lf{c:AV}(h:c.scalar=true):c.cells=[c]:=by cases c<;>first|rfl|cases h
def O2(ag:Bool)(sz:Nat)(hs:ag=true\/sz=1): ∀ (k:Nat) (cs:List AV),k*sz<=cs.length->(∀ c∈cs,c.scalar=true) ->
  HU (Ia ag sz k cs)=cs.take (k*sz) /\ ∀ e∈Ia ag sz k cs,e.cells.length=sz
 | 0,cs,_,_=>by simp [Ia,HU]
 | k+1,cs,hk,hc=>by
  have hk':sz+k*sz<=cs.length:=by rw [A2] at hk;omega
  obtain ⟨h1,h2⟩:=O2 ag sz hs k (cs.drop sz) (by simp;omega) λc hm=>hc c (DV hm)
  have hd:(if ag=true then AV.agg (cs.take sz) else cs.headD .undef).cells=cs.take sz/\(cs.take sz).length=sz:=by
   refine ⟨?_,by simp;omega⟩
   by_cases ha:ag=true
   ·rw [iP ha];rfl
   ·rw [iN ha]
    have h1:sz=1:=hs.resolve_left ha
    subst h1
    match cs,hk' with
    | c::cs,_=>simpa using Lf (hc c sm)
    | [],h=>simp at h
  refine ⟨?_,λe he=>?_⟩
  ·simp only [HU,Ia,BJ] at h1 ⊢
   rw [h1,hd.1,A2,Nat.one_mul,CC (k*sz) sz,List.take_add]
  ·simp only [Ia,List.mem_cons] at he
   rcases he with rfl|he
   ·rw [hd.1];exact hd.2
   ·exact h2 e he
def HW(P:Program)(f:FuncId):Bool :=
 match P.funcs[f]? with
 | some fn => !(fn.name == "runtime.NumGoroutine")&&fn.body.isSome
 | none=>false
def FV(P:Program)(f:FuncId)(vs:List AV)(H:FP)(R:AV->FP->Prop):Prop :=
 HW P f=true /\ ∀ (F:Nat->Prop) (G:Gh) (w:World) (us:List Value),CRel F G vs H us w ->
  Calls P f us.toArray w λe w' => ∃ u,e = .returned u /\ ∃ v H' G',R v H'/\CRel F G' [v] H' [u] w'/\Ext F G w G' w'
def L8(P:Program)(o:Nat)(L:LoopRec)(ys:List AV)(H:FP)(R:AV->FP->Prop):Prop :=
 ∀ (F:Nat->Prop) (G:Gh) (w:World) (us:List Value) (b:Nat),CRel F G ys H us w->G.obs[o]? =some b->G.kind b = .loop L ->
  ∃ r:Loop,w.heap[b]? =some (.loop r)/\us.length=r.params.size /\
   RoundIn Fence.wide 0 P b r.fn ((r.params.zip us.toArray).foldl (λtmps (t,a)=>tmps.setIfInBounds t a) r.tmps) r.assign r.body w λe w' => ∃ u,e = .returned u/\Fe F G w R u w'
def Fe.mono{F:Nat->Prop}{G:Gh}{w:World}{R R':AV->FP->Prop}{u:Value}{w':World}(h:Fe F G w R u w')(hr : ∀ v H',R v H'->R' v H'):Fe F G w R' u w' :=
 let ⟨v,H',G',h1,h2,h3⟩:=h;⟨v,H',G',hr _ _ h1,h2,h3⟩
def L8.mono{P:Program}{o:Nat}{L:LoopRec}{ys:List AV}{H:FP}{R R':AV->FP->Prop}(h:L8 P o L ys H R)(hr : ∀ v H',R v H'->R' v H'):L8 P o L ys H R' :=
 λF G w us b hc h1 h2=>let ⟨r,g1,g2,g3⟩:=h F G w us b hc h1 h2;⟨r,g1,g2,RoundIn.mono g3 λe w' he=>let ⟨u,a,b⟩:=he;⟨u,a,b.mono hr⟩⟩
def KL(P:Program)(f:FuncId)(vs:List AV)(Q:AV->Prop):Prop:=∀ H,FV P f vs H λv H'=>Q v/\H'=H
def FQ(P:Program)(f:FuncId)(vs:List AV)(v:AV):Prop:=KL P f vs λv'=>v'=v
def Gx(H:FP):FP:=H.map (Option.map (List.map borrow1))
def PG(P:Program)(f:FuncId)(vs:List AV)(H:FP)(v:AV):Prop:=∀ H2,Gx H2=Gx H->FV P f vs H2 λv' H'=>v'=v/\H'=H2
def FV.mono{P:Program}{f:FuncId}{vs:List AV}{H:FP}{R R':AV->FP->Prop}(h:FV P f vs H R)(hr : ∀ v H',R v H'->R' v H'):FV P f vs H R' :=
 ⟨h.1,λF G w us hc=>Calls.mono (h.2 F G w us hc) λe w' he=>by
  obtain ⟨u,rfl,v,H',G',h1,h2,h3⟩:=he
  exact ⟨u,rfl,v,H',G',hr _ _ h1,h2,h3⟩⟩
def PV(P:Program):Nat->TypeId->List TypeId
 | 0,t=>[t]
 | d+1,t=>match P.underlying t with
  | some (.struct fs)=>fs.toList.flatMap λf=>PV P d f.type
  | some (.array n e)=>(A4 n (PV P d e)).flatten
  | _=>[t]
def constT(P:Program)(ty:Option TypeId)(v:Value):AV :=
 match v with
 | .slice none 0 0 => .sl (Si P ty) []
 | v=>const1 v
def Fi(P:Program)(t:TypeId):Option AV :=
 match (P.info? t).bind (·.zero) with
 | some (.agg cs) =>
  if (cs.toList.zipIdx.map λ(c,i)=>constT P (PV P 20 t)[i]? c).all AV.scalar then some (.agg (cs.toList.zipIdx.map λ(c,i)=>constT P (PV P 20 t)[i]? c)) else none
 | some z=>if (constT P (some t) z).scalar then some (constT P (some t) z) else none
 | none=>none
def AAp(P:Program)(t:TypeId):Bool:=match (P.info? t).bind (·.zero) with
 | some (.slice none 0 0)=>true
 | _=>false
def IG(place:Nat->Option (Nat×Nat))(cells:List AV):List Nat->List AV->Option (List AV)
 | [],[]=>some cells
 | i::is,v::vs =>
  match place i with
  | some (off,size)=>if v.isVal=true/\v.cells.length=size/\off+size<=cells.length then IG place (splice cells off v.cells) is vs else none
  | none=>none
 | _,_=>none
def Gj(P:Program)(t:TypeId):Bool :=
 match P.info? t with
 | some i=>match i.zero with
  | some z=>z.cells.size==i.size
  | none=>false
 | none=>false
def M8(P:Program)(fs:Array Field):Bool:=fs.all λf=>(P.info? f.type).isSome
def Iq(P:Program)(fs:Array Field):Array (Nat×Nat):=fs.map λf=>(f.offset,P.cellsOf f.type)
def Ol:AV->Bool
 | .int .u8 _=>true
 | _=>false
def Pj(es:List AV):ByteArray:=⟨(es.map fun
 | .int _ n=>UInt8.ofNat n.toNat
 | _=>0).toArray⟩
def Pk(hasLo hasHi hasMax:Bool)(rest:List AV):Option (Option Int×Option Int×Option Int) :=
 match hasLo,hasHi,hasMax,rest with
 | false,false,false,[]=>some (none,none,none)
 | true,false,false,[.int _ l]=>some (some l,none,none)
 | false,true,false,[.int _ h]=>some (none,some h,none)
 | true,true,false,[.int _ l,.int _ h]=>some (some l,some h,none)
 | false,true,true,[.int _ h,.int _ m]=>some (none,some h,some m)
 | true,true,true,[.int _ l,.int _ h,.int _ m]=>some (some l,some h,some m)
 | _,_,_,_=>none
def Nt(P:Program)(t:TypeId)(x:AV)(lo hi mx:Option Int)(R:AV->Prop):Prop :=
 match P.underlying t,x with
 | some .string,.str s =>
  mx=none/\0<=lo.getD 0/\lo.getD 0<=hi.getD s.size/\hi.getD s.size<=s.size/\R (.str (s.extract (lo.getD 0).toNat (hi.getD s.size).toNat))
 | some (.slice e),.sl own es =>
  0<=lo.getD 0/\lo.getD 0<=hi.getD es.length/\hi.getD es.length<=es.length/\(∀ x∈es,x.cells.length=P.cellsOf e)/\(P.info? e).isSome=true /\
   match mx with
   | none=>R (.sl (if hi.getD es.length=es.length then own else none) ((es.take (hi.getD es.length).toNat).drop (lo.getD 0).toNat))
   | some m=>m=hi.getD es.length/\0<P.cellsOf e/\R (.sl (some (P.cellsOf e)) ((es.take (hi.getD es.length).toNat).drop (lo.getD 0).toNat))
 | some (.slice e),.msl ob off len sz =>
  (0<=lo.getD 0/\lo.getD 0<=hi.getD len/\hi.getD len<=len/\sz=P.cellsOf e/\(P.info? e).isSome=true/\mx=none/\(lo.getD 0=0\/lo.getD 0<len)) /\
   R (.msl ob (off+(lo.getD 0).toNat*sz) ((hi.getD len).toNat - (lo.getD 0).toNat) sz)
 | some (.slice e),.mslc ob off len sz c =>
  (0<=lo.getD 0/\lo.getD 0<=hi.getD len/\hi.getD len<=c/\sz=P.cellsOf e/\(P.info? e).isSome=true/\mx=none) /\
   R (if lo.getD 0=c/\0<lo.getD 0 then .sl none [] else .mslc ob (off+(lo.getD 0).toNat*sz) ((hi.getD len).toNat - (lo.getD 0).toNat) sz (c - (lo.getD 0).toNat))
 | some (.pointer ta),.cptr cs off=>lo=none/\hi=none/\mx=none/\match P.underlying ta with
   | some (.array n e)=>P.cellsOf e=1/\off+n<=cs.length/\n<=9223372036854775807/\R (.sl none ((cs.drop off).take n))
   | _=>False
 | some (.array n e),.cptr cs off=>(lo=none/\hi=none/\mx=none)/\P.cellsOf e=1/\off+n<=cs.length/\n<=9223372036854775807/\R (.sl none ((cs.drop off).take n))
 | _,_=>False
def KB(P:Program)(t:TypeId)(x:AV)(lo hi mx:Option Int)(H:FP)(R:AV->Prop):Prop :=
 match P.underlying t,x with
 | some (.array n e),.ptr o off=>(lo=none/\hi=none/\mx=none)/\n<=9223372036854775807/\(P.info? e).isSome=true /\
   match H[o]? with
   | some (some cs)=>off+n*P.cellsOf e<=cs.length/\R (.msl o off n (P.cellsOf e))
   | _=>False
 | some (.slice e),.sl _ _=>(lo=none/\hi=some 0/\mx=some 0)/\(P.info? e).isSome=true/\R (.sl (some 0) [])
 | _,_=>False
def Rv(P:Program)(t:TypeId):Bool:=match P.underlying t with|some (.struct _)|some (.array _ _)=>true|_=>false
def WO:List (Option Bool)->Option Bool
 | []=>some true
 | a::as=>match a,WO as with
  | some x,some y=>some (x&&y)
  | _,_=>none
def yJ(P:Program):Nat->TypeId->AV->AV->Option Bool
 | 0,_,_,_=>none
 | d+1,t,x,y=>match P.underlying t,x,y with
  | some .bool,.bool a,.bool b=>some (a==b)
  | some (.int _),.int k a,.int k' b=>if k=k' then some (a==b) else none
  | some .string,.str a,.str b=>some (a.toList==b.toList)
  | some (.struct fs),.agg xs,.agg ys=>if P.stoodInHeld t=true then none else WO (fs.toList.map λf=>if f.name = "_" then none else
    match Lj P f.type xs f.offset,Lj P f.type ys f.offset with
    | some a,some b=>yJ P d f.type a b
    | _,_=>none)
  | some (.array n e),.agg xs,.agg ys=>if (P.info? e).isSome=true then WO ((Am n).map λi =>
    match Lj P e xs (i*P.cellsOf e),Lj P e ys (i*P.cellsOf e) with
    | some a,some b=>yJ P d e a b
    | _,_=>none) else none
  | _,_,_=>none
def Kp(P:Program)(t:TypeId)(a b:AV):Option Bool :=
 match P.underlying t,a,b with
 | some .bool,.bool x,.bool y=>some (x==y)
 | some (.pointer _),.nilp,.nilp=>some true
 | some (.pointer _),.ptr _ _,.nilp=>some false
 | some (.pointer _),.nilp,.ptr _ _=>some false
 | some (.pointer _),.cptr _ _,.nilp=>some false
 | some (.pointer _),.nilp,.cptr _ _=>some false
 | some _,.agg xs,.agg ys=>if P.eqGuardType P.depth t=true then none else yJ P 40 t (.agg xs) (.agg ys)
 | _,_,_=>none
def Kq(P:Program)(op:BinOp)(t:TypeId)(a b:AV)(R:AV->Prop):Prop :=
 match op,Kp P t a b with
 | .eql,some r=>R (.bool r)
 | .neq,some r=>R (.bool !r)
 | _,_=>KE op a b R
def Ks:Operand->Bool
 | .const (.slice none 0 0)=>true
 | _=>false
def NY(P:Program)(op:BinOp)(t:TypeId)(a:AV)(R:AV->Prop):Prop :=
 match P.underlying t with
 | some (.slice _)=>match op,a with
  | .eql,.sl _ []=>R (.bool true)/\R (.bool false)
  | .neq,.sl _ []=>R (.bool true)/\R (.bool false)
  | .eql,.sl _ (_::_)=>R (.bool false)
  | .neq,.sl _ (_::_)=>R (.bool true)
  | .eql,.msl _ _ _ _=>R (.bool false)
  | .neq,.msl _ _ _ _=>R (.bool true)
  | _,_=>False
 | _=>False
def S5(P:Program)(e:TypeId)(rd:Bool)(H:FP):AV->Option (List AV)
 | .sl _ xs=>some xs
 | .msl ob off len sz=>match rd,H[ob]? with
  | true,some (some cs)=>if off+len*sz<=cs.length/\sz=P.cellsOf e/\(Rv P e=true\/sz=1) then some (Ia (Rv P e) sz len ((cs.drop off).map borrow1)) else none
  | _,_=>none
 | _=>none
def Nv(P:Program)(e:TypeId)(mt ln:Bool)(H:FP)(a:AV)(xs:List AV)(R:AV->FP->Prop):Prop :=
 (∀ x∈xs,x.cells.length=P.cellsOf e)/\match mt,a with
  | false,.sl own es=>own=some (P.cellsOf e)/\(es.length+xs.length)*P.bytesOf e<=140737488355328/\es.length+xs.length<=9223372036854775807/\R (.sl (bif ln then none else some (P.cellsOf e)) (es++xs)) H
  | true,.msl ob off len sz=>off=0/\sz=P.cellsOf e/\(len+xs.length)*P.bytesOf e<=140737488355328/\len+xs.length<=9223372036854775807/\match H[ob]? with
    | some (some cs)=>cs.length=len*sz/\cs.map borrow1=cs/\R (.msl H.length 0 (len+xs.length) (P.cellsOf e)) (H.set ob none++[some (cs++(HU xs).map borrow1)])
    | _=>False
  | true,.mslc ob off len sz _=>off=0/\sz=P.cellsOf e/\(len+xs.length)*P.bytesOf e<=140737488355328/\len+xs.length<=9223372036854775807/\match H[ob]? with
    | some (some cs)=>cs.length=len*sz/\cs.map borrow1=cs/\R (.msl H.length 0 (len+xs.length) (P.cellsOf e)) (H.set ob none++[some (cs++(HU xs).map borrow1)])
    | _=>False
  | true,.sl (some 0) []=>0<xs.length/\xs.length*P.bytesOf e<=140737488355328/\xs.length<=9223372036854775807/\R (.msl H.length 0 xs.length (P.cellsOf e)) (H++[some ((HU xs).map borrow1)])
  | _,_=>False
def SN(l:List AV):List Int:=l.filterMap λv=>match v with
 | .int .i64 i=>some i
 | _=>none
def Qx(P:Program)(t:TypeId)(H:FP)(x:AV)(R:AV->FP->Prop):Prop :=
 match P.underlying t,x with
 | some .string,.str s=>R (.it H.length) (H++[some (V2 s 0)])
 | some (.map _ _),.nilm=>R (.it H.length) (H++[some [.nilm]])
 | some (.map _ _),.mapr o'=>match Im H (.mapr o') with
  | some es=>R (.it H.length) (H++[some (Tg o' es.length [])])
  | none=>False
 | _,_=>False
def Wi(str:Bool)(H:FP)(o':Nat)(R:AV->FP->Prop):Prop :=
 match str,H[o']? with
 | true,some (some [.str s,.int .i64 pos]) =>
  if pos.toNat<s.size then R (.tup [.bool true,.int .i64 pos.toNat,.int .i32 (Utf8.decode s pos.toNat).1]) (H.set o' (some (V2 s ((pos.toNat+(Utf8.decode s pos.toNat).2:Nat):Int))))
  else R (.tup [.bool false]) H
 | false,some (some [.nilm])=>R (.tup [.bool false]) H
 | false,some (some [.mapr m,.int .i64 since,.tup seen])=>match Im H (.mapr m) with
  | some es=>since=es.length/\((∀ i,i<es.length->(i:Int)∈SN seen)->R (.tup [.bool false]) H) /\
    ∀ (i:Nat) (p:AV×AV),es[i]? =some p->(i:Int)∉SN seen->R (.tup [.bool true,p.1.borrow,p.2.borrow]) (H.set o' (some [.mapr m,.int .i64 since,.tup (seen++[.int .i64 i])]))
  | none=>False
 | _,_=>False
def S8(H:FP)(o':Nat)(R:AV->FP->Prop):Prop :=
 match H[o']? with
 | some (some [.mapr m,.int .i64 since,.tup seen])=>match Im H (.mapr m),seen.getLast? with
  | some es,some (.int .i64 i)=>since=es.length /\ ∃ p,es[i.toNat]? =some p/\R (.tup [p.1.borrow,p.2.borrow]) H
  | _,_=>False
 | _=>False
def iI(P:Program)(e:TypeId)(H:FP)(k:Nat):AV->Option (List AV)
 | .sl _ xs=>if (∀ x∈xs,x.cells.length=P.cellsOf e)/\k<=xs.length then some ((HU xs).take (k*P.cellsOf e)) else none
 | .msl ob off len sz=>match H[ob]? with
  | some (some cs)=>if off+k*sz<=cs.length/\sz=P.cellsOf e/\k<=len then some ((cs.drop off).take (k*sz)) else none
  | _=>none
 | .mslc ob off len sz _=>match H[ob]? with
  | some (some cs)=>if off+k*sz<=cs.length/\sz=P.cellsOf e/\k<=len then some ((cs.drop off).take (k*sz)) else none
  | _=>none
 | _=>none
def zX:AV->Option Nat
 | .sl _ xs=>some xs.length
 | .msl _ _ len _=>some len
 | .mslc _ _ len _ _=>some len
 | _=>none
def nS:AV->Option (Nat×Nat×Nat×Nat×Bool)
 | .msl ob off len sz=>some (ob,off,len,sz,false)
 | .mslc ob off len sz _=>some (ob,off,len,sz,true)
 | _=>none
def Tn(P:Program)(t:TypeId)(a b:AV)(H:FP)(R:AV->FP->Prop):Prop :=
 match P.underlying t,nS a,zX b with
 | some (.slice e),some (ob,off,len,sz,gr),some n=>match H[ob]? with
  | some (some cs)=>(sz=P.cellsOf e/\(P.info? e).isSome=true/\cs.map borrow1=cs/\off<=cs.length/\(gr=true\/off+Nat.min n len*sz<=cs.length))/\match iI P e H (Nat.min n len) b with
   | some X=>R (.int .i64 (Nat.min n len:Nat)) (H.set ob (some (cs.take off++X.map borrow1++cs.drop (off+Nat.min n len*sz))))
   | none=>False
  | _=>False
 | _,_,_=>False
def XFn(P:Program)(f:FuncId):Prop := ∃ (fn:Func) (tS tR e:TypeId),P.funcs[f]? =some fn/\(fn.name == "runtime.NumGoroutine")=false/\fn.body.isNone=true/\Extern.findNext fn=none /\
 Extern.find fn=some (Extern.SlicesOverlaps.overlaps #[tS,tS] #[tR])/\P.underlying tS=some (.slice e)/\(P.info? e).isSome=true
def QD(P:Program)(f:FuncId)(vs:List AV)(H:FP)(v:AV):Prop :=
 match vs with
 | [.msl ob _ _ _,.mslc ob2 _ len2 sz2 _]=>ob≠ob2/\XFn P f/\(∃ cs,H[ob]? =some (some cs))/\(∃ cs,H[ob2]? =some (some cs))/\0<len2*sz2/\v = .bool false
 | _=>False
def Ga(z:AV)(n:Nat):List AV:=(Am (n*z.cells.length)).map λi=>(z.cells[i % z.cells.length]?).getD .undef
def apz(P:Program)(t t':TypeId)(mt:Bool)(a b:AV)(H:FP)(R:AV->FP->Prop):Prop :=
 match mt,P.underlying t,P.underlying t',a,b with
 | true,some (.slice e),some (.int _),.mslc ob off len sz c,.int _ m=>match H[ob]? with
  | some (some cs) => ∃ z,Fi P e=some z/\(z.cells.length=P.cellsOf e/\Gj P e=true/\0<P.cellsOf e/\sz=P.cellsOf e/\off+len*sz<=cs.length/\0<m/\(c:Int)<len+m /\
    (len+m.toNat)*P.bytesOf e<=140737488355328/\len+m.toNat<=9223372036854775807)/\R (.msl H.length 0 (len+m.toNat) (P.cellsOf e)) (H++[some (((cs.drop off).take (len*sz)).map borrow1++(Ga z m.toNat).map borrow1)])
  | _=>False
 | _,_,_,_,_=>False
def Fd(P:Program)(h:Hint)(o:Oper)(vals:List AV)(H:FP)(R:AV->FP->Prop):Prop :=
 match o.op,vals with
 | .move _,[a]=>R a H
 | .assign _,[a]=>R a H
 | .pick _ _ _,[.bool c,a,b]=>R (if c=true then a else b) H
 | .box _ _,[a]=>a.isVal=true/\R (.ptr H.length 0) (H++[some a.cells])
 | .alloc e,[]=>match o.dst.any h.mt.contains with
  | true=>AAp P e=true/\R (.ptr H.length 0) (H++[some [.sl (some 0) []]])
  | false => ∃ z,Fi P e=some z/\R (.ptr H.length 0) (H++[some z.cells])
 | .build t ps,vs =>
  match P.underlying t with
  | some (.struct fs) => ∃ z cs,M8 P fs=true/\Fi P t=some (.agg z)/\IG ((Iq P fs)[·]?) z (ps.toList.map (·.1)) vs=some cs/\R (.agg cs) H
  | some (.array _ e) => ∃ z cs,(P.info? e).isSome=true/\Fi P t=some (.agg z)/\IG (λi=>some (i*P.cellsOf e,P.cellsOf e)) z (ps.toList.map (·.1)) vs=some cs/\R (.agg cs) H
  | _=>False
 | .buildSlice t len ps,vs =>
  match P.underlying t with
  | some (.slice e)=>0<P.cellsOf e/\len*P.cellsOf e<=16777216/\ps.toList.map (·.1)=Am len/\(∀ v∈vs,v.isVal=true/\v.cells.length=P.cellsOf e)/\Gj P e=true /\
    match o.dst.any h.mt.contains with
    | true=>R (.msl H.length 0 len (P.cellsOf e)) (H++[some (HU (vs.map AV.borrow))])
    | false=>R (.sl (some (P.cellsOf e)) (vs.map AV.borrow)) H
  | _=>False
 | .makeSlice t _ _,[.int _ n,.int _ c] =>
  match P.underlying t with
  | some (.slice e)=>n=c/\0<=n/\n*P.bytesOf e<=140737488355328/\n<=9223372036854775807/\(P.info? e).isSome=true /\ ∃ z,Fi P e=some z/\z.cells.length=P.cellsOf e/\0<P.cellsOf e /\
    R (.msl H.length 0 n.toNat (P.cellsOf e)) (H++[some (A4 n.toNat z.cells).flatten])
  | _=>False
 | .load t _,[.ptr ob off] =>
  match H[ob]? with
  | some (some cs)=>match Lj P t cs off with
   | some v=>match o.dst.any h.tk.contains with
    | true=>v.owned=true/\v.scalar=true/\R v (H.set ob (some (splice cs off (v.cells.map borrow1))))
    | false=>R v.borrow H
   | none=>False
  | _=>False
 | .load t _,[.cptr cs off] =>
  match Lj P t cs off with
  | some v=>R v.borrow H
  | none=>False
 | .store t _ _,[.ptr ob off,v] =>
  match H[ob]? with
  | some (some cs)=>v.isVal=true/\v.cells.length=P.cellsOf t/\0<P.cellsOf t/\off+P.cellsOf t<=cs.length/\R .undef (H.set ob (some (splice cs off v.cells)))
  | _=>False
 | .nilCheck _,[.ptr ob off]=>R (.ptr ob off) H
 | .nilCheck _,[.cptr cs off]=>R (.cptr cs off) H
 | .nilCheck _,[.fn (.func f) a b]=>R (.fn (.func f) a b) H
 | .nilCheck _,[.yld o' L]=>R (.yld o' L) H
 | .binOp op t _ y _,[a,b]=>match Ks y with
  | true=>NY P op t a λv=>R v H
  | false=>Kq P op t a b λv=>R v H
 | .unOp op _ _,[a] =>
  match op,a with
  | .neg,.int k n=>R (.int k (k.wrap (0 - n))) H
  | .not,.bool b=>R (.bool !b) H
  | _,_=>False
 | .convert src dst _,[a] =>
  match P.underlying src,P.underlying dst,a with
  | some _,some (.int k),.int _ n=>R (.int k (k.wrap n)) H
  | some .string,some .string,.str s=>R (.str s) H
  | some (.slice e),some .string,.sl _ es=>P.underlying e=some (.int .u8)/\(∀ x∈es,Ol x=true)/\R (.str (Pj es)) H
  | _,_,_=>False
 | .makeFunc fn first _,vs=>R (.fn fn (vs.take first.size) (vs.drop first.size)) H
 | .slice t _ lo hi mx,x::rest =>
  match Pk lo.isSome hi.isSome mx.isSome rest with
  | some (l,hh,m)=>match o.dst.any h.mt.contains with
   | true=>KB P t x l hh m H λv=>R v H
   | false=>Nt P t x l hh m λv=>R v H
  | none=>False
 | .fieldAddr s _ f,[x] =>
  match P.underlying s with
  | some (.struct fs)=>match fs[f]? with
   | some fd=>0<P.cellsOf fd.type/\match x with
    | .ptr ob off=>R (.ptr ob (off+fd.offset)) H
    | .cptr cs off=>R (.cptr cs (off+fd.offset)) H
    | _=>False
   | none=>False
  | _=>False
 | .field t _ f,[.agg cs] =>
  match P.underlying t with
  | some (.struct fs)=>match fs[f]? with
   | some fd=>match Lj P fd.type cs fd.offset with
    | some v=>R v H
    | none=>False
   | none=>False
  | _=>False
 | .extract _ i,[.tup vs] => ∃ v,vs[i]? =some v/\R v H
 | .indexAddr t _ _,[x,.int _ i] =>
  match P.underlying t,x with
  | some (.slice e),.sl _ es=>0<=i /\ ∃ v,es[i.toNat]? =some v/\v.cells.length=P.cellsOf e/\0<P.cellsOf e/\R (.cptr v.cells 0) H
  | some (.slice e),.msl ob off len sz=>0<=i/\i<len/\sz=P.cellsOf e/\0<sz/\R (.ptr ob (off+i.toNat*sz)) H
  | some (.array n e),.ptr ob off=>0<=i/\i<n/\0<P.cellsOf e/\R (.ptr ob (off+i.toNat*P.cellsOf e)) H
  | some (.array n e),.cptr cs off=>0<=i/\i<n/\0<P.cellsOf e/\R (.cptr cs (off+i.toNat*P.cellsOf e)) H
  | _,_=>False
 | .index t _ _,[x,.int _ i] =>
  match P.underlying t,x with
  | some .string,.str s=>0<=i/\i<s.size/\R (.int .u8 ((s.data[i.toNat]?).getD 0).toNat) H
  | some (.array n e),.agg cs=>0<=i/\i<n/\0<P.cellsOf e /\ ∃ v,Lj P e cs (i.toNat*P.cellsOf e)=some v/\R v H
  | _,_=>False
 | .makeMap _ none,[]=>R (.mapr H.length) (H++[some (J1 [])])
 | .makeMap t (some _),[.int _ _]=>(match P.underlying t with|some (.map _ _)=>true|_=>false)=true/\R (.mapr H.length) (H++[some (J1 [])])
 | .lookup t _ _ ok,[m,k] =>
  match P.underlying t with
  | some (.map kt et)=>match Im H m with
   | some es=>MW P kt (k::es.map (·.1))/\Rm es /\ ∃ z,Fi P et=some z/\R (fH ok z (JD k es 0)) H
   | none=>False
  | _=>False
 | .mapUpdate t _ _ _,[.mapr o',k,v] =>
  match P.underlying t with
  | some (.map kt _)=>match Im H (.mapr o') with
   | some es=>MW P kt (k::es.map (·.1))/\Rm es/\v.isVal=true/\R .undef (H.set o' (some (J1 (MU es k v))))
   | none=>False
  | _=>False
 | .range t _,[x]=>Qx P t H x R
 | .next _ str,[.it o']=>Wi str H o' R
 | .entry _,[.it o']=>S8 H o' R
 | .call c,vs =>
  match c.callee with
  | .builtin .len=>match vs with
   | [x]=>match c.argTypes[0]?.bind P.underlying,x with
    | some (.slice _),.sl _ es=>R (.int .i64 es.length) H
    | some (.slice _),.msl _ _ len _=>R (.int .i64 len) H
    | some (.slice _),.mslc _ _ len _ _=>R (.int .i64 len) H
    | some .string,.str s=>R (.int .i64 s.size) H
    | some (.array n _),_=>R (.int .i64 n) H
    | _,_=>False
   | _=>False
  | .builtin .cap=>match vs with
   | [.mslc _ _ _ _ cp]=>match c.argTypes[0]?.bind P.underlying with
    | some (.slice _)=>R (.int .i64 cp) H
    | _=>False
   | _=>False
  | .builtin .copy=>match vs,c.argTypes.toList with
   | [a,b],[t,_]=>Tn P t a b H R
   | _,_=>False
  | .builtin .clear=>match vs,c.argTypes.toList with
   | [.msl ob off len sz],[t]=>match P.underlying t with
    | some (.slice e)=>match H[ob]? with
     | some (some cs) => ∃ z,Fi P e=some z/\sz=z.cells.length/\0<len/\off+len*sz<=cs.length/\R (.tup []) (H.set ob (some (splice cs off (Ga z len))))
     | _=>False
    | _=>False
   | _,_=>False
  | .builtin .append=>match vs,c.argTypes.toList with
   | [a,b],[t,t']=>if t=t' then match P.underlying t with
    | some (.slice e)=>0<P.cellsOf e/\Gj P e=true/\match S5 P e (o.dst.any h.mt.contains||o.dst.any h.tk.contains) H b with
     | some xs=>Nv P e (o.dst.any h.mt.contains) (o.dst.any h.pc.contains) H a xs R
     | none=>False
    | _=>False
    else apz P t t' (o.dst.any h.mt.contains) a b H R
   | _,_=>False
  | .builtin .min=>match vs with
   | [.int k a,.int k' b]=>k=k'/\R (.int k (if b<a then b else a)) H
   | _=>False
  | .builtin .max=>match vs with
   | [.int k a,.int k' b]=>k=k'/\R (.int k (if b>a then b else a)) H
   | _=>False
  | .value _=>match vs with
   | .fn (.func f) first captured::args=>match o.dst.any h.pc.contains with
    | true=>match o.dst.any h.mt.contains with
     | true => ∃ v,(PG P f (first.map AV.borrow++args++captured.map AV.borrow) H v\/QD P f (first.map AV.borrow++args++captured.map AV.borrow) H v)/\R v H
     | false => ∃ v,FQ P f (first.map AV.borrow++args++captured.map AV.borrow) v/\R v H
    | false=>match o.dst.any h.mt.contains with
     | true => ∃ v ext,FV P f (first.map AV.borrow++args++captured.map AV.borrow) H (λv2 H2=>v2=v/\H2=H++ext)/\R v (H++ext)
     | false=>FV P f (first.map AV.borrow++args++captured.map AV.borrow) H R
   | .yld o' L::args=>(o.dst.any h.pc.contains=false/\o.dst.any h.mt.contains=false)/\L8 P o' L args H R
   | _=>False
  | _=>False
 | _,_=>False
def Fz(h:Hint)(o:Oper):Bool :=
 match o.op with
 | .move _=>o.dst.any h.tk.contains
 | .assign _ | .box _ _ | .build _ _ | .store _ _ _ | .slice _ _ _ _ _=>true
 | .call c=>match c.callee with
  | .builtin .append=>true
  | .value _=>true
  | _=>false
 | _=>false
def HV(o:Oper):Option TypeId :=
 match o.op with
 | .move _ | .assign _=>some o.type
 | .store t _ _=>some t
 | _=>none
section
variable {P:Program} {F:Nat->Prop} {G:Gh} {w:World} {H:FP} {R:AV->FP->Prop} {ρ:Operand->Value}
def Fx.value{K:Value->World->Prop}{r:Result Next}{u:Value}{w':World}(hr:r = .ok (.value u) w')(h:K u w'):Fx P r K:=by subst hr;exact h
def Fe.same{v:AV}{u:Value}(h:CRel F G [v] H [u] w)(hR:R v H):Fe F G w R u w:=⟨v,H,G,hR,h,.refl F G w⟩
def AE1{c a b:Operand}{cv:Bool}{x y:AV}(h:CRel F G [.bool cv,x,y] H [ρ c,ρ a,ρ b] w)(hr:R (if cv=true then x else y) H):
  Fx P ((do pure (Next.value (if<-asBool (ρ c) then ρ a else ρ b)):Sem Next).run P w) (Fe F G w R):=by
 have hcv:=h.l.rel 0 _ _ rfl rfl
 generalize ρ c=cu at *
 cases hcv
 cases cv
 ·exact .value (by simp [asBool]) (Fe.same (h.get (i:=2) rfl rfl) hr)
 ·exact .value (by simp [asBool]) (Fe.same (h.get (i:=1) rfl rfl) hr)
def T0{x:Value}{ob off:Nat}(h:CRel F G [.ptr ob off] H [x] w)(hr:R (.ptr ob off) H): ∃ a,x = .pointer (some a)/\Fe F G w R x w:=by
 have hx:=h.l.rel 0 _ _ rfl rfl
 cases hx
 exact ⟨_,rfl,.same h hr⟩
def Sd{x:Value}{cs:List AV}{off:Nat}(h:CRel F G [.cptr cs off] H [x] w)(hr:R (.cptr cs off) H): ∃ a,x = .pointer (some a)/\Fe F G w R x w:=by
 have hx:=h.l.rel 0 _ _ rfl rfl
 cases hx
 exact ⟨_,rfl,.same h hr⟩
def OS(d:Nat){t e:TypeId}(a:Option Addr)(h:P.underlying t=some (.pointer e)):(Op.equalIn (d+1) t (.pointer none) (.pointer a)).run P w = .ok a.isNone w:=by
 simp [Op.equalIn,run_underlying h]
def OB(d:Nat){t e:TypeId}(a:Addr)(h:P.underlying t=some (.pointer e)):(Op.equalIn (d+1) t (.pointer (some a)) (.pointer none)).run P w = .ok false w:=by
 simp [Op.equalIn,run_underlying h]
def LH{t e:TypeId}(a:Option Addr)(h:P.underlying t=some (.pointer e)):(Op.equal t (.pointer none) (.pointer a)).run P w = .ok a.isNone w:=OS 9999 a h
def Mo{t e:TypeId}(a:Addr)(h:P.underlying t=some (.pointer e)):(Op.equal t (.pointer (some a)) (.pointer none)).run P w = .ok false w:=OB 9999 a h
def eV{k:IntKind}{n:Int}{x:Value}(h:CRel F G [.int k n] H [x] w)(hr:R (.int k (k.wrap (0 - n))) H):
  Fx P ((do let v<-Op.unary .neg x;pure (Next.value v):Sem Next).run P w) (Fe F G w R):=by
 have hx:=h.l.rel 0 _ _ rfl rfl
 cases hx
 exact .value (by simp [Op.unary,Op.intArith]) (Fe.plain h hr (.int _ _) (FT rfl rfl _))
def eU{b:Bool}{x:Value}(h:CRel F G [.bool b] H [x] w)(hr:R (.bool !b) H):
  Fx P ((do let v<-Op.unary .not x;pure (Next.value v):Sem Next).run P w) (Fe F G w R):=by
 have hx:=h.l.rel 0 _ _ rfl rfl
 cases hx
 exact .value (by simp [Op.unary]) (Fe.plain h hr (.bool _) (FT rfl rfl _))
def VS{src dst:TypeId}{d:TypeDesc}{k k':IntKind}{n:Int}{x:Value}(h:CRel F G [.int k' n] H [x] w)(hs:P.underlying src=some d)(hd:P.underlying dst=some (.int k))(hr:R (.int k (k.wrap n)) H):
  Fx P ((do let v<-convert src dst x;pure (Next.value v):Sem Next).run P w) (Fe F G w R):=by
 have hx:=h.l.rel 0 _ _ rfl rfl
 cases hx
 exact .value (by simp [convert,run_underlying hs,run_underlying hd,Conv.intToInt]) (Fe.plain h hr (.int _ _) (FT rfl rfl _))
def VR{src dst:TypeId}{d:TypeDesc}{s:ByteArray}{x:Value}(h:CRel F G [.str s] H [x] w)(hs:P.underlying src=some d)(hd:P.underlying dst=some .string)(hr:R (.str s) H):
  Fx P ((do let v<-convert src dst x;pure (Next.value v):Sem Next).run P w) (Fe F G w R):=by
 have hx:=h.l.rel 0 _ _ rfl rfl
 cases hx
 exact .value (by simp [convert,run_underlying hs,run_underlying hd]) (Fe.plain h hr (.str _) (FT rfl rfl _))
def ee{fn:Fn}{first captured:List Operand}{vs:List AV}(h:CRel F G vs H ((first++captured).map ρ) w)(hr:R (.fn fn (vs.take first.length) (vs.drop first.length)) H):
  Fx P ((do let v<-Instr.makeFunc fn (first.map ρ).toArray (captured.map ρ).toArray;pure (Next.value v):Sem Next).run P w) (Fe F G w R):=by
 have hl:=h.l.len
 simp only [Aq,AF] at hl
 refine .value (u:=.func fn (first.map ρ).toArray (captured.map ρ).toArray) (w':=w) (by simp [Instr.makeFunc]) (Fe.plain h hr (.fn fn _ _ _ _ (by simp;omega) (by simp;omega) (λi c v hc hv=>?_) (λi c v hc hv=>?_)) (RD _ _ _ _))
 ·rw [Ak] at hc
  split at hc
  ·rename_i hi
   refine h.l.rel i c v hc ?_
   rw [Ar,AT (by simpa using hi)]
   simpa using hv
  ·cases hc
 ·rw [A1] at hc
  refine h.l.rel _ c v hc ?_
  rw [Ar,AM sm]
  simpa using hv
def Jk{v:AV}{u:Value}(hv:v.isVal=true)(h:VRel G w v u):v.flat=v.cells/\IA u=u.cells.toList/\v.cells.length=u.cells.size:=by
 cases h<;>first|exact ⟨rfl,rfl,rfl⟩|exact ⟨rfl,rfl,‹_›⟩|cases hv
def PS{v:AV}{u:Value}(hv:v.isVal=true)(h:VRel G w v u):LE v u=v.cells.zip u.cells.toList:=by
 obtain ⟨h1,h2,_⟩:=Jk hv h
 rw [LE,h1,h2]
def l8{vs:List AV}{i:Nat}{x:Value}{v:AV}(h:CRel F G [.tup vs] H [x] w)(hi:vs[i]? =some v)(hr:R v H):
  Fx P ((do let r<-Instr.extract x i;pure (Next.value r):Sem Next).run P w) (Fe F G w R):=by
 have hx:=h.l.rel 0 _ _ rfl rfl
 have ht:=h.l.tok 0 _ _ rfl rfl
 cases hx with
 | tup vs us hl hs hr' =>
  have hlt:=(AC.1 hi).1
  have hu:us[i]? =some (us[i]' FO):=Aj _
  have hv:=hr' i v _ hi hu
  have hval:v.isVal=true:=hs v (AB hi)
  have hcells : ∀ (j:Nat) (c:AV) (d:Value),vs[j]? =some c->us[j]? =some d->c.cells.length=d.cells.size:=by
   intro j c d h1 h2
   exact (Jk (hs c (AB h1)) (hr' j c d h1 h2)).2.2
  have hsub : ∃ pre post,LE (.tup vs) (.tuple us)=pre++(LE v us[i]++post):=by
   have e1:vs=vs.take i++v::vs.drop (i+1):=by
    have:vs[i]=v:=by rw [AL hlt] at hi;exact Option.some.inj hi
    rw [<- this,<- BL hlt,A9]
   have hlt2:i<us.toList.length:=by simp;omega
   have e2:us.toList=us.toList.take i++us.toList[i]::us.toList.drop (i+1):=by
    rw [<- BL hlt2,A9]
   have hlen : ∀ n,((vs.take n).flatMap AV.cells).length=((us.toList.take n).flatMap λv=>v.cells.toList).length:=by
    intro n
    induction n with
    | zero=>rfl
    | succ n ih =>
     by_cases hn:n<vs.length
     ·have hn2:n<us.toList.length:=by simp;omega
      rw [Dx hn,Dx hn2]
      simp only [Dy,AF,ih,BJ,List.flatMap_nil,List.append_nil]
      have:=hcells n vs[n] us[n] (AL hn) (Aj FO)
      simp only [Dz,Br]
      omega
     ·rw [Bs FO,Bs (by simp;omega)]
      rw [Bs FO,Bs (by simp;omega)] at ih
      exact ih
   refine ⟨((vs.take i).flatMap AV.cells).zip ((us.toList.take i).flatMap λv=>v.cells.toList),((vs.drop (i+1)).flatMap AV.cells).zip ((us.toList.drop (i+1)).flatMap λv=>v.cells.toList), ?_⟩
   have hci:v.cells.length=us.toList[i].cells.toList.length:=by
    have:=hcells i v us[i] hi hu
    simpa using this
   rw [PS hval hv]
   show (vs.flatMap AV.cells).zip (us.toList.flatMap λv=>v.cells.toList)=_
   conv=>lhs;rw [e1,e2]
   simp only [Dy,BJ]
   rw [Cz (hlen i),Cz hci]
   simp only [Dz]
  obtain ⟨pre,post,hsub⟩:=hsub
  refine .value (u:=us[i]) (w':=w) (by simp [Instr.extract,hu]) (Fe.same (h.one hv (λp hp=>ht p (by rw [hsub];simp [hp])) λb=>?_) hr)
  rw [FY]
  unfold Gs
  rw [hsub]
  simp only [List.filterMap_append,Cf]
  omega
end
end Go.AI
namespace Go.AI
section
variable {P:Program} {F:Nat->Prop} {G:Gh} {w:World} {H:FP} {R:AV->FP->Prop}
def Gd{t:TypeId}(h:0<P.cellsOf t)(w:World):(sizeOf t).run P w = .ok (P.cellsOf t) w:=by
 unfold BI at h ⊢
 cases hi:P.info? t with
 | none=>rw [hi] at h;simp at h
 | some i=>simp [sizeOf,typeInfo,hi]
def MO(b q k:Nat):(⟨b,q,none⟩:Addr).add k=⟨b,q+k,none⟩:=G9 b q k
def U9{fd:Field}(h:0<P.cellsOf fd.type)(b q:Nat)(w:World):(fieldPlace ⟨b,q,none⟩ fd).run P w = .ok ⟨b,q+fd.offset,none⟩ w:=by
 simp only [fieldPlace,AJ,Gd h,AZ,Be]
 rw [iN FO]
 simp [MO]
def Z3 {s f:Nat} {fs:Array Field} {fd:Field} {x:AV} {u:Value} (h:CRel F G [x] H [u] w) (hu:P.underlying s=some (.struct fs)) (hf:fs[f]? =some fd) (hz:0<P.cellsOf fd.type)
  (hr:match (generalizing:=false) x with
    | .ptr ob off=>R (.ptr ob (off+fd.offset)) H
    | .cptr cs off=>R (.cptr cs (off+fd.offset)) H
    | _=>False) :
  Fx P ((do let r<-Instr.fieldAt s u f;pure (Next.value r):Sem Next).run P w) (Fe F G w R):=by
 have hx:=h.l.rel 0 _ _ rfl rfl
 have run : ∀ b q,(Instr.fieldAt s (.pointer (some ⟨b,q,none⟩)) f).run P w = .ok (.pointer (some ⟨b,q+fd.offset,none⟩)) w:=λb q=>by
  simp [Instr.fieldAt,run_underlying hu,hf,Instr.sureAddr,U9 hz]
 cases hx with
 | ptr o off b hb hbc=>exact .value (by rw [AJ,run];rfl) (Fe.plain h hr (.ptr _ _ b hb hbc) (FT rfl rfl _))
 | cptr cs off b q u' h1 h2=>exact .value (by rw [AJ,run];rfl) (Fe.plain h hr (by rw [Ag];exact .cptr cs _ b q u' h1 h2) (FT rfl rfl _))
 | _=>exact hr.elim
def dq{t:TypeId}{cs:List AV}{vs:Array Value}{off:Nat}{v:AV}(hc:Cells F G w cs vs.toList)(hl:Lj P t cs off=some v):
  ∃ u,(part t vs off).run P w = .ok u w/\VRel G w v u/\v.isVal=true/\v.cells=(cs.drop off).take v.cells.length/\u.cells.toList=(vs.toList.drop off).take v.cells.length/\off+v.cells.length<=cs.length:=by
 have hlen:=hc.len
 have agg:(isAgg t).run P w = .ok true w -> ∀ d,P.underlying t=some d->off+P.cellsOf t<=cs.length->v = .agg ((cs.drop off).take (P.cellsOf t)) ->
   ∃ u,(part t vs off).run P w = .ok u w/\VRel G w v u/\v.isVal=true/\v.cells=(cs.drop off).take v.cells.length/\u.cells.toList=(vs.toList.drop off).take v.cells.length/\off+v.cells.length<=cs.length:=by
  intro ha d hu hle hv
  subst hv
  have hk:((cs.drop off).take (P.cellsOf t)).length=P.cellsOf t:=by simp;omega
  have e:(vs.extract off (off+P.cellsOf t))=((vs.toList.drop off).take (P.cellsOf t)).toArray:=by
   apply Bm
   simp [Array.toList_extract,List.extract_eq_take_drop]
  refine ⟨.agg (vs.extract off (off+P.cellsOf t)), ?_, ?_,rfl, ?_, ?_, ?_⟩
  ·simp [part,ha,U8 hu]
  ·rw [e]
   exact (oV ((hc.drop off).take (P.cellsOf t))).1
  ·simp only [AV.cells,hk]
  ·simp only [AV.cells,Value.cells,hk,e]
  ·simp only [AV.cells,hk];exact hle
 unfold Lj at hl
 split at hl
 ·rename_i fs hu
  split at hl
  ·cases hl;exact agg (by simp [isAgg,run_underlying hu]) _ hu ‹_› rfl
  ·cases hl
 ·rename_i n e hu
  split at hl
  ·cases hl;exact agg (by simp [isAgg,run_underlying hu]) _ hu ‹_› rfl
  ·cases hl
 ·rename_i d hns hna hu
  have hagg:(isAgg t).run P w = .ok false w:=by
   simp only [isAgg,AJ,run_underlying hu,AZ]
   cases d<;>first|rfl|exact absurd hu (hns _)|exact absurd hu (hna _ _)
  have hlt:=(AC.1 hl).1
  have hv:vs[off]? =some (vs[off]'(by simp at hlen;omega)):=Aj _
  obtain ⟨s1,s2,_⟩:=hc.at_ off v _ hl (by rw [Ae];exact hv)
  have hcells:v.cells=[v]:=by cases v<;>first|rfl|cases s1
  have hdrop:(cs.drop off).take 1=[v]:=by
   rw [BL hlt]
   have:cs[off]=v:=by rw [AL hlt] at hl;exact Option.some.inj hl
   simp [this]
  have hdropv:(vs.toList.drop off).take 1=[vs[off]'(by simp at hlen;omega)]:=by
   have hlt2:off<vs.toList.length:=by simp at hlen ⊢;omega
   rw [BL hlt2]
   simp
  have hucells:(vs[off]'(by simp at hlen;omega)).cells.toList=[vs[off]'(by simp at hlen;omega)]:=by
   generalize vs[off]'(by simp at hlen;omega)=u at *
   cases s2<;>first|rfl|cases s1
  have hisv:v.isVal=true:=by cases v<;>first|rfl|cases s1
  refine ⟨vs[off]'(by simp at hlen;omega), ?_,s2,hisv, ?_, ?_, ?_⟩
  ·simp [part,hagg,hv]
  ·rw [hcells,Bt,hdrop]
  ·rw [hcells,Bt,hdropv,hucells]
  ·rw [hcells];exact hlt
 ·cases hl
def dt{t:TypeId}{cs:List AV}{vs:Array Value}{off:Nat}{v:AV}(h:CRel F G [.agg cs] H [.agg vs] w)(hl:Lj P t cs off=some v)(hr:R v H):
  Fx P ((do let r<-part t vs off;pure (Next.value r):Sem Next).run P w) (Fe F G w R):=by
 have hx:=h.l.rel 0 _ _ rfl rfl
 have ht:=h.l.tok 0 _ _ rfl rfl
 obtain ⟨hc',htk⟩:=L6 rfl hx ht
 have hc:Cells F G w cs vs.toList:=hc'
 obtain ⟨u,hrun,hv,hval,e1,e2,hle⟩:=dq (P:=P) hc hl
 have hsub : ∀ p∈v.cells.zip u.cells.toList,p∈LE (.agg cs) (.agg vs):=by
  intro p hp
  rw [e1,e2] at hp
  obtain ⟨i,hi⟩:=Af hp
  rw [Bc] at hi
  obtain ⟨h1,h2⟩:=hi
  rw [Ak] at h1 h2
  split at h1
  ·rename_i hlt
   rw [iP hlt] at h2
   rw [A1] at h1 h2
   refine AB (i:=off+i) ?_
   simp only [LE,AV.flat,AV.cells,IA,Value.cells]
   rw [Bc]
   exact ⟨h1,h2⟩
  ·cases h1
 refine .value (u:=u) (w':=w) (by rw [AJ,hrun];rfl) (Fe.same (h.one hv (λp hp=>ht p (hsub p (by rw [<- PS hval hv];exact hp))) λb=>?_) hr)
 rw [FY,GS,htk]
 have e3:Gs v u=Gy ((cs.drop off).take v.cells.length) ((vs.toList.drop off).take v.cells.length):=by
  unfold Gs Gy
  rw [PS hval hv,<- e1,<- e2]
 rw [e3]
 show _<=CT b (Gy cs vs.toList)+0
 rw [Oz cs vs.toList off v.cells.length hc.len]
 simp only [Cf]
 omega
def AAg{t f:Nat}{fs:Array Field}{fd:Field}{cs:List AV}{u:Value}{v:AV}(h:CRel F G [.agg cs] H [u] w)(hu:P.underlying t=some (.struct fs))(hf:fs[f]? =some fd)(hl:Lj P fd.type cs fd.offset=some v)(hr:R v H):
  Fx P ((do let r<-Instr.field t u f;pure (Next.value r):Sem Next).run P w) (Fe F G w R):=by
 have hx:=h.l.rel 0 _ _ rfl rfl
 cases hx with
 | agg cs vs hl' hs hr' =>
  have e:(do let r<-Instr.field t (.agg vs) f;pure (Next.value r):Sem Next).run P w=(do let r<-part fd.type vs fd.offset;pure (Next.value r):Sem Next).run P w:=by
   simp only [Instr.field,AJ,run_underlying hu,AZ,hf,asAgg,Ad]
  rw [e]
  exact dt h hl hr
def Z2 {t e n:Nat} {cs:List AV} {k:IntKind} {i:Int} {u x:Value} {v:AV} (h:CRel F G [.agg cs,.int k i] H [u,x] w) (hu:P.underlying t=some (.array n e)) (h0:0<=i) (hn:i<n) (hz:0<P.cellsOf e)
  (hl:Lj P e cs (i.toNat*P.cellsOf e)=some v) (hr:R v H) :
  Fx P ((do let r<-Instr.index t u x;pure (Next.value r):Sem Next).run P w) (Fe F G w R):=by
 have hx:=h.l.rel 0 _ _ rfl rfl
 have hi:=h.l.rel 1 _ _ rfl rfl
 have h1:=h.get (i:=0) rfl rfl
 cases hi
 cases hx with
 | agg cs vs hl' hs hr' =>
  have e:(do let r<-Instr.index t (.agg vs) (.int k i);pure (Next.value r):Sem Next).run P w=(do let r<-part e vs (i.toNat*P.cellsOf e);pure (Next.value r):Sem Next).run P w:=by
   simp only [Instr.index,asIntOf,AJ,run_underlying hu,AZ,Ad,Be,iP (show 0<=i/\i<(n:Int) from ⟨h0,hn⟩),Gd hz]
  rw [e]
  exact dt h1 hl hr
def Z1 {t:Nat} {s:ByteArray} {k:IntKind} {i:Int} {u x:Value} (h:CRel F G [.str s,.int k i] H [u,x] w) (hu:P.underlying t=some .string) (h0:0<=i) (hn:i<s.size)
  (hr:R (.int .u8 ((s.data[i.toNat]?).getD 0).toNat) H) :
  Fx P ((do let r<-Instr.index t u x;pure (Next.value r):Sem Next).run P w) (Fe F G w R):=by
 have hx:=h.l.rel 0 _ _ rfl rfl
 have hi:=h.l.rel 1 _ _ rfl rfl
 cases hi;cases hx
 have hlt:i.toNat<s.size:=FO
 have hb:s[i.toNat]? =some s[i.toNat]:=getElem?_pos s i.toNat hlt
 have hd:(s.data[i.toNat]?).getD 0=s[i.toNat]:=by
  have:i.toNat<s.data.size:=hlt
  rw [Aj this];rfl
 rw [hd] at hr
 refine .value (u:=.int .u8 s[i.toNat].toNat) (w':=w) ?_ (Fe.plain h hr (.int _ _) (FT rfl rfl _))
 simp only [Instr.index,asIntOf,AJ,run_underlying hu,AZ,Ad,iP h0,hb]
def T2 {t e:Nat} {own:Option Nat} {es:List AV} {k:IntKind} {i:Int} {u x:Value} {v:AV} (h:CRel F G [.sl own es,.int k i] H [u,x] w) (hu:P.underlying t=some (.slice e)) (h0:0<=i) (hi:es[i.toNat]? =some v)
  (hv:v.cells.length=P.cellsOf e) (hz:0<P.cellsOf e) (hr:R (.cptr v.cells 0) H) :
  Fx P ((do let r<-Instr.indexAt t u x;pure (Next.value r):Sem Next).run P w) (Fe F G w R):=by
 have hx:=h.l.rel 0 _ _ rfl rfl
 have hk:=h.l.rel 1 _ _ rfl rfl
 cases hk
 have hlt:=(AC.1 hi).1
 cases hx with
 | slnil own=>simp at hi
 | slany own a=>simp at hi
 | sl own es sz b q cap f hsz hown hl hm hcs hus =>
  have hszv:sz=P.cellsOf e:=by rw [<- hv];exact (hsz v (AB hi)).symm
  subst hszv
  have hcl : ∀ n,n<=es.length->(HU (es.take n)).length=n*P.cellsOf e:=λn hn=>by
   rw [G6 (n:=P.cellsOf e) λx hx=>hsz x (Cg hx),BC,B6 hn]
  have hcat : ∀ (j:Nat) (c:AV),v.cells[j]? =some c->(HU es)[i.toNat*P.cellsOf e+j]? =some c:=by
   intro j c hj
   have e1:es=es.take i.toNat++v::es.drop (i.toNat+1):=by
    have:es[i.toNat]=v:=by rw [AL hlt] at hi;exact Option.some.inj hi
    rw [<- this,<- BL hlt,A9]
   rw [e1,Kl,AM (by rw [hcl _ FO];omega),hcl _ FO,A0]
   simp only [HU,BJ]
   rw [AT (AC.1 hj).1]
   exact hj
  refine .value (u:=.pointer (some ⟨b,q+i.toNat*P.cellsOf e+0,none⟩)) (w':=w) ?_ (Fe.plain h hr (.cptr v.cells 0 b (q+i.toNat*P.cellsOf e) (λj=>f (i.toNat*P.cellsOf e+j)) (λj c hj=>?_) (λj c hj=>?_)) (FT rfl rfl _))
  ·have hc:0<=i/\i<(es.length:Int):=⟨h0,FO⟩
   simp only [Instr.indexAt,asIntOf,AJ,run_underlying hu,AZ,Ad,Be,iP hc,Gd hz,MO,BB]
  ·have:=hcs _ c (hcat j c hj)
   rw [<- Ag] at this
   exact this
  ·exact hus _ c (hcat j c hj)
def Se {t e:Nat} {ob off len sz:Nat} {k:IntKind} {i:Int} {u x:Value} (h:CRel F G [.msl ob off len sz,.int k i] H [u,x] w) (hu:P.underlying t=some (.slice e)) (h0:0<=i) (hi:i<len)
  (hs:sz=P.cellsOf e) (hz:0<sz) (hr:R (.ptr ob (off+i.toNat*sz)) H) :
  Fx P ((do let r<-Instr.indexAt t u x;pure (Next.value r):Sem Next).run P w) (Fe F G w R):=by
 have hx:=h.l.rel 0 _ _ rfl rfl
 have hk:=h.l.rel 1 _ _ rfl rfl
 cases hk
 subst hs
 cases hx with
 | msl _ _ _ _ b cap hb hl hm hc =>
  obtain ⟨C0,E0,hC0,_⟩:=hc
  refine .value (u:=.pointer (some ⟨b,off+i.toNat*P.cellsOf e,none⟩)) (w':=w) ?_ (Fe.plain h hr (.ptr _ _ b hb ⟨C0,E0,hC0⟩) (FT rfl rfl _))
  have hc:0<=i/\i<(len:Int):=⟨h0,FO⟩
  simp only [Instr.indexAt,asIntOf,AJ,run_underlying hu,AZ,Ad,Be,iP hc,Gd hz,MO]
def Ms {t e n:Nat} {p:AV} {k:IntKind} {i:Int} {u x:Value} (h:CRel F G [p,.int k i] H [u,x] w) (hu:P.underlying t=some (.array n e)) (h0:0<=i) (hi:i<n) (hz:0<P.cellsOf e)
  (hr:match (generalizing:=false) p with
   | .ptr ob off=>R (.ptr ob (off+i.toNat*P.cellsOf e)) H
   | .cptr cs off=>R (.cptr cs (off+i.toNat*P.cellsOf e)) H
   | _=>False) :
  Fx P ((do let r<-Instr.indexAt t u x;pure (Next.value r):Sem Next).run P w) (Fe F G w R):=by
 have hx:=h.l.rel 0 _ _ rfl rfl
 have hk:=h.l.rel 1 _ _ rfl rfl
 cases hk
 have hc:0<=i/\i<(n:Int):=⟨h0,hi⟩
 have run : ∀ b q,(Instr.indexAt t (.pointer (some ⟨b,q,none⟩)) (.int k i)).run P w = .ok (.pointer (some ⟨b,q+i.toNat*P.cellsOf e,none⟩)) w:=λb q=>by
  simp only [Instr.indexAt,asIntOf,AJ,run_underlying hu,AZ,Ad,Instr.sureAddr,Be,iP hc,Gd hz,MO]
 cases hx with
 | ptr o off b hb hbc=>exact .value (by rw [AJ,run];rfl) (Fe.plain h hr (.ptr _ _ b hb hbc) (FT rfl rfl _))
 | cptr cs off b q u' h1 h2=>exact .value (by rw [AJ,run];rfl) (Fe.plain h hr (by rw [Ag];exact .cptr cs _ b q u' h1 h2) (FT rfl rfl _))
 | _=>exact hr.elim
end
end Go.AI
namespace Go.AI
section
variable {P:Program} {F:Nat->Prop} {G:Gh} {w:World} {H:FP} {R:AV->FP->Prop} {ρ:Operand->Value}
def ZE{a:Option Bool}{as:List (Option Bool)}{r:Bool}(h:WO (a::as)=some r): ∃ x y,a=some x/\WO as=some y/\r=(x&&y):=by
 cases a with
 | none=>simp [WO] at h
 | some x=>cases hc:WO as with
  | none=>simp [WO,hc] at h
  | some y =>
   simp only [WO,hc,Option.some.injEq] at h
   exact ⟨x,y,rfl,rfl,h.symm⟩
def Nm{t:TypeId}{cs:List AV}{vs:Array Value}{off:Nat}{v:AV}(hc:Cells F G w cs vs.toList)(hl:Lj P t cs off=some v):
  ∃ u,(part t vs off).run P w = .ok u w/\VRel G w v u/\Cells F G w v.cells u.cells.toList:=by
 obtain ⟨u,h1,h2,h3,h4,h5,h6⟩:=dq hc hl
 refine ⟨u,h1,h2, ?_⟩
 rw [h5,h4]
 have:=(hc.drop off).take v.cells.length
 rw [h4] at this ⊢
 simpa using this
def Wm : ∀ (d:Nat) (t:TypeId) (x y:AV) (r:Bool),yJ P d t x y=some r -> ∀ (k:Nat) (u v:Value),VRel G w x u->VRel G w y v->Cells F G w x.cells u.cells.toList->Cells F G w y.cells v.cells.toList ->
  (Op.equalIn (d+k) t u v).run P w = .ok r w
 | 0,t,x,y,r,h,_,_,_,_,_,_,_=>by simp [yJ] at h
 | d+1,t,x,y,r,h,k,u,v,hu,hv,cx,cy=>by
  rw [show d+1+k=(d+k)+1 by omega]
  unfold yJ at h
  split at h
  ·rename_i ht
   cases h;cases hu;cases hv
   exact run_equalIn_bool w _ t _ _ ht
  ·rename_i kk ht
   split at h
   ·rename_i hk
    subst hk
    cases h;cases hu;cases hv
    exact run_equalIn_int w _ t _ _ _ _ ht
   ·cases h
  ·rename_i ht
   cases h;cases hu;cases hv
   exact run_equalIn_string w _ t _ _ ht
  ·rename_i fs xs ys ht
   split at h
   ·cases h
   ·rename_i hso
    cases hu with
    | agg _ us _ _ _=>cases hv with
     | agg _ vs _ _ _ =>
      have hfs:P.fieldsOf t=fs:=by unfold Program.fieldsOf;rw [ht]
      rw [run_equalIn_struct w (d+k) t us vs (by rw [hfs];exact ht) (by simpa using hso),hfs]
      generalize fs.toList=l at h
      induction l generalizing r with
      | nil=>simp only [Ah,WO] at h;cases h;rfl
      | cons f l ih =>
       simp only [AS] at h
       obtain ⟨a,b,h1,h2,rfl⟩:=ZE h
       split at h1
       ·cases h1
       ·rename_i hn
        split at h1
        ·rename_i va vb hla hlb
         obtain ⟨ua,p1,p2,p3⟩:=Nm (P:=P) (vs:=us) cx hla
         obtain ⟨ub,q1,q2,q3⟩:=Nm (P:=P) (vs:=vs) cy hlb
         have e:=Wm d f.type va vb a h1 k ua ub p2 q2 p3 q3
         simp only [Op.eqFields,hn,ne_eq,not_false_eq_true,if_true,AJ,p1,q1,e,AZ]
         cases a
         ·simp
         ·simpa using ih b h2
        ·cases h1
  ·rename_i n el xs ys ht
   split at h
   ·rename_i hi
    obtain ⟨i,hi⟩:=Bg.1 hi
    cases hu with
    | agg _ us _ _ _=>cases hv with
     | agg _ vs _ _ _ =>
      rw [run_equalIn_array w (d+k) us vs ht hi]
      generalize Am n=l at h ⊢
      induction l generalizing r with
      | nil=>simp only [Ah,WO] at h;cases h;rfl
      | cons j l ih =>
       simp only [AS] at h
       obtain ⟨a,b,h1,h2,rfl⟩:=ZE h
       split at h1
       ·rename_i va vb hla hlb
        obtain ⟨ua,p1,p2,p3⟩:=Nm (P:=P) (vs:=us) cx hla
        obtain ⟨ub,q1,q2,q3⟩:=Nm (P:=P) (vs:=vs) cy hlb
        have e:=Wm d el va vb a h1 k ua ub p2 q2 p3 q3
        simp only [Op.eqItems,AJ,p1,q1,e,AZ]
        cases a
        ·simp
        ·simpa using ih b h2
       ·cases h1
   ·cases h
  ·cases h
def jN{t:TypeId}{a b:AV}{r:Bool}(h:Kp P t a b=some r){u v:Value}(hu:VRel G w a u)(hv:VRel G w b v)(tu : ∀ p∈LE a u,GD F G w p)(tv : ∀ p∈LE b v,GD F G w p)(x y:Operand):
  (do eqGuard .eql t x y u v;binOp .eql t u v).run P w = .ok (.bool r) w/\(do eqGuard .neq t x y u v;binOp .neq t u v).run P w = .ok (.bool !r) w:=by
 unfold Kp at h
 split at h<;>first|cases h|skip
 ·rename_i hb
  cases hu;cases hv
  simp [eqGuard,binOp,run_equal_bool w t _ _ hb]
 ·rename_i hp
  cases hu;cases hv
  constructor<;>simp [eqGuard,binOp,LH _ hp]
 ·rename_i hp
  cases hu;cases hv
  constructor<;>simp [eqGuard,binOp,Mo _ hp]
 ·rename_i hp
  cases hu;cases hv
  constructor<;>simp [eqGuard,binOp,LH _ hp]
 ·rename_i hp
  cases hu;cases hv
  constructor<;>simp [eqGuard,binOp,Mo _ hp]
 ·rename_i hp
  cases hu;cases hv
  constructor<;>simp [eqGuard,binOp,LH _ hp]
 ·split at h
  ·cases h
  ·rename_i hg
   have ca:=(L6 rfl hu tu).1
   have cb:=(L6 rfl hv tv).1
   have e:=Wm (P:=P) 40 t _ _ r h 9960 u v hu hv ca cb
   cases hu;cases hv
   have e2:(Op.equal t (.agg _) (.agg _)).run P w = .ok r w:=e
   constructor<;>simp [eqGuard,binOp,hg,e2]
def AAj{op:BinOp}{t:TypeId}{x y:Operand}{a b:AV}(h:CRel F G [a,b] H [ρ x,ρ y] w)(hr:Kq P op t a b λv=>R v H):
  Fx P ((do let v<-(do eqGuard op t x y (ρ x) (ρ y);binOp op t (ρ x) (ρ y));pure (Next.value v):Sem Next).run P w) (Fe F G w R):=by
 have h1:=h.l.rel 0 _ _ rfl rfl
 have h2:=h.l.rel 1 _ _ rfl rfl
 have plain:KE op a b (λv=>R v H)->Fx P ((do let v<-(do eqGuard op t x y (ρ x) (ρ y);binOp op t (ρ x) (ρ y));pure (Next.value v):Sem Next).run P w) (Fe F G w R):=λhb=>by
  obtain ⟨c,r,hR,hv,ho,hs,hrun⟩:=ADX (P:=P) (t:=t) hb h1 h2 x y
  refine .value (u:=r) (w':=w) ?_ (Fe.plain h hR hv (FT ho hs r))
  rw [AJ,hrun];rfl
 unfold Kq at hr
 split at hr
 ·rename_i r he
  have:=(jN he h1 h2 (λp hp=>h.l.tok 0 _ _ rfl rfl p hp) (λp hp=>h.l.tok 1 _ _ rfl rfl p hp) x y).1
  refine .value (u:=.bool r) (w':=w) ?_ (Fe.plain h hr (.bool _) (FT rfl rfl _))
  rw [AJ,this];rfl
 ·rename_i r he
  have:=(jN he h1 h2 (λp hp=>h.l.tok 0 _ _ rfl rfl p hp) (λp hp=>h.l.tok 1 _ _ rfl rfl p hp) x y).2
  refine .value (u:=.bool !r) (w':=w) ?_ (Fe.plain h hr (.bool _) (FT rfl rfl _))
  rw [AJ,this];rfl
 ·exact plain hr
def sQ{op:BinOp}{t:TypeId}{x y:Operand}{a b:AV}(h:CRel F G [a,b] H [ρ x,ρ y] w)(hy:ρ y = .slice none 0 0)(hr:NY P op t a λv=>R v H):
  Fx P ((do let v<-(do eqGuard op t x y (ρ x) (ρ y);binOp op t (ρ x) (ρ y));pure (Next.value v):Sem Next).run P w) (Fe F G w R):=by
 have h1:=h.l.rel 0 _ _ rfl rfl
 rw [hy]
 have out : ∀ r:Bool,(do eqGuard op t x y (ρ x) (.slice none 0 0);binOp op t (ρ x) (.slice none 0 0)).run P w = .ok (.bool r) w->R (.bool r) H ->
   Fx P ((do let v<-(do eqGuard op t x y (ρ x) (.slice none 0 0);binOp op t (ρ x) (.slice none 0 0));pure (Next.value v):Sem Next).run P w) (Fe F G w R):=λr hrun hR=>by
  refine .value (u:=.bool r) (w':=w) ?_ (Fe.plain h hR (.bool _) (FT rfl rfl _))
  rw [AJ,hrun];rfl
 unfold NY at hr
 split at hr
 case h_2=>exact hr.elim
 rename_i e hu
 have ev : ∀ (ad:Option Addr) (l c:Nat),ρ x = .slice ad l c->(op = .eql->(do eqGuard op t x y (ρ x) (.slice none 0 0);binOp op t (ρ x) (.slice none 0 0)).run P w = .ok (.bool ad.isNone) w) /\
   (op = .neq->(do eqGuard op t x y (ρ x) (.slice none 0 0);binOp op t (ρ x) (.slice none 0 0)).run P w = .ok (.bool !ad.isNone) w):=by
  intro ad l c hx
  constructor<;>rintro rfl<;>simp [hx,eqGuard,binOp,Op.equal,Op.maxDepth,run_equalIn_slice_nil w 9999 t e ad l c hu]
 split at hr
 ·obtain ⟨u,hx⟩ : ∃ u,u=ρ x:=⟨_,rfl⟩
  rw [<- hx] at h1
  cases h1 with
  | slnil=>exact out _ ((ev _ _ _ hx.symm).1 rfl) hr.1
  | slany=>exact out _ ((ev _ _ _ hx.symm).1 rfl) hr.2
  | sl=>exact out _ ((ev _ _ _ hx.symm).1 rfl) hr.2
 ·obtain ⟨u,hx⟩ : ∃ u,u=ρ x:=⟨_,rfl⟩
  rw [<- hx] at h1
  cases h1 with
  | slnil=>exact out _ ((ev _ _ _ hx.symm).2 rfl) hr.2
  | slany=>exact out _ ((ev _ _ _ hx.symm).2 rfl) hr.1
  | sl=>exact out _ ((ev _ _ _ hx.symm).2 rfl) hr.1
 ·obtain ⟨u,hx⟩ : ∃ u,u=ρ x:=⟨_,rfl⟩
  rw [<- hx] at h1
  cases h1 with
  | sl=>exact out _ ((ev _ _ _ hx.symm).1 rfl) hr
 ·obtain ⟨u,hx⟩ : ∃ u,u=ρ x:=⟨_,rfl⟩
  rw [<- hx] at h1
  cases h1 with
  | sl=>exact out _ ((ev _ _ _ hx.symm).2 rfl) hr
 ·obtain ⟨u,hx⟩ : ∃ u,u=ρ x:=⟨_,rfl⟩
  rw [<- hx] at h1
  cases h1 with
  | msl=>exact out _ ((ev _ _ _ hx.symm).1 rfl) hr
 ·obtain ⟨u,hx⟩ : ∃ u,u=ρ x:=⟨_,rfl⟩
  rw [<- hx] at h1
  cases h1 with
  | msl=>exact out _ ((ev _ _ _ hx.symm).2 rfl) hr
 ·exact hr.elim
end
end Go.AI
namespace Go.AI
section
variable {P:Program} {F:Nat->Prop} {G:Gh} {w:World} {H:FP} {R:AV->FP->Prop}
def Fx.skip{K:Value->World->Prop}{r:Result Next}{w':World}(hr:r = .ok .skip w')(h:K Go.undef w'):Fx P r K:=by subst hr;exact h
def HRel.at_obj(h:HRel F G H w){ob:Nat}{cs:List AV}(ho:H[ob]? =some (some cs)){b:Nat}(hb:G.obs[ob]? =some b)(hbc : ∃ (C:Array Value) (E:TypeId),w.heap[b]? =some (.cells C E (0,0))):
  ∃ (C:Array Value) (E:TypeId),w.heap[b]? =some (.cells C E (0,0))/\cs.length<=C.size/\Cells F G w cs (C.toList.take cs.length):=by
 obtain ⟨C0,E0,hb0⟩:=hbc
 obtain ⟨C,E,h1,h2,h3⟩:=((h.obj ob cs b ho hb).of_cells hb0).2
 refine ⟨C,E,h1,h2,by simp;omega,λi c v hc hv=>?_⟩
 rw [Ak] at hv
 split at hv
 ·exact h3 i c v hc (by simpa using hv)
 ·cases hv
def Lm{α β:Type}: ∀ (a:List α) (b:List β),a.zip b=a.zip (b.take a.length)
 | [],b=>sm
 | _::_,[]=>sm
 | x::a,y::b=>by simp [<- Lm a b]
def TQ{α:Type}(l ys:List α)(off m:Nat)(h:off+ys.length<=m)(hm:m<=l.length):
  (l.take off++ys++l.drop (off+ys.length)).take m=(l.take m).take off++ys++(l.take m).drop (off+ys.length):=by
 have h1:(l.take off).length=off:=by simp;omega
 rw [AE,D1,h1,D1,C1,C1,List.drop_take,AE]
 rw [Nat.min_eq_right FO,B6 FO,Bs (l:=ys) FO]
 rw [show m - off - ys.length=m - (off+ys.length) by omega]
def OY {t ob off:Nat} {cs:List AV} {v:AV} {u:Value} (h:CRel F G [.ptr ob off] H [u] w) (ho:H[ob]? =some (some cs)) (hl:Lj P t cs off=some v)
  (hr:R v.borrow H\/R v (H.set ob (some (splice cs off (v.cells.map borrow1))))) :
  Fx P ((do let r<-Instr.loadAt t u;pure (Next.value r):Sem Next).run P w) (Fe F G w R):=by
 have hx:=h.l.rel 0 _ _ rfl rfl
 cases hx with
 | ptr o off b hb hbc =>
  have hobj:=h.h.obj ob cs b ho hb
  obtain ⟨x,hrun,hv,hval,hcells,hf1,hf2⟩:=aB (P:=P) hl (O3 hbc.choose_spec.choose_spec hobj)
  rw [AY] at hrun
  have hrun':(do let r<-Instr.loadAt t (.pointer (some ⟨b,off,none⟩));pure (Next.value r):Sem Next).run P w = .ok (.value x) w:=by
   simp only [Instr.loadAt,Instr.sureAddr,AJ,Ad,AZ,hrun]
  rcases hr with hr|hr
  ·exact .value hrun' (Fe.plain h hr hv.borrow (Gb v x))
  ·obtain ⟨C,E,hrow,hCs,hC⟩:=h.h.at_obj ho hb hbc
   have hxl:v.cells.length=x.cells.toList.length:=by have:=(Jk hval hv).2.2;simpa using this
   have hstretch : ∀ (i:Nat),i<v.cells.length->cs[off+i]? =v.cells[i]?/\C[off+i]? =x.cells.toList[i]?:=by
    intro i hi
    have h1:v.cells[i]? =some v.cells[i]:=AL hi
    have h2:x.cells.toList[i]? =some (x.cells.toList[i]' FO):=AL _
    obtain ⟨g1,g2⟩:=hcells i _ _ h1 (by rw [<- Ae];exact h2)
    rw [AY,cell_of_row w b _ C E _ hrow] at g2
    exact ⟨g1.trans h1.symm,g2.trans h2.symm⟩
   have hle:off+v.cells.length<=cs.length:=by
    by_cases h0:v.cells.length=0
    ·unfold Lj at hl
     split at hl
     ·split at hl
      ·cases hl;simp only [AV.cells] at h0 ⊢;simp at h0 ⊢;omega
      ·cases hl
     ·split at hl
      ·cases hl;simp only [AV.cells] at h0 ⊢;simp at h0 ⊢;omega
      ·cases hl
     ·have:=(AC.1 hl).1;omega
     ·cases hl
    ·have:=(hstretch (v.cells.length - 1) FO).1
     rw [AL (show v.cells.length - 1<v.cells.length by omega)] at this
     have:=(AC.1 this).1
     omega
   have e1:v.cells=(cs.drop off).take v.cells.length:=by
    apply A5
    intro i
    by_cases hi:i<v.cells.length
    ·rw [JJ _ _ _ _ hi,(hstretch i hi).1]
    ·rw [Az FO,Az (by simp;omega)]
   have e2:x.cells.toList=((C.toList.take cs.length).drop off).take v.cells.length:=by
    apply A5
    intro i
    by_cases hi:i<v.cells.length
    ·rw [JJ _ _ _ _ hi,Ak,iP FO,<- (hstretch i hi).2]
     simp
    ·rw [Az FO,Az (by simp;omega)]
   have hC2:=hC.unown off v.cells.length hle
   rw [<- e1] at hC2
   have hlen2:(splice cs off (v.cells.map borrow1)).length=cs.length:=by rw [MP (by simpa using hle)]
   have htoksv:Gs v x=Gy ((cs.drop off).take v.cells.length) (((C.toList.take cs.length).drop off).take v.cells.length):=by
    unfold Gs Gy
    rw [PS hval hv,<- e1,<- e2]
   have htokok : ∀ p∈LE v x,GD F G w p:=by
    intro p hp
    rw [PS hval hv,e1,e2] at hp
    obtain ⟨i,hi⟩:=Af hp
    rw [Bc] at hi
    obtain ⟨h1,h2⟩:=hi
    exact (((hC.drop off).take v.cells.length).at_ i p.1 p.2 h1 h2).2.2
   have hset:=h.setObj ho hb hrow (C':=C) rfl (cs':=splice cs off (v.cells.map borrow1)) (by rw [hlen2];exact hCs) (λi c y hc hy=>?_) (vs:=[v]) (us':=[x]) (.cons hv htokok (.nil F G w)) (λy=>?_)
   ·rw [setRow_self w b C E _ hrow] at hset
    exact .value hrun' ⟨v,_,G,hr,hset.1,hset.2⟩
   ·have hi:=(AC.1 hc).1
    exact hC2.at_ i c y hc (by rw [Ak,iP FO];simpa using hy)
   ·have h1:=iG (cs:=cs) (vs:=C.toList.take cs.length) (off:=off) (k:=v.cells.length) hC.len y hle
    rw [<- e1] at h1
    rw [FY,GS,htoksv,<- e1]
    have z1:(splice cs off (v.cells.map borrow1)).zip C.toList=(splice cs off (v.cells.map borrow1)).zip (C.toList.take cs.length):=by
     have:=Lm (splice cs off (v.cells.map borrow1)) C.toList
     rw [hlen2] at this;exact this
    rw [z1,Lm cs C.toList]
    unfold Gy at h1 ⊢
    omega
def Z0{t off:Nat}{cs:List AV}{v:AV}{u:Value}(h:CRel F G [.cptr cs off] H [u] w)(hl:Lj P t cs off=some v)(hr:R v.borrow H):
  Fx P ((do let r<-Instr.loadAt t u;pure (Next.value r):Sem Next).run P w) (Fe F G w R):=by
 have hx:=h.l.rel 0 _ _ rfl rfl
 obtain ⟨b,q,rfl,hc⟩:=UA hx
 obtain ⟨x,hrun,hv,_⟩:=aB (P:=P) hl hc
 exact .value (by simp only [Instr.loadAt,Instr.sureAddr,AJ,Ad,AZ,hrun]) (Fe.plain h hr hv.borrow (Gb v x))
def AAe {t ob off:Nat} {cs:List AV} {v:AV} {u x:Value} (h:CRel F G [.ptr ob off,v] H [u,x] w) (ho:H[ob]? =some (some cs)) (hval:v.isVal=true) (hk:v.cells.length=P.cellsOf t) (hz:0<P.cellsOf t)
  (hle:off+P.cellsOf t<=cs.length) (hr:R .undef (H.set ob (some (splice cs off v.cells)))) :
  Fx P ((do Instr.storeAt t u x;pure Next.skip:Sem Next).run P w) (Fe F G w R):=by
 have hp:=h.l.rel 0 _ _ rfl rfl
 have hv:=h.l.rel 1 _ _ rfl rfl
 have ht:=h.l.tok 1 _ _ rfl rfl
 cases hp with
 | ptr o off b hb hbc =>
  obtain ⟨C,E,hrow,hCs,hC⟩:=h.h.at_obj ho hb hbc
  obtain ⟨hcv,htk⟩:=L6 hval hv ht
  have hxl:x.cells.size=P.cellsOf t:=by have:=(Jk hval hv).2.2;omega
  have hst:=run_storeCells_at P b off E x.cells.toList 0 C w hrow (by simp;omega) hcv.oneCell
  simp only [BB,Br] at hst
  let C':Array Value:=(C.toList.take off++x.cells.toList++C.toList.drop (off+x.cells.size)).toArray
  have hC':C'=(C.toList.take off++x.cells.toList++C.toList.drop (off+x.cells.size)).toArray:=rfl
  have hsize:C'.size=C.size:=by rw [hC'];simp;omega
  have hrun:(do Instr.storeAt t (.pointer (some ⟨b,off,none⟩)) x;pure Next.skip:Sem Next).run P w = .ok .skip (w.setRow b C'):=by
   simp only [Instr.storeAt,Instr.sureAddr,storeVar,AJ,Ad,AZ,Gd hz,Be]
   rw [iN FO]
   simp only [Ad,AZ,hst,hC']
  have hlen2:(splice cs off v.cells).length=cs.length:=MP FO
  have hspl:C'.toList.take cs.length=Hr (C.toList.take cs.length) off x.cells.toList:=by
   rw [hC']
   have:=TQ C.toList x.cells.toList off cs.length (by simp;omega) (by simpa using hCs)
   simpa [Hr] using this
  have hCC:=hC.splice (off:=off) hcv
  have hset:=h.setObj ho hb hrow (C':=C') hsize (cs':=splice cs off v.cells) (by rw [hlen2,hsize];exact hCs) (λi c y hc hy=>?_) (vs:=[.undef]) (us':=[Go.undef]) (.cons (.undef _) (Ff (Hc _) F G w) (.nil F G w)) (λy=>?_)
  ·exact Fx.skip hrun ⟨.undef,_,G,hr,hset.1,hset.2⟩
  ·have hi:=(AC.1 hc).1
   refine hCC.at_ i c y hc ?_
   rw [<- hspl,Ak,iP FO]
   simpa using hy
  ·rw [FY,GS,Hc,FY,FY,GS,htk]
   have z1:(splice cs off v.cells).zip C'.toList=(splice cs off v.cells).zip (Hr (C.toList.take cs.length) off x.cells.toList):=by
    have:=Lm (splice cs off v.cells) C'.toList
    rw [hlen2,hspl] at this;exact this
   rw [z1,Lm cs C.toList]
   have h1:=Nl (cs:=cs) (xs:=v.cells) (vs:=C.toList.take cs.length) (ys:=x.cells.toList) (off:=off) hC.len (by simp;omega) y
   unfold Gy at h1 ⊢
   simp only [Bd]
   omega
def AII{elem:TypeId}{v:AV}{u:Value}(h:CRel F G [v] H [u] w)(hval:v.isVal=true)(hr:R (.ptr H.length 0) (H++[some v.cells])):
  Fx P ((do let r<-Instr.box elem u;pure (Next.value r):Sem Next).run P w) (Fe F G w R):=by
 have hv:=h.l.rel 0 _ _ rfl rfl
 have ht:=h.l.tok 0 _ _ rfl rfl
 obtain ⟨hc,htk⟩:=L6 hval hv ht
 refine .value (u:=.pointer (some ⟨w.heap.size,0,none⟩)) (w':=w.alloc (.cells u.cells elem)) (by simp [Instr.box,newVar,newRow]) ⟨_,_,_,hr, ?_,IQ h.h.fore _⟩
 refine h.newObj v.cells u.cells elem (by have:=hc.len;simp at this;omega) (λi c x h1 h2=>hc.at_ i c x h1 (by simpa using h2)) (λb=>?_) (.ptr _ _ _ ?_ ⟨_,_,heap_alloc_new w _⟩) (FT rfl rfl _)
 ·rw [FY,GS,htk]
  exact AU _
 ·show (G.obs++[w.heap.size])[H.length]? =_
  rw [<- h.h.len,AM (AU _)]
  simp
end
end Go.AI
namespace Go.AI
section
variable {P:Program} {F:Nat->Prop} {G:Gh} {w:World} {H:FP} {R:AV->FP->Prop}
def VRel.constT(G:Gh)(w:World)(ty:Option TypeId)(v:Value):VRel G w (constT P ty v) v:=by
 unfold Go.AI.constT
 split
 ·exact .slnil _
 ·exact VRel.const1 G w v
def NP(ty:Option TypeId)(v u:Value)(h:u=v):tok (constT P ty v,u)=none:=by
 subst h
 unfold constT
 split
 ·cases Si P ty<;>rfl
 ·exact Lp (Mb _) _
def Cells.constT(cs:List Value)(tys:List TypeId)(k:Nat)(hs:((cs.zipIdx k).map λ(c,i)=>Go.AI.constT P tys[i]? c).all AV.scalar=true):
  Cells F G w ((cs.zipIdx k).map λ(c,i)=>Go.AI.constT P tys[i]? c) cs/\Gy ((cs.zipIdx k).map λ(c,i)=>Go.AI.constT P tys[i]? c) cs=[]:=by
 induction cs generalizing k with
 | nil=>exact ⟨.nil,rfl⟩
 | cons c cs ih =>
  simp only [DX,AS,Al,AQ] at hs ⊢
  obtain ⟨h1,h2⟩:=ih (k+1) hs.2
  refine ⟨?_, ?_⟩
  ·have one:Cells F G w [Go.AI.constT P tys[k]? c] [c]:=⟨rfl,λi x y hx hy=>by
    cases i with
    | zero=>simp at hx hy;subst hx;subst hy;exact ⟨hs.1,VRel.constT G w _ c,F7 (NP _ c c rfl)⟩
    | succ i=>simp at hx⟩
   exact one.append h1
  ·simp only [Gy,B4,B5,NP _ c c rfl]
   exact h2
def Mi{t:TypeId}{z:AV}(h:Fi P t=some z): ∃ zv,(∀ w,(zeroValue t).run P w = .ok zv w)/\z.isVal=true /\
  (∀ (F:Nat->Prop) (G:Gh) (w:World),Cells F G w z.cells zv.cells.toList)/\Gy z.cells zv.cells.toList=[]:=by
 unfold Fi at h
 split at h
 ·rename_i cs hz
  split at h
  ·rename_i hs
   cases h
   cases hi:P.info? t with
   | none=>rw [hi] at hz;cases hz
   | some i =>
    rw [hi] at hz
    have hz':i.zero=some (.agg cs):=hz
    refine ⟨.agg cs,λw=>by simp [zeroValue,typeInfo,hi,hz'],rfl,λF G w=>?_, ?_⟩
    ·exact (Cells.constT (F:=F) (G:=G) (w:=w) cs.toList (PV P 20 t) 0 hs).1
    ·exact (Cells.constT (F:=λ_=>False) (G:=⟨[],λ_ => .imm⟩) (w:=default) cs.toList (PV P 20 t) 0 hs).2
  ·cases h
 ·rename_i zv hne hz
  split at h
  ·rename_i hs
   cases h
   cases hi:P.info? t with
   | none=>rw [hi] at hz;cases hz
   | some i =>
    rw [hi] at hz
    have hz':i.zero=some zv:=hz
    have hval:(Go.AI.constT P (some t) zv).isVal=true:=by
     generalize Go.AI.constT P (some t) zv=c at hs
     cases c<;>first|rfl|cases hs
    have h1:(Go.AI.constT P (some t) zv).cells=[Go.AI.constT P (some t) zv]:=by
     generalize Go.AI.constT P (some t) zv=c at hs
     cases c<;>first|rfl|cases hs
    have h2:zv.cells.toList=[zv]:=by
     have:=VRel.constT (P:=P) ⟨[],λ_ => .imm⟩ default (some t) zv
     generalize Go.AI.constT P (some t) zv=c at hs this
     cases this<;>first|rfl|cases hs
    refine ⟨zv,λw=>by simp [zeroValue,typeInfo,hi,hz'],hval,λF G w=>?_, ?_⟩
    ·rw [h1,h2]
     exact ⟨rfl,λi x y hx hy=>by
      cases i with
      | zero=>simp at hx hy;subst hx;subst hy;exact ⟨hs,VRel.constT G w _ zv,F7 (NP _ zv zv rfl)⟩
      | succ i=>simp at hx⟩
    ·rw [h1,h2]
     simp [Gy,NP _ zv zv rfl]
  ·cases h
 ·cases h
end
end Go.AI
namespace Go.AI
section
variable {P:Program} {F:Nat->Prop} {G:Gh} {w:World} {H:FP} {R:AV->FP->Prop}
def AAk{elem:TypeId}{z:AV}(h:CRel F G [] H [] w)(hz:Fi P elem=some z)(hr:R (.ptr H.length 0) (H++[some z.cells])):
  Fx P ((do let r<-Instr.alloc elem true (.tuple #[]);pure (Next.value r):Sem Next).run P w) (Fe F G w R):=by
 obtain ⟨zv,hrun,hval,hc,ht⟩:=Mi hz
 have hc':=hc F G w
 refine .value (u:=.pointer (some ⟨w.heap.size,0,none⟩)) (w':=w.alloc (.cells zv.cells elem)) (by simp [Instr.alloc,newVar,newRow,hrun]) ⟨_,_,_,hr, ?_,IQ h.h.fore _⟩
 refine h.newObj z.cells zv.cells elem (by have:=hc'.len;simp at this;omega) (λi c x h1 h2=>hc'.at_ i c x h1 (by rw [Ae];exact h2)) (λb=>?_) (.ptr _ _ _ ?_ ⟨_,_,heap_alloc_new w _⟩) (FT rfl rfl _)
 ·show CT b (Gy z.cells zv.cells.toList)<=_
  rw [ht];simp
 ·show (G.obs++[w.heap.size])[H.length]? =_
  rw [<- h.h.len,AM (AU _)]
  simp
def Z4{elem:TypeId}(h:CRel F G [] H [] w)(hz:AAp P elem=true)(hr:R (.ptr H.length 0) (H++[some [.sl (some 0) []]])):
  Fx P ((do let r<-Instr.alloc elem true (.tuple #[]);pure (Next.value r):Sem Next).run P w) (Fe F G w R):=by
 unfold AAp at hz
 split at hz
 case h_2=>cases hz
 rename_i hz0
 cases hi:P.info? elem with
 | none=>rw [hi] at hz0;cases hz0
 | some i =>
  rw [hi] at hz0
  have hz':i.zero=some (.slice none 0 0):=hz0
  have hrun : ∀ w,(zeroValue elem).run P w = .ok (.slice none 0 0) w:=λw=>by simp [zeroValue,typeInfo,hi,hz']
  refine .value (u:=.pointer (some ⟨w.heap.size,0,none⟩)) (w':=w.alloc (.cells #[.slice none 0 0] elem)) (by simp [Instr.alloc,newVar,newRow,hrun,Value.cells]) ⟨_,_,_,hr, ?_,IQ h.h.fore _⟩
  have htk:tok (.sl (some 0) [],.slice none 0 0)=none:=rfl
  refine h.newObj [.sl (some 0) []] #[.slice none 0 0] elem sm (λi c x h1 h2=>?_) (λb=>?_) (.ptr _ _ _ ?_ ⟨_,_,heap_alloc_new w _⟩) (FT rfl rfl _)
  ·cases i with
   | zero=>simp at h1 h2;subst h1;subst h2;exact ⟨rfl,.slnil _,F7 htk⟩
   | succ i=>simp at h1
  ·simp [htk]
  ·show (G.obs++[w.heap.size])[H.length]? =_
   rw [<- h.h.len,AM (AU _)]
   simp
def ge(off:Nat): ∀ (l:List Value) (k:Nat) (cells:Array Value),off+k+l.length<=cells.size ->
  ((l.zipIdx k).foldl (λcs p=>cs.setIfInBounds (off+p.2) p.1) cells).toList=cells.toList.take (off+k)++l++cells.toList.drop (off+k+l.length)
 | [],k,cells,h=>sm
 | v::l,k,cells,h=>by
  simp only [DX,List.foldl_cons]
  rw [ge off l (k+1) _ (by simp at h ⊢;omega)]
  have e:=list_seg_step cells.toList (off+k) v l (by simp at h ⊢;omega)
  simpa [Array.toList_setIfInBounds,Ag] using e
def gj(v:Value)(off:Nat)(cells:Array Value)(h:off+v.cells.size<=cells.size):
  v.cells.zipIdx.foldl (λcs (c,j)=>cs.setIfInBounds (off+j) c) cells=(Hr cells.toList off v.cells.toList).toArray:=by
 apply Bm
 have:=ge off v.cells.toList 0 cells (by simpa using h)
 rw [<- Array.foldl_toList,Array.toList_zipIdx]
 simpa [Hr] using this
def gi(place:Nat->Option (Nat×Nat)): ∀ (is:List Nat) (vs:List AV) (us:List Value) (cs cs':List AV) (C:Array Value),IG place cs is vs=some cs'->LRel F G vs us w->Cells F G w cs C.toList ->
  ∃ C',Instr.fill place C (is.zip us)=some C'/\Cells F G w cs' C'.toList /\ ∀ b,(Gy cs' C'.toList).count b<=(Gy cs C.toList).count b+HC b vs us
 | [],[],us,cs,cs',C,h,hl,hc=>by
  simp only [IG,Option.some.injEq] at h
  subst h
  exact ⟨C,by simp [Instr.fill],hc,λb=>FO⟩
 | [],_::_,_,_,_,_,h,_,_=>by simp [IG] at h
 | _::_,[],_,_,_,_,h,_,_=>by simp [IG] at h
 | i::is,v::vs,us,cs,cs',C,h,hl,hc=>by
  match us,hl.len with
  | u::us,_ =>
   obtain ⟨hv,ht,hl'⟩:=hl.uncons
   simp only [IG] at h
   split at h
   ·rename_i off size hp
    split at h
    ·rename_i hcond
     obtain ⟨hval,hk,hle⟩:=hcond
     obtain ⟨hcv,htk⟩:=L6 hval hv ht
     have hus:u.cells.size=size:=by have:=(Jk hval hv).2.2;omega
     have hCs:cs.length=C.size:=by simpa using hc.len
     obtain ⟨C',h1,h2,h3⟩:=gi place is vs us (splice cs off v.cells) cs' (Hr C.toList off u.cells.toList).toArray h hl' (by simpa using hc.splice (off:=off) hcv)
     refine ⟨C', ?_,h2,λb=>?_⟩
     ·simp only [B4,Instr.fill,hp]
      rw [iN (by simp [hus];omega),gj u off C FO]
      exact h1
     ·have g1:=h3 b
      have g2:=Nl (cs:=cs) (xs:=v.cells) (vs:=C.toList) (ys:=u.cells.toList) (off:=off) hc.len hcv.len b
      rw [FY,htk]
      simp only [] at g1
      omega
    ·cases h
   ·cases h
def PO(ρ:Operand->Value): ∀ (ps:List (Nat×Operand)),(ps.map (·.1)).zip (ps.map λp=>ρ p.2)=ps.map λp=>(p.1,ρ p.2)
 | []=>rfl
 | p::ps=>by simp [PO ρ ps]
def OZ {t:TypeId} {ps:List (Nat×Operand)} {ρ:Operand->Value} {place:Nat->Option (Nat×Nat)} {vs z cs:List AV} (h:CRel F G vs H (ps.map λp=>ρ p.2) w) (hz:Fi P t=some (.agg z))
  (hf:IG place z (ps.map (·.1)) vs=some cs) (hr:R (.agg cs) H)
  (hb : ∀ (zv:Value) (cells:Array Value),(∀ w,(zeroValue t).run P w = .ok zv w)->Instr.fill place zv.cells (ps.map λp=>(p.1,ρ p.2))=some cells->(Instr.build t (ps.map λp=>(p.1,ρ p.2)).toArray).run P w = .ok (.agg cells) w) :
  Fx P ((do let r<-Instr.build t (ps.map λp=>(p.1,ρ p.2)).toArray;pure (Next.value r):Sem Next).run P w) (Fe F G w R):=by
 obtain ⟨zv,hrun,hval,hc,ht⟩:=Mi hz
 obtain ⟨C',h1,h2,h3⟩:=gi (F:=F) (G:=G) (w:=w) place _ _ _ _ _ zv.cells hf h.l (hc F G w)
 rw [PO] at h1
 have hbuild:=hb zv C' hrun h1
 obtain ⟨g1,g2,g3⟩:=oV h2
 rw [Array.toArray_toList] at g1 g2 g3
 refine .value (u:=.agg C') (w':=w) (by rw [AJ,hbuild];rfl) (Fe.same (h.one g1 g2 λb=>?_) hr)
 rw [g3]
 have:=h3 b
 simp only [AV.cells] at ht
 rw [ht] at this
 simpa using this
def T3 {t:TypeId} {fs:Array Field} {ps:List (Nat×Operand)} {ρ:Operand->Value} {vs z cs:List AV} (h:CRel F G vs H (ps.map λp=>ρ p.2) w) (hu:P.underlying t=some (.struct fs)) (hfs:M8 P fs=true)
  (hz:Fi P t=some (.agg z)) (hf:IG ((Iq P fs)[·]?) z (ps.map (·.1)) vs=some cs) (hr:R (.agg cs) H) :
  Fx P ((do let r<-Instr.build t (ps.map λp=>(p.1,ρ p.2)).toArray;pure (Next.value r):Sem Next).run P w) (Fe F G w R):=by
 refine OZ h hz hf hr λzv cells hrun hfill=>?_
 obtain ⟨i,hi⟩:=LG hu
 have hzero:i.zero=some zv:=by
  have:=hrun w
  simp only [zeroValue,typeInfo,AJ,run_program,AZ,hi,Ad] at this
  cases hz':i.zero with
  | none=>rw [hz'] at this;cases this
  | some v=>rw [hz'] at this;cases this;rfl
 have hpl:fs.toList.mapM (λf=>(P.info? f.type).map λi=>(f.offset,i.size))=some (Iq P fs).toList:=by
  have hall : ∀ f∈fs.toList,(P.info? f.type).isSome=true:=by
   intro f hf'
   have:=Array.all_eq_true_iff_forall_mem.1 hfs f (by simpa using hf')
   exact this
  have:(Iq P fs).toList=fs.toList.map λf=>(f.offset,P.cellsOf f.type):=by simp [Iq]
  rw [this]
  clear hf hfill hu hfs this
  revert hall
  generalize fs.toList=L
  intro hall
  induction L with
  | nil=>rfl
  | cons f l ih =>
   have h1:=hall f sm
   obtain ⟨fi,hfi⟩:=Bg.1 h1
   have ih':=ih λg hg=>hall g (by simp [hg])
   simp only [List.mapM_cons,Option.bind_eq_bind,Option.pure_def,hfi,BU,Bb,ih',AS,BI,BQ]
 refine run_build w t _ cells ?_
 simp only [D3,hi,hu,hzero,hpl]
 simpa using hfill
def VT {t e n:Nat} {ps:List (Nat×Operand)} {ρ:Operand->Value} {vs z cs:List AV} (h:CRel F G vs H (ps.map λp=>ρ p.2) w) (hu:P.underlying t=some (.array n e)) (he:(P.info? e).isSome=true)
  (hz:Fi P t=some (.agg z)) (hf:IG (λi=>some (i*P.cellsOf e,P.cellsOf e)) z (ps.map (·.1)) vs=some cs) (hr:R (.agg cs) H) :
  Fx P ((do let r<-Instr.build t (ps.map λp=>(p.1,ρ p.2)).toArray;pure (Next.value r):Sem Next).run P w) (Fe F G w R):=by
 refine OZ h hz hf hr λzv cells hrun hfill=>?_
 obtain ⟨i,hi⟩:=LG hu
 obtain ⟨ie,hie⟩:=Bg.1 he
 have hzero:i.zero=some zv:=by
  have:=hrun w
  simp only [zeroValue,typeInfo,AJ,run_program,AZ,hi,Ad] at this
  cases hz':i.zero with
  | none=>rw [hz'] at this;cases this
  | some v=>rw [hz'] at this;cases this;rfl
 refine run_build w t _ cells ?_
 simp only [D3,hi,hu,hzero,hie]
 have hce:P.cellsOf e=ie.size:=by simp [BI,hie]
 rw [hce] at hfill
 simpa using hfill
def WE(size:Nat): ∀ (us:List Value) (k:Nat) (C:Array Value),(∀ u∈us,u.cells.size=size)->C.size=(k+us.length)*size ->
  Instr.fill (λi=>some (i*size,size)) C ((DY k us.length).zip us)=some (C.toList.take (k*size)++us.flatMap λu=>u.cells.toList).toArray
 | [],k,C,_,hC=>by
  simp only [AH,BB] at hC
  simp [Instr.fill,Bs,hC]
 | u::us,k,C,hs,hC=>by
  have hu:u.cells.size=size:=hs u sm
  have hC':C.size=k*size+size+us.length*size:=by rw [hC];simp only [AD,A2];omega
  simp only [AD,List.range'_succ,B4,Instr.fill]
  rw [iN (by simp [hu];omega),gj u (k*size) C FO,WE size us (k+1) _ (λx hx=>hs x (by simp [hx])) ?_]
  ·congr 1
   apply Bm
   simp only [BJ]
   have e:(Hr C.toList (k*size) u.cells.toList).take ((k+1)*size)=C.toList.take (k*size)++u.cells.toList:=by
    unfold Hr
    rw [List.take_append_of_le_length (by simp;rw [A2];omega),Bs (by simp;rw [A2];omega)]
   rw [e,AE]
  ·simp only [Hr,BV,AF,BC,Ce,Br,hu,A2] at *
   omega
def S1 : ∀ (vs:List AV) (us:List Value),LRel F G vs us w->(∀ v∈vs,v.isVal=true)->Cells F G w (HU (vs.map AV.borrow)) (us.flatMap λu=>u.cells.toList)
 | [],us,h,_=>by
  match us,h.len with
  | [],_=>exact .nil
 | v::vs,us,h,hv=>by
  match us,h.len with
  | u::us,_ =>
   obtain ⟨h1,h2,h3⟩:=h.uncons
   have hval:v.borrow.isVal=true:=by
    have:=hv v sm
    cases v<;>first|rfl|cases this
   have hc:=(L6 hval h1.borrow (Ff (Gb v u) F G w)).1
   have:=S1 vs us h3 λx hx=>hv x (by simp [hx])
   simp only [AS,HU,BJ]
   exact hc.append this
def Kk(v:AV):v.borrow.cells.length=v.cells.length:=by
 cases v<;>simp [AV.borrow,borrow0,AV.cells]
def XV {t e len:Nat} {ps:List (Nat×Operand)} {ρ:Operand->Value} {vs:List AV} (h:CRel F G vs H (ps.map λp=>ρ p.2) w) (hu:P.underlying t=some (.slice e)) (hpos:0<P.cellsOf e) (hsmall:len*P.cellsOf e<=16777216)
  (hidx:ps.map (·.1)=Am len) (hvs : ∀ v∈vs,v.isVal=true/\v.cells.length=P.cellsOf e) (hz:Gj P e=true) (hr:R (.sl (some (P.cellsOf e)) (vs.map AV.borrow)) H) :
  Fx P ((do let r<-Instr.buildSlice t len (ps.map λp=>(p.1,ρ p.2)).toArray;pure (Next.value r):Sem Next).run P w) (Fe F G w R):=by
 have hpl:ps.length=len:=by have:=congrArg List.length hidx;simpa using this
 have hvl:vs.length=len:=by have:=h.l.len;simp at this;omega
 have hus : ∀ u∈ps.map (λp=>ρ p.2),u.cells.size=P.cellsOf e:=by
  intro u hu'
  obtain ⟨i,hi⟩:=Af hu'
  have hlt:=(AC.1 hi).1
  simp at hlt
  have hv:vs[i]? =some (vs[i]' FO):=AL _
  obtain ⟨g1,g2⟩:=hvs _ (AB hv)
  have:=(Jk g1 (h.l.rel i _ u hv hi)).2.2
  omega
 unfold Gj at hz
 split at hz
 ·rename_i i hi
  split at hz
  ·rename_i z hz'
   have key : ∀ zc:Array Value,Instr.fill (λi=>some (i*P.cellsOf e,P.cellsOf e)) ((CU (len*P.cellsOf e)).map (zc[· % zc.size]!)) (ps.map λp=>(p.1,ρ p.2)) =
     some ((ps.map λp=>ρ p.2).flatMap λu=>u.cells.toList).toArray:=λzc=>by
    have hfill:=WE (P.cellsOf e) (ps.map λp=>ρ p.2) 0 ((CU (len*P.cellsOf e)).map (zc[· % zc.size]!)) hus (by simp [hpl])
    rw [show (DY 0 (ps.map λp=>ρ p.2).length)=ps.map (·.1) by rw [hidx,List.range_eq_range'];simp [hpl],PO] at hfill
    simpa using hfill
   have hcc:=S1 vs _ h.l λv hv=>(hvs v hv).1
   have hrun:(Instr.buildSlice t len (ps.map λp=>(p.1,ρ p.2)).toArray).run P w = .ok (.slice (some ⟨w.heap.size,0,none⟩) len len) (w.alloc (.cells ((ps.map λp=>ρ p.2).flatMap λu=>u.cells.toList).toArray e)):=by
    have hs:(sizeOf e).run P w = .ok (P.cellsOf e) w:=Gd hpos w
    simp only [Instr.buildSlice,AJ,run_underlying hu,AZ,hs,Be]
    rw [iN FO]
    simp only [Ad,AZ]
    by_cases h0:len*P.cellsOf e=0
    ·simp only [iP h0,key]
     simp [newRow]
    ·simp only [iN h0,zeroValue,typeInfo,AJ,run_program,AZ,hi,hz',Ad,key]
     simp [newRow]
   obtain ⟨G',hc1,hc2⟩:=h.newList (vs.map AV.borrow) (P.cellsOf e) len ((ps.map λp=>ρ p.2).flatMap λu=>u.cells.toList).toArray e hpos (λx hx=>by
     obtain ⟨v,hv,rfl⟩:=AP.1 hx
     rw [Kk];exact (hvs v hv).2) (by simp [hvl]) (by
      have:len<=len*P.cellsOf e:=Nat.le_mul_of_pos_right _ hpos
      unfold maxLen;omega) (by
      have:=hcc.len
      rw [G6 (n:=P.cellsOf e) λx hx=>by
       obtain ⟨v,hv,rfl⟩:=AP.1 hx
       rw [Kk];exact (hvs v hv).2] at this
      simp only [Aq,hvl] at this
      simp only [BV]
      omega) (λi c hi'=>by
       have hlt:=(AC.1 hi').1
       have hx:=AL (l:=(ps.map λp=>ρ p.2).flatMap λu=>u.cells.toList) (i:=i) (by rw [<- hcc.len];exact hlt)
       obtain ⟨s1,s2,_⟩:=hcc.at_ i c _ hi' hx
       exact ⟨s1,_,sm,s2⟩)
   simp only [Aq,hvl] at hc1
   exact .value (by rw [AJ,hrun];rfl) ⟨_,H,G',hr,hc1,hc2⟩
  ·cases hz
 ·cases hz
end
end Go.AI
namespace Go.AI
section
variable {P:Program} {F:Nat->Prop} {G:Gh} {w:World} {H:FP} {R:AV->FP->Prop}
def IC{k:IntKind}{i:Int}{y:Nat}{code:BoundsCode}(h0:0<=i)(h1:i<=y)(w:World):(Instr.sliceBound (.int k i) y code).run P w = .ok i.toNat w:=by
 simp only [Instr.sliceBound,asIntOf,AJ,Ad,AZ,Be]
 rw [iP ⟨h0,h1⟩]
inductive OptB:Option Value->Option Int->Prop where
 | none:OptB none none
 | some (k:IntKind) (i:Int):OptB (some (.int k i)) (some i)
def HG {isSlice:Bool} {len cap:Nat} {lo hi mx:Option Value} {l h m:Option Int} (hl:OptB lo l) (hh:OptB hi h) (hm:OptB mx m) (hx:m.isSome=true->h.isSome=true)
  (h0:0<=l.getD 0) (h1:l.getD 0<=h.getD len) (h2:h.getD len<=m.getD cap) (h3:m.getD cap<=cap) (w:World) :
  (Instr.sliceBounds isSlice len cap lo hi mx).run P w = .ok ((l.getD 0).toNat,(h.getD len).toNat,(m.getD cap).toNat) w:=by
 cases hm with
 | none =>
  cases hh with
  | none =>
   cases hl with
   | none=>simp [Instr.sliceBounds]
   | some k i =>
    simp only [BQ,BG] at *
    simp [Instr.sliceBounds,IC h0 h1]
  | some kh ih =>
   simp only [BQ,BG] at *
   have g:=IC (P:=P) (k:=kh) (i:=ih) (y:=cap) (code:=if isSlice then .sliceAcap else .sliceAlen) FO FO  w
   cases hl with
   | none=>simp [Instr.sliceBounds,g]
   | some k i =>
    simp only [BQ] at *
    have g2:=IC (P:=P) (k:=k) (i:=i) (y:=ih.toNat) (code:=.sliceB) FO FO  w
    simp [Instr.sliceBounds,g,g2]
 | some km im =>
  cases hh with
  | none=>simp at hx
  | some kh ih =>
   simp only [BQ] at *
   have g:=IC (P:=P) (k:=km) (i:=im) (y:=cap) (code:=if isSlice then .slice3Acap else .slice3Alen) FO FO  w
   have g1:=IC (P:=P) (k:=kh) (i:=ih) (y:=im.toNat) (code:=.slice3B) FO FO  w
   cases hl with
   | none=>simp [Instr.sliceBounds,g,g1]
   | some k i =>
    simp only [BQ] at *
    have g2:=IC (P:=P) (k:=k) (i:=i) (y:=ih.toNat) (code:=.slice3C) FO FO  w
    simp [Instr.sliceBounds,g,g1,g2]
def VRel.stretch {own:Option Nat} {es:List AV} {b q cap n:Nat} (h:VRel G w (.sl own es) (.slice (some ⟨b,q,none⟩) es.length cap)) (hn : ∀ x∈es,x.cells.length=n) {l k m:Nat} (hlk:l<=k) (hk:k<=es.length) (hkm:k<=m) (hm:m<=cap)
  (own':Option Nat) (ho : ∀ x,own'=some x->x=n/\0<x) :
  VRel G w (.sl own' ((es.take k).drop l)) (.slice (some (if m=l then ⟨b,q,none⟩ else (⟨b,q,none⟩:Addr).add (l*n))) (k - l) (m - l)):=by
 have hlen:((es.take k).drop l).length=k - l:=by simp;omega
 cases h with
 | slany =>
  have h1:k=0:=by simpa using hk
  have h2:m=0:=FO
  have h3:l=0:=FO
  subst h1;subst h2;subst h3
  simpa using VRel.slany own' ⟨b,q,none⟩
 | sl _ _ sz _ _ _ u hsz hown hl hmx hcs hus =>
  have hn' : ∀ x∈(es.take k).drop l,x.cells.length=n:=λx hx=>hn x (Cg (DV hx))
  have hcat : ∀ (i:Nat) (c:AV),(HU ((es.take k).drop l))[i]? =some c->(HU es)[l*n+i]? =some c:=by
   intro i c hi
   have e1:es=es.take l++((es.take k).drop l++es.drop k):=by
    have:(es.take k).take l=es.take l:=by rw [C1,B6 hlk]
    rw [<- this,<- AE,A9,A9]
   have e2:(HU (es.take l)).length=l*n:=by
    rw [G6 (n:=n) λx hx=>hn x (Cg hx),BC,B6 FO]
   rw [e1,Kl,AM FO,e2,A0,Kl,AT (AC.1 hi).1]
   exact hi
  by_cases hml:m=l
  ·have hkl:k=l:=FO
   have hnil:(es.take k).drop l=[]:=List.eq_nil_of_length_eq_zero FO
   rw [iP hml,hnil,show k - l=([]:List AV).length by simp;omega]
   exact .sl own' [] n b q (m - l) u (λe he=>by simp at he) ho sm FO (λi c hi=>by simp [HU] at hi) (λi c hi=>by simp [HU] at hi)
  ·rw [iN hml,G9]
   have:=VRel.sl (G:=G) (w:=w) own' ((es.take k).drop l) n b (q+l*n) (m - l) (λi=>u (l*n+i)) hn' ho FO FO  (λi c hi=>by
     have:=hcs _ c (hcat i c hi)
     rw [<- Ag] at this
     exact this) (λi c hi=>hus _ c (hcat i c hi))
   rw [hlen] at this
   exact this
def Zx {t e ob off len sz:Nat} {u:Value} {rest:List AV} {urest:List Value} {lo hi mx:Option Value} {l h:Option Int} (hc:CRel F G (.msl ob off len sz::rest) H (u::urest) w) (hu:P.underlying t=some (.slice e))
  (hl:OptB lo l) (hh:OptB hi h) (hm:OptB mx none)
  (h0:0<=l.getD 0) (h1:l.getD 0<=h.getD len) (h2:h.getD len<=len) (hs:sz=P.cellsOf e) (hz : ∃ i,P.info? e=some i) (h3:l.getD 0=0\/l.getD 0<len)
  (hr:R (.msl ob (off+(l.getD 0).toNat*sz) ((h.getD len).toNat - (l.getD 0).toNat) sz) H) :
  Fx P ((do let r<-Instr.sliceAt t u lo hi mx;pure (Next.value r):Sem Next).run P w) (Fe F G w R):=by
 have hrel:=hc.l.rel 0 _ _ rfl rfl
 obtain ⟨i,hi'⟩:=hz
 have hsize : ∀ w,(sizeOf e).run P w = .ok (P.cellsOf e) w:=λw=>by simp [sizeOf,typeInfo,hi',BI]
 cases hrel with
 | msl _ _ _ _ b cap hob hlc hmx hrow =>
  obtain ⟨C,E,hrow,hfit⟩:=hrow
  have hb:=HG (P:=P) (isSlice:=true) (len:=len) (cap:=cap) hl hh hm (λh=>by cases h) h0 h1 (by simp only [BG];omega) sm w
  have hrun:(Instr.sliceAt t (.slice (some ⟨b,off,none⟩) len cap) lo hi mx).run P w = .ok (.slice (some ⟨b,off+(l.getD 0).toNat*sz,none⟩) ((h.getD len).toNat - (l.getD 0).toNat) (cap - (l.getD 0).toNat)) w:=by
   simp only [Instr.sliceAt,Instr.slice,AJ,run_underlying hu,AZ,hb,hsize,BG,Aa]
   subst hs
   by_cases hcl:cap=(l.getD 0).toNat
   ·have e0:(l.getD 0).toNat=0:=FO
    rw [iP hcl,e0];simp
   ·rw [iN hcl]
    simp [G9]
  have hmul:cap*sz=(l.getD 0).toNat*sz+(cap - (l.getD 0).toNat)*sz:=by
   rw [<- A2];congr 1;omega
  exact .value (by rw [AJ,hrun];rfl) (Fe.plain hc hr (.msl _ _ _ _ b _ hob FO FO  ⟨C,E,hrow,FO⟩) (FT rfl rfl _))
def eY {t e:Nat} {own:Option Nat} {es:List AV} {u:Value} {rest:List AV} {urest:List Value} {lo hi mx:Option Value} {l h m:Option Int} (hc:CRel F G (.sl own es::rest) H (u::urest) w) (hu:P.underlying t=some (.slice e))
  (hl:OptB lo l) (hh:OptB hi h) (hm:OptB mx m) (hx:m.isSome=true->h.isSome=true)
  (h0:0<=l.getD 0) (h1:l.getD 0<=h.getD es.length) (h2:h.getD es.length<=es.length) (hn : ∀ x∈es,x.cells.length=P.cellsOf e)
  (hr:match (generalizing:=false) m with
   | none=>R (.sl (if h.getD es.length=es.length then own else none) ((es.take (h.getD es.length).toNat).drop (l.getD 0).toNat)) H
   | some m=>m=h.getD es.length/\0<P.cellsOf e/\R (.sl (some (P.cellsOf e)) ((es.take (h.getD es.length).toNat).drop (l.getD 0).toNat)) H) (hz : ∃ i,P.info? e=some i) :
  Fx P ((do let r<-Instr.sliceAt t u lo hi mx;pure (Next.value r):Sem Next).run P w) (Fe F G w R):=by
 have hrel:=hc.l.rel 0 _ _ rfl rfl
 have htok:=hc.l.tok 0 _ _ rfl rfl
 obtain ⟨i,hi'⟩:=hz
 have hsize : ∀ w,(sizeOf e).run P w = .ok (P.cellsOf e) w:=λw=>by simp [sizeOf,typeInfo,hi',BI]
 have hown : ∀ x,own=some x->es≠[]->x=P.cellsOf e/\0<x:=by
  intro x hx hne
  cases hrel with
  | slnil=>exact absurd rfl hne
  | slany=>exact absurd rfl hne
  | sl _ _ sz b q cap f hsz hown' _ _ _ _ =>
   obtain ⟨y,ys,rfl⟩:=List.exists_cons_of_ne_nil hne
   exact ⟨by rw [(hown' x hx).1,<- hsz y sm,hn y sm],(hown' x hx).2⟩
 have run : ∀ (a:Option Addr) (cap:Nat),es.length<=cap->(Instr.sliceAt t (.slice a es.length cap) lo hi mx).run P w =
   .ok (.slice (if (m.getD cap).toNat=(l.getD 0).toNat then a else a.map (·.add ((l.getD 0).toNat*P.cellsOf e))) ((h.getD es.length).toNat - (l.getD 0).toNat) ((m.getD cap).toNat - (l.getD 0).toNat)) w:=by
  intro a cap hcap
  have hmc:h.getD es.length<=m.getD cap/\m.getD cap<=cap:=by
   cases m with
   | none=>simp only [BG];omega
   | some mm=>simp only [BQ] at *;omega
  have hb:=HG (P:=P) (isSlice:=true) (len:=es.length) (cap:=cap) hl hh hm hx h0 h1 hmc.1 hmc.2 w
  simp only [Instr.sliceAt,Instr.slice,AJ,run_underlying hu,AZ,hb,hsize]
  rfl
 cases hrel with
 | slnil own =>
  have e1:(h.getD (([]:List AV).length:Int)).toNat=0:=by simp at h1 h2 ⊢;omega
  have e2:(l.getD 0).toNat=0:=by simp at h1 h2;omega
  have e3:(m.getD ((0:Nat):Int)).toNat=0:=by
   cases m with
   | none=>rfl
   | some mm=>simp at hr h1 h2 ⊢;omega
  have hrun:=run none 0 sm
  simp only [e2,e3,AH] at hrun
  have hrun':(Instr.sliceAt t (.slice none 0 0) lo hi mx).run P w = .ok (.slice none 0 0) w:=by
   have e4:(h.getD 0).toNat=0:=by simpa using e1
   simpa [e4] using hrun
  refine .value (u:=.slice none 0 0) (w':=w) (by rw [AJ,hrun'];rfl) ?_
  cases m with
  | none=>exact Fe.plain hc hr (by simp;exact .slnil _) (by simp [Gs,LE,AV.flat,AV.cells,IA,Value.cells,tok])
  | some mm=>exact Fe.plain hc hr.2.2 (by simp;exact .slnil _) (by simp [Gs,LE,AV.flat,AV.cells,IA,Value.cells,tok])
 | slany own a =>
  have e1:(h.getD (([]:List AV).length:Int)).toNat=0:=by simp at h1 h2 ⊢;omega
  have e2:(l.getD 0).toNat=0:=by simp at h1 h2;omega
  have e3:(m.getD ((0:Nat):Int)).toNat=0:=by
   cases m with
   | none=>rfl
   | some mm=>simp at hr h1 h2 ⊢;omega
  have hrun:=run (some a) 0 sm
  simp only [e2,e3,AH] at hrun
  have hrun':(Instr.sliceAt t (.slice (some a) 0 0) lo hi mx).run P w = .ok (.slice (some a) 0 0) w:=by
   have e4:(h.getD 0).toNat=0:=by simpa using e1
   simpa [e4] using hrun
  refine .value (u:=.slice (some a) 0 0) (w':=w) (by rw [AJ,hrun'];rfl) ?_
  cases m with
  | none=>exact Fe.plain hc hr (by simp;exact .slany _ _) (by by_cases hh:h.getD 0=0<;>cases own<;>simp [hh,Gs,LE,AV.flat,AV.cells,IA,Value.cells,tok])
  | some mm=>exact Fe.plain hc hr.2.2 (by simp;exact .slany _ _) (by simp [Gs,LE,AV.flat,AV.cells,IA,Value.cells,tok])
 | sl own es sz b q cap f hsz hown' hle hmx hcs hus =>
  have hrel:VRel G w (.sl own es) (.slice (some ⟨b,q,none⟩) es.length cap):=.sl own es sz b q cap f hsz hown' hle hmx hcs hus
  have hrun:=run (some ⟨b,q,none⟩) cap hle
  have hmc:h.getD es.length<=m.getD cap/\m.getD cap<=cap:=by
   cases m with
   | none=>simp only [BG];omega
   | some mm=>simp only [BQ] at *;omega
  have eaddr:(if (m.getD cap).toNat=(l.getD 0).toNat then some (⟨b,q,none⟩:Addr) else (some (⟨b,q,none⟩:Addr)).map (·.add ((l.getD 0).toNat*P.cellsOf e))) =
    some (if (m.getD cap).toNat=(l.getD 0).toNat then ⟨b,q,none⟩ else (⟨b,q,none⟩:Addr).add ((l.getD 0).toNat*P.cellsOf e)):=by split<;>rfl
  rw [eaddr] at hrun
  have hst : ∀ (own':Option Nat),(∀ x,own'=some x->x=P.cellsOf e/\0<x)->_:=λown' ho =>
   hrel.stretch hn (l:=(l.getD 0).toNat) (k:=(h.getD es.length).toNat) (m:=(m.getD cap).toNat) FO FO  FO FO  own' ho
  refine .value (by rw [AJ,hrun];rfl) ?_
  cases m with
  | some mm =>
   obtain ⟨hmm,hp0,hr⟩:=hr
   have hv:=hst (some (P.cellsOf e)) λx hx=>by cases hx;exact ⟨rfl,hp0⟩
   refine Fe.plain hc hr hv ?_
   simp only [BQ,hmm] at hv ⊢
   simp [Gs,LE,AV.flat,AV.cells,IA,Value.cells,tok]
  | none =>
   simp only at hr
   by_cases hfull:h.getD es.length=es.length
   ·rw [iP hfull] at hr
    by_cases hes:es=[]
    ·subst hes
     have e0:(l.getD 0).toNat=0:=by simp at h1 h2;omega
     have e1:(h.getD (([]:List AV).length:Int)).toNat=0:=by rw [hfull];rfl
     simp only [e0,e1,BG,List.take_nil,List.drop_nil,Nat.sub_zero,Nat.zero_mul] at hr ⊢
     have:(if (cap:Int).toNat=0 then (⟨b,q,none⟩:Addr) else (⟨b,q,none⟩:Addr).add 0)=⟨b,q,none⟩:=by split<;>simp [Addr.add]
     rw [this]
     exact Fe.same (hc.get (i:=0) rfl sm) hr
    ·have hv:=hst own λx hx=>hown x hx hes
     refine Fe.same (hc.one hv (λp hp=>?_) λbb=>?_) hr
     ·rw [QT _ _ _ _ _ _ rfl,Ac] at hp
      subst hp
      cases own with
      | none=>trivial
      | some n =>
       have hn':n=P.cellsOf e:=(hown n rfl hes).1
       subst hn'
       intro hlt
       simp only [BG,hfull,Aa] at hlt ⊢
       obtain ⟨t1,t2,C,E,t3,t4⟩:=htok (.sl (some (P.cellsOf e)) es,.slice (some ⟨b,q,none⟩) es.length cap) (by rw [QT _ _ _ _ _ _ rfl];simp) FO
       have hcl : ¬ cap=(l.getD 0).toNat:=FO
       rw [iN hcl,G9]
       refine ⟨t1, ?_,C,E,t3, ?_⟩
       ·show G.kind b=_
        rw [t2]
        have hL:(l.getD 0).toNat<=es.length:=FO
        have:=BF (P.cellsOf e) hL
        rw [D4]
        congr 1
        show q+_=q+_+_
        omega
       ·show q+_+_<=_
        have hL:(l.getD 0).toNat<=cap:=FO
        have h5:=BF (P.cellsOf e) hL
        rw [D4]
        have h4:q+cap*P.cellsOf e<=C.size:=t4
        omega
     ·rw [FY]
      have hle2:CT bb (Gs (AV.sl own ((es.take (h.getD es.length).toNat).drop (l.getD 0).toNat)) (Value.slice (some (if ((none:Option Int).getD cap).toNat=(l.getD 0).toNat then ⟨b,q,none⟩ else (⟨b,q,none⟩:Addr).add ((l.getD 0).toNat*P.cellsOf e))) ((h.getD es.length).toNat - (l.getD 0).toNat) (((none:Option Int).getD cap).toNat - (l.getD 0).toNat)))
        <= CT bb (Gs (AV.sl own es) (Value.slice (some ⟨b,q,none⟩) es.length cap)):=by
       cases own with
       | none=>rw [FT rfl rfl,FT rfl rfl];exact AU _
       | some n =>
        simp only [Gs,LE,AV.flat,AV.cells,IA,Value.cells,B4,Du,B5,Cd,tok,BG,hfull,Aa]
        by_cases hlt:es.length<cap
        ·have hcl : ¬ cap=(l.getD 0).toNat:=FO
         rw [iP hlt,iN hcl,iP FO,G9]
         exact AU _
        ·rw [iN hlt,iN FO]
         exact AU _
      omega
   ·rw [iN hfull] at hr
    exact Fe.plain hc hr (hst none λx hx=>by cases hx) (FT rfl rfl _)
end
end Go.AI
