/- A row that a call has made becomes a list that nobody writes. -/
import Derived.Test.YtebladleneahcaaGreatDoorMp
set_option linter.unusedSimpArgs false
set_option linter.unusedVariables false
set_option linter.defProp false
open Go.Proofs.Tryz
open Go.AI renaming CRel->Ey,Head->Ez,Policy->E1
open Bool renaming and_true->Bh,eq_iff_iff->BB
open Int renaming lt_irrefl->AX,toNat_natCast->Af,toNat_of_nonneg->Cy
open Go.IntKind renaming bits->DK,signed->Do,wrap->Dn
open List renaming append_assoc->AE,append_nil->Ag,cons_append->AS,drop_drop->A8,filterMap_cons->B6,filterMap_nil->Cg,filter_append->Ce,filter_eq_self->DR,flatten_cons->C9,getElem?_append_left->AT,getElem?_append_right->AM,getElem?_concat_length->BX,getElem?_cons_succ->B1,getElem?_cons_zero->A7,getElem?_eq_getElem->AL,getElem?_eq_some_iff->AC,getElem?_set_ne->A5,getElem?_set_self->A3,getElem?_toArray->Bd,length_append->AF,length_cons->AD,length_map->Aq,length_nil->AH,length_set->An,map_append->Ap,map_congr_left->B3,map_eq_nil_iff->DS,map_flatten->DP,map_id->DQ,mem_cons->AW,mem_map->AN,mem_of_getElem?->AB,mem_singleton->Ab,nil_append->AO,set_append_left->BO,set_append_right->BR,set_comm->B8,set_set->BE,size_toArray->BT,take_add_one->BF,take_append_of_le_length->C8,take_set_of_le->CQ,take_succ_cons->CO
open Nat renaming add_assoc->Ax,add_sub_cancel_left->A1,div_one->EQ,le_refl->AU,lt_or_ge->BM,sub_self->AP,zero_add->AY
open Go.Proofs.Tryz renaming prog->AA
namespace Go.AI
def Sl(es:List (List AV))(v:AV)(H H':FR):Prop :=
 (es=[]/\(∃ w,v = .sl w []) /\ ∃ ext,H'=H++ext) \/ ∃ ob cs,v = .msl ob 0 es.length 10/\H.length<=ob/\(∃ ext,H'=H++ext)/\H'[ob]? =some (some cs)/\(∃ r,cs=es.flatten++r)
section
variable {P:Program}
def CRel.borrowArgs{F:Nat->Prop}{G:Gh}{w:World}{H:FR}{vs:List AV}{us:List Value}(h:Ey F G vs H us w):Ey F G (vs.map AV.borrow) H us w:=by
 obtain ⟨l1,t1⟩:=Hb (F:=F) (G:=G) (w:=w) (first:=vs) (fi:=us) h.l.len (λi c v a b=>h.l.rel i c v a b)
 exact ⟨l1,h.h,λb=>by
  rw [t1]
  have:=h.cnt b
  omega⟩
def FZ.weak{f:FuncId}{vs:List AV}{H:FR}{R:AV->FR->Prop}(h:FZ P f (vs.map AV.borrow) H R):FZ P f vs H R:=⟨h.1,λF G w us hc=>h.2 F G w us hc.borrowArgs⟩
def A'.weak{f:FuncId}{vs:List AV}{v:AV}(h:A' P f (vs.map AV.borrow) v):A' P f vs v:=λH=>(h H).weak
def CRel.swap1{F:Nat->Prop}{G:Gh}{w:World}{H:FR}{v v':AV}{u:Value}(h:Ey F G [v] H [u] w)(hv:VRel G w v' u)(ho:v'.owned=false):Ey F G [v'] H [u] w :=
 ⟨.cons hv (Fh (GK ho u) _ _ _) ⟨rfl,sm,sm⟩,h.h,λx=>by
  have:=h.cnt x
  rw [Fb,GK ho u]
  rw [Fb] at this
  simp only [List.count_nil] at this ⊢
  omega⟩
def bJ{H ext:FR}{ob:Nat}(h:H.length<=ob):(H++ext).set ob none=H++ext.set (ob - H.length) none:=BR _ _ h
def CRel.frzRow {F:Nat->Prop} {G:Gh} {w:World} {H ext:FR} {vals:List AV} {us:List Value} {u:Value} {ob len sz:Nat} {cs:List AV} (ag:Bool) (h:Ey F G vals (H++ext) us w)
  (ho:(H++ext)[ob]? =some (some cs)) (hb:H.length<=ob) (hv:VRel G w (.msl ob 0 len sz) u) (hl:len*sz<=cs.length) (hs:ag=true\/sz=1) :
  ∃ G' ext',Ey F G' vals (H++ext') us w/\Ext F G w G' w/\VRel G' w (.sl none (Hy ag sz len (cs.map borrow1))) u:=by
 have hf:Kq ag (.msl ob 0 len sz) (H++ext)=some (.sl none (Hy ag sz len (cs.map borrow1)),(H++ext).set ob none):=by
  simp only [Kq,ho]
  rw [iP ⟨FQ,hs⟩,List.drop_zero]
 obtain ⟨ob',b,es,e1,e2,_,g1,g2,g3,_⟩:=Q3 hf h hv
 rw [bJ hb] at g1
 exact ⟨_,_,g1,g2,g3⟩
def CRel.cutExt{F:Nat->Prop}{G G':Gh}{w w':World}{H ext:FR}{vs:List AV}{us:List Value}{v:AV}{u:Value}(hc:Ey F G vs H us w)(hcr:Ey F G' [v] (H++ext) [u] w')(hext:Ext F G w G' w')(hv:v.bnd H.length=true):
  ∃ G'',Ey F G'' [v] H [u] w'/\Ext F G w G'' w' :=
 ⟨_,hcr.cut hv hc.h.closed,⟨hext.size,⟨λo b ho=>by
  have hlt:=(AC.1 ho).1
  show (G'.obs.take H.length)[o]? =some b
  rw [List.getElem?_take_of_lt (by have:=hc.h.len;omega)]
  exact hext.keeps.obs o b ho,hext.keeps.shape,hext.keeps.sp,hext.keeps.safe⟩,hext.kind,hext.cells,hext.io⟩⟩
def Kh : ∀ (es:List (List AV)) (r:List AV) (sz:Nat),(∀ e∈es,e.length=sz)->Hy true sz es.length (es.flatten++r)=es.map .agg
 | [],_,_,_=>rfl
 | e::es,r,sz,h=>by
  have he:=h e sm
  simp only [AD,Hy,if_true,C9,AE,List.map_cons]
  rw [C8 FQ,List.take_of_length_le FQ,List.drop_append_of_le_length FQ,List.drop_of_length_le FQ,AO,Kh es r sz λx hx=>h x (by simp [hx])]
def OW : ∀ (es:List (List AV)) (sz:Nat),(∀ e∈es,e.length=sz)->es.flatten.length=es.length*sz
 | [],_,_=>sm
 | e::es,sz,h=>by
  rw [C9,AF,OW es sz λx hx=>h x (by simp [hx]),h e sm,AD,Nat.add_mul];omega
def NS{es:List (List AV)}{n:Nat}(hs : ∀ e∈es,Fl n e=true):(AV.sl none (es.map .agg)).bnd n=true:=by
 simp only [AV.bnd]
 refine GM.2 λc hc=>?_
 obtain ⟨e,he,rfl⟩:=AN.1 hc
 simpa [AV.bnd] using hs e he
def zP {f:FuncId} {vs:List AV} {H:FR} {es:List (List AV)} (hn : ∀ e∈es,e.length=10) (hs : ∀ e∈es,Fl H.length e=true) (hb : ∀ e∈es,e.map borrow1=e)
  (h:FZ P f vs H λv' H'=>Sl es v' H H'):FZ P f vs H λv' H'=>v' = .sl none (es.map .agg)/\H'=H :=
 ⟨h.1,λF G w us hc=>Calls.mono (h.2 F G w us hc) λe w' he=>by
  obtain ⟨u,rfl,v',H2,G',hr,hcr,hext⟩:=he
  rcases hr with ⟨rfl,⟨w0,rfl⟩,ext,rfl⟩|⟨ob,cs,rfl,hob,⟨ext,rfl⟩,ho,r,rfl⟩
  ·have hv:VRel G' w' (.sl none []) u:=by
    have:=hcr.l.rel 0 _ _ rfl rfl
    cases this with
    | slnil=>exact .slnil _
    | slany=>exact .slany _ _
    | sl own es sz b q cap u' hsz hown hl hm h1 h2=>exact .sl none [] sz b q cap u' hsz (λn hn=>by cases hn) hl hm h1 h2
   obtain ⟨G2,k1,k2⟩:=hc.cutExt (hcr.swap1 hv rfl) hext rfl
   exact ⟨u,rfl,_,H,G2,⟨rfl,rfl⟩,k1,k2⟩
  ·have hv:=hcr.l.rel 0 _ _ rfl rfl
   have hlen:=OW es 10 hn
   obtain ⟨G2,ext2,k1,k2,k3⟩:=hcr.frzRow true ho hob hv (by rw [AF,hlen];omega) (.inl rfl)
   have e1:(es.flatten++r).map borrow1=es.flatten++r.map borrow1:=by
    rw [Ap,DP]
    congr 2
    exact B3 (f:=List.map borrow1) (g:=id) (λe he=>hb e he) |>.trans (DQ _)
   rw [e1,Kh es _ 10 hn] at k3
   obtain ⟨G3,k4,k5⟩:=hc.cutExt (k1.swap1 k3 rfl) (hext.trans k2) (NS hs)
   exact ⟨u,rfl,_,H,G3,⟨rfl,rfl⟩,k4,k5⟩⟩
def Xd {f:FuncId} {vs:List AV} {H:FR} {es:List (List AV)} {b:Bool} (hn : ∀ e∈es,e.length=10) (hs : ∀ e∈es,Fl H.length e=true) (hb : ∀ e∈es,e.map borrow1=e)
  (h:FZ P f vs H λv' H' => ∃ v0,v' = .tup [v0,.bool b]/\Sl es v0 H H'):FZ P f vs H λv' H'=>v' = .tup [.sl none (es.map .agg),.bool b]/\H'=H :=
 ⟨h.1,λF G w us hc=>Calls.mono (h.2 F G w us hc) λe w' he=>by
  obtain ⟨u,rfl,v',H2,G',⟨v0,rfl,hr⟩,hcr,hext⟩:=he
  have hv:=hcr.l.rel 0 _ _ rfl rfl
  cases hv with
  | tup _ vs' hl hsv hg =>
   have h0 : ∃ x,vs'[0]? =some x:=⟨_,Array.getElem?_eq_getElem (by rw [<- hl];exact Nat.zero_lt_succ _)⟩
   obtain ⟨x,hx⟩:=h0
   have hvx:=hg 0 _ x rfl hx
   have put : ∀ {G2:Gh} {w2:World} {a:AV},a.isVal=true->VRel G2 w2 a x->VRel G2 w2 (.tup [a,.bool b]) (.tuple vs'):=λ{G2 w2 a} ha hax=>by
    refine .tup _ _ hl (λc hc=>?_) λi c v hc hv=>?_
    ·rcases AW.1 hc with rfl|hc
     ·exact ha
     ·rw [Ab.1 hc];rfl
    ·match i with
     | 0=>simp only [A7,Option.some.injEq] at hc;subst hc;rw [hx] at hv;cases hv;exact hax
     | 1 =>
      have:=hg 1 (.bool b) v rfl hv
      simp only [B1,A7,Option.some.injEq] at hc;subst hc
      cases this;exact .bool _
     | i+2=>simp at hc
   rcases hr with ⟨rfl,⟨w0,rfl⟩,ext,rfl⟩|⟨ob,cs,rfl,hob,⟨ext,rfl⟩,ho,r,rfl⟩
   ·have hv0:VRel G' w' (.sl none []) x:=by
     cases hvx with
     | slnil=>exact .slnil _
     | slany=>exact .slany _ _
     | sl own es sz b q cap u' hsz hown hl hm h1 h2=>exact .sl none [] sz b q cap u' hsz (λn hn=>by cases hn) hl hm h1 h2
    obtain ⟨G2,k1,k2⟩:=hc.cutExt (hcr.swap1 (put rfl hv0) rfl) hext rfl
    exact ⟨_,rfl,_,H,G2,⟨rfl,rfl⟩,k1,k2⟩
   ·have hlen:=OW es 10 hn
    obtain ⟨G2,ext2,k1,k2,k3⟩:=hcr.frzRow true ho hob hvx (by rw [AF,hlen];omega) (.inl rfl)
    have e1:(es.flatten++r).map borrow1=es.flatten++r.map borrow1:=by
     rw [Ap,DP]
     congr 2
     exact B3 (f:=List.map borrow1) (g:=id) (λe he=>hb e he) |>.trans (DQ _)
    rw [e1,Kh es _ 10 hn] at k3
    obtain ⟨G3,k4,k5⟩:=hc.cutExt (k1.swap1 (put rfl k3) rfl) (hext.trans k2) (by
     have:=NS hs
     simp only [AV.bnd,Fl] at this ⊢
     simp [this])
    exact ⟨_,rfl,_,H,G3,⟨rfl,rfl⟩,k4,k5⟩⟩
end
end Go.AI
namespace Go.AI
open Go.Proofs
set_option maxRecDepth 50000
def AHY{i j n:Nat}(hn:n<=4611686018427387903)(hj:j<=n)(hi:i<j):IntKind.i64.wrap ((IntKind.u64.wrap (IntKind.i64.wrap ((i:Int)+(j:Int)))).fdiv 2)=(((i+j) / 2:Nat):Int):=by
 have e1:IntKind.i64.wrap ((i:Int)+(j:Int))=((i+j:Nat):Int):=OQ FQ FQ
 rw [e1]
 have e2:IntKind.u64.wrap ((i+j:Nat):Int)=((i+j:Nat):Int):=by
  simp [Dn,Do,DK];omega
 rw [e2]
 have e3:((i+j:Nat):Int).fdiv 2=(((i+j) / 2:Nat):Int):=by
  rw [Int.fdiv_eq_ediv_of_nonneg _ dc];omega
 rw [e3]
 exact OQ FQ FQ
def AAt(x:Int):A' AA 341 [.int .i64 x] (.bool false):=by
 refine pC AJq rfl ?_
 simp only [f341,go_sem,bne_self_eq_false]
def Py(a b:Int):Int:=if a<b then -1 else if b<a then 1 else 0
def AAz(a b:Int):A' AA 325 [.int .i64 a,.int .i64 b] (.int .i64 (Py a b)):=by
 have c1:=AAt a
 have c2:=AAt b
 refine pC AKE rfl ?_
 simp only [f325,go_sem]
 repeat' (first|((first|refine pK (c1) ?_|refine pK (c2) ?_);simp only [go_sem])|(first|apply cS|apply gS)<;>intro hc<;>simp only [go_sem,hc])
 all_goals (unfold Py;grind)
def mT(a b:Ez)(H:FR)(oa ob:Nat)(hA:H[oa]? =some (some a.c))(hB:H[ob]? =some (some b.c)):GJ AA 290 [.msl oa 0 10 1,.msl ob 0 10 1] H (.int .i64 (Ip a b)):=by
 refine aC ACB rfl ?_
 simp only [f290,go_sem]
 refine Km (σ:=Nat) (λk=>[(0,.msl oa 0 10 1),(1,.msl ob 0 10 1),(9,.msl oa 0 10 1),(10,.int .i64 10),(11,.int .i64 k)]) (λ_=>H) (λk=>k<=10/\Ip a b=LU (a.l.drop k) (b.l.drop k)) (λk=>10 - k) 0 ⟨dc,rfl⟩ rfl rfl ?_
 rintro k ⟨hk,hI⟩
 rw [oK a b k hk] at hI
 by_cases h:k<10
 ·rw [iP h] at hI
  have i0:(0:Int)<=(k:Int):=FQ
  have i1:(k:Int)<((10:Nat):Int):=FQ
  have i2:(k:Int)<10:=FQ
  have i3 : ¬ ((10:Nat):Int)<=(k:Int):=FQ
  have a1:=Ld a h
  have a2:=Ld b h
  have hw:=Mj (k:=k) FQ
  have c1:=AAz (Fm a k) (Fm b k)
  simp only [go_sem,i0,i1,i2,i3,dT,dF,Af,hA,hB,a1,a2]
  repeat' (first|(refine pK (c1) ?_;simp only [go_sem])|(first|apply cS|apply gS)<;>intro hc<;>simp only [go_sem,hc,hw])
  ·have hne:Py (Fm a k) (Fm b k)≠0:=by simpa using hc
   rw [hI]
   unfold Py at hne ⊢
   by_cases h1:Fm a k<Fm b k
   ·rw [iP h1,iP h1]
   ·rw [iN h1] at hne ⊢
    rw [iN h1]
    by_cases h2:Fm b k<Fm a k
    ·rw [iP h2,iP h2]
    ·rw [iN h2] at hne;exact absurd rfl hne
  ·have heq:Py (Fm a k) (Fm b k)=0:=by simpa using hc
   unfold Py at heq
   have h1 : ¬ Fm a k<Fm b k:=λh1=>by rw [iP h1] at heq;cases heq
   have h2 : ¬ Fm b k<Fm a k:=λh2=>by rw [iN h1,iP h2] at heq;cases heq
   rw [iN h1,iN h2] at hI
   exact ⟨k+1,⟨FQ,hI⟩,FQ,rfl,rfl⟩
 ·rw [iN h] at hI
  have:k=10:=FQ
  subst this
  have g:decide (((10:Nat):Int)<10)=false:=dc
  have g2:decide (((10:Nat):Int)<((10:Nat):Int))=false:=dc
  simp only [go_sem,g,g2]
  rw [hI]
def Qe(a b:Ez):A' AA 317 [.agg a.c,.agg b.c] (.int .i64 (Ip a b)):=by
 refine pC AKZ rfl ?_
 simp only [f317,go_sem]
 repeat' (first|(refine aS (mT a b _ _ _ rfl rfl) ?_;simp only [go_sem])|(first|apply cS|apply gS)<;>intro hc<;>simp only [go_sem,hc])
def AAk(x:Ez):List Ez->Nat
 | []=>0
 | y::r=>if Ip y x<0 then AAk x r+1 else 0
def qp(x:Ez): ∀ (l:List Ez) (i:Nat),i<=l.length->(∀ k y,l[k]? =some y->k<i->Ip y x<0)->(∀ y,l[i]? =some y -> ¬ Ip y x<0)->AAk x l=i
 | [],i,h,_,_=>by
  have:i=0:=by simpa using h
  rw [this];rfl
 | y::r,0,_,_,h2=>by rw [AAk,iN (h2 y rfl)]
 | y::r,i+1,h,h1,h2=>by
  rw [AAk,iP (h1 0 y rfl FQ),qp x r i (by simpa using h) (λk z hk hl=>h1 (k+1) z (by simpa using hk) FQ) λz hz=>h2 z (by simpa using hz)]
def l4{l:List Ez}(h:LM l){i j:Nat}{a b:Ez}(ha:l[i]? =some a)(hb:l[j]? =some b)(hij:i<j):Ip a b<0:=by
 obtain ⟨h1,rfl⟩:=AC.1 ha
 obtain ⟨h2,rfl⟩:=AC.1 hb
 exact List.pairwise_iff_getElem.1 h i j h1 h2 hij
def AUP{l:List Ez}(h:LM l)(x:Ez){i:Nat}(h1 : ∀ k y,l[k]? =some y->k<i->Ip y x<0)(h2 : ∀ k y,l[k]? =some y->i<=k -> ¬ Ip y x<0):(l.any λy=>decide (y=x))=match l[i]? with|some y=>decide (Ip y x=0)|none=>false:=by
 have key:x∈l->l[i]? =some x:=λhx=>by
  obtain ⟨k,hk⟩:=List.getElem?_of_mem hx
  rcases BM k i with hl|hl
  ·have:=h1 k x hk hl;rw [Po] at this;omega
  ·rcases BM i k with hl2|hl2
   ·have hlt:i<l.length:=by have:=(AC.1 hk).1;omega
    have hi:=AL hlt
    exact absurd (l4 h hi hk hl2) (h2 i _ hi (AU _))
   ·have:k=i:=FQ
    subst this;exact hk
 cases hi:l[i]? with
 | none =>
  dsimp only
  rw [List.any_eq_false]
  intro y hy hc
  have:=of_decide_eq_true hc
  subst this
  rw [key hy] at hi;cases hi
 | some y =>
  dsimp only
  rw [BB,List.any_eq_true,decide_eq_true_eq]
  constructor
  ·rintro ⟨z,hz,hc⟩
   have:=of_decide_eq_true hc
   subst this
   rw [key hz] at hi;cases hi;exact Po _
  ·intro hc
   exact ⟨y,AB hi,decide_eq_true (R9 hc)⟩
def AWk(l:List Ez)(hs:LM l)(hl:l.length<=4611686018427387903)(x:Ez):A' AA 319 [.sl none (F3 l),.agg x.c,.fn (.func 317) [] []] (.tup [.int .i64 (AAk x l),.bool (l.any λy=>decide (y=x))]):=by
 refine pB AKU rfl ?_
 simp only [f319,go_sem]
 refine Km (σ:=Nat×Nat) (λs=>[(0,.sl none (F3 l)),(2,.fn (.func 317) [] []),(4,.ptr 0 0),(8,.int .i64 l.length),(9,.int .i64 s.1),(10,.int .i64 s.2)]) (λ_=>[some x.c]) (λs=>s.1<=s.2/\s.2<=l.length/\(∀ k y,l[k]? =some y->k<s.1->Ip y x<0)/\(∀ k y,l[k]? =some y->s.2<=k -> ¬ Ip y x<0)) (λs=>s.2 - s.1) (0,l.length) ⟨FQ,FQ,λk y hk=>FQ,λk y h1 h2=>by have:=(AC.1 h1).1;omega⟩ rfl rfl ?_
 rintro ⟨i,j⟩ ⟨hij,hj,h1,h2⟩
 dsimp only at hij hj h1 h2 ⊢
 by_cases hlt:i<j
 ·have g1:(i:Int)<(j:Int):=FQ
  have g2:(0:Int)<=(((i+j) / 2:Nat):Int):=FQ
  have g3:(((i+j) / 2:Nat):Int).toNat=(i+j) / 2:=FQ
  have hm:(i+j) / 2<l.length:=FQ
  have g4:(((i+j) / 2:Nat):Int)<(l.length:Int):=FQ
  have hw:=Mj (k:=(i+j) / 2) FQ
  have hgm:=AL hm
  have a1:=IH hgm
  have c1:=Qe l[(i+j) / 2] x
  simp only [go_sem,g1,dT,AHY hl hj hlt,g2,g3,a1]
  repeat' (first|(refine pK (c1) ?_;simp only [go_sem])|(first|apply cS|apply gS)<;>intro hc<;>simp only [go_sem,hc,hw])
  ·have hc:=of_decide_eq_true hc
   exact ⟨((i+j) / 2+1,j),⟨by dsimp only;omega,hj,λk y hk hki=>by
    rcases BM k ((i+j) / 2) with h|h
    ·exact L0 (l4 hs hk hgm h) hc
    ·have:k=(i+j) / 2:=by dsimp only at hki;omega
     subst this
     rw [hgm] at hk;cases hk;exact hc,h2⟩,by dsimp only;omega,rfl,rfl⟩
  ·have hc:=of_decide_eq_false hc
   exact ⟨(i,(i+j) / 2),⟨by dsimp only;omega,by dsimp only;omega,h1,λk y hk hki=>by
    rcases BM ((i+j) / 2) k with h|h
    ·intro hlt2;exact hc (L0 (l4 hs hgm hk h) hlt2)
    ·have:k=(i+j) / 2:=by dsimp only at hki;omega
     subst this
     rw [hgm] at hk;cases hk;exact hc⟩,by dsimp only;omega,rfl,rfl⟩
 ·have hij:i=j:=FQ
  subst hij
  have g1 : ¬ (i:Int)<(i:Int):=FQ
  have hany:=AUP hs x h1 h2
  have hpos:=qp x l i hj h1 λy hy=>h2 i y hy (AU _)
  rw [hpos]
  by_cases hil:i<l.length
  ·have g3:(i:Int)<(l.length:Int):=FQ
   have g4:(0:Int)<=(i:Int):=FQ
   have hgi:=AL hil
   have a1:=IH hgi
   have c1:=Qe l[i] x
   rw [hgi] at hany
   dsimp only at hany
   rw [hany]
   simp only [go_sem,g1,dF,g3,g4,dT,a1]
   repeat' (first|(refine pK (c1) ?_;simp only [go_sem])|(first|apply cS|apply gS)<;>intro hc<;>simp only [go_sem,hc,g1,g3,g4,a1,dT,Af])
   all_goals rfl
  ·have g3 : ¬ (i:Int)<(l.length:Int):=FQ
   rw [List.getElem?_eq_none FQ] at hany
   dsimp only at hany
   rw [hany]
   simp only [go_sem,g1,dF,g3]
   repeat' (first|(first|apply cS|apply gS)<;>intro hc<;>simp only [go_sem,hc,g1,g3])
def AdT(l:List Ez)(hs:LM l)(hl:l.length<=4611686018427387903)(x:Ez):A' AA 283 [.sl none (F3 l),.agg x.c] (.bool (l.any λy=>decide (y=x))):=by
 have c1:=AWk l hs hl x
 refine pC ALh rfl ?_
 simp only [f283,go_sem]
 repeat' (first|(refine pK (c1) ?_;simp only [go_sem])|(first|apply cS|apply gS)<;>intro hc<;>simp only [go_sem,hc])
def AFF(l:List Ez)(hs:LM l)(hl:l.length<=4611686018427387903)(x:Ez)(H:FR)(oa:Nat)(w:Option Nat)(hA:H[oa]? =some (some [.sl w (F3 l)])):GJ AA 282 [.agg x.c,.ptr oa 0] H (.bool (l.any λy=>decide (y=x))):=by
 have c1:=AdT l hs hl x
 refine FZ.drop rfl ?_
 refine aC ALk rfl ?_
 have hA' : ∀ z,(H++z)[oa]? =some (some [.sl w (F3 l)]):=λz=>by
  have:=(AC.1 hA).1
  rw [AT this];exact hA
 simp only [f282,go_sem,hA']
 repeat' (first|(refine pK (c1) ?_;simp only [go_sem])|(first|apply cS|apply gS)<;>intro hc<;>simp only [go_sem,hc,hA'])
def KS : ∀ (n m:Nat) (a b:List Ez),a.length+b.length<n->a.length+b.length<m->I6 n a b=I6 m a b
 | 0,_,a,b,h,_=>FQ
 | _,0,a,b,_,h=>FQ
 | n+1,m+1,[],b,_,_=>rfl
 | n+1,m+1,x::a,[],_,_=>rfl
 | n+1,m+1,x::a,y::b,h1,h2=>by
  simp only [AD] at h1 h2
  rw [I6,I6,KS n m a (y::b) (by simp only [AD];omega) (by simp only [AD];omega),KS n m a b FQ FQ,KS n m (x::a) b (by simp only [AD];omega) (by simp only [AD];omega)]
def mw(a:List Ez):Hv a []=a:=by cases a<;>rfl
def ABS(x:Ez)(a:List Ez)(y:Ez)(b:List Ez):Hv (x::a) (y::b)=if Ip x y<0 then x::Hv a (y::b) else if Ip x y=0 then y::Hv a b else y::Hv (x::a) b:=by
 unfold Hv
 rw [I6]
 simp only [AD]
 rw [KS (a.length+1+(b.length+1)) (a.length+(b.length+1)+1) a (y::b) (by simp only [AD];omega) (by simp only [AD];omega),KS (a.length+1+(b.length+1)) (a.length+b.length+1) a b FQ FQ,KS (a.length+1+(b.length+1)) (a.length+1+b.length+1) (x::a) b (by simp only [AD];omega) (by simp only [AD];omega)]
def Oe : ∀ (n:Nat) (a b:List Ez),(I6 n a b).length<=a.length+b.length
 | 0,_,_=>by simp [I6]
 | n+1,[],b=>by simp [I6]
 | n+1,x::a,[]=>by simp [I6]
 | n+1,x::a,y::b=>by
  have h1:=Oe n a (y::b)
  have h2:=Oe n a b
  have h3:=Oe n (x::a) b
  rw [I6]
  simp only [AD] at h1 h3 ⊢
  split
  ·simp only [AD];omega
  ·split<;>simp only [AD]<;>omega
def Oj(x:Ez)(l:List Ez):(F3 (x::l)).drop 1=F3 l:=rfl
def AUO(x y:Option (Tmp×Nat×Bool))(e:Ft):Prop :=
 match x,y with
 | some (a,k,s),some (b,l,s')=>(s=true\/s'=true)/\match Fp e a,Fp e b with
  | .ptr o1 f1,.ptr o2 f2=>o1≠o2\/f1+k<=f2\/f2+l<=f1
  | _,_=>False
 | _,_=>False
def Lw{P:Program}{h:Hint}{ops:Array Oper}{e:Ft}(L:List (Option (Tmp×Nat×Bool)×Option (Tmp×Nat×Bool)))(hT:((R5 h ops).map λp=>(KB P h p.1,KB P h p.2))=L)(hL : ∀ q∈L,AUO q.1 q.2 e):Ja P h ops e:=λp hp=>by
 have:=hL _ (by rw [<- hT];exact AN.2 ⟨p,hp,rfl⟩)
 exact this
def Lo(l:List Ez):Option (List AV):=some [.sl none (F3 l)]
def mM (o pa pb:Nat) (L:LoopRec) (Inv:List Ez->List Ez->List Ez->FR->Prop) (hne:pa≠pb) (m:List Ez) (hm:m.length<=4611686018427387903)
  (hA : ∀ out a b X,Inv out a b X->X[pa]? =some (Lo a)) (hB : ∀ out a b X,Inv out a b X->X[pb]? =some (Lo b)) (hG : ∀ out a b X x,Inv out a b X->Inv out a b (X++[x]))
  (hsA : ∀ out a b X a',Inv out a b X->Inv out a' b (X.set pa (Lo a'))) (hsB : ∀ out a b X b',Inv out a b X->Inv out a b' (X.set pb (Lo b')))
  (round : ∀ out a b x X,out++[x] <+: m->Inv out a b X->L4 AA o L [.agg (Head.c x)] X λv X'=>v = .bool true/\Inv (out++[x]) a b X')
  (a b:List Ez) (X:FR) (hab:Hv a b=m) (hl:a.length+b.length<=4611686018427387903) (h0:Inv [] a b X):FZ AA 316 [.yld o L,.ptr pa 0,.ptr pb 0] X λ_ X'=>Inv m [] [] X':=by
 refine aC AKe rfl ?_
 simp only [f316,go_sem]
 refine Km (σ:=List Ez×List Ez×List Ez×FR×Ft) (λs=>(0,.yld o L)::(1,.ptr pa 0)::(2,.ptr pb 0)::s.2.2.2.2) (λs=>s.2.2.2.1) (λs=>Inv s.1 s.2.1 s.2.2.1 s.2.2.2.1/\s.1++Hv s.2.1 s.2.2.1=m/\s.2.1.length+s.2.2.1.length<=4611686018427387903) (λs=>s.2.1.length+s.2.2.1.length) ([],a,b,X,[]) ⟨h0,hab,hl⟩ rfl rfl ?_
 rintro ⟨out,a,b,X,rest⟩ ⟨hI,hab,hl⟩
 clear h0
 dsimp only at hI hab hl ⊢
 have a0:=hA _ _ _ _ hI
 have b0:=hB _ _ _ _ hI
 have la:=(AC.1 a0).1
 have lb:=(AC.1 b0).1
 have eA : ∀ z,(X++z)[pa]? =some (Lo a):=λz=>by rw [AT la];exact a0
 have eB : ∀ z,(X++z)[pb]? =some (Lo b):=λz=>by rw [AT lb];exact b0
 have sA : ∀ y v,(X++[y]).set pa v=X.set pa v++[y]:=λy v=>BO _ _ la
 have sB : ∀ y v,(X++[y]).set pb v=X.set pb v++[y]:=λy v=>BO _ _ lb
 have tA : ∀ v x y,(X.set pa v++[x]).set X.length y=X.set pa v++[y]:=λv x y=>by
  have:=Uw (X.set pa v) x y
  rwa [An] at this
 have tB : ∀ v x y,(X.set pb v++[x]).set X.length y=X.set pb v++[y]:=λv x y=>by
  have:=Uw (X.set pb v) x y
  rwa [An] at this
 have gA : ∀ v x,(X.set pa v++[x])[X.length]? =some x:=λv x=>by rw [AM sm];simp
 have gB : ∀ v x,(X.set pb v++[x])[X.length]? =some x:=λv x=>by rw [AM sm];simp
 have nA:X.length≠pa:=FQ
 have nB:X.length≠pb:=FQ
 have nA2:pa≠X.length:=FQ
 have nB2:pb≠X.length:=FQ
 unfold Lo at a0 b0 eA eB
 have z1:((0:Int)<((0:Nat):Int))=False:=dc
 have z2:(((0:Nat):Int)==(0:Int))=true:=rfl
 cases a with
 | nil =>
  cases b with
  | nil =>
   have hm:out=m:=by rw [<- hab];exact (Ag _).symm
   rw [hm] at hI
   simp only [go_sem,a0,b0,AH,z1,dF]
   repeat' (first|(first|apply cS|apply gS)<;>intro hc<;>simp only [go_sem,hc,a0,b0,AH,z1,z2,dF])
   all_goals first|exact hI|skip
  | cons y b =>
   simp only [AD] at hl
   have n1:((0:Int)<((b.length+1:Nat):Int))=True:=eq_true FQ
   have n2:(((b.length+1:Nat):Int)==(0:Int))=false:=by
    rw [beq_eq_false_iff_ne];omega
   have n3:=Oj y b
   have n4:(F3 (y::b))[0]? =some (.agg y.c):=rfl
   have hab2:out++[y]++Hv [] b=m:=by rw [<- hab,AE];rfl
   simp only [go_sem,a0,b0,AH,AD,z1,z2,n1,dT,dF]
   rw [HT _ _ _ (by simp only [go_sem]) rfl rfl]
   simp only [go_sem,eB,sB,AH,AD,n3,n4]
   refine ⟨FQ,Lw [(some (2,1,false),some (5,10,true))] kr ?_, ?_⟩
   ·intro q hq
    rw [Ab.1 hq]
    exact ⟨.inr rfl,.inl nB2⟩
   simp only [go_sem,gB,dF]
   refine Md.intro (round out [] b y _ ⟨_,hab2⟩ (hG _ _ _ _ _ (hsB _ _ _ _ b hI))) λv X' hr=>?_
   obtain ⟨rfl,hi⟩:=hr
   simp only [go_sem]
   exact ⟨(out++[y],[],b,X',[(46,.bool false)]),⟨hi,hab2,by simp only [AH];omega⟩,sm,rfl,rfl⟩
 | cons x a =>
  simp only [AD] at hl
  have m1:((0:Int)<((a.length+1:Nat):Int))=True:=eq_true FQ
  have m2:(((a.length+1:Nat):Int)==(0:Int))=false:=by
   rw [beq_eq_false_iff_ne];omega
  have m3:=Oj x a
  have m4:(F3 (x::a))[0]? =some (.agg x.c):=rfl
  cases b with
  | nil =>
   have hab2:out++[x]++Hv a []=m:=by rw [<- hab,AE,mw,mw];rfl
   simp only [go_sem,a0,b0,AH,AD,z2,m1,m2,dT,dF]
   rw [HT _ _ _ (by simp only [go_sem]) rfl rfl]
   simp only [go_sem,eA,sA,AH,AD,m3,m4]
   refine ⟨FQ,Lw [(some (1,1,false),some (5,10,true))] kr ?_, ?_⟩
   ·intro q hq
    rw [Ab.1 hq]
    exact ⟨.inr rfl,.inl nA2⟩
   simp only [go_sem,gA]
   refine Md.intro (round out a [] x _ ⟨_,hab2⟩ (hG _ _ _ _ _ (hsA _ _ _ _ a hI))) λv X' hr=>?_
   obtain ⟨rfl,hi⟩:=hr
   simp only [go_sem]
   exact ⟨(out++[x],a,[],X',[(46,.bool false)]),⟨hi,hab2,by simp only [AH];omega⟩,sm,rfl,rfl⟩
  | cons y b =>
   simp only [AD] at hl
   have n1:((0:Int)<((b.length+1:Nat):Int))=True:=eq_true FQ
   have n2:(((b.length+1:Nat):Int)==(0:Int))=false:=by
    rw [beq_eq_false_iff_ne];omega
   have n3:=Oj y b
   have n4:(F3 (y::b))[0]? =some (.agg y.c):=rfl
   have c1:=Qe x y
   rw [ABS] at hab
   by_cases q1:Ip x y<0
   ·rw [iP q1] at hab
    have k1 : ¬ 0<=Ip x y:=FQ
    have k2:Ip x y<=0:=FQ
    have hab2:out++[x]++Hv a (y::b)=m:=by rw [<- hab,AE];rfl
    simp only [go_sem,a0,b0,AD,n2,n4,m1,m2,m4,dT]
    repeat' (first|(refine pK (c1) ?_;simp only [go_sem,k1,k2,dT,dF])|(first|apply cS|apply gS)<;>intro hc<;>simp only [go_sem,hc,a0,b0,eA,eB,sA,sB,tA,tB,gA,gB,AH,AD,z1,z2,n1,n2,n3,n4,m1,m2,m3,m4,k1,k2,dT,dF])
    rw [HT _ _ _ (by simp only [go_sem]) rfl rfl]
    simp only [go_sem,eA,sA,AH,AD,m3,m4]
    refine ⟨FQ,Lw [(some (1,1,false),some (5,10,true))] kr ?_, ?_⟩
    ·intro q hq
     rw [Ab.1 hq]
     exact ⟨.inr rfl,.inl nA2⟩
    simp only [go_sem,gA]
    refine Md.intro (round out a (y::b) x _ ⟨_,hab2⟩ (hG _ _ _ _ _ (hsA _ _ _ _ a hI))) λv X' hr=>?_
    obtain ⟨rfl,hi⟩:=hr
    simp only [go_sem]
    exact ⟨(out++[x],a,y::b,X',[(46,.bool false)]),⟨hi,hab2,by simp only [AD];omega⟩,by simp only [AD];omega,rfl,rfl⟩
   ·rw [iN q1] at hab
    have k1:0<=Ip x y:=FQ
    by_cases q2:Ip x y=0
    ·rw [iP q2] at hab
     have hxy:=R9 q2
     subst hxy
     have k2:Ip x x<=0:=FQ
     have hab2:out++[x]++Hv a b=m:=by rw [<- hab,AE];rfl
     have la':pa<(X.set pb (some [.sl none (F3 b)])).length:=by simpa using la
     have eA2 : ∀ v,(X.set pb v)[pa]? =some (some [.sl none (F3 (x::a))]):=λv=>by rw [A5 hne.symm];exact a0
     have eA3 : ∀ v z,(X.set pb v++z)[pa]? =some (some [.sl none (F3 (x::a))]):=λv z=>by rw [AT (by simpa using la)];exact eA2 v
     have sA3 : ∀ w y v,(X.set pb w++[y]).set pa v=(X.set pb w).set pa v++[y]:=λw y v=>BO _ _ (by simpa using la)
     have tA3 : ∀ w v x y,((X.set pb w).set pa v++[x]).set X.length y=(X.set pb w).set pa v++[y]:=λw v x y=>by
      have:=Uw ((X.set pb w).set pa v) x y
      rwa [An,An] at this
     have gA3 : ∀ w v x,((X.set pb w).set pa v++[x])[X.length]? =some x:=λw v x=>by rw [AM sm];simp
     simp only [go_sem,a0,b0,AD,n2,n4,m1,m2,m4,dT]
     repeat' (first|(refine pK (c1) ?_;simp only [go_sem,k1,dT])|(first|apply cS|apply gS)<;>intro hc<;>simp only [go_sem,hc,a0,b0,eA,eB,sA,sB,tA,tB,gA,gB,AH,AD,z1,z2,n1,n2,n3,n4,m1,m2,m3,m4,k1,k2,dT,dF])
     rw [HT _ _ _ (by simp only [go_sem]) rfl rfl]
     simp only [go_sem,eB,sB,AH,AD,n3,n4]
     refine ⟨FQ,Lw [(some (2,1,false),some (5,10,true))] kr ?_, ?_⟩
     ·intro q hq
      rw [Ab.1 hq]
      exact ⟨.inr rfl,.inl nB2⟩
     simp only [go_sem,k2,dT]
     rw [HT _ _ _ (by simp only [go_sem]) rfl rfl]
     simp only [go_sem,tB,gB,AH,AD,m3,m4,eA3,sA3]
     refine ⟨FQ,Lw [(some (1,1,false),some (5,10,true))] kr ?_, ?_⟩
     ·intro q hq
      rw [Ab.1 hq]
      exact ⟨.inr rfl,.inl nA2⟩
     simp only [go_sem,gA3]
     refine Md.intro (round out a b x _ ⟨_,hab2⟩ (hG _ _ _ _ _ (hsA _ _ _ _ a (hsB _ _ _ _ b hI)))) λv X' hr=>?_
     obtain ⟨rfl,hi⟩:=hr
     simp only [go_sem]
     exact ⟨(out++[x],a,b,X',[(46,.bool false)]),⟨hi,hab2,by simp only [];omega⟩,by simp only [];omega,rfl,rfl⟩
    ·rw [iN q2] at hab
     have k2 : ¬ Ip x y<=0:=FQ
     have hab2:out++[y]++Hv (x::a) b=m:=by rw [<- hab,AE];rfl
     simp only [go_sem,a0,b0,AD,n2,n4,m1,m2,m4,dT]
     repeat' (first|(refine pK (c1) ?_;simp only [go_sem,k1,dT])|(first|apply cS|apply gS)<;>intro hc<;>simp only [go_sem,hc,a0,b0,eA,eB,sA,sB,tA,tB,gA,gB,AH,AD,z1,z2,n1,n2,n3,n4,m1,m2,m3,m4,k1,k2,dT,dF])
     rw [HT _ _ _ (by simp only [go_sem]) rfl rfl]
     simp only [go_sem,eB,sB,AH,AD,n3,n4]
     refine ⟨FQ,Lw [(some (2,1,false),some (5,10,true))] kr ?_, ?_⟩
     ·intro q hq
      rw [Ab.1 hq]
      exact ⟨.inr rfl,.inl nB2⟩
     simp only [go_sem,gB,k2,dF]
     refine Md.intro (round out (x::a) b y _ ⟨_,hab2⟩ (hG _ _ _ _ _ (hsB _ _ _ _ b hI))) λv X' hr=>?_
     obtain ⟨rfl,hi⟩:=hr
     simp only [go_sem]
     exact ⟨(out++[y],x::a,b,X',[(46,.bool false)]),⟨hi,hab2,by simp only [AD];omega⟩,by simp only [AD];omega,rfl,rfl⟩
def GE(l:List Ez):List AV:=(l.map Head.c).flatten
def Ir(x:Ez)(l:List Ez):GE (x::l)=x.c++GE l:=rfl
def Jb : ∀ l:List Ez,(GE l).length=l.length*10
 | []=>rfl
 | x::l=>by
  rw [Ir,AF,Jb l,AD]
  have:x.c.length=10:=rfl
  omega
def Wq : ∀ (l:List Ez) (r:List AV) (k:Nat) (y:Ez),l[k]? =some y->((GE l++r).drop (k*10)).take 10=y.c
 | [],_,_,_,h=>by simp at h
 | x::l,r,0,y,h=>by
  simp only [A7,Option.some.injEq] at h
  subst h
  rfl
 | x::l,r,k+1,y,h=>by
  rw [Ir,AE]
  have e:(k+1)*10=x.c.length+k*10:=by
   have:x.c.length=10:=rfl
   omega
  rw [e,<- A8,List.drop_left]
  exact Wq l r k y (by simpa using h)
def jN{l:List Ez}(r:List AV){k:Nat}{y:Ez}(h:l[k]? =some y):k*10+10<=(GE l++r).length:=by
 have:=(AC.1 h).1
 rw [AF,Jb]
 omega
def iE(d:Ez->Bool):Nat->List Ez->Int
 | _,[] => -1
 | k,x::r=>if d x=true then (k:Int) else iE d (k+1) r
def AA7(l:List Ez)(hl:l.length<=9223372036854775807)(r:List AV)(H:FR)(o:Nat)(ho:H[o]? =some (some (GE l++r)))(f:Nat)(first cap:List AV)(d:Ez->Bool)(hd : ∀ x∈l,GJ AA f (first.map AV.borrow++(.agg (Head.c x)::cap.map AV.borrow)) H (.bool (d x))):
  GJ AA 318 [.msl o 0 l.length 10,.fn (.func f) first cap] H (.int .i64 (iE d 0 l)):=by
 refine aC AB8 rfl ?_
 simp only [f318,go_sem]
 refine Fd l (λr=>iE d (l.length - r.length) r) (λk=>[(0,.msl o 0 l.length 10),(1,.fn (.func f) first cap),(7,.int .i64 l.length),(8,.int .i64 k)]) hl rfl ?_ ?_
 ·intro k y ys hdr hx hF h0 h1 hw
  have c1:=hd y (AB hx)
  have g1:=jN r hx
  have g2:=Wq l r k y hx
  have hk2:=Fo hdr
  have e1:l.length - (ys.length+1)=k:=FQ
  have e2:l.length - ys.length=k+1:=FQ
  simp only [AD,e1,AP] at hF
  simp only [go_sem,h0,h1,ho,g1,g2]
  repeat' (first|(refine aS (c1) ?_;simp only [go_sem])|(first|apply cS|apply gS)<;>intro hc<;>simp only [go_sem,hc,hw,e1,e2])
  ·rw [hF,iE,iP hc]
  ·rw [iE,iN (by rw [hc];decide)]
 ·intro hF hlt
  simp only [go_sem,hlt,dF]
  rw [AP] at hF
  rw [hF];rfl
def hM2:Hint:={ iU with tk:=[] }
@[go_sem] def Ag1:hM2.lv 3=[5,6]/\hM2.lv 4=[0]:=dk
set_option linter.defProp false in
@[go_sem] def Ag0:=na hM2 rfl rfl rfl
@[go_sem] def Agz:hM2.tk=[]/\hM2.mt=[5,14]/\hM2.pc=[]:=⟨rfl,rfl,rfl⟩
def AAv(a b:List Ez)(H:FR):FZ AA 280 [.sl none (F3 a),.sl none (F3 b)] H λv H'=>v = .fn (.func 316) [] [.ptr H.length 0,.ptr (H.length+1) 0]/\H'=H++[Lo a,Lo b]:=by
 refine aC ALo rfl ?_
 simp only [f280,go_sem,AF,AE,AS,AO]
 all_goals first|rfl|exact ⟨rfl,rfl⟩
def AIa {P:Program} {n tag N:Nat} {h:Hint} {g:Operand} {rs:Array Tmp} {assign body:Code} {Q:Exit->Kt} {e:Ft} {H:FR} {f:FuncId} {first captured:List AV} (hN:H.length=N)
  (hg:G5 P none e g = .fn (.func f) first captured)
  (hc:FZ P f (first.map AV.borrow++[.yld N ⟨tag,rs,assign,body⟩]++captured.map AV.borrow) (H++[some (G6 0 (HY n e))]) (λ_ H2=>AAU N Q e H2)):rfK P n h none g rs assign body Q e H:=by
 subst hN
 exact Sn hg hc
def MI(H:FR)(fv:List AV)(out a b:List Ez)(X:FR):Prop :=
 H.length+4<=X.length/\X.take H.length=H/\X[H.length+1]? =some (Lo a)/\X[H.length+2]? =some (Lo b)/\X[H.length+3]? =some (some (G6 0 fv)) /\
  ∃ ov,X[H.length]? =some (some [ov])/\((out=[]/\ov = .sl (some 0) []) \/ ∃ ob,ov = .msl ob 0 out.length 10/\out≠[]/\H.length+4<=ob/\X[ob]? =some (some (GE out)))
def FY{X:FR}{i:Nat}{c:Option (List AV)}(h:X[i]? =some c)(z:FR):(X++z)[i]? =some c:=by
 rw [AT (AC.1 h).1];exact h
def GA{X:FR}{i j:Nat}{c:Option (List AV)}(h:X[i]? =some c)(hne:j≠i)(v:Option (List AV)):(X.set j v)[i]? =some c:=by
 rw [A5 hne];exact h
def IW{X:FR}{i:Nat}(h:i<X.length)(v:Option (List AV)):(X.set i v)[i]? =some v:=by
 rw [A3 h]
def MI.grow{H:FR}{fv:List AV}{out a b:List Ez}{X:FR}(h:MI H fv out a b X)(x:Option (List AV)):MI H fv out a b (X++[x]):=by
 obtain ⟨h1,h2,h3,h4,h5,ov,h6,h7⟩:=h
 refine ⟨by simp;omega,by rw [C8 FQ];exact h2,FY h3 _,FY h4 _,FY h5 _,ov,FY h6 _, ?_⟩
 rcases h7 with h7|⟨ob,g1,g2,g3,g4⟩
 ·exact .inl h7
 ·exact .inr ⟨ob,g1,g2,g3,FY g4 _⟩
def MI.setA{H:FR}{fv:List AV}{out a b:List Ez}{X:FR}(h:MI H fv out a b X)(a':List Ez):MI H fv out a' b (X.set (H.length+1) (Lo a')):=by
 obtain ⟨h1,h2,h3,h4,h5,ov,h6,h7⟩:=h
 refine ⟨by simpa using h1,by rw [CQ FQ];exact h2,IW FQ _,GA h4 FQ _,GA h5 FQ _,ov,GA h6 FQ _, ?_⟩
 rcases h7 with h7|⟨ob,g1,g2,g3,g4⟩
 ·exact .inl h7
 ·exact .inr ⟨ob,g1,g2,g3,GA g4 FQ _⟩
def MI.setB{H:FR}{fv:List AV}{out a b:List Ez}{X:FR}(h:MI H fv out a b X)(b':List Ez):MI H fv out a b' (X.set (H.length+2) (Lo b')):=by
 obtain ⟨h1,h2,h3,h4,h5,ov,h6,h7⟩:=h
 refine ⟨by simpa using h1,by rw [CQ FQ];exact h2,GA h3 FQ _,IW FQ _,GA h5 FQ _,ov,GA h6 FQ _, ?_⟩
 rcases h7 with h7|⟨ob,g1,g2,g3,g4⟩
 ·exact .inl h7
 ·exact .inr ⟨ob,g1,g2,g3,GA g4 FQ _⟩
def MI.put {H:FR} {fv:List AV} {a b:List Ez} {X:FR} (h1:H.length+4<=X.length) (h2:X.take H.length=H) (h3:X[H.length+1]? =some (Lo a)) (h4:X[H.length+2]? =some (Lo b)) (z:FR) {out:List Ez} {ob:Nat} (hne:out≠[]) (hob:H.length+4<=ob)
  (hr:((X.set H.length (some [.msl ob 0 out.length 10])).set (H.length+3) (some (G6 0 fv))++z)[ob]? =some (some (GE out))):MI H fv out a b ((X.set H.length (some [.msl ob 0 out.length 10])).set (H.length+3) (some (G6 0 fv))++z):=by
 refine ⟨by simp;omega, ?_,FY (GA (GA h3 FQ _) FQ _) _,FY (GA (GA h4 FQ _) FQ _) _,FY (IW (by simp;omega) _) _,_,FY (GA (IW FQ _) FQ _) _,.inr ⟨ob,rfl,hne,hob,hr⟩⟩
 rw [C8 (by simp;omega),CQ FQ,CQ FQ]
 exact h2
def Wr : ∀ l:List Ez,(GE l).map borrow1=GE l
 | []=>rfl
 | x::l=>by
  rw [Ir,Ap,Wr l]
  rfl
def jO(l:List Ez)(x:Ez):GE (l++[x])=GE l++x.c:=by
 unfold GE
 simp
def ACd{H X:FR}(h:X.take H.length=H): ∃ ext,X=H++ext:=⟨X.drop H.length,by
 have:=List.take_append_drop H.length X
 rw [h] at this
 exact this.symm⟩
def mFv(n:Nat):List AV:=HY 16 [(5,.ptr n 0),(9,.fn (.func 316) [] [.ptr (n+1) 0,.ptr (n+2) 0])]
def Vk(a b:List Ez)(hl:a.length+b.length<=1048576)(H:FR):FZ AA 221 [.sl none (F3 a),.sl none (F3 b)] H λv H'=>Sl ((Hv a b).map Head.c) v H H':=by
 have hml:(Hv a b).length<=1048576:=Nat.le_trans (Oe _ a b) hl
 refine aC AN0 rfl ?_
 simp only [f221,go_sem]
 refine ⟨by first|rfl|kernel_rfl,Fr.intro (AAv a b _) λv H' hr=>?_⟩
 obtain ⟨rfl,rfl⟩:=hr
 simp only [go_sem,AF,AE,AS,AO,AD,AH,Ax,Nat.reduceAdd]
 refine AIa (tag:=221) (N:=H.length+3) sm rfl (FZ.mono (mM (H.length+3) (H.length+1) (H.length+2) _ (MI H (mFv H.length)) FQ (Hv a b) FQ (λ_ _ _ _ h=>h.2.2.1) (λ_ _ _ _ h=>h.2.2.2.1) (λ_ _ _ _ x h=>h.grow x) (λ_ _ _ _ a' h=>h.setA a') (λ_ _ _ _ b' h=>h.setB b') ?_ a b _ rfl FQ ?_) λv H2 hq=>?_)
 ·intro out a b x X hpre hI
  have hlen:=hpre.length_le
  simp only [AF,AD,AH] at hlen
  obtain ⟨h1,h2,h3,h4,h5,ov,h6,h7⟩:=hI
  have f1 : ∀ z,(X++z)[H.length+3]? =some (some (G6 0 (mFv H.length))):=FY h5
  have f2 : ∀ y v,(X++[y]).set (H.length+3) v=X.set (H.length+3) v++[y]:=λy v=>BO _ _ FQ
  have f3 : ∀ v z,(X.set (H.length+3) v++z)[H.length]? =some (some [ov]):=λv z=>FY (GA h6 FQ v) z
  have f4 : ∀ v y,(X.set (H.length+3) v++[y])[X.length]? =some y:=λv y=>by
   have:X.length=(X.set (H.length+3) v).length:=sm
   rw [this];exact BX
  rcases h7 with ⟨rfl,rfl⟩|⟨ob,rfl,hne,hob,hrow⟩
  ·have f5 : ∀ v z w,(X.set (H.length+3) v++z).set H.length w=(X.set (H.length+3) v).set H.length w++z:=λv z w=>BO _ _ (by simp;omega)
   have f6 : ∀ v w z,((X.set (H.length+3) v).set H.length w++z)[H.length+3]? =some v:=λv w z=>FY (GA (IW FQ v) FQ w) z
   have f7 : ∀ v w z u,((X.set (H.length+3) v).set H.length w++z).set (H.length+3) u=(X.set H.length w).set (H.length+3) u++z:=λv w z u=>by
    rw [BO _ _ (by simp;omega),B8 _ _ FQ,BE,B8 _ _ FQ]
   have f8 : ∀ v w y z,((X.set (H.length+3) v).set H.length w++(y::z))[X.length]? =some y:=λv w y z=>by
    have:X.length=((X.set (H.length+3) v).set H.length w).length:=sm
    rw [this,AM (AU _),AP];rfl
   have f9 : ∀ v w z u,((X.set (H.length+3) v).set H.length w++z).set H.length u=(X.set (H.length+3) v).set H.length u++z:=λv w z u=>by
    rw [BO _ _ (by simp;omega),BE]
   have f10 : ∀ v w z,((X.set (H.length+3) v).set H.length w++z)[H.length]? =some w:=λv w z=>FY (IW (by simp;omega) w) z
   have hc1:x.c.length=10:=rfl
   have hc2:x.c.take 10=x.c:=rfl
   have hb1:List.map borrow1 (HQ [AV.agg x.c])=GE [x]:=rfl
   refine Js (h:=iU) (n:=16) mixed rfl ⟨kr,kr⟩ dc _ _ _ _ h5 rfl rfl ?_
   show I3 _ _ _ _ _ _ [(10,.agg x.c),(0,.undef),(1,.undef),(2,.undef),(3,.undef),(4,.undef),(5,.ptr H.length 0),(6,.undef),(7,.undef),(8,.undef),(9,.fn (.func 316) [] [.ptr (H.length+1) 0,.ptr (H.length+2) 0]),(10,.undef),(11,.undef),(12,.undef),(13,.undef),(14,.undef),(15,.undef)] _
   simp only [go_sem,f1]
   refine ⟨_,rfl, ?_⟩
   simp only [go_sem,f2,f3,f5,f6,f7,f8,f9,f10,hb1,hc1,hc2,AE,AS,AO,AF,An,AD,AH,AY]
   refine ⟨_,rfl, ?_⟩
   have hlX : ∀ w u,((X.set H.length w).set (H.length+3) u).length=X.length:=λw u=>sm
   have:=MI.put (fv:=mFv H.length) h1 h2 h3 h4 [some x.c,some (GE [x])] (out:=[x]) (ob:=X.length+1) sm FQ (by rw [AM (by rw [hlX];omega),hlX,A1];rfl)
   exact this
  ·have hX2 : ∀ v,X.set (H.length+3) v=X.set (H.length+3) v:=λ_=>rfl
   have hoX:=(AC.1 hrow).1
   have f5 : ∀ v z,(X.set (H.length+3) v++z)[ob]? =some (some (GE out)):=λv z=>FY (GA hrow FQ v) z
   have f6 : ∀ v z,(X.set (H.length+3) v++z).set ob none=(X.set (H.length+3) v).set ob none++z:=λv z=>BO _ _ (by simp;omega)
   have f8 : ∀ v z,((X.set (H.length+3) v).set ob none++z)[H.length]? =some (some [.msl ob 0 out.length 10]):=λv z=>FY (GA (GA h6 FQ v) FQ none) z
   have f9 : ∀ v z w,((X.set (H.length+3) v).set ob none++z).set H.length w=((X.set (H.length+3) v).set ob none).set H.length w++z:=λv z w=>BO _ _ (by simp;omega)
   have f10 : ∀ v w z,(((X.set (H.length+3) v).set ob none).set H.length w++z)[H.length+3]? =some v:=λv w z=>FY (GA (GA (IW FQ v) FQ none) FQ w) z
   have f11 : ∀ v w z u,(((X.set (H.length+3) v).set ob none).set H.length w++z).set (H.length+3) u=((X.set ob none).set H.length w).set (H.length+3) u++z:=λv w z u=>by
    rw [BO _ _ (by simp;omega)]
    congr 1
    rw [B8 _ _ (show H.length≠H.length+3 by omega),B8 _ _ (show ob≠H.length+3 by omega),BE,B8 _ _ (show H.length+3≠ob by omega),B8 _ _ (show H.length+3≠H.length by omega)]
   have hcl:(GE out).length=out.length*10:=Jb out
   have hcb:(GE out).map borrow1=GE out:=Wr out
   have hc1:x.c.length=10:=rfl
   have hc2:x.c.take 10=x.c:=rfl
   have hb1:List.map borrow1 (HQ [AV.agg x.c])=x.c:=rfl
   refine Js (h:=hM2) (n:=16) mixed rfl ⟨kr,kr⟩ dc _ _ _ _ h5 rfl rfl ?_
   show I3 _ _ _ _ _ _ [(10,.agg x.c),(0,.undef),(1,.undef),(2,.undef),(3,.undef),(4,.undef),(5,.ptr H.length 0),(6,.undef),(7,.undef),(8,.undef),(9,.fn (.func 316) [] [.ptr (H.length+1) 0,.ptr (H.length+2) 0]),(10,.undef),(11,.undef),(12,.undef),(13,.undef),(14,.undef),(15,.undef)] _
   simp only [go_sem,f1]
   refine ⟨_,rfl, ?_⟩
   simp only [go_sem,f2,f3,f4,f5,f6,f8,f9,f10,f11,hcl,hcb,hc1,hc2,hb1,AE,AS,AO,AF,An,AD,AH,AY]
   have hX1:H.length+4<=(X.set ob none).length:=by simpa using h1
   have hX2:(X.set ob none).take H.length=H:=by rw [CQ FQ];exact h2
   have hlX : ∀ w u,(((X.set ob none).set H.length w).set (H.length+3) u).length=X.length:=λw u=>sm
   refine ⟨FQ,FQ,_,rfl, ?_⟩
   have:=MI.put (fv:=mFv H.length) hX1 hX2 (GA h3 FQ none) (GA h4 FQ none) [some x.c,some (GE out++x.c)] (out:=out++[x]) (ob:=X.length+1) sm FQ (by rw [AM (by rw [hlX];omega),hlX,A1,jO];rfl)
   simpa only [AF,AD,AH,AY] using this
 ·refine ⟨sm,by rw [AE,List.take_left], ?_, ?_, ?_,.sl (some 0) [], ?_,.inl ⟨rfl,rfl⟩⟩
  ·rw [AE,AM FQ,A1];rfl
  ·rw [AE,AM FQ,A1];rfl
  ·rw [AE,AM FQ,A1];rfl
  ·rw [AE,AM (AU _),AP];rfl
 ·obtain ⟨h1,h2,h3,h4,h5,ov,h6,h7⟩:=hq
  refine ⟨0,_,h5,.inl ⟨rfl, ?_⟩⟩
  have hext : ∃ ext,H2.set (H.length+3) none=H++ext:=ACd (by rw [CQ FQ];exact h2)
  have g6:=GA h6 (show H.length+3≠H.length by omega) none
  rcases h7 with ⟨e,rfl⟩|⟨ob,rfl,hne,hob,hrow⟩
  ·simp only [go_sem,g6]
   exact .inl ⟨by rw [e];rfl,⟨_,rfl⟩,hext⟩
  ·simp only [go_sem,g6]
   exact .inr ⟨ob,_,by rw [Aq],FQ,hext,GA hrow FQ none,[],(Ag _).symm⟩
def Qw{l:List Ez}: ∀ e∈l.map Head.c,e.length=10:=λe he=>by
 obtain ⟨x,_,rfl⟩:=AN.1 he
 rfl
def iH{l:List Ez}: ∀ e∈l.map Head.c,e.map borrow1=e:=λe he=>by
 obtain ⟨x,_,rfl⟩:=AN.1 he
 rfl
def Nk{l:List Ez}{n:Nat}: ∀ e∈l.map Head.c,Fl n e=true:=λe he=>by
 obtain ⟨x,_,rfl⟩:=AN.1 he
 rfl
def Ot(l:List Ez):(l.map Head.c).map AV.agg=F3 l:=by rw [List.map_map];rfl
def NX(a b:List Ez)(hl:a.length+b.length<=1048576)(H:FR):GJ AA 221 [.sl none (F3 a),.sl none (F3 b)] H (.sl none (F3 (Hv a b))):=by
 have:=zP Qw Nk iH (Vk a b hl H)
 rw [Ot] at this
 exact this
def NU:Option (List Ez)->AV
 | some r => .tup [.sl none (F3 r),.bool true]
 | none => .tup [.sl none [],.bool false]
@[go_sem] def AUy(o:Option (List Ez)):(NU o).pure=true:=by
 cases o<;>simp [NU,AV.pure,FV,go_sem]
def Lk(r:List Ez)(b:Bool):A' AA 220 [.sl none (F3 r),.bool b] (NU (if b=true then Wx r else none)):=by
 refine pB nh rfl ?_
 cases b with
 | false =>
  simp only [f220,go_sem]
  rfl
 | true =>
  simp only [f220,go_sem]
  repeat' (first|(first|apply cS|apply gS)<;>intro hc<;>simp only [go_sem,hc])
  ·rw [Wx,iP (by have:=of_decide_eq_true hc;omega)];rfl
  ·rw [Wx,iN (by have:=of_decide_eq_false hc;omega)];rfl
def AAn(o n:Nat)(b:Bool)(H:FR):FZ AA 220 [.msl o 0 n 10,.bool b] H λv H'=>H'=H/\((b=true/\n<=256/\v = .tup [.msl o 0 n 10,.bool true])\/((b=false\/256<n) /\ ∃ w,v = .tup [.sl w [],.bool false])):=by
 refine aC nh rfl ?_
 cases b with
 | false =>
  simp only [f220,go_sem]
  exact .inr ⟨.inl trivial,_,rfl⟩
 | true =>
  simp only [f220,go_sem]
  repeat' (first|(first|apply cS|apply gS)<;>intro hc<;>simp only [go_sem,hc])
  ·have hc:=of_decide_eq_true hc
   first|exact ⟨rfl,.inr ⟨.inr FQ,_,rfl⟩⟩|exact .inr ⟨.inr FQ,_,rfl⟩|skip
  ·have hc:=of_decide_eq_false hc
   exact .inl FQ
def AAo(w:Option Nat)(b:Bool)(H:FR):FZ AA 220 [.sl w [],.bool b] H λv H'=>H'=H /\ ∃ w2,v = .tup [.sl w2 [],.bool b]:=by
 have z1:decide ((256:Int)<((0:Nat):Int))=false:=dc
 refine aC nh rfl ?_
 cases b<;>cases w<;>simp only [f220,go_sem,AH,z1]
 all_goals first|exact ⟨_,rfl⟩|exact ⟨rfl,_,rfl⟩|skip
def P6{α:Type}(l:List α)(i:Nat)(x:α)(h:i<l.length):(l.set i x).take (i+1)=l.take i++[x]:=by
 rw [BF,A3 h,CQ (AU _)];rfl
def Q9 : ∀ (l:List Ez) (r:List AV) (i:Nat),i<=l.length->(GE l++r).take (i*10)=GE (l.take i)
 | _,r,0,_=>by simp [GE]
 | [],r,i+1,h=>by simp at h
 | x::l,r,i+1,h=>by
  have e:(i+1)*10=x.c.length+i*10:=by
   have:x.c.length=10:=rfl
   omega
  rw [Ir,AE,e,List.take_length_add_append,Q9 l r i (by simpa using h),CO,Ir]
def Wp : ∀ (l:List Ez) (r:List AV) (i:Nat),i<=l.length->(GE l++r).drop (i*10)=GE (l.drop i)++r
 | _,r,0,_=>sm
 | [],r,i+1,h=>by simp at h
 | x::l,r,i+1,h=>by
  have e:(i+1)*10=x.c.length+i*10:=by
   have:x.c.length=10:=rfl
   omega
  rw [Ir,AE,e,List.drop_length_add_append,Wp l r i (by simpa using h),List.drop_succ_cons]
def oq(a b:List Ez):GE (a++b)=GE a++GE b:=by unfold GE;simp
def aB{l:List Ez}(r:List AV){i:Nat}(h:i<l.length)(x:Ez):splice (GE l++r) (i*10) x.c=GE (l.set i x)++r:=by
 have e:i*10+x.c.length=(i+1)*10:=by
  have:x.c.length=10:=rfl
  omega
 unfold splice
 rw [e,Q9 l r i FQ,Wp l r (i+1) FQ,List.set_eq_take_append_cons_drop,iP h,oq,Ir]
 simp only [AE]
def ZS(d:Ez->Bool): ∀ (l:List Ez) (k:Nat),(iE d k l = -1 /\ ∀ x∈l,d x=false) \/ ∃ (i:Nat) (x:Ez),iE d k l=((k+i:Nat):Int)/\l[i]? =some x/\d x=true /\ ∀ y∈l.take i,d y=false
 | [],k => .inl ⟨rfl,sm⟩
 | x::r,k=>by
  rw [iE]
  by_cases h:d x=true
  ·rw [iP h]
   exact .inr ⟨0,x,rfl,rfl,h,sm⟩
  ·rw [iN h]
   have h:d x=false:=by simpa using h
   rcases ZS d r (k+1) with ⟨e,h2⟩|⟨i,y,e,h2,h3,h4⟩
   ·exact .inl ⟨e,by simpa [h] using h2⟩
   ·refine .inr ⟨i+1,y,by rw [e];congr 1;omega,h2,h3, ?_⟩
    rw [CO]
    intro z hz
    rcases AW.1 hz with rfl|hz
    ·exact h
    ·exact h4 z hz
def mR(H:FR)(f:Nat)(first cap:List AV):GJ AA 318 [.sl none [],.fn (.func f) first cap] H (.int .i64 (-1)):=by
 refine aC AB8 rfl ?_
 simp only [f318,go_sem]
 refine Fd ([]:List Ez) (λ_=>()) (λk=>[(0,.sl none []),(1,.fn (.func f) first cap),(7,.int .i64 ((0:Nat):Int)),(8,.int .i64 k)]) sm rfl ?_ ?_
 ·intro k y ys hd
  rw [List.drop_nil] at hd;cases hd
 ·intro _ hlt
  have z2:decide (((0:Nat):Int)<((0:Nat):Int))=false:=dc
  simp only [go_sem,z2]
def aQ(w:Option Nat)(H:FR)(f:Nat)(first cap:List AV):FZ AA 281 [.sl w [],.fn (.func f) first cap] H λv H'=>H'=H /\ ∃ w2,v = .sl w2 []:=by
 have c1:=mR H f first cap
 have z1:((-1:Int) == -1)=true:=rfl
 refine aC ACC rfl ?_
 cases w with
 | none =>
  simp only [f281,go_sem]
  repeat' (first|(refine aS (c1) ?_;simp only [go_sem,z1])|(first|apply cS|apply gS)<;>intro hc<;>simp only [go_sem,hc,z1])
  all_goals first|exact ⟨_,rfl⟩|exact ⟨rfl,_,rfl⟩|skip
 | some w =>
  simp only [f281,go_sem]
  repeat' (first|(refine aS (c1) ?_;simp only [go_sem,z1])|(first|apply cS|apply gS)<;>intro hc<;>simp only [go_sem,hc,z1])
  all_goals first|exact ⟨_,rfl⟩|exact ⟨rfl,_,rfl⟩|skip
def tC (l:List Ez) (hl:l.length<=1048576) (r:List AV) (H:FR) (o:Nat) (ho:H[o]? =some (some (GE l++r))) (f:Nat) (first cap:List AV) (d:Ez->Bool)
  (hd : ∀ x∈l,∀ c J,GJ AA f (first.map AV.borrow++(.agg (Head.c x)::cap.map AV.borrow)) (H.set o (some c)++J) (.bool (d x))) :
  FZ AA 281 [.msl o 0 l.length 10,.fn (.func f) first cap] H λv H' => ∃ r' J,v = .msl o 0 (l.filter λx => !d x).length 10/\H'=H.set o (some (GE (l.filter λx => !d x)++r'))++J:=by
 have hset:H.set o (some (GE l++r))=H:=by
  obtain ⟨hlt,he⟩:=AC.1 ho
  apply List.ext_getElem?
  intro i
  rw [List.getElem?_set]
  split
  ·rename_i hi;subst hi;rw [ho]
  ·rfl
 have hd0 : ∀ x∈l,GJ AA f (first.map AV.borrow++(.agg (Head.c x)::cap.map AV.borrow)) H (.bool (d x)):=λx hx=>by
  have:=hd x hx (GE l++r) []
  rw [hset,Ag] at this
  exact this
 have c1:=AA7 l FQ r H o ho f first cap d hd0
 refine aC ACC rfl ?_
 rcases ZS d l 0 with ⟨e,hall⟩|⟨i,x,e,hx,hdx,hpre⟩
 ·rw [e] at c1
  have hf:l.filter (λx => !d x)=l:=DR.2 λx hx=>by rw [hall x hx];rfl
  simp only [f281,go_sem]
  repeat' (first|(refine aS (c1) ?_;simp only [go_sem,Int.reduceBEq])|(first|apply cS|apply gS)<;>intro hc<;>simp only [go_sem,hc,Int.reduceBEq])
  all_goals first|exact ⟨r,[],by rw [hf],by rw [hf,hset,Ag]⟩|skip
 ·rw [e,AY] at c1
  have hn1:(((i:Nat):Int) == -1)=false:=by rw [beq_eq_false_iff_ne];omega
  have hi:=(AC.1 hx).1
  have hw0:=Mj (k:=i) FQ
  simp only [f281,go_sem]
  repeat' (first|(refine aS (c1) ?_;simp only [go_sem,hn1,hw0])|(first|apply cS|apply gS)<;>intro hc<;>simp only [go_sem,hc,hn1,hw0])
  refine Km (σ:=Nat×Nat×List Ez×FR×Ft) (λs=>(0,.msl o 0 l.length 10)::(1,.fn (.func f) first cap)::(5,.int .i64 s.1)::(6,.int .i64 s.2.1)::s.2.2.2.2) (λs=>H.set o (some (GE s.2.2.1++r))++s.2.2.2.1)
   (λs=>s.1<s.2.1/\s.2.1<=l.length/\s.2.2.1.length=l.length/\s.2.2.1.take s.1=(l.take s.2.1).filter (λx => !d x)/\s.2.2.1.drop s.2.1=l.drop s.2.1) (λs=>l.length - s.2.1) (i,i+1,l,[],[]) ⟨by dsimp only;omega,by dsimp only;omega,rfl, ?_,rfl⟩ ?_ ?_ ?_
  ·dsimp only
   rw [BF,hx,Ce]
   have h1:(l.take i).filter (λx => !d x)=l.take i:=DR.2 λz hz=>by rw [hpre z hz];rfl
   rw [h1]
   simp [hdx]
  ·rfl
  ·dsimp only
   rw [hset,Ag]
  ·rintro ⟨i,j,row,J,rest⟩ ⟨hij,hj,hrl,htk,hdr⟩
   dsimp only at hij hj hrl htk hdr ⊢
   have hoL:=(AC.1 ho).1
   have fO : ∀ c z,(H.set o c++z)[o]? =some c:=λc z=>FY (IW hoL c) z
   have fW : ∀ c z c',(H.set o c++z).set o c'=H.set o c'++z:=λc z c'=>by rw [BO _ _ (by simpa using hoL),BE]
   by_cases hlt:j<l.length
   ·have hy:=AL hlt
    have hry:row[j]? =some l[j]:=by
     have:=congrArg (·[0]?) hdr
     simpa [hy] using this
    have j0:(0:Int)<=(j:Int):=FQ
    have j1:(j:Int)<(l.length:Int):=FQ
    have k0:(0:Int)<=(i:Int):=FQ
    have k1:(i:Int)<(l.length:Int):=FQ
    have hwj:=Mj (k:=j) FQ
    have hwi:=Mj (k:=i) FQ
    have g1:=jN r hry
    rw [AF] at g1
    have g2:=Wq row r j _ hry
    have fS : ∀ c z y,(H.set o c++(J++[z])).set (H.length+J.length) y=H.set o c++(J++[y]):=λc z y=>by
     rw [<- AE,<- AE]
     simp
    have fL : ∀ c y,(H.set o c++(J++[y]))[H.length+J.length]? =some y:=λc y=>by
     rw [<- AE]
     have:H.length+J.length=(H.set o c++J).length:=sm
     rw [this];exact BX
    have c2:=hd _ (AB hy) (GE row++r) (J++[some (Head.c l[j])])
    have hfil:(l.take (j+1)).filter (λx => !d x)=(l.take j).filter (λx => !d x)++(if d l[j]=true then [] else [l[j]]):=by
     rw [BF,hy,Ce]
     congr 1
     cases hd2:d l[j]<;>simp [hd2]
    have hc1:(Head.c l[j]).length=10:=rfl
    have hc2:(Head.c l[j]).take 10=Head.c l[j]:=rfl
    cases hdy:d l[j] with
    | false =>
     rw [hdy] at c2
     simp only [go_sem,j0,j1,dT,fO,g1,g2,fS,fL,hc1,hc2,AE,AF,An]
     repeat' (first|(refine aS (c2) ?_;simp only [go_sem,k0,k1,fO,fL,fW,hwi,hwj,hc1,hc2,AF])|(first|apply cS|apply gS)<;>intro hc<;>simp only [go_sem,hc,j0,j1,k0,k1,dT,fO,g1,g2,fS,fL,fW,hwi,hwj,hc1,hc2,AE,AF,An])
     have k2:i*10+10<=(GE row).length+r.length:=by rw [Jb];omega
     rw [iP k2,aB r FQ]
     refine ⟨(i+1,j+1,row.set i l[j],J++[some (Head.c l[j])],[]),⟨by dsimp only;omega,by dsimp only;omega,by simpa using hrl, ?_, ?_⟩,by dsimp only;omega,rfl,rfl⟩
     ·dsimp only
      rw [hfil,hdy,iN dc,<- htk,P6 row i l[j] FQ]
     ·dsimp only
      rw [List.drop_set_of_lt FQ,<- A8,hdr,A8]
    | true =>
     rw [hdy] at c2
     simp only [go_sem,j0,j1,dT,fO,g1,g2,fS,fL,hc1,hc2,AE,AF,An]
     repeat' (first|(refine aS (c2) ?_;simp only [go_sem,hwj])|(first|apply cS|apply gS)<;>intro hc<;>simp only [go_sem,hc,j0,j1,k0,k1,dT,fO,g1,g2,fS,fL,fW,hwi,hwj,hc1,hc2,AE,AF,An])
     refine ⟨(i,j+1,row,J++[some (Head.c l[j])],[]),⟨by dsimp only;omega,by dsimp only;omega,hrl, ?_, ?_⟩,by dsimp only;omega,rfl,rfl⟩
     ·dsimp only
      rw [hfil,hdy,iP rfl,Ag,htk]
     ·dsimp only
      rw [<- A8,hdr,A8]
   ·have hjl:j=l.length:=FQ
    subst hjl
    simp only [go_sem,AX,dF]
    refine ⟨⟨FQ,FQ,FQ⟩, ?_⟩
    simp only [go_sem,AGF,fO,fW,AF]
    rw [List.take_length] at htk
    have hkl:(l.filter λx => !d x).length=i:=by rw [<- htk,List.length_take];omega
    refine ⟨FQ,by rw [Jb];omega,⟨FQ,FQ,.inl trivial⟩,Ga (AV.agg Head.z.c) (l.length - i)++(GE row++r).drop (i*10+(Ga (AV.agg Head.z.c) (l.length - i)).length),J,by rw [hkl];rfl, ?_⟩
    unfold splice
    rw [Q9 row r i FQ,htk,AE]
def rK{P:Program}{f:FuncId}{vs:List AV}{d:Option Tmp}{K:Kt}{e:Ft}{H:FR}{v:AV}(hc:PK P f vs H v)(hk:K (put d v e) H):qF P f vs d K e H:=⟨v,.inl hc,hk⟩
def iA(l:List Fld)(t:Int)(ot ow ol o:Nat)(H:FR):Prop :=
 H[ot]? =some (some [.int .i64 t])/\H[ow]? =some (some [.ptr o 0])/\(∃ w,H[ol]? =some (some [.sl w (GN l)])) /\
  H[o]? =some (some [.fn (.func 212) [] [.ptr ot 0,.ptr ow 0,.ptr ol 0],.fn (.func 217) [] [.ptr ow 0,.ptr ol 0]])
@[go_sem] def AVo(t:Tmp)(zs:List (Tmp×Option Nat×Bool))(Q:Exit->Kt)(e:Ft)(H:FR):AF0 none t zs Q e H=YE zs Q e H:=Eq.trans rfl rfl
@[go_sem] def AHs(a b c k:Nat):borrow0 (.msl a b c k) = .msl a b c k:=rfl
def FZ.res{P:Program}{f:FuncId}{vs:List AV}{H:FR}{R:AV->FR->Prop}(h:FZ P f vs H R):FZ P f vs H λv H' => ∃ v0,R v0 H'/\v=v0.borrow :=
 ⟨h.1,λF G w us hc=>Calls.mono (h.2 F G w us hc) λe w' he=>by
  obtain ⟨u,rfl,v,H',G',h1,h2,h3⟩:=he
  exact ⟨u,rfl,v.borrow,H',G',⟨v,h1,rfl⟩,h2.borrowArgs,h3⟩⟩
def OY(a b:List Ez)(hl:a.length+b.length<=1048576)(w:Option Nat)(H:FR):FZ AA 221 [.sl w (F3 a),.sl none (F3 b)] H λv H'=>Sl ((Hv a b).map Head.c) v H H'/\v.borrow=v :=
 (FZ.res (FZ.weak (vs:=[.sl w (F3 a),.sl none (F3 b)]) (Vk a b hl H))).mono λv H' h=>by
  obtain ⟨v0,h1,rfl⟩:=h
  refine ⟨?_,T7 v0⟩
  rcases h1 with ⟨e,⟨w,rfl⟩,h⟩|⟨ob,cs,rfl,h⟩
  ·exact .inl ⟨e,⟨none,rfl⟩,h⟩
  ·exact .inr ⟨ob,cs,rfl,h⟩
def Sy(b:Bool)(H:FR):FZ AA 220 [.sl none [],.bool b] H λv H'=>H'=H/\v = .tup [.sl none [],.bool b] :=
 (FZ.res (AAo none b H)).mono λv H' h=>by
  obtain ⟨v0,⟨rfl,w,rfl⟩,rfl⟩:=h
  exact ⟨rfl,rfl⟩
def Sx(o n:Nat)(b:Bool)(H:FR):FZ AA 220 [.msl o 0 n 10,.bool b] H λv H'=>H'=H/\((b=true/\n<=256/\v = .tup [.msl o 0 n 10,.bool true])\/((b=false\/256<n)/\v = .tup [.sl none [],.bool false])) :=
 (FZ.res (AAn o n b H)).mono λv H' h=>by
  obtain ⟨v0,⟨rfl,h⟩,rfl⟩:=h
  rcases h with ⟨h1,h2,rfl⟩|⟨h1,w,rfl⟩
  ·exact ⟨rfl,.inl ⟨h1,h2,rfl⟩⟩
  ·exact ⟨rfl,.inr ⟨h1,rfl⟩⟩
def AIw{f:AV->AV}{c:List AV}{a:AV}(h:c.map f=[a].map f): ∃ x,c=[x]/\f x=f a:=by
 match c,h with
 | [],h=>cases h
 | [x],h=>exact ⟨x,rfl,(List.cons.inj h).1⟩
 | _::_::_,h=>exact absurd (congrArg List.length h) sm
def AdW{f:AV->AV}{c:List AV}{a b:AV}(h:c.map f=[a,b].map f): ∃ x y,c=[x,y]/\f x=f a/\f y=f b:=by
 match c,h with
 | [],h=>cases h
 | [x],h=>exact absurd (congrArg List.length h) sm
 | [x,y],h=>exact ⟨x,y,rfl,(List.cons.inj h).1,(List.cons.inj (List.cons.inj h).2).1⟩
 | _::_::_::_,h=>exact absurd (congrArg List.length h) sm
section
variable {l:List Fld} {t:Int} {ot ow ol o:Nat}
def iA.grow{H:FR}(h:iA l t ot ow ol o H)(z:FR):iA l t ot ow ol o (H++z) :=
 let ⟨h1,h2,⟨w,h3⟩,h4⟩:=h;⟨FY h1 z,FY h2 z,⟨w,FY h3 z⟩,FY h4 z⟩
def Ns{x a:AV}(h:borrow1 x=borrow1 a)(ha : ∀ w es,a ≠ .sl w es):x=a:=by
 cases x<;>cases a<;>first|(exact h)|(exact absurd rfl (ha _ _))|(cases h)
def iA.view{H H2:FR}(hv:Gv H2=Gv H)(h:iA l t ot ow ol o H):iA l t ot ow ol o H2:=by
 obtain ⟨h1,h2,⟨w,h3⟩,h4⟩:=h
 obtain ⟨c1,g1,e1⟩:=KY hv h1
 obtain ⟨c2,g2,e2⟩:=KY hv h2
 obtain ⟨c3,g3,e3⟩:=KY hv h3
 obtain ⟨c4,g4,e4⟩:=KY hv h4
 refine ⟨?_, ?_, ?_, ?_⟩
 ·obtain ⟨x,rfl,hx⟩:=AIw e1
  rw [g1,Ns hx (by intro w es h;cases h)]
 ·obtain ⟨x,rfl,hx⟩:=AIw e2
  rw [g2,Ns hx (by intro w es h;cases h)]
 ·obtain ⟨x,rfl,hx⟩:=AIw e3
  cases x<;>first|(cases hx;done)|skip
  rename_i w' es
  have:es=GN l:=by
   have h5:AV.sl none es=AV.sl none (GN l):=hx
   cases h5;rfl
  subst this
  exact ⟨w',g3⟩
 ·obtain ⟨x,y,rfl,hx,hy⟩:=AdW e4
  rw [g4,Ns hx (by intro w es h;cases h),Ns hy (by intro w es h;cases h)]
end
def gvs(l:List Fld)(t:Int)(ot ow ol o:Nat)(p:E1)(F:Ez->Option (List Ez)):Prop :=
 ∀ h,FX h=true -> ∀ H,iA l t ot ow ol o H->GJ AA 217 [.agg p.c,.agg h.c,.ptr ow 0,.ptr ol 0] H (NU (F h))
def Sl.base{es:List (List AV)}{v:AV}{B e X:FR}(h:Sl es v (B++e) X):Sl es v B X:=by
 rcases h with ⟨h1,h2,ext,rfl⟩|⟨ob,cs,h1,h2,⟨ext,rfl⟩,h4,h5⟩
 ·exact .inl ⟨h1,h2,e++ext,by rw [AE]⟩
 ·exact .inr ⟨ob,cs,h1,by rw [AF] at h2;omega,⟨e++ext,by rw [AE]⟩,h4,h5⟩
def Sl.ext{es:List (List AV)}{v:AV}{B X:FR}(h:Sl es v B X): ∃ ext,X=B++ext:=by
 rcases h with ⟨_,_,h⟩|⟨_,_,_,_,h,_⟩<;>exact h
def AE4(o:Option (List Ez)):NU o = .tup [.sl none (F3 (o.getD [])),.bool o.isSome]:=by cases o<;>rfl
def T5(l:List Ez)(r:List AV):Hy true 10 l.length ((GE l++r).map borrow1)=F3 l:=by
 rw [Ap,Wr]
 have:=Kh (l.map Head.c) (r.map borrow1) 10 Qw
 rw [Aq] at this
 rw [<- Ot]
 exact this
def nY(F:Ez->Option (List Ez))(out:List Ez)(y:Ez)(ys:List Ez)(hs:LM out)(hg : ∀ r,F y=some r->LM r):
  JJ F out (y::ys)=if (F y).isSome=true/\(Hv out ((F y).getD [])).length<=256 then JJ F (Hv out ((F y).getD [])) ys else none:=by
 rw [JJ]
 cases h:F y with
 | none=>rw [iN sm]
 | some a =>
  have e:=PY hs (hg a h)
  simp only [Option.isSome_some,Option.getD_some,true_and,e]
  by_cases hl:256<(Gs out a).length
  ·rw [iP hl,iN FQ]
  ·rw [iN hl,iP FQ]
def Vh(l : List Fld)(t : Int)(ot ow ol o : Nat)(p : E1)(F : Ez -> Option (List Ez))(hF : gvs l t ot ow ol o p F)(hg : ∀ h r, FX h = true -> F h = some r -> I8 r)(xs : List Ez)(hx : ∀ z ∈ xs, FX z = true)(hl : xs.length <= 1048576)(H : FR)(hW : iA l t ot ow ol o H):
    FZ AA 222 [.ptr o 0,.agg p.c,.sl none (F3 xs)] H λv H'=>(JJ F [] xs=none/\(∃ w,v = .tup [.sl w [],.bool false]) /\ ∃ ext,H'=H++ext) \/ ∃ r v0,JJ F [] xs=some r/\v = .tup [v0,.bool true]/\Sl (r.map Head.c) v0 H H' := by
  refine aC ANw rfl ?_
  simp only [f222,go_sem]
  refine Fq xs (λ(s:List Ez×AV×FR×Ft) r=>JJ F s.1 r) (λ_ s=>I8 s.1/\Sl (s.1.map Head.c) s.2.1 (H++[some p.c]) s.2.2.1) (λk s=>(0,.ptr o 0)::(4,.ptr H.length 0)::(8,s.2.1)::(9,.bool true)::(14,.sl none (F3 xs))::(15,.int .i64 xs.length)::(16,.int .i64 k)::s.2.2.2) (λk s=>s.2.2.1) ([],.sl (some 10) [],H++[some p.c],[]) FQ ⟨Lc,.inl ⟨rfl,⟨_,rfl⟩,[],(Ag _).symm⟩⟩ rfl rfl ?_ ?_
  · rintro k ⟨out,ov,X,rest⟩ y ys hd hx' ⟨go,hrow⟩ hI h0 h1 hw
    dsimp only at go hrow hI ⊢
    have hr := hx y (AB hx')
    obtain ⟨ext0,hX0⟩ := hrow.ext
    have hWX:iA l t ot ow ol o X := by rw [hX0,AE];exact hW.grow _
    have hpX:X[H.length]? =some (some p.c) := by
      rw [hX0,AE,AM (AU _),AP];rfl
    have eP : ∀ z,(X++z)[H.length]? =some (some p.c) := FY hpX
    have eW : ∀ z,(X++z)[o]? =some (some [.fn (.func 212) [] [.ptr ot 0,.ptr ow 0,.ptr ol 0],.fn (.func 217) [] [.ptr ow 0,.ptr ol 0]]) := FY hWX.2.2.2
    have hc : ∀ z,PK AA 217 [.agg p.c,.agg y.c,.ptr ow 0,.ptr ol 0] (X++z) (NU (F y)) := λz H2 hv=>hF y hr H2 ((hWX.grow z).view hv)
    rw [AE4] at hc
    have hst := nY F out y ys go.1 (λr h=>(hg y r hr h).1)
    have ga:I8 ((F y).getD []) := by
      cases h:F y with
      | none=>exact Lc
      | some a=>exact hg y a hr h
    generalize hA:(F y).getD []=a at hc hst ga
    generalize hB:(F y).isSome=b at hc hst
    have hml := Oe (out.length+a.length+1) out a
    have hll:out.length+a.length<=1048576 := by have := go.2.1;have := ga.2.1;omega
    rcases hrow with ⟨e0,⟨w,rfl⟩,_⟩|⟨ob,cs,rfl,hob,_,hcs,r,rfl⟩
    · have e0:out=[] := by simpa using e0
      subst e0
      have hX2 : ∃ e2,X++[some y.c]=(H++[some p.c])++e2 := ⟨ext0++[some y.c],by rw [hX0,AE]⟩
      cases w with
      | none =>
        simp only [go_sem,h0,h1,IH hx',eP,eW]
        repeat' (first|(refine rK (hc _) ?_;simp only [go_sem])|(first|apply cS|apply gS)<;>intro hc<;>simp only [go_sem,hc,h0,h1,hw,IH hx',eP,eW])
        refine Fr.intro (OY [] a hll _ _) λv X3 hr3=>?_
        obtain ⟨e2,hX2⟩ := hX2
        obtain ⟨hr3,hbw⟩ := hr3
        rw [hX2] at hr3
        have hrb := hr3.base
        have hex := hrb.ext
        have hgm:b=true->(Hv ([]:List Ez) a).length<=256->I8 (Hv ([]:List Ez) a) := λ_ hle=>by
          have e := PY go.1 ga.1
          rw [e] at hle ⊢
          exact Im go ga.2.2 FQ
        rcases hr3 with ⟨e3,⟨w3,rfl⟩,_⟩|⟨ob3,cs3,rfl,hob3,_,hcs3,r3,rfl⟩
        · have hw3:w3=none := by cases w3 with
            | none=>rfl
            | some w3=>cases hbw
          subst hw3
          simp only [go_sem]
          refine Fr.intro (Sy b _) λv4 X4 hr4=>?_
          obtain ⟨rfl,rfl⟩ := hr4
          have e3 := DS.1 e3
          have hle3:(Hv ([]:List Ez) a).length<=256 := by rw [e3];simp
          cases b with
          | true =>
            rw [iP ⟨rfl,hle3⟩] at hst
            simp only [go_sem,hw]
            exact ⟨(Hv ([]:List Ez) a,_,_,[]),hst,⟨hgm rfl hle3,hrb⟩,rfl,rfl⟩
          | false =>
            rw [iN sm] at hst
            simp only [go_sem]
            exact .inl ⟨hI.trans hst,⟨_,rfl⟩,by obtain ⟨ext,he⟩ := hex;exact ⟨_,by rw [he,AE]⟩⟩
        · simp only [go_sem,Aq]
          refine Fr.intro (Sx ob3 _ b _) λv4 X4 hr4=>?_
          obtain ⟨rfl,hr4⟩ := hr4
          rw [Aq] at hrb
          rcases hr4 with ⟨rfl,hle,rfl⟩|⟨hno,rfl⟩
          · rw [iP ⟨rfl,hle⟩] at hst
            simp only [go_sem,hw]
            exact ⟨(Hv ([]:List Ez) a,_,_,[]),hst,⟨hgm rfl hle,hrb⟩,rfl,rfl⟩
          · rw [iN (by rintro ⟨g1, g2⟩; rcases hno with hno|hno;(rw [g1] at hno;cases hno);omega)] at hst
            simp only [go_sem]
            exact .inl ⟨hI.trans hst,⟨_,rfl⟩,by obtain ⟨ext,he⟩ := hex;exact ⟨_,by rw [he,AE]⟩⟩
      | some w =>
        simp only [go_sem,h0,h1,IH hx',eP,eW]
        repeat' (first|(refine rK (hc _) ?_;simp only [go_sem])|(first|apply cS|apply gS)<;>intro hc<;>simp only [go_sem,hc,h0,h1,hw,IH hx',eP,eW])
        refine Fr.intro (OY [] a hll (some w) _) λv X3 hr3=>?_
        obtain ⟨e2,hX2⟩ := hX2
        obtain ⟨hr3,hbw⟩ := hr3
        rw [hX2] at hr3
        have hrb := hr3.base
        have hex := hrb.ext
        have hgm:b=true->(Hv ([]:List Ez) a).length<=256->I8 (Hv ([]:List Ez) a) := λ_ hle=>by
          have e := PY go.1 ga.1
          rw [e] at hle ⊢
          exact Im go ga.2.2 FQ
        rcases hr3 with ⟨e3,⟨w3,rfl⟩,_⟩|⟨ob3,cs3,rfl,hob3,_,hcs3,r3,rfl⟩
        · have hw3:w3=none := by cases w3 with
            | none=>rfl
            | some w3=>cases hbw
          subst hw3
          simp only [go_sem]
          refine Fr.intro (Sy b _) λv4 X4 hr4=>?_
          obtain ⟨rfl,rfl⟩ := hr4
          have e3 := DS.1 e3
          have hle3:(Hv ([]:List Ez) a).length<=256 := by rw [e3];simp
          cases b with
          | true =>
            rw [iP ⟨rfl,hle3⟩] at hst
            simp only [go_sem,hw]
            exact ⟨(Hv ([]:List Ez) a,_,_,[]),hst,⟨hgm rfl hle3,hrb⟩,rfl,rfl⟩
          | false =>
            rw [iN sm] at hst
            simp only [go_sem]
            exact .inl ⟨hI.trans hst,⟨_,rfl⟩,by obtain ⟨ext,he⟩ := hex;exact ⟨_,by rw [he,AE]⟩⟩
        · simp only [go_sem,Aq]
          refine Fr.intro (Sx ob3 _ b _) λv4 X4 hr4=>?_
          obtain ⟨rfl,hr4⟩ := hr4
          rw [Aq] at hrb
          rcases hr4 with ⟨rfl,hle,rfl⟩|⟨hno,rfl⟩
          · rw [iP ⟨rfl,hle⟩] at hst
            simp only [go_sem,hw]
            exact ⟨(Hv ([]:List Ez) a,_,_,[]),hst,⟨hgm rfl hle,hrb⟩,rfl,rfl⟩
          · rw [iN (by rintro ⟨g1, g2⟩; rcases hno with hno|hno;(rw [g1] at hno;cases hno);omega)] at hst
            simp only [go_sem]
            exact .inl ⟨hI.trans hst,⟨_,rfl⟩,by obtain ⟨ext,he⟩ := hex;exact ⟨_,by rw [he,AE]⟩⟩
    · have hcs' : ∀ z,(X++z)[ob]? =some (some (GE out++r)) := FY hcs
      have hle:(GE out++r).length≥out.length*10 := by rw [AF,Jb];omega
      have hle2:out.length*10<=(GE out++r).length := hle
      have hch := T5 out r
      have hX2 : ∃ e2,(X++[some y.c]).set ob none=(H++[some p.c])++e2 := by
        rw [hX0,AE,bJ hob]
        exact ⟨_,rfl⟩
      simp only [go_sem,h0,h1,IH hx',eP,eW,Aq]
      repeat' (first|(refine rK (hc _) ?_;simp only [go_sem,hcs',hle2,hch])|(first|apply cS|apply gS)<;>intro hc<;>simp only [go_sem,hc,h0,h1,hw,IH hx',eP,eW,Aq,hcs',hle2,hch])
      refine Fr.intro (OY out a hll _ _) λv X3 hr3=>?_
      obtain ⟨e2,hX2⟩ := hX2
      obtain ⟨hr3,hbw⟩ := hr3
      rw [hX2] at hr3
      have hrb := hr3.base
      have hex := hrb.ext
      have hgm:b=true->(Hv out a).length<=256->I8 (Hv out a) := λ_ hle=>by
        have e := PY go.1 ga.1
        rw [e] at hle ⊢
        exact Im go ga.2.2 FQ
      rcases hr3 with ⟨e3,⟨w3,rfl⟩,_⟩|⟨ob3,cs3,rfl,hob3,_,hcs3,r3,rfl⟩
      · have hw3:w3=none := by cases w3 with
          | none=>rfl
          | some w3=>cases hbw
        subst hw3
        simp only [go_sem]
        refine Fr.intro (Sy b _) λv4 X4 hr4=>?_
        obtain ⟨rfl,rfl⟩ := hr4
        have e3 := DS.1 e3
        have hle3:(Hv out a).length<=256 := by rw [e3];simp
        cases b with
        | true =>
          rw [iP ⟨rfl,hle3⟩] at hst
          simp only [go_sem,hw]
          exact ⟨(Hv out a,_,_,[]),hst,⟨hgm rfl hle3,hrb⟩,rfl,rfl⟩
        | false =>
          rw [iN sm] at hst
          simp only [go_sem]
          exact .inl ⟨hI.trans hst,⟨_,rfl⟩,by obtain ⟨ext,he⟩ := hex;exact ⟨_,by rw [he,AE]⟩⟩
      · simp only [go_sem,Aq]
        refine Fr.intro (Sx ob3 _ b _) λv4 X4 hr4=>?_
        obtain ⟨rfl,hr4⟩ := hr4
        rw [Aq] at hrb
        rcases hr4 with ⟨rfl,hle,rfl⟩|⟨hno,rfl⟩
        · rw [iP ⟨rfl,hle⟩] at hst
          simp only [go_sem,hw]
          exact ⟨(Hv out a,_,_,[]),hst,⟨hgm rfl hle,hrb⟩,rfl,rfl⟩
        · rw [iN (by rintro ⟨g1, g2⟩; rcases hno with hno|hno;(rw [g1] at hno;cases hno);omega)] at hst
          simp only [go_sem]
          exact .inl ⟨hI.trans hst,⟨_,rfl⟩,by obtain ⟨ext,he⟩ := hex;exact ⟨_,by rw [he,AE]⟩⟩
  · rintro ⟨out,ov,X,rest⟩ ⟨go,hrow⟩ hI
    dsimp only at go hrow hI ⊢
    have hfin:Sl (out.map Head.c) ov H X := hrow.base
    rcases hrow with ⟨e0,⟨w,rfl⟩,_⟩|⟨ob,cs,rfl,hob,_,hcs,r,rfl⟩
    · cases w with
      | none =>
        simp only [go_sem,AX,dF]
        exact .inr ⟨out,_,by rw [hI];rfl,rfl,hfin⟩
      | some w =>
        simp only [go_sem,AX,dF]
        exact .inr ⟨out,_,by rw [hI];rfl,rfl,hfin⟩
    · simp only [go_sem,AX,dF]
      exact .inr ⟨out,_,by rw [hI];rfl,rfl,hfin⟩
end Go.AI
namespace Go.AI
open Go.Proofs
set_option maxRecDepth 50000
def fA(l:List Fld)(t:Int)(ot ow ol o:Nat)(p:E1)(F:Ez->Option (List Ez))(hF:gvs l t ot ow ol o p F)(hg : ∀ h r,FX h=true->F h=some r->I8 r)(xs:List Ez)(hx : ∀ z∈xs,FX z=true)(hl:xs.length<=1048576)(H:FR)(hW:iA l t ot ow ol o H):
  FZ AA 222 [.ptr o 0,.agg p.c,.sl none (F3 xs)] H λv H'=>(JJ F [] xs=none/\v = .tup [.sl none [],.bool false] /\ ∃ ext,H'=H++ext) \/ ∃ r v0,JJ F [] xs=some r/\v = .tup [v0,.bool true]/\Sl (r.map Head.c) v0 H H'/\v0.borrow=v0 :=
 (FZ.res (Vh l t ot ow ol o p F hF hg xs hx hl H hW)).mono λv H' h=>by
  obtain ⟨v1,h1,rfl⟩:=h
  rcases h1 with ⟨h1,⟨w,rfl⟩,h2⟩|⟨r,v0,h1,rfl,h2⟩
  ·exact .inl ⟨h1,rfl,h2⟩
  ·rcases h2 with ⟨e,⟨w,rfl⟩,h⟩|⟨ob,cs,rfl,h⟩
   ·exact .inr ⟨r,.sl none [],h1,rfl,.inl ⟨e,⟨none,rfl⟩,h⟩,rfl⟩
   ·exact .inr ⟨r,_,h1,rfl,.inr ⟨ob,cs,rfl,h⟩,rfl⟩
def AFJ(l:List Fld)(t:Int)(ot ow ol o:Nat)(p:E1)(F:Ez->Option (List Ez))(hF:gvs l t ot ow ol o p F)(hg : ∀ h r,FX h=true->F h=some r->I8 r)(xs:List Ez)(hx : ∀ z∈xs,FX z=true)(hl:xs.length<=1048576)(H:FR)(hW:iA l t ot ow ol o H):
  GJ AA 222 [.ptr o 0,.agg p.c,.sl none (F3 xs)] H (NU (JJ F [] xs)):=by
 have h:=Vh l t ot ow ol o p F hF hg xs hx hl H hW
 cases e:JJ F [] xs with
 | none =>
  have:=Xd (es:=[]) (b:=false) sm sm  sm (h.mono λv H' hr=>by
   rcases hr with ⟨_,⟨w,rfl⟩,he⟩|⟨r,v0,h1,_⟩
   ·exact ⟨_,rfl,.inl ⟨rfl,⟨w,rfl⟩,he⟩⟩
   ·rw [e] at h1;cases h1)
  exact this
 | some r =>
  have:=Xd (es:=r.map Head.c) (b:=true) Qw Nk iH (h.mono λv H' hr=>by
   rcases hr with ⟨h1,_⟩|⟨r',v0,h1,rfl,h2⟩
   ·rw [e] at h1;cases h1
   ·rw [e] at h1;cases h1
    exact ⟨v0,rfl,h2⟩)
  rw [Ot] at this
  exact this
def QA(H:FR)(f:Nat)(first cap:List AV):FZ AA 281 [.sl none [],.fn (.func f) first cap] H λv H'=>H'=H/\v = .sl none [] :=
 (FZ.res (aQ none H f first cap)).mono λv H' h=>by
  obtain ⟨v0,⟨rfl,w,rfl⟩,rfl⟩:=h
  exact ⟨rfl,rfl⟩
def oN(F:Ez->Option (List Ez)):Nat->List Ez->List Ez->Nat->Nat
 | 0,_,_,j=>j
 | k+1,o,n,j=>match JJ F [] n with
  | none=>0
  | some m=>if IU o m=[] then j else oN F k (Gs o (IU o m)) (IU o m) (j+1)
def AE3:Option (List Ez)->Nat->AV
 | some r,n => .tup [.sl none (F3 r),.int .i64 n,.bool true]
 | none,_ => .tup [.sl none [],.int .i64 0,.bool false]
def ABQ{o n:List Ez}(h:LM n):LM (IU o n):=List.Pairwise.filter _ h
def WZ{H Y:FR}(h : ∃ e,Y=H++e)(i:Nat)(hi:H.length<=i)(c:Option (List AV)): ∃ e,Y.set i c=H++e:=by
 obtain ⟨e,rfl⟩:=h
 exact ⟨_,BR _ _ hi⟩
def AFE(l : List Fld)(t : Int)(ot ow ol o : Nat)(p : E1)(F : Ez -> Option (List Ez))(hF : gvs l t ot ow ol o p F)(hg : ∀ h r, FX h = true -> F h = some r -> I8 r)(h : Ez)(hr : FX h = true)(H : FR)(hW : iA l t ot ow ol o H):
    FZ AA 223 [.ptr o 0,.agg p.c,.agg h.c] H λv H'=>v.borrow=AE3 (K6 F 300 [h] [h]) (oN F 300 [h] [h] 0) /\ ∃ ext,H'=H++ext := by
  refine aC ANq rfl ?_
  have q0 : ∀ (a b c:Option (List AV)) z,(H++(a::b::c::z))[H.length]? =some a := λa b c z=>by rw [AM (AU _),AP];rfl
  have q1 : ∀ (a b c:Option (List AV)) z,(H++(a::b::c::z))[H.length+1]? =some b := λa b c z=>by rw [AM FQ,A1];rfl
  have q2 : ∀ (a b c:Option (List AV)) z,(H++(a::b::c::z))[H.length+2]? =some c := λa b c z=>by rw [AM FQ,A1];rfl
  have q3 : ∀ (a b:Option (List AV)),(H++[a,b])[H.length+1]? =some b := λa b=>by rw [AM FQ,A1];rfl
  have q4 : ∀ (a b c d:Option (List AV)),(H++[a,b,c]).set (H.length+2) d=H++[a,b,d] := λa b c d=>by rw [BR _ _ FQ,A1];rfl
  simp only [f223,go_sem,q2,q3,q4,AF,AE,AS,AO,AD,AH,Nat.reduceAdd]
  refine Km (σ := Nat×List Ez×List Ez×FR×Ft) (λs=>(0,.ptr o 0)::(4,.ptr H.length 0)::(9,.ptr (H.length+2) 0)::(10,.int .i64 s.1)::(11,.sl none (F3 s.2.2.1))::s.2.2.2.2) (λs=>s.2.2.2.1)
    (λs=>I8 s.2.1/\(∀ z∈s.2.2.1,FX z=true)/\s.2.2.1.length<=256/\s.2.2.1≠[]/\s.1+1<=s.2.1.length/\H.length+3<=s.2.2.2.1.length/\(∃ ext,s.2.2.2.1=H++ext)/\s.2.2.2.1[H.length]? =some (some p.c)/\(∃ w,s.2.2.2.1[H.length+2]? =some (some [.sl w (F3 s.2.1)])) /\
      K6 F 300 [h] [h]=K6 F (300 - s.1) s.2.1 s.2.2.1/\oN F 300 [h] [h] 0=oN F (300 - s.1) s.2.1 s.2.2.1 s.1)
    (λs=>300 - s.1) (0,[h],[h],_,[]) ⟨Ph hr,by simpa using hr,by simp,by simp,by simp,by simp,⟨_,rfl⟩,q0 _ _ _ _,⟨_,q2 _ _ _ _⟩,rfl,rfl⟩ rfl rfl ?_
  rintro ⟨j,all,last,X,rest⟩ ⟨go,gl,hll,hne,hj,hX3,⟨ext,hXe⟩,hp0,⟨w,hc0⟩,hG,hJ⟩
  dsimp only at go gl hll hne hj hX3 hXe hp0 hc0 hG hJ ⊢
  generalize K6 F 300 [h] [h]=R at hG ⊢
  generalize oN F 300 [h] [h] 0=N at hJ ⊢
  have hal := go.2.1
  obtain ⟨k,hk⟩ : ∃ k,300 - j=k+1 := ⟨299 - j,by omega⟩
  have e300:300 - (j+1)=k := by omega
  rw [hk,K6,iN hne] at hG
  rw [hk,oN] at hJ
  have hWX:iA l t ot ow ol o X := by rw [hXe];exact hW.grow _
  have c1 := fA l t ot ow ol o p F hF hg last gl FQ X hWX
  simp only [go_sem,hp0]
  refine Fr.intro c1 λv X1 hr1=>?_
  rcases hr1 with ⟨hn,rfl,ext1,rfl⟩|⟨m,v0,hm,rfl,hrow,hbw⟩
  · rw [hn] at hG hJ
    have hc1 : ∀ z,(X++z)[H.length+2]? =some (some [.sl w (F3 all)]) := FY hc0
    have s1 : ∀ z c,(X++z).set (H.length+2) c=X.set (H.length+2) c++z := λz c=>BO _ _ FQ
    have c3 := NX all [] (by simp;omega) (X++ext1)
    have c4 := Lk (Hv all []) false
    rw [iN dc,show NU none = .tup [.sl none [],.bool false] from rfl] at c4
    have hfe := WZ (H := H) (Y := X++ext1) ⟨ext++ext1,by rw [hXe,AE]⟩ (H.length+2) FQ
    simp only [go_sem]
    refine Fr.intro (QA _ _ _ _) λv X2 hr2=>?_
    obtain ⟨rfl,rfl⟩ := hr2
    simp only [go_sem,hc1]
    repeat' (first|((first|refine aS (c3) ?_|refine aP (c4) ?_);simp only [go_sem,hc1])|(first|apply cS|apply gS)<;>intro hc<;>simp only [go_sem,hc,hc1])
    exact ⟨by rw [hG];rfl,hfe _⟩
  · have gm := Pi hg last [] m Lc gl hm
    rw [hm] at hG hJ
    dsimp only at hG hJ
    obtain ⟨ext1,hX1⟩ := hrow.ext
    have hc1:X1[H.length+2]? =some (some [.sl w (F3 all)]) := by rw [hX1];exact FY hc0 _
    have hp1:X1[H.length]? =some (some p.c) := by rw [hX1];exact FY hp0 _
    rcases hrow with ⟨e0,⟨w3,rfl⟩,_⟩|⟨ob,cs,rfl,hob,_,hcs,r,rfl⟩
    · have hw3:w3=none := by cases w3 with
        | none=>rfl
        | some w3=>cases hbw
      subst hw3
      have e0:m=[] := DS.1 e0
      subst e0
      have hn0:IU all []=[] := rfl
      rw [hn0] at hG hJ
      rw [iP rfl] at hJ
      have hme:Gs all []=all := rfl
      rw [hme,iN FQ] at hG
      have hG2:R=some all := by
        rw [hG]
        obtain ⟨k',rfl⟩ : ∃ k',k=k'+1 := ⟨k - 1,by omega⟩
        rw [K6,iP rfl]
      have hfe := WZ (H := H) (Y := X1) ⟨ext++ext1,by rw [hX1,hXe,AE]⟩ (H.length+2) FQ
      have hl1:H.length+2<X1.length := (AC.1 hc1).1
      have fG : ∀ c,(X1.set (H.length+2) c)[H.length+2]? =some c := λc=>IW hl1 c
      simp only [go_sem]
      refine Fr.intro (QA _ _ _ _) λv X2 hr2=>?_
      obtain ⟨rfl,rfl⟩ := hr2
      have c3 := NX all [] (by simp;omega) X2
      have c4 := Lk (Hv all []) true
      rw [mw] at c3 c4
      rw [iP rfl,Wx,iN FQ,show NU (some all) = .tup [.sl none (F3 all),.bool true] from rfl] at c4
      have z2:(((0:Nat):Int)==(0:Int))=true := rfl
      simp only [go_sem,hc1]
      repeat' (first|((first|refine aS (c3) ?_|refine aP (c4) ?_);simp only [go_sem,hc1,fG,z2])|(first|apply cS|apply gS)<;>intro hc<;>simp only [go_sem,hc,hc1,fG,z2])
      all_goals first|(exact ⟨by rw [hG2,hJ];rfl,hfe _⟩)|skip
    · have hcs':X1[ob]? =some (some (GE m++r)) := hcs
      have hnob:ob≠H.length+2 := by omega
      have hd : ∀ x∈m,∀ c J,GJ AA 282 (([]:List AV).map AV.borrow++(.agg (Head.c x)::([.ptr (H.length+2) 0]:List AV).map AV.borrow)) (X1.set ob (some c)++J) (.bool (all.any λy=>decide (y=x))) := λx _ c J =>
        AFF all go.1 FQ x _ (H.length+2) w (FY (GA hc1 hnob _) J)
      have c2 := tC m (by have := gm.2.1;omega) r X1 ob hcs' 282 [] [.ptr (H.length+2) 0] (λx=>all.any λy=>decide (y=x)) hd
      simp only [go_sem,Aq]
      refine Fr.intro c2 λv X2 hr2=>?_
      obtain ⟨r',J,rfl,rfl⟩ := hr2
      have hkept:(m.filter λx => !(all.any λy=>decide (y=x)))=IU all m := rfl
      rw [hkept]
      have hob1:ob<X1.length := (AC.1 hcs').1
      have hg1:(X1.set ob (some (GE (IU all m)++r'))++J)[ob]? =some (some (GE (IU all m)++r')) := FY (IW hob1 _) J
      have hg2:(IU all m).length*10<=(GE (IU all m)++r').length := by rw [AF,Jb];omega
      have hg3 := T5 (IU all m) r'
      have hg4:(X1.set ob (some (GE (IU all m)++r'))++J).set ob none=X1.set ob none++J := by rw [BO _ _ (by simpa using hob1),BE]
      have gn:LM (IU all m) := ABQ gm.1
      have hgnew : ∀ z∈IU all m,FX z=true := λz hz=>gm.2.2 z (Vs.1 hz).1
      have hnl:(IU all m).length<=m.length := ABR all m
      have hml := gm.2.1
      have hY2:(X1.set ob none++J)[H.length+2]? =some (some [.sl w (F3 all)]) := FY (GA hc1 hnob _) J
      have hY0:(X1.set ob none++J)[H.length]? =some (some p.c) := FY (GA hp1 FQ _) J
      have hYe : ∃ e,X1.set ob none++J=H++e := by
        rw [hX1, hXe, AE, bJ (by (have : X.length = H.length + ext.length := by rw [hXe, AF]);omega),AE]
        exact ⟨_,rfl⟩
      have c3 := NX all (IU all m) FQ (X1.set ob none++J)
      have c4 := Lk (Hv all (IU all m)) true
      rw [PY go.1 gn] at c3 c4
      generalize hY:X1.set ob none++J=Y at hg4 hY2 hY0 hYe c3
      have hYl:H.length+2<Y.length := (AC.1 hY2).1
      have hfe := WZ (H := H) (Y := Y) hYe (H.length+2) FQ
      have fG : ∀ c,(Y.set (H.length+2) c)[H.length+2]? =some c := λc=>IW hYl c
      by_cases hbig:256<(Gs all (IU all m)).length
      · rw [iP hbig] at hG
        rw [iP rfl,Wx,iP hbig,show NU none = .tup [.sl none [],.bool false] from rfl] at c4
        simp only [go_sem,hg1,hg2,hg3,hg4,hY2]
        repeat' (first|((first|refine aS (c3) ?_|refine aP (c4) ?_);simp only [go_sem,hY2])|(first|apply cS|apply gS)<;>intro hc<;>simp only [go_sem,hc,hY2,fG])
        all_goals first|(exact ⟨by rw [hG];rfl,hfe _⟩)|skip
      · rw [iN hbig] at hG
        rw [iP rfl,Wx,iN hbig,show ∀ r,NU (some r) = .tup [.sl none (F3 r),.bool true] from λ_=>rfl] at c4
        by_cases hn0:IU all m=[]
        · have hme:Gs all (IU all m)=all := by rw [hn0];rfl
          rw [iP hn0] at hJ
          have hG2:R=some (Gs all (IU all m)) := by
            rw [hG,hn0]
            obtain ⟨k',rfl⟩ : ∃ k',k=k'+1 := ⟨k - 1,by omega⟩
            rw [K6,iP rfl]
          have z1:(((IU all m).length:Int)==0)=true := by rw [hn0];rfl
          simp only [go_sem,hg1,hg2,hg3,hg4,hY2]
          repeat' (first|((first|refine aS (c3) ?_|refine aP (c4) ?_);simp only [go_sem,hY2,fG,z1])|(first|apply cS|apply gS)<;>intro hc<;>simp only [go_sem,hc,hY2,fG,z1])
          all_goals first|(exact ⟨by rw [hG2,hJ];rfl,hfe _⟩)|skip
        · rw [iN hn0] at hJ
          have hpos:0<(IU all m).length := List.length_pos_iff.2 hn0
          have hmn := tZ hn0
          have z1:(((IU all m).length:Int)==0)=false := by rw [beq_eq_false_iff_ne];omega
          have hwj := Mj (k := j) FQ
          simp only [go_sem,hg1,hg2,hg3,hg4,hY2]
          repeat' (first|((first|refine aS (c3) ?_|refine aP (c4) ?_);simp only [go_sem,hY2,z1,hwj])|(first|apply cS|apply gS)<;>intro hc<;>simp only [go_sem,hc,hY2,fG,z1,hwj])
          refine ⟨(j+1,Gs all (IU all m),IU all m,_,[]),⟨Im go hgnew hbig,hgnew,by dsimp only;omega,hn0,by dsimp only;omega,by simp;omega,hfe _,GA hY0 FQ _,⟨none,fG _⟩,by dsimp only;rw [e300];exact hG,by dsimp only;rw [e300];exact hJ⟩,by dsimp only;omega,rfl,rfl⟩
def AIg(l:List Fld)(t:Int)(ot ow ol o:Nat)(p:E1)(F:Ez->Option (List Ez))(hF:gvs l t ot ow ol o p F)(hg : ∀ h r,FX h=true->F h=some r->I8 r)(h:Ez)(hr:FX h=true)(H:FR)(hW:iA l t ot ow ol o H):
  GJ AA 223 [.ptr o 0,.agg p.c,.agg h.c] H (AE3 (K6 F 300 [h] [h]) (oN F 300 [h] [h] 0)):=by
 refine FZ.drop ?_ ((FZ.res (AFE l t ot ow ol o p F hF hg h hr H hW)).mono λv H' hx=>?_)
 ·cases K6 F 300 [h] [h] with
  | none=>rfl
  | some r =>
   show Fl _ _=true
   simp only [Fl,AV.bnd,Bh]
   have:=NS (n:=H.length) (es:=r.map Head.c) Nk
   rw [Ot] at this
   simpa [AV.bnd] using this
 ·obtain ⟨v0,⟨h1,h2⟩,rfl⟩:=hx
  exact ⟨h1,h2⟩
def qj:FX Head.z=true:=dc
def Sm{f:Fld}(hf:HB f){n m:Nat}(hn:n<2^fW f):FX (Ve f n m).mask=true/\FX (Ve f n m).bits=true :=
 ⟨NT hf (gD _ _) qj,NT hf (Nat.lt_of_le_of_lt Nat.and_le_left hn) qj⟩
def q_0(H:FR)(a:Option (List AV))(z:FR):(H++(a::z))[H.length]? =some a:=by rw [AM (AU _),AP];rfl
def q_1(H:FR)(a b:Option (List AV))(z:FR):(H++(a::b::z))[H.length+1]? =some b:=by rw [AM FQ,A1];rfl
def q_2(H:FR)(a b c:Option (List AV))(z:FR):(H++(a::b::c::z))[H.length+2]? =some c:=by rw [AM FQ,A1];rfl
def AWO(H:FR)(a b c d:Option (List AV)):(H++[a,b,c]).set (H.length+2) d=H++[a,b,d]:=by rw [BR _ _ FQ,A1];rfl
def e8(l:List Fld)(hl:I0 l)(hln:l.length<=9223372036854775807)(t:Int)(ot ow ol o:Nat): ∀ x:Pred,IM l x -> ∀ h,FX h=true -> ∀ H,iA l t ot ow ol o H->GJ AA 212 [.agg x.c,.agg h.c,.ptr ot 0,.ptr ow 0,.ptr ol 0] H (.bool (hP l t x h)) := by
  refine JM _ λx ih=>λhx h hr H hW=>?_
  have hc : ∀ a,a∈x.args->IM l a -> ∀ z,PK AA 212 [.agg a.c,.agg h.c,.ptr ot 0,.ptr ow 0,.ptr ol 0] (H++z) (.bool (hP l t a h)) := λa ha ga z H2 hv=>ih a ha ga h hr H2 ((hW.grow z).view hv)
  obtain ⟨w1,w2,⟨w,w3⟩,w4⟩ := hW
  have eT := FY w1
  have eO := FY w2
  have eL := FY w3
  have eF := FY w4
  have q0 := q_0 H
  have q1 := q_1 H
  have q2 := q_2 H
  have s2 := AWO H
  rw [AW1]
  refine FZ.drop rfl ?_
  rcases nu hl hx with k|k|k|⟨k,a,ha,ga⟩|⟨k,a,b,ha,ga,gb⟩|⟨k,hf,hfo,hn,hn2⟩|⟨k,⟨hf,hfo,hn,hn2⟩,hm,hm2⟩|⟨k,hf,hfo,hn,hnm,hm2⟩
  · refine aC Nl rfl ?_
    simp only [f212,go_sem,q0,AF,AE,AS,AO,AD,AH,Nat.reduceAdd,k,Int.reduceBEq]
    repeat' (first|(first|apply cS|apply gS)<;>intro hc<;>simp only [go_sem,hc,Int.reduceBEq,k,eT,eO,eL,eF,q0,q1,q2,s2,AF,AE,AS,AO,AD,AH,Ax,Nat.reduceAdd])
    all_goals first|rfl|skip
  · refine aC Nl rfl ?_
    simp only [f212,go_sem,q0,AF,AE,AS,AO,AD,AH,Nat.reduceAdd,k,Int.reduceBEq]
    repeat' (first|(first|apply cS|apply gS)<;>intro hc<;>simp only [go_sem,hc,Int.reduceBEq,k,eT,eO,eL,eF,q0,q1,q2,s2,AF,AE,AS,AO,AD,AH,Ax,Nat.reduceAdd])
    all_goals first|rfl|skip
  · refine aC Nl rfl ?_
    simp only [f212,go_sem,eT,q0,AF,AE,AS,AO,AD,AH,Nat.reduceAdd,k,Int.reduceBEq]
    repeat' (first|(first|apply cS|apply gS)<;>intro hc<;>simp only [go_sem,hc,eT,q0])
    all_goals first
      | (show AV.bool _ = AV.bool (decide (x.n <= t) && decide (t < x.m))
         rw [hc];rfl)
      | skip
  · have c1 := hc a (by rw [ha];simp) ga
    have e1:Q4 (nc l t x.args) 0 h=hP l t a h := nb l t (by rw [ha];rfl) h
    have g1:(0:Int)<(x.args.length:Int) := by rw [ha];simp
    have g2 := GL (l := x.args) (i := 0) (x := a) (by rw [ha];rfl)
    refine aC Nl rfl ?_
    simp only [f212,go_sem,eO,eF,q0,q1,AF,AE,AS,AO,AD,AH,Nat.reduceAdd,k,Int.reduceBEq,g2]
    repeat' (first|(refine rK (c1 _) ?_;simp only [go_sem])|(first|apply cS|apply gS)<;>intro hc<;>simp only [go_sem,hc,Int.reduceBEq,k,eT,eO,eL,eF,q0,q1,q2,s2,AF,AE,AS,AO,AD,AH,Ax,Nat.reduceAdd,g1,g2])
    all_goals first
      | (show _ = AV.bool (!Q4 (nc l t x.args) 0 h)
         rw [e1])
      | skip
  · have c1 := hc a (by rw [ha];simp) ga
    have c2 := hc b (by rw [ha];simp) gb
    have e1:Q4 (nc l t x.args) 0 h=hP l t a h := nb l t (by rw [ha];rfl) h
    have e2:Q4 (nc l t x.args) 1 h=hP l t b h := nb l t (by rw [ha];rfl) h
    have g1:(0:Int)<(x.args.length:Int) := by rw [ha];simp
    have g2 := GL (l := x.args) (i := 0) (x := a) (by rw [ha];rfl)
    have g3:(1:Int)<(x.args.length:Int) := by rw [ha];simp
    have g4 := GL (l := x.args) (i := 1) (x := b) (by rw [ha];rfl)
    rcases k with k|k
    · refine aC Nl rfl ?_
      simp only [f212,go_sem,eO,eF,q0,q1,AF,AE,AS,AO,AD,AH,Nat.reduceAdd,k,Int.reduceBEq,g2]
      repeat' (first|((first|refine rK (c1 _) ?_|refine rK (c2 _) ?_);simp only [go_sem,Int.reduceBEq,k,q0])|(first|apply cS|apply gS)<;>intro hc<;>simp only [go_sem,hc,Int.reduceBEq,k,eO,eF,q0,q1,AS,AO,g4])
      all_goals first
        | (show _ = AV.bool (Q4 (nc l t x.args) 0 h && Q4 (nc l t x.args) 1 h)
           rw [e1,e2]
           revert hc
           cases hP l t a h<;>simp)
        | skip
    · refine aC Nl rfl ?_
      simp only [f212,go_sem,eO,eF,q0,q1,AF,AE,AS,AO,AD,AH,Nat.reduceAdd,k,Int.reduceBEq,g2]
      repeat' (first|((first|refine rK (c1 _) ?_|refine rK (c2 _) ?_);simp only [go_sem,Int.reduceBEq,k,q0])|(first|apply cS|apply gS)<;>intro hc<;>simp only [go_sem,hc,Int.reduceBEq,k,eO,eF,q0,q1,AS,AO,g4])
      all_goals first
        | (show _ = AV.bool (Q4 (nc l t x.args) 0 h || Q4 (nc l t x.args) 1 h)
           rw [e1,e2]
           revert hc
           cases hP l t a h<;>simp)
        | skip
  · have c1 := Qd l hln x.field
    have c2 := qy _ hfo x.n.toNat hn2
    have hrp := Sm hfo (m := fW (Fc l x.field).1) hn2
    have c3 := qx _ hrp.1 hrp.2 h hr
    rw [ZJ hfo hn2 (AU _) h] at c3
    rw [Cy hn] at c2
    refine aC Nl rfl ?_
    simp only [f212,go_sem,eL,q0,AF,AE,AS,AO,AD,AH,Nat.reduceAdd,k,Int.reduceBEq]
    repeat' (first|((first|refine pK (c1) ?_|refine pK (c2) ?_|refine pK (c3) ?_);simp only [go_sem,Int.reduceBEq,k,q0,q1,q2,s2,AF,AE,AS,AO,AD,AH,Nat.reduceAdd])|(first|apply cS|apply gS)<;>intro hc<;>simp only [go_sem,hc,Int.reduceBEq,k,eT,eO,eL,eF,q0,q1,q2,s2,AF,AE,AS,AO,AD,AH,Ax,Nat.reduceAdd])
    all_goals first
      | (show AV.bool _ = AV.bool (decide ((Nm (Fc l x.field).1 h : Int) = x.n))
         congr 1
         rw [AP,Nat.pow_zero,EQ,EQ,BB,decide_eq_true_eq,decide_eq_true_eq]
         omega)
      | skip
  · have hm':0<=x.m := hm
    have hm3:x.m.toNat<=fW (Fc l x.field).1 := hm2
    have c1 := Qd l hln x.field
    have c2 := fD _ hfo x.n.toNat x.m.toNat hn2 hm3
    have hrp := Sm hfo (m := x.m.toNat) hn2
    have c3 := qx _ hrp.1 hrp.2 h hr
    rw [ZJ hfo hn2 hm3 h] at c3
    rw [Cy hn,Cy hm'] at c2
    refine aC Nl rfl ?_
    simp only [f212,go_sem,eL,q0,AF,AE,AS,AO,AD,AH,Nat.reduceAdd,k,Int.reduceBEq]
    repeat' (first|((first|refine pK (c1) ?_|refine pK (c2) ?_|refine pK (c3) ?_);simp only [go_sem,Int.reduceBEq,k,q0,q1,q2,s2,AF,AE,AS,AO,AD,AH,Nat.reduceAdd])|(first|apply cS|apply gS)<;>intro hc<;>simp only [go_sem,hc,Int.reduceBEq,k,eT,eO,eL,eF,q0,q1,q2,s2,AF,AE,AS,AO,AD,AH,Ax,Nat.reduceAdd])
    all_goals first|rfl|skip
  · have c1 := Qd l hln x.field
    have c2 := mP _ hfo h hr
    refine aC Nl rfl ?_
    simp only [f212,go_sem,eL,q0,AF,AE,AS,AO,AD,AH,Nat.reduceAdd,k,Int.reduceBEq]
    repeat' (first|((first|refine pK (c1) ?_|refine pK (c2) ?_);simp only [go_sem,Int.reduceBEq,k,q0,q1,q2,s2,AF,AE,AS,AO,AD,AH,Nat.reduceAdd])|(first|apply cS|apply gS)<;>intro hc<;>simp only [go_sem,hc,q0])
    all_goals first
      | (show AV.bool _ = AV.bool (decide (x.n <= Nm (Fc l x.field).1 h) && decide ((Nm (Fc l x.field).1 h : Int) <= x.m))
         rw [hc];rfl)
      | skip
def dK{P:Program}{f:FuncId}{vs:List AV}{d:Option Tmp}{K:Kt}{e:Ft}{H:FR}{v:AV}(hc:GJ P f vs H v)(hk:K (put d v e) H):AEM P f vs d K e H :=
 ⟨v,[],by simp only [Ag];exact hc,by rw [Ag];exact hk⟩
@[go_sem] def AUx(r:List Ez):NU (some r) = .tup [.sl none (F3 r),.bool true]:=rfl
@[go_sem] def AUz:NU none = .tup [.sl none [],.bool false]:=rfl
@[go_sem] def AUv(r:List Ez)(n:Nat):AE3 (some r) n = .tup [.sl none (F3 r),.int .i64 n,.bool true]:=rfl
@[go_sem] def AUw(n:Nat):AE3 none n = .tup [.sl none [],.int .i64 0,.bool false]:=rfl
def AAa(o:Option (List Ez))(n:Nat):(NU o).bnd n=true:=by
 cases o with
 | none=>rfl
 | some r =>
  simp only [NU,AV.bnd,Fl,Bh]
  have:=NS (n:=n) (es:=r.map Head.c) Nk
  rw [Ot] at this
  simpa [AV.bnd] using this
def so(l:List Fld)(hl:I0 l)(hln:l.length<=9223372036854775807)(t:Int)(ot ow ol o:Nat): ∀ x:E1,Hk l x->gvs l t ot ow ol o x (vO l t x) := by
  refine Hn _ λx ih=>λhx h hr H hW=>?_
  have hh:IM l x.pred -> ∀ z,PK AA 212 [.agg x.pred.c,.agg h.c,.ptr ot 0,.ptr ow 0,.ptr ol 0] (H++z) (.bool (hP l t x.pred h)) := λgp z H2 hv=>e8 l hl hln t ot ow ol o x.pred gp h hr H2 ((hW.grow z).view hv)
  have hc : ∀ a,a∈x.args->Hk l a -> ∀ z,PK AA 217 [.agg a.c,.agg h.c,.ptr ow 0,.ptr ol 0] (H++z) (NU (vO l t a h)) := λa ha ga z H2 hv=>ih a ha ga h hr H2 ((hW.grow z).view hv)
  have hWg := hW.grow
  obtain ⟨w1,w2,⟨w,w3⟩,w4⟩ := hW
  have eO := FY w2
  have eL := FY w3
  have eF := FY w4
  have q0 := q_0 H
  have q1 := q_1 H
  have q2 := q_2 H
  have s2 := AWO H
  rw [AHI]
  suffices hs:FZ AA 217 [.agg x.c,.agg h.c,.ptr ow 0,.ptr ol 0] H λv H'=>v.borrow=NU (VP l t x.kind x.pred x.field x.n (Xe l t x.args) h) /\ ∃ ext,H'=H++ext by
    refine FZ.drop (AAa _ _) ((FZ.res hs).mono λv H' hx=>?_)
    obtain ⟨v0,⟨h1,h2⟩,rfl⟩ := hx
    exact ⟨h1,h2⟩
  rcases WU hl hx with ⟨k,gp⟩|⟨k,hfo,hft,hn,hn2⟩|⟨k,a,b,ha,ga,gb⟩|⟨k,a,ha,ga⟩
  · have c1 := hh gp
    refine aC LD rfl ?_
    simp only [f217,go_sem,eO,eF,q0,q1,AF,AE,AS,AO,AD,AH,Nat.reduceAdd,k,Int.reduceBEq]
    repeat' (first|(refine rK (c1 _) ?_;simp only [go_sem])|(first|apply cS|apply gS)<;>intro hc<;>simp only [go_sem,hc,q1,AO])
    all_goals first
      | (show _ = NU (some (if hP l t x.pred h = true then [h] else []))
         revert hc
         cases hP l t x.pred h<;>intro hc<;>first|rfl|cases hc)
      | skip
  · have c1 := Qd l hln x.field
    have c2 := AWp _ hfo x.n.toNat hn2
    have hrp := Sm hfo (m := fW (Fc l x.field).1) hn2
    have c3 := AFU _ hrp.1 hrp.2 h hr
    rw [yg hfo hn2 hr] at c3
    rw [Cy hn] at c2
    refine aC LD rfl ?_
    simp only [f217,go_sem,eL,q0,AF,AE,AS,AO,AD,AH,Nat.reduceAdd,k,Int.reduceBEq]
    repeat' (first|((first|refine pK (c1) ?_|refine pK (c2) ?_|refine pK (c3) ?_);simp only [go_sem,q0,q1,q2,s2,AF,AE,AS,AO,AD,AH,Nat.reduceAdd])|(first|apply cS|apply gS)<;>intro hc<;>simp only [go_sem,hc,Int.reduceBEq,k,eO,eL,eF,q0,q1,q2,s2,AF,AE,AS,AO,AD,AH,Ax,Nat.reduceAdd])
    all_goals first|rfl|skip
  · have e0:OC (Xe l t x.args) 0=vO l t a := Se l t (by rw [ha];rfl)
    have e1:OC (Xe l t x.args) 1=vO l t b := Se l t (by rw [ha];rfl)
    have v0 := RS l hl t a ga
    have v1 := RS l hl t b gb
    have g1:(0:Int)<(x.args.length:Int) := by rw [ha];simp
    have g2 := Fx (l := x.args) (i := 0) (x := a) (by rw [ha];rfl)
    have g3:(1:Int)<(x.args.length:Int) := by rw [ha];simp
    have g4 := Fx (l := x.args) (i := 1) (x := b) (by rw [ha];rfl)
    have c1 := hc a (by rw [ha];simp) ga
    have c2 := hc b (by rw [ha];simp) gb
    have hb := ih b (by rw [ha];simp) gb
    rcases k with k|k
    · have hst:VP l t x.kind x.pred x.field x.n (Xe l t x.args) h=match vO l t a h,vO l t b h with|some a,some b=>Wx (Gs a b)|_,_=>none := by
        rw [k]
        show (match OC (Xe l t x.args) 0 h,OC (Xe l t x.args) 1 h with|some a,some b=>Wx (Gs a b)|_,_=>none)=_
        rw [e0,e1]
      rw [hst]
      cases ea:vO l t a h with
      | none =>
        rw [ea] at c1
        cases eb:vO l t b h with
        | none =>
          rw [eb] at c2
          have c3 := NX [] [] sm
          have c4 := Lk (Hv [] []) false
          rw [iN dc] at c4
          refine aC LD rfl ?_
          simp only [f217,go_sem,eO,eF,q0,q1,AF,AE,AS,AO,AD,AH,Nat.reduceAdd,k,Int.reduceBEq,g2]
          repeat' (first|((first|refine rK (c1 _) ?_|refine rK (c2 _) ?_|refine aS (c3 _) ?_|refine pK (c4) ?_);simp only [go_sem,eO,eF,q0,q1,AS,AO,g4])|(first|apply cS|apply gS)<;>intro hc<;>simp only [go_sem,hc,Int.reduceBEq,k,eO,eL,eF,q0,q1,q2,s2,AF,AE,AS,AO,AD,AH,Ax,Nat.reduceAdd,g1,g2,g3,g4])
        | some v =>
          rw [eb] at c2
          have gv := v1 h v hr eb
          have c3 := NX [] v (by have := gv.2.1;simp;omega)
          have c4 := Lk (Hv [] v) false
          rw [iN dc] at c4
          refine aC LD rfl ?_
          simp only [f217,go_sem,eO,eF,q0,q1,AF,AE,AS,AO,AD,AH,Nat.reduceAdd,k,Int.reduceBEq,g2]
          repeat' (first|((first|refine rK (c1 _) ?_|refine rK (c2 _) ?_|refine aS (c3 _) ?_|refine pK (c4) ?_);simp only [go_sem,eO,eF,q0,q1,AS,AO,g4])|(first|apply cS|apply gS)<;>intro hc<;>simp only [go_sem,hc,Int.reduceBEq,k,eO,eL,eF,q0,q1,q2,s2,AF,AE,AS,AO,AD,AH,Ax,Nat.reduceAdd,g1,g2,g3,g4])
      | some u =>
        rw [ea] at c1
        have gu := v0 h u hr ea
        cases eb:vO l t b h with
        | none =>
          rw [eb] at c2
          have c3 := NX u [] (by have := gu.2.1;simp;omega)
          have c4 := Lk (Hv u []) false
          rw [iN dc] at c4
          refine aC LD rfl ?_
          simp only [f217,go_sem,eO,eF,q0,q1,AF,AE,AS,AO,AD,AH,Nat.reduceAdd,k,Int.reduceBEq,g2]
          repeat' (first|((first|refine rK (c1 _) ?_|refine rK (c2 _) ?_|refine aS (c3 _) ?_|refine pK (c4) ?_);simp only [go_sem,eO,eF,q0,q1,AS,AO,g4])|(first|apply cS|apply gS)<;>intro hc<;>simp only [go_sem,hc,Int.reduceBEq,k,eO,eL,eF,q0,q1,q2,s2,AF,AE,AS,AO,AD,AH,Ax,Nat.reduceAdd,g1,g2,g3,g4])
        | some v =>
          rw [eb] at c2
          have gv := v1 h v hr eb
          have c3 := NX u v (by have := gu.2.1;have := gv.2.1;omega)
          have c4 := Lk (Hv u v) true
          rw [iP rfl] at c4
          rw [PY gu.1 gv.1] at c3 c4
          dsimp only
          cases eo:Wx (Gs u v) with
          | none =>
            rw [eo] at c4
            refine aC LD rfl ?_
            simp only [f217,go_sem,eO,eF,q0,q1,AF,AE,AS,AO,AD,AH,Nat.reduceAdd,k,Int.reduceBEq,g2]
            repeat' (first|((first|refine rK (c1 _) ?_|refine rK (c2 _) ?_|refine aS (c3 _) ?_|refine pK (c4) ?_);simp only [go_sem,eO,eF,q0,q1,AS,AO,g4])|(first|apply cS|apply gS)<;>intro hc<;>simp only [go_sem,hc,Int.reduceBEq,k,eO,eL,eF,q0,q1,q2,s2,AF,AE,AS,AO,AD,AH,Ax,Nat.reduceAdd,g1,g2,g3,g4])
          | some r =>
            rw [eo] at c4
            refine aC LD rfl ?_
            simp only [f217,go_sem,eO,eF,q0,q1,AF,AE,AS,AO,AD,AH,Nat.reduceAdd,k,Int.reduceBEq,g2]
            repeat' (first|((first|refine rK (c1 _) ?_|refine rK (c2 _) ?_|refine aS (c3 _) ?_|refine pK (c4) ?_);simp only [go_sem,eO,eF,q0,q1,AS,AO,g4])|(first|apply cS|apply gS)<;>intro hc<;>simp only [go_sem,hc,Int.reduceBEq,k,eO,eL,eF,q0,q1,q2,s2,AF,AE,AS,AO,AD,AH,Ax,Nat.reduceAdd,g1,g2,g3,g4])
    · have hst:VP l t x.kind x.pred x.field x.n (Xe l t x.args) h=match vO l t a h with|some a=>JJ (vO l t b) [] a|none=>none := by
        rw [k]
        show (match OC (Xe l t x.args) 0 h with|some a=>JJ (OC (Xe l t x.args) 1) [] a|none=>none)=_
        rw [e0,e1]
      rw [hst]
      cases ea:vO l t a h with
      | none =>
        rw [ea] at c1
        refine aC LD rfl ?_
        simp only [f217,go_sem,eO,eF,q0,q1,AF,AE,AS,AO,AD,AH,Nat.reduceAdd,k,Int.reduceBEq,g2]
        repeat' (first|(refine rK (c1 _) ?_;simp only [go_sem,AS,AO])|(first|apply cS|apply gS)<;>intro hc<;>simp only [go_sem,hc,Int.reduceBEq,k,eO,eL,eF,q0,q1,q2,s2,AF,AE,AS,AO,AD,AH,Ax,Nat.reduceAdd,g1,g2,g3,g4])
      | some u =>
        rw [ea] at c1
        have gu := v0 h u hr ea
        have c3 := λz=>AFJ l t ot ow ol o b _ hb v1 u gu.2.2 (by have := gu.2.1;omega) (H++z) (hWg z)
        dsimp only
        cases eo:JJ (vO l t b) [] u with
        | none =>
          rw [eo] at c3
          refine aC LD rfl ?_
          simp only [f217,go_sem,eO,eF,q0,q1,AF,AE,AS,AO,AD,AH,Nat.reduceAdd,k,Int.reduceBEq,g2]
          repeat' (first|((first|refine rK (c1 _) ?_|refine dK (c3 _) ?_);simp only [go_sem,eO,q0,AS,AO,g4])|(first|apply cS|apply gS)<;>intro hc<;>simp only [go_sem,hc,Int.reduceBEq,k,eO,eL,eF,q0,q1,q2,s2,AF,AE,AS,AO,AD,AH,Ax,Nat.reduceAdd,g1,g2,g3,g4])
        | some r =>
          rw [eo] at c3
          refine aC LD rfl ?_
          simp only [f217,go_sem,eO,eF,q0,q1,AF,AE,AS,AO,AD,AH,Nat.reduceAdd,k,Int.reduceBEq,g2]
          repeat' (first|((first|refine rK (c1 _) ?_|refine dK (c3 _) ?_);simp only [go_sem,eO,q0,AS,AO,g4])|(first|apply cS|apply gS)<;>intro hc<;>simp only [go_sem,hc,Int.reduceBEq,k,eO,eL,eF,q0,q1,q2,s2,AF,AE,AS,AO,AD,AH,Ax,Nat.reduceAdd,g1,g2,g3,g4])
  · have e0:OC (Xe l t x.args) 0=vO l t a := Se l t (by rw [ha];rfl)
    have g1:(0:Int)<(x.args.length:Int) := by rw [ha];simp
    have g2 := Fx (l := x.args) (i := 0) (x := a) (by rw [ha];rfl)
    have c3 := λz=>AIg l t ot ow ol o a _ (ih a (by rw [ha];simp) ga) (RS l hl t a ga) h hr (H++z) (hWg z)
    have hst:VP l t x.kind x.pred x.field x.n (Xe l t x.args) h=K6 (vO l t a) 300 [h] [h] := by
      rw [k]
      show K6 (OC (Xe l t x.args) 0) 300 [h] [h]=_
      rw [e0]
    rw [hst]
    cases eo:K6 (vO l t a) 300 [h] [h] with
    | none =>
      rw [eo] at c3
      refine aC LD rfl ?_
      simp only [f217,go_sem,eO,q0,q1,AF,AE,AS,AO,AD,AH,Nat.reduceAdd,k,Int.reduceBEq,g2]
      repeat' (first|(refine dK (c3 _) ?_;simp only [go_sem,AS,AO])|(first|apply cS|apply gS)<;>intro hc<;>simp only [go_sem,hc,Int.reduceBEq,k,eO,eL,eF,q0,q1,q2,s2,AF,AE,AS,AO,AD,AH,Ax,Nat.reduceAdd,g1,g2])
    | some r =>
      rw [eo] at c3
      refine aC LD rfl ?_
      simp only [f217,go_sem,eO,q0,q1,AF,AE,AS,AO,AD,AH,Nat.reduceAdd,k,Int.reduceBEq,g2]
      repeat' (first|(refine dK (c3 _) ?_;simp only [go_sem,AS,AO])|(first|apply cS|apply gS)<;>intro hc<;>simp only [go_sem,hc,Int.reduceBEq,k,eO,eL,eF,q0,q1,q2,s2,AF,AE,AS,AO,AD,AH,Ax,Nat.reduceAdd,g1,g2])
def Z0(n:Nat):List AV:=[.fn (.func 212) [] [.ptr (n+1) 0,.ptr (n+3) 0,.ptr n 0],.fn (.func 217) [] [.ptr (n+3) 0,.ptr n 0]]
def q_3(H:FR)(a b c d:Option (List AV)):(H++[a,b,c,d])[H.length+3]? =some d:=by rw [AM FQ,A1];rfl
def AdQ(H:FR)(a b c d e:Option (List AV)):(H++[a,b,c,d]).set (H.length+3) e=H++[a,b,c,e]:=by rw [BR _ _ FQ,A1];rfl
def AWN(H:FR)(a b c d e:Option (List AV)):(H++[a,b,c,d]).set (H.length+2) e=H++[a,b,e,d]:=by rw [BR _ _ FQ,A1];rfl
def AWS(l:List Fld)(t:Int)(H:FR):FZ AA 145 [.sl none (GN l),.int .i64 t] H λv H'=>v = .ptr (H.length+2) 0/\H'=H++[some [.sl none (GN l)],some [.int .i64 t],some (Z0 H.length),some [.ptr (H.length+2) 0]]:=by
 have q3:=q_3 H
 have q2:=q_2 H
 have s3:=AdQ H
 have s2:=AWN H
 refine aC AQP rfl ?_
 simp only [f145,go_sem,q3,q2,s3,s2,AF,AE,AS,AO,AD,AH,Nat.reduceAdd]
 all_goals first|rfl|exact ⟨rfl,rfl⟩|skip
def e9(r:List Ez)(b:Bool):A' AA 144 [.sl none (F3 r),.bool b] (sf (if b=true then some r else none)):=by
 refine pB AQS rfl ?_
 cases b<;>simp only [f144,go_sem]<;>rfl
def AFH(l:List Fld)(hl:I0 l)(hln:l.length<=9223372036854775807)(x:E1)(hx:Hk l x)(t:Int)(h:Ez)(hr:FX h=true):A' AA 84 [.sl none (GN l),.agg x.c,.agg h.c,.int .i64 t] (sf (vO l t x h)):=by
 have c1:FZ AA 145 [.sl none (GN l),.int .i64 t] [some x.c,some h.c] λv H'=>v = .ptr 4 0/\H'=[some x.c,some h.c]++[some [.sl none (GN l)],some [.int .i64 t],some (Z0 2),some [.ptr 4 0]]:=AWS l t [some x.c,some h.c]
 have hW:iA l t 3 5 2 4 ([some x.c,some h.c]++[some [.sl none (GN l)],some [.int .i64 t],some (Z0 2),some [.ptr 4 0]]):=⟨rfl,rfl,⟨none,rfl⟩,rfl⟩
 have c2:PK AA 217 [.agg x.c,.agg h.c,.ptr 5 0,.ptr 2 0] ([some x.c,some h.c]++[some [.sl none (GN l)],some [.int .i64 t],some (Z0 2),some [.ptr 4 0]]) (NU (vO l t x h)):=λH2 hv=>so l hl hln t 3 5 2 4 x hx h hr H2 (hW.view hv)
 have ho : ∀ ops,h84.ord 1 ops=(me [6,7] ops.size).filterMap λi=>ops[i]?:=λops=>rfl
 have hI:me [6,7] 16=[6,7,0,1,2,3,4,5,8,9,10,11,12,13,14,15]:=dc
 have w1 : ∀ z,([some x.c,some h.c]++z)[0]? =some (some x.c):=λz=>rfl
 simp only [Z0] at c1 c2
 cases ev:vO l t x h with
 | none =>
  rw [ev] at c2
  have c3:=e9 [] false
  refine pB AHd rfl ?_
  simp only [f84,go_sem]
  rw [PE _ _ _ (by simp only [go_sem]) rfl,ho]
  simp only [BT,AD,AH,Nat.reduceAdd,hI,B6,Bd,B1,A7,Cg]
  simp only [go_sem]
  refine ⟨_,_,c1, ?_⟩
  simp only [go_sem]
  repeat' (first|((first|refine rK (c2) ?_|refine pK (c3) ?_);simp only [go_sem])|(first|apply cS|apply gS)<;>intro hc<;>simp only [go_sem,hc])
  all_goals first|rfl|skip
 | some r =>
  rw [ev] at c2
  have c3:=e9 r true
  refine pB AHd rfl ?_
  simp only [f84,go_sem]
  rw [PE _ _ _ (by simp only [go_sem]) rfl,ho]
  simp only [BT,AD,AH,Nat.reduceAdd,hI,B6,Bd,B1,A7,Cg]
  simp only [go_sem]
  refine ⟨_,_,c1, ?_⟩
  simp only [go_sem]
  repeat' (first|((first|refine rK (c2) ?_|refine pK (c3) ?_);simp only [go_sem])|(first|apply cS|apply gS)<;>intro hc<;>simp only [go_sem,hc])
  all_goals first|rfl|skip
def ATv{l:List Fld}(h:O5 l=0):I0 l:=by
 have : ∀ (r:List Fld) (i:Nat),Jm l i r=0 -> ∀ f∈r,HB f:=by
  intro r
  induction r with
  | nil=>intro i _ f hf;cases hf
  | cons x r ih =>
   intro i h f hf
   rw [Jm] at h
   split at h
   ·cases h
   split at h
   ·cases h
   split at h
   ·cases h
   split at h
   ·cases h
   rename_i hp _
   rcases AW.1 hf with rfl|hf
   ·simp only [Sw,Bool.not_eq_true',Bool.and_eq_false_iff,not_or,Bool.not_eq_false,decide_eq_true_eq] at hp
    unfold HB
    omega
   ·exact ih _ h f hf
 unfold O5 at h
 split at h
 ·cases h
 ·exact this l 0 h
end Go.AI
