/- A row that a call has made becomes a list that nobody writes. -/
import Derived.Test.YtofajkggflobkaaGreatDoorMp
set_option linter.unusedSimpArgs false
set_option linter.unusedVariables false
set_option linter.defProp false
open Go.Proofs.Tryz
open Go.AI renaming CRel->Ew,Head->Ex,Policy->Ey
open Bool renaming and_true->Bj,eq_iff_iff->BA
open Int renaming lt_irrefl->AW,toNat_natCast->Aa,toNat_of_nonneg->Cw
open Go.IntKind renaming bits->DI,signed->Dk,wrap->Dj
open List renaming append_assoc->AE,append_nil->Ai,cons_append->AR,drop_drop->A8,filterMap_cons->B5,filterMap_nil->Cd,filter_append->Cb,filter_eq_self->DP,flatten_cons->C6,getElem?_append_left->AT,getElem?_append_right->AM,getElem?_concat_length->BT,getElem?_cons_succ->B0,getElem?_cons_zero->A7,getElem?_eq_getElem->AL,getElem?_eq_some_iff->AC,getElem?_set_ne->A6,getElem?_set_self->A3,getElem?_toArray->Bf,length_append->AF,length_cons->AD,length_map->Aq,length_nil->AH,length_set->Ap,map_append->Ar,map_congr_left->B2,map_eq_nil_iff->DQ,map_flatten->DN,map_id->DO,mem_cons->AX,mem_map->AP,mem_of_getElem?->AB,mem_singleton->Ac,nil_append->AN,set_append_left->BP,set_append_right->BS,set_comm->B7,set_set->BD,size_toArray->BV,take_add_one->BE,take_append_of_le_length->C5,take_set_of_le->CR,take_succ_cons->CO
open Nat renaming add_assoc->Ag,add_sub_cancel_left->A0,div_one->EP,le_refl->AU,lt_or_ge->BN,sub_self->AO,zero_add->AY
open Go.Proofs.Tryz renaming prog->AA
namespace Go.AI
def SO(es:List (List AV))(v:AV)(H H':FP):Prop :=
 (es=[]/\(∃ w,v = .sl w []) /\ ∃ ext,H'=H++ext) \/ ∃ ob cs,v = .msl ob 0 es.length 10/\H.length<=ob/\(∃ ext,H'=H++ext)/\H'[ob]? =some (some cs)/\(∃ r,cs=es.flatten++r)
section
variable {P:Program}
def CRel.borrowArgs{F:Nat->Prop}{G:Gh}{w:World}{H:FP}{vs:List AV}{us:List Value}(h:Ew F G vs H us w):Ew F G (vs.map AV.borrow) H us w:=by
 obtain ⟨l1,t1⟩:=Hd (F:=F) (G:=G) (w:=w) (first:=vs) (fi:=us) h.l.len (λi c v a b=>h.l.rel i c v a b)
 exact ⟨l1,h.h,λb=>by
  rw [t1]
  have:=h.cnt b
  omega⟩
def FV.weak{f:FuncId}{vs:List AV}{H:FP}{R:AV->FP->Prop}(h:FV P f (vs.map AV.borrow) H R):FV P f vs H R:=⟨h.1,λF G w us hc=>h.2 F G w us hc.borrowArgs⟩
def FQ.weak{f:FuncId}{vs:List AV}{v:AV}(h:FQ P f (vs.map AV.borrow) v):FQ P f vs v:=λH=>(h H).weak
def CRel.swap1{F:Nat->Prop}{G:Gh}{w:World}{H:FP}{v v':AV}{u:Value}(h:Ew F G [v] H [u] w)(hv:VRel G w v' u)(ho:v'.owned=false):Ew F G [v'] H [u] w :=
 ⟨.cons hv (Ff (GM ho u) _ _ _) ⟨rfl,sm,sm⟩,h.h,λx=>by
  have:=h.cnt x
  rw [FY,GM ho u]
  rw [FY] at this
  simp only [List.count_nil] at this ⊢
  omega⟩
def ab{H ext:FP}{ob:Nat}(h:H.length<=ob):(H++ext).set ob none=H++ext.set (ob - H.length) none:=BS _ _ h
def CRel.frzRow {F:Nat->Prop} {G:Gh} {w:World} {H ext:FP} {vals:List AV} {us:List Value} {u:Value} {ob len sz:Nat} {cs:List AV} (ag:Bool) (h:Ew F G vals (H++ext) us w)
  (ho:(H++ext)[ob]? =some (some cs)) (hb:H.length<=ob) (hv:VRel G w (.msl ob 0 len sz) u) (hl:len*sz<=cs.length) (hs:ag=true\/sz=1) :
  ∃ G' ext',Ew F G' vals (H++ext') us w/\Ext F G w G' w/\VRel G' w (.sl none (Ia ag sz len (cs.map borrow1))) u:=by
 have hf:Kw ag (.msl ob 0 len sz) (H++ext)=some (.sl none (Ia ag sz len (cs.map borrow1)),(H++ext).set ob none):=by
  simp only [Kw,ho]
  rw [iP ⟨FO,hs⟩,List.drop_zero]
 obtain ⟨ob',b,es,e1,e2,_,g1,g2,g3,_⟩:=Qq hf h hv
 rw [ab hb] at g1
 exact ⟨_,_,g1,g2,g3⟩
def CRel.cutExt{F:Nat->Prop}{G G':Gh}{w w':World}{H ext:FP}{vs:List AV}{us:List Value}{v:AV}{u:Value}(hc:Ew F G vs H us w)(hcr:Ew F G' [v] (H++ext) [u] w')(hext:Ext F G w G' w')(hv:v.bnd H.length=true):
  ∃ G'',Ew F G'' [v] H [u] w'/\Ext F G w G'' w' :=
 ⟨_,hcr.cut hv hc.h.closed,⟨hext.size,⟨λo b ho=>by
  have hlt:=(AC.1 ho).1
  show (G'.obs.take H.length)[o]? =some b
  rw [List.getElem?_take_of_lt (by have:=hc.h.len;omega)]
  exact hext.keeps.obs o b ho,hext.keeps.shape,hext.keeps.sp,hext.keeps.safe⟩,hext.kind,hext.cells,hext.io⟩⟩
def Kj : ∀ (es:List (List AV)) (r:List AV) (sz:Nat),(∀ e∈es,e.length=sz)->Ia true sz es.length (es.flatten++r)=es.map .agg
 | [],_,_,_=>rfl
 | e::es,r,sz,h=>by
  have he:=h e sm
  simp only [AD,Ia,if_true,C6,AE,List.map_cons]
  rw [C5 FO,List.take_of_length_le FO,List.drop_append_of_le_length FO,List.drop_of_length_le FO,AN,Kj es r sz λx hx=>h x (by simp [hx])]
def OT : ∀ (es:List (List AV)) (sz:Nat),(∀ e∈es,e.length=sz)->es.flatten.length=es.length*sz
 | [],_,_=>sm
 | e::es,sz,h=>by
  rw [C6,AF,OT es sz λx hx=>h x (by simp [hx]),h e sm,AD,Nat.add_mul];omega
def NQ{es:List (List AV)}{n:Nat}(hs : ∀ e∈es,Fo n e=true):(AV.sl none (es.map .agg)).bnd n=true:=by
 simp only [AV.bnd]
 refine GP.2 λc hc=>?_
 obtain ⟨e,he,rfl⟩:=AP.1 hc
 simpa [AV.bnd] using hs e he
def yX {f:FuncId} {vs:List AV} {H:FP} {es:List (List AV)} (hn : ∀ e∈es,e.length=10) (hs : ∀ e∈es,Fo H.length e=true) (hb : ∀ e∈es,e.map borrow1=e)
  (h:FV P f vs H λv' H'=>SO es v' H H'):FV P f vs H λv' H'=>v' = .sl none (es.map .agg)/\H'=H :=
 ⟨h.1,λF G w us hc=>Calls.mono (h.2 F G w us hc) λe w' he=>by
  obtain ⟨u,rfl,v',H2,G',hr,hcr,hext⟩:=he
  rcases hr with ⟨rfl,⟨w0,rfl⟩,ext,rfl⟩|⟨ob,cs,rfl,hob,⟨ext,rfl⟩,ho,r,rfl⟩
  ·have hv:VRel G' w' (.sl none []) u:=by
    have:=hcr.l.rel 0 _ _ rfl rfl
    cases this with
    | slnil=>exact .slnil _
    | slany=>exact .slany _ _
    | sl own es sz b q cap u' hsz hown hl hm h1 h2=>exact .sl none [] sz b q cap u' hsz (λn hn=>by cases hn) hl hm h1 h2
   obtain ⟨G2,k1,k2⟩:=hc.cutExt (hcr.swap1 hv rfl) hext rfl
   exact ⟨u,rfl,_,H,G2,⟨rfl,rfl⟩,k1,k2⟩
  ·have hv:=hcr.l.rel 0 _ _ rfl rfl
   have hlen:=OT es 10 hn
   obtain ⟨G2,ext2,k1,k2,k3⟩:=hcr.frzRow true ho hob hv (by rw [AF,hlen];omega) (.inl rfl)
   have e1:(es.flatten++r).map borrow1=es.flatten++r.map borrow1:=by
    rw [Ar,DN]
    congr 2
    exact B2 (f:=List.map borrow1) (g:=id) (λe he=>hb e he) |>.trans (DO _)
   rw [e1,Kj es _ 10 hn] at k3
   obtain ⟨G3,k4,k5⟩:=hc.cutExt (k1.swap1 k3 rfl) (hext.trans k2) (NQ hs)
   exact ⟨u,rfl,_,H,G3,⟨rfl,rfl⟩,k4,k5⟩⟩
def XD {f:FuncId} {vs:List AV} {H:FP} {es:List (List AV)} {b:Bool} (hn : ∀ e∈es,e.length=10) (hs : ∀ e∈es,Fo H.length e=true) (hb : ∀ e∈es,e.map borrow1=e)
  (h:FV P f vs H λv' H' => ∃ v0,v' = .tup [v0,.bool b]/\SO es v0 H H'):FV P f vs H λv' H'=>v' = .tup [.sl none (es.map .agg),.bool b]/\H'=H :=
 ⟨h.1,λF G w us hc=>Calls.mono (h.2 F G w us hc) λe w' he=>by
  obtain ⟨u,rfl,v',H2,G',⟨v0,rfl,hr⟩,hcr,hext⟩:=he
  have hv:=hcr.l.rel 0 _ _ rfl rfl
  cases hv with
  | tup _ vs' hl hsv hg =>
   have h0 : ∃ x,vs'[0]? =some x:=⟨_,Array.getElem?_eq_getElem (by rw [<- hl];exact Nat.zero_lt_succ _)⟩
   obtain ⟨x,hx⟩:=h0
   have hvx:=hg 0 _ x rfl hx
   have put : ∀ {G2:Gh} {w2:World} {a:AV},a.isVal=true->VRel G2 w2 a x->VRel G2 w2 (.tup [a,.bool b]) (.tuple vs'):=λ{G2 w2 a} ha hax=>by
    refine .tup _ _ hl (λc hc=>?_) λi c v hc hv=>?_
    ·rcases AX.1 hc with rfl|hc
     ·exact ha
     ·rw [Ac.1 hc];rfl
    ·match i with
     | 0=>simp only [A7,Option.some.injEq] at hc;subst hc;rw [hx] at hv;cases hv;exact hax
     | 1 =>
      have:=hg 1 (.bool b) v rfl hv
      simp only [B0,A7,Option.some.injEq] at hc;subst hc
      cases this;exact .bool _
     | i+2=>simp at hc
   rcases hr with ⟨rfl,⟨w0,rfl⟩,ext,rfl⟩|⟨ob,cs,rfl,hob,⟨ext,rfl⟩,ho,r,rfl⟩
   ·have hv0:VRel G' w' (.sl none []) x:=by
     cases hvx with
     | slnil=>exact .slnil _
     | slany=>exact .slany _ _
     | sl own es sz b q cap u' hsz hown hl hm h1 h2=>exact .sl none [] sz b q cap u' hsz (λn hn=>by cases hn) hl hm h1 h2
    obtain ⟨G2,k1,k2⟩:=hc.cutExt (hcr.swap1 (put rfl hv0) rfl) hext rfl
    exact ⟨_,rfl,_,H,G2,⟨rfl,rfl⟩,k1,k2⟩
   ·have hlen:=OT es 10 hn
    obtain ⟨G2,ext2,k1,k2,k3⟩:=hcr.frzRow true ho hob hvx (by rw [AF,hlen];omega) (.inl rfl)
    have e1:(es.flatten++r).map borrow1=es.flatten++r.map borrow1:=by
     rw [Ar,DN]
     congr 2
     exact B2 (f:=List.map borrow1) (g:=id) (λe he=>hb e he) |>.trans (DO _)
    rw [e1,Kj es _ 10 hn] at k3
    obtain ⟨G3,k4,k5⟩:=hc.cutExt (k1.swap1 (put rfl k3) rfl) (hext.trans k2) (by
     have:=NQ hs
     simp only [AV.bnd,Fo] at this ⊢
     simp [this])
    exact ⟨_,rfl,_,H,G3,⟨rfl,rfl⟩,k4,k5⟩⟩
end
end Go.AI
namespace Go.AI
open Go.Proofs
set_option maxRecDepth 50000
def Y5{i j n:Nat}(hn:n<=4611686018427387903)(hj:j<=n)(hi:i<j):IntKind.i64.wrap ((IntKind.u64.wrap (IntKind.i64.wrap ((i:Int)+(j:Int)))).fdiv 2)=(((i+j) / 2:Nat):Int):=by
 have e1:IntKind.i64.wrap ((i:Int)+(j:Int))=((i+j:Nat):Int):=OA FO FO
 rw [e1]
 have e2:IntKind.u64.wrap ((i+j:Nat):Int)=((i+j:Nat):Int):=by
  simp [Dj,Dk,DI];omega
 rw [e2]
 have e3:((i+j:Nat):Int).fdiv 2=(((i+j) / 2:Nat):Int):=by
  rw [Int.fdiv_eq_ediv_of_nonneg _ dc];omega
 rw [e3]
 exact OA FO FO
def AAJ(x:Int):FQ AA 192 [.int .i64 x] (.bool false):=by
 refine pC ANb rfl ?_
 simp only [f192,go_sem,bne_self_eq_false]
def Ps(a b:Int):Int:=if a<b then -1 else if b<a then 1 else 0
def AAP(a b:Int):FQ AA 117 [.int .i64 a,.int .i64 b] (.int .i64 (Ps a b)):=by
 have c1:=AAJ a
 have c2:=AAJ b
 refine pC AQx rfl ?_
 simp only [f117,go_sem]
 repeat' (first|((first|refine pK (c1) ?_|refine pK (c2) ?_);simp only [go_sem])|(first|apply cS|apply gS)<;>intro hc<;>simp only [go_sem,hc])
 all_goals (unfold Ps;grind)
def li(a b:Ex)(H:FP)(oa ob:Nat)(hA:H[oa]? =some (some a.c))(hB:H[ob]? =some (some b.c)):GK AA 66 [.msl oa 0 10 1,.msl ob 0 10 1] H (.int .i64 (Is a b)):=by
 refine aC AG4 rfl ?_
 simp only [f66,go_sem]
 refine Ko (σ:=Nat) (λk=>[(0,.msl oa 0 10 1),(1,.msl ob 0 10 1),(9,.msl oa 0 10 1),(10,.int .i64 10),(11,.int .i64 k)]) (λ_=>H) (λk=>k<=10/\Is a b=Ld (a.l.drop k) (b.l.drop k)) (λk=>10 - k) 0 ⟨dc,rfl⟩ rfl rfl ?_
 rintro k ⟨hk,hI⟩
 rw [nV a b k hk] at hI
 by_cases h:k<10
 ·rw [iP h] at hI
  have i0:(0:Int)<=(k:Int):=FO
  have i1:(k:Int)<((10:Nat):Int):=FO
  have i2:(k:Int)<10:=FO
  have i3 : ¬ ((10:Nat):Int)<=(k:Int):=FO
  have a1:=Ll a h
  have a2:=Ll b h
  have hw:=Mk (k:=k) FO
  have c1:=AAP (Fk a k) (Fk b k)
  simp only [go_sem,i0,i1,i2,i3,dT,dF,Aa,hA,hB,a1,a2]
  repeat' (first|(refine pK (c1) ?_;simp only [go_sem,i0,i1,i2,i3,dT,dF,Aa,hA,hB,a1,a2,hw])|(first|apply cS|apply gS)<;>intro hc<;>simp only [go_sem,hc,i0,i1,i2,i3,dT,dF,Aa,hA,hB,a1,a2,hw])
  ·have hne:Ps (Fk a k) (Fk b k)≠0:=by simpa using hc
   rw [hI]
   unfold Ps at hne ⊢
   by_cases h1:Fk a k<Fk b k
   ·rw [iP h1,iP h1]
   ·rw [iN h1] at hne ⊢
    rw [iN h1]
    by_cases h2:Fk b k<Fk a k
    ·rw [iP h2,iP h2]
    ·rw [iN h2] at hne;exact absurd rfl hne
  ·have heq:Ps (Fk a k) (Fk b k)=0:=by simpa using hc
   unfold Ps at heq
   have h1 : ¬ Fk a k<Fk b k:=λh1=>by rw [iP h1] at heq;cases heq
   have h2 : ¬ Fk b k<Fk a k:=λh2=>by rw [iN h1,iP h2] at heq;cases heq
   rw [iN h1,iN h2] at hI
   exact ⟨k+1,⟨FO,hI⟩,FO,rfl,rfl⟩
 ·rw [iN h] at hI
  have:k=10:=FO
  subst this
  have g:decide (((10:Nat):Int)<10)=false:=dc
  have g2:decide (((10:Nat):Int)<((10:Nat):Int))=false:=dc
  simp only [go_sem,g,g2]
  rw [hI]
def QV(a b:Ex):FQ AA 299 [.agg a.c,.agg b.c] (.int .i64 (Is a b)):=by
 refine pC AKK rfl ?_
 simp only [f299,go_sem]
 repeat' (first|(refine aS (li a b _ _ _ rfl rfl) ?_;simp only [go_sem])|(first|apply cS|apply gS)<;>intro hc<;>simp only [go_sem,hc])
def AAA(x:Ex):List Ex->Nat
 | []=>0
 | y::r=>if Is y x<0 then AAA x r+1 else 0
def po(x:Ex): ∀ (l:List Ex) (i:Nat),i<=l.length->(∀ k y,l[k]? =some y->k<i->Is y x<0)->(∀ y,l[i]? =some y -> ¬ Is y x<0)->AAA x l=i
 | [],i,h,_,_=>by
  have:i=0:=by simpa using h
  rw [this];rfl
 | y::r,0,_,_,h2=>by rw [AAA,iN (h2 y rfl)]
 | y::r,i+1,h,h1,h2=>by
  rw [AAA,iP (h1 0 y rfl FO),po x r i (by simpa using h) (λk z hk hl=>h1 (k+1) z (by simpa using hk) FO) λz hz=>h2 z (by simpa using hz)]
def lF{l:List Ex}(h:LU l){i j:Nat}{a b:Ex}(ha:l[i]? =some a)(hb:l[j]? =some b)(hij:i<j):Is a b<0:=by
 obtain ⟨h1,rfl⟩:=AC.1 ha
 obtain ⟨h2,rfl⟩:=AC.1 hb
 exact List.pairwise_iff_getElem.1 h i j h1 h2 hij
def ATk{l:List Ex}(h:LU l)(x:Ex){i:Nat}(h1 : ∀ k y,l[k]? =some y->k<i->Is y x<0)(h2 : ∀ k y,l[k]? =some y->i<=k -> ¬ Is y x<0):(l.any λy=>decide (y=x))=match l[i]? with|some y=>decide (Is y x=0)|none=>false:=by
 have key:x∈l->l[i]? =some x:=λhx=>by
  obtain ⟨k,hk⟩:=List.getElem?_of_mem hx
  rcases BN k i with hl|hl
  ·have:=h1 k x hk hl;rw [Pi] at this;omega
  ·rcases BN i k with hl2|hl2
   ·have hlt:i<l.length:=by have:=(AC.1 hk).1;omega
    have hi:=AL hlt
    exact absurd (lF h hi hk hl2) (h2 i _ hi (AU _))
   ·have:k=i:=FO
    subst this;exact hk
 cases hi:l[i]? with
 | none =>
  dsimp only
  rw [List.any_eq_false]
  intro y hy hc
  have:=of_decide_eq_true hc
  subst this
  rw [key hy] at hi;cases hi
 | some y =>
  dsimp only
  rw [BA,List.any_eq_true,decide_eq_true_eq]
  constructor
  ·rintro ⟨z,hz,hc⟩
   have:=of_decide_eq_true hc
   subst this
   rw [key hz] at hi;cases hi;exact Pi _
  ·intro hc
   exact ⟨y,AB hi,decide_eq_true (Ro hc)⟩
def AV0(l:List Ex)(hs:LU l)(hl:l.length<=4611686018427387903)(x:Ex):FQ AA 301 [.sl none (F4 l),.agg x.c,.fn (.func 299) [] []] (.tup [.int .i64 (AAA x l),.bool (l.any λy=>decide (y=x))]):=by
 refine pB AKF rfl ?_
 simp only [f301,go_sem]
 refine Ko (σ:=Nat×Nat) (λs=>[(0,.sl none (F4 l)),(2,.fn (.func 299) [] []),(4,.ptr 0 0),(8,.int .i64 l.length),(9,.int .i64 s.1),(10,.int .i64 s.2)]) (λ_=>[some x.c]) (λs=>s.1<=s.2/\s.2<=l.length/\(∀ k y,l[k]? =some y->k<s.1->Is y x<0)/\(∀ k y,l[k]? =some y->s.2<=k -> ¬ Is y x<0)) (λs=>s.2 - s.1) (0,l.length) ⟨FO,FO,λk y hk=>FO,λk y h1 h2=>by have:=(AC.1 h1).1;omega⟩ rfl rfl ?_
 rintro ⟨i,j⟩ ⟨hij,hj,h1,h2⟩
 dsimp only at hij hj h1 h2 ⊢
 by_cases hlt:i<j
 ·have g1:(i:Int)<(j:Int):=FO
  have g2:(0:Int)<=(((i+j) / 2:Nat):Int):=FO
  have g3:(((i+j) / 2:Nat):Int).toNat=(i+j) / 2:=FO
  have hm:(i+j) / 2<l.length:=FO
  have g4:(((i+j) / 2:Nat):Int)<(l.length:Int):=FO
  have hw:=Mk (k:=(i+j) / 2) FO
  have hgm:=AL hm
  have a1:=IF hgm
  have c1:=QV l[(i+j) / 2] x
  simp only [go_sem,g1,dT,Y5 hl hj hlt,g2,g3,g4,a1]
  repeat' (first|(refine pK (c1) ?_;simp only [go_sem,g1,Y5 hl hj hlt,g2,g3,g4,a1,hw])|(first|apply cS|apply gS)<;>intro hc<;>simp only [go_sem,hc,g1,Y5 hl hj hlt,g2,g3,g4,a1,hw])
  ·have hc:=of_decide_eq_true hc
   exact ⟨((i+j) / 2+1,j),⟨by dsimp only;omega,hj,λk y hk hki=>by
    rcases BN k ((i+j) / 2) with h|h
    ·exact L5 (lF hs hk hgm h) hc
    ·have:k=(i+j) / 2:=by dsimp only at hki;omega
     subst this
     rw [hgm] at hk;cases hk;exact hc,h2⟩,by dsimp only;omega,rfl,rfl⟩
  ·have hc:=of_decide_eq_false hc
   exact ⟨(i,(i+j) / 2),⟨by dsimp only;omega,by dsimp only;omega,h1,λk y hk hki=>by
    rcases BN ((i+j) / 2) k with h|h
    ·intro hlt2;exact hc (L5 (lF hs hgm hk h) hlt2)
    ·have:k=(i+j) / 2:=by dsimp only at hki;omega
     subst this
     rw [hgm] at hk;cases hk;exact hc⟩,by dsimp only;omega,rfl,rfl⟩
 ·have hij:i=j:=FO
  subst hij
  have g1 : ¬ (i:Int)<(i:Int):=FO
  have hany:=ATk hs x h1 h2
  have hpos:=po x l i hj h1 λy hy=>h2 i y hy (AU _)
  rw [hpos]
  by_cases hil:i<l.length
  ·have g3:(i:Int)<(l.length:Int):=FO
   have g4:(0:Int)<=(i:Int):=FO
   have hgi:=AL hil
   have a1:=IF hgi
   have c1:=QV l[i] x
   rw [hgi] at hany
   dsimp only at hany
   rw [hany]
   simp only [go_sem,g1,dF,g3,g4,dT,a1]
   repeat' (first|(refine pK (c1) ?_;simp only [go_sem,g1,g3,g4,a1,dT,Aa])|(first|apply cS|apply gS)<;>intro hc<;>simp only [go_sem,hc,g1,g3,g4,a1,dT,Aa])
   all_goals rfl
  ·have g3 : ¬ (i:Int)<(l.length:Int):=FO
   rw [List.getElem?_eq_none FO] at hany
   dsimp only at hany
   rw [hany]
   simp only [go_sem,g1,dF,g3]
   repeat' (first|(first|apply cS|apply gS)<;>intro hc<;>simp only [go_sem,hc,g1,g3])
def Acn(l:List Ex)(hs:LU l)(hl:l.length<=4611686018427387903)(x:Ex):FQ AA 252 [.sl none (F4 l),.agg x.c] (.bool (l.any λy=>decide (y=x))):=by
 have c1:=AV0 l hs hl x
 refine pC ALl rfl ?_
 simp only [f252,go_sem]
 repeat' (first|(refine pK (c1) ?_;simp only [go_sem])|(first|apply cS|apply gS)<;>intro hc<;>simp only [go_sem,hc])
def AEi(l:List Ex)(hs:LU l)(hl:l.length<=4611686018427387903)(x:Ex)(H:FP)(oa:Nat)(w:Option Nat)(hA:H[oa]? =some (some [.sl w (F4 l)])):GK AA 251 [.agg x.c,.ptr oa 0] H (.bool (l.any λy=>decide (y=x))):=by
 have c1:=Acn l hs hl x
 refine FV.drop rfl ?_
 refine aC ALo rfl ?_
 have hA' : ∀ z,(H++z)[oa]? =some (some [.sl w (F4 l)]):=λz=>by
  have:=(AC.1 hA).1
  rw [AT this];exact hA
 simp only [f251,go_sem,hA']
 repeat' (first|(refine pK (c1) ?_;simp only [go_sem,hA'])|(first|apply cS|apply gS)<;>intro hc<;>simp only [go_sem,hc,hA'])
def KT : ∀ (n m:Nat) (a b:List Ex),a.length+b.length<n->a.length+b.length<m->JA n a b=JA m a b
 | 0,_,a,b,h,_=>FO
 | _,0,a,b,_,h=>FO
 | n+1,m+1,[],b,_,_=>rfl
 | n+1,m+1,x::a,[],_,_=>rfl
 | n+1,m+1,x::a,y::b,h1,h2=>by
  simp only [AD] at h1 h2
  rw [JA,JA,KT n m a (y::b) (by simp only [AD];omega) (by simp only [AD];omega),KT n m a b FO FO,KT n m (x::a) b (by simp only [AD];omega) (by simp only [AD];omega)]
def mC(a:List Ex):Hx a []=a:=by cases a<;>rfl
def AAs(x:Ex)(a:List Ex)(y:Ex)(b:List Ex):Hx (x::a) (y::b)=if Is x y<0 then x::Hx a (y::b) else if Is x y=0 then y::Hx a b else y::Hx (x::a) b:=by
 unfold Hx
 rw [JA]
 simp only [AD]
 rw [KT (a.length+1+(b.length+1)) (a.length+(b.length+1)+1) a (y::b) (by simp only [AD];omega) (by simp only [AD];omega),KT (a.length+1+(b.length+1)) (a.length+b.length+1) a b FO FO,KT (a.length+1+(b.length+1)) (a.length+1+b.length+1) (x::a) b (by simp only [AD];omega) (by simp only [AD];omega)]
def Oa : ∀ (n:Nat) (a b:List Ex),(JA n a b).length<=a.length+b.length
 | 0,_,_=>by simp [JA]
 | n+1,[],b=>by simp [JA]
 | n+1,x::a,[]=>by simp [JA]
 | n+1,x::a,y::b=>by
  have h1:=Oa n a (y::b)
  have h2:=Oa n a b
  have h3:=Oa n (x::a) b
  rw [JA]
  simp only [AD] at h1 h3 ⊢
  split
  ·simp only [AD];omega
  ·split<;>simp only [AD]<;>omega
def Of(x:Ex)(l:List Ex):(F4 (x::l)).drop 1=F4 l:=rfl
def ATj(x y:Option (Tmp×Nat×Bool))(e:Fs):Prop :=
 match x,y with
 | some (a,k,s),some (b,l,s')=>(s=true\/s'=true)/\match Fq e a,Fq e b with
  | .ptr o1 f1,.ptr o2 f2=>o1≠o2\/f1+k<=f2\/f2+l<=f1
  | _,_=>False
 | _,_=>False
def L3{P:Program}{h:Hint}{ops:Array Oper}{e:Fs}(L:List (Option (Tmp×Nat×Bool)×Option (Tmp×Nat×Bool)))(hT:((Rk h ops).map λp=>(KD P h p.1,KD P h p.2))=L)(hL : ∀ q∈L,ATj q.1 q.2 e):Jg P h ops e:=λp hp=>by
 have:=hL _ (by rw [<- hT];exact AP.2 ⟨p,hp,rfl⟩)
 exact this
def Lv(l:List Ex):Option (List AV):=some [.sl none (F4 l)]
def lW (o pa pb:Nat) (L:LoopRec) (Inv:List Ex->List Ex->List Ex->FP->Prop) (hne:pa≠pb) (m:List Ex) (hm:m.length<=4611686018427387903)
  (hA : ∀ out a b X,Inv out a b X->X[pa]? =some (Lv a)) (hB : ∀ out a b X,Inv out a b X->X[pb]? =some (Lv b)) (hG : ∀ out a b X x,Inv out a b X->Inv out a b (X++[x]))
  (hsA : ∀ out a b X a',Inv out a b X->Inv out a' b (X.set pa (Lv a'))) (hsB : ∀ out a b X b',Inv out a b X->Inv out a b' (X.set pb (Lv b')))
  (round : ∀ out a b x X,out++[x] <+: m->Inv out a b X->L8 AA o L [.agg (Head.c x)] X λv X'=>v = .bool true/\Inv (out++[x]) a b X')
  (a b:List Ex) (X:FP) (hab:Hx a b=m) (hl:a.length+b.length<=4611686018427387903) (h0:Inv [] a b X):FV AA 298 [.yld o L,.ptr pa 0,.ptr pb 0] X λ_ X'=>Inv m [] [] X':=by
 refine aC AKP rfl ?_
 simp only [f298,go_sem]
 refine Ko (σ:=List Ex×List Ex×List Ex×FP×Fs) (λs=>(0,.yld o L)::(1,.ptr pa 0)::(2,.ptr pb 0)::s.2.2.2.2) (λs=>s.2.2.2.1) (λs=>Inv s.1 s.2.1 s.2.2.1 s.2.2.2.1/\s.1++Hx s.2.1 s.2.2.1=m/\s.2.1.length+s.2.2.1.length<=4611686018427387903) (λs=>s.2.1.length+s.2.2.1.length) ([],a,b,X,[]) ⟨h0,hab,hl⟩ rfl rfl ?_
 rintro ⟨out,a,b,X,rest⟩ ⟨hI,hab,hl⟩
 clear h0
 dsimp only at hI hab hl ⊢
 have a0:=hA _ _ _ _ hI
 have b0:=hB _ _ _ _ hI
 have la:=(AC.1 a0).1
 have lb:=(AC.1 b0).1
 have eA : ∀ z,(X++z)[pa]? =some (Lv a):=λz=>by rw [AT la];exact a0
 have eB : ∀ z,(X++z)[pb]? =some (Lv b):=λz=>by rw [AT lb];exact b0
 have sA : ∀ y v,(X++[y]).set pa v=X.set pa v++[y]:=λy v=>BP _ _ la
 have sB : ∀ y v,(X++[y]).set pb v=X.set pb v++[y]:=λy v=>BP _ _ lb
 have tA : ∀ v x y,(X.set pa v++[x]).set X.length y=X.set pa v++[y]:=λv x y=>by
  have:=Ua (X.set pa v) x y
  rwa [Ap] at this
 have tB : ∀ v x y,(X.set pb v++[x]).set X.length y=X.set pb v++[y]:=λv x y=>by
  have:=Ua (X.set pb v) x y
  rwa [Ap] at this
 have gA : ∀ v x,(X.set pa v++[x])[X.length]? =some x:=λv x=>by rw [AM sm];simp
 have gB : ∀ v x,(X.set pb v++[x])[X.length]? =some x:=λv x=>by rw [AM sm];simp
 have nA:X.length≠pa:=FO
 have nB:X.length≠pb:=FO
 have nA2:pa≠X.length:=FO
 have nB2:pb≠X.length:=FO
 unfold Lv at a0 b0 eA eB
 have z1:((0:Int)<((0:Nat):Int))=False:=dc
 have z2:(((0:Nat):Int)==(0:Int))=true:=rfl
 cases a with
 | nil =>
  cases b with
  | nil =>
   have hm:out=m:=by rw [<- hab];exact (Ai _).symm
   rw [hm] at hI
   simp only [go_sem,a0,b0,AH,z1,dF]
   repeat' (first|(first|apply cS|apply gS)<;>intro hc<;>simp only [go_sem,hc,a0,b0,AH,z1,z2,dF])
   all_goals first|exact hI|skip
  | cons y b =>
   simp only [AD] at hl
   have n1:((0:Int)<((b.length+1:Nat):Int))=True:=eq_true FO
   have n2:(((b.length+1:Nat):Int)==(0:Int))=false:=by
    rw [beq_eq_false_iff_ne];omega
   have n3:=Of y b
   have n4:(F4 (y::b))[0]? =some (.agg y.c):=rfl
   have hab2:out++[y]++Hx [] b=m:=by rw [<- hab,AE];rfl
   simp only [go_sem,a0,b0,AH,AD,z1,z2,n1,dT,dF]
   rw [HX _ _ _ (by simp only [go_sem]) rfl rfl]
   simp only [go_sem,eB,sB,AH,AD,n3,n4]
   refine ⟨FO,L3 [(some (2,1,false),some (5,10,true))] kr ?_, ?_⟩
   ·intro q hq
    rw [Ac.1 hq]
    exact ⟨.inr rfl,.inl nB2⟩
   simp only [go_sem,gB,dF]
   refine Me.intro (round out [] b y _ ⟨_,hab2⟩ (hG _ _ _ _ _ (hsB _ _ _ _ b hI))) λv X' hr=>?_
   obtain ⟨rfl,hi⟩:=hr
   simp only [go_sem]
   exact ⟨(out++[y],[],b,X',[(46,.bool false)]),⟨hi,hab2,by simp only [AH];omega⟩,sm,rfl,rfl⟩
 | cons x a =>
  simp only [AD] at hl
  have m1:((0:Int)<((a.length+1:Nat):Int))=True:=eq_true FO
  have m2:(((a.length+1:Nat):Int)==(0:Int))=false:=by
   rw [beq_eq_false_iff_ne];omega
  have m3:=Of x a
  have m4:(F4 (x::a))[0]? =some (.agg x.c):=rfl
  cases b with
  | nil =>
   have hab2:out++[x]++Hx a []=m:=by rw [<- hab,AE,mC,mC];rfl
   simp only [go_sem,a0,b0,AH,AD,z2,m1,m2,dT,dF]
   rw [HX _ _ _ (by simp only [go_sem]) rfl rfl]
   simp only [go_sem,eA,sA,AH,AD,m3,m4]
   refine ⟨FO,L3 [(some (1,1,false),some (5,10,true))] kr ?_, ?_⟩
   ·intro q hq
    rw [Ac.1 hq]
    exact ⟨.inr rfl,.inl nA2⟩
   simp only [go_sem,gA]
   refine Me.intro (round out a [] x _ ⟨_,hab2⟩ (hG _ _ _ _ _ (hsA _ _ _ _ a hI))) λv X' hr=>?_
   obtain ⟨rfl,hi⟩:=hr
   simp only [go_sem]
   exact ⟨(out++[x],a,[],X',[(46,.bool false)]),⟨hi,hab2,by simp only [AH];omega⟩,sm,rfl,rfl⟩
  | cons y b =>
   simp only [AD] at hl
   have n1:((0:Int)<((b.length+1:Nat):Int))=True:=eq_true FO
   have n2:(((b.length+1:Nat):Int)==(0:Int))=false:=by
    rw [beq_eq_false_iff_ne];omega
   have n3:=Of y b
   have n4:(F4 (y::b))[0]? =some (.agg y.c):=rfl
   have c1:=QV x y
   rw [AAs] at hab
   by_cases q1:Is x y<0
   ·rw [iP q1] at hab
    have k1 : ¬ 0<=Is x y:=FO
    have k2:Is x y<=0:=FO
    have hab2:out++[x]++Hx a (y::b)=m:=by rw [<- hab,AE];rfl
    simp only [go_sem,a0,b0,AD,n2,n4,m1,m2,m4,dT]
    repeat' (first|(refine pK (c1) ?_;simp only [go_sem,k1,k2,dT,dF])|(first|apply cS|apply gS)<;>intro hc<;>simp only [go_sem,hc,a0,b0,eA,eB,sA,sB,tA,tB,gA,gB,AH,AD,z1,z2,n1,n2,n3,n4,m1,m2,m3,m4,k1,k2,dT,dF])
    rw [HX _ _ _ (by simp only [go_sem]) rfl rfl]
    simp only [go_sem,eA,sA,AH,AD,m3,m4]
    refine ⟨FO,L3 [(some (1,1,false),some (5,10,true))] kr ?_, ?_⟩
    ·intro q hq
     rw [Ac.1 hq]
     exact ⟨.inr rfl,.inl nA2⟩
    simp only [go_sem,gA]
    refine Me.intro (round out a (y::b) x _ ⟨_,hab2⟩ (hG _ _ _ _ _ (hsA _ _ _ _ a hI))) λv X' hr=>?_
    obtain ⟨rfl,hi⟩:=hr
    simp only [go_sem]
    exact ⟨(out++[x],a,y::b,X',[(46,.bool false)]),⟨hi,hab2,by simp only [AD];omega⟩,by simp only [AD];omega,rfl,rfl⟩
   ·rw [iN q1] at hab
    have k1:0<=Is x y:=FO
    by_cases q2:Is x y=0
    ·rw [iP q2] at hab
     have hxy:=Ro q2
     subst hxy
     have k2:Is x x<=0:=FO
     have hab2:out++[x]++Hx a b=m:=by rw [<- hab,AE];rfl
     have la':pa<(X.set pb (some [.sl none (F4 b)])).length:=by simpa using la
     have eA2 : ∀ v,(X.set pb v)[pa]? =some (some [.sl none (F4 (x::a))]):=λv=>by rw [A6 hne.symm];exact a0
     have eA3 : ∀ v z,(X.set pb v++z)[pa]? =some (some [.sl none (F4 (x::a))]):=λv z=>by rw [AT (by simpa using la)];exact eA2 v
     have sA3 : ∀ w y v,(X.set pb w++[y]).set pa v=(X.set pb w).set pa v++[y]:=λw y v=>BP _ _ (by simpa using la)
     have tA3 : ∀ w v x y,((X.set pb w).set pa v++[x]).set X.length y=(X.set pb w).set pa v++[y]:=λw v x y=>by
      have:=Ua ((X.set pb w).set pa v) x y
      rwa [Ap,Ap] at this
     have gA3 : ∀ w v x,((X.set pb w).set pa v++[x])[X.length]? =some x:=λw v x=>by rw [AM sm];simp
     simp only [go_sem,a0,b0,AD,n2,n4,m1,m2,m4,dT]
     repeat' (first|(refine pK (c1) ?_;simp only [go_sem,k1,dT])|(first|apply cS|apply gS)<;>intro hc<;>simp only [go_sem,hc,a0,b0,eA,eB,sA,sB,tA,tB,gA,gB,AH,AD,z1,z2,n1,n2,n3,n4,m1,m2,m3,m4,k1,k2,dT,dF])
     rw [HX _ _ _ (by simp only [go_sem]) rfl rfl]
     simp only [go_sem,eB,sB,AH,AD,n3,n4]
     refine ⟨FO,L3 [(some (2,1,false),some (5,10,true))] kr ?_, ?_⟩
     ·intro q hq
      rw [Ac.1 hq]
      exact ⟨.inr rfl,.inl nB2⟩
     simp only [go_sem,k2,dT]
     rw [HX _ _ _ (by simp only [go_sem]) rfl rfl]
     simp only [go_sem,tB,gB,AH,AD,m3,m4,eA3,sA3]
     refine ⟨FO,L3 [(some (1,1,false),some (5,10,true))] kr ?_, ?_⟩
     ·intro q hq
      rw [Ac.1 hq]
      exact ⟨.inr rfl,.inl nA2⟩
     simp only [go_sem,gA3]
     refine Me.intro (round out a b x _ ⟨_,hab2⟩ (hG _ _ _ _ _ (hsA _ _ _ _ a (hsB _ _ _ _ b hI)))) λv X' hr=>?_
     obtain ⟨rfl,hi⟩:=hr
     simp only [go_sem]
     exact ⟨(out++[x],a,b,X',[(46,.bool false)]),⟨hi,hab2,by simp only [];omega⟩,by simp only [];omega,rfl,rfl⟩
    ·rw [iN q2] at hab
     have k2 : ¬ Is x y<=0:=FO
     have hab2:out++[y]++Hx (x::a) b=m:=by rw [<- hab,AE];rfl
     simp only [go_sem,a0,b0,AD,n2,n4,m1,m2,m4,dT]
     repeat' (first|(refine pK (c1) ?_;simp only [go_sem,k1,dT])|(first|apply cS|apply gS)<;>intro hc<;>simp only [go_sem,hc,a0,b0,eA,eB,sA,sB,tA,tB,gA,gB,AH,AD,z1,z2,n1,n2,n3,n4,m1,m2,m3,m4,k1,k2,dT,dF])
     rw [HX _ _ _ (by simp only [go_sem]) rfl rfl]
     simp only [go_sem,eB,sB,AH,AD,n3,n4]
     refine ⟨FO,L3 [(some (2,1,false),some (5,10,true))] kr ?_, ?_⟩
     ·intro q hq
      rw [Ac.1 hq]
      exact ⟨.inr rfl,.inl nB2⟩
     simp only [go_sem,gB,k2,dF]
     refine Me.intro (round out (x::a) b y _ ⟨_,hab2⟩ (hG _ _ _ _ _ (hsB _ _ _ _ b hI))) λv X' hr=>?_
     obtain ⟨rfl,hi⟩:=hr
     simp only [go_sem]
     exact ⟨(out++[y],x::a,b,X',[(46,.bool false)]),⟨hi,hab2,by simp only [AD];omega⟩,by simp only [AD];omega,rfl,rfl⟩
def GG(l:List Ex):List AV:=(l.map Head.c).flatten
def Iu(x:Ex)(l:List Ex):GG (x::l)=x.c++GG l:=rfl
def Ji : ∀ l:List Ex,(GG l).length=l.length*10
 | []=>rfl
 | x::l=>by
  rw [Iu,AF,Ji l,AD]
  have:x.c.length=10:=rfl
  omega
def WV : ∀ (l:List Ex) (r:List AV) (k:Nat) (y:Ex),l[k]? =some y->((GG l++r).drop (k*10)).take 10=y.c
 | [],_,_,_,h=>by simp at h
 | x::l,r,0,y,h=>by
  simp only [A7,Option.some.injEq] at h
  subst h
  rfl
 | x::l,r,k+1,y,h=>by
  rw [Iu,AE]
  have e:(k+1)*10=x.c.length+k*10:=by
   have:x.c.length=10:=rfl
   omega
  rw [e,<- A8,List.drop_left]
  exact WV l r k y (by simpa using h)
def iT{l:List Ex}(r:List AV){k:Nat}{y:Ex}(h:l[k]? =some y):k*10+10<=(GG l++r).length:=by
 have:=(AC.1 h).1
 rw [AF,Ji]
 omega
def fq(d:Ex->Bool):Nat->List Ex->Int
 | _,[] => -1
 | k,x::r=>if d x=true then (k:Int) else fq d (k+1) r
def AAV(l:List Ex)(hl:l.length<=9223372036854775807)(r:List AV)(H:FP)(o:Nat)(ho:H[o]? =some (some (GG l++r)))(f:Nat)(first cap:List AV)(d:Ex->Bool)(hd : ∀ x∈l,GK AA f (first.map AV.borrow++(.agg (Head.c x)::cap.map AV.borrow)) H (.bool (d x))):
  GK AA 300 [.msl o 0 l.length 10,.fn (.func f) first cap] H (.int .i64 (fq d 0 l)):=by
 refine aC ABc rfl ?_
 simp only [f300,go_sem]
 refine Fa l (λr=>fq d (l.length - r.length) r) (λk=>[(0,.msl o 0 l.length 10),(1,.fn (.func f) first cap),(7,.int .i64 l.length),(8,.int .i64 k)]) hl rfl ?_ ?_
 ·intro k y ys hdr hx hF h0 h1 hw
  have c1:=hd y (AB hx)
  have g1:=iT r hx
  have g2:=WV l r k y hx
  have hk2:=Fl hdr
  have e1:l.length - (ys.length+1)=k:=FO
  have e2:l.length - ys.length=k+1:=FO
  simp only [AD,e1,AO] at hF
  simp only [go_sem,h0,h1,ho,g1,g2,e1,e2]
  repeat' (first|(refine aS (c1) ?_;simp only [go_sem,h0,h1,hw,ho,g1,g2,e1,e2])|(first|apply cS|apply gS)<;>intro hc<;>simp only [go_sem,hc,h0,h1,hw,ho,g1,g2,e1,e2])
  ·rw [hF,fq,iP hc]
  ·rw [fq,iN (by rw [hc];decide)]
 ·intro hF hlt
  simp only [go_sem,hlt,dF]
  rw [AO] at hF
  rw [hF];rfl
def hM2:Hint:={ gK with tk:=[] }
@[go_sem] def AgL:hM2.lv 3=[5,6]/\hM2.lv 4=[0]:=dk
set_option linter.defProp false in
@[go_sem] def AgK:=mj hM2 rfl rfl rfl
@[go_sem] def AgJ:hM2.tk=[]/\hM2.mt=[5,14]/\hM2.pc=[]:=⟨rfl,rfl,rfl⟩
def AAL(a b:List Ex)(H:FP):FV AA 249 [.sl none (F4 a),.sl none (F4 b)] H λv H'=>v = .fn (.func 298) [] [.ptr H.length 0,.ptr (H.length+1) 0]/\H'=H++[Lv a,Lv b]:=by
 refine aC ALs rfl ?_
 simp only [f249,go_sem,AF,AE,AR,AN]
 all_goals first|rfl|exact ⟨rfl,rfl⟩
def AH1 {P:Program} {n tag N:Nat} {h:Hint} {g:Operand} {rs:Array Tmp} {assign body:Code} {Q:Exit->Kt} {e:Fs} {H:FP} {f:FuncId} {first captured:List AV} (hN:H.length=N)
  (hg:G7 P none e g = .fn (.func f) first captured)
  (hc:FV P f (first.map AV.borrow++[.yld N ⟨tag,rs,assign,body⟩]++captured.map AV.borrow) (H++[some (G8 0 (Ha n e))]) (λ_ H2=>zi N Q e H2)):rfK P n h none g rs assign body Q e H:=by
 subst hN
 exact SQ hg hc
def MI(H:FP)(fv:List AV)(out a b:List Ex)(X:FP):Prop :=
 H.length+4<=X.length/\X.take H.length=H/\X[H.length+1]? =some (Lv a)/\X[H.length+2]? =some (Lv b)/\X[H.length+3]? =some (some (G8 0 fv)) /\
  ∃ ov,X[H.length]? =some (some [ov])/\((out=[]/\ov = .sl (some 0) []) \/ ∃ ob,ov = .msl ob 0 out.length 10/\out≠[]/\H.length+4<=ob/\X[ob]? =some (some (GG out)))
def FU{X:FP}{i:Nat}{c:Option (List AV)}(h:X[i]? =some c)(z:FP):(X++z)[i]? =some c:=by
 rw [AT (AC.1 h).1];exact h
def GA{X:FP}{i j:Nat}{c:Option (List AV)}(h:X[i]? =some c)(hne:j≠i)(v:Option (List AV)):(X.set j v)[i]? =some c:=by
 rw [A6 hne];exact h
def IX{X:FP}{i:Nat}(h:i<X.length)(v:Option (List AV)):(X.set i v)[i]? =some v:=by
 rw [A3 h]
def MI.grow{H:FP}{fv:List AV}{out a b:List Ex}{X:FP}(h:MI H fv out a b X)(x:Option (List AV)):MI H fv out a b (X++[x]):=by
 obtain ⟨h1,h2,h3,h4,h5,ov,h6,h7⟩:=h
 refine ⟨by simp;omega,by rw [C5 FO];exact h2,FU h3 _,FU h4 _,FU h5 _,ov,FU h6 _, ?_⟩
 rcases h7 with h7|⟨ob,g1,g2,g3,g4⟩
 ·exact .inl h7
 ·exact .inr ⟨ob,g1,g2,g3,FU g4 _⟩
def MI.setA{H:FP}{fv:List AV}{out a b:List Ex}{X:FP}(h:MI H fv out a b X)(a':List Ex):MI H fv out a' b (X.set (H.length+1) (Lv a')):=by
 obtain ⟨h1,h2,h3,h4,h5,ov,h6,h7⟩:=h
 refine ⟨by simpa using h1,by rw [CR FO];exact h2,IX FO _,GA h4 FO _,GA h5 FO _,ov,GA h6 FO _, ?_⟩
 rcases h7 with h7|⟨ob,g1,g2,g3,g4⟩
 ·exact .inl h7
 ·exact .inr ⟨ob,g1,g2,g3,GA g4 FO _⟩
def MI.setB{H:FP}{fv:List AV}{out a b:List Ex}{X:FP}(h:MI H fv out a b X)(b':List Ex):MI H fv out a b' (X.set (H.length+2) (Lv b')):=by
 obtain ⟨h1,h2,h3,h4,h5,ov,h6,h7⟩:=h
 refine ⟨by simpa using h1,by rw [CR FO];exact h2,GA h3 FO _,IX FO _,GA h5 FO _,ov,GA h6 FO _, ?_⟩
 rcases h7 with h7|⟨ob,g1,g2,g3,g4⟩
 ·exact .inl h7
 ·exact .inr ⟨ob,g1,g2,g3,GA g4 FO _⟩
def MI.put {H:FP} {fv:List AV} {a b:List Ex} {X:FP} (h1:H.length+4<=X.length) (h2:X.take H.length=H) (h3:X[H.length+1]? =some (Lv a)) (h4:X[H.length+2]? =some (Lv b)) (z:FP) {out:List Ex} {ob:Nat} (hne:out≠[]) (hob:H.length+4<=ob)
  (hr:((X.set H.length (some [.msl ob 0 out.length 10])).set (H.length+3) (some (G8 0 fv))++z)[ob]? =some (some (GG out))):MI H fv out a b ((X.set H.length (some [.msl ob 0 out.length 10])).set (H.length+3) (some (G8 0 fv))++z):=by
 refine ⟨by simp;omega, ?_,FU (GA (GA h3 FO _) FO _) _,FU (GA (GA h4 FO _) FO _) _,FU (IX (by simp;omega) _) _,_,FU (GA (IX FO _) FO _) _,.inr ⟨ob,rfl,hne,hob,hr⟩⟩
 rw [C5 (by simp;omega),CR FO,CR FO]
 exact h2
def WW : ∀ l:List Ex,(GG l).map borrow1=GG l
 | []=>rfl
 | x::l=>by
  rw [Iu,Ar,WW l]
  rfl
def iU(l:List Ex)(x:Ex):GG (l++[x])=GG l++x.c:=by
 unfold GG
 simp
def AB8{H X:FP}(h:X.take H.length=H): ∃ ext,X=H++ext:=⟨X.drop H.length,by
 have:=List.take_append_drop H.length X
 rw [h] at this
 exact this.symm⟩
def mFv(n:Nat):List AV:=Ha 16 [(5,.ptr n 0),(9,.fn (.func 298) [] [.ptr (n+1) 0,.ptr (n+2) 0])]
def VO(a b:List Ex)(hl:a.length+b.length<=1048576)(H:FP):FV AA 183 [.sl none (F4 a),.sl none (F4 b)] H λv H'=>SO ((Hx a b).map Head.c) v H H':=by
 have hml:(Hx a b).length<=1048576:=Nat.le_trans (Oa _ a b) hl
 refine aC AN7 rfl ?_
 simp only [f183,go_sem]
 refine ⟨by first|rfl|kernel_rfl,Fr.intro (AAL a b _) λv H' hr=>?_⟩
 obtain ⟨rfl,rfl⟩:=hr
 simp only [go_sem,AF,AE,AR,AN,AD,AH,Ag,Nat.reduceAdd]
 refine AH1 (tag:=183) (N:=H.length+3) sm rfl (FV.mono (lW (H.length+3) (H.length+1) (H.length+2) _ (MI H (mFv H.length)) FO (Hx a b) FO (λ_ _ _ _ h=>h.2.2.1) (λ_ _ _ _ h=>h.2.2.2.1) (λ_ _ _ _ x h=>h.grow x) (λ_ _ _ _ a' h=>h.setA a') (λ_ _ _ _ b' h=>h.setB b') ?_ a b _ rfl FO ?_) λv H2 hq=>?_)
 ·intro out a b x X hpre hI
  have hlen:=hpre.length_le
  simp only [AF,AD,AH] at hlen
  obtain ⟨h1,h2,h3,h4,h5,ov,h6,h7⟩:=hI
  have f1 : ∀ z,(X++z)[H.length+3]? =some (some (G8 0 (mFv H.length))):=FU h5
  have f2 : ∀ y v,(X++[y]).set (H.length+3) v=X.set (H.length+3) v++[y]:=λy v=>BP _ _ FO
  have f3 : ∀ v z,(X.set (H.length+3) v++z)[H.length]? =some (some [ov]):=λv z=>FU (GA h6 FO v) z
  have f4 : ∀ v y,(X.set (H.length+3) v++[y])[X.length]? =some y:=λv y=>by
   have:X.length=(X.set (H.length+3) v).length:=sm
   rw [this];exact BT
  rcases h7 with ⟨rfl,rfl⟩|⟨ob,rfl,hne,hob,hrow⟩
  ·have f5 : ∀ v z w,(X.set (H.length+3) v++z).set H.length w=(X.set (H.length+3) v).set H.length w++z:=λv z w=>BP _ _ (by simp;omega)
   have f6 : ∀ v w z,((X.set (H.length+3) v).set H.length w++z)[H.length+3]? =some v:=λv w z=>FU (GA (IX FO v) FO w) z
   have f7 : ∀ v w z u,((X.set (H.length+3) v).set H.length w++z).set (H.length+3) u=(X.set H.length w).set (H.length+3) u++z:=λv w z u=>by
    rw [BP _ _ (by simp;omega),B7 _ _ FO,BD,B7 _ _ FO]
   have f8 : ∀ v w y z,((X.set (H.length+3) v).set H.length w++(y::z))[X.length]? =some y:=λv w y z=>by
    have:X.length=((X.set (H.length+3) v).set H.length w).length:=sm
    rw [this,AM (AU _),AO];rfl
   have f9 : ∀ v w z u,((X.set (H.length+3) v).set H.length w++z).set H.length u=(X.set (H.length+3) v).set H.length u++z:=λv w z u=>by
    rw [BP _ _ (by simp;omega),BD]
   have f10 : ∀ v w z,((X.set (H.length+3) v).set H.length w++z)[H.length]? =some w:=λv w z=>FU (IX (by simp;omega) w) z
   have hc1:x.c.length=10:=rfl
   have hc2:x.c.take 10=x.c:=rfl
   have hb1:List.map borrow1 (HU [AV.agg x.c])=GG [x]:=rfl
   refine Jv (h:=gK) (n:=16) mixed rfl ⟨kr,kr⟩ dc _ _ _ _ h5 rfl rfl ?_
   show I7 _ _ _ _ _ _ [(10,.agg x.c),(0,.undef),(1,.undef),(2,.undef),(3,.undef),(4,.undef),(5,.ptr H.length 0),(6,.undef),(7,.undef),(8,.undef),(9,.fn (.func 298) [] [.ptr (H.length+1) 0,.ptr (H.length+2) 0]),(10,.undef),(11,.undef),(12,.undef),(13,.undef),(14,.undef),(15,.undef)] _
   simp only [go_sem,f1]
   refine ⟨_,rfl, ?_⟩
   simp only [go_sem,f2,f3,f5,f6,f7,f8,f9,f10,hb1,hc1,hc2,AE,AR,AN,AF,Ap,AD,AH,AY]
   refine ⟨_,rfl, ?_⟩
   have hlX : ∀ w u,((X.set H.length w).set (H.length+3) u).length=X.length:=λw u=>sm
   have:=MI.put (fv:=mFv H.length) h1 h2 h3 h4 [some x.c,some (GG [x])] (out:=[x]) (ob:=X.length+1) sm FO (by rw [AM (by rw [hlX];omega),hlX,A0];rfl)
   exact this
  ·have hX2 : ∀ v,X.set (H.length+3) v=X.set (H.length+3) v:=λ_=>rfl
   have hoX:=(AC.1 hrow).1
   have f5 : ∀ v z,(X.set (H.length+3) v++z)[ob]? =some (some (GG out)):=λv z=>FU (GA hrow FO v) z
   have f6 : ∀ v z,(X.set (H.length+3) v++z).set ob none=(X.set (H.length+3) v).set ob none++z:=λv z=>BP _ _ (by simp;omega)
   have f8 : ∀ v z,((X.set (H.length+3) v).set ob none++z)[H.length]? =some (some [.msl ob 0 out.length 10]):=λv z=>FU (GA (GA h6 FO v) FO none) z
   have f9 : ∀ v z w,((X.set (H.length+3) v).set ob none++z).set H.length w=((X.set (H.length+3) v).set ob none).set H.length w++z:=λv z w=>BP _ _ (by simp;omega)
   have f10 : ∀ v w z,(((X.set (H.length+3) v).set ob none).set H.length w++z)[H.length+3]? =some v:=λv w z=>FU (GA (GA (IX FO v) FO none) FO w) z
   have f11 : ∀ v w z u,(((X.set (H.length+3) v).set ob none).set H.length w++z).set (H.length+3) u=((X.set ob none).set H.length w).set (H.length+3) u++z:=λv w z u=>by
    rw [BP _ _ (by simp;omega)]
    congr 1
    rw [B7 _ _ (show H.length≠H.length+3 by omega),B7 _ _ (show ob≠H.length+3 by omega),BD,B7 _ _ (show H.length+3≠ob by omega),B7 _ _ (show H.length+3≠H.length by omega)]
   have hcl:(GG out).length=out.length*10:=Ji out
   have hcb:(GG out).map borrow1=GG out:=WW out
   have hc1:x.c.length=10:=rfl
   have hc2:x.c.take 10=x.c:=rfl
   have hb1:List.map borrow1 (HU [AV.agg x.c])=x.c:=rfl
   refine Jv (h:=hM2) (n:=16) mixed rfl ⟨kr,kr⟩ dc _ _ _ _ h5 rfl rfl ?_
   show I7 _ _ _ _ _ _ [(10,.agg x.c),(0,.undef),(1,.undef),(2,.undef),(3,.undef),(4,.undef),(5,.ptr H.length 0),(6,.undef),(7,.undef),(8,.undef),(9,.fn (.func 298) [] [.ptr (H.length+1) 0,.ptr (H.length+2) 0]),(10,.undef),(11,.undef),(12,.undef),(13,.undef),(14,.undef),(15,.undef)] _
   simp only [go_sem,f1]
   refine ⟨_,rfl, ?_⟩
   simp only [go_sem,f2,f3,f4,f5,f6,f8,f9,f10,f11,hcl,hcb,hc1,hc2,hb1,AE,AR,AN,AF,Ap,AD,AH,AY]
   have hX1:H.length+4<=(X.set ob none).length:=by simpa using h1
   have hX2:(X.set ob none).take H.length=H:=by rw [CR FO];exact h2
   have hlX : ∀ w u,(((X.set ob none).set H.length w).set (H.length+3) u).length=X.length:=λw u=>sm
   refine ⟨FO,FO,_,rfl, ?_⟩
   have:=MI.put (fv:=mFv H.length) hX1 hX2 (GA h3 FO none) (GA h4 FO none) [some x.c,some (GG out++x.c)] (out:=out++[x]) (ob:=X.length+1) sm FO (by rw [AM (by rw [hlX];omega),hlX,A0,iU];rfl)
   simpa only [AF,AD,AH,AY] using this
 ·refine ⟨sm,by rw [AE,List.take_left], ?_, ?_, ?_,.sl (some 0) [], ?_,.inl ⟨rfl,rfl⟩⟩
  ·rw [AE,AM FO,A0];rfl
  ·rw [AE,AM FO,A0];rfl
  ·rw [AE,AM FO,A0];rfl
  ·rw [AE,AM (AU _),AO];rfl
 ·obtain ⟨h1,h2,h3,h4,h5,ov,h6,h7⟩:=hq
  refine ⟨0,_,h5,.inl ⟨rfl, ?_⟩⟩
  have hext : ∃ ext,H2.set (H.length+3) none=H++ext:=AB8 (by rw [CR FO];exact h2)
  have g6:=GA h6 (show H.length+3≠H.length by omega) none
  rcases h7 with ⟨e,rfl⟩|⟨ob,rfl,hne,hob,hrow⟩
  ·simp only [go_sem,g6]
   exact .inl ⟨by rw [e];rfl,⟨_,rfl⟩,hext⟩
  ·simp only [go_sem,g6]
   exact .inr ⟨ob,_,by rw [Aq],FO,hext,GA hrow FO none,[],(Ai _).symm⟩
def Qj{l:List Ex}: ∀ e∈l.map Head.c,e.length=10:=λe he=>by
 obtain ⟨x,_,rfl⟩:=AP.1 he
 rfl
def fw{l:List Ex}: ∀ e∈l.map Head.c,e.map borrow1=e:=λe he=>by
 obtain ⟨x,_,rfl⟩:=AP.1 he
 rfl
def Nh{l:List Ex}{n:Nat}: ∀ e∈l.map Head.c,Fo n e=true:=λe he=>by
 obtain ⟨x,_,rfl⟩:=AP.1 he
 rfl
def Om(l:List Ex):(l.map Head.c).map AV.agg=F4 l:=by rw [List.map_map];rfl
def NV(a b:List Ex)(hl:a.length+b.length<=1048576)(H:FP):GK AA 183 [.sl none (F4 a),.sl none (F4 b)] H (.sl none (F4 (Hx a b))):=by
 have:=yX Qj Nh fw (VO a b hl H)
 rw [Om] at this
 exact this
def NS:Option (List Ex)->AV
 | some r => .tup [.sl none (F4 r),.bool true]
 | none => .tup [.sl none [],.bool false]
@[go_sem] def AUI(o:Option (List Ex)):(NS o).pure=true:=by
 cases o<;>simp [NS,AV.pure,A',go_sem]
def Ls(r:List Ex)(b:Bool):FQ AA 182 [.sl none (F4 r),.bool b] (NS (if b=true then Wc r else none)):=by
 refine pB mu rfl ?_
 cases b with
 | false =>
  simp only [f182,go_sem]
  rfl
 | true =>
  simp only [f182,go_sem]
  repeat' (first|(first|apply cS|apply gS)<;>intro hc<;>simp only [go_sem,hc])
  ·rw [Wc,iP (by have:=of_decide_eq_true hc;omega)];rfl
  ·rw [Wc,iN (by have:=of_decide_eq_false hc;omega)];rfl
def AAD(o n:Nat)(b:Bool)(H:FP):FV AA 182 [.msl o 0 n 10,.bool b] H λv H'=>H'=H/\((b=true/\n<=256/\v = .tup [.msl o 0 n 10,.bool true])\/((b=false\/256<n) /\ ∃ w,v = .tup [.sl w [],.bool false])):=by
 refine aC mu rfl ?_
 cases b with
 | false =>
  simp only [f182,go_sem]
  exact .inr ⟨.inl trivial,_,rfl⟩
 | true =>
  simp only [f182,go_sem]
  repeat' (first|(first|apply cS|apply gS)<;>intro hc<;>simp only [go_sem,hc])
  ·have hc:=of_decide_eq_true hc
   first|exact ⟨rfl,.inr ⟨.inr FO,_,rfl⟩⟩|exact .inr ⟨.inr FO,_,rfl⟩|skip
  ·have hc:=of_decide_eq_false hc
   exact .inl FO
def AAE(w:Option Nat)(b:Bool)(H:FP):FV AA 182 [.sl w [],.bool b] H λv H'=>H'=H /\ ∃ w2,v = .tup [.sl w2 [],.bool b]:=by
 have z1:decide ((256:Int)<((0:Nat):Int))=false:=dc
 refine aC mu rfl ?_
 cases b<;>cases w<;>simp only [f182,go_sem,AH,z1]
 all_goals first|exact ⟨_,rfl⟩|exact ⟨rfl,_,rfl⟩|skip
def P1{α:Type}(l:List α)(i:Nat)(x:α)(h:i<l.length):(l.set i x).take (i+1)=l.take i++[x]:=by
 rw [BE,A3 h,CR (AU _)];rfl
def Qu : ∀ (l:List Ex) (r:List AV) (i:Nat),i<=l.length->(GG l++r).take (i*10)=GG (l.take i)
 | _,r,0,_=>by simp [GG]
 | [],r,i+1,h=>by simp at h
 | x::l,r,i+1,h=>by
  have e:(i+1)*10=x.c.length+i*10:=by
   have:x.c.length=10:=rfl
   omega
  rw [Iu,AE,e,List.take_length_add_append,Qu l r i (by simpa using h),CO,Iu]
def WU : ∀ (l:List Ex) (r:List AV) (i:Nat),i<=l.length->(GG l++r).drop (i*10)=GG (l.drop i)++r
 | _,r,0,_=>sm
 | [],r,i+1,h=>by simp at h
 | x::l,r,i+1,h=>by
  have e:(i+1)*10=x.c.length+i*10:=by
   have:x.c.length=10:=rfl
   omega
  rw [Iu,AE,e,List.drop_length_add_append,WU l r i (by simpa using h),List.drop_succ_cons]
def np(a b:List Ex):GG (a++b)=GG a++GG b:=by unfold GG;simp
def Zi{l:List Ex}(r:List AV){i:Nat}(h:i<l.length)(x:Ex):splice (GG l++r) (i*10) x.c=GG (l.set i x)++r:=by
 have e:i*10+x.c.length=(i+1)*10:=by
  have:x.c.length=10:=rfl
  omega
 unfold splice
 rw [e,Qu l r i FO,WU l r (i+1) FO,List.set_eq_take_append_cons_drop,iP h,np,Iu]
 simp only [AE]
def Y2(d:Ex->Bool): ∀ (l:List Ex) (k:Nat),(fq d k l = -1 /\ ∀ x∈l,d x=false) \/ ∃ (i:Nat) (x:Ex),fq d k l=((k+i:Nat):Int)/\l[i]? =some x/\d x=true /\ ∀ y∈l.take i,d y=false
 | [],k => .inl ⟨rfl,sm⟩
 | x::r,k=>by
  rw [fq]
  by_cases h:d x=true
  ·rw [iP h]
   exact .inr ⟨0,x,rfl,rfl,h,sm⟩
  ·rw [iN h]
   have h:d x=false:=by simpa using h
   rcases Y2 d r (k+1) with ⟨e,h2⟩|⟨i,y,e,h2,h3,h4⟩
   ·exact .inl ⟨e,by simpa [h] using h2⟩
   ·refine .inr ⟨i+1,y,by rw [e];congr 1;omega,h2,h3, ?_⟩
    rw [CO]
    intro z hz
    rcases AX.1 hz with rfl|hz
    ·exact h
    ·exact h4 z hz
def lg(H:FP)(f:Nat)(first cap:List AV):GK AA 300 [.sl none [],.fn (.func f) first cap] H (.int .i64 (-1)):=by
 refine aC ABc rfl ?_
 simp only [f300,go_sem]
 refine Fa ([]:List Ex) (λ_=>()) (λk=>[(0,.sl none []),(1,.fn (.func f) first cap),(7,.int .i64 ((0:Nat):Int)),(8,.int .i64 k)]) sm rfl ?_ ?_
 ·intro k y ys hd
  rw [List.drop_nil] at hd;cases hd
 ·intro _ hlt
  have z2:decide (((0:Nat):Int)<((0:Nat):Int))=false:=dc
  simp only [go_sem,z2]
def Zu(w:Option Nat)(H:FP)(f:Nat)(first cap:List AV):FV AA 250 [.sl w [],.fn (.func f) first cap] H λv H'=>H'=H /\ ∃ w2,v = .sl w2 []:=by
 have c1:=lg H f first cap
 have z1:((-1:Int) == -1)=true:=rfl
 refine aC ABf rfl ?_
 cases w with
 | none =>
  simp only [f250,go_sem]
  repeat' (first|(refine aS (c1) ?_;simp only [go_sem,z1])|(first|apply cS|apply gS)<;>intro hc<;>simp only [go_sem,hc,z1])
  all_goals first|exact ⟨_,rfl⟩|exact ⟨rfl,_,rfl⟩|skip
 | some w =>
  simp only [f250,go_sem]
  repeat' (first|(refine aS (c1) ?_;simp only [go_sem,z1])|(first|apply cS|apply gS)<;>intro hc<;>simp only [go_sem,hc,z1])
  all_goals first|exact ⟨_,rfl⟩|exact ⟨rfl,_,rfl⟩|skip
def r9 (l:List Ex) (hl:l.length<=1048576) (r:List AV) (H:FP) (o:Nat) (ho:H[o]? =some (some (GG l++r))) (f:Nat) (first cap:List AV) (d:Ex->Bool)
  (hd : ∀ x∈l,∀ c J,GK AA f (first.map AV.borrow++(.agg (Head.c x)::cap.map AV.borrow)) (H.set o (some c)++J) (.bool (d x))) :
  FV AA 250 [.msl o 0 l.length 10,.fn (.func f) first cap] H λv H' => ∃ r' J,v = .msl o 0 (l.filter λx => !d x).length 10/\H'=H.set o (some (GG (l.filter λx => !d x)++r'))++J:=by
 have hset:H.set o (some (GG l++r))=H:=by
  obtain ⟨hlt,he⟩:=AC.1 ho
  apply List.ext_getElem?
  intro i
  rw [List.getElem?_set]
  split
  ·rename_i hi;subst hi;rw [ho]
  ·rfl
 have hd0 : ∀ x∈l,GK AA f (first.map AV.borrow++(.agg (Head.c x)::cap.map AV.borrow)) H (.bool (d x)):=λx hx=>by
  have:=hd x hx (GG l++r) []
  rw [hset,Ai] at this
  exact this
 have c1:=AAV l FO r H o ho f first cap d hd0
 refine aC ABf rfl ?_
 rcases Y2 d l 0 with ⟨e,hall⟩|⟨i,x,e,hx,hdx,hpre⟩
 ·rw [e] at c1
  have hf:l.filter (λx => !d x)=l:=DP.2 λx hx=>by rw [hall x hx];rfl
  simp only [f250,go_sem]
  repeat' (first|(refine aS (c1) ?_;simp only [go_sem,Int.reduceBEq])|(first|apply cS|apply gS)<;>intro hc<;>simp only [go_sem,hc,Int.reduceBEq])
  all_goals first|exact ⟨r,[],by rw [hf],by rw [hf,hset,Ai]⟩|skip
 ·rw [e,AY] at c1
  have hn1:(((i:Nat):Int) == -1)=false:=by rw [beq_eq_false_iff_ne];omega
  have hi:=(AC.1 hx).1
  have hw0:=Mk (k:=i) FO
  simp only [f250,go_sem]
  repeat' (first|(refine aS (c1) ?_;simp only [go_sem,hn1,hw0])|(first|apply cS|apply gS)<;>intro hc<;>simp only [go_sem,hc,hn1,hw0])
  refine Ko (σ:=Nat×Nat×List Ex×FP×Fs) (λs=>(0,.msl o 0 l.length 10)::(1,.fn (.func f) first cap)::(5,.int .i64 s.1)::(6,.int .i64 s.2.1)::s.2.2.2.2) (λs=>H.set o (some (GG s.2.2.1++r))++s.2.2.2.1)
   (λs=>s.1<s.2.1/\s.2.1<=l.length/\s.2.2.1.length=l.length/\s.2.2.1.take s.1=(l.take s.2.1).filter (λx => !d x)/\s.2.2.1.drop s.2.1=l.drop s.2.1) (λs=>l.length - s.2.1) (i,i+1,l,[],[]) ⟨by dsimp only;omega,by dsimp only;omega,rfl, ?_,rfl⟩ ?_ ?_ ?_
  ·dsimp only
   rw [BE,hx,Cb]
   have h1:(l.take i).filter (λx => !d x)=l.take i:=DP.2 λz hz=>by rw [hpre z hz];rfl
   rw [h1]
   simp [hdx]
  ·rfl
  ·dsimp only
   rw [hset,Ai]
  ·rintro ⟨i,j,row,J,rest⟩ ⟨hij,hj,hrl,htk,hdr⟩
   dsimp only at hij hj hrl htk hdr ⊢
   have hoL:=(AC.1 ho).1
   have fO : ∀ c z,(H.set o c++z)[o]? =some c:=λc z=>FU (IX hoL c) z
   have fW : ∀ c z c',(H.set o c++z).set o c'=H.set o c'++z:=λc z c'=>by rw [BP _ _ (by simpa using hoL),BD]
   by_cases hlt:j<l.length
   ·have hy:=AL hlt
    have hry:row[j]? =some l[j]:=by
     have:=congrArg (·[0]?) hdr
     simpa [hy] using this
    have j0:(0:Int)<=(j:Int):=FO
    have j1:(j:Int)<(l.length:Int):=FO
    have k0:(0:Int)<=(i:Int):=FO
    have k1:(i:Int)<(l.length:Int):=FO
    have hwj:=Mk (k:=j) FO
    have hwi:=Mk (k:=i) FO
    have g1:=iT r hry
    rw [AF] at g1
    have g2:=WV row r j _ hry
    have fS : ∀ c z y,(H.set o c++(J++[z])).set (H.length+J.length) y=H.set o c++(J++[y]):=λc z y=>by
     rw [<- AE,<- AE]
     simp
    have fL : ∀ c y,(H.set o c++(J++[y]))[H.length+J.length]? =some y:=λc y=>by
     rw [<- AE]
     have:H.length+J.length=(H.set o c++J).length:=sm
     rw [this];exact BT
    have c2:=hd _ (AB hy) (GG row++r) (J++[some (Head.c l[j])])
    have hfil:(l.take (j+1)).filter (λx => !d x)=(l.take j).filter (λx => !d x)++(if d l[j]=true then [] else [l[j]]):=by
     rw [BE,hy,Cb]
     congr 1
     cases hd2:d l[j]<;>simp [hd2]
    have hc1:(Head.c l[j]).length=10:=rfl
    have hc2:(Head.c l[j]).take 10=Head.c l[j]:=rfl
    cases hdy:d l[j] with
    | false =>
     rw [hdy] at c2
     simp only [go_sem,j0,j1,dT,fO,g1,g2,fS,fL,hc1,hc2,AE,AF,Ap]
     repeat' (first|(refine aS (c2) ?_;simp only [go_sem,k0,k1,fO,fL,fW,hwi,hwj,hc1,hc2,AF])|(first|apply cS|apply gS)<;>intro hc<;>simp only [go_sem,hc,j0,j1,k0,k1,dT,fO,g1,g2,fS,fL,fW,hwi,hwj,hc1,hc2,AE,AF,Ap])
     have k2:i*10+10<=(GG row).length+r.length:=by rw [Ji];omega
     rw [iP k2,Zi r FO]
     refine ⟨(i+1,j+1,row.set i l[j],J++[some (Head.c l[j])],[]),⟨by dsimp only;omega,by dsimp only;omega,by simpa using hrl, ?_, ?_⟩,by dsimp only;omega,rfl,rfl⟩
     ·dsimp only
      rw [hfil,hdy,iN dc,<- htk,P1 row i l[j] FO]
     ·dsimp only
      rw [List.drop_set_of_lt FO,<- A8,hdr,A8]
    | true =>
     rw [hdy] at c2
     simp only [go_sem,j0,j1,dT,fO,g1,g2,fS,fL,hc1,hc2,AE,AF,Ap]
     repeat' (first|(refine aS (c2) ?_;simp only [go_sem,hwj])|(first|apply cS|apply gS)<;>intro hc<;>simp only [go_sem,hc,j0,j1,k0,k1,dT,fO,g1,g2,fS,fL,fW,hwi,hwj,hc1,hc2,AE,AF,Ap])
     refine ⟨(i,j+1,row,J++[some (Head.c l[j])],[]),⟨by dsimp only;omega,by dsimp only;omega,hrl, ?_, ?_⟩,by dsimp only;omega,rfl,rfl⟩
     ·dsimp only
      rw [hfil,hdy,iP rfl,Ai,htk]
     ·dsimp only
      rw [<- A8,hdr,A8]
   ·have hjl:j=l.length:=FO
    subst hjl
    simp only [go_sem,AW,dF]
    refine ⟨⟨FO,FO,FO⟩, ?_⟩
    simp only [go_sem,AFk,fO,fW,AF]
    rw [List.take_length] at htk
    have hkl:(l.filter λx => !d x).length=i:=by rw [<- htk,List.length_take];omega
    refine ⟨FO,by rw [Ji];omega,⟨FO,FO,.inl trivial⟩,Ga (AV.agg Head.z.c) (l.length - i)++(GG row++r).drop (i*10+(Ga (AV.agg Head.z.c) (l.length - i)).length),J,by rw [hkl];rfl, ?_⟩
    unfold splice
    rw [Qu row r i FO,htk,AE]
def rK{P:Program}{f:FuncId}{vs:List AV}{d:Option Tmp}{K:Kt}{e:Fs}{H:FP}{v:AV}(hc:PG P f vs H v)(hk:K (put d v e) H):pA P f vs d K e H:=⟨v,.inl hc,hk⟩
def fh(l:List Fld)(t:Int)(ot ow ol o:Nat)(H:FP):Prop :=
 H[ot]? =some (some [.int .i64 t])/\H[ow]? =some (some [.ptr o 0])/\(∃ w,H[ol]? =some (some [.sl w (GN l)])) /\
  H[o]? =some (some [.fn (.func 173) [] [.ptr ot 0,.ptr ow 0,.ptr ol 0],.fn (.func 179) [] [.ptr ow 0,.ptr ol 0]])
@[go_sem] def AU5(t:Tmp)(zs:List (Tmp×Option Nat×Bool))(Q:Exit->Kt)(e:Fs)(H:FP):AFW none t zs Q e H=Xj zs Q e H:=Eq.trans rfl rfl
@[go_sem] def AHI(a b c k:Nat):borrow0 (.msl a b c k) = .msl a b c k:=rfl
def FV.res{P:Program}{f:FuncId}{vs:List AV}{H:FP}{R:AV->FP->Prop}(h:FV P f vs H R):FV P f vs H λv H' => ∃ v0,R v0 H'/\v=v0.borrow :=
 ⟨h.1,λF G w us hc=>Calls.mono (h.2 F G w us hc) λe w' he=>by
  obtain ⟨u,rfl,v,H',G',h1,h2,h3⟩:=he
  exact ⟨u,rfl,v.borrow,H',G',⟨v,h1,rfl⟩,h2.borrowArgs,h3⟩⟩
def OV(a b:List Ex)(hl:a.length+b.length<=1048576)(w:Option Nat)(H:FP):FV AA 183 [.sl w (F4 a),.sl none (F4 b)] H λv H'=>SO ((Hx a b).map Head.c) v H H'/\v.borrow=v :=
 (FV.res (FV.weak (vs:=[.sl w (F4 a),.sl none (F4 b)]) (VO a b hl H))).mono λv H' h=>by
  obtain ⟨v0,h1,rfl⟩:=h
  refine ⟨?_,Tm v0⟩
  rcases h1 with ⟨e,⟨w,rfl⟩,h⟩|⟨ob,cs,rfl,h⟩
  ·exact .inl ⟨e,⟨none,rfl⟩,h⟩
  ·exact .inr ⟨ob,cs,rfl,h⟩
def Sb(b:Bool)(H:FP):FV AA 182 [.sl none [],.bool b] H λv H'=>H'=H/\v = .tup [.sl none [],.bool b] :=
 (FV.res (AAE none b H)).mono λv H' h=>by
  obtain ⟨v0,⟨rfl,w,rfl⟩,rfl⟩:=h
  exact ⟨rfl,rfl⟩
def Sa(o n:Nat)(b:Bool)(H:FP):FV AA 182 [.msl o 0 n 10,.bool b] H λv H'=>H'=H/\((b=true/\n<=256/\v = .tup [.msl o 0 n 10,.bool true])\/((b=false\/256<n)/\v = .tup [.sl none [],.bool false])) :=
 (FV.res (AAD o n b H)).mono λv H' h=>by
  obtain ⟨v0,⟨rfl,h⟩,rfl⟩:=h
  rcases h with ⟨h1,h2,rfl⟩|⟨h1,w,rfl⟩
  ·exact ⟨rfl,.inl ⟨h1,h2,rfl⟩⟩
  ·exact ⟨rfl,.inr ⟨h1,rfl⟩⟩
def AIM{f:AV->AV}{c:List AV}{a:AV}(h:c.map f=[a].map f): ∃ x,c=[x]/\f x=f a:=by
 match c,h with
 | [],h=>cases h
 | [x],h=>exact ⟨x,rfl,(List.cons.inj h).1⟩
 | _::_::_,h=>exact absurd (congrArg List.length h) sm
def Acq{f:AV->AV}{c:List AV}{a b:AV}(h:c.map f=[a,b].map f): ∃ x y,c=[x,y]/\f x=f a/\f y=f b:=by
 match c,h with
 | [],h=>cases h
 | [x],h=>exact absurd (congrArg List.length h) sm
 | [x,y],h=>exact ⟨x,y,rfl,(List.cons.inj h).1,(List.cons.inj (List.cons.inj h).2).1⟩
 | _::_::_::_,h=>exact absurd (congrArg List.length h) sm
section
variable {l:List Fld} {t:Int} {ot ow ol o:Nat}
def fh.grow{H:FP}(h:fh l t ot ow ol o H)(z:FP):fh l t ot ow ol o (H++z) :=
 let ⟨h1,h2,⟨w,h3⟩,h4⟩:=h;⟨FU h1 z,FU h2 z,⟨w,FU h3 z⟩,FU h4 z⟩
def Nq{x a:AV}(h:borrow1 x=borrow1 a)(ha : ∀ w es,a ≠ .sl w es):x=a:=by
 cases x<;>cases a<;>first|(exact h)|(exact absurd rfl (ha _ _))|(cases h)
def fh.view{H H2:FP}(hv:Gx H2=Gx H)(h:fh l t ot ow ol o H):fh l t ot ow ol o H2:=by
 obtain ⟨h1,h2,⟨w,h3⟩,h4⟩:=h
 obtain ⟨c1,g1,e1⟩:=Ka hv h1
 obtain ⟨c2,g2,e2⟩:=Ka hv h2
 obtain ⟨c3,g3,e3⟩:=Ka hv h3
 obtain ⟨c4,g4,e4⟩:=Ka hv h4
 refine ⟨?_, ?_, ?_, ?_⟩
 ·obtain ⟨x,rfl,hx⟩:=AIM e1
  rw [g1,Nq hx (by intro w es h;cases h)]
 ·obtain ⟨x,rfl,hx⟩:=AIM e2
  rw [g2,Nq hx (by intro w es h;cases h)]
 ·obtain ⟨x,rfl,hx⟩:=AIM e3
  cases x<;>first|(cases hx;done)|skip
  rename_i w' es
  have:es=GN l:=by
   have h5:AV.sl none es=AV.sl none (GN l):=hx
   cases h5;rfl
  subst this
  exact ⟨w',g3⟩
 ·obtain ⟨x,y,rfl,hx,hy⟩:=Acq e4
  rw [g4,Nq hx (by intro w es h;cases h),Nq hy (by intro w es h;cases h)]
end
def gvs(l:List Fld)(t:Int)(ot ow ol o:Nat)(p:Ey)(F:Ex->Option (List Ex)):Prop :=
 ∀ h,FX h=true -> ∀ H,fh l t ot ow ol o H->GK AA 179 [.agg p.c,.agg h.c,.ptr ow 0,.ptr ol 0] H (NS (F h))
def SO.base{es:List (List AV)}{v:AV}{B e X:FP}(h:SO es v (B++e) X):SO es v B X:=by
 rcases h with ⟨h1,h2,ext,rfl⟩|⟨ob,cs,h1,h2,⟨ext,rfl⟩,h4,h5⟩
 ·exact .inl ⟨h1,h2,e++ext,by rw [AE]⟩
 ·exact .inr ⟨ob,cs,h1,by rw [AF] at h2;omega,⟨e++ext,by rw [AE]⟩,h4,h5⟩
def SO.ext{es:List (List AV)}{v:AV}{B X:FP}(h:SO es v B X): ∃ ext,X=B++ext:=by
 rcases h with ⟨_,_,h⟩|⟨_,_,_,_,h,_⟩<;>exact h
def AEY(o:Option (List Ex)):NS o = .tup [.sl none (F4 (o.getD [])),.bool o.isSome]:=by cases o<;>rfl
def Tl(l:List Ex)(r:List AV):Ia true 10 l.length ((GG l++r).map borrow1)=F4 l:=by
 rw [Ar,WW]
 have:=Kj (l.map Head.c) (r.map borrow1) 10 Qj
 rw [Aq] at this
 rw [<- Om]
 exact this
def mh(F:Ex->Option (List Ex))(out:List Ex)(y:Ex)(ys:List Ex)(hs:LU out)(hg : ∀ r,F y=some r->LU r):
  JP F out (y::ys)=if (F y).isSome=true/\(Hx out ((F y).getD [])).length<=256 then JP F (Hx out ((F y).getD [])) ys else none:=by
 rw [JP]
 cases h:F y with
 | none=>rw [iN sm]
 | some a =>
  have e:=PT hs (hg a h)
  simp only [Option.isSome_some,Option.getD_some,true_and,e]
  by_cases hl:256<(Gt out a).length
  ·rw [iP hl,iN FO]
  ·rw [iN hl,iP FO]
def VL(l : List Fld)(t : Int)(ot ow ol o : Nat)(p : Ey)(F : Ex -> Option (List Ex))(hF : gvs l t ot ow ol o p F)(hg : ∀ h r, FX h = true -> F h = some r -> JB r)(xs : List Ex)(hx : ∀ z ∈ xs, FX z = true)(hl : xs.length <= 1048576)(H : FP)(hW : fh l t ot ow ol o H):
    FV AA 184 [.ptr o 0,.agg p.c,.sl none (F4 xs)] H λv H'=>(JP F [] xs=none/\(∃ w,v = .tup [.sl w [],.bool false]) /\ ∃ ext,H'=H++ext) \/ ∃ r v0,JP F [] xs=some r/\v = .tup [v0,.bool true]/\SO (r.map Head.c) v0 H H' := by
  refine aC AN3 rfl ?_
  simp only [f184,go_sem]
  refine Fm xs (λ(s:List Ex×AV×FP×Fs) r=>JP F s.1 r) (λ_ s=>JB s.1/\SO (s.1.map Head.c) s.2.1 (H++[some p.c]) s.2.2.1) (λk s=>(0,.ptr o 0)::(4,.ptr H.length 0)::(8,s.2.1)::(9,.bool true)::(14,.sl none (F4 xs))::(15,.int .i64 xs.length)::(16,.int .i64 k)::s.2.2.2) (λk s=>s.2.2.1) ([],.sl (some 10) [],H++[some p.c],[]) FO ⟨Lk,.inl ⟨rfl,⟨_,rfl⟩,[],(Ai _).symm⟩⟩ rfl rfl ?_ ?_
  · rintro k ⟨out,ov,X,rest⟩ y ys hd hx' ⟨go,hrow⟩ hI h0 h1 hw
    dsimp only at go hrow hI ⊢
    have hr := hx y (AB hx')
    obtain ⟨ext0,hX0⟩ := hrow.ext
    have hWX:fh l t ot ow ol o X := by rw [hX0,AE];exact hW.grow _
    have hpX:X[H.length]? =some (some p.c) := by
      rw [hX0,AE,AM (AU _),AO];rfl
    have eP : ∀ z,(X++z)[H.length]? =some (some p.c) := FU hpX
    have eW : ∀ z,(X++z)[o]? =some (some [.fn (.func 173) [] [.ptr ot 0,.ptr ow 0,.ptr ol 0],.fn (.func 179) [] [.ptr ow 0,.ptr ol 0]]) := FU hWX.2.2.2
    have hc : ∀ z,PG AA 179 [.agg p.c,.agg y.c,.ptr ow 0,.ptr ol 0] (X++z) (NS (F y)) := λz H2 hv=>hF y hr H2 ((hWX.grow z).view hv)
    rw [AEY] at hc
    have hst := mh F out y ys go.1 (λr h=>(hg y r hr h).1)
    have ga:JB ((F y).getD []) := by
      cases h:F y with
      | none=>exact Lk
      | some a=>exact hg y a hr h
    generalize hA:(F y).getD []=a at hc hst ga
    generalize hB:(F y).isSome=b at hc hst
    have hml := Oa (out.length+a.length+1) out a
    have hll:out.length+a.length<=1048576 := by have := go.2.1;have := ga.2.1;omega
    rcases hrow with ⟨e0,⟨w,rfl⟩,_⟩|⟨ob,cs,rfl,hob,_,hcs,r,rfl⟩
    · have e0:out=[] := by simpa using e0
      subst e0
      have hX2 : ∃ e2,X++[some y.c]=(H++[some p.c])++e2 := ⟨ext0++[some y.c],by rw [hX0,AE]⟩
      cases w with
      | none =>
        simp only [go_sem,h0,h1,IF hx',eP,eW]
        repeat' (first|(refine rK (hc _) ?_;simp only [go_sem])|(first|apply cS|apply gS)<;>intro hc<;>simp only [go_sem,hc,h0,h1,hw,IF hx',eP,eW])
        refine Fr.intro (OV [] a hll _ _) λv X3 hr3=>?_
        obtain ⟨e2,hX2⟩ := hX2
        obtain ⟨hr3,hbw⟩ := hr3
        rw [hX2] at hr3
        have hrb := hr3.base
        have hex := hrb.ext
        have hgm:b=true->(Hx ([]:List Ex) a).length<=256->JB (Hx ([]:List Ex) a) := λ_ hle=>by
          have e := PT go.1 ga.1
          rw [e] at hle ⊢
          exact Io go ga.2.2 FO
        rcases hr3 with ⟨e3,⟨w3,rfl⟩,_⟩|⟨ob3,cs3,rfl,hob3,_,hcs3,r3,rfl⟩
        · have hw3:w3=none := by cases w3 with
            | none=>rfl
            | some w3=>cases hbw
          subst hw3
          simp only [go_sem]
          refine Fr.intro (Sb b _) λv4 X4 hr4=>?_
          obtain ⟨rfl,rfl⟩ := hr4
          have e3 := DQ.1 e3
          have hle3:(Hx ([]:List Ex) a).length<=256 := by rw [e3];simp
          cases b with
          | true =>
            rw [iP ⟨rfl,hle3⟩] at hst
            simp only [go_sem,hw]
            exact ⟨(Hx ([]:List Ex) a,_,_,[]),hst,⟨hgm rfl hle3,hrb⟩,rfl,rfl⟩
          | false =>
            rw [iN sm] at hst
            simp only [go_sem]
            exact .inl ⟨hI.trans hst,⟨_,rfl⟩,by obtain ⟨ext,he⟩ := hex;exact ⟨_,by rw [he,AE]⟩⟩
        · simp only [go_sem,Aq]
          refine Fr.intro (Sa ob3 _ b _) λv4 X4 hr4=>?_
          obtain ⟨rfl,hr4⟩ := hr4
          rw [Aq] at hrb
          rcases hr4 with ⟨rfl,hle,rfl⟩|⟨hno,rfl⟩
          · rw [iP ⟨rfl,hle⟩] at hst
            simp only [go_sem,hw]
            exact ⟨(Hx ([]:List Ex) a,_,_,[]),hst,⟨hgm rfl hle,hrb⟩,rfl,rfl⟩
          · rw [iN (by rintro ⟨g1, g2⟩; rcases hno with hno|hno;(rw [g1] at hno;cases hno);omega)] at hst
            simp only [go_sem]
            exact .inl ⟨hI.trans hst,⟨_,rfl⟩,by obtain ⟨ext,he⟩ := hex;exact ⟨_,by rw [he,AE]⟩⟩
      | some w =>
        simp only [go_sem,h0,h1,IF hx',eP,eW]
        repeat' (first|(refine rK (hc _) ?_;simp only [go_sem])|(first|apply cS|apply gS)<;>intro hc<;>simp only [go_sem,hc,h0,h1,hw,IF hx',eP,eW])
        refine Fr.intro (OV [] a hll (some w) _) λv X3 hr3=>?_
        obtain ⟨e2,hX2⟩ := hX2
        obtain ⟨hr3,hbw⟩ := hr3
        rw [hX2] at hr3
        have hrb := hr3.base
        have hex := hrb.ext
        have hgm:b=true->(Hx ([]:List Ex) a).length<=256->JB (Hx ([]:List Ex) a) := λ_ hle=>by
          have e := PT go.1 ga.1
          rw [e] at hle ⊢
          exact Io go ga.2.2 FO
        rcases hr3 with ⟨e3,⟨w3,rfl⟩,_⟩|⟨ob3,cs3,rfl,hob3,_,hcs3,r3,rfl⟩
        · have hw3:w3=none := by cases w3 with
            | none=>rfl
            | some w3=>cases hbw
          subst hw3
          simp only [go_sem]
          refine Fr.intro (Sb b _) λv4 X4 hr4=>?_
          obtain ⟨rfl,rfl⟩ := hr4
          have e3 := DQ.1 e3
          have hle3:(Hx ([]:List Ex) a).length<=256 := by rw [e3];simp
          cases b with
          | true =>
            rw [iP ⟨rfl,hle3⟩] at hst
            simp only [go_sem,hw]
            exact ⟨(Hx ([]:List Ex) a,_,_,[]),hst,⟨hgm rfl hle3,hrb⟩,rfl,rfl⟩
          | false =>
            rw [iN sm] at hst
            simp only [go_sem]
            exact .inl ⟨hI.trans hst,⟨_,rfl⟩,by obtain ⟨ext,he⟩ := hex;exact ⟨_,by rw [he,AE]⟩⟩
        · simp only [go_sem,Aq]
          refine Fr.intro (Sa ob3 _ b _) λv4 X4 hr4=>?_
          obtain ⟨rfl,hr4⟩ := hr4
          rw [Aq] at hrb
          rcases hr4 with ⟨rfl,hle,rfl⟩|⟨hno,rfl⟩
          · rw [iP ⟨rfl,hle⟩] at hst
            simp only [go_sem,hw]
            exact ⟨(Hx ([]:List Ex) a,_,_,[]),hst,⟨hgm rfl hle,hrb⟩,rfl,rfl⟩
          · rw [iN (by rintro ⟨g1, g2⟩; rcases hno with hno|hno;(rw [g1] at hno;cases hno);omega)] at hst
            simp only [go_sem]
            exact .inl ⟨hI.trans hst,⟨_,rfl⟩,by obtain ⟨ext,he⟩ := hex;exact ⟨_,by rw [he,AE]⟩⟩
    · have hcs' : ∀ z,(X++z)[ob]? =some (some (GG out++r)) := FU hcs
      have hle:(GG out++r).length≥out.length*10 := by rw [AF,Ji];omega
      have hle2:out.length*10<=(GG out++r).length := hle
      have hch := Tl out r
      have hX2 : ∃ e2,(X++[some y.c]).set ob none=(H++[some p.c])++e2 := by
        rw [hX0,AE,ab hob]
        exact ⟨_,rfl⟩
      simp only [go_sem,h0,h1,IF hx',eP,eW,Aq]
      repeat' (first|(refine rK (hc _) ?_;simp only [go_sem,hcs',hle2,hch])|(first|apply cS|apply gS)<;>intro hc<;>simp only [go_sem,hc,h0,h1,hw,IF hx',eP,eW,Aq,hcs',hle2,hch])
      refine Fr.intro (OV out a hll _ _) λv X3 hr3=>?_
      obtain ⟨e2,hX2⟩ := hX2
      obtain ⟨hr3,hbw⟩ := hr3
      rw [hX2] at hr3
      have hrb := hr3.base
      have hex := hrb.ext
      have hgm:b=true->(Hx out a).length<=256->JB (Hx out a) := λ_ hle=>by
        have e := PT go.1 ga.1
        rw [e] at hle ⊢
        exact Io go ga.2.2 FO
      rcases hr3 with ⟨e3,⟨w3,rfl⟩,_⟩|⟨ob3,cs3,rfl,hob3,_,hcs3,r3,rfl⟩
      · have hw3:w3=none := by cases w3 with
          | none=>rfl
          | some w3=>cases hbw
        subst hw3
        simp only [go_sem]
        refine Fr.intro (Sb b _) λv4 X4 hr4=>?_
        obtain ⟨rfl,rfl⟩ := hr4
        have e3 := DQ.1 e3
        have hle3:(Hx out a).length<=256 := by rw [e3];simp
        cases b with
        | true =>
          rw [iP ⟨rfl,hle3⟩] at hst
          simp only [go_sem,hw]
          exact ⟨(Hx out a,_,_,[]),hst,⟨hgm rfl hle3,hrb⟩,rfl,rfl⟩
        | false =>
          rw [iN sm] at hst
          simp only [go_sem]
          exact .inl ⟨hI.trans hst,⟨_,rfl⟩,by obtain ⟨ext,he⟩ := hex;exact ⟨_,by rw [he,AE]⟩⟩
      · simp only [go_sem,Aq]
        refine Fr.intro (Sa ob3 _ b _) λv4 X4 hr4=>?_
        obtain ⟨rfl,hr4⟩ := hr4
        rw [Aq] at hrb
        rcases hr4 with ⟨rfl,hle,rfl⟩|⟨hno,rfl⟩
        · rw [iP ⟨rfl,hle⟩] at hst
          simp only [go_sem,hw]
          exact ⟨(Hx out a,_,_,[]),hst,⟨hgm rfl hle,hrb⟩,rfl,rfl⟩
        · rw [iN (by rintro ⟨g1, g2⟩; rcases hno with hno|hno;(rw [g1] at hno;cases hno);omega)] at hst
          simp only [go_sem]
          exact .inl ⟨hI.trans hst,⟨_,rfl⟩,by obtain ⟨ext,he⟩ := hex;exact ⟨_,by rw [he,AE]⟩⟩
  · rintro ⟨out,ov,X,rest⟩ ⟨go,hrow⟩ hI
    dsimp only at go hrow hI ⊢
    have hfin:SO (out.map Head.c) ov H X := hrow.base
    rcases hrow with ⟨e0,⟨w,rfl⟩,_⟩|⟨ob,cs,rfl,hob,_,hcs,r,rfl⟩
    · cases w with
      | none =>
        simp only [go_sem,AW,dF]
        exact .inr ⟨out,_,by rw [hI];rfl,rfl,hfin⟩
      | some w =>
        simp only [go_sem,AW,dF]
        exact .inr ⟨out,_,by rw [hI];rfl,rfl,hfin⟩
    · simp only [go_sem,AW,dF]
      exact .inr ⟨out,_,by rw [hI];rfl,rfl,hfin⟩
end Go.AI
namespace Go.AI
open Go.Proofs
set_option maxRecDepth 50000
def dz(l:List Fld)(t:Int)(ot ow ol o:Nat)(p:Ey)(F:Ex->Option (List Ex))(hF:gvs l t ot ow ol o p F)(hg : ∀ h r,FX h=true->F h=some r->JB r)(xs:List Ex)(hx : ∀ z∈xs,FX z=true)(hl:xs.length<=1048576)(H:FP)(hW:fh l t ot ow ol o H):
  FV AA 184 [.ptr o 0,.agg p.c,.sl none (F4 xs)] H λv H'=>(JP F [] xs=none/\v = .tup [.sl none [],.bool false] /\ ∃ ext,H'=H++ext) \/ ∃ r v0,JP F [] xs=some r/\v = .tup [v0,.bool true]/\SO (r.map Head.c) v0 H H'/\v0.borrow=v0 :=
 (FV.res (VL l t ot ow ol o p F hF hg xs hx hl H hW)).mono λv H' h=>by
  obtain ⟨v1,h1,rfl⟩:=h
  rcases h1 with ⟨h1,⟨w,rfl⟩,h2⟩|⟨r,v0,h1,rfl,h2⟩
  ·exact .inl ⟨h1,rfl,h2⟩
  ·rcases h2 with ⟨e,⟨w,rfl⟩,h⟩|⟨ob,cs,rfl,h⟩
   ·exact .inr ⟨r,.sl none [],h1,rfl,.inl ⟨e,⟨none,rfl⟩,h⟩,rfl⟩
   ·exact .inr ⟨r,_,h1,rfl,.inr ⟨ob,cs,rfl,h⟩,rfl⟩
def AEm(l:List Fld)(t:Int)(ot ow ol o:Nat)(p:Ey)(F:Ex->Option (List Ex))(hF:gvs l t ot ow ol o p F)(hg : ∀ h r,FX h=true->F h=some r->JB r)(xs:List Ex)(hx : ∀ z∈xs,FX z=true)(hl:xs.length<=1048576)(H:FP)(hW:fh l t ot ow ol o H):
  GK AA 184 [.ptr o 0,.agg p.c,.sl none (F4 xs)] H (NS (JP F [] xs)):=by
 have h:=VL l t ot ow ol o p F hF hg xs hx hl H hW
 cases e:JP F [] xs with
 | none =>
  have:=XD (es:=[]) (b:=false) sm sm  sm (h.mono λv H' hr=>by
   rcases hr with ⟨_,⟨w,rfl⟩,he⟩|⟨r,v0,h1,_⟩
   ·exact ⟨_,rfl,.inl ⟨rfl,⟨w,rfl⟩,he⟩⟩
   ·rw [e] at h1;cases h1)
  exact this
 | some r =>
  have:=XD (es:=r.map Head.c) (b:=true) Qj Nh fw (h.mono λv H' hr=>by
   rcases hr with ⟨h1,_⟩|⟨r',v0,h1,rfl,h2⟩
   ·rw [e] at h1;cases h1
   ·rw [e] at h1;cases h1
    exact ⟨v0,rfl,h2⟩)
  rw [Om] at this
  exact this
def P5(H:FP)(f:Nat)(first cap:List AV):FV AA 250 [.sl none [],.fn (.func f) first cap] H λv H'=>H'=H/\v = .sl none [] :=
 (FV.res (Zu none H f first cap)).mono λv H' h=>by
  obtain ⟨v0,⟨rfl,w,rfl⟩,rfl⟩:=h
  exact ⟨rfl,rfl⟩
def nX(F:Ex->Option (List Ex)):Nat->List Ex->List Ex->Nat->Nat
 | 0,_,_,j=>j
 | k+1,o,n,j=>match JP F [] n with
  | none=>0
  | some m=>if IV o m=[] then j else nX F k (Gt o (IV o m)) (IV o m) (j+1)
def AEX:Option (List Ex)->Nat->AV
 | some r,n => .tup [.sl none (F4 r),.int .i64 n,.bool true]
 | none,_ => .tup [.sl none [],.int .i64 0,.bool false]
def AAq{o n:List Ex}(h:LU n):LU (IV o n):=List.Pairwise.filter _ h
def WF{H Y:FP}(h : ∃ e,Y=H++e)(i:Nat)(hi:H.length<=i)(c:Option (List AV)): ∃ e,Y.set i c=H++e:=by
 obtain ⟨e,rfl⟩:=h
 exact ⟨_,BS _ _ hi⟩
def AEh(l : List Fld)(t : Int)(ot ow ol o : Nat)(p : Ey)(F : Ex -> Option (List Ex))(hF : gvs l t ot ow ol o p F)(hg : ∀ h r, FX h = true -> F h = some r -> JB r)(h : Ex)(hr : FX h = true)(H : FP)(hW : fh l t ot ow ol o H):
    FV AA 185 [.ptr o 0,.agg p.c,.agg h.c] H λv H'=>v.borrow=AEX (LB F 300 [h] [h]) (nX F 300 [h] [h] 0) /\ ∃ ext,H'=H++ext := by
  refine aC ANx rfl ?_
  have q0 : ∀ (a b c:Option (List AV)) z,(H++(a::b::c::z))[H.length]? =some a := λa b c z=>by rw [AM (AU _),AO];rfl
  have q1 : ∀ (a b c:Option (List AV)) z,(H++(a::b::c::z))[H.length+1]? =some b := λa b c z=>by rw [AM FO,A0];rfl
  have q2 : ∀ (a b c:Option (List AV)) z,(H++(a::b::c::z))[H.length+2]? =some c := λa b c z=>by rw [AM FO,A0];rfl
  have q3 : ∀ (a b:Option (List AV)),(H++[a,b])[H.length+1]? =some b := λa b=>by rw [AM FO,A0];rfl
  have q4 : ∀ (a b c d:Option (List AV)),(H++[a,b,c]).set (H.length+2) d=H++[a,b,d] := λa b c d=>by rw [BS _ _ FO,A0];rfl
  simp only [f185,go_sem,q2,q3,q4,AF,AE,AR,AN,AD,AH,Nat.reduceAdd]
  refine Ko (σ := Nat×List Ex×List Ex×FP×Fs) (λs=>(0,.ptr o 0)::(4,.ptr H.length 0)::(9,.ptr (H.length+2) 0)::(10,.int .i64 s.1)::(11,.sl none (F4 s.2.2.1))::s.2.2.2.2) (λs=>s.2.2.2.1)
    (λs=>JB s.2.1/\(∀ z∈s.2.2.1,FX z=true)/\s.2.2.1.length<=256/\s.2.2.1≠[]/\s.1+1<=s.2.1.length/\H.length+3<=s.2.2.2.1.length/\(∃ ext,s.2.2.2.1=H++ext)/\s.2.2.2.1[H.length]? =some (some p.c)/\(∃ w,s.2.2.2.1[H.length+2]? =some (some [.sl w (F4 s.2.1)])) /\
      LB F 300 [h] [h]=LB F (300 - s.1) s.2.1 s.2.2.1/\nX F 300 [h] [h] 0=nX F (300 - s.1) s.2.1 s.2.2.1 s.1)
    (λs=>300 - s.1) (0,[h],[h],_,[]) ⟨Pb hr,by simpa using hr,by simp,by simp,by simp,by simp,⟨_,rfl⟩,q0 _ _ _ _,⟨_,q2 _ _ _ _⟩,rfl,rfl⟩ rfl rfl ?_
  rintro ⟨j,all,last,X,rest⟩ ⟨go,gl,hll,hne,hj,hX3,⟨ext,hXe⟩,hp0,⟨w,hc0⟩,hG,hJ⟩
  dsimp only at go gl hll hne hj hX3 hXe hp0 hc0 hG hJ ⊢
  generalize LB F 300 [h] [h]=R at hG ⊢
  generalize nX F 300 [h] [h] 0=N at hJ ⊢
  have hal := go.2.1
  obtain ⟨k,hk⟩ : ∃ k,300 - j=k+1 := ⟨299 - j,by omega⟩
  have e300:300 - (j+1)=k := by omega
  rw [hk,LB,iN hne] at hG
  rw [hk,nX] at hJ
  have hWX:fh l t ot ow ol o X := by rw [hXe];exact hW.grow _
  have c1 := dz l t ot ow ol o p F hF hg last gl FO X hWX
  simp only [go_sem,hp0]
  refine Fr.intro c1 λv X1 hr1=>?_
  rcases hr1 with ⟨hn,rfl,ext1,rfl⟩|⟨m,v0,hm,rfl,hrow,hbw⟩
  · rw [hn] at hG hJ
    have hc1 : ∀ z,(X++z)[H.length+2]? =some (some [.sl w (F4 all)]) := FU hc0
    have s1 : ∀ z c,(X++z).set (H.length+2) c=X.set (H.length+2) c++z := λz c=>BP _ _ FO
    have c3 := NV all [] (by simp;omega) (X++ext1)
    have c4 := Ls (Hx all []) false
    rw [iN dc,show NS none = .tup [.sl none [],.bool false] from rfl] at c4
    have hfe := WF (H := H) (Y := X++ext1) ⟨ext++ext1,by rw [hXe,AE]⟩ (H.length+2) FO
    simp only [go_sem]
    refine Fr.intro (P5 _ _ _ _) λv X2 hr2=>?_
    obtain ⟨rfl,rfl⟩ := hr2
    simp only [go_sem,hc1]
    repeat' (first|((first|refine aS (c3) ?_|refine aP (c4) ?_);simp only [go_sem,hc1])|(first|apply cS|apply gS)<;>intro hc<;>simp only [go_sem,hc,hc1])
    exact ⟨by rw [hG];rfl,hfe _⟩
  · have gm := Pc hg last [] m Lk gl hm
    rw [hm] at hG hJ
    dsimp only at hG hJ
    obtain ⟨ext1,hX1⟩ := hrow.ext
    have hc1:X1[H.length+2]? =some (some [.sl w (F4 all)]) := by rw [hX1];exact FU hc0 _
    have hp1:X1[H.length]? =some (some p.c) := by rw [hX1];exact FU hp0 _
    rcases hrow with ⟨e0,⟨w3,rfl⟩,_⟩|⟨ob,cs,rfl,hob,_,hcs,r,rfl⟩
    · have hw3:w3=none := by cases w3 with
        | none=>rfl
        | some w3=>cases hbw
      subst hw3
      have e0:m=[] := DQ.1 e0
      subst e0
      have hn0:IV all []=[] := rfl
      rw [hn0] at hG hJ
      rw [iP rfl] at hJ
      have hme:Gt all []=all := rfl
      rw [hme,iN FO] at hG
      have hG2:R=some all := by
        rw [hG]
        obtain ⟨k',rfl⟩ : ∃ k',k=k'+1 := ⟨k - 1,by omega⟩
        rw [LB,iP rfl]
      have hfe := WF (H := H) (Y := X1) ⟨ext++ext1,by rw [hX1,hXe,AE]⟩ (H.length+2) FO
      have hl1:H.length+2<X1.length := (AC.1 hc1).1
      have fG : ∀ c,(X1.set (H.length+2) c)[H.length+2]? =some c := λc=>IX hl1 c
      simp only [go_sem]
      refine Fr.intro (P5 _ _ _ _) λv X2 hr2=>?_
      obtain ⟨rfl,rfl⟩ := hr2
      have c3 := NV all [] (by simp;omega) X2
      have c4 := Ls (Hx all []) true
      rw [mC] at c3 c4
      rw [iP rfl,Wc,iN FO,show NS (some all) = .tup [.sl none (F4 all),.bool true] from rfl] at c4
      have z2:(((0:Nat):Int)==(0:Int))=true := rfl
      simp only [go_sem,hc1]
      repeat' (first|((first|refine aS (c3) ?_|refine aP (c4) ?_);simp only [go_sem,hc1,fG,z2])|(first|apply cS|apply gS)<;>intro hc<;>simp only [go_sem,hc,hc1,fG,z2])
      all_goals first|(exact ⟨by rw [hG2,hJ];rfl,hfe _⟩)|skip
    · have hcs':X1[ob]? =some (some (GG m++r)) := hcs
      have hnob:ob≠H.length+2 := by omega
      have hd : ∀ x∈m,∀ c J,GK AA 251 (([]:List AV).map AV.borrow++(.agg (Head.c x)::([.ptr (H.length+2) 0]:List AV).map AV.borrow)) (X1.set ob (some c)++J) (.bool (all.any λy=>decide (y=x))) := λx _ c J =>
        AEi all go.1 FO x _ (H.length+2) w (FU (GA hc1 hnob _) J)
      have c2 := r9 m (by have := gm.2.1;omega) r X1 ob hcs' 251 [] [.ptr (H.length+2) 0] (λx=>all.any λy=>decide (y=x)) hd
      simp only [go_sem,Aq]
      refine Fr.intro c2 λv X2 hr2=>?_
      obtain ⟨r',J,rfl,rfl⟩ := hr2
      have hkept:(m.filter λx => !(all.any λy=>decide (y=x)))=IV all m := rfl
      rw [hkept]
      have hob1:ob<X1.length := (AC.1 hcs').1
      have hg1:(X1.set ob (some (GG (IV all m)++r'))++J)[ob]? =some (some (GG (IV all m)++r')) := FU (IX hob1 _) J
      have hg2:(IV all m).length*10<=(GG (IV all m)++r').length := by rw [AF,Ji];omega
      have hg3 := Tl (IV all m) r'
      have hg4:(X1.set ob (some (GG (IV all m)++r'))++J).set ob none=X1.set ob none++J := by rw [BP _ _ (by simpa using hob1),BD]
      have gn:LU (IV all m) := AAq gm.1
      have hgnew : ∀ z∈IV all m,FX z=true := λz hz=>gm.2.2 z (VW.1 hz).1
      have hnl:(IV all m).length<=m.length := AAr all m
      have hml := gm.2.1
      have hY2:(X1.set ob none++J)[H.length+2]? =some (some [.sl w (F4 all)]) := FU (GA hc1 hnob _) J
      have hY0:(X1.set ob none++J)[H.length]? =some (some p.c) := FU (GA hp1 FO _) J
      have hYe : ∃ e,X1.set ob none++J=H++e := by
        rw [hX1, hXe, AE, ab (by (have : X.length = H.length + ext.length := by rw [hXe, AF]);omega),AE]
        exact ⟨_,rfl⟩
      have c3 := NV all (IV all m) FO (X1.set ob none++J)
      have c4 := Ls (Hx all (IV all m)) true
      rw [PT go.1 gn] at c3 c4
      generalize hY:X1.set ob none++J=Y at hg4 hY2 hY0 hYe c3
      have hYl:H.length+2<Y.length := (AC.1 hY2).1
      have hfe := WF (H := H) (Y := Y) hYe (H.length+2) FO
      have fG : ∀ c,(Y.set (H.length+2) c)[H.length+2]? =some c := λc=>IX hYl c
      by_cases hbig:256<(Gt all (IV all m)).length
      · rw [iP hbig] at hG
        rw [iP rfl,Wc,iP hbig,show NS none = .tup [.sl none [],.bool false] from rfl] at c4
        simp only [go_sem,hg1,hg2,hg3,hg4,hY2]
        repeat' (first|((first|refine aS (c3) ?_|refine aP (c4) ?_);simp only [go_sem,hY2])|(first|apply cS|apply gS)<;>intro hc<;>simp only [go_sem,hc,hY2,fG])
        all_goals first|(exact ⟨by rw [hG];rfl,hfe _⟩)|skip
      · rw [iN hbig] at hG
        rw [iP rfl,Wc,iN hbig,show ∀ r,NS (some r) = .tup [.sl none (F4 r),.bool true] from λ_=>rfl] at c4
        by_cases hn0:IV all m=[]
        · have hme:Gt all (IV all m)=all := by rw [hn0];rfl
          rw [iP hn0] at hJ
          have hG2:R=some (Gt all (IV all m)) := by
            rw [hG,hn0]
            obtain ⟨k',rfl⟩ : ∃ k',k=k'+1 := ⟨k - 1,by omega⟩
            rw [LB,iP rfl]
          have z1:(((IV all m).length:Int)==0)=true := by rw [hn0];rfl
          simp only [go_sem,hg1,hg2,hg3,hg4,hY2]
          repeat' (first|((first|refine aS (c3) ?_|refine aP (c4) ?_);simp only [go_sem,hY2,fG,z1])|(first|apply cS|apply gS)<;>intro hc<;>simp only [go_sem,hc,hY2,fG,z1])
          all_goals first|(exact ⟨by rw [hG2,hJ];rfl,hfe _⟩)|skip
        · rw [iN hn0] at hJ
          have hpos:0<(IV all m).length := List.length_pos_iff.2 hn0
          have hmn := sY hn0
          have z1:(((IV all m).length:Int)==0)=false := by rw [beq_eq_false_iff_ne];omega
          have hwj := Mk (k := j) FO
          simp only [go_sem,hg1,hg2,hg3,hg4,hY2]
          repeat' (first|((first|refine aS (c3) ?_|refine aP (c4) ?_);simp only [go_sem,hY2,z1,hwj])|(first|apply cS|apply gS)<;>intro hc<;>simp only [go_sem,hc,hY2,fG,z1,hwj])
          refine ⟨(j+1,Gt all (IV all m),IV all m,_,[]),⟨Io go hgnew hbig,hgnew,by dsimp only;omega,hn0,by dsimp only;omega,by simp;omega,hfe _,GA hY0 FO _,⟨none,fG _⟩,by dsimp only;rw [e300];exact hG,by dsimp only;rw [e300];exact hJ⟩,by dsimp only;omega,rfl,rfl⟩
def AH7(l:List Fld)(t:Int)(ot ow ol o:Nat)(p:Ey)(F:Ex->Option (List Ex))(hF:gvs l t ot ow ol o p F)(hg : ∀ h r,FX h=true->F h=some r->JB r)(h:Ex)(hr:FX h=true)(H:FP)(hW:fh l t ot ow ol o H):
  GK AA 185 [.ptr o 0,.agg p.c,.agg h.c] H (AEX (LB F 300 [h] [h]) (nX F 300 [h] [h] 0)):=by
 refine FV.drop ?_ ((FV.res (AEh l t ot ow ol o p F hF hg h hr H hW)).mono λv H' hx=>?_)
 ·cases LB F 300 [h] [h] with
  | none=>rfl
  | some r =>
   show Fo _ _=true
   simp only [Fo,AV.bnd,Bj]
   have:=NQ (n:=H.length) (es:=r.map Head.c) Nh
   rw [Om] at this
   simpa [AV.bnd] using this
 ·obtain ⟨v0,⟨h1,h2⟩,rfl⟩:=hx
  exact ⟨h1,h2⟩
def pj:FX Head.z=true:=dc
def SP{f:Fld}(hf:HE f){n m:Nat}(hn:n<2^fW f):FX (VI f n m).mask=true/\FX (VI f n m).bits=true :=
 ⟨NR hf (fC _ _) pj,NR hf (Nat.lt_of_le_of_lt Nat.and_le_left hn) pj⟩
def q_0(H:FP)(a:Option (List AV))(z:FP):(H++(a::z))[H.length]? =some a:=by rw [AM (AU _),AO];rfl
def q_1(H:FP)(a b:Option (List AV))(z:FP):(H++(a::b::z))[H.length+1]? =some b:=by rw [AM FO,A0];rfl
def q_2(H:FP)(a b c:Option (List AV))(z:FP):(H++(a::b::c::z))[H.length+2]? =some c:=by rw [AM FO,A0];rfl
def AVe(H:FP)(a b c d:Option (List AV)):(H++[a,b,c]).set (H.length+2) d=H++[a,b,d]:=by rw [BS _ _ FO,A0];rfl
def dw(l:List Fld)(hl:I3 l)(hln:l.length<=9223372036854775807)(t:Int)(ot ow ol o:Nat): ∀ x:Pred,IK l x -> ∀ h,FX h=true -> ∀ H,fh l t ot ow ol o H->GK AA 173 [.agg x.c,.agg h.c,.ptr ot 0,.ptr ow 0,.ptr ol 0] H (.bool (hP l t x h)) := by
  refine JS _ λx ih=>λhx h hr H hW=>?_
  have hc : ∀ a,a∈x.args->IK l a -> ∀ z,PG AA 173 [.agg a.c,.agg h.c,.ptr ot 0,.ptr ow 0,.ptr ol 0] (H++z) (.bool (hP l t a h)) := λa ha ga z H2 hv=>ih a ha ga h hr H2 ((hW.grow z).view hv)
  obtain ⟨w1,w2,⟨w,w3⟩,w4⟩ := hW
  have eT := FU w1
  have eO := FU w2
  have eL := FU w3
  have eF := FU w4
  have q0 := q_0 H
  have q1 := q_1 H
  have q2 := q_2 H
  have s2 := AVe H
  rw [AWG]
  refine FV.drop rfl ?_
  rcases m9 hl hx with k|k|k|⟨k,a,ha,ga⟩|⟨k,a,b,ha,ga,gb⟩|⟨k,hf,hfo,hn,hn2⟩|⟨k,⟨hf,hfo,hn,hn2⟩,hm,hm2⟩|⟨k,hf,hfo,hn,hnm,hm2⟩
  · refine aC Ni rfl ?_
    simp only [f173,go_sem,eT,eO,eL,eF,q0,q1,q2,s2,AF,AE,AR,AN,AD,AH,Ag,Nat.reduceAdd,k,Int.reduceBEq]
    repeat' (first|(first|apply cS|apply gS)<;>intro hc<;>simp only [go_sem,hc,Int.reduceBEq,k,eT,eO,eL,eF,q0,q1,q2,s2,AF,AE,AR,AN,AD,AH,Ag,Nat.reduceAdd])
    all_goals first|rfl|skip
  · refine aC Ni rfl ?_
    simp only [f173,go_sem,eT,eO,eL,eF,q0,q1,q2,s2,AF,AE,AR,AN,AD,AH,Ag,Nat.reduceAdd,k,Int.reduceBEq]
    repeat' (first|(first|apply cS|apply gS)<;>intro hc<;>simp only [go_sem,hc,Int.reduceBEq,k,eT,eO,eL,eF,q0,q1,q2,s2,AF,AE,AR,AN,AD,AH,Ag,Nat.reduceAdd])
    all_goals first|rfl|skip
  · refine aC Ni rfl ?_
    simp only [f173,go_sem,eT,eO,eL,eF,q0,q1,q2,s2,AF,AE,AR,AN,AD,AH,Ag,Nat.reduceAdd,k,Int.reduceBEq]
    repeat' (first|(first|apply cS|apply gS)<;>intro hc<;>simp only [go_sem,hc,Int.reduceBEq,k,eT,eO,eL,eF,q0,q1,q2,s2,AF,AE,AR,AN,AD,AH,Ag,Nat.reduceAdd])
    all_goals first
      | (show AV.bool _ = AV.bool (decide (x.n <= t) && decide (t < x.m))
         rw [hc];rfl)
      | skip
  · have c1 := hc a (by rw [ha];simp) ga
    have e1:Qr (mo l t x.args) 0 h=hP l t a h := ml l t (by rw [ha];rfl) h
    have g1:(0:Int)<(x.args.length:Int) := by rw [ha];simp
    have g2 := Fp (l := x.args) (i := 0) (x := a) (by rw [ha];rfl)
    refine aC Ni rfl ?_
    simp only [f173,go_sem,eT,eO,eL,eF,q0,q1,q2,s2,AF,AE,AR,AN,AD,AH,Ag,Nat.reduceAdd,k,Int.reduceBEq,g1,g2]
    repeat' (first|(refine rK (c1 _) ?_;simp only [go_sem,Int.reduceBEq,k,eT,eO,eL,eF,q0,q1,q2,s2,AF,AE,AR,AN,AD,AH,Ag,Nat.reduceAdd,g1,g2])|(first|apply cS|apply gS)<;>intro hc<;>simp only [go_sem,hc,Int.reduceBEq,k,eT,eO,eL,eF,q0,q1,q2,s2,AF,AE,AR,AN,AD,AH,Ag,Nat.reduceAdd,g1,g2])
    all_goals first
      | (show _ = AV.bool (!Qr (mo l t x.args) 0 h)
         rw [e1])
      | skip
  · have c1 := hc a (by rw [ha];simp) ga
    have c2 := hc b (by rw [ha];simp) gb
    have e1:Qr (mo l t x.args) 0 h=hP l t a h := ml l t (by rw [ha];rfl) h
    have e2:Qr (mo l t x.args) 1 h=hP l t b h := ml l t (by rw [ha];rfl) h
    have g1:(0:Int)<(x.args.length:Int) := by rw [ha];simp
    have g2 := Fp (l := x.args) (i := 0) (x := a) (by rw [ha];rfl)
    have g3:(1:Int)<(x.args.length:Int) := by rw [ha];simp
    have g4 := Fp (l := x.args) (i := 1) (x := b) (by rw [ha];rfl)
    rcases k with k|k
    · refine aC Ni rfl ?_
      simp only [f173,go_sem,eT,eO,eL,eF,q0,q1,q2,s2,AF,AE,AR,AN,AD,AH,Ag,Nat.reduceAdd,k,Int.reduceBEq,g1,g2,g3,g4]
      repeat' (first|((first|refine rK (c1 _) ?_|refine rK (c2 _) ?_);simp only [go_sem,Int.reduceBEq,k,eT,eO,eL,eF,q0,q1,q2,s2,AF,AE,AR,AN,AD,AH,Ag,Nat.reduceAdd,g1,g2,g3,g4])|(first|apply cS|apply gS)<;>intro hc<;>simp only [go_sem,hc,Int.reduceBEq,k,eT,eO,eL,eF,q0,q1,q2,s2,AF,AE,AR,AN,AD,AH,Ag,Nat.reduceAdd,g1,g2,g3,g4])
      all_goals first
        | (show _ = AV.bool (Qr (mo l t x.args) 0 h && Qr (mo l t x.args) 1 h)
           rw [e1,e2]
           revert hc
           cases hP l t a h<;>simp)
        | skip
    · refine aC Ni rfl ?_
      simp only [f173,go_sem,eT,eO,eL,eF,q0,q1,q2,s2,AF,AE,AR,AN,AD,AH,Ag,Nat.reduceAdd,k,Int.reduceBEq,g1,g2,g3,g4]
      repeat' (first|((first|refine rK (c1 _) ?_|refine rK (c2 _) ?_);simp only [go_sem,Int.reduceBEq,k,eT,eO,eL,eF,q0,q1,q2,s2,AF,AE,AR,AN,AD,AH,Ag,Nat.reduceAdd,g1,g2,g3,g4])|(first|apply cS|apply gS)<;>intro hc<;>simp only [go_sem,hc,Int.reduceBEq,k,eT,eO,eL,eF,q0,q1,q2,s2,AF,AE,AR,AN,AD,AH,Ag,Nat.reduceAdd,g1,g2,g3,g4])
      all_goals first
        | (show _ = AV.bool (Qr (mo l t x.args) 0 h || Qr (mo l t x.args) 1 h)
           rw [e1,e2]
           revert hc
           cases hP l t a h<;>simp)
        | skip
  · have c1 := QU l hln x.field
    have c2 := qE _ hfo x.n.toNat hn2
    have hrp := SP hfo (m := fW (Fb l x.field).1) hn2
    have c3 := qD _ hrp.1 hrp.2 h hr
    rw [Yt hfo hn2 (AU _) h] at c3
    rw [Cw hn] at c2
    refine aC Ni rfl ?_
    simp only [f173,go_sem,eT,eO,eL,eF,q0,q1,q2,s2,AF,AE,AR,AN,AD,AH,Ag,Nat.reduceAdd,k,Int.reduceBEq]
    repeat' (first|((first|refine pK (c1) ?_|refine pK (c2) ?_|refine pK (c3) ?_);simp only [go_sem,Int.reduceBEq,k,eT,eO,eL,eF,q0,q1,q2,s2,AF,AE,AR,AN,AD,AH,Ag,Nat.reduceAdd])|(first|apply cS|apply gS)<;>intro hc<;>simp only [go_sem,hc,Int.reduceBEq,k,eT,eO,eL,eF,q0,q1,q2,s2,AF,AE,AR,AN,AD,AH,Ag,Nat.reduceAdd])
    all_goals first
      | (show AV.bool _ = AV.bool (decide ((Nk (Fb l x.field).1 h : Int) = x.n))
         congr 1
         rw [AO,Nat.pow_zero,EP,EP,BA,decide_eq_true_eq,decide_eq_true_eq]
         omega)
      | skip
  · have hm':0<=x.m := hm
    have hm3:x.m.toNat<=fW (Fb l x.field).1 := hm2
    have c1 := QU l hln x.field
    have c2 := d8 _ hfo x.n.toNat x.m.toNat hn2 hm3
    have hrp := SP hfo (m := x.m.toNat) hn2
    have c3 := qD _ hrp.1 hrp.2 h hr
    rw [Yt hfo hn2 hm3 h] at c3
    rw [Cw hn,Cw hm'] at c2
    refine aC Ni rfl ?_
    simp only [f173,go_sem,eT,eO,eL,eF,q0,q1,q2,s2,AF,AE,AR,AN,AD,AH,Ag,Nat.reduceAdd,k,Int.reduceBEq]
    repeat' (first|((first|refine pK (c1) ?_|refine pK (c2) ?_|refine pK (c3) ?_);simp only [go_sem,Int.reduceBEq,k,eT,eO,eL,eF,q0,q1,q2,s2,AF,AE,AR,AN,AD,AH,Ag,Nat.reduceAdd])|(first|apply cS|apply gS)<;>intro hc<;>simp only [go_sem,hc,Int.reduceBEq,k,eT,eO,eL,eF,q0,q1,q2,s2,AF,AE,AR,AN,AD,AH,Ag,Nat.reduceAdd])
    all_goals first|rfl|skip
  · have c1 := QU l hln x.field
    have c2 := lZ _ hfo h hr
    refine aC Ni rfl ?_
    simp only [f173,go_sem,eT,eO,eL,eF,q0,q1,q2,s2,AF,AE,AR,AN,AD,AH,Ag,Nat.reduceAdd,k,Int.reduceBEq]
    repeat' (first|((first|refine pK (c1) ?_|refine pK (c2) ?_);simp only [go_sem,Int.reduceBEq,k,eT,eO,eL,eF,q0,q1,q2,s2,AF,AE,AR,AN,AD,AH,Ag,Nat.reduceAdd])|(first|apply cS|apply gS)<;>intro hc<;>simp only [go_sem,hc,Int.reduceBEq,k,eT,eO,eL,eF,q0,q1,q2,s2,AF,AE,AR,AN,AD,AH,Ag,Nat.reduceAdd])
    all_goals first
      | (show AV.bool _ = AV.bool (decide (x.n <= Nk (Fb l x.field).1 h) && decide ((Nk (Fb l x.field).1 h : Int) <= x.m))
         rw [hc];rfl)
      | skip
def dK{P:Program}{f:FuncId}{vs:List AV}{d:Option Tmp}{K:Kt}{e:Fs}{H:FP}{v:AV}(hc:GK P f vs H v)(hk:K (put d v e) H):ADs P f vs d K e H :=
 ⟨v,[],by simp only [Ai];exact hc,by rw [Ai];exact hk⟩
@[go_sem] def AUH(r:List Ex):NS (some r) = .tup [.sl none (F4 r),.bool true]:=rfl
@[go_sem] def AUJ:NS none = .tup [.sl none [],.bool false]:=rfl
@[go_sem] def AUF(r:List Ex)(n:Nat):AEX (some r) n = .tup [.sl none (F4 r),.int .i64 n,.bool true]:=rfl
@[go_sem] def AUG(n:Nat):AEX none n = .tup [.sl none [],.int .i64 0,.bool false]:=rfl
def zr(o:Option (List Ex))(n:Nat):(NS o).bnd n=true:=by
 cases o with
 | none=>rfl
 | some r =>
  simp only [NS,AV.bnd,Fo,Bj]
  have:=NQ (n:=n) (es:=r.map Head.c) Nh
  rw [Om] at this
  simpa [AV.bnd] using this
def rq(l:List Fld)(hl:I3 l)(hln:l.length<=9223372036854775807)(t:Int)(ot ow ol o:Nat): ∀ x:Ey,Hl l x->gvs l t ot ow ol o x (vO l t x) := by
  refine Hq _ λx ih=>λhx h hr H hW=>?_
  have hh:IK l x.pred -> ∀ z,PG AA 173 [.agg x.pred.c,.agg h.c,.ptr ot 0,.ptr ow 0,.ptr ol 0] (H++z) (.bool (hP l t x.pred h)) := λgp z H2 hv=>dw l hl hln t ot ow ol o x.pred gp h hr H2 ((hW.grow z).view hv)
  have hc : ∀ a,a∈x.args->Hl l a -> ∀ z,PG AA 179 [.agg a.c,.agg h.c,.ptr ow 0,.ptr ol 0] (H++z) (NS (vO l t a h)) := λa ha ga z H2 hv=>ih a ha ga h hr H2 ((hW.grow z).view hv)
  have hWg := hW.grow
  obtain ⟨w1,w2,⟨w,w3⟩,w4⟩ := hW
  have eO := FU w2
  have eL := FU w3
  have eF := FU w4
  have q0 := q_0 H
  have q1 := q_1 H
  have q2 := q_2 H
  have s2 := AVe H
  rw [AGm]
  suffices hs:FV AA 179 [.agg x.c,.agg h.c,.ptr ow 0,.ptr ol 0] H λv H'=>v.borrow=NS (U2 l t x.kind x.pred x.field x.n (XE l t x.args) h) /\ ∃ ext,H'=H++ext by
    refine FV.drop (zr _ _) ((FV.res hs).mono λv H' hx=>?_)
    obtain ⟨v0,⟨h1,h2⟩,rfl⟩ := hx
    exact ⟨h1,h2⟩
  rcases WA hl hx with ⟨k,gp⟩|⟨k,hfo,hft,hn,hn2⟩|⟨k,a,b,ha,ga,gb⟩|⟨k,a,ha,ga⟩
  · have c1 := hh gp
    refine aC LJ rfl ?_
    simp only [f179,go_sem,eO,eF,q0,q1,AF,AE,AR,AN,AD,AH,Nat.reduceAdd,k,Int.reduceBEq]
    repeat' (first|(refine rK (c1 _) ?_;simp only [go_sem])|(first|apply cS|apply gS)<;>intro hc<;>simp only [go_sem,hc,q1,AN])
    all_goals first
      | (show _ = NS (some (if hP l t x.pred h = true then [h] else []))
         revert hc
         cases hP l t x.pred h<;>intro hc<;>first|rfl|cases hc)
      | skip
  · have c1 := QU l hln x.field
    have c2 := AV5 _ hfo x.n.toNat hn2
    have hrp := SP hfo (m := fW (Fb l x.field).1) hn2
    have c3 := AEz _ hrp.1 hrp.2 h hr
    rw [xo hfo hn2 hr] at c3
    rw [Cw hn] at c2
    refine aC LJ rfl ?_
    simp only [f179,go_sem,eL,q0,AF,AE,AR,AN,AD,AH,Nat.reduceAdd,k,Int.reduceBEq]
    repeat' (first|((first|refine pK (c1) ?_|refine pK (c2) ?_|refine pK (c3) ?_);simp only [go_sem,q0,q1,q2,s2,AF,AE,AR,AN,AD,AH,Nat.reduceAdd])|(first|apply cS|apply gS)<;>intro hc<;>simp only [go_sem,hc,Int.reduceBEq,k,eO,eL,eF,q0,q1,q2,s2,AF,AE,AR,AN,AD,AH,Ag,Nat.reduceAdd])
    all_goals first|rfl|skip
  · have e0:OD (XE l t x.args) 0=vO l t a := SI l t (by rw [ha];rfl)
    have e1:OD (XE l t x.args) 1=vO l t b := SI l t (by rw [ha];rfl)
    have v0 := RC l hl t a ga
    have v1 := RC l hl t b gb
    have g1:(0:Int)<(x.args.length:Int) := by rw [ha];simp
    have g2 := Fc (l := x.args) (i := 0) (x := a) (by rw [ha];rfl)
    have g3:(1:Int)<(x.args.length:Int) := by rw [ha];simp
    have g4 := Fc (l := x.args) (i := 1) (x := b) (by rw [ha];rfl)
    have c1 := hc a (by rw [ha];simp) ga
    have c2 := hc b (by rw [ha];simp) gb
    have hb := ih b (by rw [ha];simp) gb
    rcases k with k|k
    · have hst:U2 l t x.kind x.pred x.field x.n (XE l t x.args) h=match vO l t a h,vO l t b h with|some a,some b=>Wc (Gt a b)|_,_=>none := by
        rw [k]
        show (match OD (XE l t x.args) 0 h,OD (XE l t x.args) 1 h with|some a,some b=>Wc (Gt a b)|_,_=>none)=_
        rw [e0,e1]
      rw [hst]
      cases ea:vO l t a h with
      | none =>
        rw [ea] at c1
        cases eb:vO l t b h with
        | none =>
          rw [eb] at c2
          have c3 := NV [] [] sm
          have c4 := Ls (Hx [] []) false
          rw [iN dc] at c4
          refine aC LJ rfl ?_
          simp only [f179,go_sem,eO,eF,q0,q1,AF,AE,AR,AN,AD,AH,Nat.reduceAdd,k,Int.reduceBEq,g2]
          repeat' (first|((first|refine rK (c1 _) ?_|refine rK (c2 _) ?_|refine aS (c3 _) ?_|refine pK (c4) ?_);simp only [go_sem,eO,eF,q0,q1,AR,AN,g4])|(first|apply cS|apply gS)<;>intro hc<;>simp only [go_sem,hc,Int.reduceBEq,k,eO,eL,eF,q0,q1,q2,s2,AF,AE,AR,AN,AD,AH,Ag,Nat.reduceAdd,g1,g2,g3,g4])
        | some v =>
          rw [eb] at c2
          have gv := v1 h v hr eb
          have c3 := NV [] v (by have := gv.2.1;simp;omega)
          have c4 := Ls (Hx [] v) false
          rw [iN dc] at c4
          refine aC LJ rfl ?_
          simp only [f179,go_sem,eO,eF,q0,q1,AF,AE,AR,AN,AD,AH,Nat.reduceAdd,k,Int.reduceBEq,g2]
          repeat' (first|((first|refine rK (c1 _) ?_|refine rK (c2 _) ?_|refine aS (c3 _) ?_|refine pK (c4) ?_);simp only [go_sem,eO,eF,q0,q1,AR,AN,g4])|(first|apply cS|apply gS)<;>intro hc<;>simp only [go_sem,hc,Int.reduceBEq,k,eO,eL,eF,q0,q1,q2,s2,AF,AE,AR,AN,AD,AH,Ag,Nat.reduceAdd,g1,g2,g3,g4])
      | some u =>
        rw [ea] at c1
        have gu := v0 h u hr ea
        cases eb:vO l t b h with
        | none =>
          rw [eb] at c2
          have c3 := NV u [] (by have := gu.2.1;simp;omega)
          have c4 := Ls (Hx u []) false
          rw [iN dc] at c4
          refine aC LJ rfl ?_
          simp only [f179,go_sem,eO,eF,q0,q1,AF,AE,AR,AN,AD,AH,Nat.reduceAdd,k,Int.reduceBEq,g2]
          repeat' (first|((first|refine rK (c1 _) ?_|refine rK (c2 _) ?_|refine aS (c3 _) ?_|refine pK (c4) ?_);simp only [go_sem,eO,eF,q0,q1,AR,AN,g4])|(first|apply cS|apply gS)<;>intro hc<;>simp only [go_sem,hc,Int.reduceBEq,k,eO,eL,eF,q0,q1,q2,s2,AF,AE,AR,AN,AD,AH,Ag,Nat.reduceAdd,g1,g2,g3,g4])
        | some v =>
          rw [eb] at c2
          have gv := v1 h v hr eb
          have c3 := NV u v (by have := gu.2.1;have := gv.2.1;omega)
          have c4 := Ls (Hx u v) true
          rw [iP rfl] at c4
          rw [PT gu.1 gv.1] at c3 c4
          dsimp only
          cases eo:Wc (Gt u v) with
          | none =>
            rw [eo] at c4
            refine aC LJ rfl ?_
            simp only [f179,go_sem,eO,eF,q0,q1,AF,AE,AR,AN,AD,AH,Nat.reduceAdd,k,Int.reduceBEq,g2]
            repeat' (first|((first|refine rK (c1 _) ?_|refine rK (c2 _) ?_|refine aS (c3 _) ?_|refine pK (c4) ?_);simp only [go_sem,eO,eF,q0,q1,AR,AN,g4])|(first|apply cS|apply gS)<;>intro hc<;>simp only [go_sem,hc,Int.reduceBEq,k,eO,eL,eF,q0,q1,q2,s2,AF,AE,AR,AN,AD,AH,Ag,Nat.reduceAdd,g1,g2,g3,g4])
          | some r =>
            rw [eo] at c4
            refine aC LJ rfl ?_
            simp only [f179,go_sem,eO,eF,q0,q1,AF,AE,AR,AN,AD,AH,Nat.reduceAdd,k,Int.reduceBEq,g2]
            repeat' (first|((first|refine rK (c1 _) ?_|refine rK (c2 _) ?_|refine aS (c3 _) ?_|refine pK (c4) ?_);simp only [go_sem,eO,eF,q0,q1,AR,AN,g4])|(first|apply cS|apply gS)<;>intro hc<;>simp only [go_sem,hc,Int.reduceBEq,k,eO,eL,eF,q0,q1,q2,s2,AF,AE,AR,AN,AD,AH,Ag,Nat.reduceAdd,g1,g2,g3,g4])
    · have hst:U2 l t x.kind x.pred x.field x.n (XE l t x.args) h=match vO l t a h with|some a=>JP (vO l t b) [] a|none=>none := by
        rw [k]
        show (match OD (XE l t x.args) 0 h with|some a=>JP (OD (XE l t x.args) 1) [] a|none=>none)=_
        rw [e0,e1]
      rw [hst]
      cases ea:vO l t a h with
      | none =>
        rw [ea] at c1
        refine aC LJ rfl ?_
        simp only [f179,go_sem,eO,eF,q0,q1,AF,AE,AR,AN,AD,AH,Nat.reduceAdd,k,Int.reduceBEq,g2]
        repeat' (first|(refine rK (c1 _) ?_;simp only [go_sem,AR,AN])|(first|apply cS|apply gS)<;>intro hc<;>simp only [go_sem,hc,Int.reduceBEq,k,eO,eL,eF,q0,q1,q2,s2,AF,AE,AR,AN,AD,AH,Ag,Nat.reduceAdd,g1,g2,g3,g4])
      | some u =>
        rw [ea] at c1
        have gu := v0 h u hr ea
        have c3 := λz=>AEm l t ot ow ol o b _ hb v1 u gu.2.2 (by have := gu.2.1;omega) (H++z) (hWg z)
        dsimp only
        cases eo:JP (vO l t b) [] u with
        | none =>
          rw [eo] at c3
          refine aC LJ rfl ?_
          simp only [f179,go_sem,eO,eF,q0,q1,AF,AE,AR,AN,AD,AH,Nat.reduceAdd,k,Int.reduceBEq,g2]
          repeat' (first|((first|refine rK (c1 _) ?_|refine dK (c3 _) ?_);simp only [go_sem,eO,q0,AR,AN,g4])|(first|apply cS|apply gS)<;>intro hc<;>simp only [go_sem,hc,Int.reduceBEq,k,eO,eL,eF,q0,q1,q2,s2,AF,AE,AR,AN,AD,AH,Ag,Nat.reduceAdd,g1,g2,g3,g4])
        | some r =>
          rw [eo] at c3
          refine aC LJ rfl ?_
          simp only [f179,go_sem,eO,eF,q0,q1,AF,AE,AR,AN,AD,AH,Nat.reduceAdd,k,Int.reduceBEq,g2]
          repeat' (first|((first|refine rK (c1 _) ?_|refine dK (c3 _) ?_);simp only [go_sem,eO,q0,AR,AN,g4])|(first|apply cS|apply gS)<;>intro hc<;>simp only [go_sem,hc,Int.reduceBEq,k,eO,eL,eF,q0,q1,q2,s2,AF,AE,AR,AN,AD,AH,Ag,Nat.reduceAdd,g1,g2,g3,g4])
  · have e0:OD (XE l t x.args) 0=vO l t a := SI l t (by rw [ha];rfl)
    have g1:(0:Int)<(x.args.length:Int) := by rw [ha];simp
    have g2 := Fc (l := x.args) (i := 0) (x := a) (by rw [ha];rfl)
    have c3 := λz=>AH7 l t ot ow ol o a _ (ih a (by rw [ha];simp) ga) (RC l hl t a ga) h hr (H++z) (hWg z)
    have hst:U2 l t x.kind x.pred x.field x.n (XE l t x.args) h=LB (vO l t a) 300 [h] [h] := by
      rw [k]
      show LB (OD (XE l t x.args) 0) 300 [h] [h]=_
      rw [e0]
    rw [hst]
    cases eo:LB (vO l t a) 300 [h] [h] with
    | none =>
      rw [eo] at c3
      refine aC LJ rfl ?_
      simp only [f179,go_sem,eO,q0,q1,AF,AE,AR,AN,AD,AH,Nat.reduceAdd,k,Int.reduceBEq,g2]
      repeat' (first|(refine dK (c3 _) ?_;simp only [go_sem,AR,AN])|(first|apply cS|apply gS)<;>intro hc<;>simp only [go_sem,hc,Int.reduceBEq,k,eO,eL,eF,q0,q1,q2,s2,AF,AE,AR,AN,AD,AH,Ag,Nat.reduceAdd,g1,g2])
    | some r =>
      rw [eo] at c3
      refine aC LJ rfl ?_
      simp only [f179,go_sem,eO,q0,q1,AF,AE,AR,AN,AD,AH,Nat.reduceAdd,k,Int.reduceBEq,g2]
      repeat' (first|(refine dK (c3 _) ?_;simp only [go_sem,AR,AN])|(first|apply cS|apply gS)<;>intro hc<;>simp only [go_sem,hc,Int.reduceBEq,k,eO,eL,eF,q0,q1,q2,s2,AF,AE,AR,AN,AD,AH,Ag,Nat.reduceAdd,g1,g2])
def ZX(n:Nat):List AV:=[.fn (.func 173) [] [.ptr (n+1) 0,.ptr (n+3) 0,.ptr n 0],.fn (.func 179) [] [.ptr (n+3) 0,.ptr n 0]]
def q_3(H:FP)(a b c d:Option (List AV)):(H++[a,b,c,d])[H.length+3]? =some d:=by rw [AM FO,A0];rfl
def Ack(H:FP)(a b c d e:Option (List AV)):(H++[a,b,c,d]).set (H.length+3) e=H++[a,b,c,e]:=by rw [BS _ _ FO,A0];rfl
def AVd(H:FP)(a b c d e:Option (List AV)):(H++[a,b,c,d]).set (H.length+2) e=H++[a,b,e,d]:=by rw [BS _ _ FO,A0];rfl
def AVi(l:List Fld)(t:Int)(H:FP):FV AA 106 [.sl none (GN l),.int .i64 t] H λv H'=>v = .ptr (H.length+2) 0/\H'=H++[some [.sl none (GN l)],some [.int .i64 t],some (ZX H.length),some [.ptr (H.length+2) 0]]:=by
 have q3:=q_3 H
 have q2:=q_2 H
 have s3:=Ack H
 have s2:=AVd H
 refine aC ARN rfl ?_
 simp only [f106,go_sem,q3,q2,s3,s2,AF,AE,AR,AN,AD,AH,Ag,Nat.reduceAdd]
 all_goals first|rfl|exact ⟨rfl,rfl⟩|skip
def dx(r:List Ex)(b:Bool):FQ AA 105 [.sl none (F4 r),.bool b] (rk (if b=true then some r else none)):=by
 refine pB ARQ rfl ?_
 cases b<;>simp only [f105,go_sem]<;>rfl
def AEk(l:List Fld)(hl:I3 l)(hln:l.length<=9223372036854775807)(x:Ey)(hx:Hl l x)(t:Int)(h:Ex)(hr:FX h=true):FQ AA 53 [.sl none (GN l),.agg x.c,.agg h.c,.int .i64 t] (rk (vO l t x h)):=by
 have c1:FV AA 106 [.sl none (GN l),.int .i64 t] [some x.c,some h.c] λv H'=>v = .ptr 4 0/\H'=[some x.c,some h.c]++[some [.sl none (GN l)],some [.int .i64 t],some (ZX 2),some [.ptr 4 0]]:=AVi l t [some x.c,some h.c]
 have hW:fh l t 3 5 2 4 ([some x.c,some h.c]++[some [.sl none (GN l)],some [.int .i64 t],some (ZX 2),some [.ptr 4 0]]):=⟨rfl,rfl,⟨none,rfl⟩,rfl⟩
 have c2:PG AA 179 [.agg x.c,.agg h.c,.ptr 5 0,.ptr 2 0] ([some x.c,some h.c]++[some [.sl none (GN l)],some [.int .i64 t],some (ZX 2),some [.ptr 4 0]]) (NS (vO l t x h)):=λH2 hv=>rq l hl hln t 3 5 2 4 x hx h hr H2 (hW.view hv)
 have ho : ∀ ops,h53.ord 1 ops=(lw [6,7] ops.size).filterMap λi=>ops[i]?:=λops=>rfl
 have hI:lw [6,7] 16=[6,7,0,1,2,3,4,5,8,9,10,11,12,13,14,15]:=dc
 have w1 : ∀ z,([some x.c,some h.c]++z)[0]? =some (some x.c):=λz=>rfl
 simp only [ZX] at c1 c2
 cases ev:vO l t x h with
 | none =>
  rw [ev] at c2
  have c3:=dx [] false
  refine pB AG6 rfl ?_
  simp only [f53,go_sem]
  rw [PA _ _ _ (by simp only [go_sem]) rfl,ho]
  simp only [BV,AD,AH,Nat.reduceAdd,hI,B5,Bf,B0,A7,Cd]
  simp only [go_sem]
  refine ⟨_,_,c1, ?_⟩
  simp only [go_sem]
  repeat' (first|((first|refine rK (c2) ?_|refine pK (c3) ?_);simp only [go_sem])|(first|apply cS|apply gS)<;>intro hc<;>simp only [go_sem,hc])
  all_goals first|rfl|skip
 | some r =>
  rw [ev] at c2
  have c3:=dx r true
  refine pB AG6 rfl ?_
  simp only [f53,go_sem]
  rw [PA _ _ _ (by simp only [go_sem]) rfl,ho]
  simp only [BV,AD,AH,Nat.reduceAdd,hI,B5,Bf,B0,A7,Cd]
  simp only [go_sem]
  refine ⟨_,_,c1, ?_⟩
  simp only [go_sem]
  repeat' (first|((first|refine rK (c2) ?_|refine pK (c3) ?_);simp only [go_sem])|(first|apply cS|apply gS)<;>intro hc<;>simp only [go_sem,hc])
  all_goals first|rfl|skip
def ATH{l:List Fld}(h:O1 l=0):I3 l:=by
 have : ∀ (r:List Fld) (i:Nat),IZ l i r=0 -> ∀ f∈r,HE f:=by
  intro r
  induction r with
  | nil=>intro i _ f hf;cases hf
  | cons x r ih =>
   intro i h f hf
   rw [IZ] at h
   split at h
   ·cases h
   split at h
   ·cases h
   split at h
   ·cases h
   split at h
   ·cases h
   rename_i hp _
   rcases AX.1 hf with rfl|hf
   ·simp only [SZ,Bool.not_eq_true',Bool.and_eq_false_iff,not_or,Bool.not_eq_false,decide_eq_true_eq] at hp
    unfold HE
    omega
   ·exact ih _ h f hf
 unfold O1 at h
 split at h
 ·cases h
 ·exact this l 0 h
end Go.AI
