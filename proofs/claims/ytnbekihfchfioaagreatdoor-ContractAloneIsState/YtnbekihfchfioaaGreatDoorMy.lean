/- A row that a call has made becomes a list that nobody writes. -/
import Derived.Test.YtnbekihfchfioaaGreatDoorMp
set_option linter.unusedSimpArgs false
set_option linter.unusedVariables false
set_option linter.defProp false
open Go.Proofs.Tryz
open Go.AI renaming CRel->Ev,Head->Ew,Policy->Ex
open Bool renaming and_true->Bn,eq_iff_iff->BA
open Int renaming lt_irrefl->AY,toNat_natCast->Ae,toNat_of_nonneg->Cu
open Go.IntKind renaming bits->DH,signed->Dh,wrap->Dg
open List renaming append_assoc->AF,append_nil->Ah,cons_append->AS,drop_drop->A9,filterMap_cons->B6,filterMap_nil->Ce,filter_append->Cb,filter_eq_self->DN,flatten_cons->C3,getElem?_append_left->AW,getElem?_append_right->AM,getElem?_concat_length->Bj,getElem?_cons_succ->B1,getElem?_cons_zero->A8,getElem?_eq_getElem->AL,getElem?_eq_some_iff->AD,getElem?_set_ne->A6,getElem?_set_self->Az,getElem?_toArray->Bf,length_append->AE,length_cons->AC,length_map->Aq,length_nil->AG,length_set->An,map_append->As,map_congr_left->B3,map_eq_nil_iff->DO,map_flatten->DL,map_id->DM,mem_cons->AZ,mem_map->AO,mem_of_getElem?->AB,mem_singleton->Al,nil_append->AN,set_append_left->BP,set_append_right->BZ,set_comm->B8,set_set->BB,size_toArray->BW,take_add_one->BF,take_append_of_le_length->C1,take_set_of_le->CQ,take_succ_cons->CO
open Nat renaming add_assoc->AP,add_sub_cancel_left->A3,div_one->EN,le_refl->AU,lt_or_ge->BT,sub_self->AQ,zero_add->AX
open Go.Proofs.Tryz renaming prog->AA
namespace Go.AI
def SB(es:List (List AV))(v:AV)(H H':FN):Prop :=
 (es=[]/\(∃ w,v = .sl w []) /\ ∃ ext,H'=H++ext) \/ ∃ ob cs,v = .msl ob 0 es.length 10/\H.length<=ob/\(∃ ext,H'=H++ext)/\H'[ob]? =some (some cs)/\(∃ r,cs=es.flatten++r)
section
variable {P:Program}
def CRel.borrowArgs{F:Nat->Prop}{G:Gh}{w:World}{H:FN}{vs:List AV}{us:List Value}(h:Ev F G vs H us w):Ev F G (vs.map AV.borrow) H us w:=by
 obtain ⟨l1,t1⟩:=HX (F:=F) (G:=G) (w:=w) (first:=vs) (fi:=us) h.l.len (λi c v a b=>h.l.rel i c v a b)
 exact ⟨l1,h.h,λb=>by
  rw [t1]
  have:=h.cnt b
  omega⟩
def FT.weak{f:FuncId}{vs:List AV}{H:FN}{R:AV->FN->Prop}(h:FT P f (vs.map AV.borrow) H R):FT P f vs H R:=⟨h.1,λF G w us hc=>h.2 F G w us hc.borrowArgs⟩
def FO.weak{f:FuncId}{vs:List AV}{v:AV}(h:FO P f (vs.map AV.borrow) v):FO P f vs v:=λH=>(h H).weak
def CRel.swap1{F:Nat->Prop}{G:Gh}{w:World}{H:FN}{v v':AV}{u:Value}(h:Ev F G [v] H [u] w)(hv:VRel G w v' u)(ho:v'.owned=false):Ev F G [v'] H [u] w :=
 ⟨.cons hv (Fd (GJ ho u) _ _ _) ⟨rfl,sm,sm⟩,h.h,λx=>by
  have:=h.cnt x
  rw [FW,GJ ho u]
  rw [FW] at this
  simp only [List.count_nil] at this ⊢
  omega⟩
def Z2{H ext:FN}{ob:Nat}(h:H.length<=ob):(H++ext).set ob none=H++ext.set (ob - H.length) none:=BZ _ _ h
def CRel.frzRow {F:Nat->Prop} {G:Gh} {w:World} {H ext:FN} {vals:List AV} {us:List Value} {u:Value} {ob len sz:Nat} {cs:List AV} (ag:Bool) (h:Ev F G vals (H++ext) us w)
  (ho:(H++ext)[ob]? =some (some cs)) (hb:H.length<=ob) (hv:VRel G w (.msl ob 0 len sz) u) (hl:len*sz<=cs.length) (hs:ag=true\/sz=1) :
  ∃ G' ext',Ev F G' vals (H++ext') us w/\Ext F G w G' w/\VRel G' w (.sl none (IV ag sz len (cs.map borrow1))) u:=by
 have hf:Kn ag (.msl ob 0 len sz) (H++ext)=some (.sl none (IV ag sz len (cs.map borrow1)),(H++ext).set ob none):=by
  simp only [Kn,ho]
  rw [iP ⟨FM,hs⟩,List.drop_zero]
 obtain ⟨ob',b,es,e1,e2,_,g1,g2,g3,_⟩:=Qg hf h hv
 rw [Z2 hb] at g1
 exact ⟨_,_,g1,g2,g3⟩
def CRel.cutExt{F:Nat->Prop}{G G':Gh}{w w':World}{H ext:FN}{vs:List AV}{us:List Value}{v:AV}{u:Value}(hc:Ev F G vs H us w)(hcr:Ev F G' [v] (H++ext) [u] w')(hext:Ext F G w G' w')(hv:v.bnd H.length=true):
  ∃ G'',Ev F G'' [v] H [u] w'/\Ext F G w G'' w' :=
 ⟨_,hcr.cut hv hc.h.closed,⟨hext.size,⟨λo b ho=>by
  have hlt:=(AD.1 ho).1
  show (G'.obs.take H.length)[o]? =some b
  rw [List.getElem?_take_of_lt (by have:=hc.h.len;omega)]
  exact hext.keeps.obs o b ho,hext.keeps.shape,hext.keeps.sp,hext.keeps.safe⟩,hext.kind,hext.cells,hext.io⟩⟩
def Ke : ∀ (es:List (List AV)) (r:List AV) (sz:Nat),(∀ e∈es,e.length=sz)->IV true sz es.length (es.flatten++r)=es.map .agg
 | [],_,_,_=>rfl
 | e::es,r,sz,h=>by
  have he:=h e sm
  simp only [AC,IV,if_true,C3,AF,List.map_cons]
  rw [C1 FM,List.take_of_length_le FM,List.drop_append_of_le_length FM,List.drop_of_length_le FM,AN,Ke es r sz λx hx=>h x (by simp [hx])]
def OJ : ∀ (es:List (List AV)) (sz:Nat),(∀ e∈es,e.length=sz)->es.flatten.length=es.length*sz
 | [],_,_=>sm
 | e::es,sz,h=>by
  rw [C3,AE,OJ es sz λx hx=>h x (by simp [hx]),h e sm,AC,Nat.add_mul];omega
def NH{es:List (List AV)}{n:Nat}(hs : ∀ e∈es,Fj n e=true):(AV.sl none (es.map .agg)).bnd n=true:=by
 simp only [AV.bnd]
 refine GK.2 λc hc=>?_
 obtain ⟨e,he,rfl⟩:=AO.1 hc
 simpa [AV.bnd] using hs e he
def xJ {f:FuncId} {vs:List AV} {H:FN} {es:List (List AV)} (hn : ∀ e∈es,e.length=10) (hs : ∀ e∈es,Fj H.length e=true) (hb : ∀ e∈es,e.map borrow1=e)
  (h:FT P f vs H λv' H'=>SB es v' H H'):FT P f vs H λv' H'=>v' = .sl none (es.map .agg)/\H'=H :=
 ⟨h.1,λF G w us hc=>Calls.mono (h.2 F G w us hc) λe w' he=>by
  obtain ⟨u,rfl,v',H2,G',hr,hcr,hext⟩:=he
  rcases hr with ⟨rfl,⟨w0,rfl⟩,ext,rfl⟩|⟨ob,cs,rfl,hob,⟨ext,rfl⟩,ho,r,rfl⟩
  ·have hv:VRel G' w' (.sl none []) u:=by
    have:=hcr.l.rel 0 _ _ rfl rfl
    cases this with
    | slnil=>exact .slnil _
    | slany=>exact .slany _ _
    | sl own es sz b q cap u' hsz hown hl hm h1 h2=>exact .sl none [] sz b q cap u' hsz (λn hn=>by cases hn) hl hm h1 h2
   obtain ⟨G2,k1,k2⟩:=hc.cutExt (hcr.swap1 hv rfl) hext rfl
   exact ⟨u,rfl,_,H,G2,⟨rfl,rfl⟩,k1,k2⟩
  ·have hv:=hcr.l.rel 0 _ _ rfl rfl
   have hlen:=OJ es 10 hn
   obtain ⟨G2,ext2,k1,k2,k3⟩:=hcr.frzRow true ho hob hv (by rw [AE,hlen];omega) (.inl rfl)
   have e1:(es.flatten++r).map borrow1=es.flatten++r.map borrow1:=by
    rw [As,DL]
    congr 2
    exact B3 (f:=List.map borrow1) (g:=id) (λe he=>hb e he) |>.trans (DM _)
   rw [e1,Ke es _ 10 hn] at k3
   obtain ⟨G3,k4,k5⟩:=hc.cutExt (k1.swap1 k3 rfl) (hext.trans k2) (NH hs)
   exact ⟨u,rfl,_,H,G3,⟨rfl,rfl⟩,k4,k5⟩⟩
def Wo {f:FuncId} {vs:List AV} {H:FN} {es:List (List AV)} {b:Bool} (hn : ∀ e∈es,e.length=10) (hs : ∀ e∈es,Fj H.length e=true) (hb : ∀ e∈es,e.map borrow1=e)
  (h:FT P f vs H λv' H' => ∃ v0,v' = .tup [v0,.bool b]/\SB es v0 H H'):FT P f vs H λv' H'=>v' = .tup [.sl none (es.map .agg),.bool b]/\H'=H :=
 ⟨h.1,λF G w us hc=>Calls.mono (h.2 F G w us hc) λe w' he=>by
  obtain ⟨u,rfl,v',H2,G',⟨v0,rfl,hr⟩,hcr,hext⟩:=he
  have hv:=hcr.l.rel 0 _ _ rfl rfl
  cases hv with
  | tup _ vs' hl hsv hg =>
   have h0 : ∃ x,vs'[0]? =some x:=⟨_,Array.getElem?_eq_getElem (by rw [<- hl];exact Nat.zero_lt_succ _)⟩
   obtain ⟨x,hx⟩:=h0
   have hvx:=hg 0 _ x rfl hx
   have put : ∀ {G2:Gh} {w2:World} {a:AV},a.isVal=true->VRel G2 w2 a x->VRel G2 w2 (.tup [a,.bool b]) (.tuple vs'):=λ{G2 w2 a} ha hax=>by
    refine .tup _ _ hl (λc hc=>?_) λi c v hc hv=>?_
    ·rcases AZ.1 hc with rfl|hc
     ·exact ha
     ·rw [Al.1 hc];rfl
    ·match i with
     | 0=>simp only [A8,Option.some.injEq] at hc;subst hc;rw [hx] at hv;cases hv;exact hax
     | 1 =>
      have:=hg 1 (.bool b) v rfl hv
      simp only [B1,A8,Option.some.injEq] at hc;subst hc
      cases this;exact .bool _
     | i+2=>simp at hc
   rcases hr with ⟨rfl,⟨w0,rfl⟩,ext,rfl⟩|⟨ob,cs,rfl,hob,⟨ext,rfl⟩,ho,r,rfl⟩
   ·have hv0:VRel G' w' (.sl none []) x:=by
     cases hvx with
     | slnil=>exact .slnil _
     | slany=>exact .slany _ _
     | sl own es sz b q cap u' hsz hown hl hm h1 h2=>exact .sl none [] sz b q cap u' hsz (λn hn=>by cases hn) hl hm h1 h2
    obtain ⟨G2,k1,k2⟩:=hc.cutExt (hcr.swap1 (put rfl hv0) rfl) hext rfl
    exact ⟨_,rfl,_,H,G2,⟨rfl,rfl⟩,k1,k2⟩
   ·have hlen:=OJ es 10 hn
    obtain ⟨G2,ext2,k1,k2,k3⟩:=hcr.frzRow true ho hob hvx (by rw [AE,hlen];omega) (.inl rfl)
    have e1:(es.flatten++r).map borrow1=es.flatten++r.map borrow1:=by
     rw [As,DL]
     congr 2
     exact B3 (f:=List.map borrow1) (g:=id) (λe he=>hb e he) |>.trans (DM _)
    rw [e1,Ke es _ 10 hn] at k3
    obtain ⟨G3,k4,k5⟩:=hc.cutExt (k1.swap1 (put rfl k3) rfl) (hext.trans k2) (by
     have:=NH hs
     simp only [AV.bnd,Fj] at this ⊢
     simp [this])
    exact ⟨_,rfl,_,H,G3,⟨rfl,rfl⟩,k4,k5⟩⟩
end
end Go.AI
namespace Go.AI
open Go.Proofs
set_option maxRecDepth 50000
def Ya{i j n:Nat}(hn:n<=4611686018427387903)(hj:j<=n)(hi:i<j):IntKind.i64.wrap ((IntKind.u64.wrap (IntKind.i64.wrap ((i:Int)+(j:Int)))).fdiv 2)=(((i+j) / 2:Nat):Int):=by
 have e1:IntKind.i64.wrap ((i:Int)+(j:Int))=((i+j:Nat):Int):=OD FM FM
 rw [e1]
 have e2:IntKind.u64.wrap ((i+j:Nat):Int)=((i+j:Nat):Int):=by
  simp [Dg,Dh,DH];omega
 rw [e2]
 have e3:((i+j:Nat):Int).fdiv 2=(((i+j) / 2:Nat):Int):=by
  rw [Int.fdiv_eq_ediv_of_nonneg _ dc];omega
 rw [e3]
 exact OD FM FM
def yp(x:Int):FO AA 213 [.int .i64 x] (.bool false):=by
 refine pC ALH rfl ?_
 simp only [f213,go_sem,bne_self_eq_false]
def Pi(a b:Int):Int:=if a<b then -1 else if b<a then 1 else 0
def yy(a b:Int):FO AA 150 [.int .i64 a,.int .i64 b] (.int .i64 (Pi a b)):=by
 have c1:=yp a
 have c2:=yp b
 refine pC AN7 rfl ?_
 simp only [f150,go_sem]
 repeat' (first|((first|refine pK (c1) ?_|refine pK (c2) ?_);simp only [go_sem])|(first|apply cS|apply gS)<;>intro hc<;>simp only [go_sem,hc])
 all_goals (unfold Pi;grind)
def ko(a b:Ew)(H:FN)(oa ob:Nat)(hA:H[oa]? =some (some a.c))(hB:H[ob]? =some (some b.c)):GI AA 84 [.msl oa 0 10 1,.msl ob 0 10 1] H (.int .i64 (In a b)):=by
 refine aC AFp rfl ?_
 simp only [f84,go_sem]
 refine Kj (σ:=Nat) (λk=>[(0,.msl oa 0 10 1),(1,.msl ob 0 10 1),(9,.msl oa 0 10 1),(10,.int .i64 10),(11,.int .i64 k)]) (λ_=>H) (λk=>k<=10/\In a b=LT (a.l.drop k) (b.l.drop k)) (λk=>10 - k) 0 ⟨dc,rfl⟩ rfl rfl ?_
 rintro k ⟨hk,hI⟩
 rw [mc a b k hk] at hI
 by_cases h:k<10
 ·rw [iP h] at hI
  have i0:(0:Int)<=(k:Int):=FM
  have i1:(k:Int)<((10:Nat):Int):=FM
  have i2:(k:Int)<10:=FM
  have i3 : ¬ ((10:Nat):Int)<=(k:Int):=FM
  have a1:=Lb a h
  have a2:=Lb b h
  have hw:=Mc (k:=k) FM
  have c1:=yy (Fi a k) (Fi b k)
  simp only [go_sem,i0,i1,i2,i3,dT,dF,Ae,hA,hB,a1,a2]
  repeat' (first|(refine pK (c1) ?_;simp only [go_sem,i0,i1,i2,i3,dT,dF,Ae,hA,hB,a1,a2,hw])|(first|apply cS|apply gS)<;>intro hc<;>simp only [go_sem,hc,i0,i1,i2,i3,dT,dF,Ae,hA,hB,a1,a2,hw])
  ·have hne:Pi (Fi a k) (Fi b k)≠0:=by simpa using hc
   rw [hI]
   unfold Pi at hne ⊢
   by_cases h1:Fi a k<Fi b k
   ·rw [iP h1,iP h1]
   ·rw [iN h1] at hne ⊢
    rw [iN h1]
    by_cases h2:Fi b k<Fi a k
    ·rw [iP h2,iP h2]
    ·rw [iN h2] at hne;exact absurd rfl hne
  ·have heq:Pi (Fi a k) (Fi b k)=0:=by simpa using hc
   unfold Pi at heq
   have h1 : ¬ Fi a k<Fi b k:=λh1=>by rw [iP h1] at heq;cases heq
   have h2 : ¬ Fi b k<Fi a k:=λh2=>by rw [iN h1,iP h2] at heq;cases heq
   rw [iN h1,iN h2] at hI
   exact ⟨k+1,⟨FM,hI⟩,FM,rfl,rfl⟩
 ·rw [iN h] at hI
  have:k=10:=FM
  subst this
  have g:decide (((10:Nat):Int)<10)=false:=dc
  have g2:decide (((10:Nat):Int)<((10:Nat):Int))=false:=dc
  simp only [go_sem,g,g2]
  rw [hI]
def QM(a b:Ew):FO AA 262 [.agg a.c,.agg b.c] (.int .i64 (In a b)):=by
 refine pC AJ3 rfl ?_
 simp only [f262,go_sem]
 repeat' (first|(refine aS (ko a b _ _ _ rfl rfl) ?_;simp only [go_sem])|(first|apply cS|apply gS)<;>intro hc<;>simp only [go_sem,hc])
def ye(x:Ew):List Ew->Nat
 | []=>0
 | y::r=>if In y x<0 then ye x r+1 else 0
def og(x:Ew): ∀ (l:List Ew) (i:Nat),i<=l.length->(∀ k y,l[k]? =some y->k<i->In y x<0)->(∀ y,l[i]? =some y -> ¬ In y x<0)->ye x l=i
 | [],i,h,_,_=>by
  have:i=0:=by simpa using h
  rw [this];rfl
 | y::r,0,_,_,h2=>by rw [ye,iN (h2 y rfl)]
 | y::r,i+1,h,h1,h2=>by
  rw [ye,iP (h1 0 y rfl FM),og x r i (by simpa using h) (λk z hk hl=>h1 (k+1) z (by simpa using hk) FM) λz hz=>h2 z (by simpa using hz)]
def kL{l:List Ew}(h:LJ l){i j:Nat}{a b:Ew}(ha:l[i]? =some a)(hb:l[j]? =some b)(hij:i<j):In a b<0:=by
 obtain ⟨h1,rfl⟩:=AD.1 ha
 obtain ⟨h2,rfl⟩:=AD.1 hb
 exact List.pairwise_iff_getElem.1 h i j h1 h2 hij
def AR0{l:List Ew}(h:LJ l)(x:Ew){i:Nat}(h1 : ∀ k y,l[k]? =some y->k<i->In y x<0)(h2 : ∀ k y,l[k]? =some y->i<=k -> ¬ In y x<0):(l.any λy=>decide (y=x))=match l[i]? with|some y=>decide (In y x=0)|none=>false:=by
 have key:x∈l->l[i]? =some x:=λhx=>by
  obtain ⟨k,hk⟩:=List.getElem?_of_mem hx
  rcases BT k i with hl|hl
  ·have:=h1 k x hk hl;rw [PZ] at this;omega
  ·rcases BT i k with hl2|hl2
   ·have hlt:i<l.length:=by have:=(AD.1 hk).1;omega
    have hi:=AL hlt
    exact absurd (kL h hi hk hl2) (h2 i _ hi (AU _))
   ·have:k=i:=FM
    subst this;exact hk
 cases hi:l[i]? with
 | none =>
  dsimp only
  rw [List.any_eq_false]
  intro y hy hc
  have:=of_decide_eq_true hc
  subst this
  rw [key hy] at hi;cases hi
 | some y =>
  dsimp only
  rw [BA,List.any_eq_true,decide_eq_true_eq]
  constructor
  ·rintro ⟨z,hz,hc⟩
   have:=of_decide_eq_true hc
   subst this
   rw [key hz] at hi;cases hi;exact PZ _
  ·intro hc
   exact ⟨y,AB hi,decide_eq_true (Ra hc)⟩
def AUO(l:List Ew)(hs:LJ l)(hl:l.length<=4611686018427387903)(x:Ew):FO AA 264 [.sl none (F0 l),.agg x.c,.fn (.func 262) [] []] (.tup [.int .i64 (ye x l),.bool (l.any λy=>decide (y=x))]):=by
 refine pB AJy rfl ?_
 simp only [f264,go_sem]
 refine Kj (σ:=Nat×Nat) (λs=>[(0,.sl none (F0 l)),(2,.fn (.func 262) [] []),(4,.ptr 0 0),(8,.int .i64 l.length),(9,.int .i64 s.1),(10,.int .i64 s.2)]) (λ_=>[some x.c]) (λs=>s.1<=s.2/\s.2<=l.length/\(∀ k y,l[k]? =some y->k<s.1->In y x<0)/\(∀ k y,l[k]? =some y->s.2<=k -> ¬ In y x<0)) (λs=>s.2 - s.1) (0,l.length) ⟨FM,FM,λk y hk=>FM,λk y h1 h2=>by have:=(AD.1 h1).1;omega⟩ rfl rfl ?_
 rintro ⟨i,j⟩ ⟨hij,hj,h1,h2⟩
 dsimp only at hij hj h1 h2 ⊢
 by_cases hlt:i<j
 ·have g1:(i:Int)<(j:Int):=FM
  have g2:(0:Int)<=(((i+j) / 2:Nat):Int):=FM
  have g3:(((i+j) / 2:Nat):Int).toNat=(i+j) / 2:=FM
  have hm:(i+j) / 2<l.length:=FM
  have g4:(((i+j) / 2:Nat):Int)<(l.length:Int):=FM
  have hw:=Mc (k:=(i+j) / 2) FM
  have hgm:=AL hm
  have a1:=HJ hgm
  have c1:=QM l[(i+j) / 2] x
  simp only [go_sem,g1,dT,Ya hl hj hlt,g2,g3,g4,a1]
  repeat' (first|(refine pK (c1) ?_;simp only [go_sem,g1,Ya hl hj hlt,g2,g3,g4,a1,hw])|(first|apply cS|apply gS)<;>intro hc<;>simp only [go_sem,hc,g1,Ya hl hj hlt,g2,g3,g4,a1,hw])
  ·have hc:=of_decide_eq_true hc
   exact ⟨((i+j) / 2+1,j),⟨by dsimp only;omega,hj,λk y hk hki=>by
    rcases BT k ((i+j) / 2) with h|h
    ·exact Lv (kL hs hk hgm h) hc
    ·have:k=(i+j) / 2:=by dsimp only at hki;omega
     subst this
     rw [hgm] at hk;cases hk;exact hc,h2⟩,by dsimp only;omega,rfl,rfl⟩
  ·have hc:=of_decide_eq_false hc
   exact ⟨(i,(i+j) / 2),⟨by dsimp only;omega,by dsimp only;omega,h1,λk y hk hki=>by
    rcases BT ((i+j) / 2) k with h|h
    ·intro hlt2;exact hc (Lv (kL hs hgm hk h) hlt2)
    ·have:k=(i+j) / 2:=by dsimp only at hki;omega
     subst this
     rw [hgm] at hk;cases hk;exact hc⟩,by dsimp only;omega,rfl,rfl⟩
 ·have hij:i=j:=FM
  subst hij
  have g1 : ¬ (i:Int)<(i:Int):=FM
  have hany:=AR0 hs x h1 h2
  have hpos:=og x l i hj h1 λy hy=>h2 i y hy (AU _)
  rw [hpos]
  by_cases hil:i<l.length
  ·have g3:(i:Int)<(l.length:Int):=FM
   have g4:(0:Int)<=(i:Int):=FM
   have hgi:=AL hil
   have a1:=HJ hgi
   have c1:=QM l[i] x
   rw [hgi] at hany
   dsimp only at hany
   rw [hany]
   simp only [go_sem,g1,dF,g3,g4,dT,a1]
   repeat' (first|(refine pK (c1) ?_;simp only [go_sem,g1,g3,g4,a1,dT,Ae])|(first|apply cS|apply gS)<;>intro hc<;>simp only [go_sem,hc,g1,g3,g4,a1,dT,Ae])
   all_goals rfl
  ·have g3 : ¬ (i:Int)<(l.length:Int):=FM
   rw [List.getElem?_eq_none FM] at hany
   dsimp only at hany
   rw [hany]
   simp only [go_sem,g1,dF,g3]
   repeat' (first|(first|apply cS|apply gS)<;>intro hc<;>simp only [go_sem,hc,g1,g3])
def Abg(l:List Ew)(hs:LJ l)(hl:l.length<=4611686018427387903)(x:Ew):FO AA 208 [.sl none (F0 l),.agg x.c] (.bool (l.any λy=>decide (y=x))):=by
 have c1:=AUO l hs hl x
 refine pC ALW rfl ?_
 simp only [f208,go_sem]
 repeat' (first|(refine pK (c1) ?_;simp only [go_sem])|(first|apply cS|apply gS)<;>intro hc<;>simp only [go_sem,hc])
def ADX(l:List Ew)(hs:LJ l)(hl:l.length<=4611686018427387903)(x:Ew)(H:FN)(oa:Nat)(w:Option Nat)(hA:H[oa]? =some (some [.sl w (F0 l)])):GI AA 207 [.agg x.c,.ptr oa 0] H (.bool (l.any λy=>decide (y=x))):=by
 have c1:=Abg l hs hl x
 refine FT.drop rfl ?_
 refine aC ALZ rfl ?_
 have hA' : ∀ z,(H++z)[oa]? =some (some [.sl w (F0 l)]):=λz=>by
  have:=(AD.1 hA).1
  rw [AW this];exact hA
 simp only [f207,go_sem,hA']
 repeat' (first|(refine pK (c1) ?_;simp only [go_sem,hA'])|(first|apply cS|apply gS)<;>intro hc<;>simp only [go_sem,hc,hA'])
def KO : ∀ (n m:Nat) (a b:List Ew),a.length+b.length<n->a.length+b.length<m->I5 n a b=I5 m a b
 | 0,_,a,b,h,_=>FM
 | _,0,a,b,_,h=>FM
 | n+1,m+1,[],b,_,_=>rfl
 | n+1,m+1,x::a,[],_,_=>rfl
 | n+1,m+1,x::a,y::b,h1,h2=>by
  simp only [AC] at h1 h2
  rw [I5,I5,KO n m a (y::b) (by simp only [AC];omega) (by simp only [AC];omega),KO n m a b FM FM,KO n m (x::a) b (by simp only [AC];omega) (by simp only [AC];omega)]
def lN(a:List Ew):Hs a []=a:=by cases a<;>rfl
def zZ(x:Ew)(a:List Ew)(y:Ew)(b:List Ew):Hs (x::a) (y::b)=if In x y<0 then x::Hs a (y::b) else if In x y=0 then y::Hs a b else y::Hs (x::a) b:=by
 unfold Hs
 rw [I5]
 simp only [AC]
 rw [KO (a.length+1+(b.length+1)) (a.length+(b.length+1)+1) a (y::b) (by simp only [AC];omega) (by simp only [AC];omega),KO (a.length+1+(b.length+1)) (a.length+b.length+1) a b FM FM,KO (a.length+1+(b.length+1)) (a.length+1+b.length+1) (x::a) b (by simp only [AC];omega) (by simp only [AC];omega)]
def OQ : ∀ (n:Nat) (a b:List Ew),(I5 n a b).length<=a.length+b.length
 | 0,_,_=>by simp [I5]
 | n+1,[],b=>by simp [I5]
 | n+1,x::a,[]=>by simp [I5]
 | n+1,x::a,y::b=>by
  have h1:=OQ n a (y::b)
  have h2:=OQ n a b
  have h3:=OQ n (x::a) b
  rw [I5]
  simp only [AC] at h1 h3 ⊢
  split
  ·simp only [AC];omega
  ·split<;>simp only [AC]<;>omega
def OV(x:Ew)(l:List Ew):(F0 (x::l)).drop 1=F0 l:=rfl
def ARz(x y:Option (Tmp×Nat×Bool))(e:Fp):Prop :=
 match x,y with
 | some (a,k,s),some (b,l,s')=>(s=true\/s'=true)/\match Fm e a,Fm e b with
  | .ptr o1 f1,.ptr o2 f2=>o1≠o2\/f1+k<=f2\/f2+l<=f1
  | _,_=>False
 | _,_=>False
def Ls{P:Program}{h:Hint}{ops:Array Oper}{e:Fp}(L:List (Option (Tmp×Nat×Bool)×Option (Tmp×Nat×Bool)))(hT:((RV h ops).map λp=>(J8 P h p.1,J8 P h p.2))=L)(hL : ∀ q∈L,ARz q.1 q.2 e):Je P h ops e:=λp hp=>by
 have:=hL _ (by rw [<- hT];exact AO.2 ⟨p,hp,rfl⟩)
 exact this
def Lm(l:List Ew):Option (List AV):=some [.sl none (F0 l)]
def kd (o pa pb:Nat) (L:LoopRec) (Inv:List Ew->List Ew->List Ew->FN->Prop) (hne:pa≠pb) (m:List Ew) (hm:m.length<=4611686018427387903)
  (hA : ∀ out a b X,Inv out a b X->X[pa]? =some (Lm a)) (hB : ∀ out a b X,Inv out a b X->X[pb]? =some (Lm b)) (hG : ∀ out a b X x,Inv out a b X->Inv out a b (X++[x]))
  (hsA : ∀ out a b X a',Inv out a b X->Inv out a' b (X.set pa (Lm a'))) (hsB : ∀ out a b X b',Inv out a b X->Inv out a b' (X.set pb (Lm b')))
  (round : ∀ out a b x X,out++[x] <+: m->Inv out a b X->M3 AA o L [.agg (Head.c x)] X λv X'=>v = .bool true/\Inv (out++[x]) a b X')
  (a b:List Ew) (X:FN) (hab:Hs a b=m) (hl:a.length+b.length<=4611686018427387903) (h0:Inv [] a b X):FT AA 261 [.yld o L,.ptr pa 0,.ptr pb 0] X λ_ X'=>Inv m [] [] X':=by
 refine aC AJ8 rfl ?_
 simp only [f261,go_sem]
 refine Kj (σ:=List Ew×List Ew×List Ew×FN×Fp) (λs=>(0,.yld o L)::(1,.ptr pa 0)::(2,.ptr pb 0)::s.2.2.2.2) (λs=>s.2.2.2.1) (λs=>Inv s.1 s.2.1 s.2.2.1 s.2.2.2.1/\s.1++Hs s.2.1 s.2.2.1=m/\s.2.1.length+s.2.2.1.length<=4611686018427387903) (λs=>s.2.1.length+s.2.2.1.length) ([],a,b,X,[]) ⟨h0,hab,hl⟩ rfl rfl ?_
 rintro ⟨out,a,b,X,rest⟩ ⟨hI,hab,hl⟩
 clear h0
 dsimp only at hI hab hl ⊢
 have a0:=hA _ _ _ _ hI
 have b0:=hB _ _ _ _ hI
 have la:=(AD.1 a0).1
 have lb:=(AD.1 b0).1
 have eA : ∀ z,(X++z)[pa]? =some (Lm a):=λz=>by rw [AW la];exact a0
 have eB : ∀ z,(X++z)[pb]? =some (Lm b):=λz=>by rw [AW lb];exact b0
 have sA : ∀ y v,(X++[y]).set pa v=X.set pa v++[y]:=λy v=>BP _ _ la
 have sB : ∀ y v,(X++[y]).set pb v=X.set pb v++[y]:=λy v=>BP _ _ lb
 have tA : ∀ v x y,(X.set pa v++[x]).set X.length y=X.set pa v++[y]:=λv x y=>by
  have:=UI (X.set pa v) x y
  rwa [An] at this
 have tB : ∀ v x y,(X.set pb v++[x]).set X.length y=X.set pb v++[y]:=λv x y=>by
  have:=UI (X.set pb v) x y
  rwa [An] at this
 have gA : ∀ v x,(X.set pa v++[x])[X.length]? =some x:=λv x=>by rw [AM sm];simp
 have gB : ∀ v x,(X.set pb v++[x])[X.length]? =some x:=λv x=>by rw [AM sm];simp
 have nA:X.length≠pa:=FM
 have nB:X.length≠pb:=FM
 have nA2:pa≠X.length:=FM
 have nB2:pb≠X.length:=FM
 unfold Lm at a0 b0 eA eB
 have z1:((0:Int)<((0:Nat):Int))=False:=dc
 have z2:(((0:Nat):Int)==(0:Int))=true:=rfl
 cases a with
 | nil =>
  cases b with
  | nil =>
   have hm:out=m:=by rw [<- hab];exact (Ah _).symm
   rw [hm] at hI
   simp only [go_sem,a0,b0,AG,z1,z2,dF]
   repeat' (first|(first|apply cS|apply gS)<;>intro hc<;>simp only [go_sem,hc,a0,b0,AG,z1,z2,dF])
   all_goals first|exact hI|skip
  | cons y b =>
   simp only [AC] at hl
   have n1:((0:Int)<((b.length+1:Nat):Int))=True:=eq_true FM
   have n2:(((b.length+1:Nat):Int)==(0:Int))=false:=by
    rw [beq_eq_false_iff_ne];omega
   have n3:=OV y b
   have n4:(F0 (y::b))[0]? =some (.agg y.c):=rfl
   have hab2:out++[y]++Hs [] b=m:=by rw [<- hab,AF];rfl
   simp only [go_sem,a0,b0,eA,eB,sA,sB,tA,tB,gA,gB,AG,AC,z1,z2,n1,n2,n3,n4,dT,dF]
   rw [HQ _ _ _ (by simp only [go_sem]) rfl rfl]
   simp only [go_sem,a0,b0,eA,eB,sA,sB,tA,tB,gA,gB,AG,AC,z1,z2,n1,n2,n3,n4,dT,dF]
   refine ⟨FM,Ls [(some (2,1,false),some (5,10,true))] kr ?_, ?_⟩
   ·intro q hq
    rw [Al.1 hq]
    exact ⟨.inr rfl,.inl nB2⟩
   simp only [go_sem,a0,b0,eA,eB,sA,sB,tA,tB,gA,gB,AG,AC,z1,z2,n1,n2,n3,n4,dT,dF]
   refine Nn.intro (round out [] b y _ ⟨_,hab2⟩ (hG _ _ _ _ _ (hsB _ _ _ _ b hI))) λv X' hr=>?_
   obtain ⟨rfl,hi⟩:=hr
   simp only [go_sem]
   exact ⟨(out++[y],[],b,X',[(46,.bool false)]),⟨hi,hab2,by simp only [AG];omega⟩,sm,rfl,rfl⟩
 | cons x a =>
  simp only [AC] at hl
  have m1:((0:Int)<((a.length+1:Nat):Int))=True:=eq_true FM
  have m2:(((a.length+1:Nat):Int)==(0:Int))=false:=by
   rw [beq_eq_false_iff_ne];omega
  have m3:=OV x a
  have m4:(F0 (x::a))[0]? =some (.agg x.c):=rfl
  cases b with
  | nil =>
   have hab2:out++[x]++Hs a []=m:=by rw [<- hab,AF,lN,lN];rfl
   simp only [go_sem,a0,b0,eA,eB,sA,sB,tA,tB,gA,gB,AG,AC,z1,z2,m1,m2,m3,m4,dT,dF]
   rw [HQ _ _ _ (by simp only [go_sem]) rfl rfl]
   simp only [go_sem,a0,b0,eA,eB,sA,sB,tA,tB,gA,gB,AG,AC,z1,z2,m1,m2,m3,m4,dT,dF]
   refine ⟨FM,Ls [(some (1,1,false),some (5,10,true))] kr ?_, ?_⟩
   ·intro q hq
    rw [Al.1 hq]
    exact ⟨.inr rfl,.inl nA2⟩
   simp only [go_sem,a0,b0,eA,eB,sA,sB,tA,tB,gA,gB,AG,AC,z1,z2,m1,m2,m3,m4,dT,dF]
   refine Nn.intro (round out a [] x _ ⟨_,hab2⟩ (hG _ _ _ _ _ (hsA _ _ _ _ a hI))) λv X' hr=>?_
   obtain ⟨rfl,hi⟩:=hr
   simp only [go_sem]
   exact ⟨(out++[x],a,[],X',[(46,.bool false)]),⟨hi,hab2,by simp only [AG];omega⟩,sm,rfl,rfl⟩
  | cons y b =>
   simp only [AC] at hl
   have n1:((0:Int)<((b.length+1:Nat):Int))=True:=eq_true FM
   have n2:(((b.length+1:Nat):Int)==(0:Int))=false:=by
    rw [beq_eq_false_iff_ne];omega
   have n3:=OV y b
   have n4:(F0 (y::b))[0]? =some (.agg y.c):=rfl
   have c1:=QM x y
   rw [zZ] at hab
   by_cases q1:In x y<0
   ·rw [iP q1] at hab
    have k1 : ¬ 0<=In x y:=FM
    have k2:In x y<=0:=FM
    have hab2:out++[x]++Hs a (y::b)=m:=by rw [<- hab,AF];rfl
    simp only [go_sem,a0,b0,eA,eB,sA,sB,tA,tB,gA,gB,AG,AC,z1,z2,n1,n2,n3,n4,m1,m2,m3,m4,dT,dF]
    repeat' (first|(refine pK (c1) ?_;simp only [go_sem,a0,b0,eA,eB,sA,sB,tA,tB,gA,gB,AG,AC,z1,z2,n1,n2,n3,n4,m1,m2,m3,m4,k1,k2,dT,dF])|(first|apply cS|apply gS)<;>intro hc<;>simp only [go_sem,hc,a0,b0,eA,eB,sA,sB,tA,tB,gA,gB,AG,AC,z1,z2,n1,n2,n3,n4,m1,m2,m3,m4,k1,k2,dT,dF])
    rw [HQ _ _ _ (by simp only [go_sem]) rfl rfl]
    simp only [go_sem,a0,b0,eA,eB,sA,sB,tA,tB,gA,gB,AG,AC,z1,z2,m1,m2,m3,m4,dT,dF]
    refine ⟨FM,Ls [(some (1,1,false),some (5,10,true))] kr ?_, ?_⟩
    ·intro q hq
     rw [Al.1 hq]
     exact ⟨.inr rfl,.inl nA2⟩
    simp only [go_sem,a0,b0,eA,eB,sA,sB,tA,tB,gA,gB,AG,AC,z1,z2,m1,m2,m3,m4,dT,dF]
    refine Nn.intro (round out a (y::b) x _ ⟨_,hab2⟩ (hG _ _ _ _ _ (hsA _ _ _ _ a hI))) λv X' hr=>?_
    obtain ⟨rfl,hi⟩:=hr
    simp only [go_sem]
    exact ⟨(out++[x],a,y::b,X',[(46,.bool false)]),⟨hi,hab2,by simp only [AC];omega⟩,by simp only [AC];omega,rfl,rfl⟩
   ·rw [iN q1] at hab
    have k1:0<=In x y:=FM
    by_cases q2:In x y=0
    ·rw [iP q2] at hab
     have hxy:=Ra q2
     subst hxy
     have k2:In x x<=0:=FM
     have hab2:out++[x]++Hs a b=m:=by rw [<- hab,AF];rfl
     have la':pa<(X.set pb (some [.sl none (F0 b)])).length:=by simpa using la
     have eA2 : ∀ v,(X.set pb v)[pa]? =some (some [.sl none (F0 (x::a))]):=λv=>by rw [A6 hne.symm];exact a0
     have eA3 : ∀ v z,(X.set pb v++z)[pa]? =some (some [.sl none (F0 (x::a))]):=λv z=>by rw [AW (by simpa using la)];exact eA2 v
     have sA3 : ∀ w y v,(X.set pb w++[y]).set pa v=(X.set pb w).set pa v++[y]:=λw y v=>BP _ _ (by simpa using la)
     have tA3 : ∀ w v x y,((X.set pb w).set pa v++[x]).set X.length y=(X.set pb w).set pa v++[y]:=λw v x y=>by
      have:=UI ((X.set pb w).set pa v) x y
      rwa [An,An] at this
     have gA3 : ∀ w v x,((X.set pb w).set pa v++[x])[X.length]? =some x:=λw v x=>by rw [AM sm];simp
     simp only [go_sem,a0,b0,eA,eB,sA,sB,tA,tB,gA,gB,AG,AC,z1,z2,n1,n2,n3,n4,m1,m2,m3,m4,dT,dF]
     repeat' (first|(refine pK (c1) ?_;simp only [go_sem,a0,b0,eA,eB,sA,sB,tA,tB,gA,gB,AG,AC,z1,z2,n1,n2,n3,n4,m1,m2,m3,m4,k1,k2,dT,dF])|(first|apply cS|apply gS)<;>intro hc<;>simp only [go_sem,hc,a0,b0,eA,eB,sA,sB,tA,tB,gA,gB,AG,AC,z1,z2,n1,n2,n3,n4,m1,m2,m3,m4,k1,k2,dT,dF])
     rw [HQ _ _ _ (by simp only [go_sem]) rfl rfl]
     simp only [go_sem,a0,b0,eA,eB,sA,sB,tA,tB,gA,gB,AG,AC,z1,z2,n1,n2,n3,n4,dT,dF]
     refine ⟨FM,Ls [(some (2,1,false),some (5,10,true))] kr ?_, ?_⟩
     ·intro q hq
      rw [Al.1 hq]
      exact ⟨.inr rfl,.inl nB2⟩
     simp only [go_sem,a0,b0,eA,eB,sA,sB,tA,tB,gA,gB,AG,AC,z1,z2,n1,n2,n3,n4,k2,eA3,dT,dF]
     rw [HQ _ _ _ (by simp only [go_sem]) rfl rfl]
     simp only [go_sem,a0,b0,eA,eB,sA,sB,tA,tB,gA,gB,AG,AC,z1,z2,m1,m2,m3,m4,eA3,sA3,tA3,gA3,dT,dF]
     refine ⟨FM,Ls [(some (1,1,false),some (5,10,true))] kr ?_, ?_⟩
     ·intro q hq
      rw [Al.1 hq]
      exact ⟨.inr rfl,.inl nA2⟩
     simp only [go_sem,a0,b0,eA,eB,sA,sB,tA,tB,gA,gB,AG,AC,z1,z2,m1,m2,m3,m4,eA3,sA3,tA3,gA3,dT,dF]
     refine Nn.intro (round out a b x _ ⟨_,hab2⟩ (hG _ _ _ _ _ (hsA _ _ _ _ a (hsB _ _ _ _ b hI)))) λv X' hr=>?_
     obtain ⟨rfl,hi⟩:=hr
     simp only [go_sem]
     exact ⟨(out++[x],a,b,X',[(46,.bool false)]),⟨hi,hab2,by simp only [AC];omega⟩,by simp only [AC];omega,rfl,rfl⟩
    ·rw [iN q2] at hab
     have k2 : ¬ In x y<=0:=FM
     have hab2:out++[y]++Hs (x::a) b=m:=by rw [<- hab,AF];rfl
     simp only [go_sem,a0,b0,eA,eB,sA,sB,tA,tB,gA,gB,AG,AC,z1,z2,n1,n2,n3,n4,m1,m2,m3,m4,dT,dF]
     repeat' (first|(refine pK (c1) ?_;simp only [go_sem,a0,b0,eA,eB,sA,sB,tA,tB,gA,gB,AG,AC,z1,z2,n1,n2,n3,n4,m1,m2,m3,m4,k1,k2,dT,dF])|(first|apply cS|apply gS)<;>intro hc<;>simp only [go_sem,hc,a0,b0,eA,eB,sA,sB,tA,tB,gA,gB,AG,AC,z1,z2,n1,n2,n3,n4,m1,m2,m3,m4,k1,k2,dT,dF])
     rw [HQ _ _ _ (by simp only [go_sem]) rfl rfl]
     simp only [go_sem,a0,b0,eA,eB,sA,sB,tA,tB,gA,gB,AG,AC,z1,z2,n1,n2,n3,n4,dT,dF]
     refine ⟨FM,Ls [(some (2,1,false),some (5,10,true))] kr ?_, ?_⟩
     ·intro q hq
      rw [Al.1 hq]
      exact ⟨.inr rfl,.inl nB2⟩
     simp only [go_sem,a0,b0,eA,eB,sA,sB,tA,tB,gA,gB,AG,AC,z1,z2,n1,n2,n3,n4,k2,dT,dF]
     refine Nn.intro (round out (x::a) b y _ ⟨_,hab2⟩ (hG _ _ _ _ _ (hsB _ _ _ _ b hI))) λv X' hr=>?_
     obtain ⟨rfl,hi⟩:=hr
     simp only [go_sem]
     exact ⟨(out++[y],x::a,b,X',[(46,.bool false)]),⟨hi,hab2,by simp only [AC];omega⟩,by simp only [AC];omega,rfl,rfl⟩
def GD(l:List Ew):List AV:=(l.map Head.c).flatten
def Ip(x:Ew)(l:List Ew):GD (x::l)=x.c++GD l:=rfl
def Jf : ∀ l:List Ew,(GD l).length=l.length*10
 | []=>rfl
 | x::l=>by
  rw [Ip,AE,Jf l,AC]
  have:x.c.length=10:=rfl
  omega
def V6 : ∀ (l:List Ew) (r:List AV) (k:Nat) (y:Ew),l[k]? =some y->((GD l++r).drop (k*10)).take 10=y.c
 | [],_,_,_,h=>by simp at h
 | x::l,r,0,y,h=>by
  simp only [A8,Option.some.injEq] at h
  subst h
  rfl
 | x::l,r,k+1,y,h=>by
  rw [Ip,AF]
  have e:(k+1)*10=x.c.length+k*10:=by
   have:x.c.length=10:=rfl
   omega
  rw [e,<- A9,List.drop_left]
  exact V6 l r k y (by simpa using h)
def gO{l:List Ew}(r:List AV){k:Nat}{y:Ew}(h:l[k]? =some y):k*10+10<=(GD l++r).length:=by
 have:=(AD.1 h).1
 rw [AE,Jf]
 omega
def eh(d:Ew->Bool):Nat->List Ew->Int
 | _,[] => -1
 | k,x::r=>if d x=true then (k:Int) else eh d (k+1) r
def zC(l:List Ew)(hl:l.length<=9223372036854775807)(r:List AV)(H:FN)(o:Nat)(ho:H[o]? =some (some (GD l++r)))(f:Nat)(first cap:List AV)(d:Ew->Bool)(hd : ∀ x∈l,GI AA f (first.map AV.borrow++(.agg (Head.c x)::cap.map AV.borrow)) H (.bool (d x))):
  GI AA 263 [.msl o 0 l.length 10,.fn (.func f) first cap] H (.int .i64 (eh d 0 l)):=by
 refine aC AAV rfl ?_
 simp only [f263,go_sem]
 refine FZ l (λr=>eh d (l.length - r.length) r) (λk=>[(0,.msl o 0 l.length 10),(1,.fn (.func f) first cap),(7,.int .i64 l.length),(8,.int .i64 k)]) hl rfl ?_ ?_
 ·intro k y ys hdr hx hF h0 h1 hw
  have c1:=hd y (AB hx)
  have g1:=gO r hx
  have g2:=V6 l r k y hx
  have hk2:=Fl hdr
  have e1:l.length - (ys.length+1)=k:=FM
  have e2:l.length - ys.length=k+1:=FM
  simp only [AC,e1,AQ] at hF
  simp only [go_sem,h0,h1,ho,g1,g2,e1,e2]
  repeat' (first|(refine aS (c1) ?_;simp only [go_sem,h0,h1,hw,ho,g1,g2,e1,e2])|(first|apply cS|apply gS)<;>intro hc<;>simp only [go_sem,hc,h0,h1,hw,ho,g1,g2,e1,e2])
  ·rw [hF,eh,iP hc]
  ·rw [eh,iN (by rw [hc];decide)]
 ·intro hF hlt
  simp only [go_sem,hlt,dF]
  rw [AQ] at hF
  rw [hF];rfl
def hM2:Hint:={ fF with tk:=[] }
@[go_sem] def Ae0:hM2.lv 3=[5,6]/\hM2.lv 4=[0]:=dk
set_option linter.defProp false in
@[go_sem] def Aez:=l7 hM2 rfl rfl rfl
@[go_sem] def Aey:hM2.tk=[]/\hM2.mt=[5,14]/\hM2.pc=[]:=⟨rfl,rfl,rfl⟩
def yr(a b:List Ew)(H:FN):FT AA 205 [.sl none (F0 a),.sl none (F0 b)] H λv H'=>v = .fn (.func 261) [] [.ptr H.length 0,.ptr (H.length+1) 0]/\H'=H++[Lm a,Lm b]:=by
 refine aC ALd rfl ?_
 simp only [f205,go_sem,AE,AF,AS,AN]
 all_goals first|rfl|exact ⟨rfl,rfl⟩
def AGk {P:Program} {n tag N:Nat} {h:Hint} {g:Operand} {rs:Array Tmp} {assign body:Code} {Q:Exit->Kt} {e:Fp} {H:FN} {f:FuncId} {first captured:List AV} (hN:H.length=N)
  (hg:Gy P none e g = .fn (.func f) first captured)
  (hc:FT P f (first.map AV.borrow++[.yld N ⟨tag,rs,assign,body⟩]++captured.map AV.borrow) (H++[some (G5 0 (Hd n e))]) (λ_ H2=>yP N Q e H2)):rfK P n h none g rs assign body Q e H:=by
 subst hN
 exact YE hg hc
def MI(H:FN)(fv:List AV)(out a b:List Ew)(X:FN):Prop :=
 H.length+4<=X.length/\X.take H.length=H/\X[H.length+1]? =some (Lm a)/\X[H.length+2]? =some (Lm b)/\X[H.length+3]? =some (some (G5 0 fv)) /\
  ∃ ov,X[H.length]? =some (some [ov])/\((out=[]/\ov = .sl (some 0) []) \/ ∃ ob,ov = .msl ob 0 out.length 10/\out≠[]/\H.length+4<=ob/\X[ob]? =some (some (GD out)))
def A'{X:FN}{i:Nat}{c:Option (List AV)}(h:X[i]? =some c)(z:FN):(X++z)[i]? =some c:=by
 rw [AW (AD.1 h).1];exact h
def F8{X:FN}{i j:Nat}{c:Option (List AV)}(h:X[i]? =some c)(hne:j≠i)(v:Option (List AV)):(X.set j v)[i]? =some c:=by
 rw [A6 hne];exact h
def IS{X:FN}{i:Nat}(h:i<X.length)(v:Option (List AV)):(X.set i v)[i]? =some v:=by
 rw [Az h]
def MI.grow{H:FN}{fv:List AV}{out a b:List Ew}{X:FN}(h:MI H fv out a b X)(x:Option (List AV)):MI H fv out a b (X++[x]):=by
 obtain ⟨h1,h2,h3,h4,h5,ov,h6,h7⟩:=h
 refine ⟨by simp;omega,by rw [C1 FM];exact h2,A' h3 _,A' h4 _,A' h5 _,ov,A' h6 _, ?_⟩
 rcases h7 with h7|⟨ob,g1,g2,g3,g4⟩
 ·exact .inl h7
 ·exact .inr ⟨ob,g1,g2,g3,A' g4 _⟩
def MI.setA{H:FN}{fv:List AV}{out a b:List Ew}{X:FN}(h:MI H fv out a b X)(a':List Ew):MI H fv out a' b (X.set (H.length+1) (Lm a')):=by
 obtain ⟨h1,h2,h3,h4,h5,ov,h6,h7⟩:=h
 refine ⟨by simpa using h1,by rw [CQ FM];exact h2,IS FM _,F8 h4 FM _,F8 h5 FM _,ov,F8 h6 FM _, ?_⟩
 rcases h7 with h7|⟨ob,g1,g2,g3,g4⟩
 ·exact .inl h7
 ·exact .inr ⟨ob,g1,g2,g3,F8 g4 FM _⟩
def MI.setB{H:FN}{fv:List AV}{out a b:List Ew}{X:FN}(h:MI H fv out a b X)(b':List Ew):MI H fv out a b' (X.set (H.length+2) (Lm b')):=by
 obtain ⟨h1,h2,h3,h4,h5,ov,h6,h7⟩:=h
 refine ⟨by simpa using h1,by rw [CQ FM];exact h2,F8 h3 FM _,IS FM _,F8 h5 FM _,ov,F8 h6 FM _, ?_⟩
 rcases h7 with h7|⟨ob,g1,g2,g3,g4⟩
 ·exact .inl h7
 ·exact .inr ⟨ob,g1,g2,g3,F8 g4 FM _⟩
def MI.put {H:FN} {fv:List AV} {a b:List Ew} {X:FN} (h1:H.length+4<=X.length) (h2:X.take H.length=H) (h3:X[H.length+1]? =some (Lm a)) (h4:X[H.length+2]? =some (Lm b)) (z:FN) {out:List Ew} {ob:Nat} (hne:out≠[]) (hob:H.length+4<=ob)
  (hr:((X.set H.length (some [.msl ob 0 out.length 10])).set (H.length+3) (some (G5 0 fv))++z)[ob]? =some (some (GD out))):MI H fv out a b ((X.set H.length (some [.msl ob 0 out.length 10])).set (H.length+3) (some (G5 0 fv))++z):=by
 refine ⟨by simp;omega, ?_,A' (F8 (F8 h3 FM _) FM _) _,A' (F8 (F8 h4 FM _) FM _) _,A' (IS (by simp;omega) _) _,_,A' (F8 (IS FM _) FM _) _,.inr ⟨ob,rfl,hne,hob,hr⟩⟩
 rw [C1 (by simp;omega),CQ FM,CQ FM]
 exact h2
def V7 : ∀ l:List Ew,(GD l).map borrow1=GD l
 | []=>rfl
 | x::l=>by
  rw [Ip,As,V7 l]
  rfl
def gP(l:List Ew)(x:Ew):GD (l++[x])=GD l++x.c:=by
 unfold GD
 simp
def AAy{H X:FN}(h:X.take H.length=H): ∃ ext,X=H++ext:=⟨X.drop H.length,by
 have:=List.take_append_drop H.length X
 rw [h] at this
 exact this.symm⟩
def mFv(n:Nat):List AV:=Hd 16 [(5,.ptr n 0),(9,.fn (.func 261) [] [.ptr (n+1) 0,.ptr (n+2) 0])]
def U1(a b:List Ew)(hl:a.length+b.length<=1048576)(H:FN):FT AA 140 [.sl none (F0 a),.sl none (F0 b)] H λv H'=>SB ((Hs a b).map Head.c) v H H':=by
 have hml:(Hs a b).length<=1048576:=Nat.le_trans (OQ _ a b) hl
 refine aC AOg rfl ?_
 simp only [f140,go_sem]
 refine ⟨by first|rfl|kernel_rfl,Fs.intro (yr a b _) λv H' hr=>?_⟩
 obtain ⟨rfl,rfl⟩:=hr
 simp only [go_sem,AE,AF,AS,AN,AC,AG,AP,Nat.reduceAdd]
 refine AGk (tag:=140) (N:=H.length+3) sm rfl (FT.mono (kd (H.length+3) (H.length+1) (H.length+2) _ (MI H (mFv H.length)) FM (Hs a b) FM (λ_ _ _ _ h=>h.2.2.1) (λ_ _ _ _ h=>h.2.2.2.1) (λ_ _ _ _ x h=>h.grow x) (λ_ _ _ _ a' h=>h.setA a') (λ_ _ _ _ b' h=>h.setB b') ?_ a b _ rfl FM ?_) λv H2 hq=>?_)
 ·intro out a b x X hpre hI
  have hlen:=hpre.length_le
  simp only [AE,AC,AG] at hlen
  obtain ⟨h1,h2,h3,h4,h5,ov,h6,h7⟩:=hI
  have f1 : ∀ z,(X++z)[H.length+3]? =some (some (G5 0 (mFv H.length))):=A' h5
  have f2 : ∀ y v,(X++[y]).set (H.length+3) v=X.set (H.length+3) v++[y]:=λy v=>BP _ _ FM
  have f3 : ∀ v z,(X.set (H.length+3) v++z)[H.length]? =some (some [ov]):=λv z=>A' (F8 h6 FM v) z
  have f4 : ∀ v y,(X.set (H.length+3) v++[y])[X.length]? =some y:=λv y=>by
   have:X.length=(X.set (H.length+3) v).length:=sm
   rw [this];exact Bj
  rcases h7 with ⟨rfl,rfl⟩|⟨ob,rfl,hne,hob,hrow⟩
  ·have f5 : ∀ v z w,(X.set (H.length+3) v++z).set H.length w=(X.set (H.length+3) v).set H.length w++z:=λv z w=>BP _ _ (by simp;omega)
   have f6 : ∀ v w z,((X.set (H.length+3) v).set H.length w++z)[H.length+3]? =some v:=λv w z=>A' (F8 (IS FM v) FM w) z
   have f7 : ∀ v w z u,((X.set (H.length+3) v).set H.length w++z).set (H.length+3) u=(X.set H.length w).set (H.length+3) u++z:=λv w z u=>by
    rw [BP _ _ (by simp;omega),B8 _ _ FM,BB,B8 _ _ FM]
   have f8 : ∀ v w y z,((X.set (H.length+3) v).set H.length w++(y::z))[X.length]? =some y:=λv w y z=>by
    have:X.length=((X.set (H.length+3) v).set H.length w).length:=sm
    rw [this,AM (AU _),AQ];rfl
   have f9 : ∀ v w z u,((X.set (H.length+3) v).set H.length w++z).set H.length u=(X.set (H.length+3) v).set H.length u++z:=λv w z u=>by
    rw [BP _ _ (by simp;omega),BB]
   have f10 : ∀ v w z,((X.set (H.length+3) v).set H.length w++z)[H.length]? =some w:=λv w z=>A' (IS (by simp;omega) w) z
   have hc1:x.c.length=10:=rfl
   have hc2:x.c.take 10=x.c:=rfl
   have hb1:List.map borrow1 (HM [AV.agg x.c])=GD [x]:=rfl
   refine LH (h:=fF) (n:=16) mixed rfl ⟨kr,kr⟩ dc _ _ _ _ h5 rfl rfl ?_
   show I8 _ _ _ _ _ _ [(10,.agg x.c),(0,.undef),(1,.undef),(2,.undef),(3,.undef),(4,.undef),(5,.ptr H.length 0),(6,.undef),(7,.undef),(8,.undef),(9,.fn (.func 261) [] [.ptr (H.length+1) 0,.ptr (H.length+2) 0]),(10,.undef),(11,.undef),(12,.undef),(13,.undef),(14,.undef),(15,.undef)] _
   simp only [go_sem,f1]
   refine ⟨_,rfl, ?_⟩
   simp only [go_sem,f1,f2,f3,f4,f5,f6,f7,f8,f9,f10,hb1,hc1,hc2,AF,AS,AN,AE,An,AC,AG,AX]
   refine ⟨_,rfl, ?_⟩
   have hlX : ∀ w u,((X.set H.length w).set (H.length+3) u).length=X.length:=λw u=>sm
   have:=MI.put (fv:=mFv H.length) h1 h2 h3 h4 [some x.c,some (GD [x])] (out:=[x]) (ob:=X.length+1) sm FM (by rw [AM (by rw [hlX];omega),hlX,A3];rfl)
   exact this
  ·have hX2 : ∀ v,X.set (H.length+3) v=X.set (H.length+3) v:=λ_=>rfl
   have hoX:=(AD.1 hrow).1
   have f5 : ∀ v z,(X.set (H.length+3) v++z)[ob]? =some (some (GD out)):=λv z=>A' (F8 hrow FM v) z
   have f6 : ∀ v z,(X.set (H.length+3) v++z).set ob none=(X.set (H.length+3) v).set ob none++z:=λv z=>BP _ _ (by simp;omega)
   have f8 : ∀ v z,((X.set (H.length+3) v).set ob none++z)[H.length]? =some (some [.msl ob 0 out.length 10]):=λv z=>A' (F8 (F8 h6 FM v) FM none) z
   have f9 : ∀ v z w,((X.set (H.length+3) v).set ob none++z).set H.length w=((X.set (H.length+3) v).set ob none).set H.length w++z:=λv z w=>BP _ _ (by simp;omega)
   have f10 : ∀ v w z,(((X.set (H.length+3) v).set ob none).set H.length w++z)[H.length+3]? =some v:=λv w z=>A' (F8 (F8 (IS FM v) FM none) FM w) z
   have f11 : ∀ v w z u,(((X.set (H.length+3) v).set ob none).set H.length w++z).set (H.length+3) u=((X.set ob none).set H.length w).set (H.length+3) u++z:=λv w z u=>by
    rw [BP _ _ (by simp;omega)]
    congr 1
    rw [B8 _ _ (show H.length≠H.length+3 by omega),B8 _ _ (show ob≠H.length+3 by omega),BB,B8 _ _ (show H.length+3≠ob by omega),B8 _ _ (show H.length+3≠H.length by omega)]
   have hcl:(GD out).length=out.length*10:=Jf out
   have hcb:(GD out).map borrow1=GD out:=V7 out
   have hc1:x.c.length=10:=rfl
   have hc2:x.c.take 10=x.c:=rfl
   have hb1:List.map borrow1 (HM [AV.agg x.c])=x.c:=rfl
   refine LH (h:=hM2) (n:=16) mixed rfl ⟨kr,kr⟩ dc _ _ _ _ h5 rfl rfl ?_
   show I8 _ _ _ _ _ _ [(10,.agg x.c),(0,.undef),(1,.undef),(2,.undef),(3,.undef),(4,.undef),(5,.ptr H.length 0),(6,.undef),(7,.undef),(8,.undef),(9,.fn (.func 261) [] [.ptr (H.length+1) 0,.ptr (H.length+2) 0]),(10,.undef),(11,.undef),(12,.undef),(13,.undef),(14,.undef),(15,.undef)] _
   simp only [go_sem,f1]
   refine ⟨_,rfl, ?_⟩
   simp only [go_sem,f1,f2,f3,f4,f5,f6,f8,f9,f10,f11,hcl,hcb,hc1,hc2,hb1,AF,AS,AN,AE,An,AC,AG,AX]
   have hX1:H.length+4<=(X.set ob none).length:=by simpa using h1
   have hX2:(X.set ob none).take H.length=H:=by rw [CQ FM];exact h2
   have hlX : ∀ w u,(((X.set ob none).set H.length w).set (H.length+3) u).length=X.length:=λw u=>sm
   refine ⟨FM,FM,_,rfl, ?_⟩
   have:=MI.put (fv:=mFv H.length) hX1 hX2 (F8 h3 FM none) (F8 h4 FM none) [some x.c,some (GD out++x.c)] (out:=out++[x]) (ob:=X.length+1) sm FM (by rw [AM (by rw [hlX];omega),hlX,A3,gP];rfl)
   simpa only [AE,AC,AG,AX] using this
 ·refine ⟨sm,by rw [AF,List.take_left], ?_, ?_, ?_,.sl (some 0) [], ?_,.inl ⟨rfl,rfl⟩⟩
  ·rw [AF,AM FM,A3];rfl
  ·rw [AF,AM FM,A3];rfl
  ·rw [AF,AM FM,A3];rfl
  ·rw [AF,AM (AU _),AQ];rfl
 ·obtain ⟨h1,h2,h3,h4,h5,ov,h6,h7⟩:=hq
  refine ⟨0,_,h5,.inl ⟨rfl, ?_⟩⟩
  have hext : ∃ ext,H2.set (H.length+3) none=H++ext:=AAy (by rw [CQ FM];exact h2)
  have g6:=F8 h6 (show H.length+3≠H.length by omega) none
  rcases h7 with ⟨e,rfl⟩|⟨ob,rfl,hne,hob,hrow⟩
  ·simp only [go_sem,g6]
   exact .inl ⟨by rw [e];rfl,⟨_,rfl⟩,hext⟩
  ·simp only [go_sem,g6]
   exact .inr ⟨ob,_,by rw [Aq],FM,hext,F8 hrow FM none,[],(Ah _).symm⟩
def Qb{l:List Ew}: ∀ e∈l.map Head.c,e.length=10:=λe he=>by
 obtain ⟨x,_,rfl⟩:=AO.1 he
 rfl
def ep{l:List Ew}: ∀ e∈l.map Head.c,e.map borrow1=e:=λe he=>by
 obtain ⟨x,_,rfl⟩:=AO.1 he
 rfl
def NX{l:List Ew}{n:Nat}: ∀ e∈l.map Head.c,Fj n e=true:=λe he=>by
 obtain ⟨x,_,rfl⟩:=AO.1 he
 rfl
def Oc(l:List Ew):(l.map Head.c).map AV.agg=F0 l:=by rw [List.map_map];rfl
def NM(a b:List Ew)(hl:a.length+b.length<=1048576)(H:FN):GI AA 140 [.sl none (F0 a),.sl none (F0 b)] H (.sl none (F0 (Hs a b))):=by
 have:=xJ Qb NX ep (U1 a b hl H)
 rw [Oc] at this
 exact this
def NJ:Option (List Ew)->AV
 | some r => .tup [.sl none (F0 r),.bool true]
 | none => .tup [.sl none [],.bool false]
@[go_sem] def ASY(o:Option (List Ew)):(NJ o).pure=true:=by
 cases o<;>simp [NJ,AV.pure,FQ,go_sem]
def Lj(r:List Ew)(b:Bool):FO AA 139 [.sl none (F0 r),.bool b] (NJ (if b=true then WD r else none)):=by
 refine pB mD rfl ?_
 cases b with
 | false =>
  simp only [f139,go_sem]
  rfl
 | true =>
  simp only [f139,go_sem]
  repeat' (first|(first|apply cS|apply gS)<;>intro hc<;>simp only [go_sem,hc])
  ·rw [WD,iP (by have:=of_decide_eq_true hc;omega)];rfl
  ·rw [WD,iN (by have:=of_decide_eq_false hc;omega)];rfl
def yh(o n:Nat)(b:Bool)(H:FN):FT AA 139 [.msl o 0 n 10,.bool b] H λv H'=>H'=H/\((b=true/\n<=256/\v = .tup [.msl o 0 n 10,.bool true])\/((b=false\/256<n) /\ ∃ w,v = .tup [.sl w [],.bool false])):=by
 refine aC mD rfl ?_
 cases b with
 | false =>
  simp only [f139,go_sem]
  exact .inr ⟨.inl trivial,_,rfl⟩
 | true =>
  simp only [f139,go_sem]
  repeat' (first|(first|apply cS|apply gS)<;>intro hc<;>simp only [go_sem,hc])
  ·have hc:=of_decide_eq_true hc
   first|exact ⟨rfl,.inr ⟨.inr FM,_,rfl⟩⟩|exact .inr ⟨.inr FM,_,rfl⟩|skip
  ·have hc:=of_decide_eq_false hc
   exact .inl FM
def yi(w:Option Nat)(b:Bool)(H:FN):FT AA 139 [.sl w [],.bool b] H λv H'=>H'=H /\ ∃ w2,v = .tup [.sl w2 [],.bool b]:=by
 have z1:decide ((256:Int)<((0:Nat):Int))=false:=dc
 refine aC mD rfl ?_
 cases b<;>cases w<;>simp only [f139,go_sem,AG,z1]
 all_goals first|exact ⟨_,rfl⟩|exact ⟨rfl,_,rfl⟩|skip
def Pr{α:Type}(l:List α)(i:Nat)(x:α)(h:i<l.length):(l.set i x).take (i+1)=l.take i++[x]:=by
 rw [BF,Az h,CQ (AU _)];rfl
def Qk : ∀ (l:List Ew) (r:List AV) (i:Nat),i<=l.length->(GD l++r).take (i*10)=GD (l.take i)
 | _,r,0,_=>by simp [GD]
 | [],r,i+1,h=>by simp at h
 | x::l,r,i+1,h=>by
  have e:(i+1)*10=x.c.length+i*10:=by
   have:x.c.length=10:=rfl
   omega
  rw [Ip,AF,e,List.take_length_add_append,Qk l r i (by simpa using h),CO,Ip]
def V5 : ∀ (l:List Ew) (r:List AV) (i:Nat),i<=l.length->(GD l++r).drop (i*10)=GD (l.drop i)++r
 | _,r,0,_=>sm
 | [],r,i+1,h=>by simp at h
 | x::l,r,i+1,h=>by
  have e:(i+1)*10=x.c.length+i*10:=by
   have:x.c.length=10:=rfl
   omega
  rw [Ip,AF,e,List.drop_length_add_append,V5 l r i (by simpa using h),List.drop_succ_cons]
def mw(a b:List Ew):GD (a++b)=GD a++GD b:=by unfold GD;simp
def ZF{l:List Ew}(r:List AV){i:Nat}(h:i<l.length)(x:Ew):splice (GD l++r) (i*10) x.c=GD (l.set i x)++r:=by
 have e:i*10+x.c.length=(i+1)*10:=by
  have:x.c.length=10:=rfl
  omega
 unfold splice
 rw [e,Qk l r i FM,V5 l r (i+1) FM,List.set_eq_take_append_cons_drop,iP h,mw,Ip]
 simp only [AF]
def YX(d:Ew->Bool): ∀ (l:List Ew) (k:Nat),(eh d k l = -1 /\ ∀ x∈l,d x=false) \/ ∃ (i:Nat) (x:Ew),eh d k l=((k+i:Nat):Int)/\l[i]? =some x/\d x=true /\ ∀ y∈l.take i,d y=false
 | [],k => .inl ⟨rfl,sm⟩
 | x::r,k=>by
  rw [eh]
  by_cases h:d x=true
  ·rw [iP h]
   exact .inr ⟨0,x,rfl,rfl,h,sm⟩
  ·rw [iN h]
   have h:d x=false:=by simpa using h
   rcases YX d r (k+1) with ⟨e,h2⟩|⟨i,y,e,h2,h3,h4⟩
   ·exact .inl ⟨e,by simpa [h] using h2⟩
   ·refine .inr ⟨i+1,y,by rw [e];congr 1;omega,h2,h3, ?_⟩
    rw [CO]
    intro z hz
    rcases AZ.1 hz with rfl|hz
    ·exact h
    ·exact h4 z hz
def kj(H:FN)(f:Nat)(first cap:List AV):GI AA 263 [.sl none [],.fn (.func f) first cap] H (.int .i64 (-1)):=by
 refine aC AAV rfl ?_
 simp only [f263,go_sem]
 refine FZ ([]:List Ew) (λ_=>()) (λk=>[(0,.sl none []),(1,.fn (.func f) first cap),(7,.int .i64 ((0:Nat):Int)),(8,.int .i64 k)]) sm rfl ?_ ?_
 ·intro k y ys hd
  rw [List.drop_nil] at hd;cases hd
 ·intro _ hlt
  have z2:decide (((0:Nat):Int)<((0:Nat):Int))=false:=dc
  simp only [go_sem,z2]
def ZR(w:Option Nat)(H:FN)(f:Nat)(first cap:List AV):FT AA 206 [.sl w [],.fn (.func f) first cap] H λv H'=>H'=H /\ ∃ w2,v = .sl w2 []:=by
 have c1:=kj H f first cap
 have z1:((-1:Int) == -1)=true:=rfl
 refine aC AAb rfl ?_
 cases w with
 | none =>
  simp only [f206,go_sem]
  repeat' (first|(refine aS (c1) ?_;simp only [go_sem,z1])|(first|apply cS|apply gS)<;>intro hc<;>simp only [go_sem,hc,z1])
  all_goals first|exact ⟨_,rfl⟩|exact ⟨rfl,_,rfl⟩|skip
 | some w =>
  simp only [f206,go_sem]
  repeat' (first|(refine aS (c1) ?_;simp only [go_sem,z1])|(first|apply cS|apply gS)<;>intro hc<;>simp only [go_sem,hc,z1])
  all_goals first|exact ⟨_,rfl⟩|exact ⟨rfl,_,rfl⟩|skip
def qu (l:List Ew) (hl:l.length<=1048576) (r:List AV) (H:FN) (o:Nat) (ho:H[o]? =some (some (GD l++r))) (f:Nat) (first cap:List AV) (d:Ew->Bool)
  (hd : ∀ x∈l,∀ c J,GI AA f (first.map AV.borrow++(.agg (Head.c x)::cap.map AV.borrow)) (H.set o (some c)++J) (.bool (d x))) :
  FT AA 206 [.msl o 0 l.length 10,.fn (.func f) first cap] H λv H' => ∃ r' J,v = .msl o 0 (l.filter λx => !d x).length 10/\H'=H.set o (some (GD (l.filter λx => !d x)++r'))++J:=by
 have hset:H.set o (some (GD l++r))=H:=by
  obtain ⟨hlt,he⟩:=AD.1 ho
  apply List.ext_getElem?
  intro i
  rw [List.getElem?_set]
  split
  ·rename_i hi;subst hi;rw [ho]
  ·rfl
 have hd0 : ∀ x∈l,GI AA f (first.map AV.borrow++(.agg (Head.c x)::cap.map AV.borrow)) H (.bool (d x)):=λx hx=>by
  have:=hd x hx (GD l++r) []
  rw [hset,Ah] at this
  exact this
 have c1:=zC l FM r H o ho f first cap d hd0
 refine aC AAb rfl ?_
 rcases YX d l 0 with ⟨e,hall⟩|⟨i,x,e,hx,hdx,hpre⟩
 ·rw [e] at c1
  have hf:l.filter (λx => !d x)=l:=DN.2 λx hx=>by rw [hall x hx];rfl
  simp only [f206,go_sem]
  repeat' (first|(refine aS (c1) ?_;simp only [go_sem,Int.reduceBEq])|(first|apply cS|apply gS)<;>intro hc<;>simp only [go_sem,hc,Int.reduceBEq])
  all_goals first|exact ⟨r,[],by rw [hf],by rw [hf,hset,Ah]⟩|skip
 ·rw [e,AX] at c1
  have hn1:(((i:Nat):Int) == -1)=false:=by rw [beq_eq_false_iff_ne];omega
  have hi:=(AD.1 hx).1
  have hw0:=Mc (k:=i) FM
  simp only [f206,go_sem]
  repeat' (first|(refine aS (c1) ?_;simp only [go_sem,hn1,hw0])|(first|apply cS|apply gS)<;>intro hc<;>simp only [go_sem,hc,hn1,hw0])
  refine Kj (σ:=Nat×Nat×List Ew×FN×Fp) (λs=>(0,.msl o 0 l.length 10)::(1,.fn (.func f) first cap)::(5,.int .i64 s.1)::(6,.int .i64 s.2.1)::s.2.2.2.2) (λs=>H.set o (some (GD s.2.2.1++r))++s.2.2.2.1)
   (λs=>s.1<s.2.1/\s.2.1<=l.length/\s.2.2.1.length=l.length/\s.2.2.1.take s.1=(l.take s.2.1).filter (λx => !d x)/\s.2.2.1.drop s.2.1=l.drop s.2.1) (λs=>l.length - s.2.1) (i,i+1,l,[],[]) ⟨by dsimp only;omega,by dsimp only;omega,rfl, ?_,rfl⟩ ?_ ?_ ?_
  ·dsimp only
   rw [BF,hx,Cb]
   have h1:(l.take i).filter (λx => !d x)=l.take i:=DN.2 λz hz=>by rw [hpre z hz];rfl
   rw [h1]
   simp [hdx]
  ·rfl
  ·dsimp only
   rw [hset,Ah]
  ·rintro ⟨i,j,row,J,rest⟩ ⟨hij,hj,hrl,htk,hdr⟩
   dsimp only at hij hj hrl htk hdr ⊢
   have hoL:=(AD.1 ho).1
   have fO : ∀ c z,(H.set o c++z)[o]? =some c:=λc z=>A' (IS hoL c) z
   have fW : ∀ c z c',(H.set o c++z).set o c'=H.set o c'++z:=λc z c'=>by rw [BP _ _ (by simpa using hoL),BB]
   by_cases hlt:j<l.length
   ·have hy:=AL hlt
    have hry:row[j]? =some l[j]:=by
     have:=congrArg (·[0]?) hdr
     simpa [hy] using this
    have j0:(0:Int)<=(j:Int):=FM
    have j1:(j:Int)<(l.length:Int):=FM
    have k0:(0:Int)<=(i:Int):=FM
    have k1:(i:Int)<(l.length:Int):=FM
    have hwj:=Mc (k:=j) FM
    have hwi:=Mc (k:=i) FM
    have g1:=gO r hry
    rw [AE] at g1
    have g2:=V6 row r j _ hry
    have fS : ∀ c z y,(H.set o c++(J++[z])).set (H.length+J.length) y=H.set o c++(J++[y]):=λc z y=>by
     rw [<- AF,<- AF]
     simp
    have fL : ∀ c y,(H.set o c++(J++[y]))[H.length+J.length]? =some y:=λc y=>by
     rw [<- AF]
     have:H.length+J.length=(H.set o c++J).length:=sm
     rw [this];exact Bj
    have c2:=hd _ (AB hy) (GD row++r) (J++[some (Head.c l[j])])
    have hfil:(l.take (j+1)).filter (λx => !d x)=(l.take j).filter (λx => !d x)++(if d l[j]=true then [] else [l[j]]):=by
     rw [BF,hy,Cb]
     congr 1
     cases hd2:d l[j]<;>simp [hd2]
    have hc1:(Head.c l[j]).length=10:=rfl
    have hc2:(Head.c l[j]).take 10=Head.c l[j]:=rfl
    cases hdy:d l[j] with
    | false =>
     rw [hdy] at c2
     simp only [go_sem,j0,j1,k0,k1,dT,fO,g1,g2,fS,fL,fW,hc1,hc2,AF,AE,An]
     repeat' (first|(refine aS (c2) ?_;simp only [go_sem,j0,j1,k0,k1,dT,fO,g1,g2,fS,fL,fW,hwi,hwj,hc1,hc2,AF,AE,An])|(first|apply cS|apply gS)<;>intro hc<;>simp only [go_sem,hc,j0,j1,k0,k1,dT,fO,g1,g2,fS,fL,fW,hwi,hwj,hc1,hc2,AF,AE,An])
     have k2:i*10+10<=(GD row).length+r.length:=by rw [Jf];omega
     rw [iP k2,ZF r FM]
     refine ⟨(i+1,j+1,row.set i l[j],J++[some (Head.c l[j])],[]),⟨by dsimp only;omega,by dsimp only;omega,by simpa using hrl, ?_, ?_⟩,by dsimp only;omega,rfl,rfl⟩
     ·dsimp only
      rw [hfil,hdy,iN dc,<- htk,Pr row i l[j] FM]
     ·dsimp only
      rw [List.drop_set_of_lt FM,<- A9,hdr,A9]
    | true =>
     rw [hdy] at c2
     simp only [go_sem,j0,j1,k0,k1,dT,fO,g1,g2,fS,fL,fW,hc1,hc2,AF,AE,An]
     repeat' (first|(refine aS (c2) ?_;simp only [go_sem,j0,j1,k0,k1,dT,fO,g1,g2,fS,fL,fW,hwi,hwj,hc1,hc2,AF,AE,An])|(first|apply cS|apply gS)<;>intro hc<;>simp only [go_sem,hc,j0,j1,k0,k1,dT,fO,g1,g2,fS,fL,fW,hwi,hwj,hc1,hc2,AF,AE,An])
     refine ⟨(i,j+1,row,J++[some (Head.c l[j])],[]),⟨by dsimp only;omega,by dsimp only;omega,hrl, ?_, ?_⟩,by dsimp only;omega,rfl,rfl⟩
     ·dsimp only
      rw [hfil,hdy,iP rfl,Ah,htk]
     ·dsimp only
      rw [<- A9,hdr,A9]
   ·have hjl:j=l.length:=FM
    subst hjl
    simp only [go_sem,AY,dF]
    refine ⟨⟨FM,FM,FM⟩, ?_⟩
    simp only [go_sem,AEW,fO,fW,AE]
    rw [List.take_length] at htk
    have hkl:(l.filter λx => !d x).length=i:=by rw [<- htk,List.length_take];omega
    refine ⟨FM,by rw [Jf];omega,⟨FM,FM,.inl trivial⟩,GY (AV.agg Head.z.c) (l.length - i)++(GD row++r).drop (i*10+(GY (AV.agg Head.z.c) (l.length - i)).length),J,by rw [hkl];rfl, ?_⟩
    unfold splice
    rw [Qk row r i FM,htk,AF]
def rK{P:Program}{f:FuncId}{vs:List AV}{d:Option Tmp}{K:Kt}{e:Fp}{H:FN}{v:AV}(hc:O7 P f vs H v)(hk:K (put d v e) H):nz P f vs d K e H:=⟨v,.inl hc,hk⟩
def eY(l:List Fld)(t:Int)(ot ow ol o:Nat)(H:FN):Prop :=
 H[ot]? =some (some [.int .i64 t])/\H[ow]? =some (some [.ptr o 0])/\(∃ w,H[ol]? =some (some [.sl w (GL l)])) /\
  H[o]? =some (some [.fn (.func 130) [] [.ptr ot 0,.ptr ow 0,.ptr ol 0],.fn (.func 136) [] [.ptr ow 0,.ptr ol 0]])
@[go_sem] def ATR(t:Tmp)(zs:List (Tmp×Option Nat×Bool))(Q:Exit->Kt)(e:Fp)(H:FN):AEJ none t zs Q e H=XK zs Q e H:=Eq.trans rfl rfl
@[go_sem] def AF4(a b c k:Nat):borrow0 (.msl a b c k) = .msl a b c k:=rfl
def FT.res{P:Program}{f:FuncId}{vs:List AV}{H:FN}{R:AV->FN->Prop}(h:FT P f vs H R):FT P f vs H λv H' => ∃ v0,R v0 H'/\v=v0.borrow :=
 ⟨h.1,λF G w us hc=>Calls.mono (h.2 F G w us hc) λe w' he=>by
  obtain ⟨u,rfl,v,H',G',h1,h2,h3⟩:=he
  exact ⟨u,rfl,v.borrow,H',G',⟨v,h1,rfl⟩,h2.borrowArgs,h3⟩⟩
def OL(a b:List Ew)(hl:a.length+b.length<=1048576)(w:Option Nat)(H:FN):FT AA 140 [.sl w (F0 a),.sl none (F0 b)] H λv H'=>SB ((Hs a b).map Head.c) v H H'/\v.borrow=v :=
 (FT.res (FT.weak (vs:=[.sl w (F0 a),.sl none (F0 b)]) (U1 a b hl H))).mono λv H' h=>by
  obtain ⟨v0,h1,rfl⟩:=h
  refine ⟨?_,TS v0⟩
  rcases h1 with ⟨e,⟨w,rfl⟩,h⟩|⟨ob,cs,rfl,h⟩
  ·exact .inl ⟨e,⟨none,rfl⟩,h⟩
  ·exact .inr ⟨ob,cs,rfl,h⟩
def SM(b:Bool)(H:FN):FT AA 139 [.sl none [],.bool b] H λv H'=>H'=H/\v = .tup [.sl none [],.bool b] :=
 (FT.res (yi none b H)).mono λv H' h=>by
  obtain ⟨v0,⟨rfl,w,rfl⟩,rfl⟩:=h
  exact ⟨rfl,rfl⟩
def SL(o n:Nat)(b:Bool)(H:FN):FT AA 139 [.msl o 0 n 10,.bool b] H λv H'=>H'=H/\((b=true/\n<=256/\v = .tup [.msl o 0 n 10,.bool true])\/((b=false\/256<n)/\v = .tup [.sl none [],.bool false])) :=
 (FT.res (yh o n b H)).mono λv H' h=>by
  obtain ⟨v0,⟨rfl,h⟩,rfl⟩:=h
  rcases h with ⟨h1,h2,rfl⟩|⟨h1,w,rfl⟩
  ·exact ⟨rfl,.inl ⟨h1,h2,rfl⟩⟩
  ·exact ⟨rfl,.inr ⟨h1,rfl⟩⟩
def AG5{f:AV->AV}{c:List AV}{a:AV}(h:c.map f=[a].map f): ∃ x,c=[x]/\f x=f a:=by
 match c,h with
 | [],h=>cases h
 | [x],h=>exact ⟨x,rfl,(List.cons.inj h).1⟩
 | _::_::_,h=>exact absurd (congrArg List.length h) sm
def Abj{f:AV->AV}{c:List AV}{a b:AV}(h:c.map f=[a,b].map f): ∃ x y,c=[x,y]/\f x=f a/\f y=f b:=by
 match c,h with
 | [],h=>cases h
 | [x],h=>exact absurd (congrArg List.length h) sm
 | [x,y],h=>exact ⟨x,y,rfl,(List.cons.inj h).1,(List.cons.inj (List.cons.inj h).2).1⟩
 | _::_::_::_,h=>exact absurd (congrArg List.length h) sm
section
variable {l:List Fld} {t:Int} {ot ow ol o:Nat}
def eY.grow{H:FN}(h:eY l t ot ow ol o H)(z:FN):eY l t ot ow ol o (H++z) :=
 let ⟨h1,h2,⟨w,h3⟩,h4⟩:=h;⟨A' h1 z,A' h2 z,⟨w,A' h3 z⟩,A' h4 z⟩
def Ng{x a:AV}(h:borrow1 x=borrow1 a)(ha : ∀ w es,a ≠ .sl w es):x=a:=by
 cases x<;>cases a<;>first|(exact h)|(exact absurd rfl (ha _ _))|(cases h)
def eY.view{H H2:FN}(hv:Gt H2=Gt H)(h:eY l t ot ow ol o H):eY l t ot ow ol o H2:=by
 obtain ⟨h1,h2,⟨w,h3⟩,h4⟩:=h
 obtain ⟨c1,g1,e1⟩:=KV hv h1
 obtain ⟨c2,g2,e2⟩:=KV hv h2
 obtain ⟨c3,g3,e3⟩:=KV hv h3
 obtain ⟨c4,g4,e4⟩:=KV hv h4
 refine ⟨?_, ?_, ?_, ?_⟩
 ·obtain ⟨x,rfl,hx⟩:=AG5 e1
  rw [g1,Ng hx (by intro w es h;cases h)]
 ·obtain ⟨x,rfl,hx⟩:=AG5 e2
  rw [g2,Ng hx (by intro w es h;cases h)]
 ·obtain ⟨x,rfl,hx⟩:=AG5 e3
  cases x<;>first|(cases hx;done)|skip
  rename_i w' es
  have:es=GL l:=by
   have h5:AV.sl none es=AV.sl none (GL l):=hx
   cases h5;rfl
  subst this
  exact ⟨w',g3⟩
 ·obtain ⟨x,y,rfl,hx,hy⟩:=Abj e4
  rw [g4,Ng hx (by intro w es h;cases h),Ng hy (by intro w es h;cases h)]
end
def gvs(l:List Fld)(t:Int)(ot ow ol o:Nat)(p:Ex)(F:Ew->Option (List Ew)):Prop :=
 ∀ h,FV h=true -> ∀ H,eY l t ot ow ol o H->GI AA 136 [.agg p.c,.agg h.c,.ptr ow 0,.ptr ol 0] H (NJ (F h))
def SB.base{es:List (List AV)}{v:AV}{B e X:FN}(h:SB es v (B++e) X):SB es v B X:=by
 rcases h with ⟨h1,h2,ext,rfl⟩|⟨ob,cs,h1,h2,⟨ext,rfl⟩,h4,h5⟩
 ·exact .inl ⟨h1,h2,e++ext,by rw [AF]⟩
 ·exact .inr ⟨ob,cs,h1,by rw [AE] at h2;omega,⟨e++ext,by rw [AF]⟩,h4,h5⟩
def SB.ext{es:List (List AV)}{v:AV}{B X:FN}(h:SB es v B X): ∃ ext,X=B++ext:=by
 rcases h with ⟨_,_,h⟩|⟨_,_,_,_,h,_⟩<;>exact h
def ADP(o:Option (List Ew)):NJ o = .tup [.sl none (F0 (o.getD [])),.bool o.isSome]:=by cases o<;>rfl
def TR(l:List Ew)(r:List AV):IV true 10 l.length ((GD l++r).map borrow1)=F0 l:=by
 rw [As,V7]
 have:=Ke (l.map Head.c) (r.map borrow1) 10 Qb
 rw [Aq] at this
 rw [<- Oc]
 exact this
def l4(F:Ew->Option (List Ew))(out:List Ew)(y:Ew)(ys:List Ew)(hs:LJ out)(hg : ∀ r,F y=some r->LJ r):
  JM F out (y::ys)=if (F y).isSome=true/\(Hs out ((F y).getD [])).length<=256 then JM F (Hs out ((F y).getD [])) ys else none:=by
 rw [JM]
 cases h:F y with
 | none=>rw [iN sm]
 | some a =>
  have e:=PJ hs (hg a h)
  simp only [Option.isSome_some,Option.getD_some,true_and,e]
  by_cases hl:256<(Gq out a).length
  ·rw [iP hl,iN FM]
  ·rw [iN hl,iP FM]
def Uy(l : List Fld)(t : Int)(ot ow ol o : Nat)(p : Ex)(F : Ew -> Option (List Ew))(hF : gvs l t ot ow ol o p F)(hg : ∀ h r, FV h = true -> F h = some r -> I6 r)(xs : List Ew)(hx : ∀ z ∈ xs, FV z = true)(hl : xs.length <= 1048576)(H : FN)(hW : eY l t ot ow ol o H):
    FT AA 141 [.ptr o 0,.agg p.c,.sl none (F0 xs)] H λv H'=>(JM F [] xs=none/\(∃ w,v = .tup [.sl w [],.bool false]) /\ ∃ ext,H'=H++ext) \/ ∃ r v0,JM F [] xs=some r/\v = .tup [v0,.bool true]/\SB (r.map Head.c) v0 H H' := by
  refine aC AOc rfl ?_
  simp only [f141,go_sem]
  refine Fo xs (λ(s:List Ew×AV×FN×Fp) r=>JM F s.1 r) (λ_ s=>I6 s.1/\SB (s.1.map Head.c) s.2.1 (H++[some p.c]) s.2.2.1) (λk s=>(0,.ptr o 0)::(4,.ptr H.length 0)::(8,s.2.1)::(9,.bool true)::(14,.sl none (F0 xs))::(15,.int .i64 xs.length)::(16,.int .i64 k)::s.2.2.2) (λk s=>s.2.2.1) ([],.sl (some 10) [],H++[some p.c],[]) FM ⟨La,.inl ⟨rfl,⟨_,rfl⟩,[],(Ah _).symm⟩⟩ rfl rfl ?_ ?_
  · rintro k ⟨out,ov,X,rest⟩ y ys hd hx' ⟨go,hrow⟩ hI h0 h1 hw
    dsimp only at go hrow hI ⊢
    have hr := hx y (AB hx')
    obtain ⟨ext0,hX0⟩ := hrow.ext
    have hWX:eY l t ot ow ol o X := by rw [hX0,AF];exact hW.grow _
    have hpX:X[H.length]? =some (some p.c) := by
      rw [hX0,AF,AM (AU _),AQ];rfl
    have eP : ∀ z,(X++z)[H.length]? =some (some p.c) := A' hpX
    have eW : ∀ z,(X++z)[o]? =some (some [.fn (.func 130) [] [.ptr ot 0,.ptr ow 0,.ptr ol 0],.fn (.func 136) [] [.ptr ow 0,.ptr ol 0]]) := A' hWX.2.2.2
    have hc : ∀ z,O7 AA 136 [.agg p.c,.agg y.c,.ptr ow 0,.ptr ol 0] (X++z) (NJ (F y)) := λz H2 hv=>hF y hr H2 ((hWX.grow z).view hv)
    rw [ADP] at hc
    have hst := l4 F out y ys go.1 (λr h=>(hg y r hr h).1)
    have ga:I6 ((F y).getD []) := by
      cases h:F y with
      | none=>exact La
      | some a=>exact hg y a hr h
    generalize hA:(F y).getD []=a at hc hst ga
    generalize hB:(F y).isSome=b at hc hst
    have hml := OQ (out.length+a.length+1) out a
    have hll:out.length+a.length<=1048576 := by have := go.2.1;have := ga.2.1;omega
    rcases hrow with ⟨e0,⟨w,rfl⟩,_⟩|⟨ob,cs,rfl,hob,_,hcs,r,rfl⟩
    · have e0:out=[] := by simpa using e0
      subst e0
      have hX2 : ∃ e2,X++[some y.c]=(H++[some p.c])++e2 := ⟨ext0++[some y.c],by rw [hX0,AF]⟩
      cases w with
      | none =>
        simp only [go_sem,h0,h1,HJ hx',eP,eW]
        repeat' (first|(refine rK (hc _) ?_;simp only [go_sem,h0,h1,hw,HJ hx',eP,eW])|(first|apply cS|apply gS)<;>intro hc<;>simp only [go_sem,hc,h0,h1,hw,HJ hx',eP,eW])
        refine Fs.intro (OL [] a hll _ _) λv X3 hr3=>?_
        obtain ⟨e2,hX2⟩ := hX2
        obtain ⟨hr3,hbw⟩ := hr3
        rw [hX2] at hr3
        have hrb := hr3.base
        have hex := hrb.ext
        have hgm:b=true->(Hs ([]:List Ew) a).length<=256->I6 (Hs ([]:List Ew) a) := λ_ hle=>by
          have e := PJ go.1 ga.1
          rw [e] at hle ⊢
          exact Ij go ga.2.2 FM
        rcases hr3 with ⟨e3,⟨w3,rfl⟩,_⟩|⟨ob3,cs3,rfl,hob3,_,hcs3,r3,rfl⟩
        · have hw3:w3=none := by cases w3 with
            | none=>rfl
            | some w3=>cases hbw
          subst hw3
          simp only [go_sem]
          refine Fs.intro (SM b _) λv4 X4 hr4=>?_
          obtain ⟨rfl,rfl⟩ := hr4
          have e3 := DO.1 e3
          have hle3:(Hs ([]:List Ew) a).length<=256 := by rw [e3];simp
          cases b with
          | true =>
            rw [iP ⟨rfl,hle3⟩] at hst
            simp only [go_sem,hw]
            exact ⟨(Hs ([]:List Ew) a,_,_,[]),hst,⟨hgm rfl hle3,hrb⟩,rfl,rfl⟩
          | false =>
            rw [iN sm] at hst
            simp only [go_sem]
            exact .inl ⟨hI.trans hst,⟨_,rfl⟩,by obtain ⟨ext,he⟩ := hex;exact ⟨_,by rw [he,AF]⟩⟩
        · simp only [go_sem,Aq]
          refine Fs.intro (SL ob3 _ b _) λv4 X4 hr4=>?_
          obtain ⟨rfl,hr4⟩ := hr4
          rw [Aq] at hrb
          rcases hr4 with ⟨rfl,hle,rfl⟩|⟨hno,rfl⟩
          · rw [iP ⟨rfl,hle⟩] at hst
            simp only [go_sem,hw]
            exact ⟨(Hs ([]:List Ew) a,_,_,[]),hst,⟨hgm rfl hle,hrb⟩,rfl,rfl⟩
          · rw [iN (by rintro ⟨g1, g2⟩; rcases hno with hno|hno;(rw [g1] at hno;cases hno);omega)] at hst
            simp only [go_sem]
            exact .inl ⟨hI.trans hst,⟨_,rfl⟩,by obtain ⟨ext,he⟩ := hex;exact ⟨_,by rw [he,AF]⟩⟩
      | some w =>
        simp only [go_sem,h0,h1,HJ hx',eP,eW]
        repeat' (first|(refine rK (hc _) ?_;simp only [go_sem,h0,h1,hw,HJ hx',eP,eW])|(first|apply cS|apply gS)<;>intro hc<;>simp only [go_sem,hc,h0,h1,hw,HJ hx',eP,eW])
        refine Fs.intro (OL [] a hll (some w) _) λv X3 hr3=>?_
        obtain ⟨e2,hX2⟩ := hX2
        obtain ⟨hr3,hbw⟩ := hr3
        rw [hX2] at hr3
        have hrb := hr3.base
        have hex := hrb.ext
        have hgm:b=true->(Hs ([]:List Ew) a).length<=256->I6 (Hs ([]:List Ew) a) := λ_ hle=>by
          have e := PJ go.1 ga.1
          rw [e] at hle ⊢
          exact Ij go ga.2.2 FM
        rcases hr3 with ⟨e3,⟨w3,rfl⟩,_⟩|⟨ob3,cs3,rfl,hob3,_,hcs3,r3,rfl⟩
        · have hw3:w3=none := by cases w3 with
            | none=>rfl
            | some w3=>cases hbw
          subst hw3
          simp only [go_sem]
          refine Fs.intro (SM b _) λv4 X4 hr4=>?_
          obtain ⟨rfl,rfl⟩ := hr4
          have e3 := DO.1 e3
          have hle3:(Hs ([]:List Ew) a).length<=256 := by rw [e3];simp
          cases b with
          | true =>
            rw [iP ⟨rfl,hle3⟩] at hst
            simp only [go_sem,hw]
            exact ⟨(Hs ([]:List Ew) a,_,_,[]),hst,⟨hgm rfl hle3,hrb⟩,rfl,rfl⟩
          | false =>
            rw [iN sm] at hst
            simp only [go_sem]
            exact .inl ⟨hI.trans hst,⟨_,rfl⟩,by obtain ⟨ext,he⟩ := hex;exact ⟨_,by rw [he,AF]⟩⟩
        · simp only [go_sem,Aq]
          refine Fs.intro (SL ob3 _ b _) λv4 X4 hr4=>?_
          obtain ⟨rfl,hr4⟩ := hr4
          rw [Aq] at hrb
          rcases hr4 with ⟨rfl,hle,rfl⟩|⟨hno,rfl⟩
          · rw [iP ⟨rfl,hle⟩] at hst
            simp only [go_sem,hw]
            exact ⟨(Hs ([]:List Ew) a,_,_,[]),hst,⟨hgm rfl hle,hrb⟩,rfl,rfl⟩
          · rw [iN (by rintro ⟨g1, g2⟩; rcases hno with hno|hno;(rw [g1] at hno;cases hno);omega)] at hst
            simp only [go_sem]
            exact .inl ⟨hI.trans hst,⟨_,rfl⟩,by obtain ⟨ext,he⟩ := hex;exact ⟨_,by rw [he,AF]⟩⟩
    · have hcs' : ∀ z,(X++z)[ob]? =some (some (GD out++r)) := A' hcs
      have hle:(GD out++r).length≥out.length*10 := by rw [AE,Jf];omega
      have hle2:out.length*10<=(GD out++r).length := hle
      have hch := TR out r
      have hX2 : ∃ e2,(X++[some y.c]).set ob none=(H++[some p.c])++e2 := by
        rw [hX0,AF,Z2 hob]
        exact ⟨_,rfl⟩
      simp only [go_sem,h0,h1,HJ hx',eP,eW,Aq]
      repeat' (first|(refine rK (hc _) ?_;simp only [go_sem,h0,h1,hw,HJ hx',eP,eW,Aq,hcs',hle2,hch])|(first|apply cS|apply gS)<;>intro hc<;>simp only [go_sem,hc,h0,h1,hw,HJ hx',eP,eW,Aq,hcs',hle2,hch])
      refine Fs.intro (OL out a hll _ _) λv X3 hr3=>?_
      obtain ⟨e2,hX2⟩ := hX2
      obtain ⟨hr3,hbw⟩ := hr3
      rw [hX2] at hr3
      have hrb := hr3.base
      have hex := hrb.ext
      have hgm:b=true->(Hs out a).length<=256->I6 (Hs out a) := λ_ hle=>by
        have e := PJ go.1 ga.1
        rw [e] at hle ⊢
        exact Ij go ga.2.2 FM
      rcases hr3 with ⟨e3,⟨w3,rfl⟩,_⟩|⟨ob3,cs3,rfl,hob3,_,hcs3,r3,rfl⟩
      · have hw3:w3=none := by cases w3 with
          | none=>rfl
          | some w3=>cases hbw
        subst hw3
        simp only [go_sem]
        refine Fs.intro (SM b _) λv4 X4 hr4=>?_
        obtain ⟨rfl,rfl⟩ := hr4
        have e3 := DO.1 e3
        have hle3:(Hs out a).length<=256 := by rw [e3];simp
        cases b with
        | true =>
          rw [iP ⟨rfl,hle3⟩] at hst
          simp only [go_sem,hw]
          exact ⟨(Hs out a,_,_,[]),hst,⟨hgm rfl hle3,hrb⟩,rfl,rfl⟩
        | false =>
          rw [iN sm] at hst
          simp only [go_sem]
          exact .inl ⟨hI.trans hst,⟨_,rfl⟩,by obtain ⟨ext,he⟩ := hex;exact ⟨_,by rw [he,AF]⟩⟩
      · simp only [go_sem,Aq]
        refine Fs.intro (SL ob3 _ b _) λv4 X4 hr4=>?_
        obtain ⟨rfl,hr4⟩ := hr4
        rw [Aq] at hrb
        rcases hr4 with ⟨rfl,hle,rfl⟩|⟨hno,rfl⟩
        · rw [iP ⟨rfl,hle⟩] at hst
          simp only [go_sem,hw]
          exact ⟨(Hs out a,_,_,[]),hst,⟨hgm rfl hle,hrb⟩,rfl,rfl⟩
        · rw [iN (by rintro ⟨g1, g2⟩; rcases hno with hno|hno;(rw [g1] at hno;cases hno);omega)] at hst
          simp only [go_sem]
          exact .inl ⟨hI.trans hst,⟨_,rfl⟩,by obtain ⟨ext,he⟩ := hex;exact ⟨_,by rw [he,AF]⟩⟩
  · rintro ⟨out,ov,X,rest⟩ ⟨go,hrow⟩ hI
    dsimp only at go hrow hI ⊢
    have hfin:SB (out.map Head.c) ov H X := hrow.base
    rcases hrow with ⟨e0,⟨w,rfl⟩,_⟩|⟨ob,cs,rfl,hob,_,hcs,r,rfl⟩
    · cases w with
      | none =>
        simp only [go_sem,AY,dF]
        exact .inr ⟨out,_,by rw [hI];rfl,rfl,hfin⟩
      | some w =>
        simp only [go_sem,AY,dF]
        exact .inr ⟨out,_,by rw [hI];rfl,rfl,hfin⟩
    · simp only [go_sem,AY,dF]
      exact .inr ⟨out,_,by rw [hI];rfl,rfl,hfin⟩
end Go.AI
namespace Go.AI
open Go.Proofs
set_option maxRecDepth 50000
def cz(l:List Fld)(t:Int)(ot ow ol o:Nat)(p:Ex)(F:Ew->Option (List Ew))(hF:gvs l t ot ow ol o p F)(hg : ∀ h r,FV h=true->F h=some r->I6 r)(xs:List Ew)(hx : ∀ z∈xs,FV z=true)(hl:xs.length<=1048576)(H:FN)(hW:eY l t ot ow ol o H):
  FT AA 141 [.ptr o 0,.agg p.c,.sl none (F0 xs)] H λv H'=>(JM F [] xs=none/\v = .tup [.sl none [],.bool false] /\ ∃ ext,H'=H++ext) \/ ∃ r v0,JM F [] xs=some r/\v = .tup [v0,.bool true]/\SB (r.map Head.c) v0 H H'/\v0.borrow=v0 :=
 (FT.res (Uy l t ot ow ol o p F hF hg xs hx hl H hW)).mono λv H' h=>by
  obtain ⟨v1,h1,rfl⟩:=h
  rcases h1 with ⟨h1,⟨w,rfl⟩,h2⟩|⟨r,v0,h1,rfl,h2⟩
  ·exact .inl ⟨h1,rfl,h2⟩
  ·rcases h2 with ⟨e,⟨w,rfl⟩,h⟩|⟨ob,cs,rfl,h⟩
   ·exact .inr ⟨r,.sl none [],h1,rfl,.inl ⟨e,⟨none,rfl⟩,h⟩,rfl⟩
   ·exact .inr ⟨r,_,h1,rfl,.inr ⟨ob,cs,rfl,h⟩,rfl⟩
def ADb(l:List Fld)(t:Int)(ot ow ol o:Nat)(p:Ex)(F:Ew->Option (List Ew))(hF:gvs l t ot ow ol o p F)(hg : ∀ h r,FV h=true->F h=some r->I6 r)(xs:List Ew)(hx : ∀ z∈xs,FV z=true)(hl:xs.length<=1048576)(H:FN)(hW:eY l t ot ow ol o H):
  GI AA 141 [.ptr o 0,.agg p.c,.sl none (F0 xs)] H (NJ (JM F [] xs)):=by
 have h:=Uy l t ot ow ol o p F hF hg xs hx hl H hW
 cases e:JM F [] xs with
 | none =>
  have:=Wo (es:=[]) (b:=false) sm sm  sm (h.mono λv H' hr=>by
   rcases hr with ⟨_,⟨w,rfl⟩,he⟩|⟨r,v0,h1,_⟩
   ·exact ⟨_,rfl,.inl ⟨rfl,⟨w,rfl⟩,he⟩⟩
   ·rw [e] at h1;cases h1)
  exact this
 | some r =>
  have:=Wo (es:=r.map Head.c) (b:=true) Qb NX ep (h.mono λv H' hr=>by
   rcases hr with ⟨h1,_⟩|⟨r',v0,h1,rfl,h2⟩
   ·rw [e] at h1;cases h1
   ·rw [e] at h1;cases h1
    exact ⟨v0,rfl,h2⟩)
  rw [Oc] at this
  exact this
def Pv(H:FN)(f:Nat)(first cap:List AV):FT AA 206 [.sl none [],.fn (.func f) first cap] H λv H'=>H'=H/\v = .sl none [] :=
 (FT.res (ZR none H f first cap)).mono λv H' h=>by
  obtain ⟨v0,⟨rfl,w,rfl⟩,rfl⟩:=h
  exact ⟨rfl,rfl⟩
def me(F:Ew->Option (List Ew)):Nat->List Ew->List Ew->Nat->Nat
 | 0,_,_,j=>j
 | k+1,o,n,j=>match JM F [] n with
  | none=>0
  | some m=>if IP o m=[] then j else me F k (Gq o (IP o m)) (IP o m) (j+1)
def ADO:Option (List Ew)->Nat->AV
 | some r,n => .tup [.sl none (F0 r),.int .i64 n,.bool true]
 | none,_ => .tup [.sl none [],.int .i64 0,.bool false]
def zX{o n:List Ew}(h:LJ n):LJ (IP o n):=List.Pairwise.filter _ h
def Vr{H Y:FN}(h : ∃ e,Y=H++e)(i:Nat)(hi:H.length<=i)(c:Option (List AV)): ∃ e,Y.set i c=H++e:=by
 obtain ⟨e,rfl⟩:=h
 exact ⟨_,BZ _ _ hi⟩
def ADW(l : List Fld)(t : Int)(ot ow ol o : Nat)(p : Ex)(F : Ew -> Option (List Ew))(hF : gvs l t ot ow ol o p F)(hg : ∀ h r, FV h = true -> F h = some r -> I6 r)(h : Ew)(hr : FV h = true)(H : FN)(hW : eY l t ot ow ol o H):
    FT AA 142 [.ptr o 0,.agg p.c,.agg h.c] H λv H'=>v.borrow=ADO (K1 F 300 [h] [h]) (me F 300 [h] [h] 0) /\ ∃ ext,H'=H++ext := by
  refine aC AOW rfl ?_
  have q0 : ∀ (a b c:Option (List AV)) z,(H++(a::b::c::z))[H.length]? =some a := λa b c z=>by rw [AM (AU _),AQ];rfl
  have q1 : ∀ (a b c:Option (List AV)) z,(H++(a::b::c::z))[H.length+1]? =some b := λa b c z=>by rw [AM FM,A3];rfl
  have q2 : ∀ (a b c:Option (List AV)) z,(H++(a::b::c::z))[H.length+2]? =some c := λa b c z=>by rw [AM FM,A3];rfl
  have q3 : ∀ (a b:Option (List AV)),(H++[a,b])[H.length+1]? =some b := λa b=>by rw [AM FM,A3];rfl
  have q4 : ∀ (a b c d:Option (List AV)),(H++[a,b,c]).set (H.length+2) d=H++[a,b,d] := λa b c d=>by rw [BZ _ _ FM,A3];rfl
  simp only [f142,go_sem,q0,q1,q2,q3,q4,AE,AF,AS,AN,AC,AG,AP,Nat.reduceAdd]
  refine Kj (σ := Nat×List Ew×List Ew×FN×Fp) (λs=>(0,.ptr o 0)::(4,.ptr H.length 0)::(9,.ptr (H.length+2) 0)::(10,.int .i64 s.1)::(11,.sl none (F0 s.2.2.1))::s.2.2.2.2) (λs=>s.2.2.2.1)
    (λs=>I6 s.2.1/\(∀ z∈s.2.2.1,FV z=true)/\s.2.2.1.length<=256/\s.2.2.1≠[]/\s.1+1<=s.2.1.length/\H.length+3<=s.2.2.2.1.length/\(∃ ext,s.2.2.2.1=H++ext)/\s.2.2.2.1[H.length]? =some (some p.c)/\(∃ w,s.2.2.2.1[H.length+2]? =some (some [.sl w (F0 s.2.1)])) /\
      K1 F 300 [h] [h]=K1 F (300 - s.1) s.2.1 s.2.2.1/\me F 300 [h] [h] 0=me F (300 - s.1) s.2.1 s.2.2.1 s.1)
    (λs=>300 - s.1) (0,[h],[h],_,[]) ⟨PR hr,by simpa using hr,by simp,by simp,by simp,by simp,⟨_,rfl⟩,q0 _ _ _ _,⟨_,q2 _ _ _ _⟩,rfl,rfl⟩ rfl rfl ?_
  rintro ⟨j,all,last,X,rest⟩ ⟨go,gl,hll,hne,hj,hX3,⟨ext,hXe⟩,hp0,⟨w,hc0⟩,hG,hJ⟩
  dsimp only at go gl hll hne hj hX3 hXe hp0 hc0 hG hJ ⊢
  generalize K1 F 300 [h] [h]=R at hG ⊢
  generalize me F 300 [h] [h] 0=N at hJ ⊢
  have hal := go.2.1
  obtain ⟨k,hk⟩ : ∃ k,300 - j=k+1 := ⟨299 - j,by omega⟩
  have e300:300 - (j+1)=k := by omega
  rw [hk,K1,iN hne] at hG
  rw [hk,me] at hJ
  have hWX:eY l t ot ow ol o X := by rw [hXe];exact hW.grow _
  have c1 := cz l t ot ow ol o p F hF hg last gl FM X hWX
  simp only [go_sem,hp0]
  refine Fs.intro c1 λv X1 hr1=>?_
  rcases hr1 with ⟨hn,rfl,ext1,rfl⟩|⟨m,v0,hm,rfl,hrow,hbw⟩
  · rw [hn] at hG hJ
    have hc1 : ∀ z,(X++z)[H.length+2]? =some (some [.sl w (F0 all)]) := A' hc0
    have s1 : ∀ z c,(X++z).set (H.length+2) c=X.set (H.length+2) c++z := λz c=>BP _ _ FM
    have c3 := NM all [] (by simp;omega) (X++ext1)
    have c4 := Lj (Hs all []) false
    rw [iN dc,show NJ none = .tup [.sl none [],.bool false] from rfl] at c4
    have hfe := Vr (H := H) (Y := X++ext1) ⟨ext++ext1,by rw [hXe,AF]⟩ (H.length+2) FM
    simp only [go_sem]
    refine Fs.intro (Pv _ _ _ _) λv X2 hr2=>?_
    obtain ⟨rfl,rfl⟩ := hr2
    simp only [go_sem,hc1]
    repeat' (first|((first|refine aS (c3) ?_|refine aP (c4) ?_);simp only [go_sem,hc1])|(first|apply cS|apply gS)<;>intro hc<;>simp only [go_sem,hc,hc1])
    exact ⟨by rw [hG];rfl,hfe _⟩
  · have gm := PS hg last [] m La gl hm
    rw [hm] at hG hJ
    dsimp only at hG hJ
    obtain ⟨ext1,hX1⟩ := hrow.ext
    have hc1:X1[H.length+2]? =some (some [.sl w (F0 all)]) := by rw [hX1];exact A' hc0 _
    have hp1:X1[H.length]? =some (some p.c) := by rw [hX1];exact A' hp0 _
    rcases hrow with ⟨e0,⟨w3,rfl⟩,_⟩|⟨ob,cs,rfl,hob,_,hcs,r,rfl⟩
    · have hw3:w3=none := by cases w3 with
        | none=>rfl
        | some w3=>cases hbw
      subst hw3
      have e0:m=[] := DO.1 e0
      subst e0
      have hn0:IP all []=[] := rfl
      rw [hn0] at hG hJ
      rw [iP rfl] at hJ
      have hme:Gq all []=all := rfl
      rw [hme,iN FM] at hG
      have hG2:R=some all := by
        rw [hG]
        obtain ⟨k',rfl⟩ : ∃ k',k=k'+1 := ⟨k - 1,by omega⟩
        rw [K1,iP rfl]
      have hfe := Vr (H := H) (Y := X1) ⟨ext++ext1,by rw [hX1,hXe,AF]⟩ (H.length+2) FM
      have hl1:H.length+2<X1.length := (AD.1 hc1).1
      have fG : ∀ c,(X1.set (H.length+2) c)[H.length+2]? =some c := λc=>IS hl1 c
      simp only [go_sem]
      refine Fs.intro (Pv _ _ _ _) λv X2 hr2=>?_
      obtain ⟨rfl,rfl⟩ := hr2
      have c3 := NM all [] (by simp;omega) X2
      have c4 := Lj (Hs all []) true
      rw [lN] at c3 c4
      rw [iP rfl,WD,iN FM,show NJ (some all) = .tup [.sl none (F0 all),.bool true] from rfl] at c4
      have z2:(((0:Nat):Int)==(0:Int))=true := rfl
      simp only [go_sem,hc1]
      repeat' (first|((first|refine aS (c3) ?_|refine aP (c4) ?_);simp only [go_sem,hc1,fG,z2])|(first|apply cS|apply gS)<;>intro hc<;>simp only [go_sem,hc,hc1,fG,z2])
      all_goals first|(exact ⟨by rw [hG2,hJ];rfl,hfe _⟩)|skip
    · have hcs':X1[ob]? =some (some (GD m++r)) := hcs
      have hnob:ob≠H.length+2 := by omega
      have hd : ∀ x∈m,∀ c J,GI AA 207 (([]:List AV).map AV.borrow++(.agg (Head.c x)::([.ptr (H.length+2) 0]:List AV).map AV.borrow)) (X1.set ob (some c)++J) (.bool (all.any λy=>decide (y=x))) := λx _ c J =>
        ADX all go.1 FM x _ (H.length+2) w (A' (F8 hc1 hnob _) J)
      have c2 := qu m (by have := gm.2.1;omega) r X1 ob hcs' 207 [] [.ptr (H.length+2) 0] (λx=>all.any λy=>decide (y=x)) hd
      simp only [go_sem,Aq]
      refine Fs.intro c2 λv X2 hr2=>?_
      obtain ⟨r',J,rfl,rfl⟩ := hr2
      have hkept:(m.filter λx => !(all.any λy=>decide (y=x)))=IP all m := rfl
      rw [hkept]
      have hob1:ob<X1.length := (AD.1 hcs').1
      have hg1:(X1.set ob (some (GD (IP all m)++r'))++J)[ob]? =some (some (GD (IP all m)++r')) := A' (IS hob1 _) J
      have hg2:(IP all m).length*10<=(GD (IP all m)++r').length := by rw [AE,Jf];omega
      have hg3 := TR (IP all m) r'
      have hg4:(X1.set ob (some (GD (IP all m)++r'))++J).set ob none=X1.set ob none++J := by rw [BP _ _ (by simpa using hob1),BB]
      have gn:LJ (IP all m) := zX gm.1
      have hgnew : ∀ z∈IP all m,FV z=true := λz hz=>gm.2.2 z (U9.1 hz).1
      have hnl:(IP all m).length<=m.length := zY all m
      have hml := gm.2.1
      have hY2:(X1.set ob none++J)[H.length+2]? =some (some [.sl w (F0 all)]) := A' (F8 hc1 hnob _) J
      have hY0:(X1.set ob none++J)[H.length]? =some (some p.c) := A' (F8 hp1 FM _) J
      have hYe : ∃ e,X1.set ob none++J=H++e := by
        rw [hX1, hXe, AF, Z2 (by (have : X.length = H.length + ext.length := by rw [hXe, AE]);omega),AF]
        exact ⟨_,rfl⟩
      have c3 := NM all (IP all m) FM (X1.set ob none++J)
      have c4 := Lj (Hs all (IP all m)) true
      rw [PJ go.1 gn] at c3 c4
      generalize hY:X1.set ob none++J=Y at hg4 hY2 hY0 hYe c3
      have hYl:H.length+2<Y.length := (AD.1 hY2).1
      have hfe := Vr (H := H) (Y := Y) hYe (H.length+2) FM
      have fG : ∀ c,(Y.set (H.length+2) c)[H.length+2]? =some c := λc=>IS hYl c
      by_cases hbig:256<(Gq all (IP all m)).length
      · rw [iP hbig] at hG
        rw [iP rfl,WD,iP hbig,show NJ none = .tup [.sl none [],.bool false] from rfl] at c4
        simp only [go_sem,hg1,hg2,hg3,hg4,hY2]
        repeat' (first|((first|refine aS (c3) ?_|refine aP (c4) ?_);simp only [go_sem,hY2,fG])|(first|apply cS|apply gS)<;>intro hc<;>simp only [go_sem,hc,hY2,fG])
        all_goals first|(exact ⟨by rw [hG];rfl,hfe _⟩)|skip
      · rw [iN hbig] at hG
        rw [iP rfl,WD,iN hbig,show ∀ r,NJ (some r) = .tup [.sl none (F0 r),.bool true] from λ_=>rfl] at c4
        by_cases hn0:IP all m=[]
        · have hme:Gq all (IP all m)=all := by rw [hn0];rfl
          rw [iP hn0] at hJ
          have hG2:R=some (Gq all (IP all m)) := by
            rw [hG,hn0]
            obtain ⟨k',rfl⟩ : ∃ k',k=k'+1 := ⟨k - 1,by omega⟩
            rw [K1,iP rfl]
          have z1:(((IP all m).length:Int)==0)=true := by rw [hn0];rfl
          simp only [go_sem,hg1,hg2,hg3,hg4,hY2]
          repeat' (first|((first|refine aS (c3) ?_|refine aP (c4) ?_);simp only [go_sem,hY2,fG,z1])|(first|apply cS|apply gS)<;>intro hc<;>simp only [go_sem,hc,hY2,fG,z1])
          all_goals first|(exact ⟨by rw [hG2,hJ];rfl,hfe _⟩)|skip
        · rw [iN hn0] at hJ
          have hpos:0<(IP all m).length := List.length_pos_iff.2 hn0
          have hmn := rN hn0
          have z1:(((IP all m).length:Int)==0)=false := by rw [beq_eq_false_iff_ne];omega
          have hwj := Mc (k := j) FM
          simp only [go_sem,hg1,hg2,hg3,hg4,hY2]
          repeat' (first|((first|refine aS (c3) ?_|refine aP (c4) ?_);simp only [go_sem,hY2,fG,z1,hwj])|(first|apply cS|apply gS)<;>intro hc<;>simp only [go_sem,hc,hY2,fG,z1,hwj])
          refine ⟨(j+1,Gq all (IP all m),IP all m,_,[]),⟨Ij go hgnew hbig,hgnew,by dsimp only;omega,hn0,by dsimp only;omega,by simp;omega,hfe _,F8 hY0 FM _,⟨none,fG _⟩,by dsimp only;rw [e300];exact hG,by dsimp only;rw [e300];exact hJ⟩,by dsimp only;omega,rfl,rfl⟩
def AGp(l:List Fld)(t:Int)(ot ow ol o:Nat)(p:Ex)(F:Ew->Option (List Ew))(hF:gvs l t ot ow ol o p F)(hg : ∀ h r,FV h=true->F h=some r->I6 r)(h:Ew)(hr:FV h=true)(H:FN)(hW:eY l t ot ow ol o H):
  GI AA 142 [.ptr o 0,.agg p.c,.agg h.c] H (ADO (K1 F 300 [h] [h]) (me F 300 [h] [h] 0)):=by
 refine FT.drop ?_ ((FT.res (ADW l t ot ow ol o p F hF hg h hr H hW)).mono λv H' hx=>?_)
 ·cases K1 F 300 [h] [h] with
  | none=>rfl
  | some r =>
   show Fj _ _=true
   simp only [Fj,AV.bnd,Bn]
   have:=NH (n:=H.length) (es:=r.map Head.c) NX
   rw [Oc] at this
   simpa [AV.bnd] using this
 ·obtain ⟨v0,⟨h1,h2⟩,rfl⟩:=hx
  exact ⟨h1,h2⟩
def oZ:FV Head.z=true:=dc
def SC{f:Fld}(hf:HA f){n m:Nat}(hn:n<2^fW f):FV (Uv f n m).mask=true/\FV (Uv f n m).bits=true :=
 ⟨NI hf (dl _ _) oZ,NI hf (Nat.lt_of_le_of_lt Nat.and_le_left hn) oZ⟩
def q_0(H:FN)(a:Option (List AV))(z:FN):(H++(a::z))[H.length]? =some a:=by rw [AM (AU _),AQ];rfl
def q_1(H:FN)(a b:Option (List AV))(z:FN):(H++(a::b::z))[H.length+1]? =some b:=by rw [AM FM,A3];rfl
def q_2(H:FN)(a b c:Option (List AV))(z:FN):(H++(a::b::c::z))[H.length+2]? =some c:=by rw [AM FM,A3];rfl
def AT2(H:FN)(a b c d:Option (List AV)):(H++[a,b,c]).set (H.length+2) d=H++[a,b,d]:=by rw [BZ _ _ FM,A3];rfl
def cr(l:List Fld)(hl:Iy l)(hln:l.length<=9223372036854775807)(t:Int)(ot ow ol o:Nat): ∀ x:Pred,IE l x -> ∀ h,FV h=true -> ∀ H,eY l t ot ow ol o H->GI AA 130 [.agg x.c,.agg h.c,.ptr ot 0,.ptr ow 0,.ptr ol 0] H (.bool (hP l t x h)) := by
  refine JP _ λx ih=>λhx h hr H hW=>?_
  have hc : ∀ a,a∈x.args->IE l a -> ∀ z,O7 AA 130 [.agg a.c,.agg h.c,.ptr ot 0,.ptr ow 0,.ptr ol 0] (H++z) (.bool (hP l t a h)) := λa ha ga z H2 hv=>ih a ha ga h hr H2 ((hW.grow z).view hv)
  obtain ⟨w1,w2,⟨w,w3⟩,w4⟩ := hW
  have eT := A' w1
  have eO := A' w2
  have eL := A' w3
  have eF := A' w4
  have q0 := q_0 H
  have q1 := q_1 H
  have q2 := q_2 H
  have s2 := AT2 H
  rw [AUe]
  refine FT.drop rfl ?_
  rcases mH hl hx with k|k|k|⟨k,a,ha,ga⟩|⟨k,a,b,ha,ga,gb⟩|⟨k,hf,hfo,hn,hn2⟩|⟨k,⟨hf,hfo,hn,hn2⟩,hm,hm2⟩|⟨k,hf,hfo,hn,hnm,hm2⟩
  · refine aC NY rfl ?_
    simp only [f130,go_sem,eT,eO,eL,eF,q0,q1,q2,s2,AE,AF,AS,AN,AC,AG,AP,Nat.reduceAdd,k,Int.reduceBEq]
    repeat' (first|(first|apply cS|apply gS)<;>intro hc<;>simp only [go_sem,hc,Int.reduceBEq,k,eT,eO,eL,eF,q0,q1,q2,s2,AE,AF,AS,AN,AC,AG,AP,Nat.reduceAdd])
    all_goals first|rfl|skip
  · refine aC NY rfl ?_
    simp only [f130,go_sem,eT,eO,eL,eF,q0,q1,q2,s2,AE,AF,AS,AN,AC,AG,AP,Nat.reduceAdd,k,Int.reduceBEq]
    repeat' (first|(first|apply cS|apply gS)<;>intro hc<;>simp only [go_sem,hc,Int.reduceBEq,k,eT,eO,eL,eF,q0,q1,q2,s2,AE,AF,AS,AN,AC,AG,AP,Nat.reduceAdd])
    all_goals first|rfl|skip
  · refine aC NY rfl ?_
    simp only [f130,go_sem,eT,eO,eL,eF,q0,q1,q2,s2,AE,AF,AS,AN,AC,AG,AP,Nat.reduceAdd,k,Int.reduceBEq]
    repeat' (first|(first|apply cS|apply gS)<;>intro hc<;>simp only [go_sem,hc,Int.reduceBEq,k,eT,eO,eL,eF,q0,q1,q2,s2,AE,AF,AS,AN,AC,AG,AP,Nat.reduceAdd])
    all_goals first
      | (show AV.bool _ = AV.bool (decide (x.n <= t) && decide (t < x.m))
         rw [hc];rfl)
      | skip
  · have c1 := hc a (by rw [ha];simp) ga
    have e1:Qh (l9 l t x.args) 0 h=hP l t a h := l8 l t (by rw [ha];rfl) h
    have g1:(0:Int)<(x.args.length:Int) := by rw [ha];simp
    have g2 := Fk (l := x.args) (i := 0) (x := a) (by rw [ha];rfl)
    refine aC NY rfl ?_
    simp only [f130,go_sem,eT,eO,eL,eF,q0,q1,q2,s2,AE,AF,AS,AN,AC,AG,AP,Nat.reduceAdd,k,Int.reduceBEq,g1,g2]
    repeat' (first|(refine rK (c1 _) ?_;simp only [go_sem,Int.reduceBEq,k,eT,eO,eL,eF,q0,q1,q2,s2,AE,AF,AS,AN,AC,AG,AP,Nat.reduceAdd,g1,g2])|(first|apply cS|apply gS)<;>intro hc<;>simp only [go_sem,hc,Int.reduceBEq,k,eT,eO,eL,eF,q0,q1,q2,s2,AE,AF,AS,AN,AC,AG,AP,Nat.reduceAdd,g1,g2])
    all_goals first
      | (show _ = AV.bool (!Qh (l9 l t x.args) 0 h)
         rw [e1])
      | skip
  · have c1 := hc a (by rw [ha];simp) ga
    have c2 := hc b (by rw [ha];simp) gb
    have e1:Qh (l9 l t x.args) 0 h=hP l t a h := l8 l t (by rw [ha];rfl) h
    have e2:Qh (l9 l t x.args) 1 h=hP l t b h := l8 l t (by rw [ha];rfl) h
    have g1:(0:Int)<(x.args.length:Int) := by rw [ha];simp
    have g2 := Fk (l := x.args) (i := 0) (x := a) (by rw [ha];rfl)
    have g3:(1:Int)<(x.args.length:Int) := by rw [ha];simp
    have g4 := Fk (l := x.args) (i := 1) (x := b) (by rw [ha];rfl)
    rcases k with k|k
    · refine aC NY rfl ?_
      simp only [f130,go_sem,eT,eO,eL,eF,q0,q1,q2,s2,AE,AF,AS,AN,AC,AG,AP,Nat.reduceAdd,k,Int.reduceBEq,g1,g2,g3,g4]
      repeat' (first|((first|refine rK (c1 _) ?_|refine rK (c2 _) ?_);simp only [go_sem,Int.reduceBEq,k,eT,eO,eL,eF,q0,q1,q2,s2,AE,AF,AS,AN,AC,AG,AP,Nat.reduceAdd,g1,g2,g3,g4])|(first|apply cS|apply gS)<;>intro hc<;>simp only [go_sem,hc,Int.reduceBEq,k,eT,eO,eL,eF,q0,q1,q2,s2,AE,AF,AS,AN,AC,AG,AP,Nat.reduceAdd,g1,g2,g3,g4])
      all_goals first
        | (show _ = AV.bool (Qh (l9 l t x.args) 0 h && Qh (l9 l t x.args) 1 h)
           rw [e1,e2]
           revert hc
           cases hP l t a h<;>simp)
        | skip
    · refine aC NY rfl ?_
      simp only [f130,go_sem,eT,eO,eL,eF,q0,q1,q2,s2,AE,AF,AS,AN,AC,AG,AP,Nat.reduceAdd,k,Int.reduceBEq,g1,g2,g3,g4]
      repeat' (first|((first|refine rK (c1 _) ?_|refine rK (c2 _) ?_);simp only [go_sem,Int.reduceBEq,k,eT,eO,eL,eF,q0,q1,q2,s2,AE,AF,AS,AN,AC,AG,AP,Nat.reduceAdd,g1,g2,g3,g4])|(first|apply cS|apply gS)<;>intro hc<;>simp only [go_sem,hc,Int.reduceBEq,k,eT,eO,eL,eF,q0,q1,q2,s2,AE,AF,AS,AN,AC,AG,AP,Nat.reduceAdd,g1,g2,g3,g4])
      all_goals first
        | (show _ = AV.bool (Qh (l9 l t x.args) 0 h || Qh (l9 l t x.args) 1 h)
           rw [e1,e2]
           revert hc
           cases hP l t a h<;>simp)
        | skip
  · have c1 := QL l hln x.field
    have c2 := o9 _ hfo x.n.toNat hn2
    have hrp := SC hfo (m := fW (FY l x.field).1) hn2
    have c3 := o8 _ hrp.1 hrp.2 h hr
    rw [YP hfo hn2 (AU _) h] at c3
    rw [Cu hn] at c2
    refine aC NY rfl ?_
    simp only [f130,go_sem,eT,eO,eL,eF,q0,q1,q2,s2,AE,AF,AS,AN,AC,AG,AP,Nat.reduceAdd,k,Int.reduceBEq]
    repeat' (first|((first|refine pK (c1) ?_|refine pK (c2) ?_|refine pK (c3) ?_);simp only [go_sem,Int.reduceBEq,k,eT,eO,eL,eF,q0,q1,q2,s2,AE,AF,AS,AN,AC,AG,AP,Nat.reduceAdd])|(first|apply cS|apply gS)<;>intro hc<;>simp only [go_sem,hc,Int.reduceBEq,k,eT,eO,eL,eF,q0,q1,q2,s2,AE,AF,AS,AN,AC,AG,AP,Nat.reduceAdd])
    all_goals first
      | (show AV.bool _ = AV.bool (decide ((NZ (FY l x.field).1 h : Int) = x.n))
         congr 1
         rw [AQ,Nat.pow_zero,EN,EN,BA,decide_eq_true_eq,decide_eq_true_eq]
         omega)
      | skip
  · have hm':0<=x.m := hm
    have hm3:x.m.toNat<=fW (FY l x.field).1 := hm2
    have c1 := QL l hln x.field
    have c2 := dB _ hfo x.n.toNat x.m.toNat hn2 hm3
    have hrp := SC hfo (m := x.m.toNat) hn2
    have c3 := o8 _ hrp.1 hrp.2 h hr
    rw [YP hfo hn2 hm3 h] at c3
    rw [Cu hn,Cu hm'] at c2
    refine aC NY rfl ?_
    simp only [f130,go_sem,eT,eO,eL,eF,q0,q1,q2,s2,AE,AF,AS,AN,AC,AG,AP,Nat.reduceAdd,k,Int.reduceBEq]
    repeat' (first|((first|refine pK (c1) ?_|refine pK (c2) ?_|refine pK (c3) ?_);simp only [go_sem,Int.reduceBEq,k,eT,eO,eL,eF,q0,q1,q2,s2,AE,AF,AS,AN,AC,AG,AP,Nat.reduceAdd])|(first|apply cS|apply gS)<;>intro hc<;>simp only [go_sem,hc,Int.reduceBEq,k,eT,eO,eL,eF,q0,q1,q2,s2,AE,AF,AS,AN,AC,AG,AP,Nat.reduceAdd])
    all_goals first|rfl|skip
  · have c1 := QL l hln x.field
    have c2 := kg _ hfo h hr
    refine aC NY rfl ?_
    simp only [f130,go_sem,eT,eO,eL,eF,q0,q1,q2,s2,AE,AF,AS,AN,AC,AG,AP,Nat.reduceAdd,k,Int.reduceBEq]
    repeat' (first|((first|refine pK (c1) ?_|refine pK (c2) ?_);simp only [go_sem,Int.reduceBEq,k,eT,eO,eL,eF,q0,q1,q2,s2,AE,AF,AS,AN,AC,AG,AP,Nat.reduceAdd])|(first|apply cS|apply gS)<;>intro hc<;>simp only [go_sem,hc,Int.reduceBEq,k,eT,eO,eL,eF,q0,q1,q2,s2,AE,AF,AS,AN,AC,AG,AP,Nat.reduceAdd])
    all_goals first
      | (show AV.bool _ = AV.bool (decide (x.n <= NZ (FY l x.field).1 h) && decide ((NZ (FY l x.field).1 h : Int) <= x.m))
         rw [hc];rfl)
      | skip
def dK{P:Program}{f:FuncId}{vs:List AV}{d:Option Tmp}{K:Kt}{e:Fp}{H:FN}{v:AV}(hc:GI P f vs H v)(hk:K (put d v e) H):ACj P f vs d K e H :=
 ⟨v,[],by simp only [Ah];exact hc,by rw [Ah];exact hk⟩
@[go_sem] def ASX(r:List Ew):NJ (some r) = .tup [.sl none (F0 r),.bool true]:=rfl
@[go_sem] def ASZ:NJ none = .tup [.sl none [],.bool false]:=rfl
@[go_sem] def ASV(r:List Ew)(n:Nat):ADO (some r) n = .tup [.sl none (F0 r),.int .i64 n,.bool true]:=rfl
@[go_sem] def ASW(n:Nat):ADO none n = .tup [.sl none [],.int .i64 0,.bool false]:=rfl
def yU(o:Option (List Ew))(n:Nat):(NJ o).bnd n=true:=by
 cases o with
 | none=>rfl
 | some r =>
  simp only [NJ,AV.bnd,Fj,Bn]
  have:=NH (n:=n) (es:=r.map Head.c) NX
  rw [Oc] at this
  simpa [AV.bnd] using this
def qi(l:List Fld)(hl:Iy l)(hln:l.length<=9223372036854775807)(t:Int)(ot ow ol o:Nat): ∀ x:Ex,Hf l x->gvs l t ot ow ol o x (vO l t x) := by
  refine Hj _ λx ih=>λhx h hr H hW=>?_
  have hh:IE l x.pred -> ∀ z,O7 AA 130 [.agg x.pred.c,.agg h.c,.ptr ot 0,.ptr ow 0,.ptr ol 0] (H++z) (.bool (hP l t x.pred h)) := λgp z H2 hv=>cr l hl hln t ot ow ol o x.pred gp h hr H2 ((hW.grow z).view hv)
  have hc : ∀ a,a∈x.args->Hf l a -> ∀ z,O7 AA 136 [.agg a.c,.agg h.c,.ptr ow 0,.ptr ol 0] (H++z) (NJ (vO l t a h)) := λa ha ga z H2 hv=>ih a ha ga h hr H2 ((hW.grow z).view hv)
  have hWg := hW.grow
  obtain ⟨w1,w2,⟨w,w3⟩,w4⟩ := hW
  have eO := A' w2
  have eL := A' w3
  have eF := A' w4
  have q0 := q_0 H
  have q1 := q_1 H
  have q2 := q_2 H
  have s2 := AT2 H
  rw [AFV]
  suffices hs:FT AA 136 [.agg x.c,.agg h.c,.ptr ow 0,.ptr ol 0] H λv H'=>v.borrow=NJ (Uh l t x.kind x.pred x.field x.n (Wp l t x.args) h) /\ ∃ ext,H'=H++ext by
    refine FT.drop (yU _ _) ((FT.res hs).mono λv H' hx=>?_)
    obtain ⟨v0,⟨h1,h2⟩,rfl⟩ := hx
    exact ⟨h1,h2⟩
  rcases Vm hl hx with ⟨k,gp⟩|⟨k,hfo,hft,hn,hn2⟩|⟨k,a,b,ha,ga,gb⟩|⟨k,a,ha,ga⟩
  · have c1 := hh gp
    refine aC K9 rfl ?_
    simp only [f136,go_sem,eO,eL,eF,q0,q1,q2,s2,AE,AF,AS,AN,AC,AG,AP,Nat.reduceAdd,k,Int.reduceBEq]
    repeat' (first|(refine rK (c1 _) ?_;simp only [go_sem,Int.reduceBEq,k,eO,eL,eF,q0,q1,q2,s2,AE,AF,AS,AN,AC,AG,AP,Nat.reduceAdd])|(first|apply cS|apply gS)<;>intro hc<;>simp only [go_sem,hc,Int.reduceBEq,k,eO,eL,eF,q0,q1,q2,s2,AE,AF,AS,AN,AC,AG,AP,Nat.reduceAdd])
    all_goals first
      | (show _ = NJ (some (if hP l t x.pred h = true then [h] else []))
         revert hc
         cases hP l t x.pred h<;>intro hc<;>first|rfl|cases hc)
      | skip
  · have c1 := QL l hln x.field
    have c2 := AUS _ hfo x.n.toNat hn2
    have hrp := SC hfo (m := fW (FY l x.field).1) hn2
    have c3 := ADn _ hrp.1 hrp.2 h hr
    rw [wd hfo hn2 hr] at c3
    rw [Cu hn] at c2
    refine aC K9 rfl ?_
    simp only [f136,go_sem,eO,eL,eF,q0,q1,q2,s2,AE,AF,AS,AN,AC,AG,AP,Nat.reduceAdd,k,Int.reduceBEq]
    repeat' (first|((first|refine pK (c1) ?_|refine pK (c2) ?_|refine pK (c3) ?_);simp only [go_sem,Int.reduceBEq,k,eO,eL,eF,q0,q1,q2,s2,AE,AF,AS,AN,AC,AG,AP,Nat.reduceAdd])|(first|apply cS|apply gS)<;>intro hc<;>simp only [go_sem,hc,Int.reduceBEq,k,eO,eL,eF,q0,q1,q2,s2,AE,AF,AS,AN,AC,AG,AP,Nat.reduceAdd])
    all_goals first|rfl|skip
  · have e0:N2 (Wp l t x.args) 0=vO l t a := R5 l t (by rw [ha];rfl)
    have e1:N2 (Wp l t x.args) 1=vO l t b := R5 l t (by rw [ha];rfl)
    have v0 := Q2 l hl t a ga
    have v1 := Q2 l hl t b gb
    have g1:(0:Int)<(x.args.length:Int) := by rw [ha];simp
    have g2 := Fa (l := x.args) (i := 0) (x := a) (by rw [ha];rfl)
    have g3:(1:Int)<(x.args.length:Int) := by rw [ha];simp
    have g4 := Fa (l := x.args) (i := 1) (x := b) (by rw [ha];rfl)
    have c1 := hc a (by rw [ha];simp) ga
    have c2 := hc b (by rw [ha];simp) gb
    have hb := ih b (by rw [ha];simp) gb
    rcases k with k|k
    · have hst:Uh l t x.kind x.pred x.field x.n (Wp l t x.args) h=match vO l t a h,vO l t b h with|some a,some b=>WD (Gq a b)|_,_=>none := by
        rw [k]
        show (match N2 (Wp l t x.args) 0 h,N2 (Wp l t x.args) 1 h with|some a,some b=>WD (Gq a b)|_,_=>none)=_
        rw [e0,e1]
      rw [hst]
      cases ea:vO l t a h with
      | none =>
        rw [ea] at c1
        cases eb:vO l t b h with
        | none =>
          rw [eb] at c2
          have c3 := NM [] [] sm
          have c4 := Lj (Hs [] []) false
          rw [iN dc] at c4
          refine aC K9 rfl ?_
          simp only [f136,go_sem,eO,eL,eF,q0,q1,q2,s2,AE,AF,AS,AN,AC,AG,AP,Nat.reduceAdd,k,Int.reduceBEq,g1,g2,g3,g4]
          repeat' (first|((first|refine rK (c1 _) ?_|refine rK (c2 _) ?_|refine aS (c3 _) ?_|refine pK (c4) ?_);simp only [go_sem,Int.reduceBEq,k,eO,eL,eF,q0,q1,q2,s2,AE,AF,AS,AN,AC,AG,AP,Nat.reduceAdd,g1,g2,g3,g4])|(first|apply cS|apply gS)<;>intro hc<;>simp only [go_sem,hc,Int.reduceBEq,k,eO,eL,eF,q0,q1,q2,s2,AE,AF,AS,AN,AC,AG,AP,Nat.reduceAdd,g1,g2,g3,g4])
        | some v =>
          rw [eb] at c2
          have gv := v1 h v hr eb
          have c3 := NM [] v (by have := gv.2.1;simp;omega)
          have c4 := Lj (Hs [] v) false
          rw [iN dc] at c4
          refine aC K9 rfl ?_
          simp only [f136,go_sem,eO,eL,eF,q0,q1,q2,s2,AE,AF,AS,AN,AC,AG,AP,Nat.reduceAdd,k,Int.reduceBEq,g1,g2,g3,g4]
          repeat' (first|((first|refine rK (c1 _) ?_|refine rK (c2 _) ?_|refine aS (c3 _) ?_|refine pK (c4) ?_);simp only [go_sem,Int.reduceBEq,k,eO,eL,eF,q0,q1,q2,s2,AE,AF,AS,AN,AC,AG,AP,Nat.reduceAdd,g1,g2,g3,g4])|(first|apply cS|apply gS)<;>intro hc<;>simp only [go_sem,hc,Int.reduceBEq,k,eO,eL,eF,q0,q1,q2,s2,AE,AF,AS,AN,AC,AG,AP,Nat.reduceAdd,g1,g2,g3,g4])
      | some u =>
        rw [ea] at c1
        have gu := v0 h u hr ea
        cases eb:vO l t b h with
        | none =>
          rw [eb] at c2
          have c3 := NM u [] (by have := gu.2.1;simp;omega)
          have c4 := Lj (Hs u []) false
          rw [iN dc] at c4
          refine aC K9 rfl ?_
          simp only [f136,go_sem,eO,eL,eF,q0,q1,q2,s2,AE,AF,AS,AN,AC,AG,AP,Nat.reduceAdd,k,Int.reduceBEq,g1,g2,g3,g4]
          repeat' (first|((first|refine rK (c1 _) ?_|refine rK (c2 _) ?_|refine aS (c3 _) ?_|refine pK (c4) ?_);simp only [go_sem,Int.reduceBEq,k,eO,eL,eF,q0,q1,q2,s2,AE,AF,AS,AN,AC,AG,AP,Nat.reduceAdd,g1,g2,g3,g4])|(first|apply cS|apply gS)<;>intro hc<;>simp only [go_sem,hc,Int.reduceBEq,k,eO,eL,eF,q0,q1,q2,s2,AE,AF,AS,AN,AC,AG,AP,Nat.reduceAdd,g1,g2,g3,g4])
        | some v =>
          rw [eb] at c2
          have gv := v1 h v hr eb
          have c3 := NM u v (by have := gu.2.1;have := gv.2.1;omega)
          have c4 := Lj (Hs u v) true
          rw [iP rfl] at c4
          rw [PJ gu.1 gv.1] at c3 c4
          dsimp only
          cases eo:WD (Gq u v) with
          | none =>
            rw [eo] at c4
            refine aC K9 rfl ?_
            simp only [f136,go_sem,eO,eL,eF,q0,q1,q2,s2,AE,AF,AS,AN,AC,AG,AP,Nat.reduceAdd,k,Int.reduceBEq,g1,g2,g3,g4]
            repeat' (first|((first|refine rK (c1 _) ?_|refine rK (c2 _) ?_|refine aS (c3 _) ?_|refine pK (c4) ?_);simp only [go_sem,Int.reduceBEq,k,eO,eL,eF,q0,q1,q2,s2,AE,AF,AS,AN,AC,AG,AP,Nat.reduceAdd,g1,g2,g3,g4])|(first|apply cS|apply gS)<;>intro hc<;>simp only [go_sem,hc,Int.reduceBEq,k,eO,eL,eF,q0,q1,q2,s2,AE,AF,AS,AN,AC,AG,AP,Nat.reduceAdd,g1,g2,g3,g4])
          | some r =>
            rw [eo] at c4
            refine aC K9 rfl ?_
            simp only [f136,go_sem,eO,eL,eF,q0,q1,q2,s2,AE,AF,AS,AN,AC,AG,AP,Nat.reduceAdd,k,Int.reduceBEq,g1,g2,g3,g4]
            repeat' (first|((first|refine rK (c1 _) ?_|refine rK (c2 _) ?_|refine aS (c3 _) ?_|refine pK (c4) ?_);simp only [go_sem,Int.reduceBEq,k,eO,eL,eF,q0,q1,q2,s2,AE,AF,AS,AN,AC,AG,AP,Nat.reduceAdd,g1,g2,g3,g4])|(first|apply cS|apply gS)<;>intro hc<;>simp only [go_sem,hc,Int.reduceBEq,k,eO,eL,eF,q0,q1,q2,s2,AE,AF,AS,AN,AC,AG,AP,Nat.reduceAdd,g1,g2,g3,g4])
    · have hst:Uh l t x.kind x.pred x.field x.n (Wp l t x.args) h=match vO l t a h with|some a=>JM (vO l t b) [] a|none=>none := by
        rw [k]
        show (match N2 (Wp l t x.args) 0 h with|some a=>JM (N2 (Wp l t x.args) 1) [] a|none=>none)=_
        rw [e0,e1]
      rw [hst]
      cases ea:vO l t a h with
      | none =>
        rw [ea] at c1
        refine aC K9 rfl ?_
        simp only [f136,go_sem,eO,eL,eF,q0,q1,q2,s2,AE,AF,AS,AN,AC,AG,AP,Nat.reduceAdd,k,Int.reduceBEq,g1,g2,g3,g4]
        repeat' (first|(refine rK (c1 _) ?_;simp only [go_sem,Int.reduceBEq,k,eO,eL,eF,q0,q1,q2,s2,AE,AF,AS,AN,AC,AG,AP,Nat.reduceAdd,g1,g2,g3,g4])|(first|apply cS|apply gS)<;>intro hc<;>simp only [go_sem,hc,Int.reduceBEq,k,eO,eL,eF,q0,q1,q2,s2,AE,AF,AS,AN,AC,AG,AP,Nat.reduceAdd,g1,g2,g3,g4])
      | some u =>
        rw [ea] at c1
        have gu := v0 h u hr ea
        have c3 := λz=>ADb l t ot ow ol o b _ hb v1 u gu.2.2 (by have := gu.2.1;omega) (H++z) (hWg z)
        dsimp only
        cases eo:JM (vO l t b) [] u with
        | none =>
          rw [eo] at c3
          refine aC K9 rfl ?_
          simp only [f136,go_sem,eO,eL,eF,q0,q1,q2,s2,AE,AF,AS,AN,AC,AG,AP,Nat.reduceAdd,k,Int.reduceBEq,g1,g2,g3,g4]
          repeat' (first|((first|refine rK (c1 _) ?_|refine dK (c3 _) ?_);simp only [go_sem,Int.reduceBEq,k,eO,eL,eF,q0,q1,q2,s2,AE,AF,AS,AN,AC,AG,AP,Nat.reduceAdd,g1,g2,g3,g4])|(first|apply cS|apply gS)<;>intro hc<;>simp only [go_sem,hc,Int.reduceBEq,k,eO,eL,eF,q0,q1,q2,s2,AE,AF,AS,AN,AC,AG,AP,Nat.reduceAdd,g1,g2,g3,g4])
        | some r =>
          rw [eo] at c3
          refine aC K9 rfl ?_
          simp only [f136,go_sem,eO,eL,eF,q0,q1,q2,s2,AE,AF,AS,AN,AC,AG,AP,Nat.reduceAdd,k,Int.reduceBEq,g1,g2,g3,g4]
          repeat' (first|((first|refine rK (c1 _) ?_|refine dK (c3 _) ?_);simp only [go_sem,Int.reduceBEq,k,eO,eL,eF,q0,q1,q2,s2,AE,AF,AS,AN,AC,AG,AP,Nat.reduceAdd,g1,g2,g3,g4])|(first|apply cS|apply gS)<;>intro hc<;>simp only [go_sem,hc,Int.reduceBEq,k,eO,eL,eF,q0,q1,q2,s2,AE,AF,AS,AN,AC,AG,AP,Nat.reduceAdd,g1,g2,g3,g4])
  · have e0:N2 (Wp l t x.args) 0=vO l t a := R5 l t (by rw [ha];rfl)
    have g1:(0:Int)<(x.args.length:Int) := by rw [ha];simp
    have g2 := Fa (l := x.args) (i := 0) (x := a) (by rw [ha];rfl)
    have c3 := λz=>AGp l t ot ow ol o a _ (ih a (by rw [ha];simp) ga) (Q2 l hl t a ga) h hr (H++z) (hWg z)
    have hst:Uh l t x.kind x.pred x.field x.n (Wp l t x.args) h=K1 (vO l t a) 300 [h] [h] := by
      rw [k]
      show K1 (N2 (Wp l t x.args) 0) 300 [h] [h]=_
      rw [e0]
    rw [hst]
    cases eo:K1 (vO l t a) 300 [h] [h] with
    | none =>
      rw [eo] at c3
      refine aC K9 rfl ?_
      simp only [f136,go_sem,eO,eL,eF,q0,q1,q2,s2,AE,AF,AS,AN,AC,AG,AP,Nat.reduceAdd,k,Int.reduceBEq,g1,g2]
      repeat' (first|(refine dK (c3 _) ?_;simp only [go_sem,Int.reduceBEq,k,eO,eL,eF,q0,q1,q2,s2,AE,AF,AS,AN,AC,AG,AP,Nat.reduceAdd,g1,g2])|(first|apply cS|apply gS)<;>intro hc<;>simp only [go_sem,hc,Int.reduceBEq,k,eO,eL,eF,q0,q1,q2,s2,AE,AF,AS,AN,AC,AG,AP,Nat.reduceAdd,g1,g2])
    | some r =>
      rw [eo] at c3
      refine aC K9 rfl ?_
      simp only [f136,go_sem,eO,eL,eF,q0,q1,q2,s2,AE,AF,AS,AN,AC,AG,AP,Nat.reduceAdd,k,Int.reduceBEq,g1,g2]
      repeat' (first|(refine dK (c3 _) ?_;simp only [go_sem,Int.reduceBEq,k,eO,eL,eF,q0,q1,q2,s2,AE,AF,AS,AN,AC,AG,AP,Nat.reduceAdd,g1,g2])|(first|apply cS|apply gS)<;>intro hc<;>simp only [go_sem,hc,Int.reduceBEq,k,eO,eL,eF,q0,q1,q2,s2,AE,AF,AS,AN,AC,AG,AP,Nat.reduceAdd,g1,g2])
def Y4(n:Nat):List AV:=[.fn (.func 130) [] [.ptr (n+1) 0,.ptr (n+3) 0,.ptr n 0],.fn (.func 136) [] [.ptr (n+3) 0,.ptr n 0]]
def q_3(H:FN)(a b c d:Option (List AV)):(H++[a,b,c,d])[H.length+3]? =some d:=by rw [AM FM,A3];rfl
def Abd(H:FN)(a b c d e:Option (List AV)):(H++[a,b,c,d]).set (H.length+3) e=H++[a,b,c,e]:=by rw [BZ _ _ FM,A3];rfl
def AT1(H:FN)(a b c d e:Option (List AV)):(H++[a,b,c,d]).set (H.length+2) e=H++[a,b,e,d]:=by rw [BZ _ _ FM,A3];rfl
def AT6(l:List Fld)(t:Int)(H:FN):FT AA 72 [.sl none (GL l),.int .i64 t] H λv H'=>v = .ptr (H.length+2) 0/\H'=H++[some [.sl none (GL l)],some [.int .i64 t],some (Y4 H.length),some [.ptr (H.length+2) 0]]:=by
 have q3:=q_3 H
 have q2:=q_2 H
 have s3:=Abd H
 have s2:=AT1 H
 refine aC AVk rfl ?_
 simp only [f72,go_sem,q3,q2,s3,s2,AE,AF,AS,AN,AC,AG,AP,Nat.reduceAdd]
 all_goals first|rfl|exact ⟨rfl,rfl⟩|skip
def cw(r:List Ew)(b:Bool):FO AA 71 [.sl none (F0 r),.bool b] (qe (if b=true then some r else none)):=by
 refine pB AVn rfl ?_
 cases b<;>simp only [f71,go_sem]<;>rfl
def ADZ(l:List Fld)(hl:Iy l)(hln:l.length<=9223372036854775807)(x:Ex)(hx:Hf l x)(t:Int)(h:Ew)(hr:FV h=true):FO AA 37 [.sl none (GL l),.agg x.c,.agg h.c,.int .i64 t] (qe (vO l t x h)):=by
 have c1:FT AA 72 [.sl none (GL l),.int .i64 t] [some x.c,some h.c] λv H'=>v = .ptr 4 0/\H'=[some x.c,some h.c]++[some [.sl none (GL l)],some [.int .i64 t],some (Y4 2),some [.ptr 4 0]]:=AT6 l t [some x.c,some h.c]
 have hW:eY l t 3 5 2 4 ([some x.c,some h.c]++[some [.sl none (GL l)],some [.int .i64 t],some (Y4 2),some [.ptr 4 0]]):=⟨rfl,rfl,⟨none,rfl⟩,rfl⟩
 have c2:O7 AA 136 [.agg x.c,.agg h.c,.ptr 5 0,.ptr 2 0] ([some x.c,some h.c]++[some [.sl none (GL l)],some [.int .i64 t],some (Y4 2),some [.ptr 4 0]]) (NJ (vO l t x h)):=λH2 hv=>qi l hl hln t 3 5 2 4 x hx h hr H2 (hW.view hv)
 have ho : ∀ ops,h37.ord 1 ops=(lC [6,7] ops.size).filterMap λi=>ops[i]?:=λops=>rfl
 have hI:lC [6,7] 16=[6,7,0,1,2,3,4,5,8,9,10,11,12,13,14,15]:=dc
 have w1 : ∀ z,([some x.c,some h.c]++z)[0]? =some (some x.c):=λz=>rfl
 simp only [Y4] at c1 c2
 cases ev:vO l t x h with
 | none =>
  rw [ev] at c2
  have c3:=cw [] false
  refine pB AFt rfl ?_
  simp only [f37,go_sem]
  rw [O1 _ _ _ (by simp only [go_sem]) rfl,ho]
  simp only [BW,AC,AG,Nat.reduceAdd,hI,B6,Bf,B1,A8,Ce]
  simp only [go_sem]
  refine ⟨_,_,c1, ?_⟩
  simp only [go_sem]
  repeat' (first|((first|refine rK (c2) ?_|refine pK (c3) ?_);simp only [go_sem])|(first|apply cS|apply gS)<;>intro hc<;>simp only [go_sem,hc])
  all_goals first|rfl|skip
 | some r =>
  rw [ev] at c2
  have c3:=cw r true
  refine pB AFt rfl ?_
  simp only [f37,go_sem]
  rw [O1 _ _ _ (by simp only [go_sem]) rfl,ho]
  simp only [BW,AC,AG,Nat.reduceAdd,hI,B6,Bf,B1,A8,Ce]
  simp only [go_sem]
  refine ⟨_,_,c1, ?_⟩
  simp only [go_sem]
  repeat' (first|((first|refine rK (c2) ?_|refine pK (c3) ?_);simp only [go_sem])|(first|apply cS|apply gS)<;>intro hc<;>simp only [go_sem,hc])
  all_goals first|rfl|skip
def ARY{l:List Fld}(h:Oq l=0):Iy l:=by
 have : ∀ (r:List Fld) (i:Nat),IU l i r=0 -> ∀ f∈r,HA f:=by
  intro r
  induction r with
  | nil=>intro i _ f hf;cases hf
  | cons x r ih =>
   intro i h f hf
   rw [IU] at h
   split at h
   ·cases h
   split at h
   ·cases h
   split at h
   ·cases h
   split at h
   ·cases h
   rename_i hp _
   rcases AZ.1 hf with rfl|hf
   ·simp only [SJ,Bool.not_eq_true',Bool.and_eq_false_iff,not_or,Bool.not_eq_false,decide_eq_true_eq] at hp
    unfold HA
    omega
   ·exact ih _ h f hf
 unfold Oq at h
 split at h
 ·cases h
 ·exact this l 0 h
end Go.AI
