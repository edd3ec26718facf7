/- A part. -/
import Derived.Test.YtmejnbhofjcibaaGreatDoorMp
set_option linter.unusedSimpArgs false
set_option linter.unusedVariables false
set_option linter.defProp false
open Go.Proofs.Tryz
open Go.AI renaming CRel->Ex,Head->Ey,Policy->Ez
open Bool renaming and_true->Bp,eq_iff_iff->A'
open Int renaming lt_irrefl->AQ,toNat_natCast->Ag,toNat_of_nonneg->Cz
open Go.IntKind renaming bits->DI,signed->Dm,wrap->Dl
open List renaming append_assoc->AE,append_nil->Af,cons_append->AW,drop_drop->A9,filterMap_cons->B5,filterMap_nil->Ca,filter_append->CY,filter_eq_self->DP,flatten_cons->C7,getElem?_append_left->AX,getElem?_append_right->AN,getElem?_concat_length->Bg,getElem?_cons_succ->B1,getElem?_cons_zero->A7,getElem?_eq_getElem->AH,getElem?_eq_some_iff->AC,getElem?_set_ne->A6,getElem?_set_self->A1,getElem?_toArray->Bb,length_append->AF,length_cons->AD,length_map->Ap,length_nil->AJ,length_set->Ao,map_append->Aq,map_congr_left->Bq,map_eq_nil_iff->DQ,map_flatten->DN,map_id->DO,mem_cons->AY,mem_map->AO,mem_of_getElem?->AB,mem_singleton->Ab,nil_append->AR,set_append_left->BN,set_append_right->BV,set_comm->B7,set_set->BB,size_toArray->BR,take_add_one->BD,take_append_of_le_length->Cf,take_set_of_le->CN,take_succ_cons->B8
open Nat renaming add_assoc->Ay,add_sub_cancel_left->A4,div_one->EQ,le_refl->AT,lt_or_ge->BM,sub_self->AP,zero_add->AU
open Go.Proofs.Tryz renaming prog->AA
namespace Go.AI
def SX(es:List (List AV))(v:AV)(H H':cj):Prop :=
 (es=[]/\(∃w,v = .sl w []) /\ ∃ext,H'=H++ext) \/ ∃ob cs,v = .msl ob 0 es.length 10/\H.length<=ob/\(∃ext,H'=H++ext)/\H'[ob]? =some (some cs)/\(∃r,cs=es.flatten++r)
section
variable{P:Program}
def CRel.borrowArgs{F:Nat->Prop}{G:Gh}{w:World}{H:cj}{vs:List AV}{us:List Value}(h:Ex F G vs H us w):Ex F G (vs.map AV.borrow) H us w:=by
 obtain⟨l1,t1⟩:=Hb (F:=F) (G:=G) (w:=w) (first:=vs) (fi:=us) h.l.len (λi c v a b=>h.l.rel i c v a b)
 exact⟨l1,h.h,λb=>by
  rw[t1]
  have:=h.cnt b
  omega⟩
def Fa.weak{f:FuncId}{vs:List AV}{H:cj}{R:AV->cj->Prop}(h:Fa P f (vs.map AV.borrow) H R):Fa P f vs H R:=⟨h.1,λF G w us hc=>h.2 F G w us hc.borrowArgs⟩
def FT.weak{f:FuncId}{vs:List AV}{v:AV}(h:FT P f (vs.map AV.borrow) v):FT P f vs v:=λH=>(h H).weak
def CRel.swap1{F:Nat->Prop}{G:Gh}{w:World}{H:cj}{v v':AV}{u:Value}(h:Ex F G [v] H [u] w)(hv:VRel G w v' u)(ho:v'.owned=false):Ex F G [v'] H [u] w :=
 ⟨.cons hv (Fj (GP ho u) _ _ _) ⟨rfl,sm,sm⟩,h.h,λx=>by
  have:=h.cnt x
  rw[Fc,GP ho u]
  rw[Fc]at this
  simp only[List.count_nil]at this ⊢
  omega⟩
def ak{H ext:cj}{ob:Nat}(h:H.length<=ob):(H++ext).set ob none=H++ext.set (ob - H.length) none:=BV _ _ h
def CRel.frzRow{F:Nat->Prop}{G:Gh}{w:World}{H ext:cj}{vals:List AV}{us:List Value}{u:Value}{ob len sz:Nat}{cs:List AV}(ag:Bool)(h:Ex F G vals (H++ext) us w)
  (ho:(H++ext)[ob]? =some (some cs))(hb:H.length<=ob)(hv:VRel G w (.msl ob 0 len sz) u)(hl:len*sz<=cs.length)(hs:ag=true\/sz=1):
  ∃G' ext',Ex F G' vals (H++ext') us w/\Ext F G w G' w/\VRel G' w (.sl none (Ho ag sz len (cs.map borrow1))) u:=by
 have hf:KB ag (.msl ob 0 len sz) (H++ext)=some (.sl none (Ho ag sz len (cs.map borrow1)),(H++ext).set ob none):=by
  simp only[KB,ho]
  rw[iP ⟨FR,hs⟩,List.drop_zero]
 obtain⟨ob',b,es,e1,e2,_,g1,g2,g3,_⟩:=Q3 hf h hv
 rw[ak hb]at g1
 exact⟨_,_,g1,g2,g3⟩
def CRel.cutExt{F:Nat->Prop}{G G':Gh}{w w':World}{H ext:cj}{vs:List AV}{us:List Value}{v:AV}{u:Value}(hc:Ex F G vs H us w)(hcr:Ex F G' [v] (H++ext) [u] w')(hext:Ext F G w G' w')(hv:v.bnd H.length=true):
  ∃G'',Ex F G'' [v] H [u] w'/\Ext F G w G'' w' :=
 ⟨_,hcr.cut hv hc.h.closed,⟨hext.size,⟨λo b ho=>by
  have hlt:=(AC.1 ho).1
  show(G'.obs.take H.length)[o]? =some b
  rw[List.getElem?_take_of_lt (by have:=hc.h.len;omega)]
  exact hext.keeps.obs o b ho,hext.keeps.shape,hext.keeps.sp,hext.keeps.safe⟩,hext.kind,hext.cells,hext.io⟩⟩
def Ko:∀(es:List (List AV)) (r:List AV) (sz:Nat),(∀e∈es,e.length=sz)->Ho true sz es.length (es.flatten++r)=es.map .agg
 |[],_,_,_=>rfl
 |e::es,r,sz,h=>by
  have he:=h e sm
  simp only[AD,Ho,if_true,C7,AE,List.map_cons]
  rw[Cf FR,List.take_of_length_le FR,List.drop_append_of_le_length FR,List.drop_of_length_le FR,AR,Ko es r sz λx hx=>h x (by simp[hx])]
def Oe:∀(es:List (List AV)) (sz:Nat),(∀e∈es,e.length=sz)->es.flatten.length=es.length*sz
 |[],_,_=>sm
 |e::es,sz,h=>by
  rw[C7,AF,Oe es sz λx hx=>h x (by simp[hx]),h e sm,AD,Nat.add_mul];omega
def Nh{es:List (List AV)}{n:Nat}(hs:∀e∈es,Fo n e=true):(AV.sl none (es.map .agg)).bnd n=true:=by
 simp only[AV.bnd]
 refine GO.2 λc hc=>?_
 obtain⟨e,he,rfl⟩:=AO.1 hc
 simpa [AV.bnd]using hs e he
def yj {f:FuncId} {vs:List AV} {H:cj} {es:List (List AV)} (hn : ∀ e∈es,e.length=10) (hs : ∀ e∈es,Fo H.length e=true) (hb : ∀ e∈es,e.map borrow1=e)
  (h:Fa P f vs H λv' H'=>SX es v' H H'):Fa P f vs H λv' H'=>v' = .sl none (es.map .agg)/\H'=H :=
 ⟨h.1,λF G w us hc=>Calls.mono (h.2 F G w us hc) λe w' he=>by
  obtain⟨u,rfl,v',H2,G',hr,hcr,hext⟩:=he
  rcases hr with⟨rfl,⟨w0,rfl⟩,ext,rfl⟩|⟨ob,cs,rfl,hob,⟨ext,rfl⟩,ho,r,rfl⟩
  ·have hv:VRel G' w' (.sl none []) u:=by
    have:=hcr.l.rel 0 _ _ rfl rfl
    cases this with
    |slnil=>exact .slnil _
    |slany=>exact .slany _ _
    |sl own es sz b q cap u' hsz hown hl hm h1 h2=>exact .sl none [] sz b q cap u' hsz (λn hn=>by cases hn) hl hm h1 h2
   obtain⟨G2,k1,k2⟩:=hc.cutExt (hcr.swap1 hv rfl) hext rfl
   exact⟨u,rfl,_,H,G2,⟨rfl,rfl⟩,k1,k2⟩
  ·have hv:=hcr.l.rel 0 _ _ rfl rfl
   have hlen:=Oe es 10 hn
   obtain⟨G2,ext2,k1,k2,k3⟩:=hcr.frzRow true ho hob hv (by rw[AF,hlen];omega) (.inl rfl)
   have e1:(es.flatten++r).map borrow1=es.flatten++r.map borrow1:=by
    rw[Aq,DN]
    congr 2
    exact Bq (f:=List.map borrow1) (g:=id) (λe he=>hb e he) |>.trans (DO _)
   rw[e1,Ko es _ 10 hn]at k3
   obtain⟨G3,k4,k5⟩:=hc.cutExt (k1.swap1 k3 rfl) (hext.trans k2) (Nh hs)
   exact⟨u,rfl,_,H,G3,⟨rfl,rfl⟩,k4,k5⟩⟩
def W_ {f:FuncId} {vs:List AV} {H:cj} {es:List (List AV)} {b:Bool} (hn : ∀ e∈es,e.length=10) (hs : ∀ e∈es,Fo H.length e=true) (hb : ∀ e∈es,e.map borrow1=e)
  (h:Fa P f vs H λv' H' => ∃v0,v' = .tup [v0,.bool b]/\SX es v0 H H'):Fa P f vs H λv' H'=>v' = .tup [.sl none (es.map .agg),.bool b]/\H'=H :=
 ⟨h.1,λF G w us hc=>Calls.mono (h.2 F G w us hc) λe w' he=>by
  obtain⟨u,rfl,v',H2,G',⟨v0,rfl,hr⟩,hcr,hext⟩:=he
  have hv:=hcr.l.rel 0 _ _ rfl rfl
  cases hv with
  | tup _ vs' hl hsv hg =>
   have h0:∃x,vs'[0]? =some x:=⟨_,Array.getElem?_eq_getElem (by rw[<- hl];exact Nat.zero_lt_succ _)⟩
   obtain⟨x,hx⟩:=h0
   have hvx:=hg 0 _ x rfl hx
   have put:∀{G2:Gh} {w2:World} {a:AV},a.isVal=true->VRel G2 w2 a x->VRel G2 w2 (.tup [a,.bool b]) (.tuple vs'):=λ{G2 w2 a} ha hax=>by
    refine .tup _ _ hl (λc hc=>?_) λi c v hc hv=>?_
    ·rcases AY.1 hc with rfl|hc
     ·exact ha
     ·rw[Ab.1 hc];rfl
    ·match i with
     | 0=>simp only[A7,Option.some.injEq]at hc;subst hc;rw[hx]at hv;cases hv;exact hax
     | 1 =>
      have:=hg 1 (.bool b) v rfl hv
      simp only[B1,A7,Option.some.injEq]at hc;subst hc
      cases this;exact .bool _
     |i+2=>simp at hc
   rcases hr with⟨rfl,⟨w0,rfl⟩,ext,rfl⟩|⟨ob,cs,rfl,hob,⟨ext,rfl⟩,ho,r,rfl⟩
   ·have hv0:VRel G' w' (.sl none []) x:=by
     cases hvx with
     |slnil=>exact .slnil _
     |slany=>exact .slany _ _
     |sl own es sz b q cap u' hsz hown hl hm h1 h2=>exact .sl none [] sz b q cap u' hsz (λn hn=>by cases hn) hl hm h1 h2
    obtain⟨G2,k1,k2⟩:=hc.cutExt (hcr.swap1 (put rfl hv0) rfl) hext rfl
    exact⟨_,rfl,_,H,G2,⟨rfl,rfl⟩,k1,k2⟩
   ·have hlen:=Oe es 10 hn
    obtain⟨G2,ext2,k1,k2,k3⟩:=hcr.frzRow true ho hob hvx (by rw[AF,hlen];omega) (.inl rfl)
    have e1:(es.flatten++r).map borrow1=es.flatten++r.map borrow1:=by
     rw[Aq,DN]
     congr 2
     exact Bq (f:=List.map borrow1) (g:=id) (λe he=>hb e he) |>.trans (DO _)
    rw[e1,Ko es _ 10 hn]at k3
    obtain⟨G3,k4,k5⟩:=hc.cutExt (k1.swap1 (put rfl k3) rfl) (hext.trans k2) (by
     have:=Nh hs
     simp only[AV.bnd,Fo]at this ⊢
     simp[this])
    exact⟨_,rfl,_,H,G3,⟨rfl,rfl⟩,k4,k5⟩⟩
end
end Go.AI
namespace Go.AI
open Go.Proofs
set_option maxRecDepth 50000
def AG5{i j n:Nat}(hn:n<=4611686018427387903)(hj:j<=n)(hi:i<j):IntKind.i64.wrap ((IntKind.u64.wrap (IntKind.i64.wrap ((i:Int)+(j:Int)))).fdiv 2)=(((i+j) / 2:Nat):Int):=by
 have e1:IntKind.i64.wrap ((i:Int)+(j:Int))=((i+j:Nat):Int):=OY FR FR
 rw[e1]
 have e2:IntKind.u64.wrap ((i+j:Nat):Int)=((i+j:Nat):Int):=by
  simp[Dl,Dm,DI];omega
 rw[e2]
 have e3:((i+j:Nat):Int).fdiv 2=(((i+j) / 2:Nat):Int):=by
  rw[Int.fdiv_eq_ediv_of_nonneg _ dc];omega
 rw[e3]
 exact OY FR FR
def AAR(x:Int):FT AA 199 [.int .i64 x] (.bool false):=by
 refine pC AO1 rfl ?_
 simp only[f199,go_sem,bne_self_eq_false]
def Nz(a b:Int):Int:=if a<b then -1 else if b<a then 1 else 0
def AAX(a b:Int):FT AA 124 [.int .i64 a,.int .i64 b] (.int .i64 (Nz a b)):=by
 have c1:=AAR a
 have c2:=AAR b
 refine pC AS8 rfl ?_
 simp only[f124,go_sem]
 repeat' (first|((first|apply pK c1|apply pK c2);simp only[go_sem])|apply cg<;>intro hc<;>simp only[go_sem,hc])
 all_goals (unfold Nz;grind)
def mD(a b:Ey)(H:cj)(oa ob:Nat)(hA:H[oa]? =some (some a.c))(hB:H[ob]? =some (some b.c)):GM AA 68 [.msl oa 0 10 1,.msl ob 0 10 1] H (.int .i64 (Ix a b)):=by
 refine aC AG9 rfl ?_
 simp only[f68,go_sem]
 refine Ku (σ:=Nat) (λk=>[(0,.msl oa 0 10 1),(1,.msl ob 0 10 1),(9,.msl oa 0 10 1),(10,.int .i64 10),(11,.int .i64 k)]) (λ_=>H) (λk=>k<=10/\Ix a b=Le (a.l.drop k) (b.l.drop k)) (λk=>10 - k) 0 ⟨dc,rfl⟩ rfl rfl ?_
 rintro k ⟨hk,hI⟩
 rw[nu a b k hk]at hI
 by_cases h:k<10
 ·rw[iP h]at hI
  have i0:(0:Int)<=(k:Int):=FR
  have i1:(k:Int)<((10:Nat):Int):=FR
  have i2:(k:Int)<10:=FR
  have i3:¬((10:Nat):Int)<=(k:Int):=FR
  have a1:=Lr a h
  have a2:=Lr b h
  have hw:=Mg (k:=k) FR
  have c1:=AAX (Fp a k) (Fp b k)
  simp only[go_sem,i0,i1,i2,i3,dT,dF,Ag,hA,hB,a1,a2]
  repeat' (first|(apply pK c1;simp only[go_sem])|apply cg<;>intro hc<;>simp only[go_sem,hc,hw])
  ·have hne:Nz (Fp a k) (Fp b k)≠0:=by simpa using hc
   rw[hI]
   unfold Nz at hne ⊢
   by_cases h1:Fp a k<Fp b k
   ·rw[iP h1,iP h1]
   ·rw[iN h1]at hne ⊢
    rw[iN h1]
    by_cases h2:Fp b k<Fp a k
    ·rw[iP h2,iP h2]
    ·rw[iN h2]at hne;exact absurd rfl hne
  ·have heq:Nz (Fp a k) (Fp b k)=0:=by simpa using hc
   unfold Nz at heq
   have h1:¬Fp a k<Fp b k:=λh1=>by rw[iP h1]at heq;cases heq
   have h2:¬Fp b k<Fp a k:=λh2=>by rw[iN h1,iP h2]at heq;cases heq
   rw[iN h1,iN h2]at hI
   exact⟨k+1,⟨FR,hI⟩,FR,rfl,rfl⟩
 ·rw[iN h]at hI
  have:k=10:=FR
  subst this
  have g:decide (((10:Nat):Int)<10)=false:=dc
  have g2:decide (((10:Nat):Int)<((10:Nat):Int))=false:=dc
  simp only[go_sem,g,g2]
  rw[hI]
def Qj(a b:Ey):FT AA 270 [.agg a.c,.agg b.c] (.int .i64 (Ix a b)):=by
 refine pC AL0 rfl ?_
 simp only[f270,go_sem]
 repeat' (first|(refine aS (mD a b _ _ _ rfl rfl) ?_;simp only[go_sem])|apply cg<;>intro hc<;>simp only[go_sem,hc])
def AAI(x:Ey):List Ey->Nat
 |[]=>0
 |y::r=>if Ix y x<0 then AAI x r+1 else 0
def qS(x:Ey): ∀(l:List Ey) (i:Nat),i<=l.length->(∀k y,l[k]? =some y->k<i->Ix y x<0)->(∀y,l[i]? =some y -> ¬Ix y x<0)->AAI x l=i
 |[],i,h,_,_=>by
  have:i=0:=by simpa using h
  rw[this];rfl
 |y::r,0,_,_,h2=>by rw[AAI,iN (h2 y rfl)]
 |y::r,i+1,h,h1,h2=>by
  rw[AAI,iP (h1 0 y rfl FR),qS x r i (by simpa using h) (λk z hk hl=>h1 (k+1) z (by simpa using hk) FR) λz hz=>h2 z (by simpa using hz)]
def lc{l:List Ey}(h:LW l){i j:Nat}{a b:Ey}(ha:l[i]? =some a)(hb:l[j]? =some b)(hij:i<j):Ix a b<0:=by
 obtain⟨h1,rfl⟩:=AC.1 ha
 obtain⟨h2,rfl⟩:=AC.1 hb
 exact List.pairwise_iff_getElem.1 h i j h1 h2 hij
def AVQ{l:List Ey}(h:LW l)(x:Ey){i:Nat}(h1 : ∀ k y,l[k]? =some y->k<i->Ix y x<0)(h2 : ∀ k y,l[k]? =some y->i<=k -> ¬ Ix y x<0):(l.any λy=>decide (y=x))=match l[i]? with|some y=>decide (Ix y x=0)|none=>false:=by
 have key:x∈l->l[i]? =some x:=λhx=>by
  obtain⟨k,hk⟩:=List.getElem?_of_mem hx
  rcases BM k i with hl|hl
  ·have:=h1 k x hk hl;rw[Pt]at this;omega
  ·rcases BM i k with hl2|hl2
   ·have hlt:i<l.length:=by have:=(AC.1 hk).1;omega
    have hi:=AH hlt
    exact absurd (lc h hi hk hl2) (h2 i _ hi (AT _))
   ·have:k=i:=FR
    subst this;exact hk
 cases hi:l[i]? with
 |none =>
  dsimp only
  rw[List.any_eq_false]
  intro y hy hc
  have:=of_decide_eq_true hc
  subst this
  rw[key hy]at hi;cases hi
 | some y =>
  dsimp only
  rw[A',List.any_eq_true,decide_eq_true_eq]
  constructor
  ·rintro ⟨z,hz,hc⟩
   have:=of_decide_eq_true hc
   subst this
   rw[key hz]at hi;cases hi;exact Pt _
  ·intro hc
   exact⟨y,AB hi,decide_eq_true (Rz hc)⟩
def AXr(l:List Ey)(hs:LW l)(hl:l.length<=4611686018427387903)(x:Ey):FT AA 272 [.sl none (F2 l),.agg x.c,.fn (.func 270) [] []] (.tup [.int .i64 (AAI x l),.bool (l.any λy=>decide (y=x))]):=by
 refine pB ALt rfl ?_
 simp only[f272,go_sem]
 refine Ku (σ:=Nat×Nat) (λs=>[(0,.sl none (F2 l)),(2,.fn (.func 270) [] []),(4,.ptr 0 0),(8,.int .i64 l.length),(9,.int .i64 s.1),(10,.int .i64 s.2)]) (λ_=>[some x.c]) (λs=>s.1<=s.2/\s.2<=l.length/\(∀k y,l[k]? =some y->k<s.1->Ix y x<0)/\(∀k y,l[k]? =some y->s.2<=k -> ¬Ix y x<0)) (λs=>s.2 - s.1) (0,l.length) ⟨FR,FR,λk y hk=>FR,λk y h1 h2=>by have:=(AC.1 h1).1;omega⟩ rfl rfl ?_
 rintro ⟨i,j⟩ ⟨hij,hj,h1,h2⟩
 dsimp only at hij hj h1 h2 ⊢
 by_cases hlt:i<j
 ·have g1:(i:Int)<(j:Int):=FR
  have g2:(0:Int)<=(((i+j) / 2:Nat):Int):=FR
  have g3:(((i+j) / 2:Nat):Int).toNat=(i+j) / 2:=FR
  have hm:(i+j) / 2<l.length:=FR
  have g4:(((i+j) / 2:Nat):Int)<(l.length:Int):=FR
  have hw:=Mg (k:=(i+j) / 2) FR
  have hgm:=AH hm
  have a1:=Hs hgm
  have c1:=Qj l[(i+j) / 2] x
  simp only[go_sem,g1,dT,AG5 hl hj hlt,g2,g3,a1]
  repeat' (first|(apply pK c1;simp only[go_sem])|apply cg<;>intro hc<;>simp only[go_sem,hc,hw])
  ·have hc:=of_decide_eq_true hc
   exact⟨((i+j) / 2+1,j),⟨by dsimp only;omega,hj,λk y hk hki=>by
    rcases BM k ((i+j) / 2)with h|h
    ·exact MJ (lc hs hk hgm h) hc
    ·have:k=(i+j) / 2:=by dsimp only at hki;omega
     subst this
     rw[hgm]at hk;cases hk;exact hc,h2⟩,by dsimp only;omega,rfl,rfl⟩
  ·have hc:=of_decide_eq_false hc
   exact⟨(i,(i+j) / 2),⟨by dsimp only;omega,by dsimp only;omega,h1,λk y hk hki=>by
    rcases BM ((i+j) / 2) k with h|h
    ·intro hlt2;exact hc (MJ (lc hs hgm hk h) hlt2)
    ·have:k=(i+j) / 2:=by dsimp only at hki;omega
     subst this
     rw[hgm]at hk;cases hk;exact hc⟩,by dsimp only;omega,rfl,rfl⟩
 ·have hij:i=j:=FR
  subst hij
  have g1:¬(i:Int)<(i:Int):=FR
  have hany:=AVQ hs x h1 h2
  have hpos:=qS x l i hj h1 λy hy=>h2 i y hy (AT _)
  rw[hpos]
  by_cases hil:i<l.length
  ·have g3:(i:Int)<(l.length:Int):=FR
   have g4:(0:Int)<=(i:Int):=FR
   have hgi:=AH hil
   have a1:=Hs hgi
   have c1:=Qj l[i] x
   rw[hgi]at hany
   dsimp only at hany
   rw[hany]
   simp only[go_sem,g1,dF,g3,g4,dT,a1]
   repeat' (first|(apply pK c1;simp only[go_sem])|apply cg<;>intro hc<;>simp only[go_sem,hc,g1,g3,g4,a1,dT,Ag])
   all_goals rfl
  ·have g3:¬(i:Int)<(l.length:Int):=FR
   rw[List.getElem?_eq_none FR]at hany
   dsimp only at hany
   rw[hany]
   simp only[go_sem,g1,dF,g3]
   repeat' (first|apply cg<;>intro hc<;>simp only[go_sem,hc,g1,g3])
def Af8(l:List Ey)(hs:LW l)(hl:l.length<=4611686018427387903)(x:Ey):FT AA 216 [.sl none (F2 l),.agg x.c] (.bool (l.any λy=>decide (y=x))):=by
 have c1:=AXr l hs hl x
 refine pC ANr rfl ?_
 simp only[f216,go_sem]
 repeat' (first|(apply pK c1;simp only[go_sem])|apply cg<;>intro hc<;>simp only[go_sem,hc])
def AEn(l:List Ey)(hs:LW l)(hl:l.length<=4611686018427387903)(x:Ey)(H:cj)(oa:Nat)(w:Option Nat)(hA:H[oa]? =some (some [.sl w (F2 l)])):GM AA 215 [.agg x.c,.ptr oa 0] H (.bool (l.any λy=>decide (y=x))):=by
 have c1:=Af8 l hs hl x
 refine Fa.drop rfl ?_
 refine aC ANv rfl ?_
 have hA':∀z,(H++z)[oa]? =some (some [.sl w (F2 l)]):=λz=>by
  have:=(AC.1 hA).1
  rw[AX this];exact hA
 simp only[f215,go_sem,hA']
 repeat' (first|(apply pK c1;simp only[go_sem])|apply cg<;>intro hc<;>simp only[go_sem,hc,hA'])
def KW:∀(n m:Nat) (a b:List Ey),a.length+b.length<n->a.length+b.length<m->JC n a b=JC m a b
 | 0,_,a,b,h,_=>FR
 |_,0,a,b,_,h=>FR
 |n+1,m+1,[],b,_,_=>rfl
 |n+1,m+1,x::a,[],_,_=>rfl
 |n+1,m+1,x::a,y::b,h1,h2=>by
  simp only[AD]at h1 h2
  rw[JC,JC,KW n m a (y::b) (by simp only[AD];omega) (by simp only[AD];omega),KW n m a b FR FR,KW n m (x::a) b (by simp only[AD];omega) (by simp only[AD];omega)]
def ma(a:List Ey):H7 a []=a:=by cases a<;>rfl
def AA4(x:Ey)(a:List Ey)(y:Ey)(b:List Ey):H7 (x::a) (y::b)=if Ix x y<0 then x::H7 a (y::b)else if Ix x y=0 then y::H7 a b else y::H7 (x::a) b:=by
 unfold H7
 rw[JC]
 simp only[AD]
 rw[KW (a.length+1+(b.length+1)) (a.length+(b.length+1)+1) a (y::b) (by simp only[AD];omega) (by simp only[AD];omega),KW (a.length+1+(b.length+1)) (a.length+b.length+1) a b FR FR,KW (a.length+1+(b.length+1)) (a.length+1+b.length+1) (x::a) b (by simp only[AD];omega) (by simp only[AD];omega)]
def On:∀(n:Nat) (a b:List Ey),(JC n a b).length<=a.length+b.length
 | 0,_,_=>by simp[JC]
 |n+1,[],b=>by simp[JC]
 |n+1,x::a,[]=>by simp[JC]
 |n+1,x::a,y::b=>by
  have h1:=On n a (y::b)
  have h2:=On n a b
  have h3:=On n (x::a) b
  rw[JC]
  simp only[AD]at h1 h3 ⊢
  split
  ·simp only[AD];omega
  ·split<;>simp only[AD]<;>omega
def Ou(x:Ey)(l:List Ey):(F2 (x::l)).drop 1=F2 l:=rfl
def AVP(x y:Option (Tmp×Nat×Bool))(e:Fs):Prop :=
 match x,y with
 |some (a,k,s),some (b,l,s')=>(s=true\/s'=true)/\match Fr e a,Fr e b with
  |.ptr o1 f1,.ptr o2 f2=>o1≠o2\/f1+k<=f2\/f2+l<=f1
  |_,_=>False
 |_,_=>False
def MG{P:Program}{h:Hint}{ops:Array Oper}{e:Fs}(L:List (Option (Tmp×Nat×Bool)×Option (Tmp×Nat×Bool)))(hT:((Rv h ops).map λp=>(KH P h p.1,KH P h p.2))=L)(hL:∀q∈L,AVP q.1 q.2 e):Jj P h ops e:=λp hp=>by
 have:=hL _ (by rw[<- hT];exact AO.2 ⟨p,hp,rfl⟩)
 exact this
def L5(l:List Ey):Option (List AV):=some [.sl none (F2 l)]
def l8 (o pa pb:Nat) (L:LoopRec) (Inv:List Ey->List Ey->List Ey->cj->Prop) (hne:pa≠pb) (m:List Ey) (hm:m.length<=4611686018427387903)
  (hA:∀out a b X,Inv out a b X->X[pa]? =some (L5 a)) (hB:∀out a b X,Inv out a b X->X[pb]? =some (L5 b)) (hG:∀out a b X x,Inv out a b X->Inv out a b (X++[x]))
  (hsA:∀out a b X a',Inv out a b X->Inv out a' b (X.set pa (L5 a'))) (hsB:∀out a b X b',Inv out a b X->Inv out a b' (X.set pb (L5 b')))
  (round:∀out a b x X,out++[x] <+: m->Inv out a b X->NR AA o L [.agg (Head.c x)] X λv X'=>v = .bool true/\Inv (out++[x]) a b X')
  (a b:List Ey) (X:cj) (hab:H7 a b=m) (hl:a.length+b.length<=4611686018427387903) (h0:Inv [] a b X):Fa AA 269 [.yld o L,.ptr pa 0,.ptr pb 0] X λ_ X'=>Inv m [] [] X':=by
 refine aC AL5 rfl ?_
 simp only[f269,go_sem]
 refine Ku (σ:=List Ey×List Ey×List Ey×cj×Fs) (λs=>(0,.yld o L)::(1,.ptr pa 0)::(2,.ptr pb 0)::s.2.2.2.2) (λs=>s.2.2.2.1) (λs=>Inv s.1 s.2.1 s.2.2.1 s.2.2.2.1/\s.1++H7 s.2.1 s.2.2.1=m/\s.2.1.length+s.2.2.1.length<=4611686018427387903) (λs=>s.2.1.length+s.2.2.1.length) ([],a,b,X,[]) ⟨h0,hab,hl⟩ rfl rfl ?_
 rintro ⟨out,a,b,X,rest⟩ ⟨hI,hab,hl⟩
 clear h0
 dsimp only at hI hab hl ⊢
 have a0:=hA _ _ _ _ hI
 have b0:=hB _ _ _ _ hI
 have la:=(AC.1 a0).1
 have lb:=(AC.1 b0).1
 have eA:∀z,(X++z)[pa]? =some (L5 a):=λz=>by rw[AX la];exact a0
 have eB:∀z,(X++z)[pb]? =some (L5 b):=λz=>by rw[AX lb];exact b0
 have sA:∀y v,(X++[y]).set pa v=X.set pa v++[y]:=λy v=>BN _ _ la
 have sB:∀y v,(X++[y]).set pb v=X.set pb v++[y]:=λy v=>BN _ _ lb
 have tA:∀v x y,(X.set pa v++[x]).set X.length y=X.set pa v++[y]:=λv x y=>by
  have:=Ub (X.set pa v) x y
  rwa [Ao]at this
 have tB:∀v x y,(X.set pb v++[x]).set X.length y=X.set pb v++[y]:=λv x y=>by
  have:=Ub (X.set pb v) x y
  rwa [Ao]at this
 have gA:∀v x,(X.set pa v++[x])[X.length]? =some x:=λv x=>by rw[AN sm];simp
 have gB:∀v x,(X.set pb v++[x])[X.length]? =some x:=λv x=>by rw[AN sm];simp
 have nA:X.length≠pa:=FR
 have nB:X.length≠pb:=FR
 have nA2:pa≠X.length:=FR
 have nB2:pb≠X.length:=FR
 unfold L5 at a0 b0 eA eB
 have z1:((0:Int)<((0:Nat):Int))=False:=dc
 have z2:(((0:Nat):Int)==(0:Int))=true:=rfl
 cases a with
 | nil =>
  cases b with
  |nil =>
   have hm:out=m:=by rw[<- hab];exact(Af _).symm
   rw[hm]at hI
   simp only[go_sem,a0,b0,AJ,z1,dF]
   repeat' (first|apply cg<;>intro hc<;>simp only[go_sem,hc,a0,b0,AJ,z1,z2,dF])
   all_goals first|exact hI|skip
  | cons y b =>
   simp only[AD]at hl
   have n1:((0:Int)<((b.length+1:Nat):Int))=True:=eq_true FR
   have n2:(((b.length+1:Nat):Int)==(0:Int))=false:=by
    rw[beq_eq_false_iff_ne];omega
   have n3:=Ou y b
   have n4:(F2 (y::b))[0]? =some (.agg y.c):=rfl
   have hab2:out++[y]++H7 [] b=m:=by rw[<- hab,AE];rfl
   simp only[go_sem,a0,b0,AJ,AD,z1,z2,n1,dT,dF]
   rw[HT _ _ _ (by simp only[go_sem]) rfl rfl]
   simp only[go_sem,eB,sB,AJ,AD,n3,n4]
   refine⟨FR,MG [(some (2,1,false),some (5,10,true))] kr ?_, ?_⟩
   ·intro q hq
    rw[Ab.1 hq]
    exact⟨.inr rfl,.inl nB2⟩
   simp only[go_sem,gB,dF]
   refine N'.intro (round out [] b y _ ⟨_,hab2⟩ (hG _ _ _ _ _ (hsB _ _ _ _ b hI))) λv X' hr=>?_
   obtain⟨rfl,hi⟩:=hr
   simp only[go_sem]
   exact⟨(out++[y],[],b,X',[(46,.bool false)]),⟨hi,hab2,by simp only[AJ];omega⟩,sm,rfl,rfl⟩
 | cons x a =>
  simp only[AD]at hl
  have m1:((0:Int)<((a.length+1:Nat):Int))=True:=eq_true FR
  have m2:(((a.length+1:Nat):Int)==(0:Int))=false:=by
   rw[beq_eq_false_iff_ne];omega
  have m3:=Ou x a
  have m4:(F2 (x::a))[0]? =some (.agg x.c):=rfl
  cases b with
  | nil =>
   have hab2:out++[x]++H7 a []=m:=by rw[<- hab,AE,ma,ma];rfl
   simp only[go_sem,a0,b0,AJ,AD,z2,m1,m2,dT,dF]
   rw[HT _ _ _ (by simp only[go_sem]) rfl rfl]
   simp only[go_sem,eA,sA,AJ,AD,m3,m4]
   refine⟨FR,MG [(some (1,1,false),some (5,10,true))] kr ?_, ?_⟩
   ·intro q hq
    rw[Ab.1 hq]
    exact⟨.inr rfl,.inl nA2⟩
   simp only[go_sem,gA]
   refine N'.intro (round out a [] x _ ⟨_,hab2⟩ (hG _ _ _ _ _ (hsA _ _ _ _ a hI))) λv X' hr=>?_
   obtain⟨rfl,hi⟩:=hr
   simp only[go_sem]
   exact⟨(out++[x],a,[],X',[(46,.bool false)]),⟨hi,hab2,by simp only[AJ];omega⟩,sm,rfl,rfl⟩
  | cons y b =>
   simp only[AD]at hl
   have n1:((0:Int)<((b.length+1:Nat):Int))=True:=eq_true FR
   have n2:(((b.length+1:Nat):Int)==(0:Int))=false:=by
    rw[beq_eq_false_iff_ne];omega
   have n3:=Ou y b
   have n4:(F2 (y::b))[0]? =some (.agg y.c):=rfl
   have c1:=Qj x y
   rw[AA4]at hab
   by_cases q1:Ix x y<0
   ·rw[iP q1]at hab
    have k1:¬0<=Ix x y:=FR
    have k2:Ix x y<=0:=FR
    have hab2:out++[x]++H7 a (y::b)=m:=by rw[<- hab,AE];rfl
    simp only[go_sem,a0,b0,AD,n2,n4,m1,m2,m4,dT]
    repeat' (first|(apply pK c1;simp only[go_sem,k1,k2,dT,dF])|apply cg<;>intro hc<;>simp only[go_sem,hc,a0,b0,eA,eB,sA,sB,tA,tB,gA,gB,AJ,AD,z1,z2,n1,n2,n3,n4,m1,m2,m3,m4,k1,k2,dT,dF])
    rw[HT _ _ _ (by simp only[go_sem]) rfl rfl]
    simp only[go_sem,eA,sA,AJ,AD,m3,m4]
    refine⟨FR,MG [(some (1,1,false),some (5,10,true))] kr ?_, ?_⟩
    ·intro q hq
     rw[Ab.1 hq]
     exact⟨.inr rfl,.inl nA2⟩
    simp only[go_sem,gA]
    refine N'.intro (round out a (y::b) x _ ⟨_,hab2⟩ (hG _ _ _ _ _ (hsA _ _ _ _ a hI))) λv X' hr=>?_
    obtain⟨rfl,hi⟩:=hr
    simp only[go_sem]
    exact⟨(out++[x],a,y::b,X',[(46,.bool false)]),⟨hi,hab2,by simp only[AD];omega⟩,by simp only[AD];omega,rfl,rfl⟩
   ·rw[iN q1]at hab
    have k1:0<=Ix x y:=FR
    by_cases q2:Ix x y=0
    ·rw[iP q2]at hab
     have hxy:=Rz q2
     subst hxy
     have k2:Ix x x<=0:=FR
     have hab2:out++[x]++H7 a b=m:=by rw[<- hab,AE];rfl
     have la':pa<(X.set pb (some [.sl none (F2 b)])).length:=by simpa using la
     have eA2:∀v,(X.set pb v)[pa]? =some (some [.sl none (F2 (x::a))]):=λv=>by rw[A6 hne.symm];exact a0
     have eA3:∀v z,(X.set pb v++z)[pa]? =some (some [.sl none (F2 (x::a))]):=λv z=>by rw[AX (by simpa using la)];exact eA2 v
     have sA3:∀w y v,(X.set pb w++[y]).set pa v=(X.set pb w).set pa v++[y]:=λw y v=>BN _ _ (by simpa using la)
     have tA3:∀w v x y,((X.set pb w).set pa v++[x]).set X.length y=(X.set pb w).set pa v++[y]:=λw v x y=>by
      have:=Ub ((X.set pb w).set pa v) x y
      rwa [Ao,Ao]at this
     have gA3:∀w v x,((X.set pb w).set pa v++[x])[X.length]? =some x:=λw v x=>by rw[AN sm];simp
     simp only[go_sem,a0,b0,AD,n2,n4,m1,m2,m4,dT]
     repeat' (first|(apply pK c1;simp only[go_sem,k1,dT])|apply cg<;>intro hc<;>simp only[go_sem,hc,a0,b0,eA,eB,sA,sB,tA,tB,gA,gB,AJ,AD,z1,z2,n1,n2,n3,n4,m1,m2,m3,m4,k1,k2,dT,dF])
     rw[HT _ _ _ (by simp only[go_sem]) rfl rfl]
     simp only[go_sem,eB,sB,AJ,AD,n3,n4]
     refine⟨FR,MG [(some (2,1,false),some (5,10,true))] kr ?_, ?_⟩
     ·intro q hq
      rw[Ab.1 hq]
      exact⟨.inr rfl,.inl nB2⟩
     simp only[go_sem,k2,dT]
     rw[HT _ _ _ (by simp only[go_sem]) rfl rfl]
     simp only[go_sem,tB,gB,AJ,AD,m3,m4,eA3,sA3]
     refine⟨FR,MG [(some (1,1,false),some (5,10,true))] kr ?_, ?_⟩
     ·intro q hq
      rw[Ab.1 hq]
      exact⟨.inr rfl,.inl nA2⟩
     simp only[go_sem,gA3]
     refine N'.intro (round out a b x _ ⟨_,hab2⟩ (hG _ _ _ _ _ (hsA _ _ _ _ a (hsB _ _ _ _ b hI)))) λv X' hr=>?_
     obtain⟨rfl,hi⟩:=hr
     simp only[go_sem]
     exact⟨(out++[x],a,b,X',[(46,.bool false)]),⟨hi,hab2,by simp only[];omega⟩,by simp only[];omega,rfl,rfl⟩
    ·rw[iN q2]at hab
     have k2:¬Ix x y<=0:=FR
     have hab2:out++[y]++H7 (x::a) b=m:=by rw[<- hab,AE];rfl
     simp only[go_sem,a0,b0,AD,n2,n4,m1,m2,m4,dT]
     repeat' (first|(apply pK c1;simp only[go_sem,k1,dT])|apply cg<;>intro hc<;>simp only[go_sem,hc,a0,b0,eA,eB,sA,sB,tA,tB,gA,gB,AJ,AD,z1,z2,n1,n2,n3,n4,m1,m2,m3,m4,k1,k2,dT,dF])
     rw[HT _ _ _ (by simp only[go_sem]) rfl rfl]
     simp only[go_sem,eB,sB,AJ,AD,n3,n4]
     refine⟨FR,MG [(some (2,1,false),some (5,10,true))] kr ?_, ?_⟩
     ·intro q hq
      rw[Ab.1 hq]
      exact⟨.inr rfl,.inl nB2⟩
     simp only[go_sem,gB,k2,dF]
     refine N'.intro (round out (x::a) b y _ ⟨_,hab2⟩ (hG _ _ _ _ _ (hsB _ _ _ _ b hI))) λv X' hr=>?_
     obtain⟨rfl,hi⟩:=hr
     simp only[go_sem]
     exact⟨(out++[y],x::a,b,X',[(46,.bool false)]),⟨hi,hab2,by simp only[AD];omega⟩,by simp only[AD];omega,rfl,rfl⟩
def GG(l:List Ey):List AV:=(l.map Head.c).flatten
def Iy(x:Ey)(l:List Ey):GG (x::l)=x.c++GG l:=rfl
def Jk:∀l:List Ey,(GG l).length=l.length*10
 |[]=>rfl
 |x::l=>by
  rw[Iy,AF,Jk l,AD]
  have:x.c.length=10:=rfl
  omega
def WQ:∀(l:List Ey) (r:List AV) (k:Nat) (y:Ey),l[k]? =some y->((GG l++r).drop (k*10)).take 10=y.c
 |[],_,_,_,h=>by simp at h
 |x::l,r,0,y,h=>by
  simp only[A7,Option.some.injEq]at h
  subst h
  rfl
 | x::l,r,k+1,y,h=>by
  rw[Iy,AE]
  have e:(k+1)*10=x.c.length+k*10:=by
   have:x.c.length=10:=rfl
   omega
  rw[e,<- A9,List.drop_left]
  exact WQ l r k y (by simpa using h)
def i_{l:List Ey}(r:List AV){k:Nat}{y:Ey}(h:l[k]? =some y):k*10+10<=(GG l++r).length:=by
 have:=(AC.1 h).1
 rw[AF,Jk]
 omega
def gZ(d:Ey->Bool):Nat->List Ey->Int
 |_,[] => -1
 |k,x::r=>if d x=true then(k:Int)else gZ d (k+1) r
def AAg(l:List Ey)(hl:l.length<=9223372036854775807)(r:List AV)(H:cj)(o:Nat)(ho:H[o]? =some (some (GG l++r)))(f:Nat)(first cap:List AV)(d:Ey->Bool)(hd:∀x∈l,GM AA f (first.map AV.borrow++(.agg (Head.c x)::cap.map AV.borrow)) H (.bool (d x))):
  GM AA 271 [.msl o 0 l.length 10,.fn (.func f) first cap] H (.int .i64 (gZ d 0 l)):=by
 refine aC ABm rfl ?_
 simp only[f271,go_sem]
 refine Fe l (λr=>gZ d (l.length - r.length) r) (λk=>[(0,.msl o 0 l.length 10),(1,.fn (.func f) first cap),(7,.int .i64 l.length),(8,.int .i64 k)]) hl rfl ?_ ?_
 ·intro k y ys hdr hx hF h0 h1 hw
  have c1:=hd y (AB hx)
  have g1:=i_ r hx
  have g2:=WQ l r k y hx
  have hk2:=Fq hdr
  have e1:l.length - (ys.length+1)=k:=FR
  have e2:l.length - ys.length=k+1:=FR
  simp only[AD,e1,AP]at hF
  simp only[go_sem,h0,h1,ho,g1,g2]
  repeat' (first|(refine aS (c1) ?_;simp only[go_sem])|apply cg<;>intro hc<;>simp only[go_sem,hc,hw,e1,e2])
  ·rw[hF,gZ,iP hc]
  ·rw[gZ,iN (by rw[hc];decide)]
 ·intro hF hlt
  simp only[go_sem,hlt,dF]
  rw[AP]at hF
  rw[hF];rfl
def hM2:Hint:={ iB with tk:=[] }
@[go_sem] def AhA:hM2.lv 3=[5,6]/\hM2.lv 4=[0]:=dk
set_option linter.defProp false in
@[go_sem] def Ag':=nL hM2 rfl rfl rfl
@[go_sem] def Ag_:hM2.tk=[]/\hM2.mt=[5,14]/\hM2.pc=[]:=⟨rfl,rfl,rfl⟩
def AAT(a b:List Ey)(H:cj):Fa AA 213 [.sl none (F2 a),.sl none (F2 b)] H λv H'=>v = .fn (.func 269) [] [.ptr H.length 0,.ptr (H.length+1) 0]/\H'=H++[L5 a,L5 b]:=by
 refine aC AN1 rfl ?_
 simp only[f213,go_sem,AF,AE,AW,AR]
 all_goals first|rfl|exact⟨rfl,rfl⟩
def AH9{P:Program}{n tag N:Nat}{h:Hint}{g:Operand}{rs:Array Tmp}{assign body:Code}{Q:Exit->Kt}{e:Fs}{H:cj}{f:FuncId}{first captured:List AV}(hN:H.length=N)
  (hg:G6 P none e g = .fn (.func f) first captured)
  (hc:Fa P f (first.map AV.borrow++[.yld N ⟨tag,rs,assign,body⟩]++captured.map AV.borrow) (H++[some (G8 0 (Hj n e))]) (λ_ H2=>zw N Q e H2)):rfK P n h none g rs assign body Q e H:=by
 subst hN
 exact Yd hg hc
def MI(H:cj)(fv:List AV)(out a b:List Ey)(X:cj):Prop :=
 H.length+4<=X.length/\X.take H.length=H/\X[H.length+1]? =some (L5 a)/\X[H.length+2]? =some (L5 b)/\X[H.length+3]? =some (some (G8 0 fv)) /\
  ∃ov,X[H.length]? =some (some [ov])/\((out=[]/\ov = .sl (some 0) []) \/ ∃ob,ov = .msl ob 0 out.length 10/\out≠[]/\H.length+4<=ob/\X[ob]? =some (some (GG out)))
def FY{X:cj}{i:Nat}{c:Option (List AV)}(h:X[i]? =some c)(z:cj):(X++z)[i]? =some c:=by
 rw[AX (AC.1 h).1];exact h
def GC{X:cj}{i j:Nat}{c:Option (List AV)}(h:X[i]? =some c)(hne:j≠i)(v:Option (List AV)):(X.set j v)[i]? =some c:=by
 rw[A6 hne];exact h
def Ib{X:cj}{i:Nat}(h:i<X.length)(v:Option (List AV)):(X.set i v)[i]? =some v:=by
 rw[A1 h]
def MI.grow{H:cj}{fv:List AV}{out a b:List Ey}{X:cj}(h:MI H fv out a b X)(x:Option (List AV)):MI H fv out a b (X++[x]):=by
 obtain⟨h1,h2,h3,h4,h5,ov,h6,h7⟩:=h
 refine⟨Hy,by rw[Cf FR];exact h2,FY h3 _,FY h4 _,FY h5 _,ov,FY h6 _, ?_⟩
 rcases h7 with h7|⟨ob,g1,g2,g3,g4⟩
 ·exact .inl h7
 ·exact .inr ⟨ob,g1,g2,g3,FY g4 _⟩
def MI.setA{H:cj}{fv:List AV}{out a b:List Ey}{X:cj}(h:MI H fv out a b X)(a':List Ey):MI H fv out a' b (X.set (H.length+1) (L5 a')):=by
 obtain⟨h1,h2,h3,h4,h5,ov,h6,h7⟩:=h
 refine⟨by simpa using h1,by rw[CN FR];exact h2,Ib FR _,GC h4 FR _,GC h5 FR _,ov,GC h6 FR _, ?_⟩
 rcases h7 with h7|⟨ob,g1,g2,g3,g4⟩
 ·exact .inl h7
 ·exact .inr ⟨ob,g1,g2,g3,GC g4 FR _⟩
def MI.setB{H:cj}{fv:List AV}{out a b:List Ey}{X:cj}(h:MI H fv out a b X)(b':List Ey):MI H fv out a b' (X.set (H.length+2) (L5 b')):=by
 obtain⟨h1,h2,h3,h4,h5,ov,h6,h7⟩:=h
 refine⟨by simpa using h1,by rw[CN FR];exact h2,GC h3 FR _,Ib FR _,GC h5 FR _,ov,GC h6 FR _, ?_⟩
 rcases h7 with h7|⟨ob,g1,g2,g3,g4⟩
 ·exact .inl h7
 ·exact .inr ⟨ob,g1,g2,g3,GC g4 FR _⟩
def MI.put{H:cj}{fv:List AV}{a b:List Ey}{X:cj}(h1:H.length+4<=X.length)(h2:X.take H.length=H)(h3:X[H.length+1]? =some (L5 a))(h4:X[H.length+2]? =some (L5 b))(z:cj){out:List Ey}{ob:Nat}(hne:out≠[])(hob:H.length+4<=ob)
  (hr:((X.set H.length (some [.msl ob 0 out.length 10])).set (H.length+3) (some (G8 0 fv))++z)[ob]? =some (some (GG out))):MI H fv out a b ((X.set H.length (some [.msl ob 0 out.length 10])).set (H.length+3) (some (G8 0 fv))++z):=by
 refine⟨Hy, ?_,FY (GC (GC h3 FR _) FR _) _,FY (GC (GC h4 FR _) FR _) _,FY (Ib Hy _) _,_,FY (GC (Ib FR _) FR _) _,.inr ⟨ob,rfl,hne,hob,hr⟩⟩
 rw[Cf Hy,CN FR,CN FR]
 exact h2
def WR:∀l:List Ey,(GG l).map borrow1=GG l
 |[]=>rfl
 |x::l=>by
  rw[Iy,Aq,WR l]
  rfl
def i'(l:List Ey)(x:Ey):GG (l++[x])=GG l++x.c:=by
 unfold GG
 simp
def ACE{H X:cj}(h:X.take H.length=H): ∃ext,X=H++ext:=⟨X.drop H.length,by
 have:=List.take_append_drop H.length X
 rw[h]at this
 exact this.symm⟩
def mFv(n:Nat):List AV:=Hj 16 [(5,.ptr n 0),(9,.fn (.func 269) [] [.ptr (n+1) 0,.ptr (n+2) 0])]
def VL(a b:List Ey)(hl:a.length+b.length<=1048576)(H:cj):Fa AA 149 [.sl none (F2 a),.sl none (F2 b)] H λv H'=>SX ((H7 a b).map Head.c) v H H':=by
 have hml:(H7 a b).length<=1048576:=Nat.le_trans (On _ a b) hl
 refine aC ARa rfl ?_
 simp only[f149,go_sem]
 refine⟨by first|rfl|kernel_rfl,Fu.intro (AAT a b _) λv H' hr=>?_⟩
 obtain⟨rfl,rfl⟩:=hr
 simp only[go_sem,AF,AE,AW,AR,AD,AJ,Ay,Nat.reduceAdd]
 refine AH9 (tag:=149) (N:=H.length+3) sm rfl (Fa.mono (l8 (H.length+3) (H.length+1) (H.length+2) _ (MI H (mFv H.length)) FR (H7 a b) FR (λ_ _ _ _ h=>h.2.2.1) (λ_ _ _ _ h=>h.2.2.2.1) (λ_ _ _ _ x h=>h.grow x) (λ_ _ _ _ a' h=>h.setA a') (λ_ _ _ _ b' h=>h.setB b') ?_ a b _ rfl FR ?_) λv H2 hq=>?_)
 ·intro out a b x X hpre hI
  have hlen:=hpre.length_le
  simp only[AF,AD,AJ]at hlen
  obtain⟨h1,h2,h3,h4,h5,ov,h6,h7⟩:=hI
  have f1:∀z,(X++z)[H.length+3]? =some (some (G8 0 (mFv H.length))):=FY h5
  have f2:∀y v,(X++[y]).set (H.length+3) v=X.set (H.length+3) v++[y]:=λy v=>BN _ _ FR
  have f3:∀v z,(X.set (H.length+3) v++z)[H.length]? =some (some [ov]):=λv z=>FY (GC h6 FR v) z
  have f4:∀v y,(X.set (H.length+3) v++[y])[X.length]? =some y:=λv y=>by
   have:X.length=(X.set (H.length+3) v).length:=sm
   rw[this];exact Bg
  rcases h7 with⟨rfl,rfl⟩|⟨ob,rfl,hne,hob,hrow⟩
  ·have f5:∀v z w,(X.set (H.length+3) v++z).set H.length w=(X.set (H.length+3) v).set H.length w++z:=λv z w=>BN _ _ Hy
   have f6:∀v w z,((X.set (H.length+3) v).set H.length w++z)[H.length+3]? =some v:=λv w z=>FY (GC (Ib FR v) FR w) z
   have f7:∀v w z u,((X.set (H.length+3) v).set H.length w++z).set (H.length+3) u=(X.set H.length w).set (H.length+3) u++z:=λv w z u=>by
    rw[BN _ _ Hy,B7 _ _ FR,BB,B7 _ _ FR]
   have f8:∀v w y z,((X.set (H.length+3) v).set H.length w++(y::z))[X.length]? =some y:=λv w y z=>by
    have:X.length=((X.set (H.length+3) v).set H.length w).length:=sm
    rw[this,AN (AT _),AP];rfl
   have f9:∀v w z u,((X.set (H.length+3) v).set H.length w++z).set H.length u=(X.set (H.length+3) v).set H.length u++z:=λv w z u=>by
    rw[BN _ _ Hy,BB]
   have f10:∀v w z,((X.set (H.length+3) v).set H.length w++z)[H.length]? =some w:=λv w z=>FY (Ib Hy w) z
   have hc1:x.c.length=10:=rfl
   have hc2:x.c.take 10=x.c:=rfl
   have hb1:List.map borrow1 (HP [AV.agg x.c])=GG [x]:=rfl
   refine LU (h:=iB) (n:=16) mixed rfl ⟨kr,kr⟩ dc _ _ _ _ h5 rfl rfl ?_
   show JF _ _ _ _ _ _ [(10,.agg x.c),(0,.undef),(1,.undef),(2,.undef),(3,.undef),(4,.undef),(5,.ptr H.length 0),(6,.undef),(7,.undef),(8,.undef),(9,.fn (.func 269) [] [.ptr (H.length+1) 0,.ptr (H.length+2) 0]),(10,.undef),(11,.undef),(12,.undef),(13,.undef),(14,.undef),(15,.undef)] _
   simp only[go_sem,f1]
   refine⟨_,rfl, ?_⟩
   simp only[go_sem,f2,f3,f5,f6,f7,f8,f9,f10,hb1,hc1,hc2,AE,AW,AR,AF,Ao,AD,AJ,AU]
   refine⟨_,rfl, ?_⟩
   have hlX:∀w u,((X.set H.length w).set (H.length+3) u).length=X.length:=λw u=>sm
   have:=MI.put (fv:=mFv H.length) h1 h2 h3 h4 [some x.c,some (GG [x])] (out:=[x]) (ob:=X.length+1) sm FR (by rw[AN (by rw[hlX];omega),hlX,A4];rfl)
   exact this
  ·have hX2:∀v,X.set (H.length+3) v=X.set (H.length+3) v:=λ_=>rfl
   have hoX:=(AC.1 hrow).1
   have f5:∀v z,(X.set (H.length+3) v++z)[ob]? =some (some (GG out)):=λv z=>FY (GC hrow FR v) z
   have f6:∀v z,(X.set (H.length+3) v++z).set ob none=(X.set (H.length+3) v).set ob none++z:=λv z=>BN _ _ Hy
   have f8:∀v z,((X.set (H.length+3) v).set ob none++z)[H.length]? =some (some [.msl ob 0 out.length 10]):=λv z=>FY (GC (GC h6 FR v) FR none) z
   have f9:∀v z w,((X.set (H.length+3) v).set ob none++z).set H.length w=((X.set (H.length+3) v).set ob none).set H.length w++z:=λv z w=>BN _ _ Hy
   have f10:∀v w z,(((X.set (H.length+3) v).set ob none).set H.length w++z)[H.length+3]? =some v:=λv w z=>FY (GC (GC (Ib FR v) FR none) FR w) z
   have f11:∀v w z u,(((X.set (H.length+3) v).set ob none).set H.length w++z).set (H.length+3) u=((X.set ob none).set H.length w).set (H.length+3) u++z:=λv w z u=>by
    rw[BN _ _ Hy]
    congr 1
    rw[B7 _ _ (show H.length≠H.length+3 by omega),B7 _ _ (show ob≠H.length+3 by omega),BB,B7 _ _ (show H.length+3≠ob by omega),B7 _ _ (show H.length+3≠H.length by omega)]
   have hcl:(GG out).length=out.length*10:=Jk out
   have hcb:(GG out).map borrow1=GG out:=WR out
   have hc1:x.c.length=10:=rfl
   have hc2:x.c.take 10=x.c:=rfl
   have hb1:List.map borrow1 (HP [AV.agg x.c])=x.c:=rfl
   refine LU (h:=hM2) (n:=16) mixed rfl ⟨kr,kr⟩ dc _ _ _ _ h5 rfl rfl ?_
   show JF _ _ _ _ _ _ [(10,.agg x.c),(0,.undef),(1,.undef),(2,.undef),(3,.undef),(4,.undef),(5,.ptr H.length 0),(6,.undef),(7,.undef),(8,.undef),(9,.fn (.func 269) [] [.ptr (H.length+1) 0,.ptr (H.length+2) 0]),(10,.undef),(11,.undef),(12,.undef),(13,.undef),(14,.undef),(15,.undef)] _
   simp only[go_sem,f1]
   refine⟨_,rfl, ?_⟩
   simp only[go_sem,f2,f3,f4,f5,f6,f8,f9,f10,f11,hcl,hcb,hc1,hc2,hb1,AE,AW,AR,AF,Ao,AD,AJ,AU]
   have hX1:H.length+4<=(X.set ob none).length:=by simpa using h1
   have hX2:(X.set ob none).take H.length=H:=by rw[CN FR];exact h2
   have hlX:∀w u,(((X.set ob none).set H.length w).set (H.length+3) u).length=X.length:=λw u=>sm
   refine⟨FR,FR,_,rfl, ?_⟩
   have:=MI.put (fv:=mFv H.length) hX1 hX2 (GC h3 FR none) (GC h4 FR none) [some x.c,some (GG out++x.c)] (out:=out++[x]) (ob:=X.length+1) sm FR (by rw[AN (by rw[hlX];omega),hlX,A4,i'];rfl)
   simpa only[AF,AD,AJ,AU]using this
 ·refine⟨sm,by rw[AE,List.take_left], ?_, ?_, ?_,.sl (some 0) [], ?_,.inl ⟨rfl,rfl⟩⟩
  ·rw[AE,AN FR,A4];rfl
  ·rw[AE,AN FR,A4];rfl
  ·rw[AE,AN FR,A4];rfl
  ·rw[AE,AN (AT _),AP];rfl
 ·obtain⟨h1,h2,h3,h4,h5,ov,h6,h7⟩:=hq
  refine⟨0,_,h5,.inl ⟨rfl, ?_⟩⟩
  have hext:∃ext,H2.set (H.length+3) none=H++ext:=ACE (by rw[CN FR];exact h2)
  have g6:=GC h6 (show H.length+3≠H.length by omega) none
  rcases h7 with⟨e,rfl⟩|⟨ob,rfl,hne,hob,hrow⟩
  ·simp only[go_sem,g6]
   exact .inl ⟨by rw[e];rfl,⟨_,rfl⟩,hext⟩
  ·simp only[go_sem,g6]
   exact .inr ⟨ob,_,by rw[Ap],FR,hext,GC hrow FR none,[],(Af _).symm⟩
def Qy{l:List Ey}: ∀e∈l.map Head.c,e.length=10:=λe he=>by
 obtain⟨x,_,rfl⟩:=AO.1 he
 rfl
def gf{l:List Ey}: ∀e∈l.map Head.c,e.map borrow1=e:=λe he=>by
 obtain⟨x,_,rfl⟩:=AO.1 he
 rfl
def Nv{l:List Ey}{n:Nat}: ∀e∈l.map Head.c,Fo n e=true:=λe he=>by
 obtain⟨x,_,rfl⟩:=AO.1 he
 rfl
def O0(l:List Ey):(l.map Head.c).map AV.agg=F2 l:=by rw[List.map_map];rfl
def Nm(a b:List Ey)(hl:a.length+b.length<=1048576)(H:cj):GM AA 149 [.sl none (F2 a),.sl none (F2 b)] H (.sl none (F2 (H7 a b))):=by
 have:=yj Qy Nv gf (VL a b hl H)
 rw[O0]at this
 exact this
def Nj:Option (List Ey)->AV
 |some r => .tup [.sl none (F2 r),.bool true]
 |none => .tup [.sl none [],.bool false]
@[go_sem] def AVy(o:Option (List Ey)):(Nj o).pure=true:=by
 cases o<;>simp[Nj,AV.pure,FW,go_sem]
def L1(r:List Ey)(b:Bool):FT AA 148 [.sl none (F2 r),.bool b] (Nj (if b=true then WY r else none)):=by
 refine pB nR rfl ?_
 cases b with
 |false =>
  simp only[f148,go_sem]
  rfl
 |true =>
  simp only[f148,go_sem]
  repeat' (first|apply cg<;>intro hc<;>simp only[go_sem,hc])
  ·rw[WY,iP (by have:=of_decide_eq_true hc;omega)];rfl
  ·rw[WY,iN (by have:=of_decide_eq_false hc;omega)];rfl
def AAL(o n:Nat)(b:Bool)(H:cj):Fa AA 148 [.msl o 0 n 10,.bool b] H λv H'=>H'=H/\((b=true/\n<=256/\v = .tup [.msl o 0 n 10,.bool true])\/((b=false\/256<n) /\ ∃w,v = .tup [.sl w [],.bool false])):=by
 refine aC nR rfl ?_
 cases b with
 |false =>
  simp only[f148,go_sem]
  exact .inr ⟨.inl trivial,_,rfl⟩
 | true =>
  simp only[f148,go_sem]
  repeat' (first|apply cg<;>intro hc<;>simp only[go_sem,hc])
  ·have hc:=of_decide_eq_true hc
   first|exact⟨rfl,.inr ⟨.inr FR,_,rfl⟩⟩|exact .inr ⟨.inr FR,_,rfl⟩|skip
  ·have hc:=of_decide_eq_false hc
   exact .inl FR
def AAM(w:Option Nat)(b:Bool)(H:cj):Fa AA 148 [.sl w [],.bool b] H λv H'=>H'=H /\ ∃w2,v = .tup [.sl w2 [],.bool b]:=by
 have z1:decide ((256:Int)<((0:Nat):Int))=false:=dc
 refine aC nR rfl ?_
 cases b<;>cases w<;>simp only[f148,go_sem,AJ,z1]
 all_goals first|exact⟨_,rfl⟩|exact⟨rfl,_,rfl⟩|skip
def QD{α:Type}(l:List α)(i:Nat)(x:α)(h:i<l.length):(l.set i x).take (i+1)=l.take i++[x]:=by
 rw[BD,A1 h,CN (AT _)];rfl
def Q8:∀(l:List Ey) (r:List AV) (i:Nat),i<=l.length->(GG l++r).take (i*10)=GG (l.take i)
 |_,r,0,_=>by simp[GG]
 |[],r,i+1,h=>by simp at h
 | x::l,r,i+1,h=>by
  have e:(i+1)*10=x.c.length+i*10:=by
   have:x.c.length=10:=rfl
   omega
  rw[Iy,AE,e,List.take_length_add_append,Q8 l r i (by simpa using h),B8,Iy]
def WP:∀(l:List Ey) (r:List AV) (i:Nat),i<=l.length->(GG l++r).drop (i*10)=GG (l.drop i)++r
 |_,r,0,_=>sm
 |[],r,i+1,h=>by simp at h
 | x::l,r,i+1,h=>by
  have e:(i+1)*10=x.c.length+i*10:=by
   have:x.c.length=10:=rfl
   omega
  rw[Iy,AE,e,List.drop_length_add_append,WP l r i (by simpa using h),List.drop_succ_cons]
def oI(a b:List Ey):GG (a++b)=GG a++GG b:=by unfold GG;simp
def Zp{l:List Ey}(r:List AV){i:Nat}(h:i<l.length)(x:Ey):splice (GG l++r) (i*10) x.c=GG (l.set i x)++r:=by
 have e:i*10+x.c.length=(i+1)*10:=by
  have:x.c.length=10:=rfl
  omega
 unfold splice
 rw[e,Q8 l r i FR,WP l r (i+1) FR,List.set_eq_take_append_cons_drop,iP h,oI,Iy]
 simp only[AE]
def Y1(d:Ey->Bool): ∀ (l:List Ey) (k:Nat),(gZ d k l = -1 /\ ∀ x∈l,d x=false) \/ ∃ (i:Nat) (x:Ey),gZ d k l=((k+i:Nat):Int)/\l[i]? =some x/\d x=true /\ ∀ y∈l.take i,d y=false
 |[],k => .inl ⟨rfl,sm⟩
 | x::r,k=>by
  rw[gZ]
  by_cases h:d x=true
  ·rw[iP h]
   exact .inr ⟨0,x,rfl,rfl,h,sm⟩
  ·rw[iN h]
   have h:d x=false:=by simpa using h
   rcases Y1 d r (k+1)with⟨e,h2⟩|⟨i,y,e,h2,h3,h4⟩
   ·exact .inl ⟨e,by simpa [h]using h2⟩
   ·refine .inr ⟨i+1,y,by rw[e];congr 1;omega,h2,h3, ?_⟩
    rw[B8]
    intro z hz
    rcases AY.1 hz with rfl|hz
    ·exact h
    ·exact h4 z hz
def mB(H:cj)(f:Nat)(first cap:List AV):GM AA 271 [.sl none [],.fn (.func f) first cap] H (.int .i64 (-1)):=by
 refine aC ABm rfl ?_
 simp only[f271,go_sem]
 refine Fe ([]:List Ey) (λ_=>()) (λk=>[(0,.sl none []),(1,.fn (.func f) first cap),(7,.int .i64 ((0:Nat):Int)),(8,.int .i64 k)]) sm rfl ?_ ?_
 ·intro k y ys hd
  rw[List.drop_nil]at hd;cases hd
 ·intro _ hlt
  have z2:decide (((0:Nat):Int)<((0:Nat):Int))=false:=dc
  simp only[go_sem,z2]
def Z4(w:Option Nat)(H:cj)(f:Nat)(first cap:List AV):Fa AA 214 [.sl w [],.fn (.func f) first cap] H λv H'=>H'=H /\ ∃w2,v = .sl w2 []:=by
 have c1:=mB H f first cap
 have z1:((-1:Int) == -1)=true:=rfl
 refine aC ABs rfl ?_
 cases w with
 |none =>
  simp only[f214,go_sem]
  repeat' (first|(refine aS (c1) ?_;simp only[go_sem,z1])|apply cg<;>intro hc<;>simp only[go_sem,hc,z1])
  all_goals first|exact⟨_,rfl⟩|exact⟨rfl,_,rfl⟩|skip
 |some w =>
  simp only[f214,go_sem]
  repeat' (first|(refine aS (c1) ?_;simp only[go_sem,z1])|apply cg<;>intro hc<;>simp only[go_sem,hc,z1])
  all_goals first|exact⟨_,rfl⟩|exact⟨rfl,_,rfl⟩|skip
def sb (l:List Ey) (hl:l.length<=1048576) (r:List AV) (H:cj) (o:Nat) (ho:H[o]? =some (some (GG l++r))) (f:Nat) (first cap:List AV) (d:Ey->Bool)
  (hd:∀x∈l,∀c J,GM AA f (first.map AV.borrow++(.agg (Head.c x)::cap.map AV.borrow)) (H.set o (some c)++J) (.bool (d x))) :
  Fa AA 214 [.msl o 0 l.length 10,.fn (.func f) first cap] H λv H' => ∃r' J,v = .msl o 0 (l.filter λx => !d x).length 10/\H'=H.set o (some (GG (l.filter λx => !d x)++r'))++J:=by
 have hset:H.set o (some (GG l++r))=H:=by
  obtain⟨hlt,he⟩:=AC.1 ho
  apply List.ext_getElem?
  intro i
  rw[List.getElem?_set]
  split
  ·rename_i hi;subst hi;rw[ho]
  ·rfl
 have hd0:∀x∈l,GM AA f (first.map AV.borrow++(.agg (Head.c x)::cap.map AV.borrow)) H (.bool (d x)):=λx hx=>by
  have:=hd x hx (GG l++r) []
  rw[hset,Af]at this
  exact this
 have c1:=AAg l FR r H o ho f first cap d hd0
 refine aC ABs rfl ?_
 rcases Y1 d l 0 with⟨e,hall⟩|⟨i,x,e,hx,hdx,hpre⟩
 ·rw[e]at c1
  have hf:l.filter (λx => !d x)=l:=DP.2 λx hx=>by rw[hall x hx];rfl
  simp only[f214,go_sem]
  repeat' (first|(refine aS (c1) ?_;simp only[go_sem,Int.reduceBEq])|apply cg<;>intro hc<;>simp only[go_sem,hc,Int.reduceBEq])
  all_goals first|exact⟨r,[],by rw[hf],by rw[hf,hset,Af]⟩|skip
 ·rw [e,AU] at c1
  have hn1:(((i:Nat):Int) == -1)=false:=by rw[beq_eq_false_iff_ne];omega
  have hi:=(AC.1 hx).1
  have hw0:=Mg (k:=i) FR
  simp only[f214,go_sem]
  repeat' (first|(refine aS (c1) ?_;simp only[go_sem,hn1,hw0])|apply cg<;>intro hc<;>simp only[go_sem,hc,hn1,hw0])
  refine Ku (σ:=Nat×Nat×List Ey×cj×Fs) (λs=>(0,.msl o 0 l.length 10)::(1,.fn (.func f) first cap)::(5,.int .i64 s.1)::(6,.int .i64 s.2.1)::s.2.2.2.2) (λs=>H.set o (some (GG s.2.2.1++r))++s.2.2.2.1)
   (λs=>s.1<s.2.1/\s.2.1<=l.length/\s.2.2.1.length=l.length/\s.2.2.1.take s.1=(l.take s.2.1).filter (λx => !d x)/\s.2.2.1.drop s.2.1=l.drop s.2.1) (λs=>l.length - s.2.1) (i,i+1,l,[],[]) ⟨by dsimp only;omega,by dsimp only;omega,rfl, ?_,rfl⟩ ?_ ?_ ?_
  ·dsimp only
   rw[BD,hx,CY]
   have h1:(l.take i).filter (λx => !d x)=l.take i:=DP.2 λz hz=>by rw[hpre z hz];rfl
   rw[h1]
   simp[hdx]
  ·rfl
  ·dsimp only
   rw[hset,Af]
  ·rintro ⟨i,j,row,J,rest⟩ ⟨hij,hj,hrl,htk,hdr⟩
   dsimp only at hij hj hrl htk hdr ⊢
   have hoL:=(AC.1 ho).1
   have fO:∀c z,(H.set o c++z)[o]? =some c:=λc z=>FY (Ib hoL c) z
   have fW:∀c z c',(H.set o c++z).set o c'=H.set o c'++z:=λc z c'=>by rw[BN _ _ (by simpa using hoL),BB]
   by_cases hlt:j<l.length
   ·have hy:=AH hlt
    have hry:row[j]? =some l[j]:=by
     have:=congrArg (·[0]?) hdr
     simpa [hy]using this
    have j0:(0:Int)<=(j:Int):=FR
    have j1:(j:Int)<(l.length:Int):=FR
    have k0:(0:Int)<=(i:Int):=FR
    have k1:(i:Int)<(l.length:Int):=FR
    have hwj:=Mg (k:=j) FR
    have hwi:=Mg (k:=i) FR
    have g1:=i_ r hry
    rw[AF]at g1
    have g2:=WQ row r j _ hry
    have fS:∀c z y,(H.set o c++(J++[z])).set (H.length+J.length) y=H.set o c++(J++[y]):=λc z y=>by
     rw[<- AE,<- AE]
     simp
    have fL:∀c y,(H.set o c++(J++[y]))[H.length+J.length]? =some y:=λc y=>by
     rw[<- AE]
     have:H.length+J.length=(H.set o c++J).length:=sm
     rw[this];exact Bg
    have c2:=hd _ (AB hy) (GG row++r) (J++[some (Head.c l[j])])
    have hfil:(l.take (j+1)).filter (λx => !d x)=(l.take j).filter (λx => !d x)++(if d l[j]=true then[]else[l[j]]):=by
     rw[BD,hy,CY]
     congr 1
     cases hd2:d l[j]<;>simp[hd2]
    have hc1:(Head.c l[j]).length=10:=rfl
    have hc2:(Head.c l[j]).take 10=Head.c l[j]:=rfl
    cases hdy:d l[j]with
    | false =>
     rw[hdy]at c2
     simp only[go_sem,j0,j1,dT,fO,g1,g2,fS,fL,hc1,hc2,AE,AF,Ao]
     repeat' (first|(refine aS (c2) ?_;simp only[go_sem,k0,k1,fO,fL,fW,hwi,hwj,hc1,hc2,AF])|apply cg<;>intro hc<;>simp only[go_sem,hc,j0,j1,k0,k1,dT,fO,g1,g2,fS,fL,fW,hwi,hwj,hc1,hc2,AE,AF,Ao])
     have k2:i*10+10<=(GG row).length+r.length:=by rw[Jk];omega
     rw[iP k2,Zp r FR]
     refine⟨(i+1,j+1,row.set i l[j],J++[some (Head.c l[j])],[]),⟨by dsimp only;omega,by dsimp only;omega,by simpa using hrl, ?_, ?_⟩,by dsimp only;omega,rfl,rfl⟩
     ·dsimp only
      rw[hfil,hdy,iN dc,<- htk,QD row i l[j] FR]
     ·dsimp only
      rw[List.drop_set_of_lt FR,<- A9,hdr,A9]
    | true =>
     rw[hdy]at c2
     simp only[go_sem,j0,j1,dT,fO,g1,g2,fS,fL,hc1,hc2,AE,AF,Ao]
     repeat' (first|(refine aS (c2) ?_;simp only[go_sem,hwj])|apply cg<;>intro hc<;>simp only[go_sem,hc,j0,j1,k0,k1,dT,fO,g1,g2,fS,fL,fW,hwi,hwj,hc1,hc2,AE,AF,Ao])
     refine⟨(i,j+1,row,J++[some (Head.c l[j])],[]),⟨by dsimp only;omega,by dsimp only;omega,hrl, ?_, ?_⟩,by dsimp only;omega,rfl,rfl⟩
     ·dsimp only
      rw[hfil,hdy,iP rfl,Af,htk]
     ·dsimp only
      rw[<- A9,hdr,A9]
   ·have hjl:j=l.length:=FR
    subst hjl
    simp only[go_sem,AQ,dF]
    refine⟨⟨FR,FR,FR⟩, ?_⟩
    simp only[go_sem,AFn,fO,fW,AF]
    rw[List.take_length]at htk
    have hkl:(l.filter λx => !d x).length=i:=by rw[<- htk,List.length_take];omega
    refine⟨FR,by rw[Jk];omega,⟨FR,FR,.inl trivial⟩,Gb (AV.agg Head.z.c) (l.length - i)++(GG row++r).drop (i*10+(Gb (AV.agg Head.z.c) (l.length - i)).length),J,by rw[hkl];rfl, ?_⟩
    unfold splice
    rw[Q8 row r i FR,htk,AE]
def rK{P:Program}{f:FuncId}{vs:List AV}{d:Option Tmp}{K:Kt}{e:Fs}{H:cj}{v:AV}(hc:PP P f vs H v)(hk:K (put d v e) H):pY P f vs d K e H:=⟨v,.inl hc,hk⟩
def gT(l:List Fld)(t:Int)(ot ow ol o:Nat)(H:cj):Prop :=
 H[ot]? =some (some [.int .i64 t])/\H[ow]? =some (some [.ptr o 0])/\(∃w,H[ol]? =some (some [.sl w (GL l)])) /\
  H[o]? =some (some [.fn (.func 139) [] [.ptr ot 0,.ptr ow 0,.ptr ol 0],.fn (.func 145) [] [.ptr ow 0,.ptr ol 0]])
@[go_sem] def AWw(t:Tmp)(zs:List (Tmp×Option Nat×Bool))(Q:Exit->Kt)(e:Fs)(H:cj):AFX none t zs Q e H=T_ zs Q e H:=Eq.trans rfl rfl
@[go_sem] def AHR(a b c k:Nat):borrow0 (.msl a b c k) = .msl a b c k:=rfl
def Fa.res{P:Program}{f:FuncId}{vs:List AV}{H:cj}{R:AV->cj->Prop}(h:Fa P f vs H R):Fa P f vs H λv H' => ∃v0,R v0 H'/\v=v0.borrow :=
 ⟨h.1,λF G w us hc=>Calls.mono (h.2 F G w us hc) λe w' he=>by
  obtain⟨u,rfl,v,H',G',h1,h2,h3⟩:=he
  exact⟨u,rfl,v.borrow,H',G',⟨v,h1,rfl⟩,h2.borrowArgs,h3⟩⟩
def Oh(a b:List Ey)(hl:a.length+b.length<=1048576)(w:Option Nat)(H:cj):Fa AA 149 [.sl w (F2 a),.sl none (F2 b)] H λv H'=>SX ((H7 a b).map Head.c) v H H'/\v.borrow=v :=
 (Fa.res (Fa.weak (vs:=[.sl w (F2 a),.sl none (F2 b)]) (VL a b hl H))).mono λv H' h=>by
  obtain⟨v0,h1,rfl⟩:=h
  refine⟨?_,Tn v0⟩
  rcases h1 with⟨e,⟨w,rfl⟩,h⟩|⟨ob,cs,rfl,h⟩
  ·exact .inl ⟨e,⟨none,rfl⟩,h⟩
  ·exact .inr ⟨ob,cs,rfl,h⟩
def Sj(b:Bool)(H:cj):Fa AA 148 [.sl none [],.bool b] H λv H'=>H'=H/\v = .tup [.sl none [],.bool b] :=
 (Fa.res (AAM none b H)).mono λv H' h=>by
  obtain⟨v0,⟨rfl,w,rfl⟩,rfl⟩:=h
  exact⟨rfl,rfl⟩
def Si(o n:Nat)(b:Bool)(H:cj):Fa AA 148 [.msl o 0 n 10,.bool b] H λv H'=>H'=H/\((b=true/\n<=256/\v = .tup [.msl o 0 n 10,.bool true])\/((b=false\/256<n)/\v = .tup [.sl none [],.bool false])) :=
 (Fa.res (AAL o n b H)).mono λv H' h=>by
  obtain⟨v0,⟨rfl,h⟩,rfl⟩:=h
  rcases h with⟨h1,h2,rfl⟩|⟨h1,w,rfl⟩
  ·exact⟨rfl,.inl ⟨h1,h2,rfl⟩⟩
  ·exact⟨rfl,.inr ⟨h1,rfl⟩⟩
def AIR{f:AV->AV}{c:List AV}{a:AV}(h:c.map f=[a].map f): ∃x,c=[x]/\f x=f a:=by
 match c,h with
 |[],h=>cases h
 |[x],h=>exact⟨x,rfl,(List.cons.inj h).1⟩
 |_::_::_,h=>exact absurd (congrArg List.length h) sm
def Af'{f:AV->AV}{c:List AV}{a b:AV}(h:c.map f=[a,b].map f): ∃x y,c=[x,y]/\f x=f a/\f y=f b:=by
 match c,h with
 |[],h=>cases h
 |[x],h=>exact absurd (congrArg List.length h) sm
 |[x,y],h=>exact⟨x,y,rfl,(List.cons.inj h).1,(List.cons.inj (List.cons.inj h).2).1⟩
 |_::_::_::_,h=>exact absurd (congrArg List.length h) sm
section
variable{l:List Fld}{t:Int}{ot ow ol o:Nat}
def gT.grow{H:cj}(h:gT l t ot ow ol o H)(z:cj):gT l t ot ow ol o (H++z) :=
 let⟨h1,h2,⟨w,h3⟩,h4⟩:=h;⟨FY h1 z,FY h2 z,⟨w,FY h3 z⟩,FY h4 z⟩
def N4{x a:AV}(h:borrow1 x=borrow1 a)(ha:∀w es,a ≠ .sl w es):x=a:=by
 cases x<;>cases a<;>first|(exact h)|(exact absurd rfl (ha _ _))|(cases h)
def gT.view{H H2:cj}(hv:Gv H2=Gv H)(h:gT l t ot ow ol o H):gT l t ot ow ol o H2:=by
 obtain⟨h1,h2,⟨w,h3⟩,h4⟩:=h
 obtain⟨c1,g1,e1⟩:=Ke hv h1
 obtain⟨c2,g2,e2⟩:=Ke hv h2
 obtain⟨c3,g3,e3⟩:=Ke hv h3
 obtain⟨c4,g4,e4⟩:=Ke hv h4
 refine⟨?_, ?_, ?_, ?_⟩
 ·obtain⟨x,rfl,hx⟩:=AIR e1
  rw[g1,N4 hx (by intro w es h;cases h)]
 ·obtain⟨x,rfl,hx⟩:=AIR e2
  rw[g2,N4 hx (by intro w es h;cases h)]
 ·obtain⟨x,rfl,hx⟩:=AIR e3
  cases x<;>first|(cases hx;done)|skip
  rename_i w' es
  have:es=GL l:=by
   have h5:AV.sl none es=AV.sl none (GL l):=hx
   cases h5;rfl
  subst this
  exact⟨w',g3⟩
 ·obtain⟨x,y,rfl,hx,hy⟩:=Af' e4
  rw[g4,N4 hx (by intro w es h;cases h),N4 hy (by intro w es h;cases h)]
end
def gvs(l:List Fld)(t:Int)(ot ow ol o:Nat)(p:Ez)(F:Ey->Option (List Ey)):Prop :=
 ∀h,FZ h=true -> ∀H,gT l t ot ow ol o H->GM AA 145 [.agg p.c,.agg h.c,.ptr ow 0,.ptr ol 0] H (Nj (F h))
def SX.base{es:List (List AV)}{v:AV}{B e X:cj}(h:SX es v (B++e) X):SX es v B X:=by
 rcases h with⟨h1,h2,ext,rfl⟩|⟨ob,cs,h1,h2,⟨ext,rfl⟩,h4,h5⟩
 ·exact .inl ⟨h1,h2,e++ext,by rw[AE]⟩
 ·exact .inr ⟨ob,cs,h1,by rw[AF]at h2;omega,⟨e++ext,by rw[AE]⟩,h4,h5⟩
def SX.ext{es:List (List AV)}{v:AV}{B X:cj}(h:SX es v B X): ∃ext,X=B++ext:=by
 rcases h with⟨_,_,h⟩|⟨_,_,_,_,h,_⟩<;>exact h
def AEd(o:Option (List Ey)):Nj o = .tup [.sl none (F2 (o.getD [])),.bool o.isSome]:=by cases o<;>rfl
def Tm(l:List Ey)(r:List AV):Ho true 10 l.length ((GG l++r).map borrow1)=F2 l:=by
 rw[Aq,WR]
 have:=Ko (l.map Head.c) (r.map borrow1) 10 Qy
 rw[Ap]at this
 rw[<- O0]
 exact this
def nJ(F:Ey->Option (List Ey))(out:List Ey)(y:Ey)(ys:List Ey)(hs:LW out)(hg:∀r,F y=some r->LW r):
  JT F out (y::ys)=if(F y).isSome=true/\(H7 out ((F y).getD [])).length<=256 then JT F (H7 out ((F y).getD [])) ys else none:=by
 rw[JT]
 cases h:F y with
 |none=>rw[iN sm]
 |some a =>
  have e:=Pc hs (hg a h)
  simp only[Option.isSome_some,Option.getD_some,true_and,e]
  by_cases hl:256<(Gt out a).length
  ·rw[iP hl,iN FR]
  ·rw[iN hl,iP FR]
def VI(l : List Fld)(t : Int)(ot ow ol o : Nat)(p : Ez)(F : Ey -> Option (List Ey))(hF : gvs l t ot ow ol o p F)(hg : ∀ h r, FZ h = true -> F h = some r -> JD r)(xs : List Ey)(hx : ∀ z ∈ xs, FZ z = true)(hl : xs.length <= 1048576)(H : cj)(hW : gT l t ot ow ol o H):
    Fa AA 150 [.ptr o 0,.agg p.c,.sl none (F2 xs)] H λv H'=>(JT F [] xs=none/\(∃w,v = .tup [.sl w [],.bool false]) /\ ∃ext,H'=H++ext) \/ ∃r v0,JT F [] xs=some r/\v = .tup [v0,.bool true]/\SX (r.map Head.c) v0 H H' := by
  refine aC ARV rfl ?_
  simp only[f150,go_sem]
  refine Fg xs (λ(s:List Ey×AV×cj×Fs) r=>JT F s.1 r) (λ_ s=>JD s.1/\SX (s.1.map Head.c) s.2.1 (H++[some p.c]) s.2.2.1) (λk s=>(0,.ptr o 0)::(4,.ptr H.length 0)::(8,s.2.1)::(9,.bool true)::(14,.sl none (F2 xs))::(15,.int .i64 xs.length)::(16,.int .i64 k)::s.2.2.2) (λk s=>s.2.2.1) ([],.sl (some 10) [],H++[some p.c],[]) FR ⟨Lp,.inl ⟨rfl,⟨_,rfl⟩,[],(Af _).symm⟩⟩ rfl rfl ?_ ?_
  · rintro k ⟨out,ov,X,rest⟩ y ys hd hx' ⟨go,hrow⟩ hI h0 h1 hw
    dsimp only at go hrow hI ⊢
    have hr := hx y (AB hx')
    obtain⟨ext0,hX0⟩ := hrow.ext
    have hWX:gT l t ot ow ol o X := by rw[hX0,AE];exact hW.grow _
    have hpX:X[H.length]? =some (some p.c) := by
      rw[hX0,AE,AN (AT _),AP];rfl
    have eP:∀z,(X++z)[H.length]? =some (some p.c) := FY hpX
    have eW:∀z,(X++z)[o]? =some (some [.fn (.func 139) [] [.ptr ot 0,.ptr ow 0,.ptr ol 0],.fn (.func 145) [] [.ptr ow 0,.ptr ol 0]]) := FY hWX.2.2.2
    have hc:∀z,PP AA 145 [.agg p.c,.agg y.c,.ptr ow 0,.ptr ol 0] (X++z) (Nj (F y)) := λz H2 hv=>hF y hr H2 ((hWX.grow z).view hv)
    rw[AEd]at hc
    have hst := nJ F out y ys go.1 (λr h=>(hg y r hr h).1)
    have ga:JD ((F y).getD []) := by
      cases h:F y with
      |none=>exact Lp
      |some a=>exact hg y a hr h
    generalize hA:(F y).getD []=a at hc hst ga
    generalize hB:(F y).isSome=b at hc hst
    have hml := On (out.length+a.length+1) out a
    have hll:out.length+a.length<=1048576 := by have := go.2.1;have := ga.2.1;omega
    rcases hrow with⟨e0,⟨w,rfl⟩,_⟩|⟨ob,cs,rfl,hob,_,hcs,r,rfl⟩
    · have e0:out=[] := by simpa using e0
      subst e0
      have hX2:∃e2,X++[some y.c]=(H++[some p.c])++e2 := ⟨ext0++[some y.c],by rw[hX0,AE]⟩
      cases w with
      | none =>
        simp only[go_sem,h0,h1,Hs hx',eP,eW]
        repeat' (first|(refine rK (hc _) ?_;simp only[go_sem])|apply cg<;>intro hc<;>simp only[go_sem,hc,h0,h1,hw,Hs hx',eP,eW])
        refine Fu.intro (Oh [] a hll _ _) λv X3 hr3=>?_
        obtain⟨e2,hX2⟩ := hX2
        obtain⟨hr3,hbw⟩ := hr3
        rw[hX2]at hr3
        have hrb := hr3.base
        have hex := hrb.ext
        have hgm:b=true->(H7 ([]:List Ey) a).length<=256->JD (H7 ([]:List Ey) a) := λ_ hle=>by
          have e := Pc go.1 ga.1
          rw[e]at hle ⊢
          exact Iu go ga.2.2 FR
        rcases hr3 with⟨e3,⟨w3,rfl⟩,_⟩|⟨ob3,cs3,rfl,hob3,_,hcs3,r3,rfl⟩
        · have hw3:w3=none := by cases w3 with
            |none=>rfl
            |some w3=>cases hbw
          subst hw3
          simp only[go_sem]
          refine Fu.intro (Sj b _) λv4 X4 hr4=>?_
          obtain⟨rfl,rfl⟩ := hr4
          have e3 := DQ.1 e3
          have hle3:(H7 ([]:List Ey) a).length<=256 := by rw[e3];simp
          cases b with
          | true =>
            rw[iP ⟨rfl,hle3⟩]at hst
            simp only[go_sem,hw]
            exact⟨(H7 ([]:List Ey) a,_,_,[]),hst,⟨hgm rfl hle3,hrb⟩,rfl,rfl⟩
          | false =>
            rw[iN sm]at hst
            simp only[go_sem]
            exact .inl ⟨hI.trans hst,⟨_,rfl⟩,by obtain⟨ext,he⟩ := hex;exact⟨_,by rw[he,AE]⟩⟩
        · simp only [go_sem,Ap]
          refine Fu.intro (Si ob3 _ b _) λv4 X4 hr4=>?_
          obtain⟨rfl,hr4⟩ := hr4
          rw[Ap]at hrb
          rcases hr4 with⟨rfl,hle,rfl⟩|⟨hno,rfl⟩
          · rw [iP ⟨rfl,hle⟩] at hst
            simp only[go_sem,hw]
            exact⟨(H7 ([]:List Ey) a,_,_,[]),hst,⟨hgm rfl hle,hrb⟩,rfl,rfl⟩
          · rw [iN (by rintro ⟨g1, g2⟩; rcases hno with hno|hno;(rw [g1] at hno;cases hno);omega)] at hst
            simp only[go_sem]
            exact .inl ⟨hI.trans hst,⟨_,rfl⟩,by obtain⟨ext,he⟩ := hex;exact⟨_,by rw[he,AE]⟩⟩
      | some w =>
        simp only[go_sem,h0,h1,Hs hx',eP,eW]
        repeat' (first|(refine rK (hc _) ?_;simp only[go_sem])|apply cg<;>intro hc<;>simp only[go_sem,hc,h0,h1,hw,Hs hx',eP,eW])
        refine Fu.intro (Oh [] a hll (some w) _) λv X3 hr3=>?_
        obtain⟨e2,hX2⟩ := hX2
        obtain⟨hr3,hbw⟩ := hr3
        rw[hX2]at hr3
        have hrb := hr3.base
        have hex := hrb.ext
        have hgm:b=true->(H7 ([]:List Ey) a).length<=256->JD (H7 ([]:List Ey) a) := λ_ hle=>by
          have e := Pc go.1 ga.1
          rw[e]at hle ⊢
          exact Iu go ga.2.2 FR
        rcases hr3 with⟨e3,⟨w3,rfl⟩,_⟩|⟨ob3,cs3,rfl,hob3,_,hcs3,r3,rfl⟩
        · have hw3:w3=none := by cases w3 with
            |none=>rfl
            |some w3=>cases hbw
          subst hw3
          simp only[go_sem]
          refine Fu.intro (Sj b _) λv4 X4 hr4=>?_
          obtain⟨rfl,rfl⟩ := hr4
          have e3 := DQ.1 e3
          have hle3:(H7 ([]:List Ey) a).length<=256 := by rw[e3];simp
          cases b with
          | true =>
            rw[iP ⟨rfl,hle3⟩]at hst
            simp only[go_sem,hw]
            exact⟨(H7 ([]:List Ey) a,_,_,[]),hst,⟨hgm rfl hle3,hrb⟩,rfl,rfl⟩
          | false =>
            rw[iN sm]at hst
            simp only[go_sem]
            exact .inl ⟨hI.trans hst,⟨_,rfl⟩,by obtain⟨ext,he⟩ := hex;exact⟨_,by rw[he,AE]⟩⟩
        · simp only [go_sem,Ap]
          refine Fu.intro (Si ob3 _ b _) λv4 X4 hr4=>?_
          obtain⟨rfl,hr4⟩ := hr4
          rw[Ap]at hrb
          rcases hr4 with⟨rfl,hle,rfl⟩|⟨hno,rfl⟩
          · rw [iP ⟨rfl,hle⟩] at hst
            simp only[go_sem,hw]
            exact⟨(H7 ([]:List Ey) a,_,_,[]),hst,⟨hgm rfl hle,hrb⟩,rfl,rfl⟩
          · rw [iN (by rintro ⟨g1, g2⟩; rcases hno with hno|hno;(rw [g1] at hno;cases hno);omega)] at hst
            simp only[go_sem]
            exact .inl ⟨hI.trans hst,⟨_,rfl⟩,by obtain⟨ext,he⟩ := hex;exact⟨_,by rw[he,AE]⟩⟩
    · have hcs' : ∀ z,(X++z)[ob]? =some (some (GG out++r)) := FY hcs
      have hle:(GG out++r).length≥out.length*10 := by rw[AF,Jk];omega
      have hle2:out.length*10<=(GG out++r).length := hle
      have hch := Tm out r
      have hX2:∃e2,(X++[some y.c]).set ob none=(H++[some p.c])++e2 := by
        rw[hX0,AE,ak hob]
        exact⟨_,rfl⟩
      simp only[go_sem,h0,h1,Hs hx',eP,eW,Ap]
      repeat' (first|(refine rK (hc _) ?_;simp only[go_sem,hcs',hle2,hch])|apply cg<;>intro hc<;>simp only[go_sem,hc,h0,h1,hw,Hs hx',eP,eW,Ap,hcs',hle2,hch])
      refine Fu.intro (Oh out a hll _ _) λv X3 hr3=>?_
      obtain⟨e2,hX2⟩ := hX2
      obtain⟨hr3,hbw⟩ := hr3
      rw[hX2]at hr3
      have hrb := hr3.base
      have hex := hrb.ext
      have hgm:b=true->(H7 out a).length<=256->JD (H7 out a) := λ_ hle=>by
        have e := Pc go.1 ga.1
        rw[e]at hle ⊢
        exact Iu go ga.2.2 FR
      rcases hr3 with⟨e3,⟨w3,rfl⟩,_⟩|⟨ob3,cs3,rfl,hob3,_,hcs3,r3,rfl⟩
      · have hw3:w3=none := by cases w3 with
          |none=>rfl
          |some w3=>cases hbw
        subst hw3
        simp only[go_sem]
        refine Fu.intro (Sj b _) λv4 X4 hr4=>?_
        obtain⟨rfl,rfl⟩ := hr4
        have e3 := DQ.1 e3
        have hle3:(H7 out a).length<=256 := by rw[e3];simp
        cases b with
        | true =>
          rw[iP ⟨rfl,hle3⟩]at hst
          simp only[go_sem,hw]
          exact⟨(H7 out a,_,_,[]),hst,⟨hgm rfl hle3,hrb⟩,rfl,rfl⟩
        | false =>
          rw[iN sm]at hst
          simp only[go_sem]
          exact .inl ⟨hI.trans hst,⟨_,rfl⟩,by obtain⟨ext,he⟩ := hex;exact⟨_,by rw[he,AE]⟩⟩
      · simp only [go_sem,Ap]
        refine Fu.intro (Si ob3 _ b _) λv4 X4 hr4=>?_
        obtain⟨rfl,hr4⟩ := hr4
        rw[Ap]at hrb
        rcases hr4 with⟨rfl,hle,rfl⟩|⟨hno,rfl⟩
        · rw [iP ⟨rfl,hle⟩] at hst
          simp only[go_sem,hw]
          exact⟨(H7 out a,_,_,[]),hst,⟨hgm rfl hle,hrb⟩,rfl,rfl⟩
        · rw [iN (by rintro ⟨g1, g2⟩; rcases hno with hno|hno;(rw [g1] at hno;cases hno);omega)] at hst
          simp only[go_sem]
          exact .inl ⟨hI.trans hst,⟨_,rfl⟩,by obtain⟨ext,he⟩ := hex;exact⟨_,by rw[he,AE]⟩⟩
  · rintro ⟨out,ov,X,rest⟩ ⟨go,hrow⟩ hI
    dsimp only at go hrow hI ⊢
    have hfin:SX (out.map Head.c) ov H X := hrow.base
    rcases hrow with⟨e0,⟨w,rfl⟩,_⟩|⟨ob,cs,rfl,hob,_,hcs,r,rfl⟩
    · cases w with
      | none =>
        simp only[go_sem,AQ,dF]
        exact .inr ⟨out,_,by rw[hI];rfl,rfl,hfin⟩
      | some w =>
        simp only[go_sem,AQ,dF]
        exact .inr ⟨out,_,by rw[hI];rfl,rfl,hfin⟩
    · simp only [go_sem,AQ,dF]
      exact .inr ⟨out,_,by rw[hI];rfl,rfl,hfin⟩
end Go.AI
namespace Go.AI
open Go.Proofs
set_option maxRecDepth 50000
def eY(l:List Fld)(t:Int)(ot ow ol o:Nat)(p:Ez)(F:Ey->Option (List Ey))(hF:gvs l t ot ow ol o p F)(hg:∀h r,FZ h=true->F h=some r->JD r)(xs:List Ey)(hx:∀z∈xs,FZ z=true)(hl:xs.length<=1048576)(H:cj)(hW:gT l t ot ow ol o H):
  Fa AA 150 [.ptr o 0,.agg p.c,.sl none (F2 xs)] H λv H'=>(JT F [] xs=none/\v = .tup [.sl none [],.bool false] /\ ∃ext,H'=H++ext) \/ ∃r v0,JT F [] xs=some r/\v = .tup [v0,.bool true]/\SX (r.map Head.c) v0 H H'/\v0.borrow=v0 :=
 (Fa.res (VI l t ot ow ol o p F hF hg xs hx hl H hW)).mono λv H' h=>by
  obtain⟨v1,h1,rfl⟩:=h
  rcases h1 with⟨h1,⟨w,rfl⟩,h2⟩|⟨r,v0,h1,rfl,h2⟩
  ·exact .inl ⟨h1,rfl,h2⟩
  ·rcases h2 with⟨e,⟨w,rfl⟩,h⟩|⟨ob,cs,rfl,h⟩
   ·exact .inr ⟨r,.sl none [],h1,rfl,.inl ⟨e,⟨none,rfl⟩,h⟩,rfl⟩
   ·exact .inr ⟨r,_,h1,rfl,.inr ⟨ob,cs,rfl,h⟩,rfl⟩
def AEr(l:List Fld)(t:Int)(ot ow ol o:Nat)(p:Ez)(F:Ey->Option (List Ey))(hF:gvs l t ot ow ol o p F)(hg : ∀ h r,FZ h=true->F h=some r->JD r)(xs:List Ey)(hx : ∀ z∈xs,FZ z=true)(hl:xs.length<=1048576)(H:cj)(hW:gT l t ot ow ol o H):
  GM AA 150 [.ptr o 0,.agg p.c,.sl none (F2 xs)] H (Nj (JT F [] xs)):=by
 have h:=VI l t ot ow ol o p F hF hg xs hx hl H hW
 cases e:JT F [] xs with
 | none =>
  have:=W_ (es:=[]) (b:=false) sm sm  sm (h.mono λv H' hr=>by
   rcases hr with⟨_,⟨w,rfl⟩,he⟩|⟨r,v0,h1,_⟩
   ·exact⟨_,rfl,.inl ⟨rfl,⟨w,rfl⟩,he⟩⟩
   ·rw[e]at h1;cases h1)
  exact this
 | some r =>
  have:=W_ (es:=r.map Head.c) (b:=true) Qy Nv gf (h.mono λv H' hr=>by
   rcases hr with⟨h1,_⟩|⟨r',v0,h1,rfl,h2⟩
   ·rw[e]at h1;cases h1
   ·rw[e]at h1;cases h1
    exact⟨v0,rfl,h2⟩)
  rw[O0]at this
  exact this
def QI(H:cj)(f:Nat)(first cap:List AV):Fa AA 214 [.sl none [],.fn (.func f) first cap] H λv H'=>H'=H/\v = .sl none [] :=
 (Fa.res (Z4 none H f first cap)).mono λv H' h=>by
  obtain⟨v0,⟨rfl,w,rfl⟩,rfl⟩:=h
  exact⟨rfl,rfl⟩
def nw(F:Ey->Option (List Ey)):Nat->List Ey->List Ey->Nat->Nat
 | 0,_,_,j=>j
 |k+1,o,n,j=>match JT F [] n with
  |none=>0
  |some m=>if IZ o m=[]then j else nw F k (Gt o (IZ o m)) (IZ o m) (j+1)
def AEc:Option (List Ey)->Nat->AV
 |some r,n => .tup [.sl none (F2 r),.int .i64 n,.bool true]
 |none,_ => .tup [.sl none [],.int .i64 0,.bool false]
def AA2{o n:List Ey}(h:LW n):LW (IZ o n):=List.Pairwise.filter _ h
def WA{H Y:cj}(h:∃e,Y=H++e)(i:Nat)(hi:H.length<=i)(c:Option (List AV)): ∃e,Y.set i c=H++e:=by
 obtain⟨e,rfl⟩:=h
 exact⟨_,BV _ _ hi⟩
def AEm(l:List Fld)(t:Int)(ot ow ol o:Nat)(p:Ez)(F:Ey->Option (List Ey))(hF:gvs l t ot ow ol o p F)(hg : ∀ h r,FZ h=true->F h=some r->JD r)(h:Ey)(hr:FZ h=true)(H:cj)(hW:gT l t ot ow ol o H):
  Fa AA 151 [.ptr o 0,.agg p.c,.agg h.c] H λv H'=>v.borrow=AEc (LE F 300 [h] [h]) (nw F 300 [h] [h] 0) /\ ∃ext,H'=H++ext:=by
 refine aC ARP rfl ?_
 have q0:∀(a b c:Option (List AV)) z,(H++(a::b::c::z))[H.length]? =some a:=λa b c z=>by rw[AN (AT _),AP];rfl
 have q1:∀(a b c:Option (List AV)) z,(H++(a::b::c::z))[H.length+1]? =some b:=λa b c z=>by rw[AN FR,A4];rfl
 have q2:∀(a b c:Option (List AV)) z,(H++(a::b::c::z))[H.length+2]? =some c:=λa b c z=>by rw[AN FR,A4];rfl
 have q3:∀(a b:Option (List AV)),(H++[a,b])[H.length+1]? =some b:=λa b=>by rw[AN FR,A4];rfl
 have q4:∀(a b c d:Option (List AV)),(H++[a,b,c]).set (H.length+2) d=H++[a,b,d]:=λa b c d=>by rw[BV _ _ FR,A4];rfl
 simp only[f151,go_sem,q2,q3,q4,AF,AE,AW,AR,AD,AJ,Nat.reduceAdd]
 refine Ku (σ:=Nat×List Ey×List Ey×cj×Fs) (λs=>(0,.ptr o 0)::(4,.ptr H.length 0)::(9,.ptr (H.length+2) 0)::(10,.int .i64 s.1)::(11,.sl none (F2 s.2.2.1))::s.2.2.2.2) (λs=>s.2.2.2.1)
  (λs=>JD s.2.1/\(∀z∈s.2.2.1,FZ z=true)/\s.2.2.1.length<=256/\s.2.2.1≠[]/\s.1+1<=s.2.1.length/\H.length+3<=s.2.2.2.1.length/\(∃ext,s.2.2.2.1=H++ext)/\s.2.2.2.1[H.length]? =some (some p.c)/\(∃w,s.2.2.2.1[H.length+2]? =some (some [.sl w (F2 s.2.1)])) /\
   LE F 300 [h] [h]=LE F (300 - s.1) s.2.1 s.2.2.1/\nw F 300 [h] [h] 0=nw F (300 - s.1) s.2.1 s.2.2.1 s.1)
  (λs=>300 - s.1) (0,[h],[h],_,[]) ⟨Pl hr,by simpa using hr,sm,sm,sm,sm,⟨_,rfl⟩,q0 _ _ _ _,⟨_,q2 _ _ _ _⟩,rfl,rfl⟩ rfl rfl ?_
 rintro ⟨j,all,last,X,rest⟩ ⟨go,gl,hll,hne,hj,hX3,⟨ext,hXe⟩,hp0,⟨w,hc0⟩,hG,hJ⟩
 dsimp only at go gl hll hne hj hX3 hXe hp0 hc0 hG hJ ⊢
 generalize LE F 300 [h] [h]=R at hG ⊢
 generalize nw F 300 [h] [h] 0=N at hJ ⊢
 have hal:=go.2.1
 obtain⟨k,hk⟩:∃k,300 - j=k+1:=⟨299 - j,FR⟩
 have ACR:300 - (j+1)=k:=FR
 rw[hk,LE,iN hne]at hG
 rw[hk,nw]at hJ
 have hWX:gT l t ot ow ol o X:=by rw[hXe];exact hW.grow _
 have c1:=eY l t ot ow ol o p F hF hg last gl FR X hWX
 simp only[go_sem,hp0]
 refine Fu.intro c1 λv X1 hr1=>?_
 rcases hr1 with⟨hn,rfl,ext1,rfl⟩|⟨m,v0,hm,rfl,hrow,hbw⟩
 ·rw[hn]at hG hJ
  have hc1:∀z,(X++z)[H.length+2]? =some (some [.sl w (F2 all)]):=FY hc0
  have s1:∀z c,(X++z).set (H.length+2) c=X.set (H.length+2) c++z:=λz c=>BN _ _ FR
  have c3:=Nm all [] Hy (X++ext1)
  have c4:=L1 (H7 all []) false
  rw[iN dc,show Nj none = .tup [.sl none [],.bool false]from rfl]at c4
  have hfe:=WA (H:=H) (Y:=X++ext1) ⟨ext++ext1,by rw[hXe,AE]⟩ (H.length+2) FR
  simp only[go_sem]
  refine Fu.intro (QI _ _ _ _) λv X2 hr2=>?_
  obtain⟨rfl,rfl⟩:=hr2
  simp only[go_sem,hc1]
  repeat' (first|((first|refine aS (c3) ?_|refine aP (c4) ?_);simp only[go_sem,hc1])|apply cg<;>intro hc<;>simp only[go_sem,hc,hc1])
  exact⟨by rw[hG];rfl,hfe _⟩
 ·have gm:=Pm hg last [] m Lp gl hm
  rw[hm]at hG hJ
  dsimp only at hG hJ
  obtain⟨ext1,hX1⟩:=hrow.ext
  have hc1:X1[H.length+2]? =some (some [.sl w (F2 all)]):=by rw[hX1];exact FY hc0 _
  have hp1:X1[H.length]? =some (some p.c):=by rw[hX1];exact FY hp0 _
  rcases hrow with⟨e0,⟨w3,rfl⟩,_⟩|⟨ob,cs,rfl,hob,_,hcs,r,rfl⟩
  ·have hw3:w3=none:=by cases w3 with
    |none=>rfl
    |some w3=>cases hbw
   subst hw3
   have e0:m=[]:=DQ.1 e0
   subst e0
   have hn0:IZ all []=[]:=rfl
   rw[hn0]at hG hJ
   rw[iP rfl]at hJ
   have hme:Gt all []=all:=rfl
   rw[hme,iN FR]at hG
   have hG2:R=some all:=by
    rw[hG]
    obtain⟨k',rfl⟩:∃k',k=k'+1:=⟨k - 1,FR⟩
    rw[LE,iP rfl]
   have hfe:=WA (H:=H) (Y:=X1) ⟨ext++ext1,by rw[hX1,hXe,AE]⟩ (H.length+2) FR
   have hl1:H.length+2<X1.length:=(AC.1 hc1).1
   have fG:∀c,(X1.set (H.length+2) c)[H.length+2]? =some c:=λc=>Ib hl1 c
   simp only[go_sem]
   refine Fu.intro (QI _ _ _ _) λv X2 hr2=>?_
   obtain⟨rfl,rfl⟩:=hr2
   have c3:=Nm all [] Hy X2
   have c4:=L1 (H7 all []) true
   rw[ma]at c3 c4
   rw[iP rfl,WY,iN FR,show Nj (some all) = .tup [.sl none (F2 all),.bool true]from rfl]at c4
   have z2:(((0:Nat):Int)==(0:Int))=true:=rfl
   simp only[go_sem,hc1]
   repeat' (first|((first|refine aS (c3) ?_|refine aP (c4) ?_);simp only[go_sem,hc1,fG,z2])|apply cg<;>intro hc<;>simp only[go_sem,hc,hc1,fG,z2])
   all_goals first|(exact⟨by rw[hG2,hJ];rfl,hfe _⟩)|skip
  ·have hcs':X1[ob]? =some (some (GG m++r)):=hcs
   have hnob:ob≠H.length+2:=FR
   have hd:∀x∈m,∀c J,GM AA 215 (([]:List AV).map AV.borrow++(.agg (Head.c x)::([.ptr (H.length+2) 0]:List AV).map AV.borrow)) (X1.set ob (some c)++J) (.bool (all.any λy=>decide (y=x))):=λx _ c J =>
    AEn all go.1 FR x _ (H.length+2) w (FY (GC hc1 hnob _) J)
   have c2:=sb m (by have:=gm.2.1;omega) r X1 ob hcs' 215 [] [.ptr (H.length+2) 0] (λx=>all.any λy=>decide (y=x)) hd
   simp only[go_sem,Ap]
   refine Fu.intro c2 λv X2 hr2=>?_
   obtain⟨r',J,rfl,rfl⟩:=hr2
   have hkept:(m.filter λx => !(all.any λy=>decide (y=x)))=IZ all m:=rfl
   rw[hkept]
   have hob1:ob<X1.length:=(AC.1 hcs').1
   have hg1:(X1.set ob (some (GG (IZ all m)++r'))++J)[ob]? =some (some (GG (IZ all m)++r')):=FY (Ib hob1 _) J
   have hg2:(IZ all m).length*10<=(GG (IZ all m)++r').length:=by rw[AF,Jk];omega
   have hg3:=Tm (IZ all m) r'
   have hg4:(X1.set ob (some (GG (IZ all m)++r'))++J).set ob none=X1.set ob none++J:=by rw[BN _ _ (by simpa using hob1),BB]
   have gn:LW (IZ all m):=AA2 gm.1
   have hgnew:∀z∈IZ all m,FZ z=true:=λz hz=>gm.2.2 z (VT.1 hz).1
   have hnl:(IZ all m).length<=m.length:=AA3 all m
   have hml:=gm.2.1
   have hY2:(X1.set ob none++J)[H.length+2]? =some (some [.sl w (F2 all)]):=FY (GC hc1 hnob _) J
   have hY0:(X1.set ob none++J)[H.length]? =some (some p.c):=FY (GC hp1 FR _) J
   have hYe:∃e,X1.set ob none++J=H++e:=by
    rw[hX1,hXe,AE,ak (by (have:X.length=H.length+ext.length:=by rw[hXe,AF]);omega),AE]
    exact⟨_,rfl⟩
   have c3:=Nm all (IZ all m) FR (X1.set ob none++J)
   have c4:=L1 (H7 all (IZ all m)) true
   rw[Pc go.1 gn]at c3 c4
   generalize hY:X1.set ob none++J=Y at hg4 hY2 hY0 hYe c3
   have hYl:H.length+2<Y.length:=(AC.1 hY2).1
   have hfe:=WA (H:=H) (Y:=Y) hYe (H.length+2) FR
   have fG:∀c,(Y.set (H.length+2) c)[H.length+2]? =some c:=λc=>Ib hYl c
   by_cases hbig:256<(Gt all (IZ all m)).length
   ·rw[iP hbig]at hG
    rw[iP rfl,WY,iP hbig,show Nj none = .tup [.sl none [],.bool false]from rfl]at c4
    simp only[go_sem,hg1,hg2,hg3,hg4,hY2]
    repeat' (first|((first|refine aS (c3) ?_|refine aP (c4) ?_);simp only[go_sem,hY2])|apply cg<;>intro hc<;>simp only[go_sem,hc,hY2,fG])
    all_goals first|(exact⟨by rw[hG];rfl,hfe _⟩)|skip
   ·rw[iN hbig]at hG
    rw[iP rfl,WY,iN hbig,show ∀r,Nj (some r) = .tup [.sl none (F2 r),.bool true]from λ_=>rfl]at c4
    by_cases hn0:IZ all m=[]
    ·have hme:Gt all (IZ all m)=all:=by rw[hn0];rfl
     rw[iP hn0]at hJ
     have hG2:R=some (Gt all (IZ all m)):=by
      rw[hG,hn0]
      obtain⟨k',rfl⟩:∃k',k=k'+1:=⟨k - 1,FR⟩
      rw[LE,iP rfl]
     have z1:(((IZ all m).length:Int)==0)=true:=by rw[hn0];rfl
     simp only[go_sem,hg1,hg2,hg3,hg4,hY2]
     repeat' (first|((first|refine aS (c3) ?_|refine aP (c4) ?_);simp only[go_sem,hY2,fG,z1])|apply cg<;>intro hc<;>simp only[go_sem,hc,hY2,fG,z1])
     all_goals first|(exact⟨by rw[hG2,hJ];rfl,hfe _⟩)|skip
    ·rw[iN hn0]at hJ
     have hpos:0<(IZ all m).length:=List.length_pos_iff.2 hn0
     have hmn:=tE hn0
     have z1:(((IZ all m).length:Int)==0)=false:=by rw[beq_eq_false_iff_ne];omega
     have hwj:=Mg (k:=j) FR
     simp only[go_sem,hg1,hg2,hg3,hg4,hY2]
     repeat' (first|((first|refine aS (c3) ?_|refine aP (c4) ?_);simp only[go_sem,hY2,z1,hwj])|apply cg<;>intro hc<;>simp only[go_sem,hc,hY2,fG,z1,hwj])
     refine⟨(j+1,Gt all (IZ all m),IZ all m,_,[]),⟨Iu go hgnew hbig,hgnew,by dsimp only;omega,hn0,by dsimp only;omega,Hy,hfe _,GC hY0 FR _,⟨none,fG _⟩,by dsimp only;rw[ACR];exact hG,by dsimp only;rw[ACR];exact hJ⟩,by dsimp only;omega,rfl,rfl⟩
def AIC(l:List Fld)(t:Int)(ot ow ol o:Nat)(p:Ez)(F:Ey->Option (List Ey))(hF:gvs l t ot ow ol o p F)(hg:∀h r,FZ h=true->F h=some r->JD r)(h:Ey)(hr:FZ h=true)(H:cj)(hW:gT l t ot ow ol o H):
  GM AA 151 [.ptr o 0,.agg p.c,.agg h.c] H (AEc (LE F 300 [h] [h]) (nw F 300 [h] [h] 0)):=by
 refine Fa.drop ?_ ((Fa.res (AEm l t ot ow ol o p F hF hg h hr H hW)).mono λv H' hx=>?_)
 ·cases LE F 300 [h] [h]with
  |none=>rfl
  |some r =>
   show Fo _ _=true
   simp only[Fo,AV.bnd,Bp]
   have:=Nh (n:=H.length) (es:=r.map Head.c) Nv
   rw[O0]at this
   simpa [AV.bnd]using this
 ·obtain⟨v0,⟨h1,h2⟩,rfl⟩:=hx
  exact⟨h1,h2⟩
def qM:FZ Head.z=true:=dc
def SZ{f:Fld}(hf:HC f){n m:Nat}(hn:n<2^fW f):FZ (VF f n m).mask=true/\FZ (VF f n m).bits=true :=
 ⟨Ni hf (fe _ _) qM,Ni hf (Nat.lt_of_le_of_lt Nat.and_le_left hn) qM⟩
def q_0(H:cj)(a:Option (List AV))(z:cj):(H++(a::z))[H.length]? =some a:=by rw[AN (AT _),AP];rfl
def q_1(H:cj)(a b:Option (List AV))(z:cj):(H++(a::b::z))[H.length+1]? =some b:=by rw[AN FR,A4];rfl
def q_2(H:cj)(a b c:Option (List AV))(z:cj):(H++(a::b::c::z))[H.length+2]? =some c:=by rw[AN FR,A4];rfl
def AXV(H:cj)(a b c d:Option (List AV)):(H++[a,b,c]).set (H.length+2) d=H++[a,b,d]:=by rw[BV _ _ FR,A4];rfl
def eU(l:List Fld)(hl:Iq l)(hln:l.length<=9223372036854775807)(t:Int)(ot ow ol o:Nat): ∀ x:Pred,IP l x -> ∀ h,FZ h=true -> ∀ H,gT l t ot ow ol o H->GM AA 139 [.agg x.c,.agg h.c,.ptr ot 0,.ptr ow 0,.ptr ol 0] H (.bool (hP l t x h)) := by
  refine I2 _ λx ih=>λhx h hr H hW=>?_
  have hc:∀a,a∈x.args->IP l a -> ∀z,PP AA 139 [.agg a.c,.agg h.c,.ptr ot 0,.ptr ow 0,.ptr ol 0] (H++z) (.bool (hP l t a h)) := λa ha ga z H2 hv=>ih a ha ga h hr H2 ((hW.grow z).view hv)
  obtain⟨w1,w2,⟨w,w3⟩,w4⟩ := hW
  have eT := FY w1
  have eO := FY w2
  have eL := FY w3
  have eF := FY w4
  have q0 := q_0 H
  have q1 := q_1 H
  have q2 := q_2 H
  have s2 := AXV H
  rw[AX7]
  refine Fa.drop rfl ?_
  rcases nW hl hx with k|k|k|⟨k,a,ha,ga⟩|⟨k,a,b,ha,ga,gb⟩|⟨k,hf,hfo,hn,hn2⟩|⟨k,⟨hf,hfo,hn,hn2⟩,hm,hm2⟩|⟨k,hf,hfo,hn,hnm,hm2⟩
  · refine aC Nw rfl ?_
    simp only[f139,go_sem,q0,AF,AE,AW,AR,AD,AJ,Nat.reduceAdd,k,Int.reduceBEq]
    repeat' (first|apply cg<;>intro hc<;>simp only[go_sem,hc,Int.reduceBEq,k,eT,eO,eL,eF,q0,q1,q2,s2,AF,AE,AW,AR,AD,AJ,Ay,Nat.reduceAdd])
    all_goals first|rfl|skip
  · refine aC Nw rfl ?_
    simp only[f139,go_sem,q0,AF,AE,AW,AR,AD,AJ,Nat.reduceAdd,k,Int.reduceBEq]
    repeat' (first|apply cg<;>intro hc<;>simp only[go_sem,hc,Int.reduceBEq,k,eT,eO,eL,eF,q0,q1,q2,s2,AF,AE,AW,AR,AD,AJ,Ay,Nat.reduceAdd])
    all_goals first|rfl|skip
  · refine aC Nw rfl ?_
    simp only[f139,go_sem,eT,q0,AF,AE,AW,AR,AD,AJ,Nat.reduceAdd,k,Int.reduceBEq]
    repeat' (first|apply cg<;>intro hc<;>simp only[go_sem,hc,eT,q0])
    all_goals first
      | (show AV.bool _ = AV.bool (decide (x.n <= t) && decide (t < x.m))
         rw[hc];rfl)
      |skip
  · have c1 := hc a (by rw [ha];simp) ga
    have e1:Q4 (nN l t x.args) 0 h=hP l t a h := nM l t (by rw[ha];rfl) h
    have g1:(0:Int)<(x.args.length:Int) := by rw[ha];simp
    have g2 := GQ (l := x.args) (i := 0) (x := a) (by rw[ha];rfl)
    refine aC Nw rfl ?_
    simp only[f139,go_sem,eO,eF,q0,q1,AF,AE,AW,AR,AD,AJ,Nat.reduceAdd,k,Int.reduceBEq,g2]
    repeat' (first|(refine rK (c1 _) ?_;simp only[go_sem])|apply cg<;>intro hc<;>simp only[go_sem,hc,Int.reduceBEq,k,eT,eO,eL,eF,q0,q1,q2,s2,AF,AE,AW,AR,AD,AJ,Ay,Nat.reduceAdd,g1,g2])
    all_goals first
      | (show _ = AV.bool (!Q4 (nN l t x.args) 0 h)
         rw[e1])
      |skip
  · have c1 := hc a (by rw [ha];simp) ga
    have c2 := hc b (by rw[ha];simp) gb
    have e1:Q4 (nN l t x.args) 0 h=hP l t a h := nM l t (by rw[ha];rfl) h
    have e2:Q4 (nN l t x.args) 1 h=hP l t b h := nM l t (by rw[ha];rfl) h
    have g1:(0:Int)<(x.args.length:Int) := by rw[ha];simp
    have g2 := GQ (l := x.args) (i := 0) (x := a) (by rw[ha];rfl)
    have g3:(1:Int)<(x.args.length:Int) := by rw[ha];simp
    have g4 := GQ (l := x.args) (i := 1) (x := b) (by rw[ha];rfl)
    rcases k with k|k
    · refine aC Nw rfl ?_
      simp only[f139,go_sem,eO,eF,q0,q1,AF,AE,AW,AR,AD,AJ,Nat.reduceAdd,k,Int.reduceBEq,g2]
      repeat' (first|((first|refine rK (c1 _) ?_|refine rK (c2 _) ?_);simp only[go_sem,Int.reduceBEq,k,q0])|apply cg<;>intro hc<;>simp only[go_sem,hc,Int.reduceBEq,k,eO,eF,q0,q1,AW,AR,g4])
      all_goals first
        | (show _ = AV.bool (Q4 (nN l t x.args) 0 h && Q4 (nN l t x.args) 1 h)
           rw[e1,e2]
           revert hc
           cases hP l t a h<;>simp)
        |skip
    · refine aC Nw rfl ?_
      simp only[f139,go_sem,eO,eF,q0,q1,AF,AE,AW,AR,AD,AJ,Nat.reduceAdd,k,Int.reduceBEq,g2]
      repeat' (first|((first|refine rK (c1 _) ?_|refine rK (c2 _) ?_);simp only[go_sem,Int.reduceBEq,k,q0])|apply cg<;>intro hc<;>simp only[go_sem,hc,Int.reduceBEq,k,eO,eF,q0,q1,AW,AR,g4])
      all_goals first
        | (show _ = AV.bool (Q4 (nN l t x.args) 0 h || Q4 (nN l t x.args) 1 h)
           rw[e1,e2]
           revert hc
           cases hP l t a h<;>simp)
        |skip
  · have c1 := Qi l hln x.field
    have c2 := qd _ hfo x.n.toNat hn2
    have hrp := SZ hfo (m := fW (Ff l x.field).1) hn2
    have c3 := qc _ hrp.1 hrp.2 h hr
    rw[Ys hfo hn2 (AT _) h]at c3
    rw[Cz hn]at c2
    refine aC Nw rfl ?_
    simp only[f139,go_sem,eL,q0,AF,AE,AW,AR,AD,AJ,Nat.reduceAdd,k,Int.reduceBEq]
    repeat' (first|((first|apply pK c1|apply pK c2|apply pK c3);simp only[go_sem,Int.reduceBEq,k,q0,q1,q2,s2,AF,AE,AW,AR,AD,AJ,Nat.reduceAdd])|apply cg<;>intro hc<;>simp only[go_sem,hc,Int.reduceBEq,k,eT,eO,eL,eF,q0,q1,q2,s2,AF,AE,AW,AR,AD,AJ,Ay,Nat.reduceAdd])
    all_goals first
      | (show AV.bool _ = AV.bool (decide ((Nx (Ff l x.field).1 h : Int) = x.n))
         congr 1
         rw[AP,Nat.pow_zero,EQ,EQ,A',decide_eq_true_eq,decide_eq_true_eq]
         omega)
      |skip
  · have hm':0<=x.m := hm
    have hm3:x.m.toNat<=fW (Ff l x.field).1 := hm2
    have c1 := Qi l hln x.field
    have c2 := ed _ hfo x.n.toNat x.m.toNat hn2 hm3
    have hrp := SZ hfo (m := x.m.toNat) hn2
    have c3 := qc _ hrp.1 hrp.2 h hr
    rw[Ys hfo hn2 hm3 h]at c3
    rw[Cz hn,Cz hm']at c2
    refine aC Nw rfl ?_
    simp only[f139,go_sem,eL,q0,AF,AE,AW,AR,AD,AJ,Nat.reduceAdd,k,Int.reduceBEq]
    repeat' (first|((first|apply pK c1|apply pK c2|apply pK c3);simp only[go_sem,Int.reduceBEq,k,q0,q1,q2,s2,AF,AE,AW,AR,AD,AJ,Nat.reduceAdd])|apply cg<;>intro hc<;>simp only[go_sem,hc,Int.reduceBEq,k,eT,eO,eL,eF,q0,q1,q2,s2,AF,AE,AW,AR,AD,AJ,Ay,Nat.reduceAdd])
    all_goals first|rfl|skip
  · have c1 := Qi l hln x.field
    have c2 := mA _ hfo h hr
    refine aC Nw rfl ?_
    simp only[f139,go_sem,eL,q0,AF,AE,AW,AR,AD,AJ,Nat.reduceAdd,k,Int.reduceBEq]
    repeat' (first|((first|apply pK c1|apply pK c2);simp only[go_sem,Int.reduceBEq,k,q0,q1,q2,s2,AF,AE,AW,AR,AD,AJ,Nat.reduceAdd])|apply cg<;>intro hc<;>simp only[go_sem,hc,q0])
    all_goals first
      | (show AV.bool _ = AV.bool (decide (x.n <= Nx (Ff l x.field).1 h) && decide ((Nx (Ff l x.field).1 h : Int) <= x.m))
         rw[hc];rfl)
      |skip
def dK{P:Program}{f:FuncId}{vs:List AV}{d:Option Tmp}{K:Kt}{e:Fs}{H:cj}{v:AV}(hc:GM P f vs H v)(hk:K (put d v e) H):ADz P f vs d K e H :=
 ⟨v,[],by simp only[Af];exact hc,by rw[Af];exact hk⟩
@[go_sem] def AVx(r:List Ey):Nj (some r) = .tup [.sl none (F2 r),.bool true]:=rfl
@[go_sem] def AVz:Nj none = .tup [.sl none [],.bool false]:=rfl
@[go_sem] def AVv(r:List Ey)(n:Nat):AEc (some r) n = .tup [.sl none (F2 r),.int .i64 n,.bool true]:=rfl
@[go_sem] def AVw(n:Nat):AEc none n = .tup [.sl none [],.int .i64 0,.bool false]:=rfl
def z7(o:Option (List Ey))(n:Nat):(Nj o).bnd n=true:=by
 cases o with
 |none=>rfl
 |some r =>
  simp only[Nj,AV.bnd,Fo,Bp]
  have:=Nh (n:=n) (es:=r.map Head.c) Nv
  rw[O0]at this
  simpa [AV.bnd]using this
def sP(l:List Fld)(hl:Iq l)(hln:l.length<=9223372036854775807)(t:Int)(ot ow ol o:Nat): ∀ x:Ez,Hm l x->gvs l t ot ow ol o x (vO l t x) := by
  refine HM _ λx ih=>λhx h hr H hW=>?_
  have hh:IP l x.pred -> ∀z,PP AA 139 [.agg x.pred.c,.agg h.c,.ptr ot 0,.ptr ow 0,.ptr ol 0] (H++z) (.bool (hP l t x.pred h)) := λgp z H2 hv=>eU l hl hln t ot ow ol o x.pred gp h hr H2 ((hW.grow z).view hv)
  have hc:∀a,a∈x.args->Hm l a -> ∀z,PP AA 145 [.agg a.c,.agg h.c,.ptr ow 0,.ptr ol 0] (H++z) (Nj (vO l t a h)) := λa ha ga z H2 hv=>ih a ha ga h hr H2 ((hW.grow z).view hv)
  have hWg := hW.grow
  obtain⟨w1,w2,⟨w,w3⟩,w4⟩ := hW
  have eO := FY w2
  have eL := FY w3
  have eF := FY w4
  have q0 := q_0 H
  have q1 := q_1 H
  have q2 := q_2 H
  have s2 := AXV H
  rw[AGo]
  suffices hs:Fa AA 145 [.agg x.c,.agg h.c,.ptr ow 0,.ptr ol 0] H λv H'=>v.borrow=Nj (U1 l t x.kind x.pred x.field x.n (XA l t x.args) h) /\ ∃ext,H'=H++ext by
    refine Fa.drop (z7 _ _) ((Fa.res hs).mono λv H' hx=>?_)
    obtain⟨v0,⟨h1,h2⟩,rfl⟩ := hx
    exact⟨h1,h2⟩
  rcases V7 hl hx with⟨k,gp⟩|⟨k,hfo,hft,hn,hn2⟩|⟨k,a,b,ha,ga,gb⟩|⟨k,a,ha,ga⟩
  · have c1 := hh gp
    refine aC LL rfl ?_
    simp only[f145,go_sem,eO,eF,q0,q1,AF,AE,AW,AR,AD,AJ,Nat.reduceAdd,k,Int.reduceBEq]
    repeat' (first|(refine rK (c1 _) ?_;simp only[go_sem])|apply cg<;>intro hc<;>simp only[go_sem,hc,q1,AR])
    all_goals first
      | (show _ = Nj (some (if hP l t x.pred h = true then [h] else []))
         revert hc
         cases hP l t x.pred h<;>intro hc<;>first|rfl|cases hc)
      |skip
  · have c1 := Qi l hln x.field
    have c2 := AXv _ hfo x.n.toNat hn2
    have hrp := SZ hfo (m := fW (Ff l x.field).1) hn2
    have c3 := AE3 _ hrp.1 hrp.2 h hr
    rw[yC hfo hn2 hr]at c3
    rw[Cz hn]at c2
    refine aC LL rfl ?_
    simp only[f145,go_sem,eL,q0,AF,AE,AW,AR,AD,AJ,Nat.reduceAdd,k,Int.reduceBEq]
    repeat' (first|((first|apply pK c1|apply pK c2|apply pK c3);simp only[go_sem,q0,q1,q2,s2,AF,AE,AW,AR,AD,AJ,Nat.reduceAdd])|apply cg<;>intro hc<;>simp only[go_sem,hc,Int.reduceBEq,k,eO,eL,eF,q0,q1,q2,s2,AF,AE,AW,AR,AD,AJ,Ay,Nat.reduceAdd])
    all_goals first|rfl|skip
  · have e0:ON (XA l t x.args) 0=vO l t a := SR l t (by rw [ha];rfl)
    have e1:ON (XA l t x.args) 1=vO l t b := SR l t (by rw[ha];rfl)
    have v0 := RO l hl t a ga
    have v1 := RO l hl t b gb
    have g1:(0:Int)<(x.args.length:Int) := by rw[ha];simp
    have g2 := Ft (l := x.args) (i := 0) (x := a) (by rw[ha];rfl)
    have g3:(1:Int)<(x.args.length:Int) := by rw[ha];simp
    have g4 := Ft (l := x.args) (i := 1) (x := b) (by rw[ha];rfl)
    have c1 := hc a (by rw[ha];simp) ga
    have c2 := hc b (by rw[ha];simp) gb
    have hb := ih b (by rw[ha];simp) gb
    rcases k with k|k
    · have hst:U1 l t x.kind x.pred x.field x.n (XA l t x.args) h=match vO l t a h,vO l t b h with|some a,some b=>WY (Gt a b)|_,_=>none := by
        rw[k]
        show(match ON (XA l t x.args) 0 h,ON (XA l t x.args) 1 h with|some a,some b=>WY (Gt a b)|_,_=>none)=_
        rw[e0,e1]
      rw[hst]
      cases ea:vO l t a h with
      | none =>
        rw[ea]at c1
        cases eb:vO l t b h with
        | none =>
          rw[eb]at c2
          have c3 := Nm [] [] sm
          have c4 := L1 (H7 [] []) false
          rw[iN dc]at c4
          refine aC LL rfl ?_
          simp only[f145,go_sem,eO,eF,q0,q1,AF,AE,AW,AR,AD,AJ,Nat.reduceAdd,k,Int.reduceBEq,g2]
          repeat' (first|((first|refine rK (c1 _) ?_|refine rK (c2 _) ?_|refine aS (c3 _) ?_|apply pK c4);simp only[go_sem,eO,eF,q0,q1,AW,AR,g4])|apply cg<;>intro hc<;>simp only[go_sem,hc,Int.reduceBEq,k,eO,eL,eF,q0,q1,q2,s2,AF,AE,AW,AR,AD,AJ,Ay,Nat.reduceAdd,g1,g2,g3,g4])
        | some v =>
          rw[eb]at c2
          have gv := v1 h v hr eb
          have c3 := Nm [] v (by have := gv.2.1;simp;omega)
          have c4 := L1 (H7 [] v) false
          rw[iN dc]at c4
          refine aC LL rfl ?_
          simp only[f145,go_sem,eO,eF,q0,q1,AF,AE,AW,AR,AD,AJ,Nat.reduceAdd,k,Int.reduceBEq,g2]
          repeat' (first|((first|refine rK (c1 _) ?_|refine rK (c2 _) ?_|refine aS (c3 _) ?_|apply pK c4);simp only[go_sem,eO,eF,q0,q1,AW,AR,g4])|apply cg<;>intro hc<;>simp only[go_sem,hc,Int.reduceBEq,k,eO,eL,eF,q0,q1,q2,s2,AF,AE,AW,AR,AD,AJ,Ay,Nat.reduceAdd,g1,g2,g3,g4])
      | some u =>
        rw[ea]at c1
        have gu := v0 h u hr ea
        cases eb:vO l t b h with
        | none =>
          rw[eb]at c2
          have c3 := Nm u [] (by have := gu.2.1;simp;omega)
          have c4 := L1 (H7 u []) false
          rw[iN dc]at c4
          refine aC LL rfl ?_
          simp only[f145,go_sem,eO,eF,q0,q1,AF,AE,AW,AR,AD,AJ,Nat.reduceAdd,k,Int.reduceBEq,g2]
          repeat' (first|((first|refine rK (c1 _) ?_|refine rK (c2 _) ?_|refine aS (c3 _) ?_|apply pK c4);simp only[go_sem,eO,eF,q0,q1,AW,AR,g4])|apply cg<;>intro hc<;>simp only[go_sem,hc,Int.reduceBEq,k,eO,eL,eF,q0,q1,q2,s2,AF,AE,AW,AR,AD,AJ,Ay,Nat.reduceAdd,g1,g2,g3,g4])
        | some v =>
          rw[eb]at c2
          have gv := v1 h v hr eb
          have c3 := Nm u v (by have := gu.2.1;have := gv.2.1;omega)
          have c4 := L1 (H7 u v) true
          rw[iP rfl]at c4
          rw[Pc gu.1 gv.1]at c3 c4
          dsimp only
          cases eo:WY (Gt u v)with
          | none =>
            rw[eo]at c4
            refine aC LL rfl ?_
            simp only[f145,go_sem,eO,eF,q0,q1,AF,AE,AW,AR,AD,AJ,Nat.reduceAdd,k,Int.reduceBEq,g2]
            repeat' (first|((first|refine rK (c1 _) ?_|refine rK (c2 _) ?_|refine aS (c3 _) ?_|apply pK c4);simp only[go_sem,eO,eF,q0,q1,AW,AR,g4])|apply cg<;>intro hc<;>simp only[go_sem,hc,Int.reduceBEq,k,eO,eL,eF,q0,q1,q2,s2,AF,AE,AW,AR,AD,AJ,Ay,Nat.reduceAdd,g1,g2,g3,g4])
          | some r =>
            rw[eo]at c4
            refine aC LL rfl ?_
            simp only[f145,go_sem,eO,eF,q0,q1,AF,AE,AW,AR,AD,AJ,Nat.reduceAdd,k,Int.reduceBEq,g2]
            repeat' (first|((first|refine rK (c1 _) ?_|refine rK (c2 _) ?_|refine aS (c3 _) ?_|apply pK c4);simp only[go_sem,eO,eF,q0,q1,AW,AR,g4])|apply cg<;>intro hc<;>simp only[go_sem,hc,Int.reduceBEq,k,eO,eL,eF,q0,q1,q2,s2,AF,AE,AW,AR,AD,AJ,Ay,Nat.reduceAdd,g1,g2,g3,g4])
    · have hst:U1 l t x.kind x.pred x.field x.n (XA l t x.args) h=match vO l t a h with|some a=>JT (vO l t b) [] a|none=>none := by
        rw[k]
        show(match ON (XA l t x.args) 0 h with|some a=>JT (ON (XA l t x.args) 1) [] a|none=>none)=_
        rw[e0,e1]
      rw[hst]
      cases ea:vO l t a h with
      | none =>
        rw[ea]at c1
        refine aC LL rfl ?_
        simp only[f145,go_sem,eO,eF,q0,q1,AF,AE,AW,AR,AD,AJ,Nat.reduceAdd,k,Int.reduceBEq,g2]
        repeat' (first|(refine rK (c1 _) ?_;simp only[go_sem,AW,AR])|apply cg<;>intro hc<;>simp only[go_sem,hc,Int.reduceBEq,k,eO,eL,eF,q0,q1,q2,s2,AF,AE,AW,AR,AD,AJ,Ay,Nat.reduceAdd,g1,g2,g3,g4])
      | some u =>
        rw[ea]at c1
        have gu := v0 h u hr ea
        have c3 := λz=>AEr l t ot ow ol o b _ hb v1 u gu.2.2 (by have := gu.2.1;omega) (H++z) (hWg z)
        dsimp only
        cases eo:JT (vO l t b) [] u with
        | none =>
          rw[eo]at c3
          refine aC LL rfl ?_
          simp only[f145,go_sem,eO,eF,q0,q1,AF,AE,AW,AR,AD,AJ,Nat.reduceAdd,k,Int.reduceBEq,g2]
          repeat' (first|((first|refine rK (c1 _) ?_|refine dK (c3 _) ?_);simp only[go_sem,eO,q0,AW,AR,g4])|apply cg<;>intro hc<;>simp only[go_sem,hc,Int.reduceBEq,k,eO,eL,eF,q0,q1,q2,s2,AF,AE,AW,AR,AD,AJ,Ay,Nat.reduceAdd,g1,g2,g3,g4])
        | some r =>
          rw[eo]at c3
          refine aC LL rfl ?_
          simp only[f145,go_sem,eO,eF,q0,q1,AF,AE,AW,AR,AD,AJ,Nat.reduceAdd,k,Int.reduceBEq,g2]
          repeat' (first|((first|refine rK (c1 _) ?_|refine dK (c3 _) ?_);simp only[go_sem,eO,q0,AW,AR,g4])|apply cg<;>intro hc<;>simp only[go_sem,hc,Int.reduceBEq,k,eO,eL,eF,q0,q1,q2,s2,AF,AE,AW,AR,AD,AJ,Ay,Nat.reduceAdd,g1,g2,g3,g4])
  · have e0:ON (XA l t x.args) 0=vO l t a := SR l t (by rw [ha];rfl)
    have g1:(0:Int)<(x.args.length:Int) := by rw[ha];simp
    have g2 := Ft (l := x.args) (i := 0) (x := a) (by rw[ha];rfl)
    have c3 := λz=>AIC l t ot ow ol o a _ (ih a (by rw[ha];simp) ga) (RO l hl t a ga) h hr (H++z) (hWg z)
    have hst:U1 l t x.kind x.pred x.field x.n (XA l t x.args) h=LE (vO l t a) 300 [h] [h] := by
      rw[k]
      show LE (ON (XA l t x.args) 0) 300 [h] [h]=_
      rw[e0]
    rw[hst]
    cases eo:LE (vO l t a) 300 [h] [h]with
    | none =>
      rw[eo]at c3
      refine aC LL rfl ?_
      simp only[f145,go_sem,eO,q0,q1,AF,AE,AW,AR,AD,AJ,Nat.reduceAdd,k,Int.reduceBEq,g2]
      repeat' (first|(refine dK (c3 _) ?_;simp only[go_sem,AW,AR])|apply cg<;>intro hc<;>simp only[go_sem,hc,Int.reduceBEq,k,eO,eL,eF,q0,q1,q2,s2,AF,AE,AW,AR,AD,AJ,Ay,Nat.reduceAdd,g1,g2])
    | some r =>
      rw[eo]at c3
      refine aC LL rfl ?_
      simp only[f145,go_sem,eO,q0,q1,AF,AE,AW,AR,AD,AJ,Nat.reduceAdd,k,Int.reduceBEq,g2]
      repeat' (first|(refine dK (c3 _) ?_;simp only[go_sem,AW,AR])|apply cg<;>intro hc<;>simp only[go_sem,hc,Int.reduceBEq,k,eO,eL,eF,q0,q1,q2,s2,AF,AE,AW,AR,AD,AJ,Ay,Nat.reduceAdd,g1,g2])
def Zc(n:Nat):List AV:=[.fn (.func 139) [] [.ptr (n+1) 0,.ptr (n+3) 0,.ptr n 0],.fn (.func 145) [] [.ptr (n+3) 0,.ptr n 0]]
def q_3(H:cj)(a b c d:Option (List AV)):(H++[a,b,c,d])[H.length+3]? =some d:=by rw[AN FR,A4];rfl
def Af5(H:cj)(a b c d e:Option (List AV)):(H++[a,b,c,d]).set (H.length+3) e=H++[a,b,c,e]:=by rw[BV _ _ FR,A4];rfl
def AXU(H:cj)(a b c d e:Option (List AV)):(H++[a,b,c,d]).set (H.length+2) e=H++[a,b,e,d]:=by rw[BV _ _ FR,A4];rfl
def AXZ(l:List Fld)(t:Int)(H:cj):Fa AA 79 [.sl none (GL l),.int .i64 t] H λv H'=>v = .ptr (H.length+2) 0/\H'=H++[some [.sl none (GL l)],some [.int .i64 t],some (Zc H.length),some [.ptr (H.length+2) 0]]:=by
 have q3:=q_3 H
 have q2:=q_2 H
 have s3:=Af5 H
 have s2:=AXU H
 refine aC AZL rfl ?_
 simp only[f79,go_sem,q3,q2,s3,s2,AF,AE,AW,AR,AD,AJ,Nat.reduceAdd]
 all_goals first|rfl|exact⟨rfl,rfl⟩|skip
def eV(r:List Ey)(b:Bool):FT AA 78 [.sl none (F2 r),.bool b] (sI (if b=true then some r else none)):=by
 refine pB AZP rfl ?_
 cases b<;>simp only[f78,go_sem]<;>rfl
def AEp(l:List Fld)(hl:Iq l)(hln:l.length<=9223372036854775807)(x:Ez)(hx:Hm l x)(t:Int)(h:Ey)(hr:FZ h=true):FT AA 40 [.sl none (GL l),.agg x.c,.agg h.c,.int .i64 t] (sI (vO l t x h)):=by
 have c1:Fa AA 79 [.sl none (GL l),.int .i64 t] [some x.c,some h.c] λv H'=>v = .ptr 4 0/\H'=[some x.c,some h.c]++[some [.sl none (GL l)],some [.int .i64 t],some (Zc 2),some [.ptr 4 0]]:=AXZ l t [some x.c,some h.c]
 have hW:gT l t 3 5 2 4 ([some x.c,some h.c]++[some [.sl none (GL l)],some [.int .i64 t],some (Zc 2),some [.ptr 4 0]]):=⟨rfl,rfl,⟨none,rfl⟩,rfl⟩
 have c2:PP AA 145 [.agg x.c,.agg h.c,.ptr 5 0,.ptr 2 0] ([some x.c,some h.c]++[some [.sl none (GL l)],some [.int .i64 t],some (Zc 2),some [.ptr 4 0]]) (Nj (vO l t x h)):=λH2 hv=>sP l hl hln t 3 5 2 4 x hx h hr H2 (hW.view hv)
 have ho:∀ops,h40.ord 1 ops=(mP [6,7] ops.size).filterMap λi=>ops[i]?:=λops=>rfl
 have hI:mP [6,7] 16=[6,7,0,1,2,3,4,5,8,9,10,11,12,13,14,15]:=dc
 have w1:∀z,([some x.c,some h.c]++z)[0]? =some (some x.c):=λz=>rfl
 simp only[Zc]at c1 c2
 cases ev:vO l t x h with
 |none =>
  rw[ev]at c2
  have c3:=eV [] false
  refine pB AHC rfl ?_
  simp only[f40,go_sem]
  rw[PK _ _ _ (by simp only[go_sem]) rfl,ho]
  simp only[BR,AD,AJ,Nat.reduceAdd,hI,B5,Bb,B1,A7,Ca]
  simp only[go_sem]
  refine⟨_,_,c1, ?_⟩
  simp only[go_sem]
  repeat' (first|((first|refine rK (c2) ?_|apply pK c3);simp only[go_sem])|apply cg<;>intro hc<;>simp only[go_sem,hc])
  all_goals first|rfl|skip
 |some r =>
  rw[ev]at c2
  have c3:=eV r true
  refine pB AHC rfl ?_
  simp only[f40,go_sem]
  rw[PK _ _ _ (by simp only[go_sem]) rfl,ho]
  simp only[BR,AD,AJ,Nat.reduceAdd,hI,B5,Bb,B1,A7,Ca]
  simp only[go_sem]
  refine⟨_,_,c1, ?_⟩
  simp only[go_sem]
  repeat' (first|((first|refine rK (c2) ?_|apply pK c3);simp only[go_sem])|apply cg<;>intro hc<;>simp only[go_sem,hc])
  all_goals first|rfl|skip
def AUz{l:List Fld}(h:PB l=0):Iq l:=by
 have:∀(r:List Fld) (i:Nat),Ju l i r=0 -> ∀f∈r,HC f:=by
  intro r
  induction r with
  |nil=>intro i _ f hf;cases hf
  | cons x r ih =>
   intro i h f hf
   rw[Ju]at h
   split at h
   ·cases h
   split at h
   ·cases h
   split at h
   ·cases h
   split at h
   ·cases h
   rename_i hp _
   rcases AY.1 hf with rfl|hf
   ·simp only[Sh,Bool.not_eq_true',Bool.and_eq_false_iff,not_or,Bool.not_eq_false,decide_eq_true_eq]at hp
    unfold HC
    omega
   ·exact ih _ h f hf
 unfold PB at h
 split at h
 ·cases h
 ·exact this l 0 h
end Go.AI
