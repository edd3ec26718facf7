/- A row that a call has made becomes a list that nobody writes. -/
import Derived.Test.YtnbekihfchfioaaGreatDoorLi
import Derived.Test.YtnbekihfchfioaaGreatDoorMt
import Derived.Test.YtnbekihfchfioaaGreatDoorMg
import Derived.Test.YtnbekihfchfioaaGreatDoorMp
set_option linter.unusedSimpArgs false
set_option linter.unusedVariables false
open Go.Proofs.Tryz
open Bool renaming and_true->Bn,eq_iff_iff->BA
open Int renaming lt_irrefl->AX,toNat_natCast->Ae,toNat_of_nonneg->Cu
open List renaming append_assoc->AF,append_nil->Ah,cons_append->AS,drop_drop->A9,filterMap_cons->B6,filterMap_nil->Ce,filter_append->Cb,filter_eq_self->DN,flatten_cons->C3,getElem?_append_left->AW,getElem?_append_right->AM,getElem?_concat_length->Bj,getElem?_cons_succ->B1,getElem?_cons_zero->A8,getElem?_eq_getElem->AL,getElem?_eq_some_iff->AD,getElem?_set_ne->A6,getElem?_set_self->Az,getElem?_toArray->Bf,length_append->AE,length_cons->AC,length_map->Aq,length_nil->AG,length_set->An,map_append->As,map_congr_left->B3,map_eq_nil_iff->DO,map_flatten->DL,mem_cons->AZ,mem_map->AO,mem_of_getElem?->AB,mem_singleton->Al,nil_append->AN,set_append_left->BP,set_append_right->BZ,set_comm->B8,set_set->BB,size_toArray->BW,take_add_one->BF,take_append_of_le_length->C1,take_set_of_le->CQ,take_succ_cons->CO
open Nat renaming add_assoc->AP,add_sub_cancel_left->A3,le_refl->AU,lt_or_ge->BT,sub_self->AQ,zero_add->AY
open Go.Proofs.Tryz renaming prog->AA
namespace Go.AI
def Rl(es:List (List AV))(v:AV)(H H':DM):Prop :=
 (es=[]/\(∃ w,v = .sl w []) /\ ∃ ext,H'=H++ext) \/ ∃ ob cs,v = .msl ob 0 es.length 10/\H.length<=ob/\(∃ ext,H'=H++ext)/\H'[ob]? =some (some cs)/\(∃ r,cs=es.flatten++r)
section
variable {P:Program}
theorem CRel.borrowArgs{F:Nat->Prop}{G:Gh}{w:World}{H:DM}{vs:List AV}{us:List Value}(h:CRel F G vs H us w):CRel F G (vs.map AV.borrow) H us w:=by
 obtain ⟨l1,t1⟩:=GE (F:=F) (G:=G) (w:=w) (first:=vs) (fi:=us) h.l.len (λi c v a b=>h.l.rel i c v a b)
 exact ⟨l1,h.h,λb=>by
  rw [t1]
  have:=h.cnt b
  omega⟩
theorem Dx.weak{f:FuncId}{vs:List AV}{H:DM}{R:AV->DM->Prop}(h:Dx P f (vs.map AV.borrow) H R):Dx P f vs H R:=⟨h.1,λF G w us hc=>h.2 F G w us hc.borrowArgs⟩
theorem DR.weak{f:FuncId}{vs:List AV}{v:AV}(h:DR P f (vs.map AV.borrow) v):DR P f vs v:=λH=>(h H).weak
theorem CRel.swap1{F:Nat->Prop}{G:Gh}{w:World}{H:DM}{v v':AV}{u:Value}(h:CRel F G [v] H [u] w)(hv:VRel G w v' u)(ho:v'.owned=false):CRel F G [v'] H [u] w :=
 ⟨.cons hv (ET (E6 ho u) _ _ _) ⟨rfl,sm,sm⟩,h.h,λx=>by
  have:=h.cnt x
  rw [EK,E6 ho u]
  rw [EK] at this
  simp only [List.count_nil] at this ⊢
  omega⟩
theorem aa{H ext:DM}{ob:Nat}(h:H.length<=ob):(H++ext).set ob none=H++ext.set (ob - H.length) none:=BZ _ _ h
theorem CRel.frzRow {F:Nat->Prop} {G:Gh} {w:World} {H ext:DM} {vals:List AV} {us:List Value} {u:Value} {ob len sz:Nat} {cs:List AV} (ag:Bool) (h:CRel F G vals (H++ext) us w)
  (ho:(H++ext)[ob]? =some (some cs)) (hb:H.length<=ob) (hv:VRel G w (.msl ob 0 len sz) u) (hl:len*sz<=cs.length) (hs:ag=true\/sz=1) :
  ∃ G' ext',CRel F G' vals (H++ext') us w/\Ext F G w G' w/\VRel G' w (.sl none (HK ag sz len (cs.map borrow1))) u:=by
 have hf:Js ag (.msl ob 0 len sz) (H++ext)=some (.sl none (HK ag sz len (cs.map borrow1)),(H++ext).set ob none):=by
  simp only [Js,ho]
  rw [if_pos ⟨DF,hs⟩,List.drop_zero]
 obtain ⟨ob',b,es,e1,e2,_,g1,g2,g3,_⟩:=Px hf h hv
 rw [aa hb] at g1
 exact ⟨_,_,g1,g2,g3⟩
theorem CRel.cutExt{F:Nat->Prop}{G G':Gh}{w w':World}{H ext:DM}{vs:List AV}{us:List Value}{v:AV}{u:Value}(hc:CRel F G vs H us w)(hcr:CRel F G' [v] (H++ext) [u] w')(hext:Ext F G w G' w')(hv:v.bnd H.length=true):
  ∃ G'',CRel F G'' [v] H [u] w'/\Ext F G w G'' w' :=
 ⟨_,hcr.cut hv hc.h.closed,⟨hext.size,⟨λo b ho=>by
  have hlt:=(AD.1 ho).1
  show (G'.obs.take H.length)[o]? =some b
  rw [List.getElem?_take_of_lt (by have:=hc.h.len;omega)]
  exact hext.keeps.obs o b ho,hext.keeps.shape,hext.keeps.sp,hext.keeps.safe⟩,hext.kind,hext.cells,hext.io⟩⟩
theorem Ji : ∀ (es:List (List AV)) (r:List AV) (sz:Nat),(∀ e∈es,e.length=sz)->HK true sz es.length (es.flatten++r)=es.map .agg
 | [],_,_,_=>rfl
 | e::es,r,sz,h=>by
  have he:=h e sm
  simp only [AC,HK,if_true,C3,AF,List.map_cons]
  rw [C1 DF,List.take_of_length_le DF,List.drop_append_of_le_length DF,List.drop_of_length_le DF,AN,Ji es r sz λx hx=>h x (by simp [hx])]
theorem NZ : ∀ (es:List (List AV)) (sz:Nat),(∀ e∈es,e.length=sz)->es.flatten.length=es.length*sz
 | [],_,_=>sm
 | e::es,sz,h=>by
  rw [C3,AE,NZ es sz λx hx=>h x (by simp [hx]),h e sm,AC,Nat.add_mul];omega
theorem MU{es:List (List AV)}{n:Nat}(hs : ∀ e∈es,EZ n e=true):(AV.sl none (es.map .agg)).bnd n=true:=by
 simp only [AV.bnd]
 refine E7.2 λc hc=>?_
 obtain ⟨e,he,rfl⟩:=AO.1 hc
 simpa [AV.bnd] using hs e he
theorem wS {f:FuncId} {vs:List AV} {H:DM} {es:List (List AV)} (hn : ∀ e∈es,e.length=10) (hs : ∀ e∈es,EZ H.length e=true) (hb : ∀ e∈es,e.map borrow1=e)
  (h:Dx P f vs H λv' H'=>Rl es v' H H'):Dx P f vs H λv' H'=>v' = .sl none (es.map .agg)/\H'=H :=
 ⟨h.1,λF G w us hc=>Calls.mono (h.2 F G w us hc) λe w' he=>by
  obtain ⟨u,rfl,v',H2,G',hr,hcr,hext⟩:=he
  rcases hr with ⟨rfl,⟨w0,rfl⟩,ext,rfl⟩|⟨ob,cs,rfl,hob,⟨ext,rfl⟩,ho,r,rfl⟩
  ·have hv:VRel G' w' (.sl none []) u:=by
    have:=hcr.l.rel 0 _ _ rfl rfl
    cases this with
    | slnil=>exact .slnil _
    | slany=>exact .slany _ _
    | sl own es sz b q cap u' hsz hown hl hm h1 h2=>exact .sl none [] sz b q cap u' hsz (λn hn=>by cases hn) hl hm h1 h2
   obtain ⟨G2,k1,k2⟩:=hc.cutExt (hcr.swap1 hv rfl) hext rfl
   exact ⟨u,rfl,_,H,G2,⟨rfl,rfl⟩,k1,k2⟩
  ·have hv:=hcr.l.rel 0 _ _ rfl rfl
   have hlen:=NZ es 10 hn
   obtain ⟨G2,ext2,k1,k2,k3⟩:=hcr.frzRow true ho hob hv (by rw [AE,hlen];omega) (.inl rfl)
   have e1:(es.flatten++r).map borrow1=es.flatten++r.map borrow1:=by
    rw [As,DL]
    congr 2
    exact B3 (f:=List.map borrow1) (g:=id) (λe he=>hb e he) |>.trans (List.map_id _)
   rw [e1,Ji es _ 10 hn] at k3
   obtain ⟨G3,k4,k5⟩:=hc.cutExt (k1.swap1 k3 rfl) (hext.trans k2) (MU hs)
   exact ⟨u,rfl,_,H,G3,⟨rfl,rfl⟩,k4,k5⟩⟩
theorem Wv {f:FuncId} {vs:List AV} {H:DM} {es:List (List AV)} {b:Bool} (hn : ∀ e∈es,e.length=10) (hs : ∀ e∈es,EZ H.length e=true) (hb : ∀ e∈es,e.map borrow1=e)
  (h:Dx P f vs H λv' H' => ∃ v0,v' = .tup [v0,.bool b]/\Rl es v0 H H'):Dx P f vs H λv' H'=>v' = .tup [.sl none (es.map .agg),.bool b]/\H'=H :=
 ⟨h.1,λF G w us hc=>Calls.mono (h.2 F G w us hc) λe w' he=>by
  obtain ⟨u,rfl,v',H2,G',⟨v0,rfl,hr⟩,hcr,hext⟩:=he
  have hv:=hcr.l.rel 0 _ _ rfl rfl
  cases hv with
  | tup _ vs' hl hsv hg =>
   have h0 : ∃ x,vs'[0]? =some x:=⟨_,Array.getElem?_eq_getElem (by rw [<- hl];exact Nat.zero_lt_succ _)⟩
   obtain ⟨x,hx⟩:=h0
   have hvx:=hg 0 _ x rfl hx
   have put : ∀ {G2:Gh} {w2:World} {a:AV},a.isVal=true->VRel G2 w2 a x->VRel G2 w2 (.tup [a,.bool b]) (.tuple vs'):=λ{G2 w2 a} ha hax=>by
    refine .tup _ _ hl (λc hc=>?_) λi c v hc hv=>?_
    ·rcases AZ.1 hc with rfl|hc
     ·exact ha
     ·rw [Al.1 hc];rfl
    ·match i with
     | 0=>simp only [A8,Option.some.injEq] at hc;subst hc;rw [hx] at hv;cases hv;exact hax
     | 1 =>
      have:=hg 1 (.bool b) v rfl hv
      simp only [B1,A8,Option.some.injEq] at hc;subst hc
      cases this;exact .bool _
     | i+2=>simp at hc
   rcases hr with ⟨rfl,⟨w0,rfl⟩,ext,rfl⟩|⟨ob,cs,rfl,hob,⟨ext,rfl⟩,ho,r,rfl⟩
   ·have hv0:VRel G' w' (.sl none []) x:=by
     cases hvx with
     | slnil=>exact .slnil _
     | slany=>exact .slany _ _
     | sl own es sz b q cap u' hsz hown hl hm h1 h2=>exact .sl none [] sz b q cap u' hsz (λn hn=>by cases hn) hl hm h1 h2
    obtain ⟨G2,k1,k2⟩:=hc.cutExt (hcr.swap1 (put rfl hv0) rfl) hext rfl
    exact ⟨_,rfl,_,H,G2,⟨rfl,rfl⟩,k1,k2⟩
   ·have hlen:=NZ es 10 hn
    obtain ⟨G2,ext2,k1,k2,k3⟩:=hcr.frzRow true ho hob hvx (by rw [AE,hlen];omega) (.inl rfl)
    have e1:(es.flatten++r).map borrow1=es.flatten++r.map borrow1:=by
     rw [As,DL]
     congr 2
     exact B3 (f:=List.map borrow1) (g:=id) (λe he=>hb e he) |>.trans (List.map_id _)
    rw [e1,Ji es _ 10 hn] at k3
    obtain ⟨G3,k4,k5⟩:=hc.cutExt (k1.swap1 (put rfl k3) rfl) (hext.trans k2) (by
     have:=MU hs
     simp only [AV.bnd,EZ] at this ⊢
     simp [this])
    exact ⟨_,rfl,_,H,G3,⟨rfl,rfl⟩,k4,k5⟩⟩
end
end Go.AI
namespace Go.AI
open Go.Proofs
set_option maxRecDepth 50000
theorem Yw{i j n:Nat}(hn:n<=4611686018427387903)(hj:j<=n)(hi:i<j):IntKind.i64.wrap ((IntKind.u64.wrap (IntKind.i64.wrap ((i:Int)+(j:Int)))).fdiv 2)=(((i+j) / 2:Nat):Int):=by
 have e1:IntKind.i64.wrap ((i:Int)+(j:Int))=((i+j:Nat):Int):=NT DF DF
 rw [e1]
 have e2:IntKind.u64.wrap ((i+j:Nat):Int)=((i+j:Nat):Int):=by
  simp [IntKind.wrap,IntKind.signed,IntKind.bits];omega
 rw [e2]
 have e3:((i+j:Nat):Int).fdiv 2=(((i+j) / 2:Nat):Int):=by
  rw [Int.fdiv_eq_ediv_of_nonneg _ dc];omega
 rw [e3]
 exact NT DF DF
theorem xx(x:Int):DR AA 213 [.int .i64 x] (.bool false):=by
 refine pC AKe rfl ?_
 simp only [f213,go_sem,bne_self_eq_false]
def O2(a b:Int):Int:=if a<b then -1 else if b<a then 1 else 0
theorem yC(a b:Int):DR AA 150 [.int .i64 a,.int .i64 b] (.int .i64 (O2 a b)):=by
 have c1:=xx a
 have c2:=xx b
 refine pC ANO rfl ?_
 simp only [f150,go_sem]
 repeat' (first
  | ((first|refine pK (c1) ?_|refine pK (c2) ?_);simp only [go_sem])
  | ((first|apply cS|apply gS)<;>(intro hc;simp only [go_sem,hc])))
 all_goals (unfold O2;grind)
theorem lm(a b:Head)(H:DM)(oa ob:Nat)(hA:H[oa]? =some (some a.c))(hB:H[ob]? =some (some b.c)):E5 AA 84 [.msl oa 0 10 1,.msl ob 0 10 1] H (.int .i64 (Hb a b)):=by
 refine aC AE3 rfl ?_
 simp only [f84,go_sem]
 refine Jn (σ:=Nat) (λk=>[(0,.msl oa 0 10 1),(1,.msl ob 0 10 1),(9,.msl oa 0 10 1),(10,.int .i64 10),(11,.int .i64 k)]) (λ_=>H) (λk=>k<=10/\Hb a b=Kb (a.l.drop k) (b.l.drop k)) (λk=>10 - k) 0 ⟨dc,rfl⟩ rfl rfl ?_
 rintro k ⟨hk,hI⟩
 rw [o6 a b k hk] at hI
 by_cases h:k<10
 ·rw [if_pos h] at hI
  have i0:(0:Int)<=(k:Int):=DF
  have i1:(k:Int)<((10:Nat):Int):=DF
  have i2:(k:Int)<10:=DF
  have i3 : ¬ ((10:Nat):Int)<=(k:Int):=DF
  have a1:=Kj a h
  have a2:=Kj b h
  have hw:=Ln (k:=k) DF
  have c1:=yC (EY a k) (EY b k)
  simp only [go_sem,i0,i1,i2,i3,decide_true,decide_false,Ae,hA,hB,a1,a2]
  repeat' (first
   | (refine pK (c1) ?_;simp only [go_sem,i0,i1,i2,i3,decide_true,decide_false,Ae,hA,hB,a1,a2,hw])
   | ((first|apply cS|apply gS)<;>(intro hc;simp only [go_sem,hc,i0,i1,i2,i3,decide_true,decide_false,Ae,hA,hB,a1,a2,hw])))
  ·have hne:O2 (EY a k) (EY b k)≠0:=by simpa using hc
   rw [hI]
   unfold O2 at hne ⊢
   by_cases h1:EY a k<EY b k
   ·rw [if_pos h1,if_pos h1]
   ·rw [if_neg h1] at hne ⊢
    rw [if_neg h1]
    by_cases h2:EY b k<EY a k
    ·rw [if_pos h2,if_pos h2]
    ·rw [if_neg h2] at hne;exact absurd rfl hne
  ·have heq:O2 (EY a k) (EY b k)=0:=by simpa using hc
   unfold O2 at heq
   have h1 : ¬ EY a k<EY b k:=λh1=>by rw [if_pos h1] at heq;cases heq
   have h2 : ¬ EY b k<EY a k:=λh2=>by rw [if_neg h1,if_pos h2] at heq;cases heq
   rw [if_neg h1,if_neg h2] at hI
   exact ⟨k+1,⟨DF,hI⟩,DF,rfl,rfl⟩
 ·rw [if_neg h] at hI
  have:k=10:=DF
  subst this
  have g:decide (((10:Nat):Int)<10)=false:=dc
  have g2:decide (((10:Nat):Int)<((10:Nat):Int))=false:=dc
  simp only [go_sem,g,g2]
  rw [hI]
theorem Pg(a b:Head):DR AA 262 [.agg a.c,.agg b.c] (.int .i64 (Hb a b)):=by
 refine pC AJP rfl ?_
 simp only [f262,go_sem]
 repeat' (first
  | (refine aS (lm a b _ _ _ rfl rfl) ?_;simp only [go_sem])
  | ((first|apply cS|apply gS)<;>(intro hc;simp only [go_sem,hc])))
def xm(x:Head):List Head->Nat
 | []=>0
 | y::r=>if Hb y x<0 then xm x r+1 else 0
theorem qx(x:Head): ∀ (l:List Head) (i:Nat),i<=l.length->(∀ k y,l[k]? =some y->k<i->Hb y x<0)->(∀ y,l[i]? =some y -> ¬ Hb y x<0)->xm x l=i
 | [],i,h,_,_=>by
  have:i=0:=by simpa using h
  rw [this];rfl
 | y::r,0,_,_,h2=>by rw [xm,if_neg (h2 y rfl)]
 | y::r,i+1,h,h1,h2=>by
  rw [xm,if_pos (h1 0 y rfl DF),qx x r i (by simpa using h) (λk z hk hl=>h1 (k+1) z (by simpa using hk) DF) λz hz=>h2 z (by simpa using hz)]
theorem lJ{l:List Head}(h:KT l){i j:Nat}{a b:Head}(ha:l[i]? =some a)(hb:l[j]? =some b)(hij:i<j):Hb a b<0:=by
 obtain ⟨h1,rfl⟩:=AD.1 ha
 obtain ⟨h2,rfl⟩:=AD.1 hb
 exact List.pairwise_iff_getElem.1 h i j h1 h2 hij
theorem ARH{l:List Head}(h:KT l)(x:Head){i:Nat}(h1 : ∀ k y,l[k]? =some y->k<i->Hb y x<0)(h2 : ∀ k y,l[k]? =some y->i<=k -> ¬ Hb y x<0):(l.any λy=>decide (y=x))=match l[i]? with|some y=>decide (Hb y x=0)|none=>false:=by
 have key:x∈l->l[i]? =some x:=λhx=>by
  obtain ⟨k,hk⟩:=List.getElem?_of_mem hx
  rcases BT k i with hl|hl
  ·have:=h1 k x hk hl;rw [Oo] at this;omega
  ·rcases BT i k with hl2|hl2
   ·have hlt:i<l.length:=by have:=(AD.1 hk).1;omega
    have hi:=AL hlt
    exact absurd (lJ h hi hk hl2) (h2 i _ hi (AU _))
   ·have:k=i:=DF
    subst this;exact hk
 cases hi:l[i]? with
 | none =>
  dsimp only
  rw [List.any_eq_false]
  intro y hy hc
  have:=of_decide_eq_true hc
  subst this
  rw [key hy] at hi;cases hi
 | some y =>
  dsimp only
  rw [BA,List.any_eq_true,decide_eq_true_eq]
  constructor
  ·rintro ⟨z,hz,hc⟩
   have:=of_decide_eq_true hc
   subst this
   rw [key hz] at hi;cases hi;exact Oo _
  ·intro hc
   exact ⟨y,AB hi,decide_eq_true (Q8 hc)⟩
theorem AS0(l:List Head)(hs:KT l)(hl:l.length<=4611686018427387903)(x:Head):DR AA 264 [.sl none (En l),.agg x.c,.fn (.func 262) [] []] (.tup [.int .i64 (xm x l),.bool (l.any λy=>decide (y=x))]):=by
 refine pB AJK rfl ?_
 simp only [f264,go_sem]
 refine Jn (σ:=Nat×Nat) (λs=>[(0,.sl none (En l)),(2,.fn (.func 262) [] []),(4,.ptr 0 0),(8,.int .i64 l.length),(9,.int .i64 s.1),(10,.int .i64 s.2)]) (λ_=>[some x.c]) (λs=>s.1<=s.2/\s.2<=l.length/\(∀ k y,l[k]? =some y->k<s.1->Hb y x<0)/\(∀ k y,l[k]? =some y->s.2<=k -> ¬ Hb y x<0)) (λs=>s.2 - s.1) (0,l.length) ⟨DF,DF,λk y hk=>DF,λk y h1 h2=>by have:=(AD.1 h1).1;omega⟩ rfl rfl ?_
 rintro ⟨i,j⟩ ⟨hij,hj,h1,h2⟩
 dsimp only at hij hj h1 h2 ⊢
 by_cases hlt:i<j
 ·have g1:(i:Int)<(j:Int):=DF
  have g2:(0:Int)<=(((i+j) / 2:Nat):Int):=DF
  have g3:(((i+j) / 2:Nat):Int).toNat=(i+j) / 2:=DF
  have hm:(i+j) / 2<l.length:=DF
  have g4:(((i+j) / 2:Nat):Int)<(l.length:Int):=DF
  have hw:=Ln (k:=(i+j) / 2) DF
  have hgm:=AL hm
  have a1:=F0 hgm
  have c1:=Pg l[(i+j) / 2] x
  simp only [go_sem,g1,decide_true,Yw hl hj hlt,g2,g3,g4,a1]
  repeat' (first
   | (refine pK (c1) ?_;simp only [go_sem,g1,Yw hl hj hlt,g2,g3,g4,a1,hw])
   | ((first|apply cS|apply gS)<;>(intro hc;simp only [go_sem,hc,g1,Yw hl hj hlt,g2,g3,g4,a1,hw])))
  ·have hc:=of_decide_eq_true hc
   exact ⟨((i+j) / 2+1,j),⟨by dsimp only;omega,hj,λk y hk hki=>by
    rcases BT k ((i+j) / 2) with h|h
    ·exact K4 (lJ hs hk hgm h) hc
    ·have:k=(i+j) / 2:=by dsimp only at hki;omega
     subst this
     rw [hgm] at hk;cases hk;exact hc,h2⟩,by dsimp only;omega,rfl,rfl⟩
  ·have hc:=of_decide_eq_false hc
   exact ⟨(i,(i+j) / 2),⟨by dsimp only;omega,by dsimp only;omega,h1,λk y hk hki=>by
    rcases BT ((i+j) / 2) k with h|h
    ·intro hlt2;exact hc (K4 (lJ hs hgm hk h) hlt2)
    ·have:k=(i+j) / 2:=by dsimp only at hki;omega
     subst this
     rw [hgm] at hk;cases hk;exact hc⟩,by dsimp only;omega,rfl,rfl⟩
 ·have hij:i=j:=DF
  subst hij
  have g1 : ¬ (i:Int)<(i:Int):=DF
  have hany:=ARH hs x h1 h2
  have hpos:=qx x l i hj h1 λy hy=>h2 i y hy (AU _)
  rw [hpos]
  by_cases hil:i<l.length
  ·have g3:(i:Int)<(l.length:Int):=DF
   have g4:(0:Int)<=(i:Int):=DF
   have hgi:=AL hil
   have a1:=F0 hgi
   have c1:=Pg l[i] x
   rw [hgi] at hany
   dsimp only at hany
   rw [hany]
   simp only [go_sem,g1,decide_false,g3,g4,decide_true,a1]
   repeat' (first
    | (refine pK (c1) ?_;simp only [go_sem,g1,g3,g4,a1,decide_true,Ae])
    | ((first|apply cS|apply gS)<;>(intro hc;simp only [go_sem,hc,g1,g3,g4,a1,decide_true,Ae])))
   all_goals rfl
  ·have g3 : ¬ (i:Int)<(l.length:Int):=DF
   rw [List.getElem?_eq_none DF] at hany
   dsimp only at hany
   rw [hany]
   simp only [go_sem,g1,decide_false,g3]
   repeat' (first
    | ((first|apply cS|apply gS)<;>(intro hc;simp only [go_sem,hc,g1,g3])))
theorem AaY(l:List Head)(hs:KT l)(hl:l.length<=4611686018427387903)(x:Head):DR AA 208 [.sl none (En l),.agg x.c] (.bool (l.any λy=>decide (y=x))):=by
 have c1:=AS0 l hs hl x
 refine pC AKt rfl ?_
 simp only [f208,go_sem]
 repeat' (first
  | (refine pK (c1) ?_;simp only [go_sem])
  | ((first|apply cS|apply gS)<;>(intro hc;simp only [go_sem,hc])))
theorem ACm(l:List Head)(hs:KT l)(hl:l.length<=4611686018427387903)(x:Head)(H:DM)(oa:Nat)(w:Option Nat)(hA:H[oa]? =some (some [.sl w (En l)])):E5 AA 207 [.agg x.c,.ptr oa 0] H (.bool (l.any λy=>decide (y=x))):=by
 have c1:=AaY l hs hl x
 refine Dx.drop rfl ?_
 refine aC AKw rfl ?_
 have hA' : ∀ z,(H++z)[oa]? =some (some [.sl w (En l)]):=λz=>by
  have:=(AD.1 hA).1
  rw [AW this];exact hA
 simp only [f207,go_sem,hA']
 repeat' (first
  | (refine pK (c1) ?_;simp only [go_sem,hA'])
  | ((first|apply cS|apply gS)<;>(intro hc;simp only [go_sem,hc,hA'])))
theorem JR : ∀ (n m:Nat) (a b:List Head),a.length+b.length<n->a.length+b.length<m->Ht n a b=Ht m a b
 | 0,_,a,b,h,_=>DF
 | _,0,a,b,_,h=>DF
 | n+1,m+1,[],b,_,_=>rfl
 | n+1,m+1,x::a,[],_,_=>rfl
 | n+1,m+1,x::a,y::b,h1,h2=>by
  simp only [AC] at h1 h2
  rw [Ht,Ht,JR n m a (y::b) (by simp only [AC];omega) (by simp only [AC];omega),JR n m a b DF DF,JR n m (x::a) b (by simp only [AC];omega) (by simp only [AC];omega)]
theorem mG(a:List Head):Ga a []=a:=by cases a<;>rfl
theorem yf(x:Head)(a:List Head)(y:Head)(b:List Head):Ga (x::a) (y::b)=if Hb x y<0 then x::Ga a (y::b) else if Hb x y=0 then y::Ga a b else y::Ga (x::a) b:=by
 unfold Ga
 rw [Ht]
 simp only [AC]
 rw [JR (a.length+1+(b.length+1)) (a.length+(b.length+1)+1) a (y::b) (by simp only [AC];omega) (by simp only [AC];omega),JR (a.length+1+(b.length+1)) (a.length+b.length+1) a b DF DF,JR (a.length+1+(b.length+1)) (a.length+1+b.length+1) (x::a) b (by simp only [AC];omega) (by simp only [AC];omega)]
theorem Nh : ∀ (n:Nat) (a b:List Head),(Ht n a b).length<=a.length+b.length
 | 0,_,_=>by simp [Ht]
 | n+1,[],b=>by simp [Ht]
 | n+1,x::a,[]=>by simp [Ht]
 | n+1,x::a,y::b=>by
  have h1:=Nh n a (y::b)
  have h2:=Nh n a b
  have h3:=Nh n (x::a) b
  rw [Ht]
  simp only [AC] at h1 h3 ⊢
  split
  ·simp only [AC];omega
  ·split<;>simp only [AC]<;>omega
theorem Nm(x:Head)(l:List Head):(En (x::l)).drop 1=En l:=rfl
def ARG(x y:Option (Tmp×Nat×Bool))(e:Ee):Prop :=
 match x,y with
 | some (a,k,s),some (b,l,s')=>(s=true\/s'=true)/\match Ec e a,Ec e b with
  | .ptr o1 f1,.ptr o2 f2=>o1≠o2\/f1+k<=f2\/f2+l<=f1
  | _,_=>False
 | _,_=>False
theorem K1{P:Program}{h:Hint}{ops:Array Oper}{e:Ee}(L:List (Option (Tmp×Nat×Bool)×Option (Tmp×Nat×Bool)))(hT:((Q3 h ops).map λp=>(I6 P h p.1,I6 P h p.2))=L)(hL : ∀ q∈L,ARG q.1 q.2 e):IZ P h ops e:=λp hp=>by
 have:=hL _ (by rw [<- hT];exact AO.2 ⟨p,hp,rfl⟩)
 exact this
def Kv(l:List Head):Option (List AV):=some [.sl none (En l)]
theorem lf (o pa pb:Nat) (L:LoopRec) (Inv:List Head->List Head->List Head->DM->Prop) (hne:pa≠pb) (m:List Head) (hm:m.length<=4611686018427387903)
  (hA : ∀ out a b X,Inv out a b X->X[pa]? =some (Kv a)) (hB : ∀ out a b X,Inv out a b X->X[pb]? =some (Kv b)) (hG : ∀ out a b X x,Inv out a b X->Inv out a b (X++[x]))
  (hsA : ∀ out a b X a',Inv out a b X->Inv out a' b (X.set pa (Kv a'))) (hsB : ∀ out a b X b',Inv out a b X->Inv out a b' (X.set pb (Kv b')))
  (round : ∀ out a b x X,out++[x] <+: m->Inv out a b X->ME AA o L [.agg (Head.c x)] X λv X'=>v = .bool true/\Inv (out++[x]) a b X')
  (a b:List Head) (X:DM) (hab:Ga a b=m) (hl:a.length+b.length<=4611686018427387903) (h0:Inv [] a b X):Dx AA 261 [.yld o L,.ptr pa 0,.ptr pb 0] X λ_ X'=>Inv m [] [] X':=by
 refine aC AJU rfl ?_
 simp only [f261,go_sem]
 refine Jn (σ:=List Head×List Head×List Head×DM×Ee) (λs=>(0,.yld o L)::(1,.ptr pa 0)::(2,.ptr pb 0)::s.2.2.2.2) (λs=>s.2.2.2.1) (λs=>Inv s.1 s.2.1 s.2.2.1 s.2.2.2.1/\s.1++Ga s.2.1 s.2.2.1=m/\s.2.1.length+s.2.2.1.length<=4611686018427387903) (λs=>s.2.1.length+s.2.2.1.length) ([],a,b,X,[]) ⟨h0,hab,hl⟩ rfl rfl ?_
 rintro ⟨out,a,b,X,rest⟩ ⟨hI,hab,hl⟩
 clear h0
 dsimp only at hI hab hl ⊢
 have a0:=hA _ _ _ _ hI
 have b0:=hB _ _ _ _ hI
 have la:=(AD.1 a0).1
 have lb:=(AD.1 b0).1
 have eA : ∀ z,(X++z)[pa]? =some (Kv a):=λz=>by rw [AW la];exact a0
 have eB : ∀ z,(X++z)[pb]? =some (Kv b):=λz=>by rw [AW lb];exact b0
 have sA : ∀ y v,(X++[y]).set pa v=X.set pa v++[y]:=λy v=>BP _ _ la
 have sB : ∀ y v,(X++[y]).set pb v=X.set pb v++[y]:=λy v=>BP _ _ lb
 have tA : ∀ v x y,(X.set pa v++[x]).set X.length y=X.set pa v++[y]:=λv x y=>by
  have:=UI (X.set pa v) x y
  rwa [An] at this
 have tB : ∀ v x y,(X.set pb v++[x]).set X.length y=X.set pb v++[y]:=λv x y=>by
  have:=UI (X.set pb v) x y
  rwa [An] at this
 have gA : ∀ v x,(X.set pa v++[x])[X.length]? =some x:=λv x=>by rw [AM sm];simp
 have gB : ∀ v x,(X.set pb v++[x])[X.length]? =some x:=λv x=>by rw [AM sm];simp
 have nA:X.length≠pa:=DF
 have nB:X.length≠pb:=DF
 have nA2:pa≠X.length:=DF
 have nB2:pb≠X.length:=DF
 unfold Kv at a0 b0 eA eB
 have z1:((0:Int)<((0:Nat):Int))=False:=dc
 have z2:(((0:Nat):Int)==(0:Int))=true:=rfl
 cases a with
 | nil =>
  cases b with
  | nil =>
   have hm:out=m:=by rw [<- hab];exact (Ah _).symm
   rw [hm] at hI
   simp only [go_sem,a0,b0,AG,z1,z2,decide_false]
   repeat' (first
    | ((first|apply cS|apply gS)<;>(intro hc;simp only [go_sem,hc,a0,b0,AG,z1,z2,decide_false])))
   all_goals first|exact hI|skip
  | cons y b =>
   simp only [AC] at hl
   have n1:((0:Int)<((b.length+1:Nat):Int))=True:=eq_true DF
   have n2:(((b.length+1:Nat):Int)==(0:Int))=false:=by
    rw [beq_eq_false_iff_ne];omega
   have n3:=Nm y b
   have n4:(En (y::b))[0]? =some (.agg y.c):=rfl
   have hab2:out++[y]++Ga [] b=m:=by rw [<- hab,AF];rfl
   simp only [go_sem,a0,b0,eA,eB,sA,sB,tA,tB,gA,gB,AG,AC,z1,z2,n1,n2,n3,n4,decide_true,decide_false]
   rw [F7 _ _ _ (by simp only [go_sem]) rfl rfl]
   simp only [go_sem,a0,b0,eA,eB,sA,sB,tA,tB,gA,gB,AG,AC,z1,z2,n1,n2,n3,n4,decide_true,decide_false]
   refine ⟨DF,K1 [(some (2,1,false),some (5,10,true))] kr ?_, ?_⟩
   ·intro q hq
    rw [Al.1 hq]
    exact ⟨.inr rfl,.inl nB2⟩
   simp only [go_sem,a0,b0,eA,eB,sA,sB,tA,tB,gA,gB,AG,AC,z1,z2,n1,n2,n3,n4,decide_true,decide_false]
   refine M3.intro (round out [] b y _ ⟨_,hab2⟩ (hG _ _ _ _ _ (hsB _ _ _ _ b hI))) λv X' hr=>?_
   obtain ⟨rfl,hi⟩:=hr
   simp only [go_sem]
   exact ⟨(out++[y],[],b,X',[(46,.bool false)]),⟨hi,hab2,by simp only [AG];omega⟩,sm,rfl,rfl⟩
 | cons x a =>
  simp only [AC] at hl
  have m1:((0:Int)<((a.length+1:Nat):Int))=True:=eq_true DF
  have m2:(((a.length+1:Nat):Int)==(0:Int))=false:=by
   rw [beq_eq_false_iff_ne];omega
  have m3:=Nm x a
  have m4:(En (x::a))[0]? =some (.agg x.c):=rfl
  cases b with
  | nil =>
   have hab2:out++[x]++Ga a []=m:=by rw [<- hab,AF,mG,mG];rfl
   simp only [go_sem,a0,b0,eA,eB,sA,sB,tA,tB,gA,gB,AG,AC,z1,z2,m1,m2,m3,m4,decide_true,decide_false]
   rw [F7 _ _ _ (by simp only [go_sem]) rfl rfl]
   simp only [go_sem,a0,b0,eA,eB,sA,sB,tA,tB,gA,gB,AG,AC,z1,z2,m1,m2,m3,m4,decide_true,decide_false]
   refine ⟨DF,K1 [(some (1,1,false),some (5,10,true))] kr ?_, ?_⟩
   ·intro q hq
    rw [Al.1 hq]
    exact ⟨.inr rfl,.inl nA2⟩
   simp only [go_sem,a0,b0,eA,eB,sA,sB,tA,tB,gA,gB,AG,AC,z1,z2,m1,m2,m3,m4,decide_true,decide_false]
   refine M3.intro (round out a [] x _ ⟨_,hab2⟩ (hG _ _ _ _ _ (hsA _ _ _ _ a hI))) λv X' hr=>?_
   obtain ⟨rfl,hi⟩:=hr
   simp only [go_sem]
   exact ⟨(out++[x],a,[],X',[(46,.bool false)]),⟨hi,hab2,by simp only [AG];omega⟩,sm,rfl,rfl⟩
  | cons y b =>
   simp only [AC] at hl
   have n1:((0:Int)<((b.length+1:Nat):Int))=True:=eq_true DF
   have n2:(((b.length+1:Nat):Int)==(0:Int))=false:=by
    rw [beq_eq_false_iff_ne];omega
   have n3:=Nm y b
   have n4:(En (y::b))[0]? =some (.agg y.c):=rfl
   have c1:=Pg x y
   rw [yf] at hab
   by_cases q1:Hb x y<0
   ·rw [if_pos q1] at hab
    have k1 : ¬ 0<=Hb x y:=DF
    have k2:Hb x y<=0:=DF
    have hab2:out++[x]++Ga a (y::b)=m:=by rw [<- hab,AF];rfl
    simp only [go_sem,a0,b0,eA,eB,sA,sB,tA,tB,gA,gB,AG,AC,z1,z2,n1,n2,n3,n4,m1,m2,m3,m4,decide_true,decide_false]
    repeat' (first
     | (refine pK (c1) ?_;simp only [go_sem,a0,b0,eA,eB,sA,sB,tA,tB,gA,gB,AG,AC,z1,z2,n1,n2,n3,n4,m1,m2,m3,m4,k1,k2,decide_true,decide_false])
     | ((first|apply cS|apply gS)<;>(intro hc;simp only [go_sem,hc,a0,b0,eA,eB,sA,sB,tA,tB,gA,gB,AG,AC,z1,z2,n1,n2,n3,n4,m1,m2,m3,m4,k1,k2,decide_true,decide_false])))
    rw [F7 _ _ _ (by simp only [go_sem]) rfl rfl]
    simp only [go_sem,a0,b0,eA,eB,sA,sB,tA,tB,gA,gB,AG,AC,z1,z2,m1,m2,m3,m4,decide_true,decide_false]
    refine ⟨DF,K1 [(some (1,1,false),some (5,10,true))] kr ?_, ?_⟩
    ·intro q hq
     rw [Al.1 hq]
     exact ⟨.inr rfl,.inl nA2⟩
    simp only [go_sem,a0,b0,eA,eB,sA,sB,tA,tB,gA,gB,AG,AC,z1,z2,m1,m2,m3,m4,decide_true,decide_false]
    refine M3.intro (round out a (y::b) x _ ⟨_,hab2⟩ (hG _ _ _ _ _ (hsA _ _ _ _ a hI))) λv X' hr=>?_
    obtain ⟨rfl,hi⟩:=hr
    simp only [go_sem]
    exact ⟨(out++[x],a,y::b,X',[(46,.bool false)]),⟨hi,hab2,by simp only [AC];omega⟩,by simp only [AC];omega,rfl,rfl⟩
   ·rw [if_neg q1] at hab
    have k1:0<=Hb x y:=DF
    by_cases q2:Hb x y=0
    ·rw [if_pos q2] at hab
     have hxy:=Q8 q2
     subst hxy
     have k2:Hb x x<=0:=DF
     have hab2:out++[x]++Ga a b=m:=by rw [<- hab,AF];rfl
     have la':pa<(X.set pb (some [.sl none (En b)])).length:=by simpa using la
     have eA2 : ∀ v,(X.set pb v)[pa]? =some (some [.sl none (En (x::a))]):=λv=>by rw [A6 hne.symm];exact a0
     have eA3 : ∀ v z,(X.set pb v++z)[pa]? =some (some [.sl none (En (x::a))]):=λv z=>by rw [AW (by simpa using la)];exact eA2 v
     have sA3 : ∀ w y v,(X.set pb w++[y]).set pa v=(X.set pb w).set pa v++[y]:=λw y v=>BP _ _ (by simpa using la)
     have tA3 : ∀ w v x y,((X.set pb w).set pa v++[x]).set X.length y=(X.set pb w).set pa v++[y]:=λw v x y=>by
      have:=UI ((X.set pb w).set pa v) x y
      rwa [An,An] at this
     have gA3 : ∀ w v x,((X.set pb w).set pa v++[x])[X.length]? =some x:=λw v x=>by rw [AM sm];simp
     simp only [go_sem,a0,b0,eA,eB,sA,sB,tA,tB,gA,gB,AG,AC,z1,z2,n1,n2,n3,n4,m1,m2,m3,m4,decide_true,decide_false]
     repeat' (first
      | (refine pK (c1) ?_;simp only [go_sem,a0,b0,eA,eB,sA,sB,tA,tB,gA,gB,AG,AC,z1,z2,n1,n2,n3,n4,m1,m2,m3,m4,k1,k2,decide_true,decide_false])
      | ((first|apply cS|apply gS)<;>(intro hc;simp only [go_sem,hc,a0,b0,eA,eB,sA,sB,tA,tB,gA,gB,AG,AC,z1,z2,n1,n2,n3,n4,m1,m2,m3,m4,k1,k2,decide_true,decide_false])))
     rw [F7 _ _ _ (by simp only [go_sem]) rfl rfl]
     simp only [go_sem,a0,b0,eA,eB,sA,sB,tA,tB,gA,gB,AG,AC,z1,z2,n1,n2,n3,n4,decide_true,decide_false]
     refine ⟨DF,K1 [(some (2,1,false),some (5,10,true))] kr ?_, ?_⟩
     ·intro q hq
      rw [Al.1 hq]
      exact ⟨.inr rfl,.inl nB2⟩
     simp only [go_sem,a0,b0,eA,eB,sA,sB,tA,tB,gA,gB,AG,AC,z1,z2,n1,n2,n3,n4,k2,eA3,decide_true,decide_false]
     rw [F7 _ _ _ (by simp only [go_sem]) rfl rfl]
     simp only [go_sem,a0,b0,eA,eB,sA,sB,tA,tB,gA,gB,AG,AC,z1,z2,m1,m2,m3,m4,eA3,sA3,tA3,gA3,decide_true,decide_false]
     refine ⟨DF,K1 [(some (1,1,false),some (5,10,true))] kr ?_, ?_⟩
     ·intro q hq
      rw [Al.1 hq]
      exact ⟨.inr rfl,.inl nA2⟩
     simp only [go_sem,a0,b0,eA,eB,sA,sB,tA,tB,gA,gB,AG,AC,z1,z2,m1,m2,m3,m4,eA3,sA3,tA3,gA3,decide_true,decide_false]
     refine M3.intro (round out a b x _ ⟨_,hab2⟩ (hG _ _ _ _ _ (hsA _ _ _ _ a (hsB _ _ _ _ b hI)))) λv X' hr=>?_
     obtain ⟨rfl,hi⟩:=hr
     simp only [go_sem]
     exact ⟨(out++[x],a,b,X',[(46,.bool false)]),⟨hi,hab2,by simp only [AC];omega⟩,by simp only [AC];omega,rfl,rfl⟩
    ·rw [if_neg q2] at hab
     have k2 : ¬ Hb x y<=0:=DF
     have hab2:out++[y]++Ga (x::a) b=m:=by rw [<- hab,AF];rfl
     simp only [go_sem,a0,b0,eA,eB,sA,sB,tA,tB,gA,gB,AG,AC,z1,z2,n1,n2,n3,n4,m1,m2,m3,m4,decide_true,decide_false]
     repeat' (first
      | (refine pK (c1) ?_;simp only [go_sem,a0,b0,eA,eB,sA,sB,tA,tB,gA,gB,AG,AC,z1,z2,n1,n2,n3,n4,m1,m2,m3,m4,k1,k2,decide_true,decide_false])
      | ((first|apply cS|apply gS)<;>(intro hc;simp only [go_sem,hc,a0,b0,eA,eB,sA,sB,tA,tB,gA,gB,AG,AC,z1,z2,n1,n2,n3,n4,m1,m2,m3,m4,k1,k2,decide_true,decide_false])))
     rw [F7 _ _ _ (by simp only [go_sem]) rfl rfl]
     simp only [go_sem,a0,b0,eA,eB,sA,sB,tA,tB,gA,gB,AG,AC,z1,z2,n1,n2,n3,n4,decide_true,decide_false]
     refine ⟨DF,K1 [(some (2,1,false),some (5,10,true))] kr ?_, ?_⟩
     ·intro q hq
      rw [Al.1 hq]
      exact ⟨.inr rfl,.inl nB2⟩
     simp only [go_sem,a0,b0,eA,eB,sA,sB,tA,tB,gA,gB,AG,AC,z1,z2,n1,n2,n3,n4,k2,decide_true,decide_false]
     refine M3.intro (round out (x::a) b y _ ⟨_,hab2⟩ (hG _ _ _ _ _ (hsB _ _ _ _ b hI))) λv X' hr=>?_
     obtain ⟨rfl,hi⟩:=hr
     simp only [go_sem]
     exact ⟨(out++[y],x::a,b,X',[(46,.bool false)]),⟨hi,hab2,by simp only [AC];omega⟩,by simp only [AC];omega,rfl,rfl⟩
def Ey(l:List Head):List AV:=(l.map Head.c).flatten
theorem Hd(x:Head)(l:List Head):Ey (x::l)=x.c++Ey l:=rfl
theorem Ia : ∀ l:List Head,(Ey l).length=l.length*10
 | []=>rfl
 | x::l=>by
  rw [Hd,AE,Ia l,AC]
  have:x.c.length=10:=rfl
  omega
theorem WC : ∀ (l:List Head) (r:List AV) (k:Nat) (y:Head),l[k]? =some y->((Ey l++r).drop (k*10)).take 10=y.c
 | [],_,_,_,h=>by simp at h
 | x::l,r,0,y,h=>by
  simp only [A8,Option.some.injEq] at h
  subst h
  rfl
 | x::l,r,k+1,y,h=>by
  rw [Hd,AF]
  have e:(k+1)*10=x.c.length+k*10:=by
   have:x.c.length=10:=rfl
   omega
  rw [e,<- A9,List.drop_left]
  exact WC l r k y (by simpa using h)
theorem iV{l:List Head}(r:List AV){k:Nat}{y:Head}(h:l[k]? =some y):k*10+10<=(Ey l++r).length:=by
 have:=(AD.1 h).1
 rw [AE,Ia]
 omega
def fq(d:Head->Bool):Nat->List Head->Int
 | _,[] => -1
 | k,x::r=>if d x=true then (k:Int) else fq d (k+1) r
theorem yI(l:List Head)(hl:l.length<=9223372036854775807)(r:List AV)(H:DM)(o:Nat)(ho:H[o]? =some (some (Ey l++r)))(f:Nat)(first cap:List AV)(d:Head->Bool)(hd : ∀ x∈l,E5 AA f (first.map AV.borrow++(.agg (Head.c x)::cap.map AV.borrow)) H (.bool (d x))):
  E5 AA 263 [.msl o 0 l.length 10,.fn (.func f) first cap] H (.int .i64 (fq d 0 l)):=by
 refine aC zZ rfl ?_
 simp only [f263,go_sem]
 refine EP l (λr=>fq d (l.length - r.length) r) (λk=>[(0,.msl o 0 l.length 10),(1,.fn (.func f) first cap),(7,.int .i64 l.length),(8,.int .i64 k)]) hl rfl ?_ ?_
 ·intro k y ys hdr hx hF h0 h1 hw
  have c1:=hd y (AB hx)
  have g1:=iV r hx
  have g2:=WC l r k y hx
  have hk2:=Eb hdr
  have e1:l.length - (ys.length+1)=k:=DF
  have e2:l.length - ys.length=k+1:=DF
  simp only [AC,e1,AQ] at hF
  simp only [go_sem,h0,h1,ho,g1,g2,e1,e2]
  repeat' (first
   | (refine aS (c1) ?_;simp only [go_sem,h0,h1,hw,ho,g1,g2,e1,e2])
   | ((first|apply cS|apply gS)<;>(intro hc;simp only [go_sem,hc,h0,h1,hw,ho,g1,g2,e1,e2])))
  ·rw [hF,fq,if_pos hc]
  ·rw [fq,if_neg (by rw [hc];decide)]
 ·intro hF hlt
  simp only [go_sem,hlt,decide_false]
  rw [AQ] at hF
  rw [hF];rfl
def hM2:Hint:={ SN with tk:=[] }
@[go_sem] theorem AbU:hM2.lv 3=[5,6]/\hM2.lv 4=[0]:=dk
set_option linter.defProp false in
@[go_sem] def AbT:=DV hM2 rfl rfl rfl
@[go_sem] theorem AbS:hM2.tk=[]/\hM2.mt=[5,14]/\hM2.pc=[]:=⟨rfl,rfl,rfl⟩
theorem xz(a b:List Head)(H:DM):Dx AA 205 [.sl none (En a),.sl none (En b)] H λv H'=>v = .fn (.func 261) [] [.ptr H.length 0,.ptr (H.length+1) 0]/\H'=H++[Kv a,Kv b]:=by
 refine aC AK1 rfl ?_
 simp only [f205,go_sem,AE,AF,AS,AN]
 all_goals first|rfl|exact ⟨rfl,rfl⟩
theorem AF0 {P:Program} {n tag N:Nat} {h:Hint} {g:Operand} {rs:Array Tmp} {assign body:Code} {Q:Exit->Kt} {e:Ee} {H:DM} {f:FuncId} {first captured:List AV} (hN:H.length=N)
  (hg:Fj P none e g = .fn (.func f) first captured)
  (hc:Dx P f (first.map AV.borrow++[.yld N ⟨tag,rs,assign,body⟩]++captured.map AV.borrow) (H++[some (Fl 0 (GK n e))]) (λ_ H2=>xX N Q e H2)):rfK P n h none g rs assign body Q e H:=by
 subst hN
 exact YY hg hc
def MI(H:DM)(fv:List AV)(out a b:List Head)(X:DM):Prop :=
 H.length+4<=X.length/\X.take H.length=H/\X[H.length+1]? =some (Kv a)/\X[H.length+2]? =some (Kv b)/\X[H.length+3]? =some (some (Fl 0 fv)) /\
  ∃ ov,X[H.length]? =some (some [ov])/\((out=[]/\ov = .sl (some 0) []) \/ ∃ ob,ov = .msl ob 0 out.length 10/\out≠[]/\H.length+4<=ob/\X[ob]? =some (some (Ey out)))
theorem Dg{X:DM}{i:Nat}{c:Option (List AV)}(h:X[i]? =some c)(z:DM):(X++z)[i]? =some c:=by
 rw [AW (AD.1 h).1];exact h
theorem Et{X:DM}{i j:Nat}{c:Option (List AV)}(h:X[i]? =some c)(hne:j≠i)(v:Option (List AV)):(X.set j v)[i]? =some c:=by
 rw [A6 hne];exact h
theorem HG{X:DM}{i:Nat}(h:i<X.length)(v:Option (List AV)):(X.set i v)[i]? =some v:=by
 rw [Az h]
theorem MI.grow{H:DM}{fv:List AV}{out a b:List Head}{X:DM}(h:MI H fv out a b X)(x:Option (List AV)):MI H fv out a b (X++[x]):=by
 obtain ⟨h1,h2,h3,h4,h5,ov,h6,h7⟩:=h
 refine ⟨by simp;omega,by rw [C1 DF];exact h2,Dg h3 _,Dg h4 _,Dg h5 _,ov,Dg h6 _, ?_⟩
 rcases h7 with h7|⟨ob,g1,g2,g3,g4⟩
 ·exact .inl h7
 ·exact .inr ⟨ob,g1,g2,g3,Dg g4 _⟩
theorem MI.setA{H:DM}{fv:List AV}{out a b:List Head}{X:DM}(h:MI H fv out a b X)(a':List Head):MI H fv out a' b (X.set (H.length+1) (Kv a')):=by
 obtain ⟨h1,h2,h3,h4,h5,ov,h6,h7⟩:=h
 refine ⟨by simpa using h1,by rw [CQ DF];exact h2,HG DF _,Et h4 DF _,Et h5 DF _,ov,Et h6 DF _, ?_⟩
 rcases h7 with h7|⟨ob,g1,g2,g3,g4⟩
 ·exact .inl h7
 ·exact .inr ⟨ob,g1,g2,g3,Et g4 DF _⟩
theorem MI.setB{H:DM}{fv:List AV}{out a b:List Head}{X:DM}(h:MI H fv out a b X)(b':List Head):MI H fv out a b' (X.set (H.length+2) (Kv b')):=by
 obtain ⟨h1,h2,h3,h4,h5,ov,h6,h7⟩:=h
 refine ⟨by simpa using h1,by rw [CQ DF];exact h2,Et h3 DF _,HG DF _,Et h5 DF _,ov,Et h6 DF _, ?_⟩
 rcases h7 with h7|⟨ob,g1,g2,g3,g4⟩
 ·exact .inl h7
 ·exact .inr ⟨ob,g1,g2,g3,Et g4 DF _⟩
theorem MI.put {H:DM} {fv:List AV} {a b:List Head} {X:DM} (h1:H.length+4<=X.length) (h2:X.take H.length=H) (h3:X[H.length+1]? =some (Kv a)) (h4:X[H.length+2]? =some (Kv b)) (z:DM) {out:List Head} {ob:Nat} (hne:out≠[]) (hob:H.length+4<=ob)
  (hr:((X.set H.length (some [.msl ob 0 out.length 10])).set (H.length+3) (some (Fl 0 fv))++z)[ob]? =some (some (Ey out))):MI H fv out a b ((X.set H.length (some [.msl ob 0 out.length 10])).set (H.length+3) (some (Fl 0 fv))++z):=by
 refine ⟨by simp;omega, ?_,Dg (Et (Et h3 DF _) DF _) _,Dg (Et (Et h4 DF _) DF _) _,Dg (HG (by simp;omega) _) _,_,Dg (Et (HG DF _) DF _) _,.inr ⟨ob,rfl,hne,hob,hr⟩⟩
 rw [C1 (by simp;omega),CQ DF,CQ DF]
 exact h2
theorem WD : ∀ l:List Head,(Ey l).map borrow1=Ey l
 | []=>rfl
 | x::l=>by
  rw [Hd,As,WD l]
  rfl
theorem iW(l:List Head)(x:Head):Ey (l++[x])=Ey l++x.c:=by
 unfold Ey
 simp
theorem AAD{H X:DM}(h:X.take H.length=H): ∃ ext,X=H++ext:=⟨X.drop H.length,by
 have:=List.take_append_drop H.length X
 rw [h] at this
 exact this.symm⟩
def mFv(n:Nat):List AV:=GK 16 [(5,.ptr n 0),(9,.fn (.func 261) [] [.ptr (n+1) 0,.ptr (n+2) 0])]
theorem U1(a b:List Head)(hl:a.length+b.length<=1048576)(H:DM):Dx AA 140 [.sl none (En a),.sl none (En b)] H λv H'=>Rl ((Ga a b).map Head.c) v H H':=by
 have hml:(Ga a b).length<=1048576:=Nat.le_trans (Nh _ a b) hl
 refine aC ANx rfl ?_
 simp only [f140,go_sem]
 refine ⟨by first|rfl|kernel_rfl,Eh.intro (xz a b _) λv H' hr=>?_⟩
 obtain ⟨rfl,rfl⟩:=hr
 simp only [go_sem,AE,AF,AS,AN,AC,AG,AP,Nat.reduceAdd]
 refine AF0 (tag:=140) (N:=H.length+3) sm rfl (Dx.mono (lf (H.length+3) (H.length+1) (H.length+2) _ (MI H (mFv H.length)) DF (Ga a b) DF (λ_ _ _ _ h=>h.2.2.1) (λ_ _ _ _ h=>h.2.2.2.1) (λ_ _ _ _ x h=>h.grow x) (λ_ _ _ _ a' h=>h.setA a') (λ_ _ _ _ b' h=>h.setB b') ?_ a b _ rfl DF ?_) λv H2 hq=>?_)
 ·intro out a b x X hpre hI
  have hlen:=hpre.length_le
  simp only [AE,AC,AG] at hlen
  obtain ⟨h1,h2,h3,h4,h5,ov,h6,h7⟩:=hI
  have f1 : ∀ z,(X++z)[H.length+3]? =some (some (Fl 0 (mFv H.length))):=Dg h5
  have f2 : ∀ y v,(X++[y]).set (H.length+3) v=X.set (H.length+3) v++[y]:=λy v=>BP _ _ DF
  have f3 : ∀ v z,(X.set (H.length+3) v++z)[H.length]? =some (some [ov]):=λv z=>Dg (Et h6 DF v) z
  have f4 : ∀ v y,(X.set (H.length+3) v++[y])[X.length]? =some y:=λv y=>by
   have:X.length=(X.set (H.length+3) v).length:=sm
   rw [this];exact Bj
  rcases h7 with ⟨rfl,rfl⟩|⟨ob,rfl,hne,hob,hrow⟩
  ·have f5 : ∀ v z w,(X.set (H.length+3) v++z).set H.length w=(X.set (H.length+3) v).set H.length w++z:=λv z w=>BP _ _ (by simp;omega)
   have f6 : ∀ v w z,((X.set (H.length+3) v).set H.length w++z)[H.length+3]? =some v:=λv w z=>Dg (Et (HG DF v) DF w) z
   have f7 : ∀ v w z u,((X.set (H.length+3) v).set H.length w++z).set (H.length+3) u=(X.set H.length w).set (H.length+3) u++z:=λv w z u=>by
    rw [BP _ _ (by simp;omega),B8 _ _ DF,BB,B8 _ _ DF]
   have f8 : ∀ v w y z,((X.set (H.length+3) v).set H.length w++(y::z))[X.length]? =some y:=λv w y z=>by
    have:X.length=((X.set (H.length+3) v).set H.length w).length:=sm
    rw [this,AM (AU _),AQ];rfl
   have f9 : ∀ v w z u,((X.set (H.length+3) v).set H.length w++z).set H.length u=(X.set (H.length+3) v).set H.length u++z:=λv w z u=>by
    rw [BP _ _ (by simp;omega),BB]
   have f10 : ∀ v w z,((X.set (H.length+3) v).set H.length w++z)[H.length]? =some w:=λv w z=>Dg (HG (by simp;omega) w) z
   have hc1:x.c.length=10:=rfl
   have hc2:x.c.take 10=x.c:=rfl
   have hb1:List.map borrow1 (F4 [AV.agg x.c])=Ey [x]:=rfl
   refine KR (h:=SN) (n:=16) mixed rfl ⟨kr,kr⟩ dc _ _ _ _ h5 rfl rfl ?_
   show Hw _ _ _ _ _ _ [(10,.agg x.c),(0,.undef),(1,.undef),(2,.undef),(3,.undef),(4,.undef),(5,.ptr H.length 0),(6,.undef),(7,.undef),(8,.undef),(9,.fn (.func 261) [] [.ptr (H.length+1) 0,.ptr (H.length+2) 0]),(10,.undef),(11,.undef),(12,.undef),(13,.undef),(14,.undef),(15,.undef)] _
   simp only [go_sem,f1]
   refine ⟨_,rfl, ?_⟩
   simp only [go_sem,f1,f2,f3,f4,f5,f6,f7,f8,f9,f10,hb1,hc1,hc2,AF,AS,AN,AE,An,AC,AG,AY]
   refine ⟨_,rfl, ?_⟩
   have hlX : ∀ w u,((X.set H.length w).set (H.length+3) u).length=X.length:=λw u=>sm
   have:=MI.put (fv:=mFv H.length) h1 h2 h3 h4 [some x.c,some (Ey [x])] (out:=[x]) (ob:=X.length+1) sm DF (by rw [AM (by rw [hlX];omega),hlX,A3];rfl)
   exact this
  ·have hX2 : ∀ v,X.set (H.length+3) v=X.set (H.length+3) v:=λ_=>rfl
   have hoX:=(AD.1 hrow).1
   have f5 : ∀ v z,(X.set (H.length+3) v++z)[ob]? =some (some (Ey out)):=λv z=>Dg (Et hrow DF v) z
   have f6 : ∀ v z,(X.set (H.length+3) v++z).set ob none=(X.set (H.length+3) v).set ob none++z:=λv z=>BP _ _ (by simp;omega)
   have f8 : ∀ v z,((X.set (H.length+3) v).set ob none++z)[H.length]? =some (some [.msl ob 0 out.length 10]):=λv z=>Dg (Et (Et h6 DF v) DF none) z
   have f9 : ∀ v z w,((X.set (H.length+3) v).set ob none++z).set H.length w=((X.set (H.length+3) v).set ob none).set H.length w++z:=λv z w=>BP _ _ (by simp;omega)
   have f10 : ∀ v w z,(((X.set (H.length+3) v).set ob none).set H.length w++z)[H.length+3]? =some v:=λv w z=>Dg (Et (Et (HG DF v) DF none) DF w) z
   have f11 : ∀ v w z u,(((X.set (H.length+3) v).set ob none).set H.length w++z).set (H.length+3) u=((X.set ob none).set H.length w).set (H.length+3) u++z:=λv w z u=>by
    rw [BP _ _ (by simp;omega)]
    congr 1
    rw [B8 _ _ (show H.length≠H.length+3 by omega),B8 _ _ (show ob≠H.length+3 by omega),BB,B8 _ _ (show H.length+3≠ob by omega),B8 _ _ (show H.length+3≠H.length by omega)]
   have hcl:(Ey out).length=out.length*10:=Ia out
   have hcb:(Ey out).map borrow1=Ey out:=WD out
   have hc1:x.c.length=10:=rfl
   have hc2:x.c.take 10=x.c:=rfl
   have hb1:List.map borrow1 (F4 [AV.agg x.c])=x.c:=rfl
   refine KR (h:=hM2) (n:=16) mixed rfl ⟨kr,kr⟩ dc _ _ _ _ h5 rfl rfl ?_
   show Hw _ _ _ _ _ _ [(10,.agg x.c),(0,.undef),(1,.undef),(2,.undef),(3,.undef),(4,.undef),(5,.ptr H.length 0),(6,.undef),(7,.undef),(8,.undef),(9,.fn (.func 261) [] [.ptr (H.length+1) 0,.ptr (H.length+2) 0]),(10,.undef),(11,.undef),(12,.undef),(13,.undef),(14,.undef),(15,.undef)] _
   simp only [go_sem,f1]
   refine ⟨_,rfl, ?_⟩
   simp only [go_sem,f1,f2,f3,f4,f5,f6,f8,f9,f10,f11,hcl,hcb,hc1,hc2,hb1,AF,AS,AN,AE,An,AC,AG,AY]
   have hX1:H.length+4<=(X.set ob none).length:=by simpa using h1
   have hX2:(X.set ob none).take H.length=H:=by rw [CQ DF];exact h2
   have hlX : ∀ w u,(((X.set ob none).set H.length w).set (H.length+3) u).length=X.length:=λw u=>sm
   refine ⟨DF,DF,_,rfl, ?_⟩
   have:=MI.put (fv:=mFv H.length) hX1 hX2 (Et h3 DF none) (Et h4 DF none) [some x.c,some (Ey out++x.c)] (out:=out++[x]) (ob:=X.length+1) sm DF (by rw [AM (by rw [hlX];omega),hlX,A3,iW];rfl)
   simpa only [AE,AC,AG,AY] using this
 ·refine ⟨sm,by rw [AF,List.take_left], ?_, ?_, ?_,.sl (some 0) [], ?_,.inl ⟨rfl,rfl⟩⟩
  ·rw [AF,AM DF,A3];rfl
  ·rw [AF,AM DF,A3];rfl
  ·rw [AF,AM DF,A3];rfl
  ·rw [AF,AM (AU _),AQ];rfl
 ·obtain ⟨h1,h2,h3,h4,h5,ov,h6,h7⟩:=hq
  refine ⟨0,_,h5,.inl ⟨rfl, ?_⟩⟩
  have hext : ∃ ext,H2.set (H.length+3) none=H++ext:=AAD (by rw [CQ DF];exact h2)
  have g6:=Et h6 (show H.length+3≠H.length by omega) none
  rcases h7 with ⟨e,rfl⟩|⟨ob,rfl,hne,hob,hrow⟩
  ·simp only [go_sem,g6]
   exact .inl ⟨by rw [e];rfl,⟨_,rfl⟩,hext⟩
  ·simp only [go_sem,g6]
   exact .inr ⟨ob,_,by rw [Aq],DF,hext,Et hrow DF none,[],(Ah _).symm⟩
theorem Pu{l:List Head}: ∀ e∈l.map Head.c,e.length=10:=λe he=>by
 obtain ⟨x,_,rfl⟩:=AO.1 he
 rfl
theorem fw{l:List Head}: ∀ e∈l.map Head.c,e.map borrow1=e:=λe he=>by
 obtain ⟨x,_,rfl⟩:=AO.1 he
 rfl
theorem Mk{l:List Head}{n:Nat}: ∀ e∈l.map Head.c,EZ n e=true:=λe he=>by
 obtain ⟨x,_,rfl⟩:=AO.1 he
 rfl
theorem Nt(l:List Head):(l.map Head.c).map AV.agg=En l:=by rw [List.map_map];rfl
theorem MZ(a b:List Head)(hl:a.length+b.length<=1048576)(H:DM):E5 AA 140 [.sl none (En a),.sl none (En b)] H (.sl none (En (Ga a b))):=by
 have:=wS Pu Mk fw (U1 a b hl H)
 rw [Nt] at this
 exact this
def MW:Option (List Head)->AV
 | some r => .tup [.sl none (En r),.bool true]
 | none => .tup [.sl none [],.bool false]
@[go_sem] theorem ARp(o:Option (List Head)):(MW o).pure=true:=by
 cases o<;>simp [MW,AV.pure,DY,go_sem]
theorem Kr(r:List Head)(b:Bool):DR AA 139 [.sl none (En r),.bool b] (MW (if b=true then WJ r else none)):=by
 refine pB nz rfl ?_
 cases b with
 | false =>
  simp only [f139,go_sem]
  rfl
 | true =>
  simp only [f139,go_sem]
  repeat' (first
   | ((first|apply cS|apply gS)<;>(intro hc;simp only [go_sem,hc])))
  ·rw [WJ,if_pos (by have:=of_decide_eq_true hc;omega)];rfl
  ·rw [WJ,if_neg (by have:=of_decide_eq_false hc;omega)];rfl
theorem xp(o n:Nat)(b:Bool)(H:DM):Dx AA 139 [.msl o 0 n 10,.bool b] H λv H'=>H'=H/\((b=true/\n<=256/\v = .tup [.msl o 0 n 10,.bool true])\/((b=false\/256<n) /\ ∃ w,v = .tup [.sl w [],.bool false])):=by
 refine aC nz rfl ?_
 cases b with
 | false =>
  simp only [f139,go_sem]
  exact .inr ⟨.inl trivial,_,rfl⟩
 | true =>
  simp only [f139,go_sem]
  repeat' (first
   | ((first|apply cS|apply gS)<;>(intro hc;simp only [go_sem,hc])))
  ·have hc:=of_decide_eq_true hc
   first|exact ⟨rfl,.inr ⟨.inr DF,_,rfl⟩⟩|exact .inr ⟨.inr DF,_,rfl⟩|skip
  ·have hc:=of_decide_eq_false hc
   exact .inl DF
theorem xq(w:Option Nat)(b:Bool)(H:DM):Dx AA 139 [.sl w [],.bool b] H λv H'=>H'=H /\ ∃ w2,v = .tup [.sl w2 [],.bool b]:=by
 have z1:decide ((256:Int)<((0:Nat):Int))=false:=dc
 refine aC nz rfl ?_
 cases b<;>cases w<;>simp only [f139,go_sem,AG,z1]
 all_goals first|exact ⟨_,rfl⟩|exact ⟨rfl,_,rfl⟩|skip
theorem PB{α:Type}(l:List α)(i:Nat)(x:α)(h:i<l.length):(l.set i x).take (i+1)=l.take i++[x]:=by
 rw [BF,Az h,CQ (AU _)];rfl
theorem P1 : ∀ (l:List Head) (r:List AV) (i:Nat),i<=l.length->(Ey l++r).take (i*10)=Ey (l.take i)
 | _,r,0,_=>by simp [Ey]
 | [],r,i+1,h=>by simp at h
 | x::l,r,i+1,h=>by
  have e:(i+1)*10=x.c.length+i*10:=by
   have:x.c.length=10:=rfl
   omega
  rw [Hd,AF,e,List.take_length_add_append,P1 l r i (by simpa using h),CO,Hd]
theorem WB : ∀ (l:List Head) (r:List AV) (i:Nat),i<=l.length->(Ey l++r).drop (i*10)=Ey (l.drop i)++r
 | _,r,0,_=>sm
 | [],r,i+1,h=>by simp at h
 | x::l,r,i+1,h=>by
  have e:(i+1)*10=x.c.length+i*10:=by
   have:x.c.length=10:=rfl
   omega
  rw [Hd,AF,e,List.drop_length_add_append,WB l r i (by simpa using h),List.drop_succ_cons]
theorem pM(a b:List Head):Ey (a++b)=Ey a++Ey b:=by unfold Ey;simp
theorem Zb{l:List Head}(r:List AV){i:Nat}(h:i<l.length)(x:Head):splice (Ey l++r) (i*10) x.c=Ey (l.set i x)++r:=by
 have e:i*10+x.c.length=(i+1)*10:=by
  have:x.c.length=10:=rfl
  omega
 unfold splice
 rw [e,P1 l r i DF,WB l r (i+1) DF,List.set_eq_take_append_cons_drop,if_pos h,pM,Hd]
 simp only [AF]
theorem Yt(d:Head->Bool): ∀ (l:List Head) (k:Nat),(fq d k l = -1 /\ ∀ x∈l,d x=false) \/ ∃ (i:Nat) (x:Head),fq d k l=((k+i:Nat):Int)/\l[i]? =some x/\d x=true /\ ∀ y∈l.take i,d y=false
 | [],k => .inl ⟨rfl,sm⟩
 | x::r,k=>by
  rw [fq]
  by_cases h:d x=true
  ·rw [if_pos h]
   exact .inr ⟨0,x,rfl,rfl,h,sm⟩
  ·rw [if_neg h]
   have h:d x=false:=by simpa using h
   rcases Yt d r (k+1) with ⟨e,h2⟩|⟨i,y,e,h2,h3,h4⟩
   ·exact .inl ⟨e,by simpa [h] using h2⟩
   ·refine .inr ⟨i+1,y,by rw [e];congr 1;omega,h2,h3, ?_⟩
    rw [CO]
    intro z hz
    rcases AZ.1 hz with rfl|hz
    ·exact h
    ·exact h4 z hz
theorem lk(H:DM)(f:Nat)(first cap:List AV):E5 AA 263 [.sl none [],.fn (.func f) first cap] H (.int .i64 (-1)):=by
 refine aC zZ rfl ?_
 simp only [f263,go_sem]
 refine EP ([]:List Head) (λ_=>()) (λk=>[(0,.sl none []),(1,.fn (.func f) first cap),(7,.int .i64 ((0:Nat):Int)),(8,.int .i64 k)]) sm rfl ?_ ?_
 ·intro k y ys hd
  rw [List.drop_nil] at hd;cases hd
 ·intro _ hlt
  have z2:decide (((0:Nat):Int)<((0:Nat):Int))=false:=dc
  simp only [go_sem,z2]
theorem Zn(w:Option Nat)(H:DM)(f:Nat)(first cap:List AV):Dx AA 206 [.sl w [],.fn (.func f) first cap] H λv H'=>H'=H /\ ∃ w2,v = .sl w2 []:=by
 have c1:=lk H f first cap
 have z1:((-1:Int) == -1)=true:=rfl
 refine aC zg rfl ?_
 cases w with
 | none =>
  simp only [f206,go_sem]
  repeat' (first
   | (refine aS (c1) ?_;simp only [go_sem,z1])
   | ((first|apply cS|apply gS)<;>(intro hc;simp only [go_sem,hc,z1])))
  all_goals first|exact ⟨_,rfl⟩|exact ⟨rfl,_,rfl⟩|skip
 | some w =>
  simp only [f206,go_sem]
  repeat' (first
   | (refine aS (c1) ?_;simp only [go_sem,z1])
   | ((first|apply cS|apply gS)<;>(intro hc;simp only [go_sem,hc,z1])))
  all_goals first|exact ⟨_,rfl⟩|exact ⟨rfl,_,rfl⟩|skip
theorem tG (l:List Head) (hl:l.length<=1048576) (r:List AV) (H:DM) (o:Nat) (ho:H[o]? =some (some (Ey l++r))) (f:Nat) (first cap:List AV) (d:Head->Bool)
  (hd : ∀ x∈l,∀ c J,E5 AA f (first.map AV.borrow++(.agg (Head.c x)::cap.map AV.borrow)) (H.set o (some c)++J) (.bool (d x))) :
  Dx AA 206 [.msl o 0 l.length 10,.fn (.func f) first cap] H λv H' => ∃ r' J,v = .msl o 0 (l.filter λx => !d x).length 10/\H'=H.set o (some (Ey (l.filter λx => !d x)++r'))++J:=by
 have hset:H.set o (some (Ey l++r))=H:=by
  obtain ⟨hlt,he⟩:=AD.1 ho
  apply List.ext_getElem?
  intro i
  rw [List.getElem?_set]
  split
  ·rename_i hi;subst hi;rw [ho]
  ·rfl
 have hd0 : ∀ x∈l,E5 AA f (first.map AV.borrow++(.agg (Head.c x)::cap.map AV.borrow)) H (.bool (d x)):=λx hx=>by
  have:=hd x hx (Ey l++r) []
  rw [hset,Ah] at this
  exact this
 have c1:=yI l DF r H o ho f first cap d hd0
 refine aC zg rfl ?_
 rcases Yt d l 0 with ⟨e,hall⟩|⟨i,x,e,hx,hdx,hpre⟩
 ·rw [e] at c1
  have hf:l.filter (λx => !d x)=l:=DN.2 λx hx=>by rw [hall x hx];rfl
  simp only [f206,go_sem]
  repeat' (first
   | (refine aS (c1) ?_;simp only [go_sem,Int.reduceBEq])
   | ((first|apply cS|apply gS)<;>(intro hc;simp only [go_sem,hc,Int.reduceBEq])))
  all_goals first|exact ⟨r,[],by rw [hf],by rw [hf,hset,Ah]⟩|skip
 ·rw [e,AY] at c1
  have hn1:(((i:Nat):Int) == -1)=false:=by rw [beq_eq_false_iff_ne];omega
  have hi:=(AD.1 hx).1
  have hw0:=Ln (k:=i) DF
  simp only [f206,go_sem]
  repeat' (first
   | (refine aS (c1) ?_;simp only [go_sem,hn1,hw0])
   | ((first|apply cS|apply gS)<;>(intro hc;simp only [go_sem,hc,hn1,hw0])))
  refine Jn (σ:=Nat×Nat×List Head×DM×Ee) (λs=>(0,.msl o 0 l.length 10)::(1,.fn (.func f) first cap)::(5,.int .i64 s.1)::(6,.int .i64 s.2.1)::s.2.2.2.2) (λs=>H.set o (some (Ey s.2.2.1++r))++s.2.2.2.1)
   (λs=>s.1<s.2.1/\s.2.1<=l.length/\s.2.2.1.length=l.length/\s.2.2.1.take s.1=(l.take s.2.1).filter (λx => !d x)/\s.2.2.1.drop s.2.1=l.drop s.2.1) (λs=>l.length - s.2.1) (i,i+1,l,[],[]) ⟨by dsimp only;omega,by dsimp only;omega,rfl, ?_,rfl⟩ ?_ ?_ ?_
  ·dsimp only
   rw [BF,hx,Cb]
   have h1:(l.take i).filter (λx => !d x)=l.take i:=DN.2 λz hz=>by rw [hpre z hz];rfl
   rw [h1]
   simp [hdx]
  ·rfl
  ·dsimp only
   rw [hset,Ah]
  ·rintro ⟨i,j,row,J,rest⟩ ⟨hij,hj,hrl,htk,hdr⟩
   dsimp only at hij hj hrl htk hdr ⊢
   have hoL:=(AD.1 ho).1
   have fO : ∀ c z,(H.set o c++z)[o]? =some c:=λc z=>Dg (HG hoL c) z
   have fW : ∀ c z c',(H.set o c++z).set o c'=H.set o c'++z:=λc z c'=>by rw [BP _ _ (by simpa using hoL),BB]
   by_cases hlt:j<l.length
   ·have hy:=AL hlt
    have hry:row[j]? =some l[j]:=by
     have:=congrArg (·[0]?) hdr
     simpa [hy] using this
    have j0:(0:Int)<=(j:Int):=DF
    have j1:(j:Int)<(l.length:Int):=DF
    have k0:(0:Int)<=(i:Int):=DF
    have k1:(i:Int)<(l.length:Int):=DF
    have hwj:=Ln (k:=j) DF
    have hwi:=Ln (k:=i) DF
    have g1:=iV r hry
    rw [AE] at g1
    have g2:=WC row r j _ hry
    have fS : ∀ c z y,(H.set o c++(J++[z])).set (H.length+J.length) y=H.set o c++(J++[y]):=λc z y=>by
     rw [<- AF,<- AF]
     simp
    have fL : ∀ c y,(H.set o c++(J++[y]))[H.length+J.length]? =some y:=λc y=>by
     rw [<- AF]
     have:H.length+J.length=(H.set o c++J).length:=sm
     rw [this];exact Bj
    have c2:=hd _ (AB hy) (Ey row++r) (J++[some (Head.c l[j])])
    have hfil:(l.take (j+1)).filter (λx => !d x)=(l.take j).filter (λx => !d x)++(if d l[j]=true then [] else [l[j]]):=by
     rw [BF,hy,Cb]
     congr 1
     cases hd2:d l[j]<;>simp [hd2]
    have hc1:(Head.c l[j]).length=10:=rfl
    have hc2:(Head.c l[j]).take 10=Head.c l[j]:=rfl
    cases hdy:d l[j] with
    | false =>
     rw [hdy] at c2
     simp only [go_sem,j0,j1,k0,k1,decide_true,fO,g1,g2,fS,fL,fW,hc1,hc2,AF,AE,An]
     repeat' (first
      | (refine aS (c2) ?_;simp only [go_sem,j0,j1,k0,k1,decide_true,fO,g1,g2,fS,fL,fW,hwi,hwj,hc1,hc2,AF,AE,An])
      | ((first|apply cS|apply gS)<;>(intro hc;simp only [go_sem,hc,j0,j1,k0,k1,decide_true,fO,g1,g2,fS,fL,fW,hwi,hwj,hc1,hc2,AF,AE,An])))
     have k2:i*10+10<=(Ey row).length+r.length:=by rw [Ia];omega
     rw [if_pos k2,Zb r DF]
     refine ⟨(i+1,j+1,row.set i l[j],J++[some (Head.c l[j])],[]),⟨by dsimp only;omega,by dsimp only;omega,by simpa using hrl, ?_, ?_⟩,by dsimp only;omega,rfl,rfl⟩
     ·dsimp only
      rw [hfil,hdy,if_neg dc,<- htk,PB row i l[j] DF]
     ·dsimp only
      rw [List.drop_set_of_lt DF,<- A9,hdr,A9]
    | true =>
     rw [hdy] at c2
     simp only [go_sem,j0,j1,k0,k1,decide_true,fO,g1,g2,fS,fL,fW,hc1,hc2,AF,AE,An]
     repeat' (first
      | (refine aS (c2) ?_;simp only [go_sem,j0,j1,k0,k1,decide_true,fO,g1,g2,fS,fL,fW,hwi,hwj,hc1,hc2,AF,AE,An])
      | ((first|apply cS|apply gS)<;>(intro hc;simp only [go_sem,hc,j0,j1,k0,k1,decide_true,fO,g1,g2,fS,fL,fW,hwi,hwj,hc1,hc2,AF,AE,An])))
     refine ⟨(i,j+1,row,J++[some (Head.c l[j])],[]),⟨by dsimp only;omega,by dsimp only;omega,hrl, ?_, ?_⟩,by dsimp only;omega,rfl,rfl⟩
     ·dsimp only
      rw [hfil,hdy,if_pos rfl,Ah,htk]
     ·dsimp only
      rw [<- A9,hdr,A9]
   ·have hjl:j=l.length:=DF
    subst hjl
    simp only [go_sem,AX,decide_false]
    refine ⟨⟨DF,DF,DF⟩, ?_⟩
    simp only [go_sem,ADl,fO,fW,AE]
    rw [List.take_length] at htk
    have hkl:(l.filter λx => !d x).length=i:=by rw [<- htk,List.length_take];omega
    refine ⟨DF,by rw [Ia];omega,⟨DF,DF,.inl trivial⟩,FJ (AV.agg Head.z.c) (l.length - i)++(Ey row++r).drop (i*10+(FJ (AV.agg Head.z.c) (l.length - i)).length),J,by rw [hkl];rfl, ?_⟩
    unfold splice
    rw [P1 row r i DF,htk,AF]
theorem rK{P:Program}{f:FuncId}{vs:List AV}{d:Option Tmp}{K:Kt}{e:Ee}{H:DM}{v:AV}(hc:OK P f vs H v)(hk:K (put d v e) H):qQ P f vs d K e H:=⟨v,.inl hc,hk⟩
def fh(l:List Fld)(t:Int)(ot ow ol o:Nat)(H:DM):Prop :=
 H[ot]? =some (some [.int .i64 t])/\H[ow]? =some (some [.ptr o 0])/\(∃ w,H[ol]? =some (some [.sl w (E8 l)])) /\
  H[o]? =some (some [.fn (.func 130) [] [.ptr ot 0,.ptr ow 0,.ptr ol 0],.fn (.func 136) [] [.ptr ow 0,.ptr ol 0]])
@[go_sem] theorem AR3(t:Tmp)(zs:List (Tmp×Option Nat×Bool))(Q:Exit->Kt)(e:Ee)(H:DM):ADY none t zs Q e H=Xc zs Q e H:=Eq.trans rfl rfl
@[go_sem] theorem AFK(a b c k:Nat):borrow0 (.msl a b c k) = .msl a b c k:=rfl
theorem Dx.res{P:Program}{f:FuncId}{vs:List AV}{H:DM}{R:AV->DM->Prop}(h:Dx P f vs H R):Dx P f vs H λv H' => ∃ v0,R v0 H'/\v=v0.borrow :=
 ⟨h.1,λF G w us hc=>Calls.mono (h.2 F G w us hc) λe w' he=>by
  obtain ⟨u,rfl,v,H',G',h1,h2,h3⟩:=he
  exact ⟨u,rfl,v.borrow,H',G',⟨v,h1,rfl⟩,h2.borrowArgs,h3⟩⟩
theorem Nb(a b:List Head)(hl:a.length+b.length<=1048576)(w:Option Nat)(H:DM):Dx AA 140 [.sl w (En a),.sl none (En b)] H λv H'=>Rl ((Ga a b).map Head.c) v H H'/\v.borrow=v :=
 (Dx.res (Dx.weak (vs:=[.sl w (En a),.sl none (En b)]) (U1 a b hl H))).mono λv H' h=>by
  obtain ⟨v0,h1,rfl⟩:=h
  refine ⟨?_,TF v0⟩
  rcases h1 with ⟨e,⟨w,rfl⟩,h⟩|⟨ob,cs,rfl,h⟩
  ·exact .inl ⟨e,⟨none,rfl⟩,h⟩
  ·exact .inr ⟨ob,cs,rfl,h⟩
theorem Rw(b:Bool)(H:DM):Dx AA 139 [.sl none [],.bool b] H λv H'=>H'=H/\v = .tup [.sl none [],.bool b] :=
 (Dx.res (xq none b H)).mono λv H' h=>by
  obtain ⟨v0,⟨rfl,w,rfl⟩,rfl⟩:=h
  exact ⟨rfl,rfl⟩
theorem Rv(o n:Nat)(b:Bool)(H:DM):Dx AA 139 [.msl o 0 n 10,.bool b] H λv H'=>H'=H/\((b=true/\n<=256/\v = .tup [.msl o 0 n 10,.bool true])\/((b=false\/256<n)/\v = .tup [.sl none [],.bool false])) :=
 (Dx.res (xp o n b H)).mono λv H' h=>by
  obtain ⟨v0,⟨rfl,h⟩,rfl⟩:=h
  rcases h with ⟨h1,h2,rfl⟩|⟨h1,w,rfl⟩
  ·exact ⟨rfl,.inl ⟨h1,h2,rfl⟩⟩
  ·exact ⟨rfl,.inr ⟨h1,rfl⟩⟩
theorem AGL{f:AV->AV}{c:List AV}{a:AV}(h:c.map f=[a].map f): ∃ x,c=[x]/\f x=f a:=by
 match c,h with
 | [],h=>cases h
 | [x],h=>exact ⟨x,rfl,(List.cons.inj h).1⟩
 | _::_::_,h=>exact absurd (congrArg List.length h) sm
theorem Aab{f:AV->AV}{c:List AV}{a b:AV}(h:c.map f=[a,b].map f): ∃ x y,c=[x,y]/\f x=f a/\f y=f b:=by
 match c,h with
 | [],h=>cases h
 | [x],h=>exact absurd (congrArg List.length h) sm
 | [x,y],h=>exact ⟨x,y,rfl,(List.cons.inj h).1,(List.cons.inj (List.cons.inj h).2).1⟩
 | _::_::_::_,h=>exact absurd (congrArg List.length h) sm
section
variable {l:List Fld} {t:Int} {ot ow ol o:Nat}
theorem fh.grow{H:DM}(h:fh l t ot ow ol o H)(z:DM):fh l t ot ow ol o (H++z) :=
 let ⟨h1,h2,⟨w,h3⟩,h4⟩:=h;⟨Dg h1 z,Dg h2 z,⟨w,Dg h3 z⟩,Dg h4 z⟩
theorem Mw{x a:AV}(h:borrow1 x=borrow1 a)(ha : ∀ w es,a ≠ .sl w es):x=a:=by
 cases x<;>cases a<;>first|(exact h)|(exact absurd rfl (ha _ _))|(cases h)
theorem fh.view{H H2:DM}(hv:Fe H2=Fe H)(h:fh l t ot ow ol o H):fh l t ot ow ol o H2:=by
 obtain ⟨h1,h2,⟨w,h3⟩,h4⟩:=h
 obtain ⟨c1,g1,e1⟩:=JY hv h1
 obtain ⟨c2,g2,e2⟩:=JY hv h2
 obtain ⟨c3,g3,e3⟩:=JY hv h3
 obtain ⟨c4,g4,e4⟩:=JY hv h4
 refine ⟨?_, ?_, ?_, ?_⟩
 ·obtain ⟨x,rfl,hx⟩:=AGL e1
  rw [g1,Mw hx (by intro w es h;cases h)]
 ·obtain ⟨x,rfl,hx⟩:=AGL e2
  rw [g2,Mw hx (by intro w es h;cases h)]
 ·obtain ⟨x,rfl,hx⟩:=AGL e3
  cases x<;>first|(cases hx;done)|skip
  rename_i w' es
  have:es=E8 l:=by
   have h5:AV.sl none es=AV.sl none (E8 l):=hx
   cases h5;rfl
  subst this
  exact ⟨w',g3⟩
 ·obtain ⟨x,y,rfl,hx,hy⟩:=Aab e4
  rw [g4,Mw hx (by intro w es h;cases h),Mw hy (by intro w es h;cases h)]
end
def gvs(l:List Fld)(t:Int)(ot ow ol o:Nat)(p:Policy)(F:Head->Option (List Head)):Prop :=
 ∀ h,EF h=true -> ∀ H,fh l t ot ow ol o H->E5 AA 136 [.agg p.c,.agg h.c,.ptr ow 0,.ptr ol 0] H (MW (F h))
theorem Rl.base{es:List (List AV)}{v:AV}{B e X:DM}(h:Rl es v (B++e) X):Rl es v B X:=by
 rcases h with ⟨h1,h2,ext,rfl⟩|⟨ob,cs,h1,h2,⟨ext,rfl⟩,h4,h5⟩
 ·exact .inl ⟨h1,h2,e++ext,by rw [AF]⟩
 ·exact .inr ⟨ob,cs,h1,by rw [AE] at h2;omega,⟨e++ext,by rw [AF]⟩,h4,h5⟩
theorem Rl.ext{es:List (List AV)}{v:AV}{B X:DM}(h:Rl es v B X): ∃ ext,X=B++ext:=by
 rcases h with ⟨_,_,h⟩|⟨_,_,_,_,h,_⟩<;>exact h
theorem ACe(o:Option (List Head)):MW o = .tup [.sl none (En (o.getD [])),.bool o.isSome]:=by cases o<;>rfl
theorem TE(l:List Head)(r:List AV):HK true 10 l.length ((Ey l++r).map borrow1)=En l:=by
 rw [As,WD]
 have:=Ji (l.map Head.c) (r.map borrow1) 10 Pu
 rw [Aq] at this
 rw [<- Nt]
 exact this
theorem ml(F:Head->Option (List Head))(out:List Head)(y:Head)(ys:List Head)(hs:KT out)(hg : ∀ r,F y=some r->KT r):
  IG F out (y::ys)=if (F y).isSome=true/\(Ga out ((F y).getD [])).length<=256 then IG F (Ga out ((F y).getD [])) ys else none:=by
 rw [IG]
 cases h:F y with
 | none=>rw [if_neg sm]
 | some a =>
  have e:=OX hs (hg a h)
  simp only [Option.isSome_some,Option.getD_some,true_and,e]
  by_cases hl:256<(Fb out a).length
  ·rw [if_pos hl,if_neg DF]
  ·rw [if_neg hl,if_pos DF]
theorem Uy(l : List Fld)(t : Int)(ot ow ol o : Nat)(p : Policy)(F : Head -> Option (List Head))(hF : gvs l t ot ow ol o p F)(hg : ∀ h r, EF h = true -> F h = some r -> Hu r)(xs : List Head)(hx : ∀ z ∈ xs, EF z = true)(hl : xs.length <= 1048576)(H : DM)(hW : fh l t ot ow ol o H):
    Dx AA 141 [.ptr o 0,.agg p.c,.sl none (En xs)] H λv H'=>(IG F [] xs=none/\(∃ w,v = .tup [.sl w [],.bool false]) /\ ∃ ext,H'=H++ext) \/ ∃ r v0,IG F [] xs=some r/\v = .tup [v0,.bool true]/\Rl (r.map Head.c) v0 H H' := by
  refine aC ANt rfl ?_
  simp only [f141,go_sem]
  refine Ed xs (λ(s:List Head×AV×DM×Ee) r=>IG F s.1 r) (λ_ s=>Hu s.1/\Rl (s.1.map Head.c) s.2.1 (H++[some p.c]) s.2.2.1) (λk s=>(0,.ptr o 0)::(4,.ptr H.length 0)::(8,s.2.1)::(9,.bool true)::(14,.sl none (En xs))::(15,.int .i64 xs.length)::(16,.int .i64 k)::s.2.2.2) (λk s=>s.2.2.1) ([],.sl (some 10) [],H++[some p.c],[]) DF ⟨Ki,.inl ⟨rfl,⟨_,rfl⟩,[],(Ah _).symm⟩⟩ rfl rfl ?_ ?_
  · rintro k ⟨out,ov,X,rest⟩ y ys hd hx' ⟨go,hrow⟩ hI h0 h1 hw
    dsimp only at go hrow hI ⊢
    have hr := hx y (AB hx')
    obtain ⟨ext0,hX0⟩ := hrow.ext
    have hWX:fh l t ot ow ol o X := by rw [hX0,AF];exact hW.grow _
    have hpX:X[H.length]? =some (some p.c) := by
      rw [hX0,AF,AM (AU _),AQ];rfl
    have eP : ∀ z,(X++z)[H.length]? =some (some p.c) := Dg hpX
    have eW : ∀ z,(X++z)[o]? =some (some [.fn (.func 130) [] [.ptr ot 0,.ptr ow 0,.ptr ol 0],.fn (.func 136) [] [.ptr ow 0,.ptr ol 0]]) := Dg hWX.2.2.2
    have hc : ∀ z,OK AA 136 [.agg p.c,.agg y.c,.ptr ow 0,.ptr ol 0] (X++z) (MW (F y)) := λz H2 hv=>hF y hr H2 ((hWX.grow z).view hv)
    rw [ACe] at hc
    have hst := ml F out y ys go.1 (λr h=>(hg y r hr h).1)
    have ga:Hu ((F y).getD []) := by
      cases h:F y with
      | none=>exact Ki
      | some a=>exact hg y a hr h
    generalize hA:(F y).getD []=a at hc hst ga
    generalize hB:(F y).isSome=b at hc hst
    have hml := Nh (out.length+a.length+1) out a
    have hll:out.length+a.length<=1048576 := by have := go.2.1;have := ga.2.1;omega
    rcases hrow with ⟨e0,⟨w,rfl⟩,_⟩|⟨ob,cs,rfl,hob,_,hcs,r,rfl⟩
    · have e0:out=[] := by simpa using e0
      subst e0
      have hX2 : ∃ e2,X++[some y.c]=(H++[some p.c])++e2 := ⟨ext0++[some y.c],by rw [hX0,AF]⟩
      cases w with
      | none =>
        simp only [go_sem,h0,h1,F0 hx',eP,eW]
        repeat' (first
          | (refine rK (hc _) ?_;simp only [go_sem,h0,h1,hw,F0 hx',eP,eW])
          | ((first|apply cS|apply gS)<;>(intro hc;simp only [go_sem,hc,h0,h1,hw,F0 hx',eP,eW])))
        refine Eh.intro (Nb [] a hll _ _) λv X3 hr3=>?_
        obtain ⟨e2,hX2⟩ := hX2
        obtain ⟨hr3,hbw⟩ := hr3
        rw [hX2] at hr3
        have hrb := hr3.base
        have hex := hrb.ext
        have hgm:b=true->(Ga ([]:List Head) a).length<=256->Hu (Ga ([]:List Head) a) := λ_ hle=>by
          have e := OX go.1 ga.1
          rw [e] at hle ⊢
          exact HX go ga.2.2 DF
        rcases hr3 with ⟨e3,⟨w3,rfl⟩,_⟩|⟨ob3,cs3,rfl,hob3,_,hcs3,r3,rfl⟩
        · have hw3:w3=none := by cases w3 with
            | none=>rfl
            | some w3=>cases hbw
          subst hw3
          simp only [go_sem]
          refine Eh.intro (Rw b _) λv4 X4 hr4=>?_
          obtain ⟨rfl,rfl⟩ := hr4
          have e3 := DO.1 e3
          have hle3:(Ga ([]:List Head) a).length<=256 := by rw [e3];simp
          cases b with
          | true =>
            rw [if_pos ⟨rfl,hle3⟩] at hst
            simp only [go_sem,hw]
            exact ⟨(Ga ([]:List Head) a,_,_,[]),hst,⟨hgm rfl hle3,hrb⟩,rfl,rfl⟩
          | false =>
            rw [if_neg sm] at hst
            simp only [go_sem]
            exact .inl ⟨hI.trans hst,⟨_,rfl⟩,by obtain ⟨ext,he⟩ := hex;exact ⟨_,by rw [he,AF]⟩⟩
        · simp only [go_sem,Aq]
          refine Eh.intro (Rv ob3 _ b _) λv4 X4 hr4=>?_
          obtain ⟨rfl,hr4⟩ := hr4
          rw [Aq] at hrb
          rcases hr4 with ⟨rfl,hle,rfl⟩|⟨hno,rfl⟩
          · rw [if_pos ⟨rfl,hle⟩] at hst
            simp only [go_sem,hw]
            exact ⟨(Ga ([]:List Head) a,_,_,[]),hst,⟨hgm rfl hle,hrb⟩,rfl,rfl⟩
          · rw [if_neg (by rintro ⟨g1, g2⟩; rcases hno with hno | hno
                           · rw [g1] at hno;cases hno
                           · omega)] at hst
            simp only [go_sem]
            exact .inl ⟨hI.trans hst,⟨_,rfl⟩,by obtain ⟨ext,he⟩ := hex;exact ⟨_,by rw [he,AF]⟩⟩
      | some w =>
        simp only [go_sem,h0,h1,F0 hx',eP,eW]
        repeat' (first
          | (refine rK (hc _) ?_;simp only [go_sem,h0,h1,hw,F0 hx',eP,eW])
          | ((first|apply cS|apply gS)<;>(intro hc;simp only [go_sem,hc,h0,h1,hw,F0 hx',eP,eW])))
        refine Eh.intro (Nb [] a hll (some w) _) λv X3 hr3=>?_
        obtain ⟨e2,hX2⟩ := hX2
        obtain ⟨hr3,hbw⟩ := hr3
        rw [hX2] at hr3
        have hrb := hr3.base
        have hex := hrb.ext
        have hgm:b=true->(Ga ([]:List Head) a).length<=256->Hu (Ga ([]:List Head) a) := λ_ hle=>by
          have e := OX go.1 ga.1
          rw [e] at hle ⊢
          exact HX go ga.2.2 DF
        rcases hr3 with ⟨e3,⟨w3,rfl⟩,_⟩|⟨ob3,cs3,rfl,hob3,_,hcs3,r3,rfl⟩
        · have hw3:w3=none := by cases w3 with
            | none=>rfl
            | some w3=>cases hbw
          subst hw3
          simp only [go_sem]
          refine Eh.intro (Rw b _) λv4 X4 hr4=>?_
          obtain ⟨rfl,rfl⟩ := hr4
          have e3 := DO.1 e3
          have hle3:(Ga ([]:List Head) a).length<=256 := by rw [e3];simp
          cases b with
          | true =>
            rw [if_pos ⟨rfl,hle3⟩] at hst
            simp only [go_sem,hw]
            exact ⟨(Ga ([]:List Head) a,_,_,[]),hst,⟨hgm rfl hle3,hrb⟩,rfl,rfl⟩
          | false =>
            rw [if_neg sm] at hst
            simp only [go_sem]
            exact .inl ⟨hI.trans hst,⟨_,rfl⟩,by obtain ⟨ext,he⟩ := hex;exact ⟨_,by rw [he,AF]⟩⟩
        · simp only [go_sem,Aq]
          refine Eh.intro (Rv ob3 _ b _) λv4 X4 hr4=>?_
          obtain ⟨rfl,hr4⟩ := hr4
          rw [Aq] at hrb
          rcases hr4 with ⟨rfl,hle,rfl⟩|⟨hno,rfl⟩
          · rw [if_pos ⟨rfl,hle⟩] at hst
            simp only [go_sem,hw]
            exact ⟨(Ga ([]:List Head) a,_,_,[]),hst,⟨hgm rfl hle,hrb⟩,rfl,rfl⟩
          · rw [if_neg (by rintro ⟨g1, g2⟩; rcases hno with hno | hno
                           · rw [g1] at hno;cases hno
                           · omega)] at hst
            simp only [go_sem]
            exact .inl ⟨hI.trans hst,⟨_,rfl⟩,by obtain ⟨ext,he⟩ := hex;exact ⟨_,by rw [he,AF]⟩⟩
    · have hcs' : ∀ z,(X++z)[ob]? =some (some (Ey out++r)) := Dg hcs
      have hle:(Ey out++r).length≥out.length*10 := by rw [AE,Ia];omega
      have hle2:out.length*10<=(Ey out++r).length := hle
      have hch := TE out r
      have hX2 : ∃ e2,(X++[some y.c]).set ob none=(H++[some p.c])++e2 := by
        rw [hX0,AF,aa hob]
        exact ⟨_,rfl⟩
      simp only [go_sem,h0,h1,F0 hx',eP,eW,Aq]
      repeat' (first
        | (refine rK (hc _) ?_;simp only [go_sem,h0,h1,hw,F0 hx',eP,eW,Aq,hcs',hle2,hch])
        | ((first|apply cS|apply gS)<;>(intro hc;simp only [go_sem,hc,h0,h1,hw,F0 hx',eP,eW,Aq,hcs',hle2,hch])))
      refine Eh.intro (Nb out a hll _ _) λv X3 hr3=>?_
      obtain ⟨e2,hX2⟩ := hX2
      obtain ⟨hr3,hbw⟩ := hr3
      rw [hX2] at hr3
      have hrb := hr3.base
      have hex := hrb.ext
      have hgm:b=true->(Ga out a).length<=256->Hu (Ga out a) := λ_ hle=>by
        have e := OX go.1 ga.1
        rw [e] at hle ⊢
        exact HX go ga.2.2 DF
      rcases hr3 with ⟨e3,⟨w3,rfl⟩,_⟩|⟨ob3,cs3,rfl,hob3,_,hcs3,r3,rfl⟩
      · have hw3:w3=none := by cases w3 with
          | none=>rfl
          | some w3=>cases hbw
        subst hw3
        simp only [go_sem]
        refine Eh.intro (Rw b _) λv4 X4 hr4=>?_
        obtain ⟨rfl,rfl⟩ := hr4
        have e3 := DO.1 e3
        have hle3:(Ga out a).length<=256 := by rw [e3];simp
        cases b with
        | true =>
          rw [if_pos ⟨rfl,hle3⟩] at hst
          simp only [go_sem,hw]
          exact ⟨(Ga out a,_,_,[]),hst,⟨hgm rfl hle3,hrb⟩,rfl,rfl⟩
        | false =>
          rw [if_neg sm] at hst
          simp only [go_sem]
          exact .inl ⟨hI.trans hst,⟨_,rfl⟩,by obtain ⟨ext,he⟩ := hex;exact ⟨_,by rw [he,AF]⟩⟩
      · simp only [go_sem,Aq]
        refine Eh.intro (Rv ob3 _ b _) λv4 X4 hr4=>?_
        obtain ⟨rfl,hr4⟩ := hr4
        rw [Aq] at hrb
        rcases hr4 with ⟨rfl,hle,rfl⟩|⟨hno,rfl⟩
        · rw [if_pos ⟨rfl,hle⟩] at hst
          simp only [go_sem,hw]
          exact ⟨(Ga out a,_,_,[]),hst,⟨hgm rfl hle,hrb⟩,rfl,rfl⟩
        · rw [if_neg (by rintro ⟨g1, g2⟩; rcases hno with hno | hno
                         · rw [g1] at hno;cases hno
                         · omega)] at hst
          simp only [go_sem]
          exact .inl ⟨hI.trans hst,⟨_,rfl⟩,by obtain ⟨ext,he⟩ := hex;exact ⟨_,by rw [he,AF]⟩⟩
  · rintro ⟨out,ov,X,rest⟩ ⟨go,hrow⟩ hI
    dsimp only at go hrow hI ⊢
    have hfin:Rl (out.map Head.c) ov H X := hrow.base
    rcases hrow with ⟨e0,⟨w,rfl⟩,_⟩|⟨ob,cs,rfl,hob,_,hcs,r,rfl⟩
    · cases w with
      | none =>
        simp only [go_sem,AX,decide_false]
        exact .inr ⟨out,_,by rw [hI];rfl,rfl,hfin⟩
      | some w =>
        simp only [go_sem,AX,decide_false]
        exact .inr ⟨out,_,by rw [hI];rfl,rfl,hfin⟩
    · simp only [go_sem,AX,decide_false]
      exact .inr ⟨out,_,by rw [hI];rfl,rfl,hfin⟩
end Go.AI
namespace Go.AI
open Go.Proofs
set_option maxRecDepth 50000
theorem dm(l:List Fld)(t:Int)(ot ow ol o:Nat)(p:Policy)(F:Head->Option (List Head))(hF:gvs l t ot ow ol o p F)(hg : ∀ h r,EF h=true->F h=some r->Hu r)(xs:List Head)(hx : ∀ z∈xs,EF z=true)(hl:xs.length<=1048576)(H:DM)(hW:fh l t ot ow ol o H):
  Dx AA 141 [.ptr o 0,.agg p.c,.sl none (En xs)] H λv H'=>(IG F [] xs=none/\v = .tup [.sl none [],.bool false] /\ ∃ ext,H'=H++ext) \/ ∃ r v0,IG F [] xs=some r/\v = .tup [v0,.bool true]/\Rl (r.map Head.c) v0 H H'/\v0.borrow=v0 :=
 (Dx.res (Uy l t ot ow ol o p F hF hg xs hx hl H hW)).mono λv H' h=>by
  obtain ⟨v1,h1,rfl⟩:=h
  rcases h1 with ⟨h1,⟨w,rfl⟩,h2⟩|⟨r,v0,h1,rfl,h2⟩
  ·exact .inl ⟨h1,rfl,h2⟩
  ·rcases h2 with ⟨e,⟨w,rfl⟩,h⟩|⟨ob,cs,rfl,h⟩
   ·exact .inr ⟨r,.sl none [],h1,rfl,.inl ⟨e,⟨none,rfl⟩,h⟩,rfl⟩
   ·exact .inr ⟨r,_,h1,rfl,.inr ⟨ob,cs,rfl,h⟩,rfl⟩
theorem ACq(l:List Fld)(t:Int)(ot ow ol o:Nat)(p:Policy)(F:Head->Option (List Head))(hF:gvs l t ot ow ol o p F)(hg : ∀ h r,EF h=true->F h=some r->Hu r)(xs:List Head)(hx : ∀ z∈xs,EF z=true)(hl:xs.length<=1048576)(H:DM)(hW:fh l t ot ow ol o H):
  E5 AA 141 [.ptr o 0,.agg p.c,.sl none (En xs)] H (MW (IG F [] xs)):=by
 have h:=Uy l t ot ow ol o p F hF hg xs hx hl H hW
 cases e:IG F [] xs with
 | none =>
  have:=Wv (es:=[]) (b:=false) sm sm  sm (h.mono λv H' hr=>by
   rcases hr with ⟨_,⟨w,rfl⟩,he⟩|⟨r,v0,h1,_⟩
   ·exact ⟨_,rfl,.inl ⟨rfl,⟨w,rfl⟩,he⟩⟩
   ·rw [e] at h1;cases h1)
  exact this
 | some r =>
  have:=Wv (es:=r.map Head.c) (b:=true) Pu Mk fw (h.mono λv H' hr=>by
   rcases hr with ⟨h1,_⟩|⟨r',v0,h1,rfl,h2⟩
   ·rw [e] at h1;cases h1
   ·rw [e] at h1;cases h1
    exact ⟨v0,rfl,h2⟩)
  rw [Nt] at this
  exact this
theorem PF(H:DM)(f:Nat)(first cap:List AV):Dx AA 206 [.sl none [],.fn (.func f) first cap] H λv H'=>H'=H/\v = .sl none [] :=
 (Dx.res (Zn none H f first cap)).mono λv H' h=>by
  obtain ⟨v0,⟨rfl,w,rfl⟩,rfl⟩:=h
  exact ⟨rfl,rfl⟩
def o8(F:Head->Option (List Head)):Nat->List Head->List Head->Nat->Nat
 | 0,_,_,j=>j
 | k+1,o,n,j=>match IG F [] n with
  | none=>0
  | some m=>if HD o m=[] then j else o8 F k (Fb o (HD o m)) (HD o m) (j+1)
def ACd:Option (List Head)->Nat->AV
 | some r,n => .tup [.sl none (En r),.int .i64 n,.bool true]
 | none,_ => .tup [.sl none [],.int .i64 0,.bool false]
theorem yd{o n:List Head}(h:KT n):KT (HD o n):=List.Pairwise.filter _ h
theorem Vx{H Y:DM}(h : ∃ e,Y=H++e)(i:Nat)(hi:H.length<=i)(c:Option (List AV)): ∃ e,Y.set i c=H++e:=by
 obtain ⟨e,rfl⟩:=h
 exact ⟨_,BZ _ _ hi⟩
theorem ACl(l : List Fld)(t : Int)(ot ow ol o : Nat)(p : Policy)(F : Head -> Option (List Head))(hF : gvs l t ot ow ol o p F)(hg : ∀ h r, EF h = true -> F h = some r -> Hu r)(h : Head)(hr : EF h = true)(H : DM)(hW : fh l t ot ow ol o H):
    Dx AA 142 [.ptr o 0,.agg p.c,.agg h.c] H λv H'=>v.borrow=ACd (J9 F 300 [h] [h]) (o8 F 300 [h] [h] 0) /\ ∃ ext,H'=H++ext := by
  refine aC ANn rfl ?_
  have q0 : ∀ (a b c:Option (List AV)) z,(H++(a::b::c::z))[H.length]? =some a := λa b c z=>by rw [AM (AU _),AQ];rfl
  have q1 : ∀ (a b c:Option (List AV)) z,(H++(a::b::c::z))[H.length+1]? =some b := λa b c z=>by rw [AM DF,A3];rfl
  have q2 : ∀ (a b c:Option (List AV)) z,(H++(a::b::c::z))[H.length+2]? =some c := λa b c z=>by rw [AM DF,A3];rfl
  have q3 : ∀ (a b:Option (List AV)),(H++[a,b])[H.length+1]? =some b := λa b=>by rw [AM DF,A3];rfl
  have q4 : ∀ (a b c d:Option (List AV)),(H++[a,b,c]).set (H.length+2) d=H++[a,b,d] := λa b c d=>by rw [BZ _ _ DF,A3];rfl
  simp only [f142,go_sem,q0,q1,q2,q3,q4,AE,AF,AS,AN,AC,AG,AP,Nat.reduceAdd]
  refine Jn (σ := Nat×List Head×List Head×DM×Ee) (λs=>(0,.ptr o 0)::(4,.ptr H.length 0)::(9,.ptr (H.length+2) 0)::(10,.int .i64 s.1)::(11,.sl none (En s.2.2.1))::s.2.2.2.2) (λs=>s.2.2.2.1)
    (λs=>Hu s.2.1/\(∀ z∈s.2.2.1,EF z=true)/\s.2.2.1.length<=256/\s.2.2.1≠[]/\s.1+1<=s.2.1.length/\H.length+3<=s.2.2.2.1.length/\(∃ ext,s.2.2.2.1=H++ext)/\s.2.2.2.1[H.length]? =some (some p.c)/\(∃ w,s.2.2.2.1[H.length+2]? =some (some [.sl w (En s.2.1)])) /\
      J9 F 300 [h] [h]=J9 F (300 - s.1) s.2.1 s.2.2.1/\o8 F 300 [h] [h] 0=o8 F (300 - s.1) s.2.1 s.2.2.1 s.1)
    (λs=>300 - s.1) (0,[h],[h],_,[]) ⟨Og hr,by simpa using hr,by simp,by simp,by simp,by simp,⟨_,rfl⟩,q0 _ _ _ _,⟨_,q2 _ _ _ _⟩,rfl,rfl⟩ rfl rfl ?_
  rintro ⟨j,all,last,X,rest⟩ ⟨go,gl,hll,hne,hj,hX3,⟨ext,hXe⟩,hp0,⟨w,hc0⟩,hG,hJ⟩
  dsimp only at go gl hll hne hj hX3 hXe hp0 hc0 hG hJ ⊢
  generalize J9 F 300 [h] [h]=R at hG ⊢
  generalize o8 F 300 [h] [h] 0=N at hJ ⊢
  have hal := go.2.1
  obtain ⟨k,hk⟩ : ∃ k,300 - j=k+1 := ⟨299 - j,by omega⟩
  have e300:300 - (j+1)=k := by omega
  rw [hk,J9,if_neg hne] at hG
  rw [hk,o8] at hJ
  have hWX:fh l t ot ow ol o X := by rw [hXe];exact hW.grow _
  have c1 := dm l t ot ow ol o p F hF hg last gl DF X hWX
  simp only [go_sem,hp0]
  refine Eh.intro c1 λv X1 hr1=>?_
  rcases hr1 with ⟨hn,rfl,ext1,rfl⟩|⟨m,v0,hm,rfl,hrow,hbw⟩
  · rw [hn] at hG hJ
    have hc1 : ∀ z,(X++z)[H.length+2]? =some (some [.sl w (En all)]) := Dg hc0
    have s1 : ∀ z c,(X++z).set (H.length+2) c=X.set (H.length+2) c++z := λz c=>BP _ _ DF
    have c3 := MZ all [] (by simp;omega) (X++ext1)
    have c4 := Kr (Ga all []) false
    rw [if_neg dc,show MW none = .tup [.sl none [],.bool false] from rfl] at c4
    have hfe := Vx (H := H) (Y := X++ext1) ⟨ext++ext1,by rw [hXe,AF]⟩ (H.length+2) DF
    simp only [go_sem]
    refine Eh.intro (PF _ _ _ _) λv X2 hr2=>?_
    obtain ⟨rfl,rfl⟩ := hr2
    simp only [go_sem,hc1]
    repeat' (first
      | ((first|refine aS (c3) ?_|refine aP (c4) ?_);simp only [go_sem,hc1])
      | ((first|apply cS|apply gS)<;>(intro hc;simp only [go_sem,hc,hc1])))
    exact ⟨by rw [hG];rfl,hfe _⟩
  · have gm := Oh hg last [] m Ki gl hm
    rw [hm] at hG hJ
    dsimp only at hG hJ
    obtain ⟨ext1,hX1⟩ := hrow.ext
    have hc1:X1[H.length+2]? =some (some [.sl w (En all)]) := by rw [hX1];exact Dg hc0 _
    have hp1:X1[H.length]? =some (some p.c) := by rw [hX1];exact Dg hp0 _
    rcases hrow with ⟨e0,⟨w3,rfl⟩,_⟩|⟨ob,cs,rfl,hob,_,hcs,r,rfl⟩
    · have hw3:w3=none := by cases w3 with
        | none=>rfl
        | some w3=>cases hbw
      subst hw3
      have e0:m=[] := DO.1 e0
      subst e0
      have hn0:HD all []=[] := rfl
      rw [hn0] at hG hJ
      rw [if_pos rfl] at hJ
      have hme:Fb all []=all := rfl
      rw [hme,if_neg DF] at hG
      have hG2:R=some all := by
        rw [hG]
        obtain ⟨k',rfl⟩ : ∃ k',k=k'+1 := ⟨k - 1,by omega⟩
        rw [J9,if_pos rfl]
      have hfe := Vx (H := H) (Y := X1) ⟨ext++ext1,by rw [hX1,hXe,AF]⟩ (H.length+2) DF
      have hl1:H.length+2<X1.length := (AD.1 hc1).1
      have fG : ∀ c,(X1.set (H.length+2) c)[H.length+2]? =some c := λc=>HG hl1 c
      simp only [go_sem]
      refine Eh.intro (PF _ _ _ _) λv X2 hr2=>?_
      obtain ⟨rfl,rfl⟩ := hr2
      have c3 := MZ all [] (by simp;omega) X2
      have c4 := Kr (Ga all []) true
      rw [mG] at c3 c4
      rw [if_pos rfl,WJ,if_neg DF,show MW (some all) = .tup [.sl none (En all),.bool true] from rfl] at c4
      have z2:(((0:Nat):Int)==(0:Int))=true := rfl
      simp only [go_sem,hc1]
      repeat' (first
        | ((first|refine aS (c3) ?_|refine aP (c4) ?_);simp only [go_sem,hc1,fG,z2])
        | ((first|apply cS|apply gS)<;>(intro hc;simp only [go_sem,hc,hc1,fG,z2])))
      all_goals first|(exact ⟨by rw [hG2,hJ];rfl,hfe _⟩)|skip
    · have hcs':X1[ob]? =some (some (Ey m++r)) := hcs
      have hnob:ob≠H.length+2 := by omega
      have hd : ∀ x∈m,∀ c J,E5 AA 207 (([]:List AV).map AV.borrow++(.agg (Head.c x)::([.ptr (H.length+2) 0]:List AV).map AV.borrow)) (X1.set ob (some c)++J) (.bool (all.any λy=>decide (y=x))) := λx _ c J =>
        ACm all go.1 DF x _ (H.length+2) w (Dg (Et hc1 hnob _) J)
      have c2 := tG m (by have := gm.2.1;omega) r X1 ob hcs' 207 [] [.ptr (H.length+2) 0] (λx=>all.any λy=>decide (y=x)) hd
      simp only [go_sem,Aq]
      refine Eh.intro c2 λv X2 hr2=>?_
      obtain ⟨r',J,rfl,rfl⟩ := hr2
      have hkept:(m.filter λx => !(all.any λy=>decide (y=x)))=HD all m := rfl
      rw [hkept]
      have hob1:ob<X1.length := (AD.1 hcs').1
      have hg1:(X1.set ob (some (Ey (HD all m)++r'))++J)[ob]? =some (some (Ey (HD all m)++r')) := Dg (HG hob1 _) J
      have hg2:(HD all m).length*10<=(Ey (HD all m)++r').length := by rw [AE,Ia];omega
      have hg3 := TE (HD all m) r'
      have hg4:(X1.set ob (some (Ey (HD all m)++r'))++J).set ob none=X1.set ob none++J := by rw [BP _ _ (by simpa using hob1),BB]
      have gn:KT (HD all m) := yd gm.1
      have hgnew : ∀ z∈HD all m,EF z=true := λz hz=>gm.2.2 z (U9.1 hz).1
      have hnl:(HD all m).length<=m.length := ye all m
      have hml := gm.2.1
      have hY2:(X1.set ob none++J)[H.length+2]? =some (some [.sl w (En all)]) := Dg (Et hc1 hnob _) J
      have hY0:(X1.set ob none++J)[H.length]? =some (some p.c) := Dg (Et hp1 DF _) J
      have hYe : ∃ e,X1.set ob none++J=H++e := by
        rw [hX1, hXe, AF, aa (by have : X.length = H.length + ext.length := by rw [hXe, AE]
                                                     omega),AF]
        exact ⟨_,rfl⟩
      have c3 := MZ all (HD all m) DF (X1.set ob none++J)
      have c4 := Kr (Ga all (HD all m)) true
      rw [OX go.1 gn] at c3 c4
      generalize hY:X1.set ob none++J=Y at hg4 hY2 hY0 hYe c3
      have hYl:H.length+2<Y.length := (AD.1 hY2).1
      have hfe := Vx (H := H) (Y := Y) hYe (H.length+2) DF
      have fG : ∀ c,(Y.set (H.length+2) c)[H.length+2]? =some c := λc=>HG hYl c
      by_cases hbig:256<(Fb all (HD all m)).length
      · rw [if_pos hbig] at hG
        rw [if_pos rfl,WJ,if_pos hbig,show MW none = .tup [.sl none [],.bool false] from rfl] at c4
        simp only [go_sem,hg1,hg2,hg3,hg4,hY2]
        repeat' (first
          | ((first|refine aS (c3) ?_|refine aP (c4) ?_);simp only [go_sem,hY2,fG])
          | ((first|apply cS|apply gS)<;>(intro hc;simp only [go_sem,hc,hY2,fG])))
        all_goals first|(exact ⟨by rw [hG];rfl,hfe _⟩)|skip
      · rw [if_neg hbig] at hG
        rw [if_pos rfl,WJ,if_neg hbig,show ∀ r,MW (some r) = .tup [.sl none (En r),.bool true] from λ_=>rfl] at c4
        by_cases hn0:HD all m=[]
        · have hme:Fb all (HD all m)=all := by rw [hn0];rfl
          rw [if_pos hn0] at hJ
          have hG2:R=some (Fb all (HD all m)) := by
            rw [hG,hn0]
            obtain ⟨k',rfl⟩ : ∃ k',k=k'+1 := ⟨k - 1,by omega⟩
            rw [J9,if_pos rfl]
          have z1:(((HD all m).length:Int)==0)=true := by rw [hn0];rfl
          simp only [go_sem,hg1,hg2,hg3,hg4,hY2]
          repeat' (first
            | ((first|refine aS (c3) ?_|refine aP (c4) ?_);simp only [go_sem,hY2,fG,z1])
            | ((first|apply cS|apply gS)<;>(intro hc;simp only [go_sem,hc,hY2,fG,z1])))
          all_goals first|(exact ⟨by rw [hG2,hJ];rfl,hfe _⟩)|skip
        · rw [if_neg hn0] at hJ
          have hpos:0<(HD all m).length := List.length_pos_iff.2 hn0
          have hmn := tf hn0
          have z1:(((HD all m).length:Int)==0)=false := by rw [beq_eq_false_iff_ne];omega
          have hwj := Ln (k := j) DF
          simp only [go_sem,hg1,hg2,hg3,hg4,hY2]
          repeat' (first
            | ((first|refine aS (c3) ?_|refine aP (c4) ?_);simp only [go_sem,hY2,fG,z1,hwj])
            | ((first|apply cS|apply gS)<;>(intro hc;simp only [go_sem,hc,hY2,fG,z1,hwj])))
          refine ⟨(j+1,Fb all (HD all m),HD all m,_,[]),⟨HX go hgnew hbig,hgnew,by dsimp only;omega,hn0,by dsimp only;omega,by simp;omega,hfe _,Et hY0 DF _,⟨none,fG _⟩,by dsimp only;rw [e300];exact hG,by dsimp only;rw [e300];exact hJ⟩,by dsimp only;omega,rfl,rfl⟩
theorem AF5(l:List Fld)(t:Int)(ot ow ol o:Nat)(p:Policy)(F:Head->Option (List Head))(hF:gvs l t ot ow ol o p F)(hg : ∀ h r,EF h=true->F h=some r->Hu r)(h:Head)(hr:EF h=true)(H:DM)(hW:fh l t ot ow ol o H):
  E5 AA 142 [.ptr o 0,.agg p.c,.agg h.c] H (ACd (J9 F 300 [h] [h]) (o8 F 300 [h] [h] 0)):=by
 refine Dx.drop ?_ ((Dx.res (ACl l t ot ow ol o p F hF hg h hr H hW)).mono λv H' hx=>?_)
 ·cases J9 F 300 [h] [h] with
  | none=>rfl
  | some r =>
   show EZ _ _=true
   simp only [EZ,AV.bnd,Bn]
   have:=MU (n:=H.length) (es:=r.map Head.c) Mk
   rw [Nt] at this
   simpa [AV.bnd] using this
 ·obtain ⟨v0,⟨h1,h2⟩,rfl⟩:=hx
  exact ⟨h1,h2⟩
theorem qu:EF Head.z=true:=dc
theorem Rm{f:Fld}(hf:Fr f){n m:Nat}(hn:n<2^fW f):EF (Uv f n m).mask=true/\EF (Uv f n m).bits=true :=
 ⟨MV hf (ep _ _) qu,MV hf (Nat.lt_of_le_of_lt Nat.and_le_left hn) qu⟩
theorem q_0(H:DM)(a:Option (List AV))(z:DM):(H++(a::z))[H.length]? =some a:=by rw [AM (AU _),AQ];rfl
theorem q_1(H:DM)(a b:Option (List AV))(z:DM):(H++(a::b::z))[H.length+1]? =some b:=by rw [AM DF,A3];rfl
theorem q_2(H:DM)(a b c:Option (List AV))(z:DM):(H++(a::b::c::z))[H.length+2]? =some c:=by rw [AM DF,A3];rfl
theorem ASe(H:DM)(a b c d:Option (List AV)):(H++[a,b,c]).set (H.length+2) d=H++[a,b,d]:=by rw [BZ _ _ DF,A3];rfl
theorem dj(l:List Fld)(hl:Hl l)(hln:l.length<=9223372036854775807)(t:Int)(ot ow ol o:Nat): ∀ x:Pred,Gw l x -> ∀ h,EF h=true -> ∀ H,fh l t ot ow ol o H->E5 AA 130 [.agg x.c,.agg h.c,.ptr ot 0,.ptr ow 0,.ptr ol 0] H (.bool (hP l t x h)) := by
  refine IK _ λx ih=>λhx h hr H hW=>?_
  have hc : ∀ a,a∈x.args->Gw l a -> ∀ z,OK AA 130 [.agg a.c,.agg h.c,.ptr ot 0,.ptr ow 0,.ptr ol 0] (H++z) (.bool (hP l t a h)) := λa ha ga z H2 hv=>ih a ha ga h hr H2 ((hW.grow z).view hv)
  obtain ⟨w1,w2,⟨w,w3⟩,w4⟩ := hW
  have eT := Dg w1
  have eO := Dg w2
  have eL := Dg w3
  have eF := Dg w4
  have q0 := q_0 H
  have q1 := q_1 H
  have q2 := q_2 H
  have s2 := ASe H
  rw [ATG]
  refine Dx.drop rfl ?_
  rcases oN hl hx with k|k|k|⟨k,a,ha,ga⟩|⟨k,a,b,ha,ga,gb⟩|⟨k,hf,hfo,hn,hn2⟩|⟨k,⟨hf,hfo,hn,hn2⟩,hm,hm2⟩|⟨k,hf,hfo,hn,hnm,hm2⟩
  · refine aC Mp rfl ?_
    simp only [f130,go_sem,eT,eO,eL,eF,q0,q1,q2,s2,AE,AF,AS,AN,AC,AG,AP,Nat.reduceAdd,k,Int.reduceBEq]
    repeat' (first
      | ((first|apply cS|apply gS)<;>(intro hc;simp only [go_sem,hc,Int.reduceBEq,k,eT,eO,eL,eF,q0,q1,q2,s2,AE,AF,AS,AN,AC,AG,AP,Nat.reduceAdd])))
    all_goals first|rfl|skip
  · refine aC Mp rfl ?_
    simp only [f130,go_sem,eT,eO,eL,eF,q0,q1,q2,s2,AE,AF,AS,AN,AC,AG,AP,Nat.reduceAdd,k,Int.reduceBEq]
    repeat' (first
      | ((first|apply cS|apply gS)<;>(intro hc;simp only [go_sem,hc,Int.reduceBEq,k,eT,eO,eL,eF,q0,q1,q2,s2,AE,AF,AS,AN,AC,AG,AP,Nat.reduceAdd])))
    all_goals first|rfl|skip
  · refine aC Mp rfl ?_
    simp only [f130,go_sem,eT,eO,eL,eF,q0,q1,q2,s2,AE,AF,AS,AN,AC,AG,AP,Nat.reduceAdd,k,Int.reduceBEq]
    repeat' (first
      | ((first|apply cS|apply gS)<;>(intro hc;simp only [go_sem,hc,Int.reduceBEq,k,eT,eO,eL,eF,q0,q1,q2,s2,AE,AF,AS,AN,AC,AG,AP,Nat.reduceAdd])))
    all_goals first
      | (show AV.bool _ = AV.bool (decide (x.n <= t) && decide (t < x.m))
         rw [hc];rfl)
      | skip
  · have c1 := hc a (by rw [ha];simp) ga
    have e1:Py (mr l t x.args) 0 h=hP l t a h := mq l t (by rw [ha];rfl) h
    have g1:(0:Int)<(x.args.length:Int) := by rw [ha];simp
    have g2 := Ea (l := x.args) (i := 0) (x := a) (by rw [ha];rfl)
    refine aC Mp rfl ?_
    simp only [f130,go_sem,eT,eO,eL,eF,q0,q1,q2,s2,AE,AF,AS,AN,AC,AG,AP,Nat.reduceAdd,k,Int.reduceBEq,g1,g2]
    repeat' (first
      | (refine rK (c1 _) ?_;simp only [go_sem,Int.reduceBEq,k,eT,eO,eL,eF,q0,q1,q2,s2,AE,AF,AS,AN,AC,AG,AP,Nat.reduceAdd,g1,g2])
      | ((first|apply cS|apply gS)<;>(intro hc;simp only [go_sem,hc,Int.reduceBEq,k,eT,eO,eL,eF,q0,q1,q2,s2,AE,AF,AS,AN,AC,AG,AP,Nat.reduceAdd,g1,g2])))
    all_goals first
      | (show _ = AV.bool (!Py (mr l t x.args) 0 h)
         rw [e1])
      | skip
  · have c1 := hc a (by rw [ha];simp) ga
    have c2 := hc b (by rw [ha];simp) gb
    have e1:Py (mr l t x.args) 0 h=hP l t a h := mq l t (by rw [ha];rfl) h
    have e2:Py (mr l t x.args) 1 h=hP l t b h := mq l t (by rw [ha];rfl) h
    have g1:(0:Int)<(x.args.length:Int) := by rw [ha];simp
    have g2 := Ea (l := x.args) (i := 0) (x := a) (by rw [ha];rfl)
    have g3:(1:Int)<(x.args.length:Int) := by rw [ha];simp
    have g4 := Ea (l := x.args) (i := 1) (x := b) (by rw [ha];rfl)
    rcases k with k|k
    · refine aC Mp rfl ?_
      simp only [f130,go_sem,eT,eO,eL,eF,q0,q1,q2,s2,AE,AF,AS,AN,AC,AG,AP,Nat.reduceAdd,k,Int.reduceBEq,g1,g2,g3,g4]
      repeat' (first
        | ((first|refine rK (c1 _) ?_|refine rK (c2 _) ?_);simp only [go_sem,Int.reduceBEq,k,eT,eO,eL,eF,q0,q1,q2,s2,AE,AF,AS,AN,AC,AG,AP,Nat.reduceAdd,g1,g2,g3,g4])
        | ((first|apply cS|apply gS)<;>(intro hc;simp only [go_sem,hc,Int.reduceBEq,k,eT,eO,eL,eF,q0,q1,q2,s2,AE,AF,AS,AN,AC,AG,AP,Nat.reduceAdd,g1,g2,g3,g4])))
      all_goals first
        | (show _ = AV.bool (Py (mr l t x.args) 0 h && Py (mr l t x.args) 1 h)
           rw [e1,e2]
           revert hc
           cases hP l t a h<;>simp)
        | skip
    · refine aC Mp rfl ?_
      simp only [f130,go_sem,eT,eO,eL,eF,q0,q1,q2,s2,AE,AF,AS,AN,AC,AG,AP,Nat.reduceAdd,k,Int.reduceBEq,g1,g2,g3,g4]
      repeat' (first
        | ((first|refine rK (c1 _) ?_|refine rK (c2 _) ?_);simp only [go_sem,Int.reduceBEq,k,eT,eO,eL,eF,q0,q1,q2,s2,AE,AF,AS,AN,AC,AG,AP,Nat.reduceAdd,g1,g2,g3,g4])
        | ((first|apply cS|apply gS)<;>(intro hc;simp only [go_sem,hc,Int.reduceBEq,k,eT,eO,eL,eF,q0,q1,q2,s2,AE,AF,AS,AN,AC,AG,AP,Nat.reduceAdd,g1,g2,g3,g4])))
      all_goals first
        | (show _ = AV.bool (Py (mr l t x.args) 0 h || Py (mr l t x.args) 1 h)
           rw [e1,e2]
           revert hc
           cases hP l t a h<;>simp)
        | skip
  · have c1 := Pf l hln x.field
    have c2 := rC _ hfo x.n.toNat hn2
    have hrp := Rm hfo (m := fW (EO l x.field).1) hn2
    have c3 := rB _ hrp.1 hrp.2 h hr
    rw [Yj hfo hn2 (AU _) h] at c3
    rw [Cu hn] at c2
    refine aC Mp rfl ?_
    simp only [f130,go_sem,eT,eO,eL,eF,q0,q1,q2,s2,AE,AF,AS,AN,AC,AG,AP,Nat.reduceAdd,k,Int.reduceBEq]
    repeat' (first
      | ((first|refine pK (c1) ?_|refine pK (c2) ?_|refine pK (c3) ?_);simp only [go_sem,Int.reduceBEq,k,eT,eO,eL,eF,q0,q1,q2,s2,AE,AF,AS,AN,AC,AG,AP,Nat.reduceAdd])
      | ((first|apply cS|apply gS)<;>(intro hc;simp only [go_sem,hc,Int.reduceBEq,k,eT,eO,eL,eF,q0,q1,q2,s2,AE,AF,AS,AN,AC,AG,AP,Nat.reduceAdd])))
    all_goals first
      | (show AV.bool _ = AV.bool (decide ((Mq (EO l x.field).1 h : Int) = x.n))
         congr 1
         rw [AQ,Nat.pow_zero,Nat.div_one,Nat.div_one,BA,decide_eq_true_eq,decide_eq_true_eq]
         omega)
      | skip
  · have hm':0<=x.m := hm
    have hm3:x.m.toNat<=fW (EO l x.field).1 := hm2
    have c1 := Pf l hln x.field
    have c2 := dq _ hfo x.n.toNat x.m.toNat hn2 hm3
    have hrp := Rm hfo (m := x.m.toNat) hn2
    have c3 := rB _ hrp.1 hrp.2 h hr
    rw [Yj hfo hn2 hm3 h] at c3
    rw [Cu hn,Cu hm'] at c2
    refine aC Mp rfl ?_
    simp only [f130,go_sem,eT,eO,eL,eF,q0,q1,q2,s2,AE,AF,AS,AN,AC,AG,AP,Nat.reduceAdd,k,Int.reduceBEq]
    repeat' (first
      | ((first|refine pK (c1) ?_|refine pK (c2) ?_|refine pK (c3) ?_);simp only [go_sem,Int.reduceBEq,k,eT,eO,eL,eF,q0,q1,q2,s2,AE,AF,AS,AN,AC,AG,AP,Nat.reduceAdd])
      | ((first|apply cS|apply gS)<;>(intro hc;simp only [go_sem,hc,Int.reduceBEq,k,eT,eO,eL,eF,q0,q1,q2,s2,AE,AF,AS,AN,AC,AG,AP,Nat.reduceAdd])))
    all_goals first|rfl|skip
  · have c1 := Pf l hln x.field
    have c2 := li _ hfo h hr
    refine aC Mp rfl ?_
    simp only [f130,go_sem,eT,eO,eL,eF,q0,q1,q2,s2,AE,AF,AS,AN,AC,AG,AP,Nat.reduceAdd,k,Int.reduceBEq]
    repeat' (first
      | ((first|refine pK (c1) ?_|refine pK (c2) ?_);simp only [go_sem,Int.reduceBEq,k,eT,eO,eL,eF,q0,q1,q2,s2,AE,AF,AS,AN,AC,AG,AP,Nat.reduceAdd])
      | ((first|apply cS|apply gS)<;>(intro hc;simp only [go_sem,hc,Int.reduceBEq,k,eT,eO,eL,eF,q0,q1,q2,s2,AE,AF,AS,AN,AC,AG,AP,Nat.reduceAdd])))
    all_goals first
      | (show AV.bool _ = AV.bool (decide (x.n <= Mq (EO l x.field).1 h) && decide ((Mq (EO l x.field).1 h : Int) <= x.m))
         rw [hc];rfl)
      | skip
theorem dK{P:Program}{f:FuncId}{vs:List AV}{d:Option Tmp}{K:Kt}{e:Ee}{H:DM}{v:AV}(hc:E5 P f vs H v)(hk:K (put d v e) H):ABx P f vs d K e H :=
 ⟨v,[],by simp only [Ah];exact hc,by rw [Ah];exact hk⟩
@[go_sem] theorem ARo(r:List Head):MW (some r) = .tup [.sl none (En r),.bool true]:=rfl
@[go_sem] theorem ARq:MW none = .tup [.sl none [],.bool false]:=rfl
@[go_sem] theorem ARm(r:List Head)(n:Nat):ACd (some r) n = .tup [.sl none (En r),.int .i64 n,.bool true]:=rfl
@[go_sem] theorem ARn(n:Nat):ACd none n = .tup [.sl none [],.int .i64 0,.bool false]:=rfl
theorem xc(o:Option (List Head))(n:Nat):(MW o).bnd n=true:=by
 cases o with
 | none=>rfl
 | some r =>
  simp only [MW,AV.bnd,EZ,Bn]
  have:=MU (n:=n) (es:=r.map Head.c) Mk
  rw [Nt] at this
  simpa [AV.bnd] using this
theorem s4(l:List Fld)(hl:Hl l)(hln:l.length<=9223372036854775807)(t:Int)(ot ow ol o:Nat): ∀ x:Policy,GM l x->gvs l t ot ow ol o x (vO l t x) := by
  refine GR _ λx ih=>λhx h hr H hW=>?_
  have hh:Gw l x.pred -> ∀ z,OK AA 130 [.agg x.pred.c,.agg h.c,.ptr ot 0,.ptr ow 0,.ptr ol 0] (H++z) (.bool (hP l t x.pred h)) := λgp z H2 hv=>dj l hl hln t ot ow ol o x.pred gp h hr H2 ((hW.grow z).view hv)
  have hc : ∀ a,a∈x.args->GM l a -> ∀ z,OK AA 136 [.agg a.c,.agg h.c,.ptr ow 0,.ptr ol 0] (H++z) (MW (vO l t a h)) := λa ha ga z H2 hv=>ih a ha ga h hr H2 ((hW.grow z).view hv)
  have hWg := hW.grow
  obtain ⟨w1,w2,⟨w,w3⟩,w4⟩ := hW
  have eO := Dg w2
  have eL := Dg w3
  have eF := Dg w4
  have q0 := q_0 H
  have q1 := q_1 H
  have q2 := q_2 H
  have s2 := ASe H
  rw [AEk]
  suffices hs:Dx AA 136 [.agg x.c,.agg h.c,.ptr ow 0,.ptr ol 0] H λv H'=>v.borrow=MW (Uh l t x.kind x.pred x.field x.n (Ww l t x.args) h) /\ ∃ ext,H'=H++ext by
    refine Dx.drop (xc _ _) ((Dx.res hs).mono λv H' hx=>?_)
    obtain ⟨v0,⟨h1,h2⟩,rfl⟩ := hx
    exact ⟨h1,h2⟩
  rcases Vs hl hx with ⟨k,gp⟩|⟨k,hfo,hft,hn,hn2⟩|⟨k,a,b,ha,ga,gb⟩|⟨k,a,ha,ga⟩
  · have c1 := hh gp
    refine aC KH rfl ?_
    simp only [f136,go_sem,eO,eL,eF,q0,q1,q2,s2,AE,AF,AS,AN,AC,AG,AP,Nat.reduceAdd,k,Int.reduceBEq]
    repeat' (first
      | (refine rK (c1 _) ?_;simp only [go_sem,Int.reduceBEq,k,eO,eL,eF,q0,q1,q2,s2,AE,AF,AS,AN,AC,AG,AP,Nat.reduceAdd])
      | ((first|apply cS|apply gS)<;>(intro hc;simp only [go_sem,hc,Int.reduceBEq,k,eO,eL,eF,q0,q1,q2,s2,AE,AF,AS,AN,AC,AG,AP,Nat.reduceAdd])))
    all_goals first
      | (show _ = MW (some (if hP l t x.pred h = true then [h] else []))
         revert hc
         cases hP l t x.pred h<;>intro hc<;>first|rfl|cases hc)
      | skip
  · have c1 := Pf l hln x.field
    have c2 := AS4 _ hfo x.n.toNat hn2
    have hrp := Rm hfo (m := fW (EO l x.field).1) hn2
    have c3 := AC2 _ hrp.1 hrp.2 h hr
    rw [vh hfo hn2 hr] at c3
    rw [Cu hn] at c2
    refine aC KH rfl ?_
    simp only [f136,go_sem,eO,eL,eF,q0,q1,q2,s2,AE,AF,AS,AN,AC,AG,AP,Nat.reduceAdd,k,Int.reduceBEq]
    repeat' (first
      | ((first|refine pK (c1) ?_|refine pK (c2) ?_|refine pK (c3) ?_);simp only [go_sem,Int.reduceBEq,k,eO,eL,eF,q0,q1,q2,s2,AE,AF,AS,AN,AC,AG,AP,Nat.reduceAdd])
      | ((first|apply cS|apply gS)<;>(intro hc;simp only [go_sem,hc,Int.reduceBEq,k,eO,eL,eF,q0,q1,q2,s2,AE,AF,AS,AN,AC,AG,AP,Nat.reduceAdd])))
    all_goals first|rfl|skip
  · have e0:NH (Ww l t x.args) 0=vO l t a := Rf l t (by rw [ha];rfl)
    have e1:NH (Ww l t x.args) 1=vO l t b := Rf l t (by rw [ha];rfl)
    have v0 := QK l hl t a ga
    have v1 := QK l hl t b gb
    have g1:(0:Int)<(x.args.length:Int) := by rw [ha];simp
    have g2 := EQ (l := x.args) (i := 0) (x := a) (by rw [ha];rfl)
    have g3:(1:Int)<(x.args.length:Int) := by rw [ha];simp
    have g4 := EQ (l := x.args) (i := 1) (x := b) (by rw [ha];rfl)
    have c1 := hc a (by rw [ha];simp) ga
    have c2 := hc b (by rw [ha];simp) gb
    have hb := ih b (by rw [ha];simp) gb
    rcases k with k|k
    · have hst:Uh l t x.kind x.pred x.field x.n (Ww l t x.args) h=match vO l t a h,vO l t b h with|some a,some b=>WJ (Fb a b)|_,_=>none := by
        rw [k]
        show (match NH (Ww l t x.args) 0 h,NH (Ww l t x.args) 1 h with|some a,some b=>WJ (Fb a b)|_,_=>none)=_
        rw [e0,e1]
      rw [hst]
      cases ea:vO l t a h with
      | none =>
        rw [ea] at c1
        cases eb:vO l t b h with
        | none =>
          rw [eb] at c2
          have c3 := MZ [] [] sm
          have c4 := Kr (Ga [] []) false
          rw [if_neg dc] at c4
          refine aC KH rfl ?_
          simp only [f136,go_sem,eO,eL,eF,q0,q1,q2,s2,AE,AF,AS,AN,AC,AG,AP,Nat.reduceAdd,k,Int.reduceBEq,g1,g2,g3,g4]
          repeat' (first
            | ((first|refine rK (c1 _) ?_|refine rK (c2 _) ?_|refine aS (c3 _) ?_|refine pK (c4) ?_);simp only [go_sem,Int.reduceBEq,k,eO,eL,eF,q0,q1,q2,s2,AE,AF,AS,AN,AC,AG,AP,Nat.reduceAdd,g1,g2,g3,g4])
            | ((first|apply cS|apply gS)<;>(intro hc;simp only [go_sem,hc,Int.reduceBEq,k,eO,eL,eF,q0,q1,q2,s2,AE,AF,AS,AN,AC,AG,AP,Nat.reduceAdd,g1,g2,g3,g4])))
        | some v =>
          rw [eb] at c2
          have gv := v1 h v hr eb
          have c3 := MZ [] v (by have := gv.2.1;simp;omega)
          have c4 := Kr (Ga [] v) false
          rw [if_neg dc] at c4
          refine aC KH rfl ?_
          simp only [f136,go_sem,eO,eL,eF,q0,q1,q2,s2,AE,AF,AS,AN,AC,AG,AP,Nat.reduceAdd,k,Int.reduceBEq,g1,g2,g3,g4]
          repeat' (first
            | ((first|refine rK (c1 _) ?_|refine rK (c2 _) ?_|refine aS (c3 _) ?_|refine pK (c4) ?_);simp only [go_sem,Int.reduceBEq,k,eO,eL,eF,q0,q1,q2,s2,AE,AF,AS,AN,AC,AG,AP,Nat.reduceAdd,g1,g2,g3,g4])
            | ((first|apply cS|apply gS)<;>(intro hc;simp only [go_sem,hc,Int.reduceBEq,k,eO,eL,eF,q0,q1,q2,s2,AE,AF,AS,AN,AC,AG,AP,Nat.reduceAdd,g1,g2,g3,g4])))
      | some u =>
        rw [ea] at c1
        have gu := v0 h u hr ea
        cases eb:vO l t b h with
        | none =>
          rw [eb] at c2
          have c3 := MZ u [] (by have := gu.2.1;simp;omega)
          have c4 := Kr (Ga u []) false
          rw [if_neg dc] at c4
          refine aC KH rfl ?_
          simp only [f136,go_sem,eO,eL,eF,q0,q1,q2,s2,AE,AF,AS,AN,AC,AG,AP,Nat.reduceAdd,k,Int.reduceBEq,g1,g2,g3,g4]
          repeat' (first
            | ((first|refine rK (c1 _) ?_|refine rK (c2 _) ?_|refine aS (c3 _) ?_|refine pK (c4) ?_);simp only [go_sem,Int.reduceBEq,k,eO,eL,eF,q0,q1,q2,s2,AE,AF,AS,AN,AC,AG,AP,Nat.reduceAdd,g1,g2,g3,g4])
            | ((first|apply cS|apply gS)<;>(intro hc;simp only [go_sem,hc,Int.reduceBEq,k,eO,eL,eF,q0,q1,q2,s2,AE,AF,AS,AN,AC,AG,AP,Nat.reduceAdd,g1,g2,g3,g4])))
        | some v =>
          rw [eb] at c2
          have gv := v1 h v hr eb
          have c3 := MZ u v (by have := gu.2.1;have := gv.2.1;omega)
          have c4 := Kr (Ga u v) true
          rw [if_pos rfl] at c4
          rw [OX gu.1 gv.1] at c3 c4
          dsimp only
          cases eo:WJ (Fb u v) with
          | none =>
            rw [eo] at c4
            refine aC KH rfl ?_
            simp only [f136,go_sem,eO,eL,eF,q0,q1,q2,s2,AE,AF,AS,AN,AC,AG,AP,Nat.reduceAdd,k,Int.reduceBEq,g1,g2,g3,g4]
            repeat' (first
              | ((first|refine rK (c1 _) ?_|refine rK (c2 _) ?_|refine aS (c3 _) ?_|refine pK (c4) ?_);simp only [go_sem,Int.reduceBEq,k,eO,eL,eF,q0,q1,q2,s2,AE,AF,AS,AN,AC,AG,AP,Nat.reduceAdd,g1,g2,g3,g4])
              | ((first|apply cS|apply gS)<;>(intro hc;simp only [go_sem,hc,Int.reduceBEq,k,eO,eL,eF,q0,q1,q2,s2,AE,AF,AS,AN,AC,AG,AP,Nat.reduceAdd,g1,g2,g3,g4])))
          | some r =>
            rw [eo] at c4
            refine aC KH rfl ?_
            simp only [f136,go_sem,eO,eL,eF,q0,q1,q2,s2,AE,AF,AS,AN,AC,AG,AP,Nat.reduceAdd,k,Int.reduceBEq,g1,g2,g3,g4]
            repeat' (first
              | ((first|refine rK (c1 _) ?_|refine rK (c2 _) ?_|refine aS (c3 _) ?_|refine pK (c4) ?_);simp only [go_sem,Int.reduceBEq,k,eO,eL,eF,q0,q1,q2,s2,AE,AF,AS,AN,AC,AG,AP,Nat.reduceAdd,g1,g2,g3,g4])
              | ((first|apply cS|apply gS)<;>(intro hc;simp only [go_sem,hc,Int.reduceBEq,k,eO,eL,eF,q0,q1,q2,s2,AE,AF,AS,AN,AC,AG,AP,Nat.reduceAdd,g1,g2,g3,g4])))
    · have hst:Uh l t x.kind x.pred x.field x.n (Ww l t x.args) h=match vO l t a h with|some a=>IG (vO l t b) [] a|none=>none := by
        rw [k]
        show (match NH (Ww l t x.args) 0 h with|some a=>IG (NH (Ww l t x.args) 1) [] a|none=>none)=_
        rw [e0,e1]
      rw [hst]
      cases ea:vO l t a h with
      | none =>
        rw [ea] at c1
        refine aC KH rfl ?_
        simp only [f136,go_sem,eO,eL,eF,q0,q1,q2,s2,AE,AF,AS,AN,AC,AG,AP,Nat.reduceAdd,k,Int.reduceBEq,g1,g2,g3,g4]
        repeat' (first
          | (refine rK (c1 _) ?_;simp only [go_sem,Int.reduceBEq,k,eO,eL,eF,q0,q1,q2,s2,AE,AF,AS,AN,AC,AG,AP,Nat.reduceAdd,g1,g2,g3,g4])
          | ((first|apply cS|apply gS)<;>(intro hc;simp only [go_sem,hc,Int.reduceBEq,k,eO,eL,eF,q0,q1,q2,s2,AE,AF,AS,AN,AC,AG,AP,Nat.reduceAdd,g1,g2,g3,g4])))
      | some u =>
        rw [ea] at c1
        have gu := v0 h u hr ea
        have c3 := λz=>ACq l t ot ow ol o b _ hb v1 u gu.2.2 (by have := gu.2.1;omega) (H++z) (hWg z)
        dsimp only
        cases eo:IG (vO l t b) [] u with
        | none =>
          rw [eo] at c3
          refine aC KH rfl ?_
          simp only [f136,go_sem,eO,eL,eF,q0,q1,q2,s2,AE,AF,AS,AN,AC,AG,AP,Nat.reduceAdd,k,Int.reduceBEq,g1,g2,g3,g4]
          repeat' (first
            | ((first|refine rK (c1 _) ?_|refine dK (c3 _) ?_);simp only [go_sem,Int.reduceBEq,k,eO,eL,eF,q0,q1,q2,s2,AE,AF,AS,AN,AC,AG,AP,Nat.reduceAdd,g1,g2,g3,g4])
            | ((first|apply cS|apply gS)<;>(intro hc;simp only [go_sem,hc,Int.reduceBEq,k,eO,eL,eF,q0,q1,q2,s2,AE,AF,AS,AN,AC,AG,AP,Nat.reduceAdd,g1,g2,g3,g4])))
        | some r =>
          rw [eo] at c3
          refine aC KH rfl ?_
          simp only [f136,go_sem,eO,eL,eF,q0,q1,q2,s2,AE,AF,AS,AN,AC,AG,AP,Nat.reduceAdd,k,Int.reduceBEq,g1,g2,g3,g4]
          repeat' (first
            | ((first|refine rK (c1 _) ?_|refine dK (c3 _) ?_);simp only [go_sem,Int.reduceBEq,k,eO,eL,eF,q0,q1,q2,s2,AE,AF,AS,AN,AC,AG,AP,Nat.reduceAdd,g1,g2,g3,g4])
            | ((first|apply cS|apply gS)<;>(intro hc;simp only [go_sem,hc,Int.reduceBEq,k,eO,eL,eF,q0,q1,q2,s2,AE,AF,AS,AN,AC,AG,AP,Nat.reduceAdd,g1,g2,g3,g4])))
  · have e0:NH (Ww l t x.args) 0=vO l t a := Rf l t (by rw [ha];rfl)
    have g1:(0:Int)<(x.args.length:Int) := by rw [ha];simp
    have g2 := EQ (l := x.args) (i := 0) (x := a) (by rw [ha];rfl)
    have c3 := λz=>AF5 l t ot ow ol o a _ (ih a (by rw [ha];simp) ga) (QK l hl t a ga) h hr (H++z) (hWg z)
    have hst:Uh l t x.kind x.pred x.field x.n (Ww l t x.args) h=J9 (vO l t a) 300 [h] [h] := by
      rw [k]
      show J9 (NH (Ww l t x.args) 0) 300 [h] [h]=_
      rw [e0]
    rw [hst]
    cases eo:J9 (vO l t a) 300 [h] [h] with
    | none =>
      rw [eo] at c3
      refine aC KH rfl ?_
      simp only [f136,go_sem,eO,eL,eF,q0,q1,q2,s2,AE,AF,AS,AN,AC,AG,AP,Nat.reduceAdd,k,Int.reduceBEq,g1,g2]
      repeat' (first
        | (refine dK (c3 _) ?_;simp only [go_sem,Int.reduceBEq,k,eO,eL,eF,q0,q1,q2,s2,AE,AF,AS,AN,AC,AG,AP,Nat.reduceAdd,g1,g2])
        | ((first|apply cS|apply gS)<;>(intro hc;simp only [go_sem,hc,Int.reduceBEq,k,eO,eL,eF,q0,q1,q2,s2,AE,AF,AS,AN,AC,AG,AP,Nat.reduceAdd,g1,g2])))
    | some r =>
      rw [eo] at c3
      refine aC KH rfl ?_
      simp only [f136,go_sem,eO,eL,eF,q0,q1,q2,s2,AE,AF,AS,AN,AC,AG,AP,Nat.reduceAdd,k,Int.reduceBEq,g1,g2]
      repeat' (first
        | (refine dK (c3 _) ?_;simp only [go_sem,Int.reduceBEq,k,eO,eL,eF,q0,q1,q2,s2,AE,AF,AS,AN,AC,AG,AP,Nat.reduceAdd,g1,g2])
        | ((first|apply cS|apply gS)<;>(intro hc;simp only [go_sem,hc,Int.reduceBEq,k,eO,eL,eF,q0,q1,q2,s2,AE,AF,AS,AN,AC,AG,AP,Nat.reduceAdd,g1,g2])))
def ZQ(n:Nat):List AV:=[.fn (.func 130) [] [.ptr (n+1) 0,.ptr (n+3) 0,.ptr n 0],.fn (.func 136) [] [.ptr (n+3) 0,.ptr n 0]]
theorem q_3(H:DM)(a b c d:Option (List AV)):(H++[a,b,c,d])[H.length+3]? =some d:=by rw [AM DF,A3];rfl
theorem AaV(H:DM)(a b c d e:Option (List AV)):(H++[a,b,c,d]).set (H.length+3) e=H++[a,b,c,e]:=by rw [BZ _ _ DF,A3];rfl
theorem ASd(H:DM)(a b c d e:Option (List AV)):(H++[a,b,c,d]).set (H.length+2) e=H++[a,b,e,d]:=by rw [BZ _ _ DF,A3];rfl
theorem ASi(l:List Fld)(t:Int)(H:DM):Dx AA 72 [.sl none (E8 l),.int .i64 t] H λv H'=>v = .ptr (H.length+2) 0/\H'=H++[some [.sl none (E8 l)],some [.int .i64 t],some (ZQ H.length),some [.ptr (H.length+2) 0]]:=by
 have q3:=q_3 H
 have q2:=q_2 H
 have s3:=AaV H
 have s2:=ASd H
 refine aC AUE rfl ?_
 simp only [f72,go_sem,q3,q2,s3,s2,AE,AF,AS,AN,AC,AG,AP,Nat.reduceAdd]
 all_goals first|rfl|exact ⟨rfl,rfl⟩|skip
theorem dl(r:List Head)(b:Bool):DR AA 71 [.sl none (En r),.bool b] (sq (if b=true then some r else none)):=by
 refine pB AUH rfl ?_
 cases b<;>simp only [f71,go_sem]<;>rfl
theorem ACo(l:List Fld)(hl:Hl l)(hln:l.length<=9223372036854775807)(x:Policy)(hx:GM l x)(t:Int)(h:Head)(hr:EF h=true):DR AA 37 [.sl none (E8 l),.agg x.c,.agg h.c,.int .i64 t] (sq (vO l t x h)):=by
 have c1:Dx AA 72 [.sl none (E8 l),.int .i64 t] [some x.c,some h.c] λv H'=>v = .ptr 4 0/\H'=[some x.c,some h.c]++[some [.sl none (E8 l)],some [.int .i64 t],some (ZQ 2),some [.ptr 4 0]]:=ASi l t [some x.c,some h.c]
 have hW:fh l t 3 5 2 4 ([some x.c,some h.c]++[some [.sl none (E8 l)],some [.int .i64 t],some (ZQ 2),some [.ptr 4 0]]):=⟨rfl,rfl,⟨none,rfl⟩,rfl⟩
 have c2:OK AA 136 [.agg x.c,.agg h.c,.ptr 5 0,.ptr 2 0] ([some x.c,some h.c]++[some [.sl none (E8 l)],some [.int .i64 t],some (ZQ 2),some [.ptr 4 0]]) (MW (vO l t x h)):=λH2 hv=>s4 l hl hln t 3 5 2 4 x hx h hr H2 (hW.view hv)
 have ho : ∀ ops,zS.ord 1 ops=(l4 [6,7] ops.size).filterMap λi=>ops[i]?:=λops=>rfl
 have hI:l4 [6,7] 16=[6,7,0,1,2,3,4,5,8,9,10,11,12,13,14,15]:=dc
 have w1 : ∀ z,([some x.c,some h.c]++z)[0]? =some (some x.c):=λz=>rfl
 simp only [ZQ] at c1 c2
 cases ev:vO l t x h with
 | none =>
  rw [ev] at c2
  have c3:=dl [] false
  refine pB AE7 rfl ?_
  simp only [f37,go_sem]
  rw [OE _ _ _ (by simp only [go_sem]) rfl,ho]
  simp only [BW,AC,AG,Nat.reduceAdd,hI,B6,Bf,B1,A8,Ce]
  simp only [go_sem]
  refine ⟨_,_,c1, ?_⟩
  simp only [go_sem]
  repeat' (first
   | ((first|refine rK (c2) ?_|refine pK (c3) ?_);simp only [go_sem])
   | ((first|apply cS|apply gS)<;>(intro hc;simp only [go_sem,hc])))
  all_goals first|rfl|skip
 | some r =>
  rw [ev] at c2
  have c3:=dl r true
  refine pB AE7 rfl ?_
  simp only [f37,go_sem]
  rw [OE _ _ _ (by simp only [go_sem]) rfl,ho]
  simp only [BW,AC,AG,Nat.reduceAdd,hI,B6,Bf,B1,A8,Ce]
  simp only [go_sem]
  refine ⟨_,_,c1, ?_⟩
  simp only [go_sem]
  repeat' (first
   | ((first|refine rK (c2) ?_|refine pK (c3) ?_);simp only [go_sem])
   | ((first|apply cS|apply gS)<;>(intro hc;simp only [go_sem,hc])))
  all_goals first|rfl|skip
theorem AQp{l:List Fld}(h:N5 l=0):Hl l:=by
 have : ∀ (r:List Fld) (i:Nat),HJ l i r=0 -> ∀ f∈r,Fr f:=by
  intro r
  induction r with
  | nil=>intro i _ f hf;cases hf
  | cons x r ih =>
   intro i h f hf
   rw [HJ] at h
   split at h
   ·cases h
   split at h
   ·cases h
   split at h
   ·cases h
   split at h
   ·cases h
   rename_i hp _
   rcases AZ.1 hf with rfl|hf
   ·simp only [Rt,Bool.not_eq_true',Bool.and_eq_false_iff,not_or,Bool.not_eq_false,decide_eq_true_eq] at hp
    unfold Fr
    omega
   ·exact ih _ h f hf
 unfold N5 at h
 split at h
 ·cases h
 ·exact this l 0 h
end Go.AI
