/- A row that a call has made becomes a list that nobody writes. -/
import Derived.Test.YtfohpcndcpadgaaGreatDoorMp
set_option linter.unusedSimpArgs false
set_option linter.unusedVariables false
set_option linter.defProp false
open Go.Proofs.Tryz
open Go.AI renaming CRel->FA,Head->FB,Policy->FC
open Bool renaming and_true->Bo,eq_iff_iff->A9
open Int renaming lt_irrefl->AR,toNat_natCast->AZ,toNat_of_nonneg->CK
open Go.IntKind renaming bits->DQ,signed->Dw,wrap->Dv
open List renaming append_assoc->AF,append_nil->Ai,cons_append->AU,drop_drop->A_,filterMap_cons->B7,filterMap_nil->Cj,filter_append->Ch,filter_eq_self->DZ,flatten_cons->Cq,getElem?_append_left->Aa,getElem?_append_right->AO,getElem?_concat_length->BT,getElem?_cons_succ->B2,getElem?_cons_zero->A7,getElem?_eq_getElem->AL,getElem?_eq_some_iff->AD,getElem?_set_ne->A2,getElem?_set_self->Aw,getElem?_toArray->Bl,length_append->AE,length_cons->AC,length_map->Ap,length_nil->AG,length_set->Aj,map_append->Aq,map_congr_left->B4,map_eq_nil_iff->Da,map_flatten->DX,map_id->DY,mem_cons->AY,mem_map->AN,mem_of_getElem?->AB,mem_singleton->Ag,nil_append->AM,set_append_left->BY,set_append_right->Bg,set_comm->B8,set_set->BD,size_toArray->Bd,take_add_one->BF,take_append_of_le_length->DD,take_set_of_le->CU,take_succ_cons->CP
open Nat renaming add_assoc->AT,add_sub_cancel_left->A5,div_one->EZ,le_refl->AS,lt_or_ge->BW,sub_self->AP,zero_add->AX
open Go.Proofs.Tryz renaming prog->AA
namespace Go.AI
def Tx(es:List (List AV))(v:AV)(H g:Fl):Prop :=
 (es=[]/\(∃w,v = .sl w []) /\ ∃ext,g=H++ext) \/ ∃i j,v = .msl i 0 es.length 10/\H.length<=i/\(∃ext,g=H++ext)/\g[i]? =some (some j)/\(∃r,j=es.flatten++r)
section
variable{P:Program}
def CRel.borrowArgs{F:Nat->Prop}{G:Gh}{w:World}{H:Fl}{g:List AV}{j:List Value}(h:FA F G g H j w):FA F G (g.map AV.borrow) H j w:=by
 obtain⟨o,t1⟩:=IJ (F:=F) (G:=G) (w:=w) (first:=g) (fi:=j) h.l.len (λi c v a b=>h.l.rel i c v a b);exact⟨o,h.h,λb=>by
  rw[t1];have:=h.cnt b;omega⟩
def Fw.weak{f:FuncId}{vs:List AV}{H:Fl}{R:AV->Fl->Prop}(h:Fw P f (vs.map AV.borrow) H R):Fw P f vs H R:=⟨h.1,λF G w g i=>h.2 F G w g i.borrowArgs⟩
def Fm.weak{f:FuncId}{vs:List AV}{v:AV}(h:Fm P f (vs.map AV.borrow) v):Fm P f vs v:=λH=>(h H).weak
def CRel.swap1{F:Nat->Prop}{G:Gh}{w:World}{H:Fl}{v g:AV}{u:Value}(h:FA F G [v] H [u] w)(j:VRel G w g u)(i:g.owned=false):FA F G [g] H [u] w :=
 ⟨.cons j (GC (Gs i u) _ _ _) ⟨rfl,F3,F3⟩,h.h,λx=>by
  have:=h.cnt x;rw[Fx,Gs i u];rw[Fx]at this;simp only[List.count_nil]at this ⊢;omega⟩
def dR{H ext:Fl}{g:Nat}(h:H.length<=g):(H++ext).set g none=H++ext.set (g - H.length) none:=Bg _ _ h
def CRel.frzRow{F:Nat->Prop}{G:Gh}{w:World}{H ext:Fl}{i:List AV}{C:List Value}{u:Value}{o g j:Nat}{p:List AV}(r:Bool)(h:FA F G i (H++ext) C w)
  (J:(H++ext)[o]? =some (some p))(O:H.length<=o)(P:VRel G w (.msl o 0 g j) u)(hl:g*j<=p.length)(R:r=true\/j=1):
  ∃t ext',FA F t i (H++ext') C w/\Ext F G w t w/\VRel t w (.sl none (IX r j g (p.map borrow1))) u:=by
 have T:Kw r (.msl o 0 g j) (H++ext)=some (.sl none (IX r j g (p.map borrow1)),(H++ext).set o none):=by
  simp only[Kw,J];rw[iP ⟨Fj,R⟩,List.drop_zero]
 obtain⟨U,b,es,e1,e2,_,I,V,g3,_⟩:=SG T h P;rw[dR O]at I;exact⟨_,_,I,V,g3⟩
def CRel.cutExt{F:Nat->Prop}{G p:Gh}{w j:World}{H ext:Fl}{I:List AV}{J:List Value}{v:AV}{u:Value}(t:FA F G I H J w)(r:FA F p [v] (H++ext) [u] j)(g:Ext F G w p j)(O:v.bnd H.length=true):
  ∃i,FA F i [v] H [u] j/\Ext F G w i j :=
 ⟨_,r.cut O t.h.closed,⟨g.size,⟨λo b C=>by
  have P:=(AD.1 C).1;show(p.obs.take H.length)[o]? =some b;rw[List.getElem?_take_of_lt (by have:=t.h.len;omega)];exact g.keeps.obs o b C,g.keeps.shape,g.keeps.sp,g.keeps.safe⟩,g.kind,g.cells,g.io⟩⟩
def LY:∀(es:List (List AV)) (r:List AV) (g:Nat),(∀e∈es,e.length=g)->IX true g es.length (es.flatten++r)=es.map .agg
 |[],_,_,_=>rfl
 |e::es,r,g,h=>by
  have i:=h e F3;simp only[AC,IX,if_true,Cq,AF,List.map_cons];rw[DD Fj,List.take_of_length_le Fj,List.drop_append_of_le_length Fj,List.drop_of_length_le Fj,AM,LY es r g λx hx=>h x (by simp[hx])]
def Pi:∀(es:List (List AV)) (g:Nat),(∀e∈es,e.length=g)->es.flatten.length=es.length*g
 |[],_,_=>F3
 |e::es,g,h=>by
  rw[Cq,AE,Pi es g λx hx=>h x (by simp[hx]),h e F3,AC,Nat.add_mul];omega
def OX{es:List (List AV)}{n:Nat}(g:∀e∈es,F_ n e=true):(AV.sl none (es.map .agg)).bnd n=true:=by
 simp only[AV.bnd];refine Gt.2 λc i=>?_;obtain⟨e,j,rfl⟩:=AN.1 i;simpa [AV.bnd]using g e j
def ABk {f:FuncId} {vs:List AV} {H:Fl} {es:List (List AV)} (p : ∀ e∈es,e.length=10) (hs : ∀ e∈es,F_ H.length e=true) (hb : ∀ e∈es,e.map borrow1=e)
  (h:Fw P f vs H λt C=>Tx es t H C):Fw P f vs H λt C=>t = .sl none (es.map .agg)/\C=H :=
 ⟨h.1,λF G w us I=>Calls.mono (h.2 F G w us I) λe w' J=>by
  obtain⟨u,rfl,t,H2,G',hr,i,j⟩:=J;rcases hr with⟨rfl,⟨w0,rfl⟩,ext,rfl⟩|⟨ob,cs,rfl,O,⟨ext,rfl⟩,ho,r,rfl⟩
  ·have R:VRel G' w' (.sl none []) u:=by
    have:=i.l.rel 0 _ _ rfl rfl;cases this with
    |slnil=>exact .slnil _
    |slany=>exact .slany _ _
    |sl own es sz b q T u' U hown hl hm h1 h2=>exact .sl none [] sz b q T u' U (λn p=>by cases p) hl hm h1 h2
   obtain⟨G2,V,k2⟩:=I.cutExt (i.swap1 R rfl) j rfl;exact⟨u,rfl,_,H,G2,⟨rfl,rfl⟩,V,k2⟩
  ·have R:=i.l.rel 0 _ _ rfl rfl;have o:=Pi es 10 p;obtain⟨G2,ext2,V,k2,k3⟩:=i.frzRow true ho O R (by rw[AE,o];omega) (.inl rfl);have e1:(es.flatten++r).map borrow1=es.flatten++r.map borrow1:=by
    rw[Aq,DX];congr 2;exact B4 (f:=List.map borrow1) (g:=id) (λe J=>hb e J) |>.trans (DY _)
   rw[e1,LY es _ 10 p]at k3;obtain⟨G3,k4,k5⟩:=I.cutExt (V.swap1 k3 rfl) (j.trans k2) (OX hs);exact⟨u,rfl,_,H,G3,⟨rfl,rfl⟩,k4,k5⟩⟩
def Y4 {f:FuncId} {vs:List AV} {H:Fl} {es:List (List AV)} {b:Bool} (R : ∀ e∈es,e.length=10) (hs : ∀ e∈es,F_ H.length e=true) (hb : ∀ e∈es,e.map borrow1=e)
  (h:Fw P f vs H λT V => ∃v0,T = .tup [v0,.bool b]/\Tx es v0 H V):Fw P f vs H λT V=>T = .tup [.sl none (es.map .agg),.bool b]/\V=H :=
 ⟨h.1,λF G w us j=>Calls.mono (h.2 F G w us j) λe w' he=>by
  obtain⟨u,rfl,T,H2,G',⟨v0,rfl,hr⟩,p,o⟩:=he;have C:=p.l.rel 0 _ _ rfl rfl;cases C with
  | tup _ I U hsv hg =>
   have h0:∃x,I[0]? =some x:=⟨_,Array.getElem?_eq_getElem (by rw[<- U];exact Nat.zero_lt_succ _)⟩;obtain⟨x,hx⟩:=h0;have J:=hg 0 _ x rfl hx;have put:∀{t:Gh} {w2:World} {a:AV},a.isVal=true->VRel t w2 a x->VRel t w2 (.tup [a,.bool b]) (.tuple I):=λ{t w2 a} ha hax=>by
    refine .tup _ _ U (λc j=>?_) λi c v j C=>?_
    ·rcases AY.1 j with rfl|j
     ·exact ha
     ·rw[Ag.1 j];rfl
    ·match i with
     | 0=>simp only[A7,Option.some.injEq]at j;subst j;rw[hx]at C;cases C;exact hax
     | 1 =>
      have:=hg 1 (.bool b) v rfl C;simp only[B2,A7,Option.some.injEq]at j;subst j;cases this;exact .bool _
     |i+2=>simp at j
   rcases hr with⟨rfl,⟨w0,rfl⟩,ext,rfl⟩|⟨ob,cs,rfl,hob,⟨ext,rfl⟩,ho,r,rfl⟩
   ·have hv0:VRel G' w' (.sl none []) x:=by
     cases J with
     |slnil=>exact .slnil _
     |slany=>exact .slany _ _
     |sl own es sz b q cap u' hsz hown U hm h1 h2=>exact .sl none [] sz b q cap u' hsz (λn R=>by cases R) U hm h1 h2
    obtain⟨t,k1,k2⟩:=j.cutExt (p.swap1 (put rfl hv0) rfl) o rfl;exact⟨_,rfl,_,H,t,⟨rfl,rfl⟩,k1,k2⟩
   ·have O:=Pi es 10 R;obtain⟨t,ext2,k1,k2,k3⟩:=p.frzRow true ho hob J (by rw[AE,O];omega) (.inl rfl);have e1:(es.flatten++r).map borrow1=es.flatten++r.map borrow1:=by
     rw[Aq,DX];congr 2;exact B4 (f:=List.map borrow1) (g:=id) (λe he=>hb e he) |>.trans (DY _)
    rw[e1,LY es _ 10 R]at k3;obtain⟨G3,k4,k5⟩:=j.cutExt (k1.swap1 (put rfl k3) rfl) (o.trans k2) (by
     have:=OX hs;simp only[AV.bnd,F_]at this ⊢;simp[this])
    exact⟨_,rfl,_,H,G3,⟨rfl,rfl⟩,k4,k5⟩⟩
end
end Go.AI
namespace Go.AI
open Go.Proofs
set_option maxRecDepth 50000
def bB{i j n:Nat}(r:n<=4611686018427387903)(t:j<=n)(C:i<j):IntKind.i64.wrap ((IntKind.u64.wrap (IntKind.i64.wrap ((i:Int)+(j:Int)))).fdiv 2)=(((i+j) / 2:Nat):Int):=by
 have g:IntKind.i64.wrap ((i:Int)+(j:Int))=((i+j:Nat):Int):=Mg Fj Fj;rw[g];have o:IntKind.u64.wrap ((i+j:Nat):Int)=((i+j:Nat):Int):=by
  simp[Dv,Dw,DQ];omega
 rw[o];have p:((i+j:Nat):Int).fdiv 2=(((i+j) / 2:Nat):Int):=by
  rw[Int.fdiv_eq_ediv_of_nonneg _ dc];omega
 rw[p];exact Mg Fj Fj
def AC_(x:Int):Fm AA 364 [.int .i64 x] (.bool false):=by
 refine pC AMd rfl ?_;simp only[f364,go_sem,bne_self_eq_false]
def OE(a b:Int):Int:=if a<b then -1 else if b<a then 1 else 0
def ADE(a b:Int):Fm AA 341 [.int .i64 a,.int .i64 b] (.int .i64 (OE a b)):=by
 have g:=AC_ a;have i:=AC_ b;refine pC ANE rfl ?_;simp only[f341,go_sem];repeat' (first|((first|apply pK g|apply pK i);simp only[go_sem])|apply Pz<;>intro j<;>simp only[go_sem,j])
 all_goals (unfold OE;grind)
def og(a b:FB)(H:Fl)(t C:Nat)(I:H[t]? =some (some a.c))(J:H[C]? =some (some b.c)):Gq AA 300 [.msl t 0 10 1,.msl C 0 10 1] H (.int .i64 (JP a b)):=by
 refine aC AES rfl ?_;simp only[f300,go_sem];refine JB (σ:=Nat) (λk=>[(0,.msl t 0 10 1),(1,.msl C 0 10 1),(9,.msl t 0 10 1),(10,.int .i64 10),(11,.int .i64 k)]) (λ_=>H) (λk=>k<=10/\JP a b=KR (a.l.drop k) (b.l.drop k)) (λk=>10 - k) 0 ⟨dc,rfl⟩ rfl rfl ?_;rintro k ⟨hk,p⟩;rw[Xz a b k hk]at p;by_cases h:k<10
 ·rw[iP h]at p;have O:(0:Int)<=(k:Int):=Fj;have P:(k:Int)<((10:Nat):Int):=Fj;have R:(k:Int)<10:=Fj;have T:¬((10:Nat):Int)<=(k:Int):=Fj;have U:=JL a h;have V:=JL b h;have hw:=K_ (k:=k) Fj;have c1:=ADE (GD a k) (GD b k);simp only[go_sem,O,P,R,T,dT,dF,AZ,I,J,U,V];repeat' (first|(apply pK c1;simp only[go_sem,O,P,R,T,dT,dF,AZ,I,J,U,V,hw])|apply Pz<;>intro hc<;>simp only[go_sem,hc,O,P,R,T,dT,dF,AZ,I,J,U,V,hw])
  ·have j:OE (GD a k) (GD b k)≠0:=by simpa using hc
   rw[p];unfold OE at j ⊢;by_cases o:GD a k<GD b k
   ·rw[iP o,iP o]
   ·rw[iN o]at j ⊢;rw[iN o];by_cases r:GD b k<GD a k
    ·rw[iP r,iP r]
    ·rw[iN r]at j;exact absurd rfl j
  ·have i:OE (GD a k) (GD b k)=0:=by simpa using hc
   unfold OE at i;have o:¬GD a k<GD b k:=λo=>by rw[iP o]at i;cases i
   have r:¬GD b k<GD a k:=λr=>by rw[iN o,iP r]at i;cases i
   rw[iN o,iN r]at p;exact⟨k+1,⟨Fj,p⟩,Fj,rfl,rfl⟩
 ·rw[iN h]at p;have:k=10:=Fj;subst this;have g:decide (((10:Nat):Int)<10)=false:=dc;have g2:decide (((10:Nat):Int)<((10:Nat):Int))=false:=dc;simp only[go_sem,g,g2];rw[p]
def Rv(a b:FB):Fm AA 304 [.agg a.c,.agg b.c] (.int .i64 (JP a b)):=by
 refine pC AON rfl ?_;simp only[f304,go_sem];repeat' (first|(refine aS (og a b _ _ _ rfl rfl) ?_;simp only[go_sem])|apply Pz<;>intro g<;>simp only[go_sem,g])
def AC0(x:FB):List FB->Nat
 |[]=>0
 |y::r=>if JP y x<0 then AC0 x r+1 else 0
def s8(x:FB): ∀(l:List FB) (i:Nat),i<=l.length->(∀k y,l[k]? =some y->k<i->JP y x<0)->(∀y,l[i]? =some y -> ¬JP y x<0)->AC0 x l=i
 |[],i,h,_,_=>by
  have:i=0:=by simpa using h
  rw[this];rfl
 |y::r,0,_,_,g=>by rw[AC0,iN (g y rfl)]
 |y::r,i+1,h,j,g=>by
  rw[AC0,iP (j 0 y rfl Fj),s8 x r i (by simpa using h) (λk z o t=>j (k+1) z (by simpa using o) Fj) λz p=>g z (by simpa using p)]
def oD{l:List FB}(h:MM l){i j:Nat}{a b:FB}(o:l[i]? =some a)(p:l[j]? =some b)(g:i<j):JP a b<0:=by
 obtain⟨r,rfl⟩:=AD.1 o;obtain⟨t,rfl⟩:=AD.1 p;exact List.pairwise_iff_getElem.1 h i j r t g
def Aaa{l:List FB}(h:MM l)(x:FB){i:Nat}(I : ∀ k y,l[k]? =some y->k<i->JP y x<0)(J : ∀ k y,l[k]? =some y->i<=k -> ¬ JP y x<0):(l.any λy=>decide (y=x))=match l[i]? with|some y=>decide (JP y x=0)|none=>false:=by
 have j:x∈l->l[i]? =some x:=λhx=>by
  obtain⟨k,r⟩:=List.getElem?_of_mem hx;rcases BW k i with C|C
  ·have:=I k x r C;rw[Qz]at this;omega
  ·rcases BW i k with o|o
   ·have t:i<l.length:=by have:=(AD.1 r).1;omega
    have g:=AL t;exact absurd (oD h g r o) (J i _ g (AS _))
   ·have:k=i:=Fj;subst this;exact r
 cases g:l[i]? with
 |none =>
  dsimp only;rw[List.any_eq_false];intro y O p;have:=of_decide_eq_true p;subst this;rw[j O]at g;cases g
 | some y =>
  dsimp only;rw[A9,List.any_eq_true,decide_eq_true_eq];constructor
  ·rintro ⟨z,P,p⟩;have:=of_decide_eq_true p;subst this;rw[j P]at g;cases g;exact Qz _
  ·intro p;exact⟨y,AB g,decide_eq_true (TI p)⟩
def Ac_(l:List FB)(hs:MM l)(hl:l.length<=4611686018427387903)(x:FB):Fm AA 306 [.sl none (F2 l),.agg x.c,.fn (.func 304) [] []] (.tup [.int .i64 (AC0 x l),.bool (l.any λy=>decide (y=x))]):=by
 refine pB AOG rfl ?_;simp only[f306,go_sem];refine JB (σ:=Nat×Nat) (λs=>[(0,.sl none (F2 l)),(2,.fn (.func 304) [] []),(4,.ptr 0 0),(8,.int .i64 l.length),(9,.int .i64 s.1),(10,.int .i64 s.2)]) (λ_=>[some x.c]) (λs=>s.1<=s.2/\s.2<=l.length/\(∀k y,l[k]? =some y->k<s.1->JP y x<0)/\(∀k y,l[k]? =some y->s.2<=k -> ¬JP y x<0)) (λs=>s.2 - s.1) (0,l.length) ⟨Fj,Fj,λk y C=>Fj,λk y T V=>by have:=(AD.1 T).1;omega⟩ rfl rfl ?_;rintro ⟨i,j⟩ ⟨I,U,T,V⟩;dsimp only at I U T V ⊢;by_cases J:i<j
 ·have t:(i:Int)<(j:Int):=Fj;have g2:(0:Int)<=(((i+j) / 2:Nat):Int):=Fj;have r:(((i+j) / 2:Nat):Int).toNat=(i+j) / 2:=Fj;have hm:(i+j) / 2<l.length:=Fj;have O:(((i+j) / 2:Nat):Int)<(l.length:Int):=Fj;have hw:=K_ (k:=(i+j) / 2) Fj;have p:=AL hm;have P:=GG p;have c1:=Rv l[(i+j) / 2] x;simp only[go_sem,t,dT,bB hl U J,g2,r,O,P];repeat' (first|(apply pK c1;simp only[go_sem,t,bB hl U J,g2,r,O,P,hw])|apply Pz<;>intro o<;>simp only[go_sem,o,t,bB hl U J,g2,r,O,P,hw])
  ·have o:=of_decide_eq_true o;exact⟨((i+j) / 2+1,j),⟨by dsimp only;omega,U,λk y C R=>by
    rcases BW k ((i+j) / 2)with h|h
    ·exact M1 (oD hs C p h) o
    ·have:k=(i+j) / 2:=by dsimp only at R;omega
     subst this;rw[p]at C;cases C;exact o,V⟩,by dsimp only;omega,rfl,rfl⟩
  ·have o:=of_decide_eq_false o;exact⟨(i,(i+j) / 2),⟨by dsimp only;omega,by dsimp only;omega,T,λk y C R=>by
    rcases BW ((i+j) / 2) k with h|h
    ·intro hlt2;exact o (M1 (oD hs p C h) hlt2)
    ·have:k=(i+j) / 2:=by dsimp only at R;omega
     subst this;rw[p]at C;cases C;exact o⟩,by dsimp only;omega,rfl,rfl⟩
 ·have I:i=j:=Fj;subst I;have t:¬(i:Int)<(i:Int):=Fj;have g:=Aaa hs x T V;have hpos:=s8 x l i U T λy hy=>V i y hy (AS _);rw[hpos];by_cases hil:i<l.length
  ·have r:(i:Int)<(l.length:Int):=Fj;have O:(0:Int)<=(i:Int):=Fj;have hgi:=AL hil;have P:=GG hgi;have c1:=Rv l[i] x;rw[hgi]at g;dsimp only at g;rw[g];simp only[go_sem,t,dF,r,O,dT,P];repeat' (first|(apply pK c1;simp only[go_sem,t,r,O,P,dT,AZ])|apply Pz<;>intro o<;>simp only[go_sem,o,t,r,O,P,dT,AZ])
   all_goals rfl
  ·have r:¬(i:Int)<(l.length:Int):=Fj;rw[List.getElem?_eq_none Fj]at g;dsimp only at g;rw[g];simp only[go_sem,t,dF,r];repeat' (first|apply Pz<;>intro o<;>simp only[go_sem,o,t,r])
def Aky(l:List FB)(g:MM l)(i:l.length<=4611686018427387903)(x:FB):Fm AA 246 [.sl none (F2 l),.agg x.c] (.bool (l.any λy=>decide (y=x))):=by
 have j:=Ac_ l g i x;refine pC AQa rfl ?_;simp only[f246,go_sem];repeat' (first|(apply pK j;simp only[go_sem])|apply Pz<;>intro o<;>simp only[go_sem,o])
def AHa(l:List FB)(o:MM l)(p:l.length<=4611686018427387903)(x:FB)(H:Fl)(i:Nat)(w:Option Nat)(j:H[i]? =some (some [.sl w (F2 l)])):Gq AA 245 [.agg x.c,.ptr i 0] H (.bool (l.any λy=>decide (y=x))):=by
 have r:=Aky l o p x;refine Fw.drop rfl ?_;refine aC AQe rfl ?_;have g:∀z,(H++z)[i]? =some (some [.sl w (F2 l)]):=λz=>by
  have:=(AD.1 j).1;rw[Aa this];exact j
 simp only[f245,go_sem,g];repeat' (first|(apply pK r;simp only[go_sem,g])|apply Pz<;>intro t<;>simp only[go_sem,t,g])
def LH:∀(n m:Nat) (a b:List FB),a.length+b.length<n->a.length+b.length<m->Ju n a b=Ju m a b
 | 0,_,a,b,h,_=>Fj
 |_,0,a,b,_,h=>Fj
 |n+1,m+1,[],b,_,_=>rfl
 |n+1,m+1,x::a,[],_,_=>rfl
 |n+1,m+1,x::a,y::b,g,i=>by
  simp only[AC]at g i;rw[Ju,Ju,LH n m a (y::b) (by simp only[AC];omega) (by simp only[AC];omega),LH n m a b Fj Fj,LH n m (x::a) b (by simp only[AC];omega) (by simp only[AC];omega)]
def pP(a:List FB):Ii a []=a:=by cases a<;>rfl
def ADk(x:FB)(a:List FB)(y:FB)(b:List FB):Ii (x::a) (y::b)=if JP x y<0 then x::Ii a (y::b)else if JP x y=0 then y::Ii a b else y::Ii (x::a) b:=by
 unfold Ii;rw[Ju];simp only[AC];rw[LH (a.length+1+(b.length+1)) (a.length+(b.length+1)+1) a (y::b) (by simp only[AC];omega) (by simp only[AC];omega),LH (a.length+1+(b.length+1)) (a.length+b.length+1) a b Fj Fj,LH (a.length+1+(b.length+1)) (a.length+1+b.length+1) (x::a) b (by simp only[AC];omega) (by simp only[AC];omega)]
def Pt:∀(n:Nat) (a b:List FB),(Ju n a b).length<=a.length+b.length
 | 0,_,_=>by simp[Ju]
 |n+1,[],b=>by simp[Ju]
 |n+1,x::a,[]=>by simp[Ju]
 |n+1,x::a,y::b=>by
  have g:=Pt n a (y::b);have i:=Pt n a b;have h3:=Pt n (x::a) b;rw[Ju];simp only[AC]at g h3 ⊢;split
  ·simp only[AC];omega
  ·split<;>simp only[AC]<;>omega
def Py(x:FB)(l:List FB):(F2 (x::l)).drop 1=F2 l:=rfl
def AaZ(x y:Option (Tmp×Nat×Bool))(e:GO):Prop :=
 match x,y with
 |some (a,k,s),some (b,l,g)=>(s=true\/g=true)/\match GJ e a,GJ e b with
  |.ptr i f1,.ptr j f2=>i≠j\/f1+k<=f2\/f2+l<=f1
  |_,_=>False
 |_,_=>False
def M0{P:Program}{h:Hint}{ops:Array Oper}{e:GO}(L:List (Option (Tmp×Nat×Bool)×Option (Tmp×Nat×Bool)))(g:((TD h ops).map λp=>(K4 P h p.1,K4 P h p.2))=L)(i:∀q∈L,AaZ q.1 q.2 e):KQ P h ops e:=λp j=>by
 have:=i _ (by rw[<- g];exact AN.2 ⟨p,j,rfl⟩);exact this
def Mq(l:List FB):Option (List AV):=some [.sl none (F2 l)]
def oW (o O P:Nat) (L:LoopRec) (Inv:List FB->List FB->List FB->Fl->Prop) (hne:O≠P) (m:List FB) (hm:m.length<=4611686018427387903)
  (hA:∀g a b X,Inv g a b X->X[O]? =some (Mq a)) (hB:∀g a b X,Inv g a b X->X[P]? =some (Mq b)) (hG:∀g a b X x,Inv g a b X->Inv g a b (X++[x]))
  (hsA:∀g a b X a',Inv g a b X->Inv g a' b (X.set O (Mq a'))) (hsB:∀g a b X b',Inv g a b X->Inv g a b' (X.set P (Mq b')))
  (R:∀g a b x X,g++[x] <+: m->Inv g a b X->OH AA o L [.agg (Head.c x)] X λv X'=>v = .bool true/\Inv (g++[x]) a b X')
  (a b:List FB) (X:Fl) (j:Ii a b=m) (hl:a.length+b.length<=4611686018427387903) (h0:Inv [] a b X):Fw AA 303 [.yld o L,.ptr O 0,.ptr P 0] X λ_ X'=>Inv m [] [] X':=by
 refine aC AOS rfl ?_;simp only[f303,go_sem];refine JB (σ:=List FB×List FB×List FB×Fl×GO) (λs=>(0,.yld o L)::(1,.ptr O 0)::(2,.ptr P 0)::s.2.2.2.2) (λs=>s.2.2.2.1) (λs=>Inv s.1 s.2.1 s.2.2.1 s.2.2.2.1/\s.1++Ii s.2.1 s.2.2.1=m/\s.2.1.length+s.2.2.1.length<=4611686018427387903) (λs=>s.2.1.length+s.2.2.1.length) ([],a,b,X,[]) ⟨h0,j,hl⟩ rfl rfl ?_;rintro ⟨g,a,b,X,rest⟩ ⟨hI,j,hl⟩;clear h0;dsimp only at hI j hl ⊢;have p:=hA _ _ _ _ hI;have r:=hB _ _ _ _ hI;have la:=(AD.1 p).1;have lb:=(AD.1 r).1;have I:∀z,(X++z)[O]? =some (Mq a):=λz=>by rw[Aa la];exact p
 have J:∀z,(X++z)[P]? =some (Mq b):=λz=>by rw[Aa lb];exact r
 have T:∀y v,(X++[y]).set O v=X.set O v++[y]:=λy v=>BY _ _ la;have U:∀y v,(X++[y]).set P v=X.set P v++[y]:=λy v=>BY _ _ lb;have V:∀v x y,(X.set O v++[x]).set X.length y=X.set O v++[y]:=λv x y=>by
  have:=WD (X.set O v) x y
  rwa [Aj]at this
 have tB:∀v x y,(X.set P v++[x]).set X.length y=X.set P v++[y]:=λv x y=>by
  have:=WD (X.set P v) x y
  rwa [Aj]at this
 have gA:∀v x,(X.set O v++[x])[X.length]? =some x:=λv x=>by rw[AO F3];simp
 have gB:∀v x,(X.set P v++[x])[X.length]? =some x:=λv x=>by rw[AO F3];simp
 have nA:X.length≠O:=Fj;have nB:X.length≠P:=Fj;have nA2:O≠X.length:=Fj;have nB2:P≠X.length:=Fj;unfold Mq at p r I J;have t:((0:Int)<((0:Nat):Int))=False:=dc;have C:(((0:Nat):Int)==(0:Int))=true:=rfl;cases a with
 | nil =>
  cases b with
  |nil =>
   have hm:g=m:=by rw[<- j];exact(Ai _).symm
   rw[hm]at hI;simp only[go_sem,p,r,AG,t,C,dF];repeat' (first|apply Pz<;>intro hc<;>simp only[go_sem,hc,p,r,AG,t,C,dF])
   all_goals first|exact hI|skip
  | cons y b =>
   simp only[AC]at hl;have n1:((0:Int)<((b.length+1:Nat):Int))=True:=eq_true Fj;have n2:(((b.length+1:Nat):Int)==(0:Int))=false:=by
    rw[beq_eq_false_iff_ne];omega
   have n3:=Py y b;have n4:(F2 (y::b))[0]? =some (.agg y.c):=rfl;have i:g++[y]++Ii [] b=m:=by rw[<- j,AF];rfl
   simp only[go_sem,p,r,I,J,T,U,V,tB,gA,gB,AG,AC,t,C,n1,n2,n3,n4,dT,dF];rw[IC _ _ _ (by simp only[go_sem]) rfl rfl];simp only[go_sem,p,r,I,J,T,U,V,tB,gA,gB,AG,AC,t,C,n1,n2,n3,n4,dT,dF];refine⟨Fj,M0 [(some (2,1,false),some (5,10,true))] kr ?_, ?_⟩
   ·intro q hq;rw[Ag.1 hq];exact⟨.inr rfl,.inl nB2⟩
   simp only[go_sem,p,r,I,J,T,U,V,tB,gA,gB,AG,AC,t,C,n1,n2,n3,n4,dT,dF];refine O6.intro (R g [] b y _ ⟨_,i⟩ (hG _ _ _ _ _ (hsB _ _ _ _ b hI))) λv X' hr=>?_;obtain⟨rfl,hi⟩:=hr;simp only[go_sem];exact⟨(g++[y],[],b,X',[(46,.bool false)]),⟨hi,i,by simp only[AG];omega⟩,F3,rfl,rfl⟩
 | cons x a =>
  simp only[AC]at hl;have m1:((0:Int)<((a.length+1:Nat):Int))=True:=eq_true Fj;have m2:(((a.length+1:Nat):Int)==(0:Int))=false:=by
   rw[beq_eq_false_iff_ne];omega
  have m3:=Py x a;have m4:(F2 (x::a))[0]? =some (.agg x.c):=rfl;cases b with
  | nil =>
   have i:g++[x]++Ii a []=m:=by rw[<- j,AF,pP,pP];rfl
   simp only[go_sem,p,r,I,J,T,U,V,tB,gA,gB,AG,AC,t,C,m1,m2,m3,m4,dT,dF];rw[IC _ _ _ (by simp only[go_sem]) rfl rfl];simp only[go_sem,p,r,I,J,T,U,V,tB,gA,gB,AG,AC,t,C,m1,m2,m3,m4,dT,dF];refine⟨Fj,M0 [(some (1,1,false),some (5,10,true))] kr ?_, ?_⟩
   ·intro q hq;rw[Ag.1 hq];exact⟨.inr rfl,.inl nA2⟩
   simp only[go_sem,p,r,I,J,T,U,V,tB,gA,gB,AG,AC,t,C,m1,m2,m3,m4,dT,dF];refine O6.intro (R g a [] x _ ⟨_,i⟩ (hG _ _ _ _ _ (hsA _ _ _ _ a hI))) λv X' hr=>?_;obtain⟨rfl,hi⟩:=hr;simp only[go_sem];exact⟨(g++[x],a,[],X',[(46,.bool false)]),⟨hi,i,by simp only[AG];omega⟩,F3,rfl,rfl⟩
  | cons y b =>
   simp only[AC]at hl;have n1:((0:Int)<((b.length+1:Nat):Int))=True:=eq_true Fj;have n2:(((b.length+1:Nat):Int)==(0:Int))=false:=by
    rw[beq_eq_false_iff_ne];omega
   have n3:=Py y b;have n4:(F2 (y::b))[0]? =some (.agg y.c):=rfl;have c1:=Rv x y;rw[ADk]at j;by_cases q1:JP x y<0
   ·rw[iP q1]at j;have k1:¬0<=JP x y:=Fj;have k2:JP x y<=0:=Fj;have i:g++[x]++Ii a (y::b)=m:=by rw[<- j,AF];rfl
    simp only[go_sem,p,r,I,J,T,U,V,tB,gA,gB,AG,AC,t,C,n1,n2,n3,n4,m1,m2,m3,m4,dT,dF];repeat' (first|(apply pK c1;simp only[go_sem,p,r,I,J,T,U,V,tB,gA,gB,AG,AC,t,C,n1,n2,n3,n4,m1,m2,m3,m4,k1,k2,dT,dF])|apply Pz<;>intro hc<;>simp only[go_sem,hc,p,r,I,J,T,U,V,tB,gA,gB,AG,AC,t,C,n1,n2,n3,n4,m1,m2,m3,m4,k1,k2,dT,dF])
    rw[IC _ _ _ (by simp only[go_sem]) rfl rfl];simp only[go_sem,p,r,I,J,T,U,V,tB,gA,gB,AG,AC,t,C,m1,m2,m3,m4,dT,dF];refine⟨Fj,M0 [(some (1,1,false),some (5,10,true))] kr ?_, ?_⟩
    ·intro q hq;rw[Ag.1 hq];exact⟨.inr rfl,.inl nA2⟩
    simp only[go_sem,p,r,I,J,T,U,V,tB,gA,gB,AG,AC,t,C,m1,m2,m3,m4,dT,dF];refine O6.intro (R g a (y::b) x _ ⟨_,i⟩ (hG _ _ _ _ _ (hsA _ _ _ _ a hI))) λv X' hr=>?_;obtain⟨rfl,hi⟩:=hr;simp only[go_sem];exact⟨(g++[x],a,y::b,X',[(46,.bool false)]),⟨hi,i,by simp only[AC];omega⟩,by simp only[AC];omega,rfl,rfl⟩
   ·rw[iN q1]at j;have k1:0<=JP x y:=Fj;by_cases q2:JP x y=0
    ·rw[iP q2]at j;have hxy:=TI q2;subst hxy;have k2:JP x x<=0:=Fj;have i:g++[x]++Ii a b=m:=by rw[<- j,AF];rfl
     have la':O<(X.set P (some [.sl none (F2 b)])).length:=by simpa using la
     have eA2:∀v,(X.set P v)[O]? =some (some [.sl none (F2 (x::a))]):=λv=>by rw[A2 hne.symm];exact p
     have eA3:∀v z,(X.set P v++z)[O]? =some (some [.sl none (F2 (x::a))]):=λv z=>by rw[Aa (by simpa using la)];exact eA2 v
     have sA3:∀w y v,(X.set P w++[y]).set O v=(X.set P w).set O v++[y]:=λw y v=>BY _ _ (by simpa using la);have tA3:∀w v x y,((X.set P w).set O v++[x]).set X.length y=(X.set P w).set O v++[y]:=λw v x y=>by
      have:=WD ((X.set P w).set O v) x y
      rwa [Aj,Aj]at this
     have gA3:∀w v x,((X.set P w).set O v++[x])[X.length]? =some x:=λw v x=>by rw[AO F3];simp
     simp only[go_sem,p,r,I,J,T,U,V,tB,gA,gB,AG,AC,t,C,n1,n2,n3,n4,m1,m2,m3,m4,dT,dF];repeat' (first|(apply pK c1;simp only[go_sem,p,r,I,J,T,U,V,tB,gA,gB,AG,AC,t,C,n1,n2,n3,n4,m1,m2,m3,m4,k1,k2,dT,dF])|apply Pz<;>intro hc<;>simp only[go_sem,hc,p,r,I,J,T,U,V,tB,gA,gB,AG,AC,t,C,n1,n2,n3,n4,m1,m2,m3,m4,k1,k2,dT,dF])
     rw[IC _ _ _ (by simp only[go_sem]) rfl rfl];simp only[go_sem,p,r,I,J,T,U,V,tB,gA,gB,AG,AC,t,C,n1,n2,n3,n4,dT,dF];refine⟨Fj,M0 [(some (2,1,false),some (5,10,true))] kr ?_, ?_⟩
     ·intro q hq;rw[Ag.1 hq];exact⟨.inr rfl,.inl nB2⟩
     simp only[go_sem,p,r,I,J,T,U,V,tB,gA,gB,AG,AC,t,C,n1,n2,n3,n4,k2,eA3,dT,dF];rw[IC _ _ _ (by simp only[go_sem]) rfl rfl];simp only[go_sem,p,r,I,J,T,U,V,tB,gA,gB,AG,AC,t,C,m1,m2,m3,m4,eA3,sA3,tA3,gA3,dT,dF];refine⟨Fj,M0 [(some (1,1,false),some (5,10,true))] kr ?_, ?_⟩
     ·intro q hq;rw[Ag.1 hq];exact⟨.inr rfl,.inl nA2⟩
     simp only[go_sem,p,r,I,J,T,U,V,tB,gA,gB,AG,AC,t,C,m1,m2,m3,m4,eA3,sA3,tA3,gA3,dT,dF];refine O6.intro (R g a b x _ ⟨_,i⟩ (hG _ _ _ _ _ (hsA _ _ _ _ a (hsB _ _ _ _ b hI)))) λv X' hr=>?_;obtain⟨rfl,hi⟩:=hr;simp only[go_sem];exact⟨(g++[x],a,b,X',[(46,.bool false)]),⟨hi,i,by simp only[AC];omega⟩,by simp only[AC];omega,rfl,rfl⟩
    ·rw[iN q2]at j;have k2:¬JP x y<=0:=Fj;have i:g++[y]++Ii (x::a) b=m:=by rw[<- j,AF];rfl
     simp only[go_sem,p,r,I,J,T,U,V,tB,gA,gB,AG,AC,t,C,n1,n2,n3,n4,m1,m2,m3,m4,dT,dF];repeat' (first|(apply pK c1;simp only[go_sem,p,r,I,J,T,U,V,tB,gA,gB,AG,AC,t,C,n1,n2,n3,n4,m1,m2,m3,m4,k1,k2,dT,dF])|apply Pz<;>intro hc<;>simp only[go_sem,hc,p,r,I,J,T,U,V,tB,gA,gB,AG,AC,t,C,n1,n2,n3,n4,m1,m2,m3,m4,k1,k2,dT,dF])
     rw[IC _ _ _ (by simp only[go_sem]) rfl rfl];simp only[go_sem,p,r,I,J,T,U,V,tB,gA,gB,AG,AC,t,C,n1,n2,n3,n4,dT,dF];refine⟨Fj,M0 [(some (2,1,false),some (5,10,true))] kr ?_, ?_⟩
     ·intro q hq;rw[Ag.1 hq];exact⟨.inr rfl,.inl nB2⟩
     simp only[go_sem,p,r,I,J,T,U,V,tB,gA,gB,AG,AC,t,C,n1,n2,n3,n4,k2,dT,dF];refine O6.intro (R g (x::a) b y _ ⟨_,i⟩ (hG _ _ _ _ _ (hsB _ _ _ _ b hI))) λv X' hr=>?_;obtain⟨rfl,hi⟩:=hr;simp only[go_sem];exact⟨(g++[y],x::a,b,X',[(46,.bool false)]),⟨hi,i,by simp only[AC];omega⟩,by simp only[AC];omega,rfl,rfl⟩
def Gl(l:List FB):List AV:=(l.map Head.c).flatten
def Jf(x:FB)(l:List FB):Gl (x::l)=x.c++Gl l:=rfl
def KS:∀l:List FB,(Gl l).length=l.length*10
 |[]=>rfl
 |x::l=>by
  rw[Jf,AE,KS l,AC];have:x.c.length=10:=rfl;omega
def YD:∀(l:List FB) (r:List AV) (k:Nat) (y:FB),l[k]? =some y->((Gl l++r).drop (k*10)).take 10=y.c
 |[],_,_,_,h=>by simp at h
 |x::l,r,0,y,h=>by
  simp only[A7,Option.some.injEq]at h;subst h;rfl
 | x::l,r,k+1,y,h=>by
  rw[Jf,AF];have e:(k+1)*10=x.c.length+k*10:=by
   have:x.c.length=10:=rfl;omega
  rw[e,<- A_,List.drop_left];exact YD l r k y (by simpa using h)
def lY{l:List FB}(r:List AV){k:Nat}{y:FB}(h:l[k]? =some y):k*10+10<=(Gl l++r).length:=by
 have:=(AD.1 h).1;rw[AE,KS];omega
def kK(d:FB->Bool):Nat->List FB->Int
 |_,[] => -1
 |k,x::r=>if d x=true then(k:Int)else kK d (k+1) r
def ADN(l:List FB)(hl:l.length<=9223372036854775807)(r:List AV)(H:Fl)(o:Nat)(p:H[o]? =some (some (Gl l++r)))(f:Nat)(first g:List AV)(d:FB->Bool)(hd:∀x∈l,Gq AA f (first.map AV.borrow++(.agg (Head.c x)::g.map AV.borrow)) H (.bool (d x))):
  Gq AA 305 [.msl o 0 l.length 10,.fn (.func f) first g] H (.int .i64 (kK d 0 l)):=by
 refine aC AER rfl ?_;simp only[f305,go_sem];refine F0 l (λr=>kK d (l.length - r.length) r) (λk=>[(0,.msl o 0 l.length 10),(1,.fn (.func f) first g),(7,.int .i64 l.length),(8,.int .i64 k)]) hl rfl ?_ ?_
 ·intro k y U t hx i C I V;have c1:=hd y (AB hx);have J:=lY r hx;have O:=YD l r k y hx;have hk2:=GI t;have j:l.length - (U.length+1)=k:=Fj;have P:l.length - U.length=k+1:=Fj;simp only[AC,j,AP]at i;simp only[go_sem,C,I,p,J,O,j,P];repeat' (first|(refine aS (c1) ?_;simp only[go_sem,C,I,V,p,J,O,j,P])|apply Pz<;>intro R<;>simp only[go_sem,R,C,I,V,p,J,O,j,P])
  ·rw[i,kK,iP R]
  ·rw[kK,iN (by rw[R];decide)]
 ·intro i T;simp only[go_sem,T,dF];rw[AP]at i;rw[i];rfl
def hM2:Hint:={ kZ with tk:=[] }
@[go_sem] def AmE:hM2.lv 3=[5,6]/\hM2.lv 4=[0]:=dk
set_option linter.defProp false in
@[go_sem] def AmD:=qE hM2 rfl rfl rfl
@[go_sem] def AmC:hM2.tk=[]/\hM2.mt=[5,14]/\hM2.pc=[]:=⟨rfl,rfl,rfl⟩
def ADA(a b:List FB)(H:Fl):Fw AA 243 [.sl none (F2 a),.sl none (F2 b)] H λv g=>v = .fn (.func 303) [] [.ptr H.length 0,.ptr (H.length+1) 0]/\g=H++[Mq a,Mq b]:=by
 refine aC AQk rfl ?_;simp only[f243,go_sem,AE,AF,AU,AM];all_goals first|rfl|exact⟨rfl,rfl⟩
def ALE{P:Program}{n tag N:Nat}{h:Hint}{g:Operand}{p:Array Tmp}{j o:Code}{Q:Exit->Kt}{e:GO}{H:Fl}{f:FuncId}{first i:List AV}(r:H.length=N)
  (t:Hh P none e g = .fn (.func f) first i)
  (C:Fw P f (first.map AV.borrow++[.yld N ⟨tag,p,j,o⟩]++i.map AV.borrow) (H++[some (Hl 0 (IY n e))]) (λ_ I=>ACi N Q e I)):rfK P n h none g p j o Q e H:=by
 subst r;exact aT t C
def MI(H:Fl)(fv:List AV)(out a b:List FB)(X:Fl):Prop :=
 H.length+4<=X.length/\X.take H.length=H/\X[H.length+1]? =some (Mq a)/\X[H.length+2]? =some (Mq b)/\X[H.length+3]? =some (some (Hl 0 fv)) /\
  ∃g,X[H.length]? =some (some [g])/\((out=[]/\g = .sl (some 0) []) \/ ∃i,g = .msl i 0 out.length 10/\out≠[]/\H.length+4<=i/\X[i]? =some (some (Gl out)))
def Fp{X:Fl}{i:Nat}{c:Option (List AV)}(h:X[i]? =some c)(z:Fl):(X++z)[i]? =some c:=by
 rw[Aa (AD.1 h).1];exact h
def Ge{X:Fl}{i j:Nat}{c:Option (List AV)}(h:X[i]? =some c)(g:j≠i)(v:Option (List AV)):(X.set j v)[i]? =some c:=by
 rw[A2 g];exact h
def JG{X:Fl}{i:Nat}(h:i<X.length)(v:Option (List AV)):(X.set i v)[i]? =some v:=by
 rw[Aw h]
def MI.grow{H:Fl}{fv:List AV}{out a b:List FB}{X:Fl}(h:MI H fv out a b X)(x:Option (List AV)):MI H fv out a b (X++[x]):=by
 obtain⟨C,g,h3,h4,h5,i,h6,h7⟩:=h;refine⟨IG,by rw[DD Fj];exact g,Fp h3 _,Fp h4 _,Fp h5 _,i,Fp h6 _, ?_⟩;rcases h7 with h7|⟨j,o,p,r,t⟩
 ·exact .inl h7
 ·exact .inr ⟨j,o,p,r,Fp t _⟩
def MI.setA{H:Fl}{fv:List AV}{out a b:List FB}{X:Fl}(h:MI H fv out a b X)(g:List FB):MI H fv out g b (X.set (H.length+1) (Mq g)):=by
 obtain⟨i,j,h3,h4,h5,o,h6,h7⟩:=h;refine⟨by simpa using i,by rw[CU Fj];exact j,JG Fj _,Ge h4 Fj _,Ge h5 Fj _,o,Ge h6 Fj _, ?_⟩;rcases h7 with h7|⟨p,r,t,C,I⟩
 ·exact .inl h7
 ·exact .inr ⟨p,r,t,C,Ge I Fj _⟩
def MI.setB{H:Fl}{fv:List AV}{out a b:List FB}{X:Fl}(h:MI H fv out a b X)(g:List FB):MI H fv out a g (X.set (H.length+2) (Mq g)):=by
 obtain⟨i,j,h3,h4,h5,o,h6,h7⟩:=h;refine⟨by simpa using i,by rw[CU Fj];exact j,Ge h3 Fj _,JG Fj _,Ge h5 Fj _,o,Ge h6 Fj _, ?_⟩;rcases h7 with h7|⟨p,r,t,C,I⟩
 ·exact .inl h7
 ·exact .inr ⟨p,r,t,C,Ge I Fj _⟩
def MI.put{H:Fl}{fv:List AV}{a b:List FB}{X:Fl}(p:H.length+4<=X.length)(j:X.take H.length=H)(h3:X[H.length+1]? =some (Mq a))(h4:X[H.length+2]? =some (Mq b))(z:Fl){out:List FB}{ob:Nat}(g:out≠[])(i:H.length+4<=ob)
  (o:((X.set H.length (some [.msl ob 0 out.length 10])).set (H.length+3) (some (Hl 0 fv))++z)[ob]? =some (some (Gl out))):MI H fv out a b ((X.set H.length (some [.msl ob 0 out.length 10])).set (H.length+3) (some (Hl 0 fv))++z):=by
 refine⟨IG, ?_,Fp (Ge (Ge h3 Fj _) Fj _) _,Fp (Ge (Ge h4 Fj _) Fj _) _,Fp (JG IG _) _,_,Fp (Ge (JG Fj _) Fj _) _,.inr ⟨ob,rfl,g,i,o⟩⟩;rw[DD IG,CU Fj,CU Fj];exact j
def YE:∀l:List FB,(Gl l).map borrow1=Gl l
 |[]=>rfl
 |x::l=>by
  rw[Jf,Aq,YE l];rfl
def lZ(l:List FB)(x:FB):Gl (l++[x])=Gl l++x.c:=by
 unfold Gl;simp
def AEu{H X:Fl}(h:X.take H.length=H): ∃ext,X=H++ext:=⟨X.drop H.length,by
 have:=List.take_append_drop H.length X;rw[h]at this;exact this.symm⟩
def mFv(n:Nat):List AV:=IY 16 [(5,.ptr n 0),(9,.fn (.func 303) [] [.ptr (n+1) 0,.ptr (n+2) 0])]
def W4(a b:List FB)(hl:a.length+b.length<=1048576)(H:Fl):Fw AA 162 [.sl none (F2 a),.sl none (F2 b)] H λv H'=>Tx ((Ii a b).map Head.c) v H H':=by
 have hml:(Ii a b).length<=1048576:=Nat.le_trans (Pt _ a b) hl;refine aC AU' rfl ?_;simp only[f162,go_sem];refine⟨by first|rfl|kernel_rfl,GQ.intro (ADA a b _) λv H' hr=>?_⟩;obtain⟨rfl,rfl⟩:=hr;simp only[go_sem,AE,AF,AU,AM,AC,AG,AT,Nat.reduceAdd];refine ALE (tag:=162) (N:=H.length+3) F3 rfl (Fw.mono (oW (H.length+3) (H.length+1) (H.length+2) _ (MI H (mFv H.length)) Fj (Ii a b) Fj (λ_ _ _ _ h=>h.2.2.1) (λ_ _ _ _ h=>h.2.2.2.1) (λ_ _ _ _ x h=>h.grow x) (λ_ _ _ _ a' h=>h.setA a') (λ_ _ _ _ b' h=>h.setB b') ?_ a b _ rfl Fj ?_) λv H2 hq=>?_)
 ·intro g a b x X I hI;have J:=I.length_le;simp only[AE,AC,AG]at J;obtain⟨R,P,h3,h4,h5,ov,h6,h7⟩:=hI;have f1:∀z,(X++z)[H.length+3]? =some (some (Hl 0 (mFv H.length))):=Fp h5;have f2:∀y v,(X++[y]).set (H.length+3) v=X.set (H.length+3) v++[y]:=λy v=>BY _ _ Fj;have f3:∀v z,(X.set (H.length+3) v++z)[H.length]? =some (some [ov]):=λv z=>Fp (Ge h6 Fj v) z;have f4:∀v y,(X.set (H.length+3) v++[y])[X.length]? =some y:=λv y=>by
   have:X.length=(X.set (H.length+3) v).length:=F3;rw[this];exact BT
  rcases h7 with⟨rfl,rfl⟩|⟨i,rfl,T,U,j⟩
  ·have f5:∀v z w,(X.set (H.length+3) v++z).set H.length w=(X.set (H.length+3) v).set H.length w++z:=λv z w=>BY _ _ IG;have f6:∀v w z,((X.set (H.length+3) v).set H.length w++z)[H.length+3]? =some v:=λv w z=>Fp (Ge (JG Fj v) Fj w) z;have f7:∀v w z u,((X.set (H.length+3) v).set H.length w++z).set (H.length+3) u=(X.set H.length w).set (H.length+3) u++z:=λv w z u=>by
    rw[BY _ _ IG,B8 _ _ Fj,BD,B8 _ _ Fj]
   have f8:∀v w y z,((X.set (H.length+3) v).set H.length w++(y::z))[X.length]? =some y:=λv w y z=>by
    have:X.length=((X.set (H.length+3) v).set H.length w).length:=F3;rw[this,AO (AS _),AP];rfl
   have f9:∀v w z u,((X.set (H.length+3) v).set H.length w++z).set H.length u=(X.set (H.length+3) v).set H.length u++z:=λv w z u=>by
    rw[BY _ _ IG,BD]
   have f10:∀v w z,((X.set (H.length+3) v).set H.length w++z)[H.length]? =some w:=λv w z=>Fp (JG IG w) z;have r:x.c.length=10:=rfl;have t:x.c.take 10=x.c:=rfl;have C:List.map borrow1 (Hx [AV.agg x.c])=Gl [x]:=rfl;refine MJ (h:=kZ) (n:=16) mixed rfl ⟨kr,kr⟩ dc _ _ _ _ h5 rfl rfl ?_;show Jw _ _ _ _ _ _ [(10,.agg x.c),(0,.undef),(1,.undef),(2,.undef),(3,.undef),(4,.undef),(5,.ptr H.length 0),(6,.undef),(7,.undef),(8,.undef),(9,.fn (.func 303) [] [.ptr (H.length+1) 0,.ptr (H.length+2) 0]),(10,.undef),(11,.undef),(12,.undef),(13,.undef),(14,.undef),(15,.undef)] _;simp only[go_sem,f1];refine⟨_,rfl, ?_⟩;simp only[go_sem,f1,f2,f3,f4,f5,f6,f7,f8,f9,f10,C,r,t,AF,AU,AM,AE,Aj,AC,AG,AX];refine⟨_,rfl, ?_⟩;have o:∀w u,((X.set H.length w).set (H.length+3) u).length=X.length:=λw u=>F3;have:=MI.put (fv:=mFv H.length) R P h3 h4 [some x.c,some (Gl [x])] (out:=[x]) (ob:=X.length+1) F3 Fj (by rw[AO (by rw[o];omega),o,A5];rfl);exact this
  ·have O:∀v,X.set (H.length+3) v=X.set (H.length+3) v:=λ_=>rfl;have hoX:=(AD.1 j).1;have f5:∀v z,(X.set (H.length+3) v++z)[i]? =some (some (Gl g)):=λv z=>Fp (Ge j Fj v) z;have f6:∀v z,(X.set (H.length+3) v++z).set i none=(X.set (H.length+3) v).set i none++z:=λv z=>BY _ _ IG;have f8:∀v z,((X.set (H.length+3) v).set i none++z)[H.length]? =some (some [.msl i 0 g.length 10]):=λv z=>Fp (Ge (Ge h6 Fj v) Fj none) z;have f9:∀v z w,((X.set (H.length+3) v).set i none++z).set H.length w=((X.set (H.length+3) v).set i none).set H.length w++z:=λv z w=>BY _ _ IG;have f10:∀v w z,(((X.set (H.length+3) v).set i none).set H.length w++z)[H.length+3]? =some v:=λv w z=>Fp (Ge (Ge (JG Fj v) Fj none) Fj w) z;have f11:∀v w z u,(((X.set (H.length+3) v).set i none).set H.length w++z).set (H.length+3) u=((X.set i none).set H.length w).set (H.length+3) u++z:=λv w z u=>by
    rw[BY _ _ IG];congr 1;rw[B8 _ _ (show H.length≠H.length+3 by omega),B8 _ _ (show i≠H.length+3 by omega),BD,B8 _ _ (show H.length+3≠i by omega),B8 _ _ (show H.length+3≠H.length by omega)]
   have V:(Gl g).length=g.length*10:=KS g;have hcb:(Gl g).map borrow1=Gl g:=YE g;have r:x.c.length=10:=rfl;have t:x.c.take 10=x.c:=rfl;have C:List.map borrow1 (Hx [AV.agg x.c])=x.c:=rfl;refine MJ (h:=hM2) (n:=16) mixed rfl ⟨kr,kr⟩ dc _ _ _ _ h5 rfl rfl ?_;show Jw _ _ _ _ _ _ [(10,.agg x.c),(0,.undef),(1,.undef),(2,.undef),(3,.undef),(4,.undef),(5,.ptr H.length 0),(6,.undef),(7,.undef),(8,.undef),(9,.fn (.func 303) [] [.ptr (H.length+1) 0,.ptr (H.length+2) 0]),(10,.undef),(11,.undef),(12,.undef),(13,.undef),(14,.undef),(15,.undef)] _;simp only[go_sem,f1];refine⟨_,rfl, ?_⟩;simp only[go_sem,f1,f2,f3,f4,f5,f6,f8,f9,f10,f11,V,hcb,r,t,C,AF,AU,AM,AE,Aj,AC,AG,AX];have hX1:H.length+4<=(X.set i none).length:=by simpa using R
   have O:(X.set i none).take H.length=H:=by rw[CU Fj];exact P
   have o:∀w u,(((X.set i none).set H.length w).set (H.length+3) u).length=X.length:=λw u=>F3;refine⟨Fj,Fj,_,rfl, ?_⟩;have:=MI.put (fv:=mFv H.length) hX1 O (Ge h3 Fj none) (Ge h4 Fj none) [some x.c,some (Gl g++x.c)] (out:=g++[x]) (ob:=X.length+1) F3 Fj (by rw[AO (by rw[o];omega),o,A5,lZ];rfl);simpa only[AE,AC,AG,AX]using this
 ·refine⟨F3,by rw[AF,List.take_left], ?_, ?_, ?_,.sl (some 0) [], ?_,.inl ⟨rfl,rfl⟩⟩
  ·rw[AF,AO Fj,A5];rfl
  ·rw[AF,AO Fj,A5];rfl
  ·rw[AF,AO Fj,A5];rfl
  ·rw[AF,AO (AS _),AP];rfl
 ·obtain⟨R,P,h3,h4,h5,ov,h6,h7⟩:=hq;refine⟨0,_,h5,.inl ⟨rfl, ?_⟩⟩;have p:∃ext,H2.set (H.length+3) none=H++ext:=AEu (by rw[CU Fj];exact P);have g6:=Ge h6 (show H.length+3≠H.length by omega) none;rcases h7 with⟨e,rfl⟩|⟨i,rfl,T,U,j⟩
  ·simp only[go_sem,g6];exact .inl ⟨by rw[e];rfl,⟨_,rfl⟩,p⟩
  ·simp only[go_sem,g6];exact .inr ⟨i,_,by rw[Ap],Fj,p,Ge j Fj none,[],(Ai _).symm⟩
def R9{l:List FB}: ∀e∈l.map Head.c,e.length=10:=λe g=>by
 obtain⟨x,_,rfl⟩:=AN.1 g;rfl
def kN{l:List FB}: ∀e∈l.map Head.c,e.map borrow1=e:=λe g=>by
 obtain⟨x,_,rfl⟩:=AN.1 g;rfl
def On{l:List FB}{n:Nat}: ∀e∈l.map Head.c,F_ n e=true:=λe g=>by
 obtain⟨x,_,rfl⟩:=AN.1 g;rfl
def P6(l:List FB):(l.map Head.c).map AV.agg=F2 l:=by rw[List.map_map];rfl
def Oc(a b:List FB)(g:a.length+b.length<=1048576)(H:Fl):Gq AA 162 [.sl none (F2 a),.sl none (F2 b)] H (.sl none (F2 (Ii a b))):=by
 have:=ABk R9 On kN (W4 a b g H);rw[P6]at this;exact this
def OZ:Option (List FB)->AV
 |some r => .tup [.sl none (F2 r),.bool true]
 |none => .tup [.sl none [],.bool false]
@[go_sem] def AbI(o:Option (List FB)):(OZ o).pure=true:=by
 cases o<;>simp[OZ,AV.pure,Fq,go_sem]
def Mn(r:List FB)(b:Bool):Fm AA 161 [.sl none (F2 r),.bool b] (OZ (if b=true then OF r else none)):=by
 refine pB qI rfl ?_;cases b with
 |false =>
  simp only[f161,go_sem];rfl
 |true =>
  simp only[f161,go_sem];repeat' (first|apply Pz<;>intro g<;>simp only[go_sem,g])
  ·rw[OF,iP (by have:=of_decide_eq_true g;omega)];rfl
  ·rw[OF,iN (by have:=of_decide_eq_false g;omega)];rfl
def AC4(o n:Nat)(b:Bool)(H:Fl):Fw AA 161 [.msl o 0 n 10,.bool b] H λv i=>i=H/\((b=true/\n<=256/\v = .tup [.msl o 0 n 10,.bool true])\/((b=false\/256<n) /\ ∃w,v = .tup [.sl w [],.bool false])):=by
 refine aC qI rfl ?_;cases b with
 |false =>
  simp only[f161,go_sem];exact .inr ⟨.inl trivial,_,rfl⟩
 | true =>
  simp only[f161,go_sem];repeat' (first|apply Pz<;>intro g<;>simp only[go_sem,g])
  ·have g:=of_decide_eq_true g;first|exact⟨rfl,.inr ⟨.inr Fj,_,rfl⟩⟩|exact .inr ⟨.inr Fj,_,rfl⟩|skip
  ·have g:=of_decide_eq_false g;exact .inl Fj
def AC5(w:Option Nat)(b:Bool)(H:Fl):Fw AA 161 [.sl w [],.bool b] H λv g=>g=H /\ ∃i,v = .tup [.sl i [],.bool b]:=by
 have j:decide ((256:Int)<((0:Nat):Int))=false:=dc;refine aC qI rfl ?_;cases b<;>cases w<;>simp only[f161,go_sem,AG,j];all_goals first|exact⟨_,rfl⟩|exact⟨rfl,_,rfl⟩|skip
def RM{α:Type}(l:List α)(i:Nat)(x:α)(h:i<l.length):(l.set i x).take (i+1)=l.take i++[x]:=by
 rw[BF,Aw h,CU (AS _)];rfl
def SN:∀(l:List FB) (r:List AV) (i:Nat),i<=l.length->(Gl l++r).take (i*10)=Gl (l.take i)
 |_,r,0,_=>by simp[Gl]
 |[],r,i+1,h=>by simp at h
 | x::l,r,i+1,h=>by
  have e:(i+1)*10=x.c.length+i*10:=by
   have:x.c.length=10:=rfl;omega
  rw[Jf,AF,e,List.take_length_add_append,SN l r i (by simpa using h),CP,Jf]
def YC:∀(l:List FB) (r:List AV) (i:Nat),i<=l.length->(Gl l++r).drop (i*10)=Gl (l.drop i)++r
 |_,r,0,_=>F3
 |[],r,i+1,h=>by simp at h
 | x::l,r,i+1,h=>by
  have e:(i+1)*10=x.c.length+i*10:=by
   have:x.c.length=10:=rfl;omega
  rw[Jf,AF,e,List.drop_length_add_append,YC l r i (by simpa using h),List.drop_succ_cons]
def q7(a b:List FB):Gl (a++b)=Gl a++Gl b:=by unfold Gl;simp
def cB{l:List FB}(r:List AV){i:Nat}(h:i<l.length)(x:FB):splice (Gl l++r) (i*10) x.c=Gl (l.set i x)++r:=by
 have e:i*10+x.c.length=(i+1)*10:=by
  have:x.c.length=10:=rfl;omega
 unfold splice;rw[e,SN l r i Fj,YC l r (i+1) Fj,List.set_eq_take_append_cons_drop,iP h,q7,Jf];simp only[AF]
def az(d:FB->Bool): ∀ (l:List FB) (k:Nat),(kK d k l = -1 /\ ∀ x∈l,d x=false) \/ ∃ (i:Nat) (x:FB),kK d k l=((k+i:Nat):Int)/\l[i]? =some x/\d x=true /\ ∀ y∈l.take i,d y=false
 |[],k => .inl ⟨rfl,F3⟩
 | x::r,k=>by
  rw[kK];by_cases h:d x=true
  ·rw[iP h];exact .inr ⟨0,x,rfl,rfl,h,F3⟩
  ·rw[iN h];have h:d x=false:=by simpa using h
   rcases az d r (k+1)with⟨e,g⟩|⟨i,y,e,g,h3,h4⟩
   ·exact .inl ⟨e,by simpa [h]using g⟩
   ·refine .inr ⟨i+1,y,by rw[e];congr 1;omega,g,h3, ?_⟩;rw[CP];intro z j;rcases AY.1 j with rfl|j
    ·exact h
    ·exact h4 z j
def oc(H:Fl)(f:Nat)(first g:List AV):Gq AA 305 [.sl none [],.fn (.func f) first g] H (.int .i64 (-1)):=by
 refine aC AER rfl ?_;simp only[f305,go_sem];refine F0 ([]:List FB) (λ_=>()) (λk=>[(0,.sl none []),(1,.fn (.func f) first g),(7,.int .i64 ((0:Nat):Int)),(8,.int .i64 k)]) F3 rfl ?_ ?_
 ·intro k y p i;rw[List.drop_nil]at i;cases i
 ·intro _ j;have o:decide (((0:Nat):Int)<((0:Nat):Int))=false:=dc;simp only[go_sem,o]
def cM(w:Option Nat)(H:Fl)(f:Nat)(first g:List AV):Fw AA 244 [.sl w [],.fn (.func f) first g] H λv p=>p=H /\ ∃r,v = .sl r []:=by
 have o:=oc H f first g
 have i:((-1:Int) == -1)=true:=rfl;refine aC AEX rfl ?_;cases w with
 |none =>
  simp only[f244,go_sem];repeat' (first|(refine aS (o) ?_;simp only[go_sem,i])|apply Pz<;>intro j<;>simp only[go_sem,j,i])
  all_goals first|exact⟨_,rfl⟩|exact⟨rfl,_,rfl⟩|skip
 |some w =>
  simp only[f244,go_sem];repeat' (first|(refine aS (o) ?_;simp only[go_sem,i])|apply Pz<;>intro j<;>simp only[go_sem,j,i])
  all_goals first|exact⟨_,rfl⟩|exact⟨rfl,_,rfl⟩|skip
def vX (l:List FB) (hl:l.length<=1048576) (r:List AV) (H:Fl) (o:Nat) (ho:H[o]? =some (some (Gl l++r))) (f:Nat) (first I:List AV) (d:FB->Bool)
  (hd:∀x∈l,∀c J,Gq AA f (first.map AV.borrow++(.agg (Head.c x)::I.map AV.borrow)) (H.set o (some c)++J) (.bool (d x))) :
  Fw AA 244 [.msl o 0 l.length 10,.fn (.func f) first I] H λv H' => ∃r' J,v = .msl o 0 (l.filter λx => !d x).length 10/\H'=H.set o (some (Gl (l.filter λx => !d x)++r'))++J:=by
 have O:H.set o (some (Gl l++r))=H:=by
  obtain⟨hlt,he⟩:=AD.1 ho;apply List.ext_getElem?;intro i;rw[List.getElem?_set];split
  ·rename_i hi;subst hi;rw[ho]
  ·rfl
 have hd0:∀x∈l,Gq AA f (first.map AV.borrow++(.agg (Head.c x)::I.map AV.borrow)) H (.bool (d x)):=λx hx=>by
  have:=hd x hx (Gl l++r) [];rw[O,Ai]at this;exact this
 have c1:=ADN l Fj r H o ho f first I d hd0
 refine aC AEX rfl ?_;rcases az d l 0 with⟨e,hall⟩|⟨i,x,e,hx,hdx,hpre⟩
 ·rw[e]at c1;have hf:l.filter (λx => !d x)=l:=DZ.2 λx hx=>by rw[hall x hx];rfl
  simp only[f244,go_sem];repeat' (first|(refine aS (c1) ?_;simp only[go_sem,Int.reduceBEq])|apply Pz<;>intro hc<;>simp only[go_sem,hc,Int.reduceBEq])
  all_goals first|exact⟨r,[],by rw[hf],by rw[hf,O,Ai]⟩|skip
 ·rw [e,AX] at c1
  have hn1:(((i:Nat):Int) == -1)=false:=by rw[beq_eq_false_iff_ne];omega
  have hi:=(AD.1 hx).1;have hw0:=K_ (k:=i) Fj;simp only[f244,go_sem];repeat' (first|(refine aS (c1) ?_;simp only[go_sem,hn1,hw0])|apply Pz<;>intro hc<;>simp only[go_sem,hc,hn1,hw0])
  refine JB (σ:=Nat×Nat×List FB×Fl×GO) (λs=>(0,.msl o 0 l.length 10)::(1,.fn (.func f) first I)::(5,.int .i64 s.1)::(6,.int .i64 s.2.1)::s.2.2.2.2) (λs=>H.set o (some (Gl s.2.2.1++r))++s.2.2.2.1)
   (λs=>s.1<s.2.1/\s.2.1<=l.length/\s.2.2.1.length=l.length/\s.2.2.1.take s.1=(l.take s.2.1).filter (λx => !d x)/\s.2.2.1.drop s.2.1=l.drop s.2.1) (λs=>l.length - s.2.1) (i,i+1,l,[],[]) ⟨by dsimp only;omega,by dsimp only;omega,rfl, ?_,rfl⟩ ?_ ?_ ?_
  ·dsimp only;rw[BF,hx,Ch];have h1:(l.take i).filter (λx => !d x)=l.take i:=DZ.2 λz hz=>by rw[hpre z hz];rfl
   rw[h1];simp[hdx]
  ·rfl
  ·dsimp only;rw[O,Ai]
  ·rintro ⟨i,j,g,J,rest⟩ ⟨hij,hj,hrl,p,P⟩;dsimp only at hij hj hrl p P ⊢;have hoL:=(AD.1 ho).1;have fO:∀c z,(H.set o c++z)[o]? =some c:=λc z=>Fp (JG hoL c) z;have fW:∀c z c',(H.set o c++z).set o c'=H.set o c'++z:=λc z c'=>by rw[BY _ _ (by simpa using hoL),BD]
   by_cases hlt:j<l.length
   ·have hy:=AL hlt;have hry:g[j]? =some l[j]:=by
     have:=congrArg (·[0]?) P;simpa [hy]using this
    have j0:(0:Int)<=(j:Int):=Fj;have j1:(j:Int)<(l.length:Int):=Fj;have k0:(0:Int)<=(i:Int):=Fj;have k1:(i:Int)<(l.length:Int):=Fj;have R:=K_ (k:=j) Fj;have T:=K_ (k:=i) Fj;have g1:=lY r hry;rw[AE]at g1;have g2:=YD g r j _ hry;have fS:∀c z y,(H.set o c++(J++[z])).set (H.length+J.length) y=H.set o c++(J++[y]):=λc z y=>by
     rw[<- AF,<- AF];simp
    have fL:∀c y,(H.set o c++(J++[y]))[H.length+J.length]? =some y:=λc y=>by
     rw[<- AF];have:H.length+J.length=(H.set o c++J).length:=F3;rw[this];exact BT
    have c2:=hd _ (AB hy) (Gl g++r) (J++[some (Head.c l[j])]);have V:(l.take (j+1)).filter (λx => !d x)=(l.take j).filter (λx => !d x)++(if d l[j]=true then[]else[l[j]]):=by
     rw[BF,hy,Ch];congr 1;cases hd2:d l[j]<;>simp[hd2]
    have t:(Head.c l[j]).length=10:=rfl;have C:(Head.c l[j]).take 10=Head.c l[j]:=rfl;cases U:d l[j]with
    | false =>
     rw[U]at c2;simp only[go_sem,j0,j1,k0,k1,dT,fO,g1,g2,fS,fL,fW,t,C,AF,AE,Aj];repeat' (first|(refine aS (c2) ?_;simp only[go_sem,j0,j1,k0,k1,dT,fO,g1,g2,fS,fL,fW,T,R,t,C,AF,AE,Aj])|apply Pz<;>intro hc<;>simp only[go_sem,hc,j0,j1,k0,k1,dT,fO,g1,g2,fS,fL,fW,T,R,t,C,AF,AE,Aj])
     have k2:i*10+10<=(Gl g).length+r.length:=by rw[KS];omega
     rw[iP k2,cB r Fj];refine⟨(i+1,j+1,g.set i l[j],J++[some (Head.c l[j])],[]),⟨by dsimp only;omega,by dsimp only;omega,by simpa using hrl, ?_, ?_⟩,by dsimp only;omega,rfl,rfl⟩
     ·dsimp only;rw[V,U,iN dc,<- p,RM g i l[j] Fj]
     ·dsimp only;rw[List.drop_set_of_lt Fj,<- A_,P,A_]
    | true =>
     rw[U]at c2;simp only[go_sem,j0,j1,k0,k1,dT,fO,g1,g2,fS,fL,fW,t,C,AF,AE,Aj];repeat' (first|(refine aS (c2) ?_;simp only[go_sem,j0,j1,k0,k1,dT,fO,g1,g2,fS,fL,fW,T,R,t,C,AF,AE,Aj])|apply Pz<;>intro hc<;>simp only[go_sem,hc,j0,j1,k0,k1,dT,fO,g1,g2,fS,fL,fW,T,R,t,C,AF,AE,Aj])
     refine⟨(i,j+1,g,J++[some (Head.c l[j])],[]),⟨by dsimp only;omega,by dsimp only;omega,hrl, ?_, ?_⟩,by dsimp only;omega,rfl,rfl⟩
     ·dsimp only;rw[V,U,iP rfl,Ai,p]
     ·dsimp only;rw[<- A_,P,A_]
   ·have hjl:j=l.length:=Fj;subst hjl;simp only[go_sem,AR,dF];refine⟨⟨Fj,Fj,Fj⟩, ?_⟩;simp only[go_sem,AIg,fO,fW,AE];rw[List.take_length]at p;have hkl:(l.filter λx => !d x).length=i:=by rw[<- p,List.length_take];omega
    refine⟨Fj,by rw[KS];omega,⟨Fj,Fj,.inl trivial⟩,HC (AV.agg Head.z.c) (l.length - i)++(Gl g++r).drop (i*10+(HC (AV.agg Head.z.c) (l.length - i)).length),J,by rw[hkl];rfl, ?_⟩;unfold splice;rw[SN g r i Fj,p,AF]
def rK{P:Program}{f:FuncId}{g:List AV}{d:Option Tmp}{K:Kt}{e:GO}{H:Fl}{v:AV}(i:QT P f g H v)(j:K (put d v e) H):sG P f g d K e H:=⟨v,.inl i,j⟩
def kF(l:List Fld)(t:Int)(j g i o:Nat)(H:Fl):Prop :=
 H[j]? =some (some [.int .i64 t])/\H[g]? =some (some [.ptr o 0])/\(∃w,H[i]? =some (some [.sl w (Gf l)])) /\
  H[o]? =some (some [.fn (.func 152) [] [.ptr j 0,.ptr g 0,.ptr i 0],.fn (.func 158) [] [.ptr g 0,.ptr i 0]])
@[go_sem] def AcA(t:Tmp)(g:List (Tmp×Option Nat×Bool))(Q:Exit->Kt)(e:GO)(H:Fl):AIN none t g Q e H=Vl g Q e H:=Eq.trans rfl rfl
@[go_sem] def AKO(a b c k:Nat):borrow0 (.msl a b c k) = .msl a b c k:=rfl
def Fw.res{P:Program}{f:FuncId}{vs:List AV}{H:Fl}{R:AV->Fl->Prop}(h:Fw P f vs H R):Fw P f vs H λv g => ∃i,R i g/\v=i.borrow :=
 ⟨h.1,λF G w j o=>Calls.mono (h.2 F G w j o) λe I p=>by
  obtain⟨u,rfl,v,g,r,t,C,h3⟩:=p;exact⟨u,rfl,v.borrow,g,r,⟨v,t,rfl⟩,C.borrowArgs,h3⟩⟩
def Pl(a b:List FB)(i:a.length+b.length<=1048576)(w:Option Nat)(H:Fl):Fw AA 162 [.sl w (F2 a),.sl none (F2 b)] H λv g=>Tx ((Ii a b).map Head.c) v H g/\v.borrow=v :=
 (Fw.res (Fw.weak (vs:=[.sl w (F2 a),.sl none (F2 b)]) (W4 a b i H))).mono λv g h=>by
  obtain⟨j,o,rfl⟩:=h;refine⟨?_,VP j⟩;rcases o with⟨e,⟨w,rfl⟩,h⟩|⟨p,r,rfl,h⟩
  ·exact .inl ⟨e,⟨none,rfl⟩,h⟩
  ·exact .inr ⟨p,r,rfl,h⟩
def T'(b:Bool)(H:Fl):Fw AA 161 [.sl none [],.bool b] H λv g=>g=H/\v = .tup [.sl none [],.bool b] :=
 (Fw.res (AC5 none b H)).mono λv g h=>by
  obtain⟨i,⟨rfl,w,rfl⟩,rfl⟩:=h;exact⟨rfl,rfl⟩
def T_(o n:Nat)(b:Bool)(H:Fl):Fw AA 161 [.msl o 0 n 10,.bool b] H λv i=>i=H/\((b=true/\n<=256/\v = .tup [.msl o 0 n 10,.bool true])\/((b=false\/256<n)/\v = .tup [.sl none [],.bool false])) :=
 (Fw.res (AC4 o n b H)).mono λv i h=>by
  obtain⟨p,⟨rfl,h⟩,rfl⟩:=h;rcases h with⟨g,j,rfl⟩|⟨g,w,rfl⟩
  ·exact⟨rfl,.inl ⟨g,j,rfl⟩⟩
  ·exact⟨rfl,.inr ⟨g,rfl⟩⟩
def ALb{f:AV->AV}{c:List AV}{a:AV}(h:c.map f=[a].map f): ∃x,c=[x]/\f x=f a:=by
 match c,h with
 |[],h=>cases h
 |[x],h=>exact⟨x,rfl,(List.cons.inj h).1⟩
 |_::_::_,h=>exact absurd (congrArg List.length h) F3
def Ak1{f:AV->AV}{c:List AV}{a b:AV}(h:c.map f=[a,b].map f): ∃x y,c=[x,y]/\f x=f a/\f y=f b:=by
 match c,h with
 |[],h=>cases h
 |[x],h=>exact absurd (congrArg List.length h) F3
 |[x,y],h=>exact⟨x,y,rfl,(List.cons.inj h).1,(List.cons.inj (List.cons.inj h).2).1⟩
 |_::_::_::_,h=>exact absurd (congrArg List.length h) F3
section
variable{l:List Fld}{t:Int}{ot ow ol o:Nat}
def kF.grow{H:Fl}(h:kF l t ot ow ol o H)(z:Fl):kF l t ot ow ol o (H++z) :=
 let⟨g,i,⟨w,h3⟩,h4⟩:=h;⟨Fp g z,Fp i z,⟨w,Fp h3 z⟩,Fp h4 z⟩
def Oz{x a:AV}(h:borrow1 x=borrow1 a)(g:∀w es,a ≠ .sl w es):x=a:=by
 cases x<;>cases a<;>first|(exact h)|(exact absurd rfl (g _ _))|(cases h)
def kF.view{H i:Fl}(g:Hc i=Hc H)(h:kF l t ot ow ol o H):kF l t ot ow ol o i:=by
 obtain⟨j,p,⟨w,h3⟩,h4⟩:=h;obtain⟨c1,r,C⟩:=LN g j;obtain⟨c2,I,J⟩:=LN g p;obtain⟨c3,O,P⟩:=LN g h3;obtain⟨c4,R,T⟩:=LN g h4;refine⟨?_, ?_, ?_, ?_⟩
 ·obtain⟨x,rfl,hx⟩:=ALb C;rw[r,Oz hx (by intro w es h;cases h)]
 ·obtain⟨x,rfl,hx⟩:=ALb J;rw[I,Oz hx (by intro w es h;cases h)]
 ·obtain⟨x,rfl,hx⟩:=ALb P;cases x<;>first|(cases hx;done)|skip
  rename_i U es;have:es=Gf l:=by
   have h5:AV.sl none es=AV.sl none (Gf l):=hx;cases h5;rfl
  subst this;exact⟨U,O⟩
 ·obtain⟨x,y,rfl,hx,V⟩:=Ak1 T;rw[R,Oz hx (by intro w es h;cases h),Oz V (by intro w es h;cases h)]
end
def gvs(l:List Fld)(t:Int)(j g i o:Nat)(p:FC)(F:FB->Option (List FB)):Prop :=
 ∀h,Fr h=true -> ∀H,kF l t j g i o H->Gq AA 158 [.agg p.c,.agg h.c,.ptr g 0,.ptr i 0] H (OZ (F h))
def Tx.base{es:List (List AV)}{v:AV}{B e X:Fl}(h:Tx es v (B++e) X):Tx es v B X:=by
 rcases h with⟨g,i,ext,rfl⟩|⟨j,o,g,i,⟨ext,rfl⟩,h4,h5⟩
 ·exact .inl ⟨g,i,e++ext,by rw[AF]⟩
 ·exact .inr ⟨j,o,g,by rw[AE]at i;omega,⟨e++ext,by rw[AF]⟩,h4,h5⟩
def Tx.ext{es:List (List AV)}{v:AV}{B X:Fl}(h:Tx es v B X): ∃ext,X=B++ext:=by
 rcases h with⟨_,_,h⟩|⟨_,_,_,_,h,_⟩<;>exact h
def AHQ(o:Option (List FB)):OZ o = .tup [.sl none (F2 (o.getD [])),.bool o.isSome]:=by cases o<;>rfl
def VO(l:List FB)(r:List AV):IX true 10 l.length ((Gl l++r).map borrow1)=F2 l:=by
 rw[Aq,YE];have:=LY (l.map Head.c) (r.map borrow1) 10 R9;rw[Ap]at this;rw[<- P6];exact this
def qB(F:FB->Option (List FB))(g:List FB)(y:FB)(i:List FB)(o:MM g)(p:∀r,F y=some r->MM r):
  IV F g (y::i)=if(F y).isSome=true/\(Ii g ((F y).getD [])).length<=256 then IV F (Ii g ((F y).getD [])) i else none:=by
 rw[IV];cases h:F y with
 |none=>rw[iN F3]
 |some a =>
  have e:=Qi o (p a h);simp only[Option.isSome_some,Option.getD_some,true_and,e];by_cases j:256<(GW g a).length
  ·rw[iP j,iN Fj]
  ·rw[iN j,iP Fj]
def W1(l : List Fld)(t : Int)(ot ow ol o : Nat)(p : FC)(F : FB -> Option (List FB))(hF : gvs l t ot ow ol o p F)(hg : ∀ h r, Fr h = true -> F h = some r -> I5 r)(xs : List FB)(hx : ∀ z ∈ xs, Fr z = true)(hl : xs.length <= 1048576)(H : Fl)(hW : kF l t ot ow ol o H):
    Fw AA 163 [.ptr o 0,.agg p.c,.sl none (F2 xs)] H λv H'=>(IV F [] xs=none/\(∃w,v = .tup [.sl w [],.bool false]) /\ ∃ext,H'=H++ext) \/ ∃r v0,IV F [] xs=some r/\v = .tup [v0,.bool true]/\Tx (r.map Head.c) v0 H H' := by
  refine aC AU6 rfl ?_;simp only[f163,go_sem];refine F6 xs (λ(s:List FB×AV×Fl×GO) r=>IV F s.1 r) (λ_ s=>I5 s.1/\Tx (s.1.map Head.c) s.2.1 (H++[some p.c]) s.2.2.1) (λk s=>(0,.ptr o 0)::(4,.ptr H.length 0)::(8,s.2.1)::(9,.bool true)::(14,.sl none (F2 xs))::(15,.int .i64 xs.length)::(16,.int .i64 k)::s.2.2.2) (λk s=>s.2.2.1) ([],.sl (some 10) [],H++[some p.c],[]) Fj ⟨Kb,.inl ⟨rfl,⟨_,rfl⟩,[],(Ai _).symm⟩⟩ rfl rfl ?_ ?_
  · rintro k ⟨i,ov,X,rest⟩ y ys hd T ⟨go,R⟩ hI h0 h1 hw
    dsimp only at go R hI ⊢;have hr := hx y (AB T);obtain⟨ext0,hX0⟩ := R.ext;have hWX:kF l t ot ow ol o X := by rw[hX0,AF];exact hW.grow _
    have hpX:X[H.length]? =some (some p.c) := by
      rw[hX0,AF,AO (AS _),AP];rfl
    have eP:∀z,(X++z)[H.length]? =some (some p.c) := Fp hpX;have eW:∀z,(X++z)[o]? =some (some [.fn (.func 152) [] [.ptr ot 0,.ptr ow 0,.ptr ol 0],.fn (.func 158) [] [.ptr ow 0,.ptr ol 0]]) := Fp hWX.2.2.2;have hc:∀z,QT AA 158 [.agg p.c,.agg y.c,.ptr ow 0,.ptr ol 0] (X++z) (OZ (F y)) := λz H2 hv=>hF y hr H2 ((hWX.grow z).view hv);rw[AHQ]at hc;have g := qB F i y ys go.1 (λr h=>(hg y r hr h).1);have ga:I5 ((F y).getD []) := by
      cases h:F y with
      |none=>exact Kb
      |some a=>exact hg y a hr h
    generalize hA:(F y).getD []=a at hc g ga;generalize hB:(F y).isSome=b at hc g;have hml := Pt (i.length+a.length+1) i a;have hll:i.length+a.length<=1048576 := by have := go.2.1;have := ga.2.1;omega
    rcases R with⟨e0,⟨w,rfl⟩,_⟩|⟨ob,cs,rfl,hob,_,hcs,r,rfl⟩
    · have e0:i=[] := by simpa using e0
      subst e0;have U:∃e2,X++[some y.c]=(H++[some p.c])++e2 := ⟨ext0++[some y.c],by rw[hX0,AF]⟩;cases w with
      | none =>
        simp only[go_sem,h0,h1,GG T,eP,eW];repeat' (first|(refine rK (hc _) ?_;simp only[go_sem,h0,h1,hw,GG T,eP,eW])|apply Pz<;>intro hc<;>simp only[go_sem,hc,h0,h1,hw,GG T,eP,eW])
        refine GQ.intro (Pl [] a hll _ _) λv X3 j=>?_;obtain⟨e2,U⟩ := U;obtain⟨j,hbw⟩ := j;rw[U]at j;have O := j.base;have V := O.ext;have hgm:b=true->(Ii ([]:List FB) a).length<=256->I5 (Ii ([]:List FB) a) := λ_ J=>by
          have e := Qi go.1 ga.1;rw[e]at J ⊢;exact Hi go ga.2.2 Fj
        rcases j with⟨e3,⟨w3,rfl⟩,_⟩|⟨ob3,cs3,rfl,hob3,_,hcs3,r3,rfl⟩
        · have hw3:w3=none := by cases w3 with
            |none=>rfl
            |some w3=>cases hbw
          subst hw3;simp only[go_sem];refine GQ.intro (T' b _) λv4 X4 C=>?_;obtain⟨rfl,rfl⟩ := C;have e3 := Da.1 e3;have P:(Ii ([]:List FB) a).length<=256 := by rw[e3];simp
          cases b with
          | true =>
            rw[iP ⟨rfl,P⟩]at g;simp only[go_sem,hw];exact⟨(Ii ([]:List FB) a,_,_,[]),g,⟨hgm rfl P,O⟩,rfl,rfl⟩
          | false =>
            rw[iN F3]at g;simp only[go_sem];exact .inl ⟨hI.trans g,⟨_,rfl⟩,by obtain⟨ext,he⟩ := V;exact⟨_,by rw[he,AF]⟩⟩
        · simp only [go_sem,Ap]
          refine GQ.intro (T_ ob3 _ b _) λv4 X4 C=>?_;obtain⟨rfl,C⟩ := C;rw[Ap]at O;rcases C with⟨rfl,J,rfl⟩|⟨I,rfl⟩
          · rw [iP ⟨rfl,J⟩] at g
            simp only[go_sem,hw];exact⟨(Ii ([]:List FB) a,_,_,[]),g,⟨hgm rfl J,O⟩,rfl,rfl⟩
          · rw [iN (by rintro ⟨g1, g2⟩; rcases I with I|I;(rw[g1]at I;cases I);omega)]at g
            simp only[go_sem];exact .inl ⟨hI.trans g,⟨_,rfl⟩,by obtain⟨ext,he⟩ := V;exact⟨_,by rw[he,AF]⟩⟩
      | some w =>
        simp only[go_sem,h0,h1,GG T,eP,eW];repeat' (first|(refine rK (hc _) ?_;simp only[go_sem,h0,h1,hw,GG T,eP,eW])|apply Pz<;>intro hc<;>simp only[go_sem,hc,h0,h1,hw,GG T,eP,eW])
        refine GQ.intro (Pl [] a hll (some w) _) λv X3 j=>?_;obtain⟨e2,U⟩ := U;obtain⟨j,hbw⟩ := j;rw[U]at j;have O := j.base;have V := O.ext;have hgm:b=true->(Ii ([]:List FB) a).length<=256->I5 (Ii ([]:List FB) a) := λ_ J=>by
          have e := Qi go.1 ga.1;rw[e]at J ⊢;exact Hi go ga.2.2 Fj
        rcases j with⟨e3,⟨w3,rfl⟩,_⟩|⟨ob3,cs3,rfl,hob3,_,hcs3,r3,rfl⟩
        · have hw3:w3=none := by cases w3 with
            |none=>rfl
            |some w3=>cases hbw
          subst hw3;simp only[go_sem];refine GQ.intro (T' b _) λv4 X4 C=>?_;obtain⟨rfl,rfl⟩ := C;have e3 := Da.1 e3;have P:(Ii ([]:List FB) a).length<=256 := by rw[e3];simp
          cases b with
          | true =>
            rw[iP ⟨rfl,P⟩]at g;simp only[go_sem,hw];exact⟨(Ii ([]:List FB) a,_,_,[]),g,⟨hgm rfl P,O⟩,rfl,rfl⟩
          | false =>
            rw[iN F3]at g;simp only[go_sem];exact .inl ⟨hI.trans g,⟨_,rfl⟩,by obtain⟨ext,he⟩ := V;exact⟨_,by rw[he,AF]⟩⟩
        · simp only [go_sem,Ap]
          refine GQ.intro (T_ ob3 _ b _) λv4 X4 C=>?_;obtain⟨rfl,C⟩ := C;rw[Ap]at O;rcases C with⟨rfl,J,rfl⟩|⟨I,rfl⟩
          · rw [iP ⟨rfl,J⟩] at g
            simp only[go_sem,hw];exact⟨(Ii ([]:List FB) a,_,_,[]),g,⟨hgm rfl J,O⟩,rfl,rfl⟩
          · rw [iN (by rintro ⟨g1, g2⟩; rcases I with I|I;(rw[g1]at I;cases I);omega)]at g
            simp only[go_sem];exact .inl ⟨hI.trans g,⟨_,rfl⟩,by obtain⟨ext,he⟩ := V;exact⟨_,by rw[he,AF]⟩⟩
    · have hcs' : ∀ z,(X++z)[ob]? =some (some (Gl i++r)) := Fp hcs
      have J:(Gl i++r).length≥i.length*10 := by rw[AE,KS];omega
      have hle2:i.length*10<=(Gl i++r).length := J;have hch := VO i r;have U:∃e2,(X++[some y.c]).set ob none=(H++[some p.c])++e2 := by
        rw[hX0,AF,dR hob];exact⟨_,rfl⟩
      simp only[go_sem,h0,h1,GG T,eP,eW,Ap];repeat' (first|(refine rK (hc _) ?_;simp only[go_sem,h0,h1,hw,GG T,eP,eW,Ap,hcs',hle2,hch])|apply Pz<;>intro hc<;>simp only[go_sem,hc,h0,h1,hw,GG T,eP,eW,Ap,hcs',hle2,hch])
      refine GQ.intro (Pl i a hll _ _) λv X3 j=>?_;obtain⟨e2,U⟩ := U;obtain⟨j,hbw⟩ := j;rw[U]at j;have O := j.base;have V := O.ext;have hgm:b=true->(Ii i a).length<=256->I5 (Ii i a) := λ_ J=>by
        have e := Qi go.1 ga.1;rw[e]at J ⊢;exact Hi go ga.2.2 Fj
      rcases j with⟨e3,⟨w3,rfl⟩,_⟩|⟨ob3,cs3,rfl,hob3,_,hcs3,r3,rfl⟩
      · have hw3:w3=none := by cases w3 with
          |none=>rfl
          |some w3=>cases hbw
        subst hw3;simp only[go_sem];refine GQ.intro (T' b _) λv4 X4 C=>?_;obtain⟨rfl,rfl⟩ := C;have e3 := Da.1 e3;have P:(Ii i a).length<=256 := by rw[e3];simp
        cases b with
        | true =>
          rw[iP ⟨rfl,P⟩]at g;simp only[go_sem,hw];exact⟨(Ii i a,_,_,[]),g,⟨hgm rfl P,O⟩,rfl,rfl⟩
        | false =>
          rw[iN F3]at g;simp only[go_sem];exact .inl ⟨hI.trans g,⟨_,rfl⟩,by obtain⟨ext,he⟩ := V;exact⟨_,by rw[he,AF]⟩⟩
      · simp only [go_sem,Ap]
        refine GQ.intro (T_ ob3 _ b _) λv4 X4 C=>?_;obtain⟨rfl,C⟩ := C;rw[Ap]at O;rcases C with⟨rfl,J,rfl⟩|⟨I,rfl⟩
        · rw [iP ⟨rfl,J⟩] at g
          simp only[go_sem,hw];exact⟨(Ii i a,_,_,[]),g,⟨hgm rfl J,O⟩,rfl,rfl⟩
        · rw [iN (by rintro ⟨g1, g2⟩; rcases I with I|I;(rw[g1]at I;cases I);omega)]at g
          simp only[go_sem];exact .inl ⟨hI.trans g,⟨_,rfl⟩,by obtain⟨ext,he⟩ := V;exact⟨_,by rw[he,AF]⟩⟩
  · rintro ⟨i,ov,X,rest⟩ ⟨go,R⟩ hI
    dsimp only at go R hI ⊢;have hfin:Tx (i.map Head.c) ov H X := R.base;rcases R with⟨e0,⟨w,rfl⟩,_⟩|⟨ob,cs,rfl,hob,_,hcs,r,rfl⟩
    · cases w with
      | none =>
        simp only[go_sem,AR,dF];exact .inr ⟨i,_,by rw[hI];rfl,rfl,hfin⟩
      | some w =>
        simp only[go_sem,AR,dF];exact .inr ⟨i,_,by rw[hI];rfl,rfl,hfin⟩
    · simp only [go_sem,AR,dF]
      exact .inr ⟨i,_,by rw[hI];rfl,rfl,hfin⟩
end Go.AI
namespace Go.AI
open Go.Proofs
set_option maxRecDepth 50000
def iv(l:List Fld)(t:Int)(C I J o:Nat)(p:FC)(F:FB->Option (List FB))(R:gvs l t C I J o p F)(T:∀h r,Fr h=true->F h=some r->I5 r)(g:List FB)(hx:∀z∈g,Fr z=true)(U:g.length<=1048576)(H:Fl)(V:kF l t C I J o H):
  Fw AA 163 [.ptr o 0,.agg p.c,.sl none (F2 g)] H λv O=>(IV F [] g=none/\v = .tup [.sl none [],.bool false] /\ ∃ext,O=H++ext) \/ ∃r j,IV F [] g=some r/\v = .tup [j,.bool true]/\Tx (r.map Head.c) j H O/\j.borrow=j :=
 (Fw.res (W1 l t C I J o p F R T g hx U H V)).mono λv O h=>by
  obtain⟨v1,i,rfl⟩:=h;rcases i with⟨i,⟨w,rfl⟩,P⟩|⟨r,j,i,rfl,P⟩
  ·exact .inl ⟨i,rfl,P⟩
  ·rcases P with⟨e,⟨w,rfl⟩,h⟩|⟨ob,cs,rfl,h⟩
   ·exact .inr ⟨r,.sl none [],i,rfl,.inl ⟨e,⟨none,rfl⟩,h⟩,rfl⟩
   ·exact .inr ⟨r,_,i,rfl,.inr ⟨ob,cs,rfl,h⟩,rfl⟩
def AHe(l:List Fld)(t:Int)(j C I o:Nat)(p:FC)(F:FB->Option (List FB))(P:gvs l t j C I o p F)(R : ∀ h r,Fr h=true->F h=some r->I5 r)(i:List FB)(hx : ∀ z∈i,Fr z=true)(T:i.length<=1048576)(H:Fl)(U:kF l t j C I o H):
  Gq AA 163 [.ptr o 0,.agg p.c,.sl none (F2 i)] H (OZ (IV F [] i)):=by
 have h:=W1 l t j C I o p F P R i hx T H U;cases e:IV F [] i with
 | none =>
  have:=Y4 (es:=[]) (b:=false) F3 F3  F3 (h.mono λv V J=>by
   rcases J with⟨_,⟨w,rfl⟩,he⟩|⟨r,O,g,_⟩
   ·exact⟨_,rfl,.inl ⟨rfl,⟨w,rfl⟩,he⟩⟩
   ·rw[e]at g;cases g)
  exact this
 | some r =>
  have:=Y4 (es:=r.map Head.c) (b:=true) R9 On kN (h.mono λv V J=>by
   rcases J with⟨g,_⟩|⟨r',O,g,rfl,h2⟩
   ·rw[e]at g;cases g
   ·rw[e]at g;cases g;exact⟨O,rfl,h2⟩)
  rw[P6]at this;exact this
def RS(H:Fl)(f:Nat)(first g:List AV):Fw AA 244 [.sl none [],.fn (.func f) first g] H λv i=>i=H/\v = .sl none [] :=
 (Fw.res (cM none H f first g)).mono λv i h=>by
  obtain⟨j,⟨rfl,w,rfl⟩,rfl⟩:=h;exact⟨rfl,rfl⟩
def qm(F:FB->Option (List FB)):Nat->List FB->List FB->Nat->Nat
 | 0,_,_,j=>j
 |k+1,o,n,j=>match IV F [] n with
  |none=>0
  |some m=>if HN o m=[]then j else qm F k (GW o (HN o m)) (HN o m) (j+1)
def AHP:Option (List FB)->Nat->AV
 |some r,n => .tup [.sl none (F2 r),.int .i64 n,.bool true]
 |none,_ => .tup [.sl none [],.int .i64 0,.bool false]
def ADj{o n:List FB}(h:MM n):MM (HN o n):=List.Pairwise.filter _ h
def Xp{H Y:Fl}(h:∃e,Y=H++e)(i:Nat)(g:H.length<=i)(c:Option (List AV)): ∃e,Y.set i c=H++e:=by
 obtain⟨e,rfl⟩:=h;exact⟨_,Bg _ _ g⟩
def AHZ(l:List Fld)(t:Int)(ot ow ol o:Nat)(p:FC)(F:FB->Option (List FB))(hF:gvs l t ot ow ol o p F)(hg : ∀ h r,Fr h=true->F h=some r->I5 r)(h:FB)(hr:Fr h=true)(H:Fl)(hW:kF l t ot ow ol o H):
  Fw AA 164 [.ptr o 0,.agg p.c,.agg h.c] H λv H'=>v.borrow=AHP (JH F 300 [h] [h]) (qm F 300 [h] [h] 0) /\ ∃ext,H'=H++ext:=by
 refine aC AU0 rfl ?_;have q0:∀(a b c:Option (List AV)) z,(H++(a::b::c::z))[H.length]? =some a:=λa b c z=>by rw[AO (AS _),AP];rfl
 have q1:∀(a b c:Option (List AV)) z,(H++(a::b::c::z))[H.length+1]? =some b:=λa b c z=>by rw[AO Fj,A5];rfl
 have q2:∀(a b c:Option (List AV)) z,(H++(a::b::c::z))[H.length+2]? =some c:=λa b c z=>by rw[AO Fj,A5];rfl
 have q3:∀(a b:Option (List AV)),(H++[a,b])[H.length+1]? =some b:=λa b=>by rw[AO Fj,A5];rfl
 have q4:∀(a b c d:Option (List AV)),(H++[a,b,c]).set (H.length+2) d=H++[a,b,d]:=λa b c d=>by rw[Bg _ _ Fj,A5];rfl
 simp only[f164,go_sem,q0,q1,q2,q3,q4,AE,AF,AU,AM,AC,AG,AT,Nat.reduceAdd];refine JB (σ:=Nat×List FB×List FB×Fl×GO) (λs=>(0,.ptr o 0)::(4,.ptr H.length 0)::(9,.ptr (H.length+2) 0)::(10,.int .i64 s.1)::(11,.sl none (F2 s.2.2.1))::s.2.2.2.2) (λs=>s.2.2.2.1)
  (λs=>I5 s.2.1/\(∀z∈s.2.2.1,Fr z=true)/\s.2.2.1.length<=256/\s.2.2.1≠[]/\s.1+1<=s.2.1.length/\H.length+3<=s.2.2.2.1.length/\(∃ext,s.2.2.2.1=H++ext)/\s.2.2.2.1[H.length]? =some (some p.c)/\(∃w,s.2.2.2.1[H.length+2]? =some (some [.sl w (F2 s.2.1)])) /\
   JH F 300 [h] [h]=JH F (300 - s.1) s.2.1 s.2.2.1/\qm F 300 [h] [h] 0=qm F (300 - s.1) s.2.1 s.2.2.1 s.1)
  (λs=>300 - s.1) (0,[h],[h],_,[]) ⟨N8 hr,by simpa using hr,F3,F3,F3,F3,⟨_,rfl⟩,q0 _ _ _ _,⟨_,q2 _ _ _ _⟩,rfl,rfl⟩ rfl rfl ?_
 rintro ⟨j,all,last,X,rest⟩ ⟨go,gl,hll,hne,hj,hX3,⟨ext,V⟩,hp0,⟨w,hc0⟩,P,hJ⟩;dsimp only at go gl hll hne hj hX3 V hp0 hc0 P hJ ⊢;generalize JH F 300 [h] [h]=R at P ⊢;generalize qm F 300 [h] [h] 0=N at hJ ⊢;have hal:=go.2.1;obtain⟨k,hk⟩:∃k,300 - j=k+1:=⟨299 - j,Fj⟩;have e300:300 - (j+1)=k:=Fj;rw[hk,JH,iN hne]at P;rw[hk,qm]at hJ;have hWX:kF l t ot ow ol o X:=by rw[V];exact hW.grow _
 have c1:=iv l t ot ow ol o p F hF hg last gl Fj X hWX;simp only[go_sem,hp0];refine GQ.intro c1 λv I hr1=>?_;rcases hr1 with⟨hn,rfl,ext1,rfl⟩|⟨m,v0,hm,rfl,hrow,hbw⟩
 ·rw[hn]at P hJ;have i:∀z,(X++z)[H.length+2]? =some (some [.sl w (F2 all)]):=Fp hc0;have s1:∀z c,(X++z).set (H.length+2) c=X.set (H.length+2) c++z:=λz c=>BY _ _ Fj;have c3:=Oc all [] IG (X++ext1);have c4:=Mn (Ii all []) false;rw[iN dc,show OZ none = .tup [.sl none [],.bool false]from rfl]at c4;have T:=Xp (H:=H) (Y:=X++ext1) ⟨ext++ext1,by rw[V,AF]⟩ (H.length+2) Fj;simp only[go_sem];refine GQ.intro (RS _ _ _ _) λv X2 hr2=>?_;obtain⟨rfl,rfl⟩:=hr2;simp only[go_sem,i];repeat' (first|((first|refine aS (c3) ?_|refine aP (c4) ?_);simp only[go_sem,i])|apply Pz<;>intro hc<;>simp only[go_sem,hc,i])
  exact⟨by rw[P];rfl,T _⟩
 ·have gm:=N9 hg last [] m Kb gl hm;rw[hm]at P hJ;dsimp only at P hJ;obtain⟨ext1,hX1⟩:=hrow.ext;have i:I[H.length+2]? =some (some [.sl w (F2 all)]):=by rw[hX1];exact Fp hc0 _
  have hp1:I[H.length]? =some (some p.c):=by rw[hX1];exact Fp hp0 _
  rcases hrow with⟨e0,⟨w3,rfl⟩,_⟩|⟨U,cs,rfl,hob,_,hcs,r,rfl⟩
  ·have hw3:w3=none:=by cases w3 with
    |none=>rfl
    |some w3=>cases hbw
   subst hw3;have e0:m=[]:=Da.1 e0;subst e0;have C:HN all []=[]:=rfl;rw[C]at P hJ;rw[iP rfl]at hJ;have hme:GW all []=all:=rfl;rw[hme,iN Fj]at P;have hG2:R=some all:=by
    rw[P];obtain⟨k',rfl⟩:∃k',k=k'+1:=⟨k - 1,Fj⟩;rw[JH,iP rfl]
   have T:=Xp (H:=H) (Y:=I) ⟨ext++ext1,by rw[hX1,V,AF]⟩ (H.length+2) Fj;have hl1:H.length+2<I.length:=(AD.1 i).1;have fG:∀c,(I.set (H.length+2) c)[H.length+2]? =some c:=λc=>JG hl1 c;simp only[go_sem];refine GQ.intro (RS _ _ _ _) λv X2 hr2=>?_;obtain⟨rfl,rfl⟩:=hr2;have c3:=Oc all [] IG X2;have c4:=Mn (Ii all []) true;rw[pP]at c3 c4;rw[iP rfl,OF,iN Fj,show OZ (some all) = .tup [.sl none (F2 all),.bool true]from rfl]at c4;have z2:(((0:Nat):Int)==(0:Int))=true:=rfl;simp only[go_sem,i];repeat' (first|((first|refine aS (c3) ?_|refine aP (c4) ?_);simp only[go_sem,i,fG,z2])|apply Pz<;>intro hc<;>simp only[go_sem,hc,i,fG,z2])
   all_goals first|(exact⟨by rw[hG2,hJ];rfl,T _⟩)|skip
  ·have hcs':I[U]? =some (some (Gl m++r)):=hcs;have hnob:U≠H.length+2:=Fj;have hd:∀x∈m,∀c J,Gq AA 245 (([]:List AV).map AV.borrow++(.agg (Head.c x)::([.ptr (H.length+2) 0]:List AV).map AV.borrow)) (I.set U (some c)++J) (.bool (all.any λy=>decide (y=x))):=λx _ c J =>
    AHa all go.1 Fj x _ (H.length+2) w (Fp (Ge i hnob _) J)
   have c2:=vX m (by have:=gm.2.1;omega) r I U hcs' 245 [] [.ptr (H.length+2) 0] (λx=>all.any λy=>decide (y=x)) hd;simp only[go_sem,Ap];refine GQ.intro c2 λv X2 hr2=>?_;obtain⟨r',J,rfl,rfl⟩:=hr2;have hkept:(m.filter λx => !(all.any λy=>decide (y=x)))=HN all m:=rfl;rw[hkept];have hob1:U<I.length:=(AD.1 hcs').1;have hg1:(I.set U (some (Gl (HN all m)++r'))++J)[U]? =some (some (Gl (HN all m)++r')):=Fp (JG hob1 _) J;have hg2:(HN all m).length*10<=(Gl (HN all m)++r').length:=by rw[AE,KS];omega
   have hg3:=VO (HN all m) r';have hg4:(I.set U (some (Gl (HN all m)++r'))++J).set U none=I.set U none++J:=by rw[BY _ _ (by simpa using hob1),BD]
   have gn:MM (HN all m):=ADj gm.1;have hgnew:∀z∈HN all m,Fr z=true:=λz hz=>gm.2.2 z (Ps.1 hz).1;have hnl:(HN all m).length<=m.length:=XC all m;have hml:=gm.2.1;have g:(I.set U none++J)[H.length+2]? =some (some [.sl w (F2 all)]):=Fp (Ge i hnob _) J;have hY0:(I.set U none++J)[H.length]? =some (some p.c):=Fp (Ge hp1 Fj _) J;have hYe:∃e,I.set U none++J=H++e:=by
    rw[hX1,V,AF,dR (by (have:X.length=H.length+ext.length:=by rw[V,AE]);omega),AF];exact⟨_,rfl⟩
   have c3:=Oc all (HN all m) Fj (I.set U none++J);have c4:=Mn (Ii all (HN all m)) true;rw[Qi go.1 gn]at c3 c4;generalize hY:I.set U none++J=Y at hg4 g hY0 hYe c3;have hYl:H.length+2<Y.length:=(AD.1 g).1;have T:=Xp (H:=H) (Y:=Y) hYe (H.length+2) Fj;have fG:∀c,(Y.set (H.length+2) c)[H.length+2]? =some c:=λc=>JG hYl c;by_cases O:256<(GW all (HN all m)).length
   ·rw[iP O]at P;rw[iP rfl,OF,iP O,show OZ none = .tup [.sl none [],.bool false]from rfl]at c4;simp only[go_sem,hg1,hg2,hg3,hg4,g];repeat' (first|((first|refine aS (c3) ?_|refine aP (c4) ?_);simp only[go_sem,g,fG])|apply Pz<;>intro hc<;>simp only[go_sem,hc,g,fG])
    all_goals first|(exact⟨by rw[P];rfl,T _⟩)|skip
   ·rw[iN O]at P;rw[iP rfl,OF,iN O,show ∀r,OZ (some r) = .tup [.sl none (F2 r),.bool true]from λ_=>rfl]at c4;by_cases C:HN all m=[]
    ·have hme:GW all (HN all m)=all:=by rw[C];rfl
     rw[iP C]at hJ;have hG2:R=some (GW all (HN all m)):=by
      rw[P,C];obtain⟨k',rfl⟩:∃k',k=k'+1:=⟨k - 1,Fj⟩;rw[JH,iP rfl]
     have z1:(((HN all m).length:Int)==0)=true:=by rw[C];rfl
     simp only[go_sem,hg1,hg2,hg3,hg4,g];repeat' (first|((first|refine aS (c3) ?_|refine aP (c4) ?_);simp only[go_sem,g,fG,z1])|apply Pz<;>intro hc<;>simp only[go_sem,hc,g,fG,z1])
     all_goals first|(exact⟨by rw[hG2,hJ];rfl,T _⟩)|skip
    ·rw[iN C]at hJ;have hpos:0<(HN all m).length:=List.length_pos_iff.2 C;have hmn:=UI C;have z1:(((HN all m).length:Int)==0)=false:=by rw[beq_eq_false_iff_ne];omega
     have hwj:=K_ (k:=j) Fj;simp only[go_sem,hg1,hg2,hg3,hg4,g];repeat' (first|((first|refine aS (c3) ?_|refine aP (c4) ?_);simp only[go_sem,g,fG,z1,hwj])|apply Pz<;>intro hc<;>simp only[go_sem,hc,g,fG,z1,hwj])
     refine⟨(j+1,GW all (HN all m),HN all m,_,[]),⟨Hi go hgnew O,hgnew,by dsimp only;omega,C,by dsimp only;omega,IG,T _,Ge hY0 Fj _,⟨none,fG _⟩,by dsimp only;rw[e300];exact P,by dsimp only;rw[e300];exact hJ⟩,by dsimp only;omega,rfl,rfl⟩
def ALL(l:List Fld)(t:Int)(g i j o:Nat)(p:FC)(F:FB->Option (List FB))(C:gvs l t g i j o p F)(I:∀h r,Fr h=true->F h=some r->I5 r)(h:FB)(J:Fr h=true)(H:Fl)(O:kF l t g i j o H):
  Gq AA 164 [.ptr o 0,.agg p.c,.agg h.c] H (AHP (JH F 300 [h] [h]) (qm F 300 [h] [h] 0)):=by
 refine Fw.drop ?_ ((Fw.res (AHZ l t g i j o p F C I h J H O)).mono λv T hx=>?_)
 ·cases JH F 300 [h] [h]with
  |none=>rfl
  |some r =>
   show F_ _ _=true;simp only[F_,AV.bnd,Bo];have:=OX (n:=H.length) (es:=r.map Head.c) On;rw[P6]at this;simpa [AV.bnd]using this
 ·obtain⟨U,⟨P,R⟩,rfl⟩:=hx;exact⟨P,R⟩
def sy:Fr Head.z=true:=dc
def Ty{f:Fld}(g:HP f){n m:Nat}(i:n<2^fW f):Fr (Wy f n m).mask=true/\Fr (Wy f n m).bits=true :=
 ⟨OY g (ja _ _) sy,OY g (Nat.lt_of_le_of_lt Nat.and_le_left i) sy⟩
def q_0(H:Fl)(a:Option (List AV))(z:Fl):(H++(a::z))[H.length]? =some a:=by rw[AO (AS _),AP];rfl
def q_1(H:Fl)(a b:Option (List AV))(z:Fl):(H++(a::b::z))[H.length+1]? =some b:=by rw[AO Fj,A5];rfl
def q_2(H:Fl)(a b c:Option (List AV))(z:Fl):(H++(a::b::c::z))[H.length+2]? =some c:=by rw[AO Fj,A5];rfl
def Acm(H:Fl)(a b c d:Option (List AV)):(H++[a,b,c]).set (H.length+2) d=H++[a,b,d]:=by rw[Bg _ _ Fj,A5];rfl
def ir(l:List Fld)(hl:Is l)(hln:l.length<=9223372036854775807)(t:Int)(ot ow ol o:Nat): ∀ x:Pred,Iq l x -> ∀ h,Fr h=true -> ∀ H,kF l t ot ow ol o H->Gq AA 152 [.agg x.c,.agg h.c,.ptr ot 0,.ptr ow 0,.ptr ol 0] H (.bool (hP l t x h)) := by
  refine Jk _ λx ih=>λhx h hr H hW=>?_;have g:∀a,a∈x.args->Iq l a -> ∀z,QT AA 152 [.agg a.c,.agg h.c,.ptr ot 0,.ptr ow 0,.ptr ol 0] (H++z) (.bool (hP l t a h)) := λa T ga z H2 hv=>ih a T ga h hr H2 ((hW.grow z).view hv);obtain⟨w1,w2,⟨w,w3⟩,w4⟩ := hW;have j := Fp w1;have p := Fp w2;have r := Fp w3;have C := Fp w4;have I := q_0 H;have J := q_1 H;have O := q_2 H;have P := Acm H;rw[AJ5];refine Fw.drop rfl ?_;rcases Xl hl hx with k|k|k|⟨k,a,T,ga⟩|⟨k,a,b,T,ga,gb⟩|⟨k,hf,R,hn,U⟩|⟨k,⟨hf,R,hn,U⟩,hm,hm2⟩|⟨k,hf,R,hn,hnm,hm2⟩
  · refine aC Oq rfl ?_
    simp only[f152,go_sem,j,p,r,C,I,J,O,P,AE,AF,AU,AM,AC,AG,AT,Nat.reduceAdd,k,Int.reduceBEq];repeat' (first|apply Pz<;>intro g<;>simp only[go_sem,g,Int.reduceBEq,k,j,p,r,C,I,J,O,P,AE,AF,AU,AM,AC,AG,AT,Nat.reduceAdd])
    all_goals first|rfl|skip
  · refine aC Oq rfl ?_
    simp only[f152,go_sem,j,p,r,C,I,J,O,P,AE,AF,AU,AM,AC,AG,AT,Nat.reduceAdd,k,Int.reduceBEq];repeat' (first|apply Pz<;>intro g<;>simp only[go_sem,g,Int.reduceBEq,k,j,p,r,C,I,J,O,P,AE,AF,AU,AM,AC,AG,AT,Nat.reduceAdd])
    all_goals first|rfl|skip
  · refine aC Oq rfl ?_
    simp only[f152,go_sem,j,p,r,C,I,J,O,P,AE,AF,AU,AM,AC,AG,AT,Nat.reduceAdd,k,Int.reduceBEq];repeat' (first|apply Pz<;>intro g<;>simp only[go_sem,g,Int.reduceBEq,k,j,p,r,C,I,J,O,P,AE,AF,AU,AM,AC,AG,AT,Nat.reduceAdd])
    all_goals first
      | (show AV.bool _ = AV.bool (decide (x.n <= t) && decide (t < x.m))
         rw[g];rfl)
      |skip
  · have c1 := g a (by rw [T];simp) ga
    have e1:LP (UV l t x.args) 0 h=hP l t a h := UU l t (by rw[T];rfl) h;have g1:(0:Int)<(x.args.length:Int) := by rw[T];simp
    have g2 := GF (l := x.args) (i := 0) (x := a) (by rw[T];rfl);refine aC Oq rfl ?_;simp only[f152,go_sem,j,p,r,C,I,J,O,P,AE,AF,AU,AM,AC,AG,AT,Nat.reduceAdd,k,Int.reduceBEq,g1,g2];repeat' (first|(refine rK (c1 _) ?_;simp only[go_sem,Int.reduceBEq,k,j,p,r,C,I,J,O,P,AE,AF,AU,AM,AC,AG,AT,Nat.reduceAdd,g1,g2])|apply Pz<;>intro g<;>simp only[go_sem,g,Int.reduceBEq,k,j,p,r,C,I,J,O,P,AE,AF,AU,AM,AC,AG,AT,Nat.reduceAdd,g1,g2])
    all_goals first
      | (show _ = AV.bool (!LP (UV l t x.args) 0 h)
         rw[e1])
      |skip
  · have c1 := g a (by rw [T];simp) ga
    have c2 := g b (by rw[T];simp) gb;have e1:LP (UV l t x.args) 0 h=hP l t a h := UU l t (by rw[T];rfl) h;have e2:LP (UV l t x.args) 1 h=hP l t b h := UU l t (by rw[T];rfl) h;have g1:(0:Int)<(x.args.length:Int) := by rw[T];simp
    have g2 := GF (l := x.args) (i := 0) (x := a) (by rw[T];rfl);have g3:(1:Int)<(x.args.length:Int) := by rw[T];simp
    have g4 := GF (l := x.args) (i := 1) (x := b) (by rw[T];rfl);rcases k with k|k
    · refine aC Oq rfl ?_
      simp only[f152,go_sem,j,p,r,C,I,J,O,P,AE,AF,AU,AM,AC,AG,AT,Nat.reduceAdd,k,Int.reduceBEq,g1,g2,g3,g4];repeat' (first|((first|refine rK (c1 _) ?_|refine rK (c2 _) ?_);simp only[go_sem,Int.reduceBEq,k,j,p,r,C,I,J,O,P,AE,AF,AU,AM,AC,AG,AT,Nat.reduceAdd,g1,g2,g3,g4])|apply Pz<;>intro g<;>simp only[go_sem,g,Int.reduceBEq,k,j,p,r,C,I,J,O,P,AE,AF,AU,AM,AC,AG,AT,Nat.reduceAdd,g1,g2,g3,g4])
      all_goals first
        | (show _ = AV.bool (LP (UV l t x.args) 0 h && LP (UV l t x.args) 1 h)
           rw[e1,e2]
           revert g
           cases hP l t a h<;>simp)
        |skip
    · refine aC Oq rfl ?_
      simp only[f152,go_sem,j,p,r,C,I,J,O,P,AE,AF,AU,AM,AC,AG,AT,Nat.reduceAdd,k,Int.reduceBEq,g1,g2,g3,g4];repeat' (first|((first|refine rK (c1 _) ?_|refine rK (c2 _) ?_);simp only[go_sem,Int.reduceBEq,k,j,p,r,C,I,J,O,P,AE,AF,AU,AM,AC,AG,AT,Nat.reduceAdd,g1,g2,g3,g4])|apply Pz<;>intro g<;>simp only[go_sem,g,Int.reduceBEq,k,j,p,r,C,I,J,O,P,AE,AF,AU,AM,AC,AG,AT,Nat.reduceAdd,g1,g2,g3,g4])
      all_goals first
        | (show _ = AV.bool (LP (UV l t x.args) 0 h || LP (UV l t x.args) 1 h)
           rw[e1,e2]
           revert g
           cases hP l t a h<;>simp)
        |skip
  · have c1 := Ru l hln x.field
    have c2 := tM _ R x.n.toNat U;have V := Ty R (m := fW (Ft l x.field).1) U;have c3 := tJ _ V.1 V.2 h hr;rw[an R U (AS _) h]at c3;rw[CK hn]at c2;refine aC Oq rfl ?_;simp only[f152,go_sem,j,p,r,C,I,J,O,P,AE,AF,AU,AM,AC,AG,AT,Nat.reduceAdd,k,Int.reduceBEq];repeat' (first|((first|apply pK c1|apply pK c2|apply pK c3);simp only[go_sem,Int.reduceBEq,k,j,p,r,C,I,J,O,P,AE,AF,AU,AM,AC,AG,AT,Nat.reduceAdd])|apply Pz<;>intro g<;>simp only[go_sem,g,Int.reduceBEq,k,j,p,r,C,I,J,O,P,AE,AF,AU,AM,AC,AG,AT,Nat.reduceAdd])
    all_goals first
      | (show AV.bool _ = AV.bool (decide ((It (Ft l x.field).1 h : Int) = x.n))
         congr 1;rw[AP,Nat.pow_zero,EZ,EZ,A9,decide_eq_true_eq,decide_eq_true_eq];omega)
      |skip
  · have hm':0<=x.m := hm
    have hm3:x.m.toNat<=fW (Ft l x.field).1 := hm2;have c1 := Ru l hln x.field;have c2 := ix _ R x.n.toNat x.m.toNat U hm3;have V := Ty R (m := x.m.toNat) U;have c3 := tJ _ V.1 V.2 h hr;rw[an R U hm3 h]at c3;rw[CK hn,CK hm']at c2;refine aC Oq rfl ?_;simp only[f152,go_sem,j,p,r,C,I,J,O,P,AE,AF,AU,AM,AC,AG,AT,Nat.reduceAdd,k,Int.reduceBEq];repeat' (first|((first|apply pK c1|apply pK c2|apply pK c3);simp only[go_sem,Int.reduceBEq,k,j,p,r,C,I,J,O,P,AE,AF,AU,AM,AC,AG,AT,Nat.reduceAdd])|apply Pz<;>intro g<;>simp only[go_sem,g,Int.reduceBEq,k,j,p,r,C,I,J,O,P,AE,AF,AU,AM,AC,AG,AT,Nat.reduceAdd])
    all_goals first|rfl|skip
  · have c1 := Ru l hln x.field
    have c2 := oZ _ R h hr;refine aC Oq rfl ?_;simp only[f152,go_sem,j,p,r,C,I,J,O,P,AE,AF,AU,AM,AC,AG,AT,Nat.reduceAdd,k,Int.reduceBEq];repeat' (first|((first|apply pK c1|apply pK c2);simp only[go_sem,Int.reduceBEq,k,j,p,r,C,I,J,O,P,AE,AF,AU,AM,AC,AG,AT,Nat.reduceAdd])|apply Pz<;>intro g<;>simp only[go_sem,g,Int.reduceBEq,k,j,p,r,C,I,J,O,P,AE,AF,AU,AM,AC,AG,AT,Nat.reduceAdd])
    all_goals first
      | (show AV.bool _ = AV.bool (decide (x.n <= It (Ft l x.field).1 h) && decide ((It (Ft l x.field).1 h : Int) <= x.m))
         rw[g];rfl)
      |skip
def dK{P:Program}{f:FuncId}{g:List AV}{d:Option Tmp}{K:Kt}{e:GO}{H:Fl}{v:AV}(i:Gq P f g H v)(j:K (put d v e) H):AGh P f g d K e H :=
 ⟨v,[],by simp only[Ai];exact i,by rw[Ai];exact j⟩
@[go_sem] def AbH(r:List FB):OZ (some r) = .tup [.sl none (F2 r),.bool true]:=rfl
@[go_sem] def AbJ:OZ none = .tup [.sl none [],.bool false]:=rfl
@[go_sem] def AbC(r:List FB)(n:Nat):AHP (some r) n = .tup [.sl none (F2 r),.int .i64 n,.bool true]:=rfl
@[go_sem] def AbD(n:Nat):AHP none n = .tup [.sl none [],.int .i64 0,.bool false]:=rfl
def ACp(o:Option (List FB))(n:Nat):(OZ o).bnd n=true:=by
 cases o with
 |none=>rfl
 |some r =>
  simp only[OZ,AV.bnd,F_,Bo];have:=OX (n:=n) (es:=r.map Head.c) On;rw[P6]at this;simpa [AV.bnd]using this
def vI(l:List Fld)(hl:Is l)(hln:l.length<=9223372036854775807)(t:Int)(ot ow ol o:Nat): ∀ x:FC,IW l x->gvs l t ot ow ol o x (vO l t x) := by
  refine IM _ λx ih=>λhx h hr H hW=>?_;have hh:Iq l x.pred -> ∀z,QT AA 152 [.agg x.pred.c,.agg h.c,.ptr ot 0,.ptr ow 0,.ptr ol 0] (H++z) (.bool (hP l t x.pred h)) := λgp z H2 hv=>ir l hl hln t ot ow ol o x.pred gp h hr H2 ((hW.grow z).view hv);have T:∀a,a∈x.args->IW l a -> ∀z,QT AA 158 [.agg a.c,.agg h.c,.ptr ow 0,.ptr ol 0] (H++z) (OZ (vO l t a h)) := λa ha ga z H2 hv=>ih a ha ga h hr H2 ((hW.grow z).view hv);have hWg := hW.grow;obtain⟨w1,w2,⟨w,w3⟩,w4⟩ := hW;have g := Fp w2;have j := Fp w3;have p := Fp w4;have C := q_0 H;have I := q_1 H;have J := q_2 H;have O := Acm H;rw[ACA]
  suffices hs:Fw AA 158 [.agg x.c,.agg h.c,.ptr ow 0,.ptr ol 0] H λv H'=>v.borrow=OZ (RO l t x.kind x.pred x.field x.n (Ng l t x.args) h) /\ ∃ext,H'=H++ext by
    refine Fw.drop (ACp _ _) ((Fw.res hs).mono λv H' hx=>?_);obtain⟨v0,⟨h1,h2⟩,rfl⟩ := hx;exact⟨h1,h2⟩
  rcases SF hl hx with⟨k,gp⟩|⟨k,hfo,hft,hn,hn2⟩|⟨k,a,b,ha,ga,gb⟩|⟨k,a,ha,ga⟩
  · have c1 := hh gp
    refine aC L9 rfl ?_;simp only[f158,go_sem,g,j,p,C,I,J,O,AE,AF,AU,AM,AC,AG,AT,Nat.reduceAdd,k,Int.reduceBEq];repeat' (first|(refine rK (c1 _) ?_;simp only[go_sem,Int.reduceBEq,k,g,j,p,C,I,J,O,AE,AF,AU,AM,AC,AG,AT,Nat.reduceAdd])|apply Pz<;>intro T<;>simp only[go_sem,T,Int.reduceBEq,k,g,j,p,C,I,J,O,AE,AF,AU,AM,AC,AG,AT,Nat.reduceAdd])
    all_goals first
      | (show _ = OZ (some (if hP l t x.pred h = true then [h] else []))
         revert T
         cases hP l t x.pred h<;>intro T<;>first|rfl|cases T)
      |skip
  · have c1 := Ru l hln x.field
    have c2 := AdD _ hfo x.n.toNat hn2;have hrp := Ty hfo (m := fW (Ft l x.field).1) hn2;have c3 := AHp _ hrp.1 hrp.2 h hr;rw[ABD hfo hn2 hr]at c3;rw[CK hn]at c2;refine aC L9 rfl ?_;simp only[f158,go_sem,g,j,p,C,I,J,O,AE,AF,AU,AM,AC,AG,AT,Nat.reduceAdd,k,Int.reduceBEq];repeat' (first|((first|apply pK c1|apply pK c2|apply pK c3);simp only[go_sem,Int.reduceBEq,k,g,j,p,C,I,J,O,AE,AF,AU,AM,AC,AG,AT,Nat.reduceAdd])|apply Pz<;>intro T<;>simp only[go_sem,T,Int.reduceBEq,k,g,j,p,C,I,J,O,AE,AF,AU,AM,AC,AG,AT,Nat.reduceAdd])
    all_goals first|rfl|skip
  · have e0:Jp (Ng l t x.args) 0=vO l t a := OU l t (by rw [ha];rfl)
    have e1:Jp (Ng l t x.args) 1=vO l t b := OU l t (by rw[ha];rfl);have v0 := ML l hl t a ga;have v1 := ML l hl t b gb;have P:(0:Int)<(x.args.length:Int) := by rw[ha];simp
    have R := Fy (l := x.args) (i := 0) (x := a) (by rw[ha];rfl);have U:(1:Int)<(x.args.length:Int) := by rw[ha];simp
    have V := Fy (l := x.args) (i := 1) (x := b) (by rw[ha];rfl);have c1 := T a (by rw[ha];simp) ga;have c2 := T b (by rw[ha];simp) gb;have hb := ih b (by rw[ha];simp) gb;rcases k with k|k
    · have hst:RO l t x.kind x.pred x.field x.n (Ng l t x.args) h=match vO l t a h,vO l t b h with|some a,some b=>OF (GW a b)|_,_=>none := by
        rw[k];show(match Jp (Ng l t x.args) 0 h,Jp (Ng l t x.args) 1 h with|some a,some b=>OF (GW a b)|_,_=>none)=_;rw[e0,e1]
      rw[hst];cases ea:vO l t a h with
      | none =>
        rw[ea]at c1;cases eb:vO l t b h with
        | none =>
          rw[eb]at c2;have c3 := Oc [] [] F3;have c4 := Mn (Ii [] []) false;rw[iN dc]at c4;refine aC L9 rfl ?_;simp only[f158,go_sem,g,j,p,C,I,J,O,AE,AF,AU,AM,AC,AG,AT,Nat.reduceAdd,k,Int.reduceBEq,P,R,U,V];repeat' (first|((first|refine rK (c1 _) ?_|refine rK (c2 _) ?_|refine aS (c3 _) ?_|apply pK c4);simp only[go_sem,Int.reduceBEq,k,g,j,p,C,I,J,O,AE,AF,AU,AM,AC,AG,AT,Nat.reduceAdd,P,R,U,V])|apply Pz<;>intro T<;>simp only[go_sem,T,Int.reduceBEq,k,g,j,p,C,I,J,O,AE,AF,AU,AM,AC,AG,AT,Nat.reduceAdd,P,R,U,V])
        | some v =>
          rw[eb]at c2;have gv := v1 h v hr eb;have c3 := Oc [] v (by have := gv.2.1;simp;omega);have c4 := Mn (Ii [] v) false;rw[iN dc]at c4;refine aC L9 rfl ?_;simp only[f158,go_sem,g,j,p,C,I,J,O,AE,AF,AU,AM,AC,AG,AT,Nat.reduceAdd,k,Int.reduceBEq,P,R,U,V];repeat' (first|((first|refine rK (c1 _) ?_|refine rK (c2 _) ?_|refine aS (c3 _) ?_|apply pK c4);simp only[go_sem,Int.reduceBEq,k,g,j,p,C,I,J,O,AE,AF,AU,AM,AC,AG,AT,Nat.reduceAdd,P,R,U,V])|apply Pz<;>intro T<;>simp only[go_sem,T,Int.reduceBEq,k,g,j,p,C,I,J,O,AE,AF,AU,AM,AC,AG,AT,Nat.reduceAdd,P,R,U,V])
      | some u =>
        rw[ea]at c1;have gu := v0 h u hr ea;cases eb:vO l t b h with
        | none =>
          rw[eb]at c2;have c3 := Oc u [] (by have := gu.2.1;simp;omega);have c4 := Mn (Ii u []) false;rw[iN dc]at c4;refine aC L9 rfl ?_;simp only[f158,go_sem,g,j,p,C,I,J,O,AE,AF,AU,AM,AC,AG,AT,Nat.reduceAdd,k,Int.reduceBEq,P,R,U,V];repeat' (first|((first|refine rK (c1 _) ?_|refine rK (c2 _) ?_|refine aS (c3 _) ?_|apply pK c4);simp only[go_sem,Int.reduceBEq,k,g,j,p,C,I,J,O,AE,AF,AU,AM,AC,AG,AT,Nat.reduceAdd,P,R,U,V])|apply Pz<;>intro T<;>simp only[go_sem,T,Int.reduceBEq,k,g,j,p,C,I,J,O,AE,AF,AU,AM,AC,AG,AT,Nat.reduceAdd,P,R,U,V])
        | some v =>
          rw[eb]at c2;have gv := v1 h v hr eb;have c3 := Oc u v (by have := gu.2.1;have := gv.2.1;omega);have c4 := Mn (Ii u v) true;rw[iP rfl]at c4;rw[Qi gu.1 gv.1]at c3 c4;dsimp only;cases eo:OF (GW u v)with
          | none =>
            rw[eo]at c4;refine aC L9 rfl ?_;simp only[f158,go_sem,g,j,p,C,I,J,O,AE,AF,AU,AM,AC,AG,AT,Nat.reduceAdd,k,Int.reduceBEq,P,R,U,V];repeat' (first|((first|refine rK (c1 _) ?_|refine rK (c2 _) ?_|refine aS (c3 _) ?_|apply pK c4);simp only[go_sem,Int.reduceBEq,k,g,j,p,C,I,J,O,AE,AF,AU,AM,AC,AG,AT,Nat.reduceAdd,P,R,U,V])|apply Pz<;>intro T<;>simp only[go_sem,T,Int.reduceBEq,k,g,j,p,C,I,J,O,AE,AF,AU,AM,AC,AG,AT,Nat.reduceAdd,P,R,U,V])
          | some r =>
            rw[eo]at c4;refine aC L9 rfl ?_;simp only[f158,go_sem,g,j,p,C,I,J,O,AE,AF,AU,AM,AC,AG,AT,Nat.reduceAdd,k,Int.reduceBEq,P,R,U,V];repeat' (first|((first|refine rK (c1 _) ?_|refine rK (c2 _) ?_|refine aS (c3 _) ?_|apply pK c4);simp only[go_sem,Int.reduceBEq,k,g,j,p,C,I,J,O,AE,AF,AU,AM,AC,AG,AT,Nat.reduceAdd,P,R,U,V])|apply Pz<;>intro T<;>simp only[go_sem,T,Int.reduceBEq,k,g,j,p,C,I,J,O,AE,AF,AU,AM,AC,AG,AT,Nat.reduceAdd,P,R,U,V])
    · have hst:RO l t x.kind x.pred x.field x.n (Ng l t x.args) h=match vO l t a h with|some a=>IV (vO l t b) [] a|none=>none := by
        rw[k];show(match Jp (Ng l t x.args) 0 h with|some a=>IV (Jp (Ng l t x.args) 1) [] a|none=>none)=_;rw[e0,e1]
      rw[hst];cases ea:vO l t a h with
      | none =>
        rw[ea]at c1;refine aC L9 rfl ?_;simp only[f158,go_sem,g,j,p,C,I,J,O,AE,AF,AU,AM,AC,AG,AT,Nat.reduceAdd,k,Int.reduceBEq,P,R,U,V];repeat' (first|(refine rK (c1 _) ?_;simp only[go_sem,Int.reduceBEq,k,g,j,p,C,I,J,O,AE,AF,AU,AM,AC,AG,AT,Nat.reduceAdd,P,R,U,V])|apply Pz<;>intro T<;>simp only[go_sem,T,Int.reduceBEq,k,g,j,p,C,I,J,O,AE,AF,AU,AM,AC,AG,AT,Nat.reduceAdd,P,R,U,V])
      | some u =>
        rw[ea]at c1;have gu := v0 h u hr ea;have c3 := λz=>AHe l t ot ow ol o b _ hb v1 u gu.2.2 (by have := gu.2.1;omega) (H++z) (hWg z);dsimp only;cases eo:IV (vO l t b) [] u with
        | none =>
          rw[eo]at c3;refine aC L9 rfl ?_;simp only[f158,go_sem,g,j,p,C,I,J,O,AE,AF,AU,AM,AC,AG,AT,Nat.reduceAdd,k,Int.reduceBEq,P,R,U,V];repeat' (first|((first|refine rK (c1 _) ?_|refine dK (c3 _) ?_);simp only[go_sem,Int.reduceBEq,k,g,j,p,C,I,J,O,AE,AF,AU,AM,AC,AG,AT,Nat.reduceAdd,P,R,U,V])|apply Pz<;>intro T<;>simp only[go_sem,T,Int.reduceBEq,k,g,j,p,C,I,J,O,AE,AF,AU,AM,AC,AG,AT,Nat.reduceAdd,P,R,U,V])
        | some r =>
          rw[eo]at c3;refine aC L9 rfl ?_;simp only[f158,go_sem,g,j,p,C,I,J,O,AE,AF,AU,AM,AC,AG,AT,Nat.reduceAdd,k,Int.reduceBEq,P,R,U,V];repeat' (first|((first|refine rK (c1 _) ?_|refine dK (c3 _) ?_);simp only[go_sem,Int.reduceBEq,k,g,j,p,C,I,J,O,AE,AF,AU,AM,AC,AG,AT,Nat.reduceAdd,P,R,U,V])|apply Pz<;>intro T<;>simp only[go_sem,T,Int.reduceBEq,k,g,j,p,C,I,J,O,AE,AF,AU,AM,AC,AG,AT,Nat.reduceAdd,P,R,U,V])
  · have e0:Jp (Ng l t x.args) 0=vO l t a := OU l t (by rw [ha];rfl)
    have P:(0:Int)<(x.args.length:Int) := by rw[ha];simp
    have R := Fy (l := x.args) (i := 0) (x := a) (by rw[ha];rfl);have c3 := λz=>ALL l t ot ow ol o a _ (ih a (by rw[ha];simp) ga) (ML l hl t a ga) h hr (H++z) (hWg z);have hst:RO l t x.kind x.pred x.field x.n (Ng l t x.args) h=JH (vO l t a) 300 [h] [h] := by
      rw[k];show JH (Jp (Ng l t x.args) 0) 300 [h] [h]=_;rw[e0]
    rw[hst];cases eo:JH (vO l t a) 300 [h] [h]with
    | none =>
      rw[eo]at c3;refine aC L9 rfl ?_;simp only[f158,go_sem,g,j,p,C,I,J,O,AE,AF,AU,AM,AC,AG,AT,Nat.reduceAdd,k,Int.reduceBEq,P,R];repeat' (first|(refine dK (c3 _) ?_;simp only[go_sem,Int.reduceBEq,k,g,j,p,C,I,J,O,AE,AF,AU,AM,AC,AG,AT,Nat.reduceAdd,P,R])|apply Pz<;>intro T<;>simp only[go_sem,T,Int.reduceBEq,k,g,j,p,C,I,J,O,AE,AF,AU,AM,AC,AG,AT,Nat.reduceAdd,P,R])
    | some r =>
      rw[eo]at c3;refine aC L9 rfl ?_;simp only[f158,go_sem,g,j,p,C,I,J,O,AE,AF,AU,AM,AC,AG,AT,Nat.reduceAdd,k,Int.reduceBEq,P,R];repeat' (first|(refine dK (c3 _) ?_;simp only[go_sem,Int.reduceBEq,k,g,j,p,C,I,J,O,AE,AF,AU,AM,AC,AG,AT,Nat.reduceAdd,P,R])|apply Pz<;>intro T<;>simp only[go_sem,T,Int.reduceBEq,k,g,j,p,C,I,J,O,AE,AF,AU,AM,AC,AG,AT,Nat.reduceAdd,P,R])
def bp(n:Nat):List AV:=[.fn (.func 152) [] [.ptr (n+1) 0,.ptr (n+3) 0,.ptr n 0],.fn (.func 158) [] [.ptr (n+3) 0,.ptr n 0]]
def q_3(H:Fl)(a b c d:Option (List AV)):(H++[a,b,c,d])[H.length+3]? =some d:=by rw[AO Fj,A5];rfl
def Akv(H:Fl)(a b c d e:Option (List AV)):(H++[a,b,c,d]).set (H.length+3) e=H++[a,b,c,e]:=by rw[Bg _ _ Fj,A5];rfl
def Acl(H:Fl)(a b c d e:Option (List AV)):(H++[a,b,c,d]).set (H.length+2) e=H++[a,b,e,d]:=by rw[Bg _ _ Fj,A5];rfl
def Acr(l:List Fld)(t:Int)(H:Fl):Fw AA 76 [.sl none (Gf l),.int .i64 t] H λv g=>v = .ptr (H.length+2) 0/\g=H++[some [.sl none (Gf l)],some [.int .i64 t],some (bp H.length),some [.ptr (H.length+2) 0]]:=by
 have i:=q_3 H;have j:=q_2 H;have o:=Akv H;have p:=Acl H;refine aC AeO rfl ?_;simp only[f76,go_sem,i,j,o,p,AE,AF,AU,AM,AC,AG,AT,Nat.reduceAdd];all_goals first|rfl|exact⟨rfl,rfl⟩|skip
def iu(r:List FB)(b:Bool):Fm AA 120 [.sl none (F2 r),.bool b] (Rq (if b=true then some r else none)):=by
 refine pB AXd rfl ?_;cases b<;>simp only[f120,go_sem]<;>rfl
def AHc(l:List Fld)(P:Is l)(j:l.length<=9223372036854775807)(x:FC)(hx:IW l x)(t:Int)(h:FB)(R:Fr h=true):Fm AA 64 [.sl none (Gf l),.agg x.c,.agg h.c,.int .i64 t] (Rq (vO l t x h)):=by
 have o:Fw AA 76 [.sl none (Gf l),.int .i64 t] [some x.c,some h.c] λv T=>v = .ptr 4 0/\T=[some x.c,some h.c]++[some [.sl none (Gf l)],some [.int .i64 t],some (bp 2),some [.ptr 4 0]]:=Acr l t [some x.c,some h.c];have U:kF l t 3 5 2 4 ([some x.c,some h.c]++[some [.sl none (Gf l)],some [.int .i64 t],some (bp 2),some [.ptr 4 0]]):=⟨rfl,rfl,⟨none,rfl⟩,rfl⟩;have g:QT AA 158 [.agg x.c,.agg h.c,.ptr 5 0,.ptr 2 0] ([some x.c,some h.c]++[some [.sl none (Gf l)],some [.int .i64 t],some (bp 2),some [.ptr 4 0]]) (OZ (vO l t x h)):=λV hv=>vI l P j t 3 5 2 4 x hx h R V (U.view hv);have I:∀ops,h64.ord 1 ops=(pD [6,7] ops.size).filterMap λi=>ops[i]?:=λops=>rfl;have J:pD [6,7] 16=[6,7,0,1,2,3,4,5,8,9,10,11,12,13,14,15]:=dc;have w1:∀z,([some x.c,some h.c]++z)[0]? =some (some x.c):=λz=>rfl;simp only[bp]at o g;cases O:vO l t x h with
 |none =>
  rw[O]at g;have p:=iu [] false;refine pB AJ_ rfl ?_;simp only[f64,go_sem];rw[QM _ _ _ (by simp only[go_sem]) rfl,I];simp only[Bd,AC,AG,Nat.reduceAdd,J,B7,Bl,B2,A7,Cj];simp only[go_sem];refine⟨_,_,o, ?_⟩;simp only[go_sem];repeat' (first|((first|refine rK (g) ?_|apply pK p);simp only[go_sem])|apply Pz<;>intro C<;>simp only[go_sem,C])
  all_goals first|rfl|skip
 |some r =>
  rw[O]at g;have p:=iu r true;refine pB AJ_ rfl ?_;simp only[f64,go_sem];rw[QM _ _ _ (by simp only[go_sem]) rfl,I];simp only[Bd,AC,AG,Nat.reduceAdd,J,B7,Bl,B2,A7,Cj];simp only[go_sem];refine⟨_,_,o, ?_⟩;simp only[go_sem];repeat' (first|((first|refine rK (g) ?_|apply pK p);simp only[go_sem])|apply Pz<;>intro C<;>simp only[go_sem,C])
  all_goals first|rfl|skip
def AZ4{l:List Fld}(h:PU l=0):Is l:=by
 have:∀(r:List Fld) (i:Nat),I1 l i r=0 -> ∀f∈r,HP f:=by
  intro r;induction r with
  |nil=>intro i _ f g;cases g
  | cons x r j =>
   intro i h f g;rw[I1]at h;split at h
   ·cases h
   split at h
   ·cases h
   split at h
   ·cases h
   split at h
   ·cases h
   rename_i o _;rcases AY.1 g with rfl|g
   ·simp only[T9,Bool.not_eq_true',Bool.and_eq_false_iff,not_or,Bool.not_eq_false,decide_eq_true_eq]at o;unfold HP;omega
   ·exact j _ h f g
 unfold PU at h;split at h
 ·cases h
 ·exact this l 0 h
def jA(es:List AV)(g:∀x∈es,x.cells.length=1)(i:es.length<=1048576)(H:Fl):Fw AA 35 [.sl none es] H λv j=>v = .sl (some 1) es/\j=H:=by
 have p:(0+es.length)*8<=140737488355328:=Fj;refine aC AgO rfl ?_;cases es with
 |nil=>simp only[Tryz.f35,go_sem]
 |cons e es =>
  simp only[Tryz.f35,go_sem];simp only[List.length_cons]at i;exact⟨⟨g _ F3,λa o=>g a (by simp[o])⟩,Fj,Fj⟩
end Go.AI
