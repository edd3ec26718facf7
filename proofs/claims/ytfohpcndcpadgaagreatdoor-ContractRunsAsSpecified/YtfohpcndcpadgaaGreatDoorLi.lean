/- From the code's walk at the abstract side to the contract of a call. -/
import Derived.Test.YtfohpcndcpadgaaGreatDoorLg
import Derived.ProofKit
import Derived.SizedLaws
set_option linter.unusedSimpArgs false
set_option linter.unusedVariables false
set_option linter.defProp false
open Go.AI renaming VRel->Em,CRel->En,Hint->Eo,LoopRec->Ep
open Array renaming getElem?_eq_getElem->Al,getElem?_toList->Af,toList_append->DE
open Bool renaming and_eq_true->AQ,and_true->Bo,false_eq_true->B0,false_or->BC,not_false->Ay,not_true->Ax,true_and->Ba
open Eq renaming trans->AH
open List renaming all_eq_true->Ao,any_cons->Av,append_nil->Ai,contains_iff_mem->Ds,drop_drop->A_,drop_eq_getElem_cons->BI,drop_length->DK,drop_succ_cons->DJ,drop_zero->BE,flatMap_cons->BA,getElem?_append_left->Aa,getElem?_append_right->AO,getElem?_cons_zero->A7,getElem?_eq_getElem->AL,getElem?_eq_some_iff->AD,getElem?_map->Ac,getElem?_of_mem->Ab,getElem?_take_of_lt->By,getElem?_toArray->Bl,getElem_mem->Cd,length_cons->AC,length_nil->AG,length_range->DL,mapM_cons->DC,map_cons->AW,map_nil->Ah,mem_append->Ar,mem_cons->AY,mem_flatMap->B1,mem_map->AN,mem_of_getElem?->AB,mem_singleton->Ag,range->An,range_zero->EQ,replicate->As,replicate_succ->CE,sum_cons->B3,take_append_drop->A8,take_succ_cons->CP
open Nat renaming add_mul->A1,add_zero->BG,le_of_ble_eq_true->CQ,le_of_eq->Dq,le_trans->AJ,one_mul->Dg,zero_add->AX,zero_le->BS,zero_mul->Bx
open Option renaming any_some->DH,bind_some->Bi,map_some->Bb
open Or renaming inl->CH
open Go.Result renaming andThen_ok->Ad
open Go.Sem renaming run_bind->AK,run_pure->Ae
namespace Go.AI
mutual
def AV.pure:AV->Bool
 |.ptr _ _=>false
 |.msl _ _ _ _=>false
 |.mslc _ _ _ _ _=>false
 |.mapr _=>false
 |.it _=>false
 |.yld _ _=>false
 |.ifc _ a=>a.pure
 |.cptr g _=>Fq g
 |.sl _ i=>Fq i
 |.fn _ a b=>Fq a&&Fq b
 |.agg g=>Fq g
 |.tup j=>Fq j
 |_=>true
def Fq:List AV->Bool
 |[]=>true
 |v::g=>v.pure&&Fq g
end
def Ix{i:List AV}(h:Fq i=true): ∀v∈i,v.pure=true:=by
 induction i with
 |nil=>intro v g;cases g
 |cons x o j =>
  simp only[Fq,AQ]at h;intro v g;rcases AY.1 g with rfl|g
  ·exact h.1
  ·exact j h.2 v g
def oQ{v:AV}(h:v.pure=true): ∀c∈v.cells,c.pure=true:=by
 cases v<;>first|(intro c g;simp only[AV.cells,Ag]at g;subst g;exact h)|skip
 simp only[AV.pure]at h;exact Ix h
def ACz{i:List AV}(h:Fq i=true): ∀c∈Hx i,c.pure=true:=by
 intro c g;obtain⟨e,j,g⟩:=B1.1 g;exact oQ (Ix h e j) c g
def VRel.pure{G G':Gh}{w:World}(hk:G'.kind=G.kind){a:AV}{v:Value}(h:Em G w a v)(g:a.pure=true):Em G' w a v:=by
 have C:∀b o,G.safe b o->G'.safe b o:=λb o O=>by unfold Gh.safe at *;rw[hk];exact O
 induction h with
 |undef v=>exact .undef v
 |int k n=>exact .int k n
 |bool b=>exact .bool b
 |str s=>exact .str s
 |nilp=>exact .nilp
 |ptr o R b h r=>cases g
 |mapr o b h hb hk=>cases g
 |it o b h hb hk=>cases g
 |nilm=>exact .nilm
 |yld o b L h hb hk=>cases g
 |ifc t a v O h J=>exact .ifc t a v O (J (by simpa [AV.pure]using g))
 |nili=>exact .nili
 |cptr T R b q u h hu J =>
  simp only[AV.pure]at g;exact .cptr T R b q u (λi c j=>⟨(h i c j).1,C _ _ (h i c j).2.1,(h i c j).2.2⟩) λi c j=>J i c j (Ix g c (AB j))
 |slnil I=>exact .slnil I
 |slany I a=>exact .slany I a
 |sl I es sz b q cap u hsz U V hm h hu J =>
  simp only[AV.pure]at g;exact .sl I es sz b q cap u hsz U V hm (λi c j=>⟨(h i c j).1,C _ _ (h i c j).2.1,(h i c j).2.2⟩) λi c j=>J i c j (ACz g c (AB j))
 |msl=>cases g
 |mslc=>cases g
 |fn f first p fi ca h1 h2 h3 h4 ih1 ih2 =>
  simp only[AV.pure,AQ]at g;exact .fn f first p fi ca h1 h2 (λi c v r P=>ih1 i c v r P (Ix g.1 c (AB r))) (λi c v r P=>ih2 i c v r P (Ix g.2 c (AB r)))
 |nilf=>exact .nilf
 |agg T vs V O h J =>
  simp only[AV.pure]at g;exact .agg T vs V O λi c v r P=>J i c v r P (Ix g c (AB r))
 |tup T vs V O h J =>
  simp only[AV.pure]at g;exact .tup T vs V O λi c v r P=>J i c v r P (Ix g c (AB r))
def iR(P:Program)(n:Nat):List ResultVar->GO->Fl->(List AV->GO->Fl->Prop)->Prop
 |[],e,H,K=>K [] e H
 |.tmp t::j,e,H,K=>t<n/\iR P n j (OC P none true (.tmp t) e).2 H λg=>K ((OC P none true (.tmp t) e).1::g)
 | .cell t r::j,e,H,K=>t<n/\match GJ e t with
  | .ptr o i=>match H[o]? with
   |some (some p)=>match Mb P r p i with
    |some v=>if v.owned=true then iR P n j e (H.set o (some (splice p i (v.cells.map borrow1)))) λg=>K (v::g)else iR P n j e H λg=>K (v.borrow::g)
    |none=>False
   |_=>False
  |_=>False
def Rp(K:AV->Fl->Prop)(g:List AV)(H:Fl):Prop :=
 match g with
 |[v]=>K v H
 |g=>(∀v∈g,v.isVal=true)/\K (.tup g) H
def Ut(P:Program)(n:Nat)(g:Array ResultVar)(K:AV->Fl->Prop)(i:Exit)(e:GO)(H:Fl):Prop :=
 match i with
 |.normal | .ret=>iR P n g.toList e H λj _ o=>Rp K j o
 |_=>False
section
variable{P:Program}{F:Nat->Prop}{G:Gh}{w:World}{H:Fl}{n:Nat}
def nG(k:Nat):LRel F G (As k .undef) (As k Go.undef) w:=by
 refine⟨F3,λi a u g _=>?_,λi a u g _=>?_⟩<;>rw[List.getElem?_replicate]at g<;>split at g<;>cases g
 ·exact .undef u
 ·exact GC (IF u) F G w
def gi(b k:Nat):Hm b (As k .undef) (As k Go.undef)=0:=by
 induction k with
 |zero=>rfl
 |succ k g=>rw[CE,CE,Fx,g,IF];rfl
def CRel.args{g:List AV}{i:List Value}(h:En F G g H i w)(k:Nat):En F G (g++As k .undef) H (i++As k Go.undef) w:=by
 refine⟨h.l.append (nG k),h.h,λb=>?_⟩;rw[G7 _ _ _ _ _ h.l.len,gi];exact h.cnt b
def cH{v:AV}{u:Value}{vs:List AV}{us:List Value}(g:v.isVal=true)(h:Em G w v u):L3 (.tup (v::vs)) (.tuple (u::us).toArray)=L3 v u++L3 (.tup vs) (.tuple us.toArray):=by
 rw[Qg g h];simp only[L3,AV.flat,Io,BA];rw[List.zip_append];have:=(KV g h).2.2;simpa using this
def gh : ∀ (vs:List AV) (us:List Value),LRel F G vs us w->(∀ v∈vs,v.isVal=true) ->
  Em G w (.tup vs) (.tuple us.toArray)/\(∀p∈L3 (.tup vs) (.tuple us.toArray),Gg F G w p) /\ ∀b,(HY (.tup vs) (.tuple us.toArray)).count b=Hm b vs us:=by
 intro vs us g o;refine⟨.tup vs _ (by simpa using g.len) o (λi c u r t=>g.rel i c u r (by simpa using t)), ?_⟩;induction vs generalizing us with
 |nil =>
  match us,g.len with
  |[],_=>exact⟨λp j=>by simp[L3,AV.flat]at j,λb=>by simp[HY,L3,AV.flat,Hm]⟩
 | cons v vs C =>
  match us,g.len with
  | u::us,_ =>
   obtain⟨r,t,I⟩:=g.uncons;obtain⟨J,O⟩:=C us I λx P=>o x (by simp[P]);have e:=cH (vs:=vs) (us:=us) (o v F3) r;refine⟨λp j=>?_,λb=>?_⟩
   ·rw[e]at j;rcases Ar.1 j with h|h
    ·exact t p h
    ·exact J p h
   ·have:=O b;unfold HY at this ⊢;rw[e,List.filterMap_append,List.count_append,this,Fx];rfl
def CRel.comm{A B:List AV}{g i:List Value}(h:En F G (A++B) H (g++i) w)(j:A.length=g.length):En F G (B++A) H (i++g) w:=by
 obtain⟨p,o⟩:=h.l.split j;refine⟨o.append p,h.h,λb=>?_⟩;have:=h.cnt b;rw[G7 b A g B i j]at this;rw[G7 b B i A g o.len];omega
def CRel.turn{A B:List AV}{v:AV}{g i:List Value}{u:Value}{R:AV->Fl->Prop}{C:Value}{t:World}(h:En F G (A++v::B) H (g++u::i) w)(hl:A.length=g.length)
  (hk:∀I,(∀b,F b->I b)->En I G [v] H [u] w->GB I G w R C t):∃o p r,R o p/\En F r (A++o::B) p (g++C::i) t/\Ext F G w r t:=by
 have h1:En F G ((v::B)++A) H ((u::i)++g) w:=h.comm hl;have J:En F G ([v]++(B++A)) H ([u]++(i++g)) w:=by simpa using h1
 have U:=(J.l.split (A:=[v]) rfl).2;have hc:=J.split (A:=[v]) rfl;obtain⟨o,p,r,hr,O,V⟩:=hk _ (λb j=>CH j) hc;have P:∀b,Hm b (B++A) (i++g)<=1:=λb=>by
  have:=J.cnt b;rw[G7 b [v] [u] _ _ rfl]at this;omega
 have hj:=U2 (F:=F) U P (λb j=>CH j) (λb j=>Or.inr j) V O;refine⟨o,p,r,hr, ?_,V.mono λb j=>CH j⟩;have T:B.length=i.length:=by
  have:=U.len;simp at this;omega
 have h3:En F r ((o::B)++A) p ((C::i)++g) t:=by simpa using hj
 exact h3.comm (by simp[T])
def I6(g:Array Value):ResultVar->Sem Value
 |.tmp t=>pure (g.getD t Go.undef)
 |.cell a t=>do loadVar t (<- asAddr (g.getD a Go.undef))
def ADq{t:TypeId}{u:Value}{R:AV->Fl->Prop}{w:World}(o:∃a,u = .pointer (some a))(h:GR P ((do let r<-Instr.loadAt t u;pure (Next.value r):Sem Next).run P w) (GB F G w R)):
  ∃g i,(do loadVar t (<- asAddr u):Sem Value).run P w = .ok g i/\GB F G w R g i:=by
 obtain⟨a,rfl⟩:=o;have p:(Instr.loadAt t (.pointer (some a)):Sem Value).run P w=(loadVar t a).run P w:=by
  simp[Instr.loadAt,Instr.sureAddr]
 have C:(do loadVar t (<- asAddr (.pointer (some a))):Sem Value).run P w=(loadVar t a).run P w:=by
  simp[asAddr]
 rw[C];rw[AK,p]at h;cases j:(loadVar t a).run P w with
 |ok g i =>
  rw[j]at h;simp only[Ad,Ae]at h;exact⟨g,i,rfl,h⟩
 |_=>rw[j]at h;exact h.elim
def Tz{a:Act}(hn:a.tmps.size=n): ∀ (rs:List ResultVar) (env:GO) (H:Fl) (G:Gh) (w:World) (pre:List AV) (upre:List Value) (K:List AV->GO->Fl->Prop),
  En F G (pre++HQ n env) H (upre++a.tmps.toList) w->pre.length=upre.length->(∀t,n<=t->GJ env t = .undef)->iR P n rs env H K ->
  ∃C,(rs.mapM (I6 a.tmps)).run P w = .ok C w /\ ∃I g p r,K I g p/\I.length=C.length/\En F r (pre++I++HQ n g) p (upre++C++a.tmps.toList) w/\Ext F G w r w
 |[],env,H,G,w,pre,upre,K,h,V,ho,j=>⟨[],F3,[],env,H,G,j,rfl,by simpa using h,.refl F G w⟩
 |.tmp t::rs,env,H,G,w,pre,upre,K,h,V,ho,j=>by
  obtain⟨htn,j⟩:=j;obtain⟨U,ho1⟩:=Xr (P:=P) none true (.tmp t) h V hn ho;obtain⟨C,i,I,g,p,r,hK,J,hc,he⟩:=Tz hn rs (OC P none true (.tmp t) env).2 H G w (pre++[(OC P none true (.tmp t) env).1]) (upre++[a.eval (.tmp t)]) _ (by simpa using U) (by simp[V]) ho1 j;refine⟨a.eval (.tmp t)::C, ?_,_,g,p,r,hK,by simp[J],by simpa using hc,he⟩;have e0:I6 a.tmps (.tmp t)=pure (a.eval (.tmp t)):=rfl;simp only[DC,AK,e0,Ae,Ad,i]
 | .cell t ty::rs,env,H,G,w,pre,upre,K,h,V,ho,j=>by
  obtain⟨htn,j⟩:=j;split at j
  ·rename_i ob o hlk;split at j
   ·rename_i cs hob;split at j
    ·rename_i v hv;obtain⟨U,ho1⟩:=Xr (P:=P) none false (.tmp t) h V hn ho;have e1:OC P none false (.tmp t) env=(.ptr ob o,env):=by simp[OC,Hh,hlk,AV.borrow,borrow0]
     rw[e1]at U;have key:∀R:AV->Fl->Prop,(R v.borrow H\/R v (H.set ob (some (splice cs o (v.cells.map borrow1))))) -> ∃O,(I6 a.tmps (.cell t ty)).run P w = .ok O w /\
       ∃v' p r,R v' p/\En F r (pre++v'::HQ n env) p (upre++O::a.tmps.toList) w/\Ext F G w r w:=by
      intro R hR;have hx:Em G w (.ptr ob o) (a.eval (.tmp t)):=(((U.l.split V).2).uncons).1;have hu:∃ad,a.eval (.tmp t) = .pointer (some ad):=by
       generalize a.eval (.tmp t)=u at hx;cases hx;exact⟨_,rfl⟩
      have hone:En (λ_=>False) G [AV.ptr ob o] H [a.eval (.tmp t)] w:=by
       have h2:En F G ((AV.ptr ob o::HQ n env)++pre) H ((a.eval (.tmp t)::a.tmps.toList)++upre) w:=U.comm V;have h3:En F G ([AV.ptr ob o]++(HQ n env++pre)) H ([a.eval (.tmp t)]++(a.tmps.toList++upre)) w:=by simpa using h2
       have h4:=h3.split (A:=[AV.ptr ob o]) rfl;exact⟨h4.l.weaken λ_ h=>h.elim,h4.h.weaken λ_ h=>h.elim,h4.cnt⟩
      have i:∃O,(I6 a.tmps (.cell t ty)).run P w = .ok O w:=by
       have e0:I6 a.tmps (.cell t ty)=(do loadVar ty (<- asAddr (a.eval (.tmp t)))):=rfl;rw[e0];clear hone U;generalize a.eval (.tmp t)=u at hx;cases hx with
       |ptr _ _ b hb hbc =>
        obtain⟨O,U,_⟩:=cj (P:=P) hv (QG hbc.choose_spec.choose_spec (h.h.obj ob cs b hob hb));rw[AX]at U;exact⟨O,by simpa [asAddr]using U⟩
      obtain⟨O,i⟩:=i;refine⟨O,i, ?_⟩;refine U.turn V λF' hF hc1=>?_;obtain⟨u2,w2,T,hk⟩:=ADq (P:=P) hu (Pp (P:=P) hc1 hob hv hR);have e5:I6 a.tmps (.cell t ty)=(do loadVar ty (<- asAddr (a.eval (.tmp t)))):=rfl;rw[<- e5,i]at T;cases T;exact hk
     have fin:∀(v':AV) (H1:Fl),(iR P n rs env H1 λI=>K (v'::I))->(∀R:AV->Fl->Prop,R v' H1->R v.borrow H\/R v (H.set ob (some (splice cs o (v.cells.map borrow1))))) ->
       ∃C,((ResultVar.cell t ty::rs).mapM (I6 a.tmps)).run P w = .ok C w /\ ∃I g p r,K I g p/\I.length=C.length/\En F r (pre++I++HQ n g) p (upre++C++a.tmps.toList) w/\Ext F G w r w:=by
      intro v' H1 hrev hR;obtain⟨O,i,v2,H2,G2,⟨rfl,rfl⟩,hc2,he2⟩:=key (λa b=>a=v'/\b=H1) (hR (λa b=>a=v'/\b=H1) ⟨rfl,rfl⟩);obtain⟨C,hrun',I,g,p,r,hK,J,hc,he⟩:=Tz hn rs env H2 G2 w (pre++[v2]) (upre++[O]) _ (by simpa using hc2) (by simp[V]) ho hrev;refine⟨O::C, ?_,_,g,p,r,hK,by simp[J],by simpa using hc,he2.trans he⟩;simp only[DC,AK,i,Ae,Ad,hrun']
     by_cases hw:v.owned=true
     ·rw[iP hw]at j;exact fin _ _ j λR h => .inr h
     ·rw[iN hw]at j;exact fin _ _ j λR h => .inl h
    ·exact j.elim
   ·exact j.elim
  ·exact j.elim
def iK{fn:Func}{o:Array Value}{w p:World}{i:List Value}(h:(fn.results.toList.mapM (I6 o)).run P w = .ok i p):
  (results fn o).run P w = .ok (match (generalizing:=false) i with
   |[u]=>u
   |i => .tuple i.toArray) p:=by
 unfold results;rw[Array.mapM_eq_mapM_toList];rw[AK,Sem.run_map];have e:∀(g j:ResultVar->Sem Value) (l:List ResultVar),(∀r,g r=j r)->l.mapM g=l.mapM j:=λg j l C=>by rw[show g=j from funext C]
 rw[e _ (I6 o) fn.results.toList (λr=>by cases r<;>rfl),h];simp only[Ad,Ae];match i with
 |[]=>simp
 |[t]=>simp
 |t::I::J=>simp
def s4{env:GO}{a:Act}{fn:Func}{K:AV->Fl->Prop}{U:Exit}(hs:SRel F G n env H a w)(J:Ut P n fn.results K U env H):
  (U = .normal\/U = .ret) /\ ∃v u g i,K v g/\En F i [v] g [u] w/\Ext F G w i w/\(results fn a.tmps).run P w = .ok u w:=by
 have p:(iR P n fn.results.toList env H λC _ g=>Rp K C g) -> ∃v u g i,K v g/\En F i [v] g [u] w/\Ext F G w i w/\(results fn a.tmps).run P w = .ok u w:=by
  intro J;obtain⟨V,O,C,r,g,i,R,t,hc,he⟩:=Tz (pre:=[]) (upre:=[]) hs.size fn.results.toList env H G w _ hs.c rfl hs.out J;have j:=iK O;have o:En F i C g V w:=by
   have T:=hc.split (A:=[]++C) (B:=HQ n r) (by simpa using t);have I:En (λb=>F b\/0<Hm b (HQ n r) a.tmps.toList) i C g V w:=by simpa using T
   exact⟨I.l.weaken λ_ h => .inl h,I.h.weaken λ_ h => .inl h,I.cnt⟩
  match C,V,t with
  |[v],[u],_=>exact⟨v,u,g,i,R,o,he,j⟩
  |[],[],_ =>
   obtain⟨T,I,h3⟩:=gh _ _ o.l R.1;exact⟨_,_,g,i,R.2,o.one T I λb=>Dq (h3 b),he,j⟩
  |v::v2::C,u::u2::V,_ =>
   obtain⟨T,I,h3⟩:=gh _ _ o.l R.1;exact⟨_,_,g,i,R.2,o.one T I λb=>Dq (h3 b),he,j⟩
 cases U with
 |normal=>exact⟨.inl rfl,p J⟩
 |ret=>exact⟨.inr rfl,p J⟩
 |_=>exact J.elim
def CRel.shut{T:List AV}{U:List Value}(h:En F G T H U w){b:Nat}(O:dI w b)(hF:¬F b):En F G T H U (w.putObj b (.deferred none))/\Ext F G w G (w.putObj b (.deferred none)):=by
 have P:Ext F G w G (w.putObj b (.deferred none)):=LS hF O (λ_ _ _ e=>by cases e);have J:∀j,j≠b->(w.putObj b (.deferred none)).heap[j]? =w.heap[j]?:=λj hn=>World.putObj_heap_other hn;have g:∀{j:Nat} {C:Array Value} {E:TypeId},w.heap[j]? =some (.cells C E (0,0))->j≠b:=λV e=>by
  subst e;unfold dI at O;rw[O]at V;cases V
 refine⟨⟨⟨h.l.len,λi a u t I=>(h.l.rel i a u t I).keep P.keeps,λi a u t I p hp=>(h.l.tok i a u t I p hp).keep λj r=>?_⟩,h.h.ext P rfl λj r=>⟨rfl, ?_⟩,λj=>?_⟩,P⟩
 ·obtain⟨t1,_,C,E,t3⟩:=(h.l.tok i a u t I p hp).of_tok r;exact⟨t1,rfl,J j (g t3)⟩
 ·refine J j ?_;rcases r with⟨o,R,t,I⟩|r
  ·intro e;subst e;exact(h.h.obj o R _ t I).not_isD O
  ·obtain⟨_,_,C,E,t3⟩:=h.h.tok_of_pos r;exact g t3
 ·rw[N4 (G:=G) (w:=w) (G':=G) rfl λo R b2 t I=>J b2 λe=>by subst e;exact(h.h.obj o R _ t I).not_isD O];exact h.cnt j
def Sv{fn:Func}{O:Array Value}{R:Ending->World->Prop}{T:List AV}{U:List Value}{V:Gh}{w0:World}: ∀(i:List Nat) {w:World},En F G T H U w->i.Nodup->(∀b∈i,¬F b/\dI w b)->Ext F V w0 G w ->
  (∀j,En F G T H U j->Ext F V w0 G j -> ∃v,(results fn O).run P j = .ok v j/\R (.returned v) j) ->
  LeavesInM Fence.wide 0 P fn O R (i.map λb=>{ target:=.collected b,args:=#[] }) .returning w
 |[],w,o,_,_,p,r=>r w o p
 |b::i,w,o,hn,t,p,r=>by
  obtain⟨h1,h2⟩:=List.nodup_cons.1 hn;obtain⟨hF,hd⟩:=t b F3;obtain⟨C,I⟩:=o.shut hd hF;refine⟨F3,.inl ⟨b,_,rfl,run_takeDeferred (P:=P) hd,Sv i C h2 (λJ g=>⟨(t J (by simp[g])).1, ?_⟩) (p.trans I) r⟩⟩;have h3:=(t J (by simp[g])).2;unfold dI at h3 ⊢;rw[World.putObj_heap_other (λ(e:J=b)=>h1 (by rw[<- e];exact g))];exact h3
def Kz{f:FuncId}{fn:Func}{c:Code}{h:Eo}{o:List AV}{J:List Value}{K:AV->Fl->Prop}(hg:h.gc=[]\/G.obs=[])(hm:P.follows .mixedOrders=true)(hd:fn.body.any (HB h)=true)(hf:P.funcs[f]? =some fn)(hb:fn.body=some c)
  (hn:o.length<=fn.ntmps)(ha:Jw P fn.ntmps h none c (Ut P fn.ntmps fn.results K) (Gw 0 o) H)(hc:En F G o H J w):
  Calls P f J.toArray w λe j => ∃u,e = .returned u /\ ∃v p r,K v p/\En F r [v] p [u] j/\Ext F G w r j:=by
 have C:=hc.l.len;have hs:SRel F G fn.ntmps (Gw 0 o) H { tmps:=J.toArray++Array.replicate (fn.ntmps - J.toArray.size) Go.undef,defers:=[] } w:=by
  refine⟨IG,.nil F w,λt ht=>?_, ?_⟩
  ·rw[Lf,iP (BS _),List.getElem?_eq_none (by simp;exact AJ hn ht)];rfl
  ·rw[Xu o hn];have:=hc.args (fn.ntmps - o.length);simp only[DE,Array.toList_replicate,List.size_toArray];rw[<- C];exact this
 refine callsIn_wide.1 (callsIn_of_wp_marks (F:=Fence.wide) (n:=0) hf hb trivial (show c.wpIn (gV none) 0 P _ _ w from Js hm c none none F G w hg trivial (by rw[hb]at hd;exact hd) _ _ G _ H _ w hs (.refl F G w) ha λex O j hl=>?_));obtain⟨env',p,r,hq,g,he⟩:=hl;have R:ex = .normal\/ex = .ret:=(s4 g hq).1;obtain⟨bs,T,U,V⟩:=g.defers;have i:LeavesInM Fence.wide 0 P fn O.tmps (λe j => ∃u,e = .returned u /\ ∃v p r,K v p/\En F r [v] p [u] j/\Ext F G w r j) O.defers .returning j:=by
  rw[T];refine Sv bs g.c U V he λw2 hc2 he2=>?_;obtain⟨_,v,u,H2,G2,hK,hcr,he3,I⟩:=s4 (a:={ tmps:=O.tmps,defers:=[] }) ⟨g.size,.nil F w2,g.out,hc2⟩ hq;exact⟨u,I,u,rfl,v,H2,G2,hK,hcr,he2.trans he3⟩
 rcases R with rfl|rfl
 ·exact i
 ·exact i
def nZ{f:FuncId}{fn:Func}{c:Code}{i:List AV}{R:AV->Fl->Prop}(h:Eo)(j:h.gc=[])(o:P.follows .mixedOrders=true)(p:fn.body.any (HB h)=true)(r:P.funcs[f]? =some fn)(t:fn.body=some c)(g:IB P f=true)
  (C:i.length<=fn.ntmps)(I:Jw P fn.ntmps h none c (Ut P fn.ntmps fn.results R) (Gw 0 i) H):Fw P f i H R :=
 ⟨g,λF G w O J=>Kz (.inl j) o p r t C I J⟩
def dJ(F:Nat->Prop)(G:Gh)(H:Fl)(w:World)(b:Nat):Prop :=
 F b\/(∃(o:Nat) (g:List AV),H[o]? =some (some g)/\G.obs[o]? =some b)\/0<I3 G H w b
def CRel.hide{I:List AV}{P:List Value}(g:En F G I H P w)(hp : ∀ v∈I,v.pure=true):En (dJ F G H w) ⟨[],G.kind⟩ I [] P w:=by
 refine⟨⟨g.l.len,λi a u j J=>VRel.pure (G:=G) (G':=⟨[],G.kind⟩) rfl (g.l.rel i a u j J) (hp a (AB j)),λi a u j J p V=>?_⟩,
  ⟨rfl,λo O b j _=>by simp at j,λo o' O cs' b j _ _ _=>by simp at j,λb r=>?_,g.h.glob.same rfl⟩,λb=>?_⟩
 ·have ht:=g.l.tok i a u j J p V;refine(Option.eq_none_or_eq_some (tok p)).elim Gb λ⟨b,r⟩=>?_;have hx:=ht.of_tok r;have R:Gg (dJ F G H w) G w p:=ht.keep λb' t=>by
   rw[r]at t;cases t;refine⟨?_,rfl,rfl⟩;rintro (h|⟨o,O,T,U⟩|h)
   ·exact hx.1 h
   ·obtain⟨_,⟨q,hq⟩,_⟩:=hx;exact(g.h.obj o O b T U).no_buf hq
   ·have h5:=NA j J V r;have:=g.cnt b;omega
  exact R
 ·rcases r with h|⟨o,O,T,U⟩|h
  ·exact g.h.fore b h
  ·exact g.h.block_lt T U
  ·obtain⟨_,_,C,E,hh⟩:=g.h.tok_of_pos h;exact(Array.getElem?_eq_some_iff.1 hh).1
 ·have:=g.cnt b;show Hm b I P+I3 _ [] w b<=1;simp only[I3,AG,EQ,Ah,List.sum_nil];omega
def CRel.unhide{P:List AV}{R:List Value}(O:En F G P H R w){G':Gh}{T:Fl}{v:AV}{u:Value}{r:World}(U:v.pure=true)
  (C:En (dJ F G H w) G' [v] T [u] r)(g:Ext (dJ F G H w) ⟨[],G.kind⟩ w G' r):
  En F ⟨G.obs,G'.kind⟩ [v] H [u] r/\Ext F G w ⟨G.obs,G'.kind⟩ r:=by
 have V:Keeps G w ⟨G.obs,G'.kind⟩ r:=⟨λ_ _ h=>h,g.keeps.shape,λb i I=>g.keeps.sp b i I,λb o x I t=>g.keeps.safe b o x I t⟩;have j:Ext F G w ⟨G.obs,G'.kind⟩ r:=⟨g.size,V,λb i=>g.kind b (.inl i),λb i=>g.cells b (.inl i),g.io⟩;obtain⟨h1,h2,_⟩:=C.l.uncons;refine⟨⟨.cons (VRel.pure (G:=G') (G':=⟨G.obs,G'.kind⟩) rfl h1 U) (λp J=>?_) (.nil F _ _), ?_,λb=>?_⟩,j⟩
 ·have:=(h2 p J).weaken (F:=F) λb i => .inl i;exact this
 ·exact O.h.ext j rfl λb i=>⟨g.kind b (.inr i),g.cells b (.inr i)⟩
 ·have e:I3 ⟨G.obs,G'.kind⟩ H r b=I3 G H w b:=N4 rfl (λo cs b' g1 g2=>g.cells b' (.inr (.inl ⟨o,cs,g1,g2⟩))) b;rw[e,Fx,Gy];by_cases h0:0<I3 G H w b
  ·have h3:¬0<Hm b [v] [u]:=λJ=>(C.l.tok_of_pos J).1 (.inr (.inr h0));rw[Fx,Gy]at h3;have:=O.cnt b;omega
  ·have:=C.cnt b;rw[Fx,Gy]at this;omega
def AGQ{f:FuncId}{fn:Func}{c:Code}{j:List AV}{Q:AV->Prop}(h:Eo)(t:P.follows .mixedOrders=true)(C:fn.body.any (HB h)=true)(I:P.funcs[f]? =some fn)(J:fn.body=some c)(g:IB P f=true)
  (O:j.length<=fn.ntmps)(R:Fq j=true)(T:Jw P fn.ntmps h none c (Ut P fn.ntmps fn.results λo _=>o.pure=true/\Q o) (Gw 0 j) []):K9 P f j Q:=λH =>
 ⟨g,λF G w us r=>Calls.mono (Kz (.inr rfl) t C I J O T (r.hide (Ix R))) λe w' U=>by
  obtain⟨u,rfl,o,H2,G',⟨V,hq⟩,p,i⟩:=U;obtain⟨h1,h2⟩:=r.unhide V p i;exact⟨u,rfl,o,H,_,⟨hq,rfl⟩,h1,h2⟩⟩
def AGU{f:FuncId}{fn:Func}{c:Code}{j:List AV}{v:AV}(h:Eo)(t:P.follows .mixedOrders=true)(C:fn.body.any (HB h)=true)(I:P.funcs[f]? =some fn)(J:fn.body=some c)(g:IB P f=true)
  (O:j.length<=fn.ntmps)(R:Fq j=true)(T:v.pure=true)(U:Jw P fn.ntmps h none c (Ut P fn.ntmps fn.results λp _=>p=v) (Gw 0 j) []):Fm P f j v:=λH =>
 ⟨g,λF G w us r=>Calls.mono (Kz (.inr rfl) t C I J O U (r.hide (Ix R))) λe w' V=>by
  obtain⟨u,rfl,p,H2,G',rfl,o,i⟩:=V;obtain⟨h1,h2⟩:=r.unhide T o i;exact⟨u,rfl,_,H,_,⟨rfl,rfl⟩,h1,h2⟩⟩
end
end Go.AI
namespace Go.AI
abbrev Kt:=GO->Fl->Prop
def Y5(x:Operand)(v:AV)(e:GO):GO :=
 match v.owned,x with
 |true,.tmp t=>(t,v.borrow)::e
 |_,_=>e
def bnd(r:Option AV)(d:Tmp)(K:Kt)(e:GO)(H:Fl):Prop :=
 match r with
 |some v=>K ((d,v)::e) H
 |none=>False
def AI4(r:Option (AV×Fl))(d:Option Tmp)(K:Kt)(e:GO):Prop :=
 match r with
 |some (v,H)=>K (put d v e) H
 |none=>False
def Xj(c:AV)(b:Bool)(A B:Kt)(e:GO)(H:Fl):Prop :=
 match c with
 |.bool c=>if c=b then A e H else B e H
 |.tup _=>B e H
 |_=>False
def AEh(t:Option Tmp)(b:Bool)(A B:Kt)(e:GO)(H:Fl):Prop :=
 match t with
 |some t=>Xj (GJ e t) b A B e H
 |none=>False
def ACa(n:Nat)(d:Option Tmp)(K:Kt)(e:GO)(H:Fl):Prop:=HO n d/\K (put d (.tup []) e) H
def lQ(c:AV)(A B:Kt)(e:GO)(H:Fl):Prop :=
 match c with
 |.bool t=>if t=true then A e H else B e H
 |_=>False
def ACd(B:Kt)(Q:Exit->Kt)(g:Exit):Kt:=λe H =>
 match g with
 |.normal=>B e H
 |g=>Q g e H
def dt(id:Nat)(Q:Exit->Kt)(g:Exit):Kt:=λe H =>
 match g with
 |.exit j=>if j=id then Q .normal e H else Q (.exit j) e H
 |g=>Q g e H
def Vl(g:List (Tmp×Option Nat×Bool))(Q:Exit->Kt):Kt:=λe H=>Q .normal (LO g e H).1 (LO g e H).2
def gcK(g:Option Nat)(Q:Exit->Kt)(i:Exit):Kt:=λe H =>
 match i with
 |.normal=>Q .normal e (Vk g e H)
 |i=>Q i e H
def qd(g:List Tmp)(i:List (Tmp×Option Nat×Bool))(Q:Exit->Kt):Kt:=λe H=>Vl i Q (IQ g e) H
def sf(P:Program)(t:TypeId)(a:AV)(H:Fl):Option (AV×Fl) :=
 match a with
 | .ptr i g=>match H[i]? with
  |some (some j)=>match Mb P t j g with
   |some v=>if v.owned=true then some (v,H.set i (some (splice j g (v.cells.map borrow1))))else some (v.borrow,H)
   |none=>none
  |_=>none
 |_=>none
def rdK(r:Option (AV×Fl))(K:AV->Fl->Prop):Prop :=
 match r with
 |some (v,H)=>K v H
 |none=>False
def Ye(P:Program)(f:FuncId)(g:List AV)(d:Option Tmp)(K:Kt)(e:GO)(H:Fl):Prop:=∃v,Fm P f g v/\K (put d v e) H
def GQ(P:Program)(f:FuncId)(g:List AV)(d:Option Tmp)(K:Kt)(e:GO)(H:Fl):Prop:=Fw P f g H λv i=>K (put d v e) i
section
variable{P:Program}{n:Nat}{h:Eo}{ops:Array Oper}{K:Kt}{p:Tmp×AV}{e:GO}{H:Fl}{d:Tmp}{ty:TypeId}{ps:String}{af:Array Edge}{Q:Exit->Kt}{ar:Option Nat}
def vz(t k:Tmp)(v:AV):GJ ((k,v)::e) t=if k=t then v else GJ e t:=rfl
def ADo(t:Tmp):GJ [] t = .undef:=rfl
def AAZ:IQ [] e=[]:=rfl
def qn(t:Tmp)(l:List Tmp):IQ (t::l) e=(t,GJ e t)::IQ l e:=rfl
def ACu(v:AV):put (some d) v e=(d,v)::e:=rfl
def qe:HO n (some d)=(d<n):=rfl
def AIQ(o:Option TypeId)(t:Tmp):Hh P o e (.tmp t)=GJ e t:=rfl
def AIS(o:Option TypeId)(k:IntKind)(m:Int):Hh P o e (.const (.int k m)) = .int k m:=rfl
def AE2(o:Option TypeId)(b:Bool):Hh P o e (.const (.bool b)) = .bool b:=rfl
def AIR(o:Option TypeId)(s:ByteArray):Hh P o e (.const (.string s)) = .str s:=rfl
def AEz(o:Option TypeId):Hh P o e (.const (.pointer none)) = .nilp:=rfl
def AE0(o:Option TypeId):Hh P o e (.const .nilFunc) = .nilf:=rfl
def AEy(o:Option TypeId):Hh P o e (.const (.slice none 0 0)) = .sl (UH P o) []:=rfl
def AE1(o:Option TypeId)(f:FuncId):Hh P o e (.func f) = .fn (.func f) [] []:=rfl
def jY:UH P none=none:=rfl
def jX(t:TypeId):UH P (some t)=match P.underlying t with
  |some (.slice e)=>some (P.cellsOf e)
  |_=>none:=rfl
def vi(k:IntKind)(m:Int):(AV.int k m).owned=false:=rfl
def o7(b:Bool):(AV.bool b).owned=false:=rfl
def vd(b:ByteArray):(AV.str b).owned=false:=rfl
def oo:AV.nilp.owned=false:=rfl
def vg(a b:Nat):(AV.ptr a b).owned=false:=rfl
def o6(a:List AV)(b:Nat):(AV.cptr a b).owned=false:=rfl
def vf(g:List AV):(AV.sl none g).owned=false:=rfl
def ve(k:Nat)(g:List AV):(AV.sl (some k) g).owned=true:=rfl
def vh(a b c k:Nat):(AV.msl a b c k).owned=false:=rfl
def ou(a b c k m:Nat):(AV.mslc a b c k m).owned=false:=rfl
def ADU(f:Fn)(a b:List AV):(AV.fn f a b).owned=false:=rfl
def oq:AV.nilf.owned=false:=rfl
def vj(g:List AV):(AV.agg g).owned=g.any GY:=rfl
def vc(g:List AV):(AV.tup g).owned=(g.flatMap AV.cells).any GY:=rfl
def o8(k:Nat)(g:List AV):GY (AV.sl (some k) g)=true:=rfl
def o9(g:List AV):GY (AV.sl none g)=false:=rfl
def pA(k:IntKind)(m:Int):GY (AV.int k m)=false:=rfl
def jC(b:Bool):GY (AV.bool b)=false:=rfl
def o_(a b c k:Nat):GY (AV.msl a b c k)=false:=rfl
def rP(k:IntKind)(m:Int):(AV.int k m).borrow = .int k m:=rfl
def lm(b:Bool):(AV.bool b).borrow = .bool b:=rfl
def rM(b:ByteArray):(AV.str b).borrow = .str b:=rfl
def rN(a b:Nat):(AV.ptr a b).borrow = .ptr a b:=rfl
def ll(a:List AV)(b:Nat):(AV.cptr a b).borrow = .cptr a b:=rfl
def AAz(o:Option Nat)(g:List AV):(AV.sl o g).borrow = .sl none g:=rfl
def rO(a b c k:Nat):(AV.msl a b c k).borrow = .msl a b c k:=rfl
def lj(a b c k m:Nat):(AV.mslc a b c k m).borrow = .mslc a b c k m:=rfl
def AA0(f:Fn)(a b:List AV):(AV.fn f a b).borrow = .fn f a b:=rfl
def rQ(g:List AV):(AV.agg g).borrow = .agg (g.map borrow1):=rfl
def rL(g:List AV):(AV.tup g).borrow = .tup (g.map borrow0):=rfl
def rR(o:Option Nat)(g:List AV):borrow1 (AV.sl o g) = .sl none g:=rfl
def lq(k:IntKind)(m:Int):borrow1 (AV.int k m) = .int k m:=rfl
def lp(a b c k:Nat):borrow1 (AV.msl a b c k) = .msl a b c k:=rfl
def AAi(g:List AV):(AV.agg g).cells=g:=rfl
def AAh(k:IntKind)(m:Int):(AV.int k m).cells=[.int k m]:=rfl
def qu(b:Bool):(AV.bool b).cells=[.bool b]:=rfl
def AAe(b:ByteArray):(AV.str b).cells=[.str b]:=rfl
def qp:AV.nilp.cells=[.nilp]:=rfl
def AAf(a b:Nat):(AV.ptr a b).cells=[.ptr a b]:=rfl
def AFD(o:Option Nat)(g:List AV):(AV.sl o g).cells=[.sl o g]:=rfl
def AAg(a b c k:Nat):(AV.msl a b c k).cells=[.msl a b c k]:=rfl
def wh(g:List AV):(AV.agg g).isVal=true:=rfl
def wg(k:IntKind)(m:Int):(AV.int k m).isVal=true:=rfl
def pz(b:Bool):(AV.bool b).isVal=true:=rfl
def wc(b:ByteArray):(AV.str b).isVal=true:=rfl
def wd(a b:Nat):(AV.ptr a b).isVal=true:=rfl
def AEC(o:Option Nat)(g:List AV):(AV.sl o g).isVal=true:=rfl
def we(a b c k:Nat):(AV.msl a b c k).isVal=true:=rfl
def oz(a:Nat):(AV.mapr a).owned=false:=rfl
def vZ(a:Nat)(L:Ep):(AV.yld a L).owned=false:=rfl
def vl(f:Fn)(a b:List AV):GY (AV.fn f a b)=false:=rfl
def jB:GY AV.nilf=false:=rfl
def lk(a:Nat):(AV.mapr a).borrow = .mapr a:=rfl
def rJ(a:Nat)(L:Ep):(AV.yld a L).borrow = .yld a L:=rfl
def qt(a:Nat):(AV.mapr a).cells=[.mapr a]:=rfl
def qq:AV.nilm.cells=[.nilm]:=rfl
def AFE(f:Fn)(a b:List AV):(AV.fn f a b).cells=[.fn f a b]:=rfl
def qr:AV.nilf.cells=[.nilf]:=rfl
def AAd(a:Nat)(L:Ep):(AV.yld a L).cells=[.yld a L]:=rfl
def pw(a:Nat):(AV.mapr a).isVal=true:=rfl
def AED(f:Fn)(a b:List AV):(AV.fn f a b).isVal=true:=rfl
def wb(a:Nat)(L:Ep):(AV.yld a L).isVal=true:=rfl
def ACJ(b:Bool)(x:Operand)(v:AV)(e:GO):GO :=
 match b,x with
 |true,.tmp t=>(t,v.borrow)::e
 |_,_=>e
def Aci(x:Operand)(v:AV):Y5 x v e=ACJ v.owned x v e:=rfl
def AK9(x:Operand)(v:AV):ACJ false x v e=e:=rfl
def AK8(t:Tmp)(v:AV):ACJ true (.tmp t) v e=(t,v.borrow)::e:=rfl
def n_(b:Bool)(c:Value)(v:AV):ACJ b (.const c) v e=e:=by cases b<;>rfl
def uu(b:Bool)(f:FuncId)(v:AV):ACJ b (.func f) v e=e:=by cases b<;>rfl
def AFf(v:AV):bnd (some v) d K e H=K ((d,v)::e) H:=AH rfl rfl
def AA3(v:AV)(g:Option Tmp):AI4 (some (v,H)) g K e=K (put g v e) H:=AH rfl rfl
def qN(t:Tmp)(b:Bool)(A B:Kt):AEh (some t) b A B e H=Xj (GJ e t) b A B e H:=AH rfl rfl
def AIF(A B:Kt):Xj (.bool true) true A B e H=A e H:=AH rfl rfl
def AII(A B:Kt):Xj (.bool false) false A B e H=A e H:=AH rfl rfl
def AIG(A B:Kt):Xj (.bool true) false A B e H=B e H:=AH rfl rfl
def AIH(A B:Kt):Xj (.bool false) true A B e H=B e H:=AH rfl rfl
def AEi(b:Bool)(g:List AV)(A B:Kt):Xj (.tup g) b A B e H=B e H:=by simp[Xj]
def ACZ(g:Option Tmp):ACa n g K e H=(HO n g/\K (put g (.tup []) e) H):=AH rfl rfl
def AIc(A B:Kt):lQ (.bool true) A B e H=A e H:=AH rfl rfl
def AId(A B:Kt):lQ (.bool false) A B e H=B e H:=AH rfl rfl
def VN(t:Bool)(A B:Kt)(g:t=true->A e H)(i:t=false->B e H):lQ (.bool t) A B e H:=by
 cases t
 ·exact i rfl
 ·exact g rfl
def qO(t b:Bool)(A B:Kt)(g:t=b->A e H)(i:t=(!b)->B e H):Xj (.bool t) b A B e H:=by
 cases t<;>cases b<;>first|exact g rfl|exact i rfl
def AF5:MB P n h ops [] K (p::e) H=K (p::e) H:=AH rfl rfl
def ABB(o:Oper)(l:List Oper):MB P n h ops (o::l) K (p::e) H=JK P n h ops o (MB P n h ops l K) (p::e) H:=AH rfl rfl
def AF2:Jw P n h ar .skip Q (p::e) H=Q .normal (p::e) H:=AH rfl rfl
def AI_:Jw P n h ar .ret Q (p::e) H=Q .ret (p::e) H:=AH rfl rfl
def AF3(id:Nat):Jw P n h ar (.exit id) Q (p::e) H=Q (.exit id) (p::e) H:=AH rfl rfl
def AI9(a b:Code):Jw P n h ar (.seq a b) Q (p::e) H=Jw P n h ar a (ACd (Jw P n h ar b Q) Q) (p::e) H:=AH rfl rfl
def ABA(id:Nat)(c:Code):Jw P n h ar (.block id c) Q (p::e) H=Jw P n h ar c (dt id Q) (p::e) H:=AH rfl rfl
def AF4(c:Operand)(a b:Code):Jw P n h ar (.cond c a b) Q (p::e) H=lQ (Hh P none (p::e) c) (Jw P n h ar a Q) (Jw P n h ar b Q) (p::e) H:=AH rfl rfl
def rV(id:Nat)(ops:Array Oper)(g:Bool)(i:h.dn id=false):Jw P n h ar (.region id ops g) Q (p::e) H=MB P n h ops ops.toList (qd (h.lv id) (h.at id) (gcK (h.ct id) Q)) (p::e) H:=by
 obtain⟨j,o⟩:=sP i ops;have r:(λe H=>(h.da id=true->KQ P h ops e)/\Q .normal (LO (h.at id) (IQ (h.lv id) e) H).1 (Vk (h.ct id) (LO (h.at id) (IQ (h.lv id) e) H).1 (LO (h.at id) (IQ (h.lv id) e) H).2))=qd (h.lv id) (h.at id) (gcK (h.ct id) Q):=by
  funext e H;simp only[j,B0,false_implies,true_and];rfl
 show MB P n h ops (h.ord id ops) _ (p::e) H=_;rw[<- r,o]
def Ajm(P:Program)(h:Eo)(ops:Array Oper)(K:Kt):Kt:=λe H=>KQ P h ops e/\K e H
def IC(id:Nat)(ops:Array Oper)(g:Bool)(t:h.dn id=true)(i:h.da id=true)(j:h.mv id=[]):Jw P n h ar (.region id ops g) Q (p::e) H=MB P n h ops ops.toList (Ajm P h ops (qd (h.lv id) (h.at id) (gcK (h.ct id) Q))) (p::e) H:=by
 have o:(λe H=>(h.da id=true->KQ P h ops e)/\Q .normal (LO (h.at id) (IQ (h.lv id) e) H).1 (Vk (h.ct id) (LO (h.at id) (IQ (h.lv id) e) H).1 (LO (h.at id) (IQ (h.lv id) e) H).2))=Ajm P h ops (qd (h.lv id) (h.at id) (gcK (h.ct id) Q)):=by
  funext e H;simp only[i,true_implies];rfl
 have r:h.ord id ops=ops.toList:=by unfold Hint.ord;rw[j]
 show MB P n h ops (h.ord id ops) _ (p::e) H=_;rw[<- o,r]
def QM(id:Nat)(ops:Array Oper)(g:Bool)(o:h.dn id=true)(i:h.da id=false):Jw P n h ar (.region id ops g) Q (p::e) H=MB P n h ops (h.ord id ops) (qd (h.lv id) (h.at id) (gcK (h.ct id) Q)) (p::e) H:=by
 have j:(λe H=>(h.da id=true->KQ P h ops e)/\Q .normal (LO (h.at id) (IQ (h.lv id) e) H).1 (Vk (h.ct id) (LO (h.at id) (IQ (h.lv id) e) H).1 (LO (h.at id) (IQ (h.lv id) e) H).2))=qd (h.lv id) (h.at id) (gcK (h.ct id) Q):=by
  funext e H;simp only[i,B0,false_implies,true_and];rfl
 show MB P n h ops (h.ord id ops) _ (p::e) H=_;rw[<- j]
def rfK(P:Program)(n:Nat)(h:Eo)(ar:Option Nat)(g:Operand)(o:Array Tmp)(i j:Code)(Q:Exit->Kt):Kt:=Jw P n h ar (.rangeFunc g o i j) Q
def Za(g:Operand)(o:Array Tmp)(i j:Code):Jw P n h ar (.rangeFunc g o i j) Q (p::e) H=rfK P n h ar g o i j Q (p::e) H:=AH rfl rfl
def AIV(g:List Tmp)(i:List (Tmp×Option Nat×Bool)):qd g i Q (p::e) H=Vl i Q (IQ g (p::e)) H:=AH rfl rfl
def AEn:Vl [] Q e H=Q .normal e H:=AH rfl rfl
def bF(z:Tmp×Option Nat×Bool)(g:List (Tmp×Option Nat×Bool)):Vl (z::g) Q e H=Vl g Q (ZV z e H).1 (ZV z e H).2:=rfl
def AEm:gcK none Q=Q:=by
 funext g e H;cases g<;>rfl
def AEl(k:Nat):gcK (some k) Q .normal e H=if k<=H.length/\F_ k (e.map (·.2))=true/\WS (H.take k)=true then Q .normal e (H.take k)else Q .normal e H:=by
 simp only[gcK,Vk];split<;>rfl
def UX{t k o off2 ob off len sz:Nat}{i:Bool}{r:List (Tmp×Option Nat×Bool)}{cs g:List AV}(I:GJ e t = .ptr o off2)(C:H[o]? =some (some g))(J:g[off2+k]? =some (.msl ob off len sz))(j:ob≠o)(O:H[ob]? =some (some cs))(p:off+len*sz<=cs.length)(P:i=true\/sz=1):
  Vl ((t,some k,i)::r) Q e H=Vl r Q e ((H.set ob none).set o (some (g.set (off2+k) (.sl none (IX i sz len ((cs.drop off).map borrow1)))))):=by
 have R:ZV (t,some k,i) e H=(e,(H.set ob none).set o (some (g.set (off2+k) (.sl none (IX i sz len ((cs.drop off).map borrow1)))))):=by
  simp only[ZV,I,C,J,Kw,O];rw[iP ⟨p,P⟩];simp only[List.getElem?_set_ne j,C]
 rw[bF,R]
def iI(B:Kt):ACd B Q .normal=B:=AH rfl rfl
def ACc(B:Kt):ACd B Q .ret=Q .ret:=AH rfl rfl
def u_(B:Kt)(j:Nat):ACd B Q (.exit j)=Q (.exit j):=AH rfl rfl
def lu(id:Nat):dt id Q .normal=Q .normal:=AH rfl rfl
def AFg(id:Nat):dt id Q .ret=Q .ret:=AH rfl rfl
def AFh(id:Nat):dt id Q (.exit id)=Q .normal:=by
 funext e H;simp[dt]
def AA4(id j:Nat)(g:(j==id)=false):dt id Q (.exit j)=Q (.exit j):=by
 funext e H;have:j≠id:=by simpa using g
 simp[dt,this]
def AGP(g:Array ResultVar)(K:AV->Fl->Prop):Ut P n g K .ret e H=iR P n g.toList e H λi _ j=>Rp K i j:=AH rfl rfl
def mc(g:Array ResultVar)(K:AV->Fl->Prop):Ut P n g K .normal e H=iR P n g.toList e H λi _ j=>Rp K i j:=AH rfl rfl
def AHO(K:List AV->GO->Fl->Prop):iR P n [] e H K=K [] e H:=AH rfl rfl
def AHN(t:Tmp)(g:List ResultVar)(K:List AV->GO->Fl->Prop):iR P n (.tmp t::g) e H K=(t<n/\iR P n g (Y5 (.tmp t) (GJ e t) e) H λi=>K (GJ e t::i)):=by
 have j:(OC P none true (.tmp t) e).2=Y5 (.tmp t) (GJ e t) e:=by
  simp only[OC,Hh,Y5];cases(GJ e t).owned<;>rfl
 simp only[iR,j];rfl
def iO(t:Tmp)(ty:TypeId)(j:List ResultVar)(K:List AV->GO->Fl->Prop):iR P n (.cell t ty::j) e H K=(t<n/\rdK (sf P ty (GJ e t) H) λv o=>iR P n j e o λp=>K (v::p)):=by
 simp only[iR,sf];congr 1;cases GJ e t with
 | ptr r i =>
  dsimp only;cases H[r]? with
  |none=>rfl
  | some c=>cases c with
   |none=>rfl
   | some C =>
    dsimp only;cases Mb P ty C i with
    |none=>rfl
    |some v =>
     dsimp only;by_cases g:v.owned=true
     ·rw[iP g,iP g];rfl
     ·rw[iN g,iN g];rfl
 |_=>rfl
def ACq(v:AV)(K:AV->Fl->Prop):rdK (some (v,H)) K=K v H:=AH rfl rfl
def ACk(v:AV)(K:AV->Fl->Prop):Rp K [v] H=K v H:=AH rfl rfl
def ACl(K:AV->Fl->Prop):Rp K [] H=K (.tup []) H:=by simp[Rp]
def ACj(u v:AV)(K:AV->Fl->Prop):Rp K [u,v] H=(u.isVal=true/\v.isVal=true/\K (.tup [u,v]) H):=by simp[Rp,and_assoc]
def oK(u v x:AV)(K:AV->Fl->Prop):Rp K [u,v,x] H=(u.isVal=true/\v.isVal=true/\x.isVal=true/\K (.tup [u,v,x]) H):=by simp[Rp,and_assoc]
def Ye.intro{f:FuncId}{g:List AV}{i:Option Tmp}{v:AV}(j:Fm P f g v)(o:K (put i v e) H):Ye P f g i K e H:=⟨v,j,o⟩
def GQ.intro{f:FuncId}{g:List AV}{i:Option Tmp}{R:AV->Fl->Prop}(o:Fw P f g H R)(p:∀v j,R v j->K (put i v e) j):GQ P f g i K e H:=o.mono p
def GQ.pure{f:FuncId}{g:List AV}{i:Option Tmp}{v:AV}(j:Fm P f g v)(o:K (put i v e) H):GQ P f g i K e H:=(j H).mono λr t p=>by obtain⟨rfl,rfl⟩:=p;exact o
def L0{f:FuncId}{g:List AV}{i:Option Tmp}{Q:AV->Prop}(j:K9 P f g Q)(o:∀v,Q v->K (put i v e) H):GQ P f g i K e H:=(j H).mono λp C r=>by obtain⟨t,rfl⟩:=r;exact o p t
end
end Go.AI
namespace Go.AI
def J1(P:Program):List Operand->GO->List AV×GO
 |[],e=>([],e)
 |x::g,e=>((Hh P none e x)::(J1 P g (Y5 x (Hh P none e x) e)).1,(J1 P g (Y5 x (Hh P none e x) e)).2)
def aJ(P:Program)(o:Bool)(t:TypeId)(a:AV)(H:Fl):Option (AV×Fl) :=
 match a with
 | .ptr j g=>match H[j]? with
  | some (some i)=>match Mb P t i g with
   |some v=>match o with
    |true=>if v.owned=true/\v.scalar=true then some (v,H.set j (some (splice i g (v.cells.map borrow1))))else none
    |false=>some (v.borrow,H)
   |none=>none
  |_=>none
 |.cptr i g=>match Mb P t i g with
  |some v=>some (v.borrow,H)
  |none=>none
 |_=>none
def Wd(P:Program)(t:TypeId)(a v:AV)(H:Fl):Option Fl :=
 match a with
 |.ptr i g=>match H[i]? with
  |some (some j)=>if v.isVal=true/\v.cells.length=P.cellsOf t/\0<P.cellsOf t/\g+P.cellsOf t<=j.length then some (H.set i (some (splice j g v.cells)))else none
  |_=>none
 |_=>none
def stK(r:Option Fl)(K:Kt)(e:GO):Prop :=
 match r with
 |some H=>K e H
 |none=>False
def ul(a:AV)(k:Nat):Option AV :=
 match a with
 |.ptr i g=>some (.ptr i (g+k))
 |.cptr j g=>some (.cptr j (g+k))
 |_=>none
def fieldAt(P:Program)(s f:Nat):Option Field :=
 match P.underlying s with
 |some (.struct g)=>g[f]?
 |_=>none
def Tr(P:Program)(g:Option Field)(x:AV):Option AV :=
 match g with
 |some g=>if 0<P.cellsOf g.type then ul x g.offset else none
 |none=>none
def aI(P:Program)(g:Option Field)(x:AV):Option AV :=
 match g,x with
 |some g,.agg i=>Mb P g.type i g.offset
 |_,_=>none
def ACB(x:AV):Option AV :=
 match x with
 |.ptr i g=>some (.ptr i g)
 |.cptr j g=>some (.cptr j g)
 |.fn (.func f) a b=>some (.fn (.func f) a b)
 |.yld o L=>some (.yld o L)
 |_=>none
def AB8(c a b:AV):Option AV :=
 match c with
 |.bool c=>some (if c=true then a else b)
 |_=>none
def Pc(x:AV)(i:Nat):Option AV :=
 match x with
 |.tup g=>g[i]?
 |_=>none
def ACC(d:Option TypeDesc)(x:AV):Option AV :=
 match d,x with
 |some (.slice _),.sl _ i=>some (.int .i64 i.length)
 |some (.slice _),.msl _ _ g _=>some (.int .i64 g)
 |some (.slice _),.mslc _ _ g _ _=>some (.int .i64 g)
 |some .string,.str s=>some (.int .i64 s.size)
 |some (.array n _),_=>some (.int .i64 n)
 |_,_=>none
def vUn(g:UnOp)(x:AV):Option AV :=
 match g,x with
 |.neg,.int k m=>some (.int k (k.wrap (0 - m)))
 |.not,.bool b=>some (.bool !b)
 |_,_=>none
section
variable{P:Program}{n:Nat}{h:Eo}{ops:Array Oper}{K:Kt}{p:Tmp×AV}{e:GO}{H:Fl}{d:Tmp}{ty:TypeId}{ps:String}{af:Array Edge}{Q:Exit->Kt}
def OB:∀(g:List Operand) (e:GO),Pb P none true g e=J1 P g e
 |[],e=>rfl
 | x::g,e=>by
  have:(OC P none true x e).2=Y5 x (Hh P none e x) e:=by
   simp only[OC,Y5];cases x with
   |tmp t=>simp only[Hh];cases(GJ e t).owned<;>rfl
   |_=>cases(Hh P none e _).owned<;>rfl
  simp only[Pb,J1,this,OB g];rfl
def Gk(ty:Option TypeId): ∀(g:List Operand) (e:GO),Pb P ty false g e=(g.map λx=>(Hh P ty e x).borrow,e)
 |[],e=>rfl
 |x::g,e=>by simp only[Pb,OC,Gk ty g,AW]
def ut:J1 P [] e=([],e):=rfl
def n9(x:Operand)(g:List Operand):J1 P (x::g) e=((Hh P none e x)::(J1 P g (Y5 x (Hh P none e x) e)).1,(J1 P g (Y5 x (Hh P none e x) e)).2):=rfl
def Ga(o:Oper)(g:o.guard=none):JK P n h ops o K e H=(HO n o.dst/\GA P h o (Pb P (IA o) (GU h o) o.op.operands.toList e).1 H λv i=>K (put o.dst v (Pb P (IA o) (GU h o) o.op.operands.toList e).2) i):=by
 simp only[JK,nc,g]
def ABN(i:Op)(j:Nat)(b:Bool)(g:Option Tmp):JK P n h ops ⟨g,i,ty,ps,af,some (j,b)⟩ K (p::e) H =
  AEh ((ops[j]?).bind Oper.dst) b (JK P n h ops ⟨g,i,ty,ps,af,none⟩ K) (ACa n g K) (p::e) H:=by
 simp only[JK,nc,AEh,Xj,ACa];cases(ops[j]?).bind Oper.dst with
 |none=>rfl
 |some t =>
  simp only;cases GJ (p::e) t with
  |bool c=>cases c<;>cases b<;>rfl
  |_=>rfl
def bv(x:Operand)(o:Option TypeId):(OC P o true x e).2=Y5 x (Hh P o e x) e:=by
 simp only[OC,Y5];cases x with
 |tmp t=>simp only[Hh];cases(GJ e t).owned<;>rfl
 |_=>cases(Hh P o e _).owned<;>rfl
def AGB(x:Operand):JK P n h ops ⟨some d,.move x,ty,ps,af,none⟩ K (p::e) H =
  (d<n/\bif h.tk.contains d then K ((d,Hh P (some ty) (p::e) x)::Y5 x (Hh P (some ty) (p::e) x) (p::e)) H else K ((d,(Hh P (some ty) (p::e) x).borrow)::p::e) H):=by
 rw[Ga _ rfl];cases g:h.tk.contains d
 ·simp only[GU,DH,g,IA,Op.operands,Pb,GA,put,HO,cond_false];rfl
 ·simp only[GU,DH,g,IA,Op.operands,Pb,bv,GA,put,HO,cond_true];rfl
def rk(x:Operand):JK P n h ops ⟨some d,.assign x,ty,ps,af,none⟩ K (p::e) H =
  (d<n/\K ((d,Hh P (some ty) (p::e) x)::Y5 x (Hh P (some ty) (p::e) x) (p::e)) H):=by
 rw[Ga _ rfl];simp only[GU,IA,Op.operands,Pb,bv,GA,put,HO];rfl
def AF'(c a b:Operand):JK P n h ops ⟨some d,.pick c a b,ty,ps,af,none⟩ K (p::e) H =
  (d<n/\bnd (AB8 (Hh P none (p::e) c).borrow (Hh P none (p::e) a).borrow (Hh P none (p::e) b).borrow) d K (p::e) H):=by
 rw[Ga _ rfl];simp only[GU,IA,Op.operands,Gk,AW,Ah,GA,put,HO,AB8];cases(Hh P none (p::e) c).borrow<;>rfl
def AJK(g:TypeId)(x:Operand):JK P n h ops ⟨some d,.box g x,ty,ps,af,none⟩ K (p::e) H =
  (d<n/\(Hh P none (p::e) x).isVal=true/\K ((d,.ptr H.length 0)::Y5 x (Hh P none (p::e) x) (p::e)) (H++[some (Hh P none (p::e) x).cells])):=by
 rw[Ga _ rfl];simp only[GU,IA,Op.operands,Pb,bv,GA,put,HO];rfl
def AGC(t:TypeId)(x:Operand):JK P n h ops ⟨some d,.load t x,ty,ps,af,none⟩ K (p::e) H =
  (d<n/\AI4 (aJ P (h.tk.contains d) t (Hh P none (p::e) x).borrow H) (some d) K (p::e)):=by
 rw[Ga _ rfl];simp only[GU,IA,Op.operands,Gk,AW,Ah,GA,put,HO,aJ];congr 1;cases(Hh P none (p::e) x).borrow with
 | ptr r g =>
  simp only;cases H[r]? with
  |none=>rfl
  | some c=>cases c with
   |none=>rfl
   | some j =>
    simp only;cases Mb P t j g with
    |none=>rfl
    | some v =>
     simp only[DH];cases h.tk.contains d
     ·rfl
     ·dsimp only;by_cases i:v.owned=true/\v.scalar=true
      ·rw[iP i];simp[i.1,i.2,AI4,put]
      ·rw[iN i];simp only[AI4,eq_iff_iff,iff_false];intro o;exact i ⟨o.1,o.2.1⟩
 |cptr j g =>
  simp only;cases Mb P t j g<;>rfl
 |_=>rfl
def ABJ(t:TypeId)(a v:Operand):JK P n h ops ⟨none,.store t a v,ty,ps,af,none⟩ K (p::e) H =
  stK (Wd P t (Hh P (some t) (p::e) a) (Hh P (some t) (Y5 a (Hh P (some t) (p::e) a) (p::e)) v) H) K (Y5 v (Hh P (some t) (Y5 a (Hh P (some t) (p::e) a) (p::e)) v) (Y5 a (Hh P (some t) (p::e) a) (p::e))):=by
 rw[Ga _ rfl];have r:∀(x:Operand) (e:GO),(OC P (some t) true x e).1=Hh P (some t) e x:=λ_ _=>rfl;simp only[GU,IA,Op.operands,Pb,bv,r,GA,put,HO,Wd,true_and];generalize Hh P (some t) (Y5 a (Hh P (some t) (p::e) a) (p::e)) v=j;generalize Y5 v j (Y5 a (Hh P (some t) (p::e) a) (p::e))=U;cases Hh P (some t) (p::e) a with
 | ptr C o =>
  simp only;cases H[C]? with
  |none=>rfl
  | some c=>cases c with
   |none=>rfl
   | some I =>
    simp only;by_cases g:j.isVal=true/\j.cells.length=P.cellsOf t/\0<P.cellsOf t/\o+P.cellsOf t<=I.length
    ·rw[iP g];obtain⟨J,O,R,T⟩:=g;simp only[J,O,R,T,true_and,stK]
    ·rw[iN g];simp only[stK,eq_iff_iff,iff_false];intro i;exact g ⟨i.1,i.2.1,i.2.2.1,i.2.2.2.1⟩
 |_=>rfl
def d'(x:Operand):JK P n h ops ⟨some d,.nilCheck x,ty,ps,af,none⟩ K (p::e) H=(d<n/\bnd (ACB (Hh P none (p::e) x).borrow) d K (p::e) H):=by
 rw[Ga _ rfl];simp only[GU,IA,Op.operands,Gk,AW,Ah,GA,put,HO,ACB];congr 1;cases(Hh P none (p::e) x).borrow with
 |fn f a b=>cases f<;>rfl
 |_=>rfl
def AF9(g:UnOp)(t:TypeId)(x:Operand):JK P n h ops ⟨some d,.unOp g t x,ty,ps,af,none⟩ K (p::e) H=(d<n/\bnd (vUn g (Hh P none (p::e) x).borrow) d K (p::e) H):=by
 rw[Ga _ rfl];simp only[GU,IA,Op.operands,Gk,AW,Ah,GA,put,HO,vUn];congr 1;cases g<;>cases(Hh P none (p::e) x).borrow<;>rfl
def Zg(s f:Nat)(x:Operand):JK P n h ops ⟨some d,.fieldAddr s x f,ty,ps,af,none⟩ K (p::e) H=(d<n/\bnd (Tr P (fieldAt P s f) (Hh P none (p::e) x).borrow) d K (p::e) H):=by
 rw[Ga _ rfl];simp only[GU,IA,Op.operands,Gk,AW,Ah,GA,put,HO,Tr,fieldAt];congr 1;cases P.underlying s with
 |none=>rfl
 | some i=>cases i with
  | struct j =>
   simp only;cases j[f]? with
   |none=>rfl
   | some o =>
    simp only;by_cases g:0<P.cellsOf o.type
    ·rw[iP g];simp only[g,true_and];cases(Hh P none (p::e) x).borrow<;>rfl
    ·rw[iN g];simp only[g,false_and,bnd]
  |_=>rfl
def ABO(s f:Nat)(x:Operand):JK P n h ops ⟨some d,.field s x f,ty,ps,af,none⟩ K (p::e) H=(d<n/\bnd (aI P (fieldAt P s f) (Hh P none (p::e) x).borrow) d K (p::e) H):=by
 rw[Ga _ rfl];simp only[GU,IA,Op.operands,Gk,AW,Ah,put,HO,aI,fieldAt];congr 1;generalize (Hh P none (p::e) x).borrow=a;unfold GA;dsimp only;cases g:P.underlying s with
 |none=>cases a<;>simp[bnd,g]
 | some o=>cases o with
  | struct r =>
   dsimp only;cases i:r[f]? with
   |none=>cases a<;>simp[bnd,g,i]
   |some j=>cases a with
    |agg t=>simp only[g,i];cases Mb P j.type t j.offset<;>rfl
    |_=>simp[bnd]
  |_=>cases a<;>simp[bnd,g]
def mD(x:Operand)(i:Nat):JK P n h ops ⟨some d,.extract x i,ty,ps,af,none⟩ K (p::e) H=(d<n/\bnd (Pc (Hh P none (p::e) x).borrow i) d K (p::e) H):=by
 rw[Ga _ rfl];simp only[GU,IA,Op.operands,Gk,AW,Ah,GA,put,HO,Pc];congr 1;cases(Hh P none (p::e) x).borrow with
 |tup g=>simp only;cases g[i]?<;>simp[bnd]
 |_=>rfl
def AJI(x:Operand)(t:TypeId):JK P n h ops ⟨some d,.call ⟨.builtin .len,#[x],#[t]⟩,ty,ps,af,none⟩ K (p::e) H=(d<n/\bnd (ACC (P.underlying t) (Hh P none (p::e) x).borrow) d K (p::e) H):=by
 rw[Ga _ rfl];have g:(#[]++#[x]:Array Operand).toList=[x]:=rfl;simp only[GU,IA,Op.operands,Call.operands,g,Gk,AW,Ah,GA,put,HO,ACC];congr 1;simp only[Bl,A7,Bi];cases P.underlying t with
 |none=>cases(Hh P none (p::e) x).borrow<;>rfl
 |some i=>cases i<;>cases(Hh P none (p::e) x).borrow<;>rfl
end
end Go.AI
namespace Go.AI
def JA(P:Program)(g:BinOp)(t:TypeId)(a b:AV)(d:Tmp)(K:Kt)(e:GO)(H:Fl):Prop:=KU P g t a b λv=>K ((d,v)::e) H
def p_(P:Program)(t:TypeId):Bool:=match P.underlying t with|some (.slice _)=>true|_=>false
def vw(P:Program)(g:BinOp)(t:TypeId)(a:AV)(d:Tmp)(K:Kt)(e:GO)(H:Fl):Prop:=Of P g t a λv=>K ((d,v)::e) H
def AI7(P:Program)(g:BinOp)(t:TypeId)(z:Bool)(a b:AV)(d:Tmp)(K:Kt)(e:GO)(H:Fl):Prop :=
 match z with
 |true=>vw P g t a d K e H
 |false=>JA P g t a b d K e H
def Mh(P:Program)(u:Option TypeDesc)(x:AV)(i:AV):Option AV :=
 match i with
 |.int _ i=>match u,x with
  |some (.slice e),.sl _ r=>if 0<=i then(r[i.toNat]?).bind λv=>if v.cells.length=P.cellsOf e/\0<P.cellsOf e then some (.cptr v.cells 0)else none else none
  |some (.slice e),.msl j g o p=>if 0<=i/\i<o/\p=P.cellsOf e/\0<p then some (.ptr j (g+i.toNat*p))else none
  |some (.array n e),.ptr j g=>if 0<=i/\i<n/\0<P.cellsOf e then some (.ptr j (g+i.toNat*P.cellsOf e))else none
  |some (.array n e),.cptr t g=>if 0<=i/\i<n/\0<P.cellsOf e then some (.cptr t (g+i.toNat*P.cellsOf e))else none
  |_,_=>none
 |_=>none
def We(P:Program)(u:Option TypeDesc)(x:AV)(i:AV):Option AV :=
 match i with
 |.int _ i=>match u,x with
  |some .string,.str s=>if 0<=i/\i<s.size then some (.int .u8 ((s.data[i.toNat]?).getD 0).toNat)else none
  |some (.array n e),.agg g=>if 0<=i/\i<n/\0<P.cellsOf e then Mb P e g (i.toNat*P.cellsOf e)else none
  |_,_=>none
 |_=>none
def l_(P:Program)(g:TypeId)(mt i:Bool)(H:Fl)(a:AV)(j:List AV)(d:Tmp)(K:Kt)(e:GO):Prop:=O4 P g mt i H a j λv o=>K ((d,v)::e) o
def AkB(P:Program)(i:TypeId)(mt j:Bool)(g:Option (List AV))(a:AV)(d:Tmp)(K:Kt)(e:GO)(H:Fl):Prop :=
 match g with
 |some g=>l_ P i mt j H a g d K e
 |none=>False
def AaY(P:Program)(mt i j:Bool)(t:TypeId)(o:List AV)(d:Tmp)(K:Kt)(e:GO)(H:Fl):Prop :=
 match o with
 |[a,b]=>match P.underlying t with
  |some (.slice g)=>0<P.cellsOf g/\HD P g=true/\AkB P g mt j (Um P g (mt||i) H b) a d K e H
  |_=>False
 |_=>False
def AGh(P:Program)(f:FuncId)(g:List AV)(d:Option Tmp)(K:Kt)(e:GO)(H:Fl):Prop:=∃v ext,Fw P f g H (λi j=>i=v/\j=H++ext)/\K (put d v e) (H++ext)
def sG(P:Program)(f:FuncId)(g:List AV)(d:Option Tmp)(K:Kt)(e:GO)(H:Fl):Prop:=∃v,(QT P f g H v\/Rc P f g H v)/\K (put d v e) H
def O6(P:Program)(o:Nat)(L:Ep)(g:List AV)(d:Option Tmp)(K:Kt)(e:GO)(H:Fl):Prop:=OH P o L g H λv i=>K (put d v e) i
def O6.intro{P:Program}{o:Nat}{L:Ep}{g:List AV}{d:Option Tmp}{K:Kt}{e:GO}{H:Fl}{R:AV->Fl->Prop}(j:OH P o L g H R)(p:∀v i,R v i->K (put d v e) i):O6 P o L g d K e H:=j.mono p
def AKH(P:Program)(i mt:Bool)(j:List AV)(d:Option Tmp)(K:Kt)(e:GO)(H:Fl):Prop :=
 match j with
 | .fn (.func f) first g::args=>match i with
  |true=>match mt with
   |true=>sG P f (first.map AV.borrow++args++g.map AV.borrow) d K e H
   |false=>Ye P f (first.map AV.borrow++args++g.map AV.borrow) d K e H
  |false=>match mt with
   |true=>AGh P f (first.map AV.borrow++args++g.map AV.borrow) d K e H
   |false=>GQ P f (first.map AV.borrow++args++g.map AV.borrow) d K e H
 |.yld o L::args=>(i=false/\mt=false)/\O6 P o L args d K e H
 |_=>False
def Ts(P:Program)(t:TypeId)(is:List Nat)(g:List AV):Option AV :=
 match P.underlying t with
 |some (.struct j)=>if N' P j=true then match F8 P t with
  |some (.agg z)=>(Iz ((Jd P j)[·]?) z is g).map .agg
  |_=>none
  else none
 |some (.array _ e)=>if(P.info? e).isSome=true then match F8 P t with
  |some (.agg z)=>(Iz (λi=>some (i*P.cellsOf e,P.cellsOf e)) z is g).map .agg
  |_=>none
  else none
 |_=>none
def ALc(P:Program)(mt:Bool)(t g:Nat)(is:List Nat)(j:List AV)(d:Tmp)(K:Kt)(e:GO)(H:Fl):Prop :=
 match P.underlying t with
 | some (.slice i)=>0<P.cellsOf i/\g*P.cellsOf i<=16777216/\is=An g/\(∀ v∈j,v.isVal=true/\v.cells.length=P.cellsOf i)/\HD P i=true /\
   match mt with
   |true=>K ((d,.msl H.length 0 g (P.cellsOf i))::e) (H++[some (Hx (j.map AV.borrow))])
   |false=>K ((d,.sl (some (P.cellsOf i)) (j.map AV.borrow))::e) H
 |_=>False
def ACX(P:Program)(mt:Bool)(t:TypeId)(i j o:Bool)(p:List AV)(d:Tmp)(K:Kt)(e:GO)(H:Fl):Prop :=
 match p with
 | x::rest=>match Q2 i j o rest with
  |some (l,g,m)=>match mt with
   |true=>K1 P t x l g m H λv=>K ((d,v)::e) H
   |false=>O2 P t x l g m λv=>K ((d,v)::e) H
  |none=>False
 |[]=>False
def mmK(g:Bool)(i:List AV)(d:Tmp)(K:Kt)(e:GO)(H:Fl):Prop :=
 match i with
 |[.int k a,.int j b]=>k=j/\K ((d,.int k (if g then(if b<a then b else a)else(if b>a then b else a)))::e) H
 |_=>False
def AKF(P:Program)(i j:Option TypeDesc)(x:AV)(d:Tmp)(K:Kt)(e:GO)(H:Fl):Prop :=
 match i,j,x with
 |some _,some (.int k),.int _ m=>K ((d,.int k (k.wrap m))::e) H
 |some .string,some .string,.str s=>K ((d,.str s)::e) H
 |some (.slice o),some .string,.sl _ g=>P.underlying o=some (.int .u8)/\(∀x∈g,P5 x=true)/\K ((d,.str (Q1 g))::e) H
 |_,_,_=>False
def mkK(P:Program)(t:TypeId)(i:List AV)(d:Tmp)(K:Kt)(e:GO)(H:Fl):Prop :=
 match i with
 | [.int _ n,.int _ c]=>match P.underlying t with
  | some (.slice g)=>n=c/\0<=n/\n*P.bytesOf g<=140737488355328/\n<=9223372036854775807/\(P.info? g).isSome=true /\ ∃ z,F8 P g=some z/\z.cells.length=P.cellsOf g/\0<P.cellsOf g /\
    K ((d,.msl H.length 0 n.toNat (P.cellsOf g))::e) (H++[some (As n.toNat z.cells).flatten])
  |_=>False
 |_=>False
section
variable{P:Program}{n:Nat}{h:Eo}{ops:Array Oper}{K:Kt}{p:Tmp×AV}{e:GO}{H:Fl}{d:Tmp}{ty:TypeId}{ps:String}{af:Array Edge}{Q:Exit->Kt}
def ABR(g:BinOp)(t i:TypeId)(x y:Operand):JK P n h ops ⟨some d,.binOp g t x y i,ty,ps,af,none⟩ K (p::e) H =
  (d<n/\AI7 P g t (Le y) (Hh P none (p::e) x).borrow (Hh P none (p::e) y).borrow d K (p::e) H):=by
 rw[Ga _ rfl];simp only[GU,IA,Op.operands,Gk,AW,Ah,GA,put,HO,AI7];cases Le y<;>rfl
def AaX{g:BinOp}{t:TypeId}{a b:AV}:AI7 P g t false a b d K e H=JA P g t a b d K e H:=AH rfl rfl
def AaW{g:BinOp}{t:TypeId}{a b:AV}:AI7 P g t true a b d K e H=vw P g t a d K e H:=AH rfl rfl
def jT(t:Tmp):Le (.tmp t)=false:=rfl
def jW(k:IntKind)(m:Int):Le (.const (.int k m))=false:=rfl
def jU(s:ByteArray):Le (.const (.string s))=false:=rfl
def jV:Le (.const (.slice none 0 0))=true:=rfl
section
variable{t:TypeId}
def tU(g:p_ P t=true): ∃e,P.underlying t=some (.slice e):=by
 unfold p_ at g;split at g
 ·exact⟨_,‹_›⟩
 ·cases g
def cZ{o:Option Nat}(g:p_ P t=true):vw P .eql t (.sl o []) d K e H=(K ((d,.bool true)::e) H/\K ((d,.bool false)::e) H):=by
 obtain⟨j,i⟩:=tU g;simp[vw,Of,i]
def ZL{o:Option Nat}{x:AV}{g:List AV}(i:p_ P t=true):vw P .eql t (.sl o (x::g)) d K e H=K ((d,.bool false)::e) H:=by
 obtain⟨p,j⟩:=tU i;simp[vw,Of,j]
end
def AGI(t:TypeId)(k g:IntKind)(x y:Int):K3 P t (.int k x) (.int g y)=none:=by
 unfold K3;split<;>simp_all
def AGH(t:TypeId)(x y:ByteArray):K3 P t (.str x) (.str y)=none:=by
 unfold K3;split<;>simp_all
def Hw{g:BinOp}{t:TypeId}{k i:IntKind}{x y:Int}:JA P g t (.int k x) (.int i y) d K e H=K5 g (.int k x) (.int i y) λv=>K ((d,v)::e) H:=by
 unfold JA KU;rw[AGI];cases g<;>rfl
def QJ{g:BinOp}{t:TypeId}{x y:ByteArray}:JA P g t (.str x) (.str y) d K e H=K5 g (.str x) (.str y) λv=>K ((d,v)::e) H:=by
 unfold JA KU;rw[AGH];cases g<;>rfl
section
variable{t:TypeId}{k:IntKind}{x y:Int}
def AFz:JA P .add t (.int k x) (.int k y) d K e H=K ((d,.int k (k.wrap (x+y)))::e) H:=by rw[Hw];simp[K5]
def AFp:JA P .sub t (.int k x) (.int k y) d K e H=K ((d,.int k (k.wrap (x - y)))::e) H:=by rw[Hw];simp[K5]
def AFt:JA P .mul t (.int k x) (.int k y) d K e H=K ((d,.int k (k.wrap (x*y)))::e) H:=by rw[Hw];simp[K5]
def AFr:JA P .quo t (.int k x) (.int k y) d K e H=(y≠0/\K ((d,.int k (k.wrap (x.tdiv y)))::e) H):=by rw[Hw];simp[K5]
def AFq:JA P .rem t (.int k x) (.int k y) d K e H=(y≠0/\K ((d,.int k (x.tmod y))::e) H):=by rw[Hw];simp[K5]
def AFy:JA P .eql t (.int k x) (.int k y) d K e H=K ((d,.bool (x==y))::e) H:=by rw[Hw];simp[K5]
def AFs:JA P .neq t (.int k x) (.int k y) d K e H=K ((d,.bool (x !=y))::e) H:=by rw[Hw];simp[K5]
def AFu:JA P .lss t (.int k x) (.int k y) d K e H=K ((d,.bool (decide (x<y)))::e) H:=by rw[Hw];simp[K5]
def AFv:JA P .leq t (.int k x) (.int k y) d K e H=K ((d,.bool (decide (x<=y)))::e) H:=by rw[Hw];simp[K5]
def AFw:JA P .gtr t (.int k x) (.int k y) d K e H=K ((d,.bool (decide (y<x)))::e) H:=by rw[Hw];simp[K5]
def AFx:JA P .geq t (.int k x) (.int k y) d K e H=K ((d,.bool (decide (y<=x)))::e) H:=by rw[Hw];simp[K5]
end
def AA7{t:TypeId}{x y:ByteArray}:JA P .eql t (.str x) (.str y) d K e H=K ((d,.bool (x.toList==y.toList))::e) H:=by rw[QJ];simp[K5]
def AA6{t:TypeId}{x y:ByteArray}:JA P .neq t (.str x) (.str y) d K e H=K ((d,.bool !(x.toList==y.toList))::e) H:=by rw[QJ];simp[K5]
def Xg(P:Program)(t:TypeId):Bool:=match P.underlying t with|some .bool=>true|_=>false
def AA'{t:TypeId}{x y:Bool}(g:Xg P t=true):JA P .eql t (.bool x) (.bool y) d K e H=K ((d,.bool (x==y))::e) H:=by
 unfold Xg at g;split at g
 ·rename_i i;simp[JA,KU,K3,i]
 ·cases g
def AA_{t:TypeId}{x y:Bool}(g:Xg P t=true):JA P .neq t (.bool x) (.bool y) d K e H=K ((d,.bool !(x==y))::e) H:=by
 unfold Xg at g;split at g
 ·rename_i i;simp[JA,KU,K3,i]
 ·cases g
def Zf(t:TypeId)(x i:Operand):JK P n h ops ⟨some d,.indexAddr t x i,ty,ps,af,none⟩ K (p::e) H =
  (d<n/\bnd (Mh P (P.underlying t) (Hh P none (p::e) x).borrow (Hh P none (p::e) i).borrow) d K (p::e) H):=by
 rw[Ga _ rfl];simp only[GU,IA,Op.operands,Gk,AW,Ah,put,HO];congr 1;generalize (Hh P none (p::e) x).borrow=a;generalize (Hh P none (p::e) i).borrow=b;unfold GA;dsimp only;cases b with
 | int k i =>
  dsimp only[Mh];cases hu:P.underlying t with
  |none=>rfl
  | some T=>cases T with
   | slice r=>cases a with
    | sl U V =>
     dsimp only;by_cases O:0<=i
     ·simp only[O,true_and,if_true];cases hi:V[i.toNat]? with
      |none=>simp[bnd]
      | some v =>
       by_cases g:v.cells.length=P.cellsOf r/\0<P.cellsOf r
       ·obtain⟨j,o⟩:=g;simp only[Bi,j,o,and_self,if_true,bnd];simp[j,o]
       ·simp only[Bi,iN g,bnd,eq_iff_iff,iff_false];rintro ⟨v',hv,j,o,_⟩;cases hv;exact g ⟨j,o⟩
     ·simp[O,bnd]
    | msl ob C J R =>
     dsimp only;by_cases g:0<=i/\i<J/\R=P.cellsOf r/\0<R
     ·rw[iP g];simp only[g.1,g.2.1,g.2.2.1,g.2.2.2,true_and,bnd];have:=g.2.2.2;rw[g.2.2.1]at this;simp[this]
     ·rw[iN g];simp only[bnd,eq_iff_iff,iff_false];rintro ⟨j,o,I,h4,_⟩;exact g ⟨j,o,I,h4⟩
    |_=>rfl
   | array m r=>cases a with
    | ptr ob C =>
     dsimp only;by_cases g:0<=i/\i<m/\0<P.cellsOf r
     ·rw[iP g];simp only[g.1,g.2.1,g.2.2,true_and,bnd]
     ·rw[iN g];simp only[bnd,eq_iff_iff,iff_false];rintro ⟨j,o,I,_⟩;exact g ⟨j,o,I⟩
    | cptr cs C =>
     dsimp only;by_cases g:0<=i/\i<m/\0<P.cellsOf r
     ·rw[iP g];simp only[g.1,g.2.1,g.2.2,true_and,bnd]
     ·rw[iN g];simp only[bnd,eq_iff_iff,iff_false];rintro ⟨j,o,I,_⟩;exact g ⟨j,o,I⟩
    |_=>rfl
   |_=>cases a<;>rfl
 |_=>rfl
def ABM(t:TypeId)(x i:Operand):JK P n h ops ⟨some d,.index t x i,ty,ps,af,none⟩ K (p::e) H =
  (d<n/\bnd (We P (P.underlying t) (Hh P none (p::e) x).borrow (Hh P none (p::e) i).borrow) d K (p::e) H):=by
 rw[Ga _ rfl];simp only[GU,IA,Op.operands,Gk,AW,Ah,put,HO];congr 1;generalize (Hh P none (p::e) x).borrow=a;generalize (Hh P none (p::e) i).borrow=b;unfold GA;dsimp only;cases b with
 | int k i =>
  dsimp only[We];cases O:P.underlying t with
  |none=>rfl
  | some C=>cases C with
   | string=>cases a with
    | str s =>
     dsimp only;by_cases g:0<=i/\i<s.size
     ·rw[iP g];simp only[g.1,g.2,true_and,bnd]
     ·rw[iN g];simp only[bnd,eq_iff_iff,iff_false];rintro ⟨j,o,_⟩;exact g ⟨j,o⟩
    |_=>rfl
   | array m r=>cases a with
    | agg I =>
     dsimp only;by_cases g:0<=i/\i<m/\0<P.cellsOf r
     ·rw[iP g];simp only[g.1,g.2.1,g.2.2,true_and];cases Mb P r I (i.toNat*P.cellsOf r)<;>simp[bnd]
     ·rw[iN g];simp only[bnd,eq_iff_iff,iff_false];rintro ⟨j,o,J,_⟩;exact g ⟨j,o,J⟩
    |_=>rfl
   |_=>cases a<;>rfl
 |_=>rfl
def Hf(g:Array Operand):((#[]:Array Operand)++g).toList=g.toList:=F3
def rl(x y:Operand)(t:TypeId):JK P n h ops ⟨some d,.call ⟨.builtin .append,#[x,y],#[t,t]⟩,ty,ps,af,none⟩ K (p::e) H =
  (d<n/\AaY P (h.mt.contains d) (h.tk.contains d) (h.pc.contains d) t (J1 P [x,y] (p::e)).1 d K (J1 P [x,y] (p::e)).2 H):=by
 rw[Ga _ rfl];simp only[GU,IA,Op.operands,Call.operands,Hf,OB,put,HO];congr 1;generalize j:J1 P [x,y] (p::e)=r;unfold GA AaY;dsimp only;generalize r.1=g;cases g with
 |nil=>rfl
 | cons v g=>cases g with
  |nil=>rfl
  | cons o g=>cases g with
   |nil =>
    dsimp only;rw[iP rfl];cases P.underlying t with
    |none=>rfl
    |some i=>cases i<;>rfl
   |cons C g=>rfl
def ABC(g:TypeId)(mt i:Bool)(j:List AV)(a:AV):AkB P g mt i (some j) a d K e H=l_ P g mt i H a j d K e:=AH rfl rfl
def AI'(i:TypeId)(rd:Bool)(o:Option Nat)(g:List AV):Um P i rd H (.sl o g)=some g:=rfl
def lz{el:TypeId}{i off len sz:Nat}{g:List AV}(j:H[i]? =some (some g))(o:off+len*sz<=g.length)(p:sz=P.cellsOf el)(r:TR P el=true\/sz=1):Um P el true H (.msl i off len sz)=some (IX (TR P el) sz len ((g.drop off).map borrow1)):=by
 simp only[Um,j];rw[iP ⟨o,p,r⟩]
def AJF(g:TypeId)(p:Bool)(o:Option Nat)(j i:List AV):l_ P g false p H (.sl o j) i d K e=((∀x∈i,x.cells.length=P.cellsOf g)/\o=some (P.cellsOf g)/\(j.length+i.length)*P.bytesOf g<=140737488355328/\j.length+i.length<=9223372036854775807/\K ((d,.sl (bif p then none else some (P.cellsOf g)) (j++i))::e) H):=AH rfl rfl
def ACg(o:Option (Option (List AV)))(F:List AV->Prop):Prop:=match o with
 |some (some g)=>F g
 |_=>False
def vC(g:List AV)(F:List AV->Prop):ACg (some (some g)) F=F g:=AH rfl rfl
def AF8(j:TypeId)(C:Bool)(r o g t:Nat)(i:List AV):l_ P j true C H (.msl r o g t) i d K e=((∀x∈i,x.cells.length=P.cellsOf j)/\o=0/\t=P.cellsOf j/\(g+i.length)*P.bytesOf j<=140737488355328/\g+i.length<=9223372036854775807 /\
  ACg H[r]? λp=>p.length=g*t/\p.map borrow1=p/\K ((d,.msl H.length 0 (g+i.length) (P.cellsOf j))::e) (H.set r none++[some (p++(Hx i).map borrow1)])):=by
 unfold l_ O4 ACg;rfl
def ABG(j:TypeId)(C:Bool)(r o g t c:Nat)(i:List AV):l_ P j true C H (.mslc r o g t c) i d K e=((∀x∈i,x.cells.length=P.cellsOf j)/\o=0/\t=P.cellsOf j/\(g+i.length)*P.bytesOf j<=140737488355328/\g+i.length<=9223372036854775807 /\
  ACg H[r]? λp=>p.length=g*t/\p.map borrow1=p/\K ((d,.msl H.length 0 (g+i.length) (P.cellsOf j))::e) (H.set r none++[some (p++(Hx i).map borrow1)])):=by
 unfold l_ O4 ACg;rfl
def AF7(i:TypeId)(j:Bool)(g:List AV):l_ P i true j H (.sl (some 0) []) g d K e=((∀x∈g,x.cells.length=P.cellsOf i)/\0<g.length/\g.length*P.bytesOf i<=140737488355328/\g.length<=9223372036854775807/\K ((d,.msl H.length 0 g.length (P.cellsOf i))::e) (H++[some ((Hx g).map borrow1)])):=AH rfl rfl
def AGE(f:Operand)(g:Array Operand)(j:Array TypeId)(i:Option Tmp):JK P n h ops ⟨i,.call ⟨.value f,g,j⟩,ty,ps,af,none⟩ K (p::e) H =
  (HO n i/\AKH P (i.any h.pc.contains) (i.any h.mt.contains) (J1 P (f::g.toList) (p::e)).1 i K (J1 P (f::g.toList) (p::e)).2 H):=by
 rw[Ga _ rfl];have o:(#[f]++g:Array Operand).toList=f::g.toList:=F3;simp only[GU,IA,Op.operands,Call.operands,o,OB];congr 1
def eD(fn:Fn)(g i:Array Operand):JK P n h ops ⟨some d,.makeFunc fn g i,ty,ps,af,none⟩ K (p::e) H =
  (d<n/\K ((d,.fn fn (g.toList.map λx=>(Hh P none (p::e) x).borrow) (i.toList.map λx=>(Hh P none (p::e) x).borrow))::p::e) H):=by
 rw[Ga _ rfl];simp only[GU,IA,Op.operands,DE,Gk,List.map_append,GA,put,HO];congr 3;rw[show g.size=(g.toList.map λx=>(Hh P none (p::e) x).borrow).length by simp,List.take_left,List.drop_left]
def AEw{z:List AV}{f:List AV->Option (List AV)}:(∃g i,some (AV.agg z)=some (AV.agg g)/\f g=some i/\K ((d,.agg i)::e) H)=bnd ((f z).map .agg) d K e H:=by
 cases j:f z<;>simp[bnd,j]
def ABQ(t:TypeId)(g:Array (Nat×Operand)):JK P n h ops ⟨some d,.build t g,ty,ps,af,none⟩ K (p::e) H =
  (d<n/\bnd (Ts P t (g.toList.map (·.1)) (J1 P (g.toList.map (·.2)) (p::e)).1) d K (J1 P (g.toList.map (·.2)) (p::e)).2 H):=by
 rw[Ga _ rfl];simp only[GU,IA,Op.operands,OB,put,HO];congr 1;generalize I:J1 P (g.toList.map (·.2)) (p::e)=r;unfold GA Ts;dsimp only;cases P.underlying t with
 |none=>rfl
 | some j=>cases j with
  | struct o =>
   dsimp only;by_cases i:N' P o=true
   ·simp only[i,true_and,if_true];cases F8 P t with
    |none=>simp[bnd]
    | some z=>cases z with
     |agg z =>
      exact AEw
     |_=>simp[bnd]
   ·simp[i,bnd]
  | array m C =>
   dsimp only;by_cases i:(P.info? C).isSome=true
   ·simp only[i,true_and,if_true];cases F8 P t with
    |none=>simp[bnd]
    | some z=>cases z with
     |agg z =>
      exact AEw
     |_=>simp[bnd]
   ·simp[i,bnd]
  |_=>rfl
def YP(t g:Nat)(i:Array (Nat×Operand)):JK P n h ops ⟨some d,.buildSlice t g i,ty,ps,af,none⟩ K (p::e) H =
  (d<n/\ALc P (h.mt.contains d) t g (i.toList.map (·.1)) (i.toList.map λq=>(Hh P none (p::e) q.2).borrow) d K (p::e) H):=by
 rw[Ga _ rfl];simp only[GU,IA,Op.operands,Gk,put,HO];congr 1;unfold GA ALc;dsimp only;rw[show((i.toList.map (·.2)).toArray.toList.map λx=>(Hh P none (p::e) x).borrow)=i.toList.map λq=>(Hh P none (p::e) q.2).borrow by simp];cases P.underlying t with
 |none=>rfl
 |some j=>cases j<;>rfl
def ABK(t:TypeId)(x:Operand)(g i j:Option Operand):JK P n h ops ⟨some d,.slice t x g i j,ty,ps,af,none⟩ K (p::e) H =
  (d<n/\ACX P (h.mt.contains d) t g.isSome i.isSome j.isSome (J1 P (x::(g.toList++i.toList++j.toList)) (p::e)).1 d K (J1 P (x::(g.toList++i.toList++j.toList)) (p::e)).2 H):=by
 rw[Ga _ rfl];have o:(#[x]++g.toArray++i.toArray++j.toArray:Array Operand).toList=x::(g.toList++i.toList++j.toList):=by
  cases g<;>cases i<;>cases j<;>simp
 simp only[GU,IA,Op.operands,o,OB,put,HO];congr 1
def AJG(x y:Operand)(g:Array TypeId):JK P n h ops ⟨some d,.call ⟨.builtin .min,#[x,y],g⟩,ty,ps,af,none⟩ K (p::e) H =
  (d<n/\mmK true [(Hh P none (p::e) x).borrow,(Hh P none (p::e) y).borrow] d K (p::e) H):=by
 rw[Ga _ rfl];simp only[GU,IA,Op.operands,Call.operands,Hf,Gk,AW,Ah,put,HO];congr 1
def AJH(x y:Operand)(g:Array TypeId):JK P n h ops ⟨some d,.call ⟨.builtin .max,#[x,y],g⟩,ty,ps,af,none⟩ K (p::e) H =
  (d<n/\mmK false [(Hh P none (p::e) x).borrow,(Hh P none (p::e) y).borrow] d K (p::e) H):=by
 rw[Ga _ rfl];simp only[GU,IA,Op.operands,Call.operands,Hf,Gk,AW,Ah,put,HO];congr 1
def AHt(k:IntKind)(a b:Int):mmK true [.int k a,.int k b] d K e H=K ((d,.int k (if b<a then b else a))::e) H:=by simp[mmK]
def AHu(k:IntKind)(a b:Int):mmK false [.int k a,.int k b] d K e H=K ((d,.int k (if b>a then b else a))::e) H:=by simp[mmK]
def mE(s t:TypeId)(x:Operand):JK P n h ops ⟨some d,.convert s t x,ty,ps,af,none⟩ K (p::e) H =
  (d<n/\AKF P (P.underlying s) (P.underlying t) (Hh P none (p::e) x).borrow d K (p::e) H):=by
 rw[Ga _ rfl];simp only[GU,IA,Op.operands,Gk,AW,Ah,put,HO];congr 1
def Ze(t:TypeId)(x y:Operand):JK P n h ops ⟨some d,.makeSlice t x y,ty,ps,af,none⟩ K (p::e) H =
  (d<n/\mkK P t [(Hh P none (p::e) x).borrow,(Hh P none (p::e) y).borrow] d K (p::e) H):=by
 rw[Ga _ rfl];simp only[GU,IA,Op.operands,Gk,AW,Ah,put,HO];congr 1;unfold GA mkK;dsimp only;cases(Hh P none (p::e) x).borrow<;>cases(Hh P none (p::e) y).borrow<;>rfl
def Aad(P:Program)(mt:Bool)(g:TypeId)(d:Tmp)(K:Kt)(e:GO)(H:Fl):Prop:=match mt with
 |true=>ADi P g=true/\K ((d,.ptr H.length 0)::e) (H++[some [.sl (some 0) []]])
 |false => ∃z,F8 P g=some z/\K ((d,.ptr H.length 0)::e) (H++[some z.cells])
def Aac(g:TypeId):Aad P false g d K e H = ∃z,F8 P g=some z/\K ((d,.ptr H.length 0)::e) (H++[some z.cells]):=AH rfl rfl
def Aab(g:TypeId):Aad P true g d K e H=(ADi P g=true/\K ((d,.ptr H.length 0)::e) (H++[some [.sl (some 0) []]])):=AH rfl rfl
def ABS(g:TypeId):JK P n h ops ⟨some d,.alloc g,ty,ps,af,none⟩ K (p::e) H =
  (d<n/\Aad P (h.mt.contains d) g d K (p::e) H):=by
 rw[Ga _ rfl];have i:(#[]:Array Operand).toList=[]:=rfl;simp only[GU,IA,Op.operands,i,Gk,Ah,put,HO];rfl
def AIg(P:Program)(t:TypeId)(x:AV)(K:Kt)(e:GO)(H:Fl):Prop :=
 match x with
 | .msl j i g o=>match P.underlying t with
  |some (.slice r)=>match H[j]? with
   |some (some p) => ∃z,F8 P r=some z/\o=z.cells.length/\0<g/\i+g*o<=p.length/\K e (H.set j (some (splice p i (HC z g))))
   |_=>False
  |_=>False
 |_=>False
def ABP(x:Operand)(t:TypeId):JK P n h ops ⟨none,.call ⟨.builtin .clear,#[x],#[t]⟩,ty,ps,af,none⟩ K (p::e) H =
  AIg P t (Hh P none (p::e) x).borrow K (p::e) H:=by
 rw[Ga _ rfl];simp only[GU,IA,Op.operands,Call.operands,Hf,Gk,AW,Ah,put,HO];rw[true_and];unfold GA AIg;dsimp only;generalize (Hh P none (p::e) x).borrow=v;cases v<;>rfl
def AIj(P:Program)(t:TypeId)(x:AV)(d:Tmp)(K:Kt)(e:GO)(H:Fl):Prop :=
 match x with
 |.mslc _ _ _ _ c=>match P.underlying t with
  |some (.slice _)=>K ((d,.int .i64 c)::e) H
  |_=>False
 |_=>False
def AJJ(x:Operand)(t:TypeId):JK P n h ops ⟨some d,.call ⟨.builtin .cap,#[x],#[t]⟩,ty,ps,af,none⟩ K (p::e) H =
  (d<n/\AIj P t (Hh P none (p::e) x).borrow d K (p::e) H):=by
 rw[Ga _ rfl];simp only[GU,IA,Op.operands,Call.operands,Hf,Gk,AW,Ah,put,HO];congr 1;unfold GA AIj;dsimp only;generalize (Hh P none (p::e) x).borrow=v;cases v<;>rfl
def AIb(P:Program)(t:TypeId)(a b:AV)(d:Tmp)(K:Kt)(e:GO)(H:Fl):Prop:=VQ P t a b H λv g=>K ((d,v)::e) g
def AGD(x y:Operand)(t g:TypeId):JK P n h ops ⟨some d,.call ⟨.builtin .copy,#[x,y],#[t,g]⟩,ty,ps,af,none⟩ K (p::e) H =
  (d<n/\AIb P t (Hh P none (p::e) x).borrow (Hh P none (p::e) y).borrow d K (p::e) H):=by
 rw[Ga _ rfl];simp only[GU,IA,Op.operands,Call.operands,Hf,Gk,AW,Ah,put,HO];congr 1
def AJE(P:Program)(t g:TypeId)(mt:Bool)(i:List AV)(d:Tmp)(K:Kt)(e:GO)(H:Fl):Prop :=
 match i with
 |[a,b]=>apz P t g mt a b H λv j=>K ((d,v)::e) j
 |_=>False
def mF(x y:Operand)(t i:TypeId)(j:(t==i)=false):JK P n h ops ⟨some d,.call ⟨.builtin .append,#[x,y],#[t,i]⟩,ty,ps,af,none⟩ K (p::e) H =
  (d<n/\AJE P t i (h.mt.contains d) (J1 P [x,y] (p::e)).1 d K (J1 P [x,y] (p::e)).2 H):=by
 rw[Ga _ rfl];simp only[GU,IA,Op.operands,Call.operands,Hf,OB,put,HO];congr 1;generalize o:J1 P [x,y] (p::e)=r;unfold GA AJE;dsimp only;generalize r.1=g;cases g with
 |nil=>rfl
 | cons v g=>cases g with
  |nil=>rfl
  | cons C g=>cases g with
   |nil =>
    dsimp only;rw[iN (by simpa using j)];rfl
   |cons I g=>rfl
def xK{f:FuncId}{g:List AV}{i:Option Tmp}{v:AV}(j:Rc P f g H v)(o:K (put i v e) H):sG P f g i K e H:=⟨v,.inr j,o⟩
def AFA{t p:TypeId}{a b:AV}{C g i r m:Nat}{I:Bool}{j X:List AV}(J:P.underlying t=some (.slice p))(o:qh a=some (C,g,i,r,I))(O:ACY b=some m)(R:H[C]? =some (some j))(T:r=P.cellsOf p)
  (U:(P.info? p).isSome=true)(V:j.map borrow1=j)(h4:g<=j.length)(h5:I=true\/g+Nat.min m i*r<=j.length)(hs:lP P p H (Nat.min m i) b=some X)
  (hk:K ((d,.int .i64 (Nat.min m i:Nat))::e) (H.set C (some (j.take g++X.map borrow1++j.drop (g+Nat.min m i*r))))):AIb P t a b d K e H:=by
 unfold AIb VQ;simp only[J,o,O,R,hs];exact⟨⟨T,U,V,h4,h5⟩,hk⟩
end
end Go.AI
namespace Go.AI
attribute [go_sem] Option.getD_some Option.getD_none true_and and_true false_and and_false
 dT dF Av List.any_nil Bool.or_false Bool.or_true Bool.true_or BC Bo Ba Bool.and_false Bool.false_and Ax Ay
 List.contains_cons List.contains_nil cond_true cond_false List.nil_append AG AC AW Ah Bool.or_self Bool.and_self Bl List.getElem?_cons_succ A7
 Bi Option.bind_none Bb Option.map_none Option.some.injEq List.set_cons_zero List.set_cons_succ List.cons_append List.append_assoc DH Option.any_none
 Ai Int.toNat_natCast CP List.take_zero DJ BE BA List.flatMap_nil beq_iff_eq bne_iff_ne ne_eq not_true_eq_false not_false_eq_true
 List.getElem?_nil Option.isSome_some Option.isSome_none Option.toList_some Option.toList_none if_true if_false B0 AX BG
 Nat.mul_zero Nat.mul_one Dg Bx Gw
def Ja(P:Program)(t:TypeId):Option (Option Nat) :=
 match P.underlying t with
 |some (.struct _)=>some (some (P.cellsOf t))
 |some (.array _ _)=>some (some (P.cellsOf t))
 |some _=>some none
 |none=>none
def ldx(k:Option (Option Nat))(i:List AV)(g:Nat):Option AV :=
 match k with
 |some (some n)=>if g+n<=i.length then some (.agg ((i.drop g).take n))else none
 |some none=>i[g]?
 |none=>none
def Fv(P:Program)(s f:Nat):Option (TypeId×Nat):=(fieldAt P s f).map λg=>(g.type,g.offset)
def qW(P:Program)(g:Option (TypeId×Nat))(x:AV):Option AV :=
 match g with
 |some (t,o)=>if 0<P.cellsOf t then ul x o else none
 |none=>none
def qV(P:Program)(g:Option (TypeId×Nat))(x:AV):Option AV :=
 match g,x with
 |some (t,o),.agg i=>ldx (Ja P t) i o
 |_,_=>none
inductive BK where
 |none
 |struct (ps:List (Nat×Nat))
 |array (c:Nat)
def Ji(P:Program)(t:TypeId):BK :=
 match P.underlying t with
 |some (.struct g)=>if N' P g=true then .struct (Jd P g).toList else .none
 |some (.array _ e)=>if(P.info? e).isSome=true then .array (P.cellsOf e)else .none
 |_ => .none
def vb(k:BK)(z:Option AV)(is:List Nat)(g:List AV):Option AV :=
 match k,z with
 |.struct j,some (.agg z)=>(Iz (λi=>j[i]?) z is g).map .agg
 |.array c,some (.agg z)=>(Iz (λi=>some (i*c,c)) z is g).map .agg
 |_,_=>Option.none
section
variable{P:Program}
def ADv(t:TypeId)(i:List AV)(g:Nat):Mb P t i g=ldx (Ja P t) i g:=by
 unfold Mb ldx Ja;cases P.underlying t with
 |none=>rfl
 |some d=>cases d<;>rfl
def AHz(i:List AV)(g:Nat):ldx (some none) i g=i[g]?:=rfl
def ADu(n:Nat)(i:List AV)(g:Nat):ldx (some (some n)) i g=if g+n<=i.length then some (.agg ((i.drop g).take n))else none:=rfl
def up(s f:Nat)(x:AV):Tr P (fieldAt P s f) x=qW P (Fv P s f) x:=by
 unfold Tr qW Fv;cases fieldAt P s f<;>rfl
def kz(t o:Nat)(x:AV):qW P (some (t,o)) x=if 0<P.cellsOf t then ul x o else none:=rfl
def AB9(s f:Nat)(x:AV):aI P (fieldAt P s f) x=qV P (Fv P s f) x:=by
 unfold aI qV Fv;cases fieldAt P s f with
 |none=>rfl
 |some g=>cases x<;>first|rfl|exact ADv _ _ _
def ky(t o:Nat)(g:List AV):qV P (some (t,o)) (.agg g)=ldx (Ja P t) g o:=rfl
def AB'(a b k:Nat):ul (.ptr a b) k=some (.ptr a (b+k)):=rfl
def uj(g:List AV)(b k:Nat):ul (.cptr g b) k=some (.cptr g (b+k)):=rfl
def uq(t:TypeId)(is:List Nat)(i:List AV):Ts P t is i=vb (Ji P t) (F8 P t) is i:=by
 unfold Ts Ji;cases P.underlying t with
 |none=>rfl
 | some d=>cases d with
  | struct j =>
   dsimp only;by_cases g:N' P j=true
   ·rw[iP g,iP g];cases F8 P t with
    |none=>rfl
    |some z=>cases z<;>first|rfl|(dsimp only[vb];simp only[Af])
   ·rw[iN g,iN g];rfl
  | array m e =>
   dsimp only;by_cases g:(P.info? e).isSome=true
   ·rw[iP g,iP g];cases F8 P t with
    |none=>rfl
    |some z=>cases z<;>rfl
   ·rw[iN g,iN g];rfl
  |_=>rfl
def uh(g:List (Nat×Nat))(z:List AV)(is:List Nat)(j:List AV):vb (.struct g) (some (.agg z)) is j=(Iz (λi=>g[i]?) z is j).map .agg:=rfl
def AB6(c:Nat)(z:List AV)(is:List Nat)(g:List AV):vb (.array c) (some (.agg z)) is g=(Iz (λi=>some (i*c,c)) z is g).map .agg:=rfl
def qY(g:Nat->Option (Nat×Nat))(cells:List AV):Iz g cells [] []=some cells:=rfl
def lF(g:Nat->Option (Nat×Nat))(cells:List AV)(i:Nat)(is:List Nat)(v:AV)(o:List AV):Iz g cells (i::is) (v::o)=match g i with
  |some (j,size)=>if v.isVal=true/\v.cells.length=size/\j+size<=cells.length then Iz g (splice cells j v.cells) is o else none
  |none=>none:=rfl
def iA(a:AV)(g:List AV)(o:Nat)(i:List AV):splice (a::g) (o+1) i=a::splice g o i:=by
 unfold splice;rw[Nat.add_right_comm,CP,DJ];rfl
def iB{i g:List AV}(h:i.length=g.length):splice i 0 g=g:=by
 unfold splice;rw[AX,<- h,DK];simp
def G8(g i:List AV):List AV:=splice g 0 i
def h_{i g:List AV}:splice i 0 g=if i.length=g.length then g else G8 i g:=by
 by_cases h:i.length=g.length
 ·rw[iP h,iB h]
 ·rw[iN h];rfl
def uo{P:Program}{H:Fl}(j:Bool)(t:TypeId)(i g:Nat):aJ P j t (.ptr i g) H=match H[i]? with
  | some (some o)=>match Mb P t o g with
   |some v=>match j with
    |true=>if v.owned=true/\v.scalar=true then some (v,H.set i (some (splice o g (v.cells.map borrow1))))else none
    |false=>some (v.borrow,H)
   |none=>none
  |_=>none:=rfl
def ny{P:Program}{H:Fl}(j:Bool)(t:TypeId)(i:List AV)(g:Nat):aJ P j t (.cptr i g) H=match Mb P t i g with
  |some v=>some (v.borrow,H)
  |none=>none:=rfl
def nv{P:Program}{H:Fl}(t:TypeId)(i g:Nat)(v:AV):Wd P t (.ptr i g) v H=match H[i]? with
  |some (some j)=>if v.isVal=true/\v.cells.length=P.cellsOf t/\0<P.cellsOf t/\g+P.cellsOf t<=j.length then some (H.set i (some (splice j g v.cells)))else none
  |_=>none:=rfl
attribute [go_sem] stK ACB AB8 Pc ACC vUn Mh We Q2 AKF mkK sf AaY ALc ACX O2 K1 AKH
end
end Go.AI
namespace Go.AI
section
variable{P:Program}{F:Nat->Prop}{G:Gh}{w:World}
def Fw.gc{f:FuncId}{vs:List AV}{H:Fl}{R:AV->Fl->Prop}(O:∀v i,R v i->H.length<=i.length)
  (h:Fw P f vs H λv r => ∃i j,r=i++j/\v.bnd i.length=true/\TJ i/\R v i):Fw P f vs H R :=
 ⟨h.1,λF G w T t=>Calls.mono (h.2 F G w T t) λe w' U=>by
  obtain⟨u,rfl,v,r,C,⟨i,j,rfl,V,h2,I⟩,p,g⟩:=U;refine⟨u,rfl,v,i,C.cut i.length,I,p.cut V h2,g.size,⟨λo b J=>?_,g.keeps.shape,g.keeps.sp,g.keeps.safe⟩,g.kind,g.cells,g.io⟩;have hlt:o<H.length:=by rw[<- t.h.len];exact(AD.1 J).1
  have:=O v i I;show(C.obs.take i.length)[o]? =some b;rw[By Fj];exact g.keeps.obs o b J⟩
def CRel.lend{o:List AV}{H:Fl}{g:List Value}(h:En F G o H g w):En F G (o.map AV.borrow) H g w:=by
 refine⟨⟨by simpa using h.l.len,λi a u j r=>?_,λi a u j r=>?_⟩,h.h,λb=>?_⟩
 ·rw[Ac]at j;cases p:o[i]? with
  |none=>rw[p]at j;cases j
  |some x=>rw[p]at j;cases j;exact(h.l.rel i x u p r).borrow
 ·rw[Ac]at j;cases p:o[i]? with
  |none=>rw[p]at j;cases j
  |some x=>rw[p]at j;cases j;exact GC (HE _ _) F G w
 ·have C:Hm b (o.map AV.borrow) g=0:=by
   have:∀(l:List AV) (g:List Value),Hm b (l.map AV.borrow) g=0:=by
    intro l;induction l with
    |nil=>intro g;exact Gy b g
    |cons x I t =>
     intro g;cases g with
     |nil=>simp[Hm]
     |cons u g=>rw[AW,Fx,HE,t];rfl
   exact this o g
  have:=h.cnt b;omega
def Fw.lend{f:FuncId}{vs:List AV}{H:Fl}{R:AV->Fl->Prop}(h:Fw P f (vs.map AV.borrow) H R):Fw P f vs H R :=
 ⟨h.1,λF G w g i=>h.2 F G w g i.lend⟩
def K9.lend{f:FuncId}{g:List AV}{Q:AV->Prop}(h:K9 P f (g.map AV.borrow) Q):K9 P f g Q:=λH=>(h H).lend
def Fm.lend{f:FuncId}{g:List AV}{v:AV}(h:Fm P f (g.map AV.borrow) v):Fm P f g v:=λH=>(h H).lend
end
end Go.AI
namespace Go.AI
inductive Rd (P:Program):TypeId->AV->Prop where
 |bool {t:TypeId} (b:Bool) (h:P.underlying t=some .bool):Rd P t (.bool b)
 |int {t:TypeId} {k:IntKind} {n:Int} (h:P.underlying t=some (.int k)) (hw:k.min<=n/\n<=k.max):Rd P t (.int k n)
 |str {t:TypeId} {s:ByteArray} (h:P.underlying t=some .string) (hs:s.size<=reachBytes):Rd P t (.str s)
 |slice {t e:TypeId} {es:List AV} (h:P.underlying t=some (.slice e)) (hl:es.length<=maxLen) (hb:es.length*P.bytesOf e<=reachBytes) (he:∀x∈es,Rd P e x):Rd P t (.sl none es)
 | struct {t:TypeId} {fs:Array Field} {parts:List AV} (h:P.underlying t=some (.struct fs)) (hl:parts.length=fs.size)
   (hp:∀(i:Nat) (f:Field) (x:AV),fs[i]? =some f->parts[i]? =some x->Rd P f.type x):Rd P t (.agg (Hx parts))
 |array {t e:TypeId} {n:Nat} {parts:List AV} (h:P.underlying t=some (.array n e)) (hl:parts.length=n) (hp:∀x∈parts,Rd P e x):Rd P t (.agg (Hx parts))
def Kc(P:Program):Nat->List Field->Nat->Bool
 |off,[],g=>off==g
 |off,f::i,g=>f.offset==off&&Kc P (off+P.cellsOf f.type) i g
def ACG(P:Program)(S:List TypeId):Bool:=S.all λt=>match P.underlying t with
 |some .bool|some (.int _)|some .string=>P.cellsOf t==1
 |some (.slice e)=>P.cellsOf t==1&&S.contains e&&decide (0<P.cellsOf e)
 |some (.struct g)=>Kc P 0 g.toList (P.cellsOf t)&&g.toList.all λf=>S.contains f.type
 |some (.array n e)=>S.contains e&&P.cellsOf t==n*P.cellsOf e
 |_=>false
mutual
def AV.bulk:AV->Nat
 |.str s=>s.size+1
 |.sl _ i=>1+Fo i
 |.agg g=>Fo g
 |.tup g=>Fo g
 |_=>1
def Fo:List AV->Nat
 |[]=>0
 |a::l=>a.bulk+Fo l
end
structure BulkOk {H:Type} (μ:DataW H->Nat):Prop where
 one:∀d,1<=μ d
 str:∀s:List UInt8,s.length+1<=μ (.lit (.string s))
 sl:∀es sp,1+(es.map μ).sum<=μ (.slice es sp)
 agg:∀ps,(ps.map μ).sum<=μ (.agg ps)
def Ox(l g:List AV):Fo (l++g)=Fo l+Fo g:=by
 induction l with
 |nil=>simp[Fo]
 |cons a l i=>simp[Fo,i];omega
def li(a:AV):Fo a.cells=a.bulk:=by
 cases a<;>simp[AV.cells,Fo,AV.bulk]
def ba(g:List AV):Fo (Hx g)=Fo g:=by
 induction g with
 |nil=>rfl
 |cons e g i =>
  have:Hx (e::g)=e.cells++Hx g:=by simp[Hx]
  rw[this,Ox,li,i];rfl
def YI{D:Type}{μ:D->Nat}: ∀{es:List AV} {ds:List D},es.length=ds.length->(∀(i:Nat) (x:AV) (d:D),es[i]? =some x->ds[i]? =some d->x.bulk<=μ d)->Fo es<=(ds.map μ).sum
 |[],_,_,_=>by simp[Fo]
 |e::es,[],h,_=>by simp at h
 |e::es,d::ds,g,h=>by
  have p:=h 0 e d rfl rfl;have r:=YI (es:=es) (ds:=ds) (by simpa using g) λi x y j o=>h (i+1) x y (by simpa using j) (by simpa using o);simp only[Fo,AW,B3];omega
structure FitL (G:Gh) (w:World) (as:List AV) (cs:List Value):Prop where
 len:as.length=cs.length
 sc:∀c∈as,c.scalar=true/\GY c=false
 rel:∀(i:Nat) (c:AV) (v:Value),as[i]? =some c->cs[i]? =some v->Em G w c v
section
variable{P:Program}{G:Gh}{w:World}
def FitL.nil:FitL G w [] []:=⟨rfl,λc g=>by simp at g,λi c v h=>by simp at h⟩
def FitL.append{as r:List AV}{t C:List Value}(h:FitL G w as t)(p:FitL G w r C):FitL G w (as++r) (t++C):=by
 refine⟨by simp[h.len,p.len],λc g=>?_,λi c v j o=>?_⟩
 ·rcases Ar.1 g with g|g
  ·exact h.sc c g
  ·exact p.sc c g
 ·have:=h.len;by_cases I:i<as.length
  ·rw[Aa I]at j;rw[Aa Fj]at o;exact h.rel i c v j o
  ·rw[AO Fj]at j;rw[AO Fj]at o;exact p.rel (i - as.length) c v j (by rw[h.len];exact o)
def FitL.one{c:AV}{v:Value}(p:c.scalar=true)(r:GY c=false)(h:Em G w c v):FitL G w [c] [v]:=by
 refine⟨rfl,λd j=>by simp at j;subst j;exact⟨p,r⟩,λi d u g o=>?_⟩;cases i with
 |zero=>simp at g o;subst g;subst o;exact h
 |succ i=>simp at g
def QA{α:Type}{p:Nat->α->Prop}: ∀ (n:Nat),(∀ i,i<n -> ∃ x,p i x) -> ∃ l:List α,l.length=n /\ ∀ (i:Nat) (x:α),l[i]? =some x->p i x
 | 0,_=>⟨[],rfl,λi x h=>by simp at h⟩
 | n+1,h=>by
  obtain⟨l,o,r⟩:=QA n λi j=>h i Fj;obtain⟨x,t⟩:=h n Fj;refine⟨l++[x],by simp[o],λi y g=>?_⟩;by_cases j:i<l.length
  ·rw[Aa j]at g;exact r i y g
  ·rw[AO Fj]at g;have C:i - l.length=0:=by
    have:=(AD.1 g).1;simp at this;omega
   rw[C]at g;simp at g;have:i=n:=Fj;subst this;subst g;exact t
def AIi{g:List AV}{n i:Nat}{c:AV}(p:∀e∈g,e.cells.length=n)(h:(Hx g)[i]? =some c): ∃(k j:Nat) (x:AV),i=k*n+j/\j<n/\g[k]? =some x/\x.cells[j]? =some c:=by
 induction g generalizing i with
 |nil=>simp[Hx]at h
 | cons e g r =>
  simp only[Hx,BA]at h;have o:=p e F3;by_cases t:i<n
  ·rw[Aa Fj]at h;exact⟨0,i,e,Fj,t,rfl,h⟩
  ·rw[AO Fj,o]at h;obtain⟨k,j,x,O,C,I,J⟩:=r (λe o=>p e (by simp[o])) h;exact⟨k+1,j,x,by rw[A1];omega,C,by simpa using I,J⟩
section
variable{H:Type}{enc:TypeId×Value->H}{base:Nat}{held:Bool}
def Mf{e:TypeId}: ∀{g:List (DataW H)} {d:DataW H},d∈g -> ∀m∈d.weights P e,m∈DataW.weightsAll P e g
 |x::g,d,i,m,j=>by
  simp only[DataW.weightsAll,Ar];rcases AY.1 i with rfl|i
  ·exact .inl j
  ·exact .inr (Mf i m j)
def aQ{a:Addr}{v:Value}(h:w.cell? a=some v):a.spot=none:=by
 unfold World.cell? at h;split at h
 ·split at h
  ·cases h
  ·rename_i g;simpa using g
 ·cases h
def fit_fields {S:List TypeId} {rec:TypeId->List Value->Option (DataW H×List MemPlace)} {p:List Value}
  (I:∀t p d ps,t∈S->rec t p=some (d,ps)->(∀m∈d.weights P t,m<=reachBytes) -> ∃a,Rd P t a/\FitL G w a.cells p /\ ∀μ:DataW H->Nat,BulkOk μ->a.bulk<=μ d) :
  ∀(r:List Field) (C:Nat) (O:List (DataW H×List MemPlace)),Kc P C r p.length=true->(∀f∈r,f.type∈S)->C<=p.length ->
   r.mapM (λf=>rec f.type ((p.drop f.offset).take (P.cellsOf f.type)))=some O->(∀m∈DataW.weightsEach P (r.map (·.type)) (O.map (·.1)),m<=reachBytes) ->
   ∃parts,parts.length=r.length/\(∀(i:Nat) (f:Field) (x:AV),r[i]? =some f->parts[i]? =some x->Rd P f.type x)/\FitL G w (Hx parts) (p.drop C) /\ ∀μ:DataW H->Nat,BulkOk μ->Fo parts<=((O.map (·.1)).map μ).sum
 |[],C,O,J,_,hle,j,_=>by
  simp only[Kc,beq_iff_eq]at J;subst J;exact⟨[],rfl,λi f x h=>by simp at h,by simpa [Hx]using FitL.nil,fun μ _=>by simp[Fo]⟩
 | f::r,C,O,J,hS,hle,j,hw=>by
  simp only[Kc,AQ,beq_iff_eq]at J;obtain⟨R,J⟩:=J;subst R;simp only[DC,Option.bind_eq_bind]at j;cases h1:rec f.type ((p.drop f.offset).take (P.cellsOf f.type))with
  |none=>rw[h1]at j;simp at j
  | some x =>
   rw[h1]at j;simp only[Bi]at j;cases h2:r.mapM (λf=>rec f.type ((p.drop f.offset).take (P.cellsOf f.type)))with
   |none=>rw[h2]at j;simp at j
   | some ys =>
    rw[h2]at j;simp only[Bi]at j;cases j;simp only[AW,DataW.weightsEach,Ar]at hw;have T:∀(r:List Field) (o:Nat),Kc P o r p.length=true->o<=p.length:=by
     intro r;induction r with
     |nil=>intro o h;simp only[Kc,beq_iff_eq]at h;omega
     |cons g gs ih=>intro o h;simp only[Kc,AQ,beq_iff_eq]at h;have:=ih _ h.2;omega
    have U:=T r _ J;obtain⟨a,ha,hfa,hba⟩:=I _ _ x.1 x.2 (hS f F3) h1 λm j=>hw m (.inl j);obtain⟨parts,p1,p2,p3,p4⟩:=fit_fields I r (f.offset+P.cellsOf f.type) ys J (λg V=>hS g (by simp[V])) U h2 λm j=>hw m (.inr j);refine⟨a::parts,by simp[p1],λi g y V hy=>?_, ?_,fun μ hμ=>?_⟩
    ·cases i with
     |zero=>simp at V hy;subst V;subst hy;exact ha
     |succ i=>exact p2 i g y (by simpa using V) (by simpa using hy)
    ·have e:p.drop f.offset=(p.drop f.offset).take (P.cellsOf f.type)++p.drop (f.offset+P.cellsOf f.type):=by
      rw[<- A_,A8]
     rw[e];simp only[Hx,BA];exact hfa.append p3
    ·have h1:=hba μ hμ;have h2:=p4 μ hμ;simp only[Fo,AW,B3];omega
def AAN{n:Nat}{parts:List AV}{cs:List Value}(j:∀(i:Nat) (x:AV),parts[i]? =some x->FitL G w x.cells ((cs.drop (i*n)).take n))(g:cs.length=parts.length*n):FitL G w (Hx parts) cs:=by
 induction parts generalizing cs with
 |nil=>simp at g;subst g;simpa [Hx]using FitL.nil
 | cons x C p =>
  have o:=j 0 x rfl;simp only[Bx,BE]at o;have r:=p (cs:=cs.drop n) (λi y t=>by
   have:=j (i+1) y (by simpa using t);rw[A_];rw[A1,Dg,Nat.add_comm]at this;exact this) (by simp at g ⊢;rw[A1]at g;omega)
  have:=o.append r;rw[A8]at this;simpa [Hx]using this
def Wr{S:List TypeId}(hS:ACG P S=true)(hG : ∀ b,G.kind b = .imm): ∀ (fuel:Nat) (t:TypeId) (cs:List Value) (d:DataW H) (ps:List MemPlace),t∈S ->
  DataW.trod enc P w base (λ_=>true) held fuel t cs=some (d,ps)->(∀m∈d.weights P t,m<=reachBytes) -> ∃a,Rd P t a/\FitL G w a.cells cs /\ ∀μ:DataW H->Nat,BulkOk μ->a.bulk<=μ d
 | 0,t,cs,d,ps,_,h,_=>by simp[DataW.trod]at h
 | fuel+1,t,cs,d,ps,ht,h,hw=>by
  have ih:=Wr hS hG fuel;have hst:=Ao.1 hS t ht;unfold DataW.trod at h;cases hu:P.underlying t with
  |none=>rw[hu]at hst;cases hst
  | some dd =>
   rw[hu]at hst h;cases dd<;>try (cases hst;done)
   case bool =>
    dsimp only at h;split at h
    case h_1=>rename_i b hd;exact⟨.bool b,.bool b hu,.one rfl rfl (.bool b),fun μ hμ=>hμ.one _⟩
    all_goals first|(simp at *;done)|(rename_i heq _;cases heq)
   case int k =>
    dsimp only at h;split at h
    case h_2 =>
     rename_i k1 k2 n hd;cases hd;split at h
     ·rename_i hk;obtain⟨rfl,hk⟩:=hk;simp only[Lit.wf,AQ,decide_eq_true_eq]at hk;exact⟨.int k2 n,.int hu hk,.one rfl rfl (.int _ _),fun μ hμ=>hμ.one _⟩
     ·cases h
    all_goals first|(simp at *;done)|(rename_i heq _;cases heq)
   case string =>
    dsimp only at h;split at h
    case h_4 =>
     rename_i s hd;split at h
     ·cases h;simp only[DataW.weights,Ag,forall_eq]at hw;exact⟨.str s,.str hu (by simpa using hw),.one rfl rfl (.str s),fun μ hμ=>by have:=hμ.str s.data.toList;simpa [AV.bulk]using this⟩
     ·cases h
    all_goals first|(simp at *;done)|(rename_i heq _;cases heq)
   case slice e =>
    simp only[AQ,beq_iff_eq,Ds,decide_eq_true_eq]at hst;obtain⟨⟨_,he⟩,hpos⟩:=hst;dsimp only at h;split at h
    case h_7=>exact⟨.sl none [],.slice hu F3 F3  (λx hx=>by simp at hx),.one rfl rfl (.slnil _),fun μ hμ=>by have:=hμ.one d;simpa [AV.bulk,Fo]using this⟩
    case h_8 =>
     rename_i e' a len cap hd;cases hd;split at h
     case isFalse=>cases h
     rename_i hcond;cases hm:(An len).mapM λi=>(w.cells? base (a.add (i*P.cellsOf e)) (P.cellsOf e)).bind (DataW.trod enc P w base (λ_=>true) held fuel e)with
     |none=>rw[hm]at h;simp at h
     | some elems =>
      rw[hm]at h;simp only[Bi,if_true]at h;cases hr:(An (cap - len)).mapM λj=>(w.cells? base (a.add ((len+j)*P.cellsOf e)) (P.cellsOf e)).bind (DataW.trod enc P w base (λ_=>true) held fuel e)with
      |none=>rw[hr]at h;simp at h
      | some rest =>
       rw[hr]at h;simp only[Bb,Option.some.injEq,Prod.mk.injEq]at h;obtain⟨rfl,_⟩:=h;simp only[DataW.weights,hu,AY,Ar,List.length_map]at hw;have hel:=mapM_some_length hm;simp only[DL]at hel;have hb:(elems.length+rest.length)*P.bytesOf e<=reachBytes:=hw _ (.inl rfl);have hb2:len*P.bytesOf e<=reachBytes:=AJ (Nat.mul_le_mul_right _ Fj) hb;have hat:∀i,i<len -> ∃x,Rd P e x/\(∃ci,w.cells? base (a.add (i*P.cellsOf e)) (P.cellsOf e)=some ci/\FitL G w x.cells ci) /\ ∀y,elems[i]? =some y -> ∀μ:DataW H->Nat,BulkOk μ->x.bulk<=μ y.1:=by
        intro i hi;have hg:=mapM_some_get hm i i (by simp[hi]);have hlt:i<elems.length:=Fj;rw[AL hlt]at hg;cases hc:w.cells? base (a.add (i*P.cellsOf e)) (P.cellsOf e)with
        |none=>rw[hc]at hg;simp at hg
        |some ci =>
         rw[hc]at hg;simp only[Bi]at hg;obtain⟨x,hx,hf,hbx⟩:=ih e ci elems[i].1 elems[i].2 he hg λm hm=>hw m (.inr (.inl (Mf (AN.2 ⟨elems[i],Cd hlt,rfl⟩) m hm)));exact⟨x,hx,⟨ci,rfl,hf⟩,λy hy μ hμ=>by rw[AL hlt]at hy;cases hy;exact hbx μ hμ⟩
       have hspot:0<cap->a.spot=none:=by
        intro hc0;by_cases h0:0<len
        ·obtain⟨x,_,⟨ci,hci,_⟩,_⟩:=hat 0 h0;obtain⟨_,h1,h2⟩:=World.cells?_some hci;have h3:=h2 0 hpos;rw[Bx,show(a.add 0).add 0=a from rfl]at h3;have hlt:0<ci.length:=Fj;rw[AL hlt]at h3;exact aQ h3
        ·have hg:=mapM_some_get hr 0 0 (by rw[List.getElem?_range Fj]);have hrl:=mapM_some_length hr;simp only[DL]at hrl;have hlt:0<rest.length:=Fj;rw[AL hlt]at hg;have hl0:len=0:=Fj;subst hl0;cases hc:w.cells? base (a.add ((0+0)*P.cellsOf e)) (P.cellsOf e)with
         |none=>rw[hc]at hg;simp at hg
         |some ci =>
          obtain⟨_,h1,h2⟩:=World.cells?_some hc;have h3:=h2 0 hpos;rw[BG,Bx,show(a.add 0).add 0=a from rfl]at h3;have hlt:0<ci.length:=Fj;rw[AL hlt]at h3;exact aQ h3
       obtain⟨es,hes,hes2⟩:=QA len hat
       have hrd:∀x∈es,Rd P e x:=λx hx=>by
        obtain⟨i,hi⟩:=Ab hx;exact(hes2 i x hi).1
       refine⟨.sl none es,.slice hu Fj (by rw[hes];exact hb2) hrd,.one rfl rfl ?_,fun μ hμ=>AJ (Nat.add_le_add_left (YI (ds:=elems.map (·.1)) IG λi x d hx hd=>by
        rw[Ac]at hd;cases hy:elems[i]? with
        |none=>rw[hy]at hd;cases hd
        |some y=>rw[hy]at hd;cases hd;exact(hes2 i x hx).2.2 y hy μ hμ) 1) (hμ.sl _ _)⟩
       by_cases hc0:0<cap
       ·have hsp:=hspot hc0;have hsz:∀x∈es,x.cells.length=P.cellsOf e:=λx hx=>by
         obtain⟨i,hi⟩:=Ab hx;obtain⟨_,⟨ci,hci,hf⟩,_⟩:=hes2 i x hi;rw[hf.len];exact(World.cells?_some hci).2.1
        have haddr:a=⟨a.block,a.off,none⟩:=by cases a;simp at hsp;subst hsp;rfl
        have key:∀(i:Nat) (c:AV),(Hx es)[i]? =some c->c.scalar=true /\ ∃v,w.cell? ⟨a.block,a.off+i,none⟩=some v/\Em G w c v:=by
         intro i c hi;obtain⟨k,j,x,h1,h2,h3,h4⟩:=AIi hsz hi;obtain⟨_,⟨ci,hci,hf⟩,_⟩:=hes2 k x h3;obtain⟨_,g1,g2⟩:=World.cells?_some hci;have g3:=g2 j h2;have hlt:j<ci.length:=Fj;rw[AL hlt]at g3;rw[haddr,Hk,Hk]at g3;refine⟨(hf.sc c (AB h4)).1,ci[j], ?_,hf.rel j c _ h4 (AL hlt)⟩;rw[h1,<- Nat.add_assoc];exact g3
        rw[haddr];have:=VRel.sl (G:=G) (w:=w) none es (P.cellsOf e) a.block a.off cap (λi=>(w.cell? ⟨a.block,a.off+i,none⟩).getD Go.undef) hsz (λn hn=>by cases hn) Fj hcond.2.2
         (λi c hi=>by
          obtain⟨s,v,hv,_⟩:=key i c hi;exact⟨s,by simp[Gh.safe,hG],by rw[hv];rfl⟩)
         (λi c hi=>by
          obtain⟨_,v,hv,hr⟩:=key i c hi;rw[hv];exact hr)
        rw[hes]at this;exact this
       ·have h0:cap=0:=Fj;have h1:len=0:=Fj;subst h0;subst h1;have:es=[]:=List.eq_nil_of_length_eq_zero hes;subst this;exact .slany none a
    all_goals first|(simp at *;done)|(rename_i heq _;cases heq)
   case struct fs =>
    simp only[AQ,Ao,Ds]at hst;dsimp only at h;split at h
    case isFalse=>cases h
    rename_i hlen;cases hm:fs.toList.mapM λf=>DataW.trod enc P w base (λ_=>true) held fuel f.type ((cs.drop f.offset).take (P.cellsOf f.type))with
    |none=>rw[hm]at h;simp at h
    | some xs =>
     rw[hm]at h;simp only[Bb,Option.some.injEq,Prod.mk.injEq]at h;obtain⟨rfl,_⟩:=h;simp only[DataW.weights,hu]at hw;obtain⟨parts,p1,p2,p3,p4⟩:=fit_fields (G:=G) (w:=w) (P:=P) (S:=S) ih fs.toList 0 xs (by rw[hlen];exact hst.1) hst.2 (BS _) hm hw;exact⟨.agg (Hx parts),.struct hu (by simpa using p1) (λi f x hf hx=>p2 i f x (by simpa using hf) hx),by simpa [AV.cells]using p3,fun μ hμ=>by
      have h1:=p4 μ hμ;have h2:=hμ.agg (xs.map (·.1));simp only[AV.bulk,ba];omega⟩
   case array n e =>
    simp only[AQ,beq_iff_eq,Ds]at hst;dsimp only at h;split at h
    case isFalse=>cases h
    rename_i hlen;cases hm:(An n).mapM λi=>DataW.trod enc P w base (λ_=>true) held fuel e ((cs.drop (i*P.cellsOf e)).take (P.cellsOf e))with
    |none=>rw[hm]at h;simp at h
    | some xs =>
     rw[hm]at h;simp only[Bb,Option.some.injEq,Prod.mk.injEq]at h;obtain⟨rfl,_⟩:=h;simp only[DataW.weights,hu]at hw;have hxl:=mapM_some_length hm;simp only[DL]at hxl;obtain⟨parts,q1,q2⟩:=QA (p:=λi x=>Rd P e x/\FitL G w x.cells ((cs.drop (i*P.cellsOf e)).take (P.cellsOf e)) /\ ∀y,xs[i]? =some y -> ∀μ:DataW H->Nat,BulkOk μ->x.bulk<=μ y.1) n λi hi=>by
      have hg:=mapM_some_get hm i i (by simp[hi]);have hlt:i<xs.length:=Fj;rw[AL hlt]at hg;obtain⟨x,hx1,hx2,hx3⟩:=ih e _ xs[i].1 xs[i].2 hst.1 hg λm hm=>hw m (Mf (AN.2 ⟨xs[i],Cd hlt,rfl⟩) m hm);exact⟨x,hx1,hx2,λy hy μ hμ=>by rw[AL hlt]at hy;cases hy;exact hx3 μ hμ⟩
     refine⟨.agg (Hx parts),.array hu q1 (λx hx=>?_), ?_,fun μ hμ=>?_⟩
     ·obtain⟨i,hi⟩:=Ab hx;exact(q2 i x hi).1
     ·exact AAN (λi x hx=>(q2 i x hx).2.1) (by rw[q1,hlen,hst.2])
     ·have h1:=YI (μ:=μ) (es:=parts) (ds:=xs.map (·.1)) IG λi x d hx hd=>by
       rw[Ac]at hd;cases hy:xs[i]? with
       |none=>rw[hy]at hd;cases hd
       |some y=>rw[hy]at hd;cases hd;exact(q2 i x hx).2.2 y hy μ hμ
      have h2:=hμ.agg (xs.map (·.1));simp only[AV.bulk,ba];omega
end
end
end Go.AI
namespace Go.AI
open Go.RowKit Go.ChangeShapes
def Gx(P:Program):List TypeId->List AV->Prop
 |[],[]=>True
 |t::g,a::as=>Rd P t a/\Gx P g as
 |_,_=>False
section
variable{P:Program}{G:Gh}{w:World}{H:Type}{enc:TypeId×Value->H}{base:Nat}
def Pm{a:AV}(i:a.isVal=true)(h:∀c∈a.cells,GY c=false):a.owned=false:=by
 unfold AV.owned;rw[List.any_eq_false];intro c g;have:a.flat=a.cells:=by cases a<;>first|rfl|cases i
 rw[this]at g;simp[h c g]
def AJA{t:TypeId}{a:AV}{v:Value}(R:Rd P t a)(j:FitL G w a.cells v.cells.toList)(o:Value.okWide P w .any base t v):Em G w a v/\a.owned=false:=by
 have one:∀(a:AV) (v:Value),a.scalar=true->a.cells=[a]->(∀r,v ≠ .agg r)->FitL G w a.cells v.cells.toList->Em G w a v:=by
  intro a v I C T J;have U:v.cells=#[v]:=by cases v<;>first|rfl|exact absurd rfl (T _)
  rw[C,U]at J;exact J.rel 0 a v rfl rfl
 have g:∀(u:TypeDesc),P.underlying t=some u->(u = .bool\/(∃k,u = .int k)\/u = .string \/ ∃e,u = .slice e) -> ∀r,v ≠ .agg r:=by
  intro u V hk r hv;subst hv;rcases hk with rfl|⟨k,rfl⟩|rfl|⟨e,rfl⟩<;>simp[Value.okWide,V,Cell.okWide,Cell.ok]at o
 cases R with
 |bool b h=>exact⟨one _ _ rfl rfl (g _ h (.inl rfl)) j,rfl⟩
 |int h hw=>exact⟨one _ _ rfl rfl (g _ h (.inr (.inl ⟨_,rfl⟩))) j,rfl⟩
 |str h hs=>exact⟨one _ _ rfl rfl (g _ h (.inr (.inr (.inl rfl)))) j,rfl⟩
 |slice h O hb he=>exact⟨one _ _ rfl rfl (g _ h (.inr (.inr (.inr ⟨_,rfl⟩)))) j,rfl⟩
 |struct h O hp =>
  refine⟨?_,Pm rfl λc p=>(j.sc c p).2⟩;simp only[Value.okWide,h]at o;obtain⟨r,rfl,_⟩:=o;exact .agg _ _ (by simpa [AV.cells,Value.cells]using j.len) (λc p=>(j.sc c p).1) λi c x I C=>j.rel i c x I (by simpa [Value.cells]using C)
 |array h O hp =>
  refine⟨?_,Pm rfl λc p=>(j.sc c p).2⟩;simp only[Value.okWide,h]at o;obtain⟨r,rfl,_⟩:=o;exact .agg _ _ (by simpa [AV.cells,Value.cells]using j.len) (λc p=>(j.sc c p).1) λi c x I C=>j.rel i c x I (by simpa [Value.cells]using C)
def l7{S:List TypeId}(hS:ACG P S=true)(hG : ∀ b,G.kind b = .imm): ∀ (g:List TypeId) (o:List Value) (r:List (DataW H)) (T:List MemPlace),(∀ t∈g,t∈S) ->
  DataW.TrodAll enc P w 0 (λ_=>true) true g o r T->(∀m∈DataW.weightsEach P g r,m<=reachBytes)->(∀(j:Nat) t v,g[j]? =some t->o[j]? =some v->Value.okWide P w .any base t v) ->
  ∃as,Gx P g as/\as.length=o.length/\(∀(i:Nat) (a:AV) (v:Value),as[i]? =some a->o[i]? =some v->Em G w a v/\a.owned=false) /\ ∀μ:DataW H->Nat,BulkOk μ->Fo as<=(r.map μ).sum
 |[],o,r,T,_,h,_,_=>by
  obtain⟨rfl,rfl,rfl⟩:=trodAll_nil h;exact⟨[],trivial,rfl,λi a v h=>by simp at h,fun μ _=>by simp[Fo]⟩
 | t::g,o,r,T,C,h,U,I=>by
  obtain⟨v,V,d,ds',p,q,rfl,rfl,rfl,⟨J,O⟩,R⟩:=trodAll_cons h;simp only[DataW.weightsEach,Ar]at U;obtain⟨a,ha,hf,hba⟩:=Wr hS hG J t _ d p (C t F3) O λm hm=>U m (.inl hm);obtain⟨as,g1,g2,g3,g4⟩:=l7 hS hG g V ds' q (λt ht=>C t (by simp[ht])) R (λm hm=>U m (.inr hm)) λj t v O R=>I (j+1) t v (by simpa using O) (by simpa using R);refine⟨a::as,⟨ha,g1⟩,by simp[g2],λi x y hx hy=>?_,fun μ hμ=>?_⟩
  ·cases i with
   |zero =>
    simp at hx hy;subst hx;subst hy;exact AJA ha hf (I 0 t v rfl rfl)
   |succ i=>exact g3 i x y (by simpa using hx) (by simpa using hy)
  ·have O:=hba μ hμ;have R:=g4 μ hμ;simp only[Fo,AW,B3];omega
def RL(R:laidOutB P=true){W T:World}(U:Below W.heap.size W T): ∀(g:List TypeId) (o:List Value) (r:List (DataW H)) (i:List MemPlace),(∀t∈g,P.readableRec t=true/\t<P.types.size) ->
  DataW.TrodAll enc P W 0 (λ_=>true) true g o r i->(∀x∈i,x.block<W.heap.size)->DataW.TrodAll enc P T 0 (λb=>decide (b<W.heap.size)) true g o r i
 |[],o,r,i,_,h,_=>by
  obtain⟨rfl,rfl,rfl⟩:=trodAll_nil h;rfl
 | t::g,o,r,i,C,h,j=>by
  obtain⟨v,I,d,J,p,q,rfl,rfl,rfl,V,h2⟩:=trodAll_cons h;exact⟨p,q,Below.trod R (C t F3).1 (C t F3).2 V U λx O=>j x (by simp[O]),
   RL R U g I J q (λt ht=>C t (by simp[ht])) h2 λx O=>j x (by simp[O]),rfl⟩
def u3{as:List AV}{j:List Value}(J:GOk ⟨[],λ_ => .imm⟩ w)(r:as.length=j.length)(g:∀(i:Nat) (a:AV) (v:Value),as[i]? =some a->j[i]? =some v->Em ⟨[],λ_ => .imm⟩ w a v/\a.owned=false):
  En (λb=>b<w.heap.size) ⟨[],λ_ => .imm⟩ as [] j w:=by
 refine⟨⟨r,λi a u t C=>(g i a u t C).1,λi a u t C=>GC (Gs (g i a u t C).2 u) _ _ _⟩,⟨rfl,λo O b h=>by simp at h,λo V O P b h=>by simp at h,λb h=>h,J⟩,λb=>?_⟩;have R:Hm b as j=0:=by
  have:¬0<Hm b as j:=λI=>by
   obtain⟨i,a,u,t,C,p,I,T⟩:=Sh as j I;have U:=Gs (g i a u t C).2 u;have:b∈HY a u:=List.mem_filterMap.2 ⟨p,I,T⟩;rw[U]at this;cases this
  omega
 rw[R];simp[I3]
def cm{C:Checked}{f:FuncId}{fn:Func}{s:ChangeSpec}{r I:Bool}{tb:TypeId}(S:List TypeId)
  (hl:laidOutB C.prog=true)(hS:ACG C.prog S=true)(P:∀t∈fn.params.toList,t∈S/\C.prog.readableRec t=true/\t<C.prog.types.size)
  (U:fn.resultTypes=#[tb])(htb:C.prog.underlying tb=some .bool)(V:s.vars=[])
  (hs:∀(H:Type) (i:List (DataW H)),i.length=fn.params.size->s.fn H i={ results:=[.lit (.bool true)],args:=i })
  (W:World)(R:GOk ⟨[],λ_ => .imm⟩ W)(base:Nat)(args:Array Value)(i gs:List (DataW H))(O:List MemPlace)
  (law:∀as,Gx C.prog fn.params.toList as->(∀μ:DataW H->Nat,BulkOk μ->Fo as<=(i.map μ).sum)->Fm C.prog f as (.bool true))
  (hval:∀(j:Nat) t v,fn.params[j]? =some t->args[j]? =some v->Value.okWide C.prog W .any base t v)
  (hW:DataW.Whole enc C.prog fn.params.toList s.vars r W args.toList i gs O)
  (hwt:(DataW.weightsEach C.prog (fn.params.toList++s.plain.varTypes C.prog) (i++gs)).all (· <= reachBytes)=true):
  Calls C.prog f args W λe W' => ∃v,e = .returned v/\s.post enc C.prog fn r true I false W args v W':=by
 have hW':=hW;obtain⟨p,q,hA,hV,rfl,hfz,hnd⟩:=hW;rw[V]at hV;have hg:gs=[]/\q=[]:=by
  cases gs with
  |nil=>simp[DataW.TrodVars]at hV;exact⟨rfl,hV⟩
  |cons g gs=>simp[DataW.TrodVars]at hV
 obtain⟨rfl,rfl⟩:=hg;have hwt':∀m∈DataW.weightsEach C.prog fn.params.toList i,m<=reachBytes:=by
  intro m hm;have e:s.plain.varTypes C.prog=[]:=by
   have:s.plain.vars=[]:=by rw[<- V];rfl
   simp[DataSpec.varTypes,this]
  rw[e,Ai,Ai]at hwt;have:=Ao.1 hwt m hm;simpa using this
 obtain⟨as,h1,h2,h3,h4⟩:=l7 (G:=⟨[],λ_ => .imm⟩) (base:=base) hS (λ_=>rfl) fn.params.toList args.toList i p (λt ht=>(P t ht).1) hA hwt' λj t v hj V=>hval j t v (by simpa using hj) (by simpa using V);have hc:=u3 R h2 h3;have J:=(law as h1 h4 []).2 _ _ W args.toList hc;rw[Array.toArray_toList]at J;refine J.mono λe W' he=>?_;obtain⟨u,rfl,v,H',G',⟨rfl,rfl⟩,hcr,o⟩:=he;obtain⟨hu,_,_⟩:=hcr.l.uncons;have hu':u = .bool true:=by cases hu;rfl
 subst hu';have hb:Below W.heap.size W W':=⟨o.io.1,o.io.2.1,o.io.2.2,o.size,λk hk=>o.cells k hk⟩;have T:i.length=fn.params.size:=by
  have:∀(ts:List TypeId) (vs:List Value) (i:List (DataW H)) (ps:List MemPlace),DataW.TrodAll enc C.prog W 0 (λ_=>true) true ts vs i ps->i.length=ts.length:=by
   intro ts;induction ts with
   |nil=>intro vs i ps h;obtain⟨_,rfl,_⟩:=trodAll_nil h;rfl
   |cons t ts ih=>intro vs i ps h;obtain⟨v,vs',d,ds',p,q,_,rfl,_,_,h2⟩:=trodAll_cons h;simp[ih _ _ _ h2]
  simpa using this _ _ _ _ hA
 refine⟨_,rfl,i,[],p++[],[],p,[],hW', ?_, ?_, ?_,hb.frame _,λh=>by cases h⟩
 ·rw[Ai,hs H i T,U];exact trodAll_mk1 ⟨1,by simp[DataW.trod,Value.cells,htb]⟩
 ·rw[Ai,hs H i T];exact RL hl hb _ _ _ _ (λt ht=>(P t ht).2) hA λx hx=>hW'.lt x (by simp[hx])
 ·rw[Ai,hs H i T,V];rfl
end
end Go.AI
namespace Go.AI
section
variable{P:Program}{m:Nat}{h:Eo}{ops:Array Oper}{e:GO}{H:Fl}{Q:Exit->Kt}{ar:Option Nat}
def SP:∀(l:List Oper) (K g:GO->Fl->Prop) (e:GO) (H:Fl),(∀e H,K e H->g e H)->MB P m h ops l K e H->MB P m h ops l g e H
 |[],K,g,e,H,i,j=>i e H j
 |o::l,K,g,e,H,i,j=>Lz (λe H=>SP l K g e H i) j
def G9 : ∀ (c:Code) {ar:Option Nat} (Q p:Exit->Kt) (e:GO) (H:Fl),(∀ C e H,Q C e H->p C e H)->Jw P m h ar c Q e H->Jw P m h ar c p e H
 |.skip,ar,Q,p,e,H,o,i=>o _ _ _ i
 |.exit id,ar,Q,p,e,H,o,i=>o _ _ _ i
 |.ret,ar,Q,p,e,H,o,i=>o _ _ _ i
 |.region id ops draw,ar,Q,p,e,H,o,i=>SP _ _ _ _ _ (λ_ _ h=>⟨h.1,o _ _ _ h.2⟩) i
 | .seq a b,ar,Q,p,e,H,o,i=>G9 a _ _ e H (λC e H h=>by
   cases C with
   |normal=>exact G9 b Q p e H o h
   |_=>exact o _ _ _ h) i
 | .cond c a b,ar,Q,p,e,H,o,i=>by
  simp only[Jw]at i ⊢;split at i
  ·rename_i t ht;cases t with
   |true=>exact G9 a Q p e H o i
   |false=>exact G9 b Q p e H o i
  ·exact i.elim
 | .block id c,ar,Q,p,e,H,o,i=>G9 c _ _ e H (λC e H h=>by
   cases C with
   |exit j =>
    dsimp only at h ⊢;split at h
    ·rename_i O;rw[iP O];exact o _ _ _ h
    ·rename_i O;rw[iN O];exact o _ _ _ h
   |_=>exact o _ _ _ h) i
 | .loop c,ar,Q,p,e,H,o,i=>by
  obtain⟨I,μ,U,V⟩:=i;exact⟨I,μ,U,λe H hi=>G9 c _ _ e H (λC e H h=>by
   cases C with
   |normal=>exact h
   |_=>exact o _ _ _ h) (V e H hi)⟩
 |.rangeFunc g ps J T,ar,Q,p,e,H,o,i=>by
  obtain⟨h1,R,f,first,r,h2,h3⟩:=i;refine⟨h1,R,f,first,r,h2,h3.mono λv H2 hp=>?_⟩;obtain⟨st,av,g1,g2⟩:=hp;refine⟨st,av,g1, ?_⟩;rcases g2 with⟨a,b⟩|⟨a,b⟩|⟨k,a,b⟩
  ·exact .inl ⟨a,o _ _ _ b⟩
  ·exact .inr (.inl ⟨a,o _ _ _ b⟩)
  ·exact .inr (.inr ⟨k,a,o _ _ _ b⟩)
 |.scope _,ar,_,_,_,_,_,i=>i.elim
 |.label _,ar,_,_,_,_,_,i=>i.elim
 |.goto _,ar,_,_,_,_,_,i=>i.elim
 |.refuse _,ar,_,_,_,_,_,i=>i.elim
def Aku(J:Nat->Kt)(r:Nat)(Q:Exit->Kt)(g:Exit):Kt:=λe H =>
 match g with
 |.normal => ∃i,i<r/\J i e H
 |g=>Q g e H
def O1{c:Code}(J:Nat->Kt)(O:∃r,J r e H)(g:∀r e H,J r e H->Jw P m h ar c (Aku J r Q) e H):Jw P m h ar (.loop c) Q e H:=by
 have i:∀(e:GO) (H:Fl),∃r,(∃r,J r e H)->J r e H /\ ∀k,J k e H->r<=k:=λe H=>by
  by_cases t:∃r,J r e H
  ·obtain⟨r,j,C⟩:=TC t;exact⟨r,λ_=>⟨j,C⟩⟩
  ·exact⟨0,λh=>absurd h t⟩
 refine⟨λe H => ∃r,J r e H,λe H=>Classical.choose (i e H),O,λe H R=>?_⟩;obtain⟨j,C⟩:=Classical.choose_spec (i e H) R;refine G9 c _ _ e H (λT U V I=>?_) (g _ e H j);cases T with
 |normal =>
  obtain⟨o,hr,p⟩:=I;refine⟨⟨o,p⟩, ?_⟩;obtain⟨_,h4⟩:=Classical.choose_spec (i U V) ⟨o,p⟩;exact Nat.lt_of_le_of_lt (h4 o p) hr
 |_=>exact I
end
end Go.AI
namespace Go.AI
def AFo(m:Nat):List Nat:=(An (m.log2+1)).filter λi=>m.testBit i
def lvM:Nat->List Nat->List (Nat×List Tmp)
 |_,[]=>[]
 |k,m::l=>(k,AFo m)::lvM (k+1) l
def hm(l:List Nat)(g mt i:List Tmp):Eo:=⟨lvM 0 l,g,mt,[],i,[],[]⟩
def hx(l:List Nat)(g mt:List Tmp)(i:List (Nat×List (Tmp×Option Nat×Bool)))(j:List Tmp)(gc:List (Nat×Nat))(o:List Nat):Eo:=⟨lvM 0 l,g,mt,i,j,gc,o⟩
def Mg{n:Int}(g : -9223372036854775808<=n)(i:n<=9223372036854775807):IntKind.i64.wrap n=n:=IntWalk.i64_in _ ⟨g,i⟩
def K_{k:Nat}(h:k<9223372036854775807):IntKind.i64.wrap ((k:Int)+1)=((k+1:Nat):Int):=by
 rw[Mg Fj Fj];rfl
section
variable{P:Program}{m:Nat}{h:Eo}{e:GO}{H:Fl}{Q:Exit->Kt}{ops:Array Oper}{ar:Option Nat}
def At(e g:GO)(H i:Fl):Prop:=e=g/\H=i
def AYG(n:Nat)(E:Nat->GO)(i:Nat->Fl)(k:Nat)(Q:Exit->Kt)(g:Exit):Kt:=λe H =>
 match g with
 |.normal=>k<n/\At e (E (k+1)) H (i (k+1))
 |g=>Q g e H
def k_(n:Nat)(E:Nat->GO)(g:Nat->Fl)(k:Nat):AYG n E g k Q .normal e H=(k<n/\At e (E (k+1)) H (g (k+1))):=AH rfl rfl
def AAM(n:Nat)(E:Nat->GO)(g:Nat->Fl)(k j:Nat):AYG n E g k Q (.exit j)=Q (.exit j):=AH rfl rfl
def WX{c:Code}(n:Nat)(E:Nat->GO)(i:Nat->Fl)(o:e=E 0)(p:H=i 0)(g:∀k,k<=n->Jw P m h ar c (AYG n E i k Q) (E k) (i k)):Jw P m h ar (.loop c) Q e H:=by
 subst o;subst p;refine O1 (λr e H => ∃k,k+r=n/\e=E k/\H=i k) ⟨n,0,Fj,rfl,rfl⟩ λr e H t=>?_;obtain⟨k,I,rfl,rfl⟩:=t;refine G9 c _ _ _ _ (λC e H j=>?_) (g k Fj);cases C with
 |normal =>
  obtain⟨J,rfl,rfl⟩:=j;exact⟨r - 1,Fj,k+1,Fj,rfl,rfl⟩
 |_=>exact j
def whK{σ:Type}(E:σ->GO)(j:σ->Fl)(I:σ->Prop)(μ:σ->Nat)(s:σ)(Q:Exit->Kt)(i:Exit):Kt:=λe H =>
 match i with
 |.normal => ∃g,I g/\μ g<μ s/\At e (E g) H (j g)
 |i=>Q i e H
section
variable{σ:Type}
def nu(E:σ->GO)(i:σ->Fl)(I:σ->Prop)(μ:σ->Nat)(s:σ):whK E i I μ s Q .normal e H = ∃g,I g/\μ g<μ s/\At e (E g) H (i g):=AH rfl rfl
def AHH(E:σ->GO)(g:σ->Fl)(I:σ->Prop)(μ:σ->Nat)(s:σ):whK E g I μ s Q .ret=Q .ret:=AH rfl rfl
def AB5(E:σ->GO)(g:σ->Fl)(I:σ->Prop)(μ:σ->Nat)(s:σ)(j:Nat):whK E g I μ s Q (.exit j)=Q (.exit j):=AH rfl rfl
def JB{c:Code}(E:σ->GO)(i:σ->Fl)(I:σ->Prop)(μ:σ->Nat)(s:σ)(p:I s)(t:e=E s)(C:H=i s)(g:∀s,I s->Jw P m h ar c (whK E i I μ s Q) (E s) (i s)):Jw P m h ar (.loop c) Q e H:=by
 subst t;subst C;refine O1 (λr e H => ∃s,I s/\μ s=r/\e=E s/\H=i s) ⟨μ s,s,p,rfl,rfl,rfl⟩ λr e H J=>?_;obtain⟨s,O,rfl,rfl,rfl⟩:=J;refine G9 c _ _ _ _ (λR e H j=>?_) (g s O);cases R with
 |normal =>
  obtain⟨o,T,U,rfl,rfl⟩:=j;exact⟨μ o,U,o,T,rfl,rfl,rfl⟩
 |_=>exact j
end
section
variable{α σ ρ:Type}
def sq(F:σ->List α->ρ)(E:Nat->σ->GO)(o:Nat->σ->Fl)(I:Nat->σ->Prop)(k:Nat)(s:σ)(x:α)(j:List α)(Q:Exit->Kt)(i:Exit):Kt:=λe H =>
 match i with
 |.normal => ∃g,F s (x::j)=F g j/\I (k+1) g/\At e (E (k+1) g) H (o (k+1) g)
 |i=>Q i e H
def cE(F:σ->List α->ρ)(E:Nat->σ->GO)(j:Nat->σ->Fl)(I:Nat->σ->Prop)(k:Nat)(s:σ)(x:α)(i:List α):sq F E j I k s x i Q .normal e H = ∃g,F s (x::i)=F g i/\I (k+1) g/\At e (E (k+1) g) H (j (k+1) g):=AH rfl rfl
def vA(F:σ->List α->ρ)(E:Nat->σ->GO)(g:Nat->σ->Fl)(I:Nat->σ->Prop)(k:Nat)(s:σ)(x:α)(i:List α):sq F E g I k s x i Q .ret=Q .ret:=AH rfl rfl
def oG(F:σ->List α->ρ)(E:Nat->σ->GO)(g:Nat->σ->Fl)(I:Nat->σ->Prop)(k:Nat)(s:σ)(x:α)(i:List α)(j:Nat):sq F E g I k s x i Q (.exit j)=Q (.exit j):=AH rfl rfl
def tn(Q:Exit->Kt)(g:Exit):Kt:=λe H =>
 match g with
 |.normal=>False
 |g=>Q g e H
def qc(j:Nat):tn Q (.exit j)=Q (.exit j):=AH rfl rfl
def F6{c:Code}(l:List α)(F:σ->List α->ρ)(I:Nat->σ->Prop)(E:Nat->σ->GO)(j:Nat->σ->Fl)(g:σ)(hl:l.length<=9223372036854775807)(V:I 0 g)(he:e=E 0 g)(hH:H=j 0 g)
  (i:∀k s x C,l.drop k=x::C->l[k]? =some x->I k s->F g l=F s (x::C)->0<=(k:Int)->(k:Int)<(l.length:Int)->IntKind.i64.wrap ((k:Int)+1)=((k+1:Nat):Int)->Jw P m h ar c (sq F E j I k s x C Q) (E k s) (j k s))
  (J:∀s,I l.length s->F g l=F s []->Jw P m h ar c (tn Q) (E l.length s) (j l.length s)):Jw P m h ar (.loop c) Q e H:=by
 subst he;subst hH;refine O1 (λr e H => ∃k s,k+r=l.length/\I k s/\F g l=F s (l.drop k)/\e=E k s/\H=j k s) ⟨l.length,0,g,Fj,V,F3,rfl,rfl⟩ λr e H hJ=>?_;obtain⟨k,s,hk,T,o,rfl,rfl⟩:=hJ;by_cases p:k<l.length
 ·have hx:=AL p;have U:l.drop k=l[k]::l.drop (k+1):=BI p;rw[U]at o;refine G9 c _ _ _ _ (λO e H t=>?_) (i k s _ _ U hx T o Fj Fj  (K_ Fj));cases O with
  |normal =>
   obtain⟨s',h1,h2,rfl,rfl⟩:=t;exact⟨r - 1,Fj,k+1,s',Fj,h2,o.trans h1,rfl,rfl⟩
  |_=>exact t
 ·have R:k=l.length:=Fj;subst R;rw[DK]at o;refine G9 c _ _ _ _ (λO e H t=>?_) (J s T o);cases O with
  |normal=>exact t.elim
  |_=>exact t
end
end
section
variable{P:Program}{t:TypeId}{a b:AV}{r:Bool}{d:Tmp}{K:Kt}{e:GO}{H:Fl}
def AA9(g:K3 P t a b=some r):JA P .eql t a b d K e H=K ((d,.bool r)::e) H:=by simp[JA,KU,g]
def AA8(g:K3 P t a b=some r):JA P .neq t a b d K e H=K ((d,.bool !r)::e) H:=by simp[JA,KU,g]
end
mutual
def AV.fit:AV->Prop
 |.sl _ g=>g.length<=9223372036854775807/\HL g
 |.agg i=>HL i
 |.tup j=>HL j
 |_=>True
def HL:List AV->Prop
 |[]=>True
 |v::g=>v.fit/\HL g
end
def F4{g:List AV}:HL g ↔ ∀v∈g,v.fit:=by
 induction g with
 |nil=>simp[HL]
 |cons x j i=>simp[HL,i]
def dP{a:AV}(h:∀c∈a.cells,c.fit):a.fit:=by
 cases a with
 |agg g=>exact F4.2 h
 |_=>exact h _ (by simp[AV.cells])
def VRel.fit{G:Gh}{w:World}{a:AV}{v:Value}(h:Em G w a v):a.fit:=by
 induction h with
 |sl j I U b q J u O C r hm h V o =>
  refine⟨AJ r hm,F4.2 λx hx=>dP λc p=>?_⟩;have:c∈Hx I:=B1.2 ⟨x,hx,p⟩;obtain⟨i,g⟩:=Ab this;exact o i c g
 |slnil j=>exact⟨F3,trivial⟩
 |slany j a=>exact⟨F3,trivial⟩
 |agg P R r T h o =>
  refine F4.2 λc p=>?_;obtain⟨i,g⟩:=Ab p;have t:=(AD.1 g).1;exact o i c _ g (Al Fj)
 |tup P R r T h o =>
  refine F4.2 λc p=>?_;obtain⟨i,g⟩:=Ab p;have t:=(AD.1 g).1;exact o i c _ g (Al Fj)
 |_=>exact trivial
def CRel.fit{F:Nat->Prop}{G:Gh}{w:World}{g:List AV}{H:Fl}{o:List Value}(h:En F G g H o w):HL g:=by
 refine F4.2 λa p=>?_;obtain⟨i,j⟩:=Ab p;have r:=(AD.1 j).1;have:=h.l.len;exact(h.l.rel i a _ j (AL Fj)).fit
def Fw.fit{P:Program}{f:FuncId}{vs:List AV}{H:Fl}{R:AV->Fl->Prop}(g:IB P f=true)(h:HL vs->Fw P f vs H R):Fw P f vs H R :=
 ⟨g,λF G w j i=>(h i.fit).2 F G w j i⟩
def Fm.fit{P:Program}{f:FuncId}{i:List AV}{v:AV}(g:IB P f=true)(h:HL i->Fm P f i v):Fm P f i v:=λH =>
 ⟨g,λF G w o j=>(h j.fit H).2 F G w o j⟩
def K9.fit{P:Program}{f:FuncId}{i:List AV}{Q:AV->Prop}(g:IB P f=true)(h:HL i->K9 P f i Q):K9 P f i Q:=λH =>
 ⟨g,λF G w o j=>(h j.fit H).2 F G w o j⟩
section
variable{P:Program}{t e:TypeId}{a:AV}
def OL{k:IntKind}(g:P.underlying t=some (.int k))(h:Rd P t a): ∃n,a = .int k n/\(k.min<=n/\n<=k.max):=by
 cases h with
 |int h i=>rw[g]at h;cases h;exact⟨_,rfl,i⟩
 |bool b h=>rw[g]at h;cases h
 |str h=>rw[g]at h;cases h
 |slice h=>rw[g]at h;cases h
 |struct h=>rw[g]at h;cases h
 |array h=>rw[g]at h;cases h
def SY(g:P.underlying t=some .bool)(h:Rd P t a): ∃b,a = .bool b/\True:=by
 cases h with
 |int h i=>rw[g]at h;cases h
 |bool b h=>exact⟨_,rfl,trivial⟩
 |str h=>rw[g]at h;cases h
 |slice h=>rw[g]at h;cases h
 |struct h=>rw[g]at h;cases h
 |array h=>rw[g]at h;cases h
def ABc(g:P.underlying t=some .string)(h:Rd P t a): ∃s,a = .str s/\s.size<=reachBytes:=by
 cases h with
 |int h j=>rw[g]at h;cases h
 |bool b h=>rw[g]at h;cases h
 |str h i=>exact⟨_,rfl,i⟩
 |slice h=>rw[g]at h;cases h
 |struct h=>rw[g]at h;cases h
 |array h=>rw[g]at h;cases h
def IU{α:Type}{f:α->AV}{ok:α->Prop}(g:P.underlying t=some (.slice e))(I : ∀ x,Rd P e x -> ∃ y,x=f y/\ok y)(h:Rd P t a):
  ∃l:List α,a = .sl none (l.map f)/\l.length*P.bytesOf e<=reachBytes /\ ∀x∈l,ok x:=by
 cases h with
 | slice h i p r =>
  rw[g]at h;cases h;rename_i C;have:∃l:List α,C=l.map f /\ ∀x∈l,ok x:=by
   clear i p;induction C with
   |nil=>exact⟨[],rfl,λx hx=>by simp at hx⟩
   | cons x R J =>
    obtain⟨y,rfl,O⟩:=I x (r x F3);obtain⟨l,rfl,i⟩:=J λx hx=>r x (by simp[hx]);exact⟨y::l,rfl,λz j=>by
     rcases AY.1 j with rfl|j
     ·exact O
     ·exact i z j⟩
  obtain⟨l,rfl,o⟩:=this;exact⟨l,rfl,by simpa using p,o⟩
 |int h T=>rw[g]at h;cases h
 |bool b h=>rw[g]at h;cases h
 |str h=>rw[g]at h;cases h
 |struct h=>rw[g]at h;cases h
 |array h=>rw[g]at h;cases h
def QS(g:P.underlying t=some (.slice e))(h:Rd P t a): ∃i:List AV,a = .sl none i/\i.length*P.bytesOf e<=reachBytes /\ ∀x∈i,Rd P e x:=by
 cases h with
 |slice h p j o =>
  rw[g]at h;cases h;exact⟨_,rfl,j,o⟩
 |int h r=>rw[g]at h;cases h
 |bool b h=>rw[g]at h;cases h
 |str h=>rw[g]at h;cases h
 |struct h=>rw[g]at h;cases h
 |array h=>rw[g]at h;cases h
def cd{α:Type}{f:α->AV}{ok:α->Prop}{g:List AV}(h:∀x∈g,∃y,x=f y/\ok y): ∃l:List α,g=l.map f /\ ∀x∈l,ok x:=by
 induction g with
 |nil=>exact⟨[],rfl,λx hx=>by simp at hx⟩
 | cons x r j =>
  obtain⟨y,rfl,o⟩:=h x F3;obtain⟨l,rfl,p⟩:=j λx hx=>h x (by simp[hx]);exact⟨y::l,rfl,λz i=>by
   rcases AY.1 i with rfl|i
   ·exact o
   ·exact p z i⟩
def cD{o:Option Nat}{es g:List AV}(h:AV.sl o es∈g):SizeOf.sizeOf es<SizeOf.sizeOf (AV.agg g):=by
 have i:=List.sizeOf_lt_of_mem h;have j:SizeOf.sizeOf (AV.agg g)=1+SizeOf.sizeOf g:=F3;have p:SizeOf.sizeOf (AV.sl o es)=1+SizeOf.sizeOf o+SizeOf.sizeOf es:=F3;omega
def GK{a:AV}{l:List AV}(h:a∈l):a.bulk<=Fo l:=by
 induction l with
 |nil=>cases h
 |cons x l g =>
  simp only[Fo];rcases AY.1 h with rfl|h
  ·omega
  ·have:=g h;omega
def Hy(l:List AV)(a n:Nat):Fo ((l.drop a).take n)<=Fo l:=by
 have g:=Ox ((l.drop a).take n) ((l.drop a).drop n);have i:=Ox (l.take a) (l.drop a);rw[A8]at g i;omega
def Hr{α:Type}{f:α->AV}(g:∀x,1<=(f x).bulk)(l:List α):l.length<=Fo (l.map f):=by
 induction l with
 |nil=>simp
 |cons x l i =>
  have:=g x;simp only[AC,AW,Fo];omega
def Hq{s:ByteArray}{l:List AV}{B:Nat}(h:AV.str s∈l)(g:Fo l<=B):s.size<=B:=by
 have:=GK h;simp only[AV.bulk]at this;omega
def Gv{o:Option Nat}{g l:List AV}{B:Nat}(h:AV.sl o g∈l)(i:Fo l<=B):Fo g<=B:=by
 have:=GK h;simp only[AV.bulk]at this;omega
def AJr(P:Program)(t:TypeId):Option (List TypeId) :=
 match P.underlying t with
 |some (.struct g)=>some (g.toList.map (·.type))
 |some (.array n e)=>some (As n e)
 |_=>none
def aU{j:List TypeId}{g:List AV}(o:g.length=j.length)(h:∀(i:Nat) (t:TypeId) (x:AV),j[i]? =some t->g[i]? =some x->Rd P t x):Gx P j g:=by
 induction j generalizing g with
 |nil=>cases g with
  |nil=>trivial
  |cons=>simp at o
 |cons t j r=>cases g with
  |nil=>simp at o
  |cons p g=>exact⟨h 0 t p rfl rfl,r (by simpa using o) λi t x C I=>h (i+1) t x (by simpa using C) (by simpa using I)⟩
def GZ{ts:List TypeId}(g:AJr P t=some ts)(h:Rd P t a): ∃I,a = .agg (Hx I)/\Gx P ts I:=by
 unfold AJr at g;cases h with
 |struct h o p =>
  rw[h]at g;cases g;refine⟨_,rfl,aU (by simpa using o) λi t x j r=>?_⟩;rw[Ac]at j;rename_i J _;cases C:J.toList[i]? with
  |none=>rw[C]at j;cases j
  |some f=>rw[C]at j;cases j;exact p i f x (by simpa using C) r
 |array h o p =>
  rw[h]at g;cases g;refine⟨_,rfl,aU (by simpa using o) λi t x j r=>?_⟩;have:=List.eq_of_mem_replicate (AB j);subst this;exact p x (AB r)
 |int h O=>rw[h]at g;cases g
 |bool b h=>rw[h]at g;cases g
 |str h=>rw[h]at g;cases g
 |slice h=>rw[h]at g;cases g
end
end Go.AI
namespace Go.AI
def qE(h:Eo)(a:h.gc=[])(b:h.fz=[])(c:h.dy=[]):(∀k,h.ct k=none)/\(∀k,h.at k=[])/\(∀k,h.dn k=false):=by
 refine⟨λk=>?_,λk=>?_,λk=>?_⟩
 ·simp[Hint.ct,a]
 ·simp[Hint.at,b]
 ·simp[Hint.dn,Hint.da,Hint.mv,c]
structure FK (P:Program) (f:FuncId) (fn:Func) (h:Eo):Prop where
 m:P.follows .mixedOrders=true
 d:fn.body.any (HB h)=true
 g:P.funcs[f]? =some fn
 c:IB P f=true
def cF(c:AV):(borrow1 c).pure=c.pure:=by cases c<;>rfl
def RR(g:List AV):Fq (g.map borrow1)=Fq g:=by
 induction g with
 |nil=>rfl
 |cons c g i=>simp[Fq,cF,i]
def cG(a:AV):(borrow0 a).pure=a.pure:=by
 cases a<;>first|rfl|exact RR _
def ia(a:AV):a.borrow.pure=a.pure:=by
 cases a with
 |tup g =>
  show Fq (g.map borrow0)=Fq g;induction g with
  |nil=>rfl
  |cons c i j=>simp[Fq,cG,j]
 |agg i=>exact RR _
 |_=>rfl
def ABg{P:Program}{f:FuncId}{fn:Func}{c:Code}{j:List AV}{v:AV}(h:Eo)(hm:P.follows .mixedOrders=true)(C:fn.body.any (HB h)=true)(I:P.funcs[f]? =some fn)(J:fn.body=some c)(g:IB P f=true)
  (O:j.length<=fn.ntmps)(R:Fq j=true)(p:v.pure=true)(T:Jw P fn.ntmps h none c (Ut P fn.ntmps fn.results λr _=>r.borrow=v) (Gw 0 j) []):Fm P f j v:=λH =>
 ⟨g,λF G w us t=>Calls.mono (Kz (.inr rfl) hm C I J O T (t.hide (Ix R))) λe w' U=>by
  obtain⟨u,rfl,r,H2,G',rfl,o,i⟩:=U;obtain⟨V,h2⟩:=t.unhide (by rw[ia]at p;exact p) o i;exact⟨u,rfl,_,H,_,⟨rfl,rfl⟩,by simpa using V.lend,h2⟩⟩
def ls(g:List AV):borrow0 (.agg g) = .agg (g.map borrow1):=rfl
def lr(k:IntKind)(n:Int):borrow0 (.int k n) = .int k n:=rfl
def dp(b:Bool):borrow0 (.bool b) = .bool b:=rfl
def rS(o:Option Nat)(g:List AV):borrow0 (.sl o g) = .sl none g:=rfl
def cC(c x:AV)(g i:List AV):G8 (c::g) (x::i)=x::G8 g i:=by
 simp[G8,splice]
def iD(g:List AV):G8 g []=g:=by simp[G8,splice]
def vB(o:Option Nat)(g:List AV):(AV.sl o g).scalar=true:=rfl
def NF(n:Nat):Fl->Bool
 |[]=>true
 |some g::r=>F_ n g&&NF n r
 |none::r=>NF n r
def qk(n:Nat)(H:Fl):NF n H=H.all λo=>match o with
 |some g=>F_ n g
 |none=>true:=by
 induction H with
 |nil=>rfl
 |cons o r i=>cases o<;>simp[NF,i]
def AAX(H:Fl):WS H=NF H.length H:=(qk _ _).symm
def lU(n:Nat):NF n []=true:=rfl
def dg(n:Nat)(g:List AV)(r:Fl):NF n (some g::r)=(F_ n g&&NF n r):=rfl
def AA2(k:Nat):F_ k []=true:=rfl
def rT(k:Nat)(v:AV)(g:List AV):F_ k (v::g)=(v.bnd k&&F_ k g):=rfl
def AI1(k a b:Nat):(AV.ptr a b).bnd k=decide (a<k):=rfl
def AI2(k:Nat)(i:IntKind)(n:Int):(AV.int i n).bnd k=true:=rfl
def AaR(k:Nat)(o:Option Nat)(g:List AV):(AV.sl o g).bnd k=F_ k g:=rfl
def AIN(r:Option (AV×Fl))(t:Tmp)(g:List (Tmp×Option Nat×Bool))(Q:Exit->Kt)(e:GO)(H:Fl):Prop :=
 match r with
 |some (v,i)=>Vl g Q ((t,v)::e) i
 |none=>Vl g Q e H
def AYF(t:Tmp)(g:Bool)(i:List (Tmp×Option Nat×Bool))(Q:Exit->Kt)(e:GO)(H:Fl):Vl ((t,none,g)::i) Q e H=AIN (Kw g (GJ e t) H) t i Q e H:=by
 rw[bF];unfold ZV AIN;dsimp only;cases Kw g (GJ e t) H with
 |none=>rfl
 |some p=>rfl
def AAL(v:AV)(g:Fl)(t:Tmp)(i:List (Tmp×Option Nat×Bool))(Q:Exit->Kt)(e:GO)(H:Fl):AIN (some (v,g)) t i Q e H=Vl i Q ((t,v)::e) g:=AH rfl rfl
def AFG:Hx []=[]:=rfl
section
variable{α:Type}{f:α->List AV}{n:Nat}
def jg(g:∀x,(f x).length=n)(l:List α):(l.flatMap f).length=l.length*n:=by
 induction l with
 |nil=>simp
 |cons x j i=>simp[g,i,A1];omega
def WP{l:List α}{k:Nat}{x:α}(hx:l[k]? =some x):l.drop k=x::l.drop (k+1):=by
 obtain⟨h,rfl⟩:=AD.1 hx;exact BI h
def qo(g:∀x,(f x).length=n)(l:List α):IX true n l.length (l.flatMap f)=l.map λx => .agg (f x):=by
 induction l with
 |nil=>rfl
 |cons x j i =>
  simp only[AC,IX,BA,if_true,List.take_left' (g x),List.drop_left' (g x),i,AW]
def YB(g:List AV):IX false 1 g.length g=g:=by
 induction g with
 |nil=>rfl
 |cons x j i=>simp[IX,i]
def AAc(g:∀x,(f x).length=n){l:List α}{m:Nat}(hm:m=l.length):IX true n m (l.flatMap f)=l.map λx => .agg (f x):=by
 subst hm;exact qo g l
end
end Go.AI
namespace Go.AI
attribute [go_sem] Nat.reduceEqDiff Nat.reduceLT Nat.reduceAdd Nat.reduceSub Nat.reduceMul Nat.reduceBEq Nat.reduceLeDiff Nat.reduceDvd reduceCtorEq Int.reduceToNat Int.reduceLT Int.reduceLE
attribute [go_sem] Nat.le_refl Int.le_refl false_implies implies_true Kw List.take_length AY List.not_mem_nil or_false forall_eq_or_imp forall_eq List.range_succ EQ exists_eq_left' Option.some.injEq
attribute [go_sem ↓] reduceIte
attribute [go_sem] Ax Ay
section
variable{P:Program}{f:FuncId}{fn:Func}{h:Eo}{c:Code}{vs:List AV}{v:AV}{Q:AV->Prop}{R:AV->Fl->Prop}{H:Fl}
def pC(k:FK P f fn h)(g:fn.body=some c)(i:Jw P fn.ntmps h none c (Ut P fn.ntmps fn.results λj _=>j=v) (Gw 0 vs) [])(o:vs.length.ble fn.ntmps=true:=by rfl)(p:Fq vs=true:=by simp[Fq,AV.pure,go_sem])(r:v.pure=true:=by rfl):Fm P f vs v :=
 AGU h k.m k.d k.g g k.c (CQ o) p r i
def pB(k:FK P f fn h)(g:fn.body=some c)(i:Jw P fn.ntmps h none c (Ut P fn.ntmps fn.results λj _=>j.borrow=v) (Gw 0 vs) [])(o:vs.length.ble fn.ntmps=true:=by rfl)(p:Fq vs=true:=by simp[Fq,AV.pure,go_sem])(r:v.pure=true:=by simp[Fq,AV.pure,go_sem]):Fm P f vs v :=
 ABg h k.m k.d k.g g k.c (CQ o) p r i
def qC(k:FK P f fn h)(i:fn.body=some c)(j:Jw P fn.ntmps h none c (Ut P fn.ntmps fn.results λg _=>g.pure=true/\Q g) (Gw 0 vs) [])(o:vs.length.ble fn.ntmps=true:=by rfl)(p:Fq vs=true:=by simp[Fq,AV.pure,go_sem]):K9 P f vs Q :=
 AGQ h k.m k.d k.g i k.c (CQ o) p j
def aC(k:FK P f fn h)(g:fn.body=some c)(i:Jw P fn.ntmps h none c (Ut P fn.ntmps fn.results R) (Gw 0 vs) H)(j:h.gc=[]:=by rfl)(o:vs.length.ble fn.ntmps=true:=by rfl):Fw P f vs H R :=
 nZ h j k.m k.d k.g g k.c (CQ o) i
def aN(k:FK P f fn h)(i:fn.body=some c)(j:Jw P fn.ntmps h none c (Ut P fn.ntmps fn.results R) (Gw 0 vs) [])(o:vs.length.ble fn.ntmps=true:=by rfl):Fw P f vs [] R :=
 ⟨k.c,λF G w p g=>Kz (.inr (List.length_eq_zero_iff.1 g.h.len)) k.m k.d k.g i (CQ o) j g⟩
end
section
variable{P:Program}{f:FuncId}{vs:List AV}{d:Option Tmp}{K A B:Kt}{e:GO}{H:Fl}{v:AV}{t b:Bool}
def pK(g:Fm P f vs v)(i:K (put d v e) H):Ye P f vs d K e H:=⟨v,g,i⟩
def cS(g:t=true->A e H)(i:t=false->B e H):lQ (.bool t) A B e H:=VN _ _ _ g i
def gS(g:t=b->A e H)(i:t=(!b)->B e H):Xj (.bool t) b A B e H:=qO _ _ _ _ g i
class FS (X:Prop) (p q Y Z:outParam Prop):Prop where s : (p->Y)->(q->Z)->X
instance : FS (lQ (.bool t) A B e H) (t=true) (t=false) (A e H) (B e H):=⟨cS⟩
instance : FS (Xj (.bool t) b A B e H) (t=b) (t=(!b)) (A e H) (B e H):=⟨gS⟩
theorem Pz{X p q Y Z:Prop}[i:FS X p q Y Z](h:p->Y)(k:q->Z):X:=i.s h k
end
def Uj(s:ByteArray):s.data.toList.length=s.size:=by
 have:s.size=s.data.size:=rfl;rw[this,Array.length_toList]
def GI{α:Type}{l:List α}{k:Nat}{x:α}{g:List α}(h:l.drop k=x::g):l.length=k+g.length+1:=by
 have:=congrArg List.length h;simp at this;omega
def AJo(e:GO)(H:Fl):At e e H H=True:=by simp[At]
section
variable{P:Program}{m:Nat}{h:Eo}{e:GO}{H:Fl}{Q:Exit->Kt}{ops:Array Oper}{ar:Option Nat}{α σ ρ:Type}
def AGG(F:List α->ρ)(E:Nat->GO)(j:Fl)(k:Nat)(x:α)(i:List α)(Q:Exit->Kt)(g:Exit):Kt:=λe H =>
 match g with
 |.normal=>F (x::i)=F i/\At e (E (k+1)) H j
 |g=>Q g e H
def mG(F:List α->ρ)(E:Nat->GO)(i:Fl)(k:Nat)(x:α)(g:List α):AGG F E i k x g Q .normal e H=(F (x::g)=F g/\At e (E (k+1)) H i):=AH rfl rfl
def AGF(F:List α->ρ)(E:Nat->GO)(g:Fl)(k:Nat)(x:α)(i:List α):AGG F E g k x i Q .ret=Q .ret:=AH rfl rfl
def ABV(F:List α->ρ)(E:Nat->GO)(g:Fl)(k:Nat)(x:α)(i:List α)(j:Nat):AGG F E g k x i Q (.exit j)=Q (.exit j):=AH rfl rfl
def F0{c:Code}(l:List α)(F:List α->ρ)(E:Nat->GO)(r:l.length<=9223372036854775807)(t:e=E 0)
  (g:∀k x i,l.drop k=x::i->l[k]? =some x->F l=F (x::i)->0<=(k:Int)->(k:Int)<(l.length:Int)->IntKind.i64.wrap ((k:Int)+1)=((k+1:Nat):Int)->Jw P m h ar c (AGG F E H k x i Q) (E k) H)
  (j:F l=F [] -> ¬(l.length:Int)<(l.length:Int)->Jw P m h ar c (tn Q) (E l.length) H):Jw P m h ar (.loop c) Q e H:=by
 refine F6 l (λ(_:Unit) l=>F l) (λ_ _=>True) (λk _=>E k) (λ_ _=>H) () r trivial t rfl (λk _ x i o C _ I J O R=>?_) λ_ _ o=>j o (Int.lt_irrefl _);refine G9 c _ _ _ _ (λT e H p=>?_) (g k x i o C I J O R);cases T with
 |normal=>exact⟨(),p.1,trivial,p.2⟩
 |_=>exact p
def YN{c:Code}(s:ByteArray)(F:List UInt8->ρ)(E:Nat->GO)(t:s.size<=9223372036854775807)(C:e=E 0)
  (g:∀k x i,s.data.toList.drop k=x::i->(s.data[k]?).getD 0=x->F s.data.toList=F (x::i)->0<=(k:Int)->(k:Int)<(s.size:Int)->IntKind.i64.wrap ((k:Int)+1)=((k+1:Nat):Int)->s.size=k+i.length+1->Jw P m h ar c (AGG F E H k x i Q) (E k) H)
  (j:F s.data.toList=F [] -> ¬(s.size:Int)<(s.size:Int)->Jw P m h ar c (tn Q) (E s.size) H):Jw P m h ar (.loop c) Q e H:=by
 refine F0 s.data.toList F E (by rw[Uj];exact t) C (λk x i o p I J r O=>g k x i o ?_ I J (by rw[Uj]at r;exact r) O (by have:=GI o;rw[Uj]at this;exact this)) ?_
 ·rw[Af]at p;rw[p];rfl
 ·rw[Uj];exact j
end
section
variable{P:Program}{n:Nat}{h:Eo}{H:Fl}{Q:Exit->Kt}{ops:Array Oper}{ar:Option Nat}{K:GO->Fl->Prop}
end
theorem Fk(a b:ByteArray):(a.toList==b.toList)=decide (a=b):=by
 rw[Bool.eq_iff_iff,beq_iff_eq,decide_eq_true_eq,ByteArray.toList_eq,ByteArray.toList_eq];exact⟨λh=>ByteArray.ext (Array.toList_inj.1 h),λh=>by rw[h]⟩
end Go.AI
namespace Go.AI
def dq{k:Nat}{v:AV}(h:∀c∈v.cells,c.bnd k=true):v.bnd k=true:=by
 cases v<;>first|exact h _ (Ag.2 rfl)|skip
 simp only[AV.bnd];exact Gt.2 h
def VRel.bnd{G:Gh}{w:World}{a:AV}{v:Value}(h:Em G w a v):a.bnd G.obs.length=true:=by
 induction h with
 |ptr o r b h j=>simpa [AV.bnd]using(AD.1 h).1
 |cptr U r b q u h hu p =>
  simp only[AV.bnd];refine Gt.2 λc j=>?_;obtain⟨i,g⟩:=Ab j;exact p i c g
 |sl own es V b q J u hsz hown C hm h hu p =>
  simp only[AV.bnd];refine Gt.2 λe he=>dq λc j=>?_;obtain⟨i,g⟩:=Ab (B1.2 ⟨e,he,j⟩:c∈Hx es);exact p i c g
 |msl o r O V b J h C hm j=>simpa [AV.bnd]using(AD.1 h).1
 |mslc o r O V J b h C hm j=>simpa [AV.bnd]using(AD.1 h).1
 | fn f first I fi ca h1 h2 h3 h4 P R =>
  simp only[AV.bnd,AQ];refine⟨Gt.2 λc j=>?_,Gt.2 λc j=>?_⟩
  ·obtain⟨i,g⟩:=Ab j;have C:=(AD.1 g).1;exact P i c _ g (Al Fj)
  ·obtain⟨i,g⟩:=Ab j;have C:=(AD.1 g).1;exact R i c _ g (Al Fj)
 |mapr o b h hb hk=>simpa [AV.bnd]using(AD.1 h).1
 |it o b h hb hk=>simpa [AV.bnd]using(AD.1 h).1
 |yld o b L h hb hk=>simpa [AV.bnd]using(AD.1 h).1
 |ifc t a v hs h p=>simpa [AV.bnd]using p
 |agg U vs C hs h p =>
  simp only[AV.bnd];refine Gt.2 λc j=>?_;obtain⟨i,g⟩:=Ab j;have T:=(AD.1 g).1;exact p i c _ g (Al Fj)
 |tup U vs C hs h p =>
  simp only[AV.bnd];refine Gt.2 λc j=>?_;obtain⟨i,g⟩:=Ab j;have T:=(AD.1 g).1;exact p i c _ g (Al Fj)
 |_=>rfl
section
variable{P:Program}{F:Nat->Prop}{G:Gh}{w:World}{H:Fl}
def ORel.bnd{R:List AV}{b:Nat}(h:ORel F G w R b):F_ G.obs.length R=true:=by
 have r:=h.is;split at r
 ·obtain⟨C,E,T,P,O⟩:=r;refine Gt.2 λc j=>?_;obtain⟨i,g⟩:=Ab j;have I:=(AD.1 g).1;exact(O i c _ g (Al Fj)).2.1.bnd
 ·obtain⟨es,ms,cl,T,P,O,U,V⟩:=r;subst P;simp only[Kn,F_,AV.bnd,Bo];refine Gt.2 λc j=>?_;obtain⟨p,hp,j⟩:=B1.1 j;obtain⟨i,J⟩:=Ab hp;have I:=(AD.1 J).1;obtain⟨_,_,a3,a4⟩:=U i p _ J (Al Fj);rcases AY.1 j with rfl|j
  ·exact a3.bnd
  ·rcases Ag.1 j with rfl;exact a4.bnd
 ·rcases r with⟨s,pos,h1,rfl⟩|⟨h1,rfl⟩|⟨o,mb,si,se,h1,rfl,h3⟩
  ·simp[Xe,F_,AV.bnd]
  ·simp[F_,AV.bnd]
  ·have:=h3.bnd;simp only[VK,F_,this,Ba,Bo];simp only[AV.bnd,Ba];exact Hv λ_=>rfl
 ·obtain⟨s,pe,t,D,st,vals,T,P,O,U,V⟩:=r;subst O;simp only[Hl,F_,AV.bnd,Bo,Ba];refine Gt.2 λc j=>?_;obtain⟨i,g⟩:=Ab j;have I:=(AD.1 g).1;exact(V i c _ g (Al Fj)).2.bnd
 ·exact r.elim
def HRel.closed(h:HRel F G H w):TJ H:=λo i g=>by
 have j:=(AD.1 g).1;have p:=h.len;have:=(h.obj o i _ g (AL Fj)).bnd
 rwa [p]at this
def Fw.drop{f:FuncId}{vs:List AV}{v:AV}(C:v.bnd H.length=true)(h:Fw P f vs H λi j=>i=v /\ ∃ext,j=H++ext):Fw P f vs H λi j=>i=v/\j=H :=
 ⟨h.1,λF G w I p=>Calls.mono (h.2 F G w I p) λe T J=>by
  obtain⟨u,rfl,i,U,O,⟨rfl,ext,rfl⟩,r,g⟩:=J;refine⟨u,rfl,_,H,_,⟨rfl,rfl⟩,r.cut C p.h.closed,⟨g.size,⟨λo b t=>?_,g.keeps.shape,g.keeps.sp,g.keeps.safe⟩,g.kind,g.cells,g.io⟩⟩;have R:=(AD.1 t).1;show(O.obs.take H.length)[o]? =some b;rw[By (by have:=p.h.len;omega)];exact g.keeps.obs o b t⟩
end
def qb(H x:Fl):(∃ext,H++x=H++ext)=True:=eq_true ⟨x,rfl⟩
def lH(H:Fl):(∃ext,H=H++ext)=True:=eq_true ⟨[],F3⟩
def AaS(f:Fn)(a b:List AV)(n:Nat):(AV.fn f a b).bnd n=(F_ n a&&F_ n b):=rfl
end Go.AI
namespace Go.AI
section
variable{P:Program}{n:Nat}{h:Eo}{ops:Array Oper}{K:Kt}{p:Tmp×AV}{e:GO}{H:Fl}{d:Tmp}{ty:TypeId}{ps:String}{af:Array Edge}{Q:Exit->Kt}
def Aks(P:Program)(t:TypeId)(x:AV)(d:Tmp)(K:Kt)(e:GO)(H:Fl):Prop:=SQ P t H x λv g=>K ((d,v)::e) g
def AdF(str:Bool)(x:AV)(d:Tmp)(K:Kt)(e:GO)(H:Fl):Prop :=
 match x with
 |.it o=>YQ str H o λv g=>K ((d,v)::e) g
 |_=>False
def ALd(P:Program)(t:TypeId)(i:Bool)(m k:AV)(d:Tmp)(K:Kt)(e:GO)(H:Fl):Prop :=
 match P.underlying t with
 |some (.map j o)=>match JZ H m with
  |some g=>NS P j (k::g.map (·.1))/\TG g /\ ∃z,F8 P o=some z/\K ((d,je i z (Jx k g 0))::e) H
  |none=>False
 |_=>False
def AK5(P:Program)(t:TypeId)(m k v:AV)(K:Kt)(e:GO)(H:Fl):Prop :=
 match m with
 | .mapr o=>match P.underlying t with
  |some (.map i _)=>match JZ H (.mapr o)with
   |some g=>NS P i (k::g.map (·.1))/\TG g/\v.isVal=true/\K e (H.set o (some (Kn (NO g k v))))
   |none=>False
  |_=>False
 |_=>False
def mC(t:TypeId):JK P n h ops ⟨some d,.makeMap t none,ty,ps,af,none⟩ K (p::e) H=(d<n/\K ((d,.mapr H.length)::p::e) (H++[some (Kn [])])):=by
 rw[Ga _ rfl];simp only[GU,IA,Op.operands,Gk,Ah,put,HO];rfl
def ABL(t:TypeId)(x:Operand):JK P n h ops ⟨some d,.range t x,ty,ps,af,none⟩ K (p::e) H=(d<n/\Aks P t (Hh P none (p::e) x).borrow d K (p::e) H):=by
 rw[Ga _ rfl];simp only[GU,IA,Op.operands,Gk,AW,Ah,put,HO];rfl
def AGA(x:Operand)(b:Bool):JK P n h ops ⟨some d,.next x b,ty,ps,af,none⟩ K (p::e) H=(d<n/\AdF b (Hh P none (p::e) x).borrow d K (p::e) H):=by
 rw[Ga _ rfl];simp only[GU,IA,Op.operands,Gk,AW,Ah,put,HO];congr 1;unfold AdF;generalize (Hh P none (p::e) x).borrow=v;cases v<;>rfl
def rj(t:TypeId)(x k:Operand)(g:Bool):JK P n h ops ⟨some d,.lookup t x k g,ty,ps,af,none⟩ K (p::e) H =
  (d<n/\ALd P t g (Hh P none (p::e) x).borrow (Hh P none (p::e) k).borrow d K (p::e) H):=by
 rw[Ga _ rfl];simp only[GU,IA,Op.operands,Gk,AW,Ah,put,HO];rfl
def Zd(t:TypeId)(x k v:Operand):JK P n h ops ⟨none,.mapUpdate t x k v,ty,ps,af,none⟩ K (p::e) H =
  AK5 P t (Hh P none (p::e) x).borrow (Hh P none (p::e) k).borrow (Hh P none (p::e) v).borrow K (p::e) H:=by
 rw[Ga _ rfl];simp only[GU,IA,Op.operands,Gk,AW,Ah,put,HO];rw[true_and];generalize (Hh P none (p::e) x).borrow=g;cases g<;>rfl
end
def jc{H:Fl}{o:Nat}{g:List (AV×AV)}(h:H[o]? =some (some (Kn g))):JZ H (.mapr o)=some g:=by
 simp only[JZ,h,U6]
def Xa{P:Program}{g:TypeId}{k:IntKind}(h:P.underlying g=some (.int k)){i:List AV}(j:∀a∈i,∃n,a = .int k n):NS P g i :=
 ⟨_,KLaw.plain h,λa o=>by obtain⟨n,rfl⟩:=j a o;exact⟨_,rfl,rfl⟩⟩
def MN{α:Type}(f:α->AV)(l:List α):List (AV×AV):=l.map λx=>(f x,.bool true)
def Q4{α:Type}(f:α->AV)(k:AV): ∀(l:List α) (i:Nat),(Jx k (MN f l) i).map (·.2)=if l.any (λx=>If (f x) k)=true then some (.bool true)else none
 |[],i=>rfl
 | x::l,i=>by
  unfold MN;rw[AW,Jx,Av];by_cases h:If (f x) k=true
  ·rw[iP h,h];rfl
  ·rw[iN h];have g:If (f x) k=false:=by simpa using h
   rw[g,BC];exact Q4 f k l (i+1)
def ALe{α:Type}(f:α->AV)(k:AV)(l:List α):je false (.bool false) (Jx k (MN f l) 0) = .bool (l.any λx=>If (f x) k):=by
 have h:=Q4 f k l 0;cases g:Jx k (MN f l) 0 with
 | none =>
  rw[g]at h;split at h
  ·cases h
  ·rename_i i;have:(l.any λx=>If (f x) k)=false:=by simpa using i
   rw[this];rfl
 | some q =>
  rw[g]at h;split at h
  ·rename_i o;obtain⟨j,v⟩:=q;have p:v = .bool true:=by simpa using h
   subst p;rw[o];rfl
  ·cases h
def AHI{α:Type}(f:α->AV)(x:α)(l:List α)(h:(l.any λy=>If (f y) (f x))=false):NO (MN f l) (f x) (.bool true)=MN f (l++[x]):=by
 have g:=Q4 f (f x) l 0;rw[h]at g;have i:Jx (f x) (MN f l) 0=none:=by
  cases j:Jx (f x) (MN f l) 0 with
  |none=>rfl
  |some q=>rw[j]at g;cases g
 unfold NO;rw[i];simp[MN]
def iG{α:Type}(f:α->AV)(l:List α):(MN f l).map (·.1)=l.map f:=by simp[MN,List.map_map]
def TF{α:Type}(f:α->AV):List α->Prop
 |[]=>True
 |x::l=>(∀y∈l,If (f x) (f y)=false)/\TF f l
def Xv{α:Type}(f:α->AV): ∀{l:List α},TF f l->TG (MN f l)
 |[],_=>List.Pairwise.nil
 |x::l,h=>List.Pairwise.cons (λq g=>by obtain⟨y,i,rfl⟩:=AN.1 g;exact h.1 y i) (Xv f h.2)
def Xw{α:Type}(f:α->AV)(x:α): ∀{l:List α},TF f l->(l.any λy=>If (f y) (f x))=false->TF f (l++[x])
 |[],_,_=>⟨λy j=>by simp at j,trivial⟩
 | y::l,h,i=>by
  rw[Av,Bool.or_eq_false_iff]at i;refine⟨λz g=>?_,Xw f x h.2 i.2⟩;rcases Ar.1 g with g|g
  ·exact h.1 z g
  ·rcases Ag.1 g with rfl;exact i.1
attribute [go_sem] vz ADo AAZ qn ACu qe AIQ AIS AE2 AIR AEz AE0 AEy AE1 jY jX vi o7 vd oo vg o6 vf ve vh ou ADU oq vj vc o8 o9 pA jC o_ rP lm rM rN ll AAz rO lj AA0 rQ rL rR lq lp AAi AAh qu AAe qp AAf AFD AAg wh wg pz wc wd AEC we oz vZ vl jB lk rJ qt qq AFE qr AAd pw AED wb Aci AK9 AK8 n_ uu AFf AA3 qN AIF AII AIG AIH AEi ACZ AIc AId AF5 ABB AF2 AI_ AF3 AI9 ABA AF4 rV Za AIV AEn AEm AEl iI ACc u_ lu AFg AFh AA4 AGP mc AHO AHN iO ACq ACk ACl ACj oK ut n9 ABN AGB rk AF' AJK AGC ABJ d' AF9 Zg ABO mD AJI ABR AaX AaW jT jW jU jV cZ ZL AFz AFp AFt AFr AFq AFy AFs AFu AFv AFw AFx AA7 AA6 AA' AA_ Zf ABM rl ABC AI' AJF vC AF8 ABG AF7 AGE eD ABQ YP ABK AJG AJH AHt AHu mE Ze Aac Aab ABS ABP AJJ AGD mF ADv AHz ADu up kz AB9 ky AB' uj uq uh AB6 qY lF iA h_ uo ny nv k_ AAM nu AHH AB5 cE vA oG qc ls lr dp rS cC iD vB AAX lU dg AA2 rT AI1 AI2 AaR AYF AAL AFG AJo mG AGF ABV qb lH AaS mC ABL AGA rj Zd
end Go.AI
