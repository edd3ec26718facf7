/- A step as the specification says it: what doS is,kind by kind;the least free number. -/
import Derived.Test.YtfohpcndcpadgaaGreatDoorMl
set_option linter.unusedSimpArgs false
set_option linter.unusedVariables false
set_option linter.defProp false
set_option maxHeartbeats 4000000
open Go.Proofs.Tryz
open Go.AI renaming Doing->Fb,Entry->Fc,Head->H0,Setup->Fe,Item->Ff,Delivery->Fg,Arrival->Fh,Tenant->Fi
open Bool renaming and_eq_true->AQ,false_and->CO,not_false->Ay,not_true->Ax,true_and->Ba
open Eq renaming trans->AH
open Int renaming add_zero->CT,lt_irrefl->AR
open List renaming drop_zero->BE,find?_cons->BN,getElem?_concat_length->BT,getElem?_eq_getElem->AL,getElem?_eq_none->A0,getElem?_eq_some_iff->AD,getElem?_set_ne->A2,getElem?_set_self->Aw,length_append->AE,length_cons->AC,length_filter_le->CS,length_nil->AG,length_replicate->D8,length_set->Aj,length_singleton->BQ,length_take->BB,map_cons->AW,mem_append->Ar,mem_cons->AY,mem_map->AN,mem_of_getElem?->AB,mem_or_eq_of_mem_set->DR,nil_append->AM,pairwise_cons->BM,replicate->As,replicate_succ->CE,take_add_one->BF,take_length->BL
open Nat renaming le_refl->AS,le_trans->AJ,sub_self->AP,succ_le_succ->C6,zero_add->AX
open Option renaming getD_some->BP
open Go.Proofs.Tryz renaming prog->AA
namespace Go.AI
open Go.Proofs
set_option maxRecDepth 50000
def AKD{D:Fb}(e:D.step.kind=1):TE D=SL D:=by unfold TE;rw[iP e]
def AKC{D:Fb}(e:D.step.kind=2):TE D=jH D:=by unfold TE;rw[iN Fj,iP e]
def Ajq{D:Fb}(e:D.step.kind=3):TE D=Ud D:=by unfold TE;rw[iN Fj,iN Fj,iP e]
def AE9{D:Fb}(e:D.step.kind=4):TE D=JW D:=by unfold TE;rw[iN Fj,iN Fj,iN Fj,iP e]
def Ajp{D:Fb}(e:D.step.kind=5):TE D=Rb D:=by unfold TE;rw[iN Fj,iN Fj,iN Fj,iN Fj,iP e]
def AKB{D:Fb}(e:D.step.kind=6):TE D=JM D:=by unfold TE;rw[iN Fj,iN Fj,iN Fj,iN Fj,iN Fj]
section
variable{l:List Fld}{s:Stp}{st:List Fc}{h:H0}{tick:Int}
def SJ(l:List Fld)(s:Stp)(st:List Fc)(h:H0):Fc:=(Hj st s.var (HZ l s.key h)).getD ⟨s.var,HZ l s.key h,0,0⟩
def S9(l:List Fld)(s:Stp)(st:List Fc)(h:H0):Prop:=Hj st s.var (HZ l s.key h)=none/\100<=(M9 st s.var).length
def QC(e:s.kind≠0):PE l s st h tick=(if(TE (JV l s st h tick)).2=true then(TE (JV l s st h tick)).1.head else h,(TE (JV l s st h tick)).2,(TE (JV l s st h tick)).1.st):=by unfold PE;rw[iN e]
def tT(x:Fc)(g:S9 l s st h):Gr { JV l s st h tick with entry:=x }=({ JV l s st h tick with entry:=x },false):=by
 unfold Gr;rw[iP];exact⟨by unfold JV;rw[g.1];rfl,g.2⟩
def kE(x:Fc)(i:¬S9 l s st h):Gr { JV l s st h tick with entry:=x }=({ JV l s st h tick with entry:=x,st:=Lp st x },true):=by
 unfold Gr;rw[iN]
 ·rfl
 ·rintro ⟨g,j⟩;refine i ⟨?_,j⟩;unfold JV at g;dsimp only at g;cases hx:Hj st s.var (HZ l s.key h)with
  |none=>rfl
  |some y=>rw[hx]at g;cases g
def AZ1(e:s.kind=0):PE l s st h tick=(h,true,st):=by unfold PE;rw[iP e]
def AZy(e:s.kind=3):PE l s st h tick=(h,(Hj st s.var (HZ l s.key h)).isSome&&decide (IntKind.i64.wrap (tick - s.n)<=(SJ l s st h).at_),st):=by
 rw[QC Fj,Ajq (by exact e)];unfold Ud JV SJ;dsimp only;rw[ite_self]
def AZx(e:s.kind=5):PE l s st h tick=match st.find? (S6 (JV l s st h tick))with
  |none=>(h,false,st)
  |some y=>(nb l h (s.key.zip y.key),true,st):=by
 rw[QC Fj,Ajp (by exact e)];have g:Rb (JV l s st h tick)=match st.find? (S6 (JV l s st h tick))with
  |none=>(JV l s st h tick,false)
  |some y=>({ JV l s st h tick with head:=nb l h (s.key.zip y.key) },true):=rfl
 rw[g];cases st.find? (S6 (JV l s st h tick))<;>rfl
def Ajo(e:s.kind=1\/s.kind=2\/s.kind=4\/s.kind=6)(g:S9 l s st h):PE l s st h tick=(h,false,st):=by
 rw[QC Fj];rcases e with e|e|e|e
 ·rw[AKD (by exact e)];unfold SL;rw[tT _ g];rfl
 ·rw[AKC (by exact e)];unfold jH;rw[tT _ g];rfl
 ·have j:(JV l s st h tick).is=false:=by unfold JV;rw[g.1];rfl
  have i:JW (JV l s st h tick)=if s.m<Hz (Kh (JV l s st h tick)) s.n then({ JV l s st h tick with entry:={ (JV l s st h tick).entry with n:=Hz (Kh (JV l s st h tick)) s.n,at_:=tick } },false)else ug (Gr { JV l s st h tick with entry:={ (JV l s st h tick).entry with n:=Hz (Kh (JV l s st h tick)) s.n,at_:=tick } }):=by
   unfold JW;rw[iN (by rw[j];decide)];rfl
  rw[AE9 (by exact e),i];split
  ·rfl
  ·rw[tT _ g];rfl
 ·have i:JM (JV l s st h tick)=((Gr { JV l s st h tick with entry:=L6 (KI s (Ll s (JV l s st h tick).entry (JV l s st h tick).is tick) tick) }).1,(Gr { JV l s st h tick with entry:=L6 (KI s (Ll s (JV l s st h tick).entry (JV l s st h tick).is tick) tick) }).2&&decide (0<(KI s (Ll s (JV l s st h tick).entry (JV l s st h tick).is tick) tick).n)):=rfl;rw[AKB (by exact e),i,tT _ g];rfl
def AZ0(e:s.kind=1)(g:¬S9 l s st h):PE l s st h tick=(Y7 l h s.field (Pu ((SJ l s st h).n+1) 65535),true,Lp st { SJ l s st h with n:=Pu ((SJ l s st h).n+1) 65535,at_:=tick }):=by
 rw[QC Fj,AKD (by exact e)];unfold SL;rw[kE _ g];rfl
def AZz(e:s.kind=2)(g:¬S9 l s st h):PE l s st h tick=(h,true,Lp st { SJ l s st h with at_:=tick }):=by
 rw[QC Fj,AKC (by exact e)];unfold jH;rw[kE _ g];rfl
def AIX(e:s.kind=4){y:Fc}(g:Hj st s.var (HZ l s.key h)=some y):PE l s st h tick=(Y7 l h s.field y.n,true,Lp st { y with at_:=tick }):=by
 have i:¬S9 l s st h:=λi=>by rw[i.1]at g;cases g
 have j:(JV l s st h tick).entry=y:=by unfold JV;rw[g];rfl
 have o:(JV l s st h tick).is=true:=by unfold JV;rw[g];rfl
 have p:JW (JV l s st h tick)=ug (Gr { JV l s st h tick with entry:={ y with at_:=tick } }):=by
  unfold JW;rw[iP o,j];rfl
 rw[QC Fj,AE9 (by exact e),p,kE _ i];rfl
def AIY(e:s.kind=4)(g:Hj st s.var (HZ l s.key h)=none)(i:¬S9 l s st h):PE l s st h tick=if s.m<Hz ((M9 st s.var).map (·.n)) s.n then(h,false,st)else(Y7 l h s.field (Hz ((M9 st s.var).map (·.n)) s.n),true,Lp st ⟨s.var,HZ l s.key h,Hz ((M9 st s.var).map (·.n)) s.n,tick⟩):=by
 have j:(JV l s st h tick).entry=⟨s.var,HZ l s.key h,0,0⟩:=by unfold JV;rw[g];rfl
 have o:(JV l s st h tick).is=false:=by unfold JV;rw[g];rfl
 have p:Kh (JV l s st h tick)=(M9 st s.var).map (·.n):=rfl;have r:JW (JV l s st h tick)=if s.m<Hz ((M9 st s.var).map (·.n)) s.n then({ JV l s st h tick with entry:=⟨s.var,HZ l s.key h,Hz ((M9 st s.var).map (·.n)) s.n,tick⟩ },false)else ug (Gr { JV l s st h tick with entry:=⟨s.var,HZ l s.key h,Hz ((M9 st s.var).map (·.n)) s.n,tick⟩ }):=by
  unfold JW;rw[iN (by rw[o];decide),p,j];rfl
 rw[QC Fj,AE9 (by exact e),r];split
 ·rfl
 ·rw[kE _ i];rfl
def AZw(e:s.kind=6)(g:¬S9 l s st h):PE l s st h tick=(h,decide (0<(KI s (Ll s (SJ l s st h) (Hj st s.var (HZ l s.key h)).isSome tick) tick).n),Lp st (L6 (KI s (Ll s (SJ l s st h) (Hj st s.var (HZ l s.key h)).isSome tick) tick))):=by
 have i:JM (JV l s st h tick)=((Gr { JV l s st h tick with entry:=L6 (KI s (Ll s (SJ l s st h) (Hj st s.var (HZ l s.key h)).isSome tick) tick) }).1,(Gr { JV l s st h tick with entry:=L6 (KI s (Ll s (SJ l s st h) (Hj st s.var (HZ l s.key h)).isSome tick) tick) }).2&&decide (0<(KI s (Ll s (SJ l s st h) (Hj st s.var (HZ l s.key h)).isSome tick) tick).n)):=rfl;rw[QC Fj,AKB (by exact e),i,kE _ g];dsimp only;rw[Ba];have j:(JV l s st h tick).head=h:=rfl;rw[j,ite_self]
end
def UY{U:List Int}{g:Int}: ∀k:Nat,(∀m:Int,g<=m->m<g+k->m∈U)->Hz U g=Hz U (g+k)/\(U.filter λx=>decide (g+k<=x)).length+k<=(U.filter λx=>decide (g<=x)).length
 | 0,_=>F3
 |k+1,h=>by
  obtain⟨i,p⟩:=UY k λm j r=>h m j Fj;have hm:=h (g+k) Fj Fj;have h3:=UZ U (g+k) hm;have o:g+((k+1:Nat):Int)=g+k+1:=Fj;rw[o];exact⟨by rw[i,ke hm],Fj⟩
def kg{U:List Int}{g:Int}{k:Nat}(h:∀m:Int,g<=m->m<g+k->m∈U):k<=U.length:=by
 have i:=(UY k h).2;have j:=CS (λx=>decide (g<=x)) U;omega
def S_(U:List Int)(g i:Int):Int:=if i<Hz U g then -1 else Hz U g
end Go.AI
namespace Go.AI
open Go.Proofs
set_option maxRecDepth 50000
def AFa(l:List Fc)(R:l.length<=1073741824)(O : ∀ y∈l,y.key.length<=1073741824)(v:ByteArray)(g:List Int):Fm AA 145 [.sl none (Fs l),.str v,.sl none (Gi g)] (.tup [.agg ((l.find? (Vj v g)).getD Entry.z).c,.bool (l.find? (Vj v g)).isSome]):=by
 have j:(Fs l).length=l.length:=HK l;refine pB AWA rfl ?_;simp only[f145,go_sem];refine F6 l (λ(_:Unit) r=>r.find? (Vj v g)) (λ_ _=>True) (λk _=>[(0,.sl none (Fs l)),(1,.str v),(2,.sl none (Gi g)),(6,.ptr 0 0),(8,.int .i64 k)]) (λ_ _=>[some (Entry.z.cf (some 1))]) () Fj trivial rfl rfl ?_ ?_
 ·intro k _ x T U hx _ i o p J;have P:=rF x.key g (O x (AB hx));rw[BN]at i;simp only[go_sem,o,p,Fz hx,j,Fk];cases C:decide (x.var=v)with
  |false =>
   have t:Vj v g x=false:=by rw[Vj,C];rfl
   rw[t]at i;simp only[go_sem,o,p,Fz hx,j,C,J];exact⟨(),by rw[BN,t]⟩
  | true =>
   have t:Vj v g x=(Kg x.key g==0):=by rw[Vj,C];rfl
   rw[t]at i;simp only[go_sem,o,p,Fz hx,j,C];apply pK P;cases I:(Kg x.key g==0)with
   |false =>
    simp only[go_sem,o,p,Fz hx,j,I,J];exact⟨(),by rw[BN,t,I]⟩
   |true =>
    rw[I]at i;rw[i];simp only[go_sem,o,p,Fz hx,j,I]
 ·intro _ _ i;simp only[go_sem,AR,dF,j];rw[i];rfl
def AaM(l:List Fc)(J:l.length<=1073741824)(v:ByteArray):Fm AA 238 [.sl none (Fs l),.str v] (.sl none (Fs (M9 l v))):=by
 have g:(Fs l).length=l.length:=HK l;refine pB AQ5 rfl ?_;simp only[f238,go_sem];refine F6 l (λ(o:List Fc) r=>o++M9 r v) (λk o=>o.length<=k) (λk o=>[(0,.sl none (Fs l)),(1,.str v),(5,.sl (some 4) (Fs o)),(6,.int .i64 k)]) (λ_ _=>[]) [] Fj (AS _) rfl rfl ?_ ?_
 ·intro k o x O P hx R p i j t;have I:=(AD.1 hx).1;simp only[go_sem,i,j,Fz hx,g,Fk];cases C:decide (x.var=v)with
  |false =>
   simp only[go_sem,i,j,Fz hx,g,t];exact⟨o,by simp[M9,C],Fj,rfl,rfl⟩
  |true =>
   simp only[go_sem,i,j,Fz hx,g,t];exact⟨Fj,Fj,o++[x],by simp[M9,C],IG,rfl,rfl⟩
 ·intro o _ p;simp only[go_sem,AR,dF,g];rw[show M9 l v=o by simpa [M9]using p]
def AIv(l:List Fc)(hl:l.length<=1073741823)(R : ∀ y∈l,y.key.length<=1073741824)(x:Fc):Fm AA 148 [.sl none (Fs l),.agg x.c] (.sl none (Fs (KM x false l))):=by
 have p:(Fs l).length=l.length:=HK l;refine pB AV0 rfl ?_;simp only[f148,go_sem];refine F6 l (λ(s:List Fc×Bool) r=>s.1++KM x s.2 r) (λk s=>s.1.length<=2*k) (λk s=>[(0,.sl none (Fs l)),(3,.ptr 0 0),(5,.sl (some 4) (Fs s.1)),(6,.bool s.2),(7,.int .i64 k)]) (λ_ _=>[some x.c]) ([],false) Fj F3 rfl rfl ?_ ?_
 ·rintro k ⟨o,d⟩ y T U hx P C I J O;dsimp only at P C ⊢;have V:=(AD.1 hx).1;have c1:=uI y x (R y (AB hx));simp only[go_sem,I,J,Fz hx,p];apply pK c1;have i:=KM.eq_2 x d y T;by_cases g:0<=G_ y x
  ·cases d with
   | true =>
    rw[iN F3,AM,Bool.true_or]at i;by_cases z:G_ y x=0
    ·rw[iN (by simpa using z),AM]at i;have j:(G_ y x !=0)=false:=by simpa using z
     simp only[go_sem,I,J,Fz hx,p,g,dT,j,O];exact⟨(o,true),by rw[i],by dsimp only;omega,rfl,rfl⟩
    ·rw[iP z]at i;have j:(G_ y x !=0)=true:=by simpa using z
     simp only[go_sem,I,J,Fz hx,p,g,dT,j,O];exact⟨Fj,Fj,(o++[y],true),by rw[i];simp,IG,rfl,rfl⟩
   | false =>
    rw[iP ⟨g,rfl⟩,decide_eq_true g,Bool.false_or]at i;by_cases z:G_ y x=0
    ·rw[iN (by simpa using z)]at i;have j:(G_ y x !=0)=false:=by simpa using z
     simp only[go_sem,I,J,Fz hx,p,g,dT,j,O];exact⟨Fj,Fj,(o++[x],true),by rw[i];simp,IG,rfl,rfl⟩
    ·rw[iP z]at i;have j:(G_ y x !=0)=true:=by simpa using z
     simp only[go_sem,I,J,Fz hx,p,g,dT,j,O];refine⟨Fj,Fj, ?_⟩;exact⟨IG,IG,(o++[x,y],true),by rw[i];simp,IG,rfl,rfl⟩
  ·have z:¬G_ y x=0:=Fj;have j:(G_ y x !=0)=true:=by simpa using z
   rw[iN (λhh=>g hh.1),iP z,decide_eq_false g,Bool.or_false,AM]at i;simp only[go_sem,I,J,Fz hx,p,g,dF,j,O];exact⟨Fj,Fj,(o++[y],d),by rw[i];simp,IG,rfl,rfl⟩
 ·rintro ⟨o,d⟩ P C;dsimp only at P C ⊢;rw[KM]at C;simp only[go_sem,AR,dF,p];cases d with
  |true =>
   have t:KM x false l=o:=by simpa using C
   rw[t];simp only[go_sem,Ax]
  |false =>
   have t:KM x false l=o++[x]:=by simpa using C
   rw[t];simp only[go_sem,Ay];exact⟨Fj,Fj⟩
def Q0(l:List Fld)(O:Is l)(p:(Ft l ⟨#[]⟩).2=false)(h:H0)(P:Fr h=true)(g:ByteArray)(n:Int)(U:0<=n):Fm AA 147 [.sl none (Gf l),.agg h.c,.str g,.int .i64 n] (.agg (Y7 l h g n).c):=by
 have o:=K0 l g;refine pB AV4 rfl ?_;cases i:(Ft l g).2 with
 |false =>
  rw[i]at o;have r:Y7 l h g n=h:=by unfold Y7;rw[iN (by rw[i];decide)]
  rw[r];simp only[f147,go_sem];apply pK o;simp only[go_sem]
 |true =>
  rw[i]at o;have t:=SI O g i;have hm:=Qj t;have C:=t;unfold HP at C;have R:=YG (Ft l g).1 Fj;have V:0<2^fW (Ft l g).1:=Nat.two_pow_pos _;have r:Y7 l h g n=PK (Ft l g).1 h (if JY (Ft l g).1<n then JY (Ft l g).1 else n).toNat:=by unfold Y7;rw[iP i]
  have T:(((if JY (Ft l g).1<n then JY (Ft l g).1 else n).toNat:Nat):Int)=if JY (Ft l g).1<n then JY (Ft l g).1 else n:=Int.toNat_of_nonneg (by rw[hm];split<;>omega);have J:=ADL (Ft l g).1 t h P (if JY (Ft l g).1<n then JY (Ft l g).1 else n).toNat (by rw[hm];split<;>omega);rw[T,<- r]at J;have I:¬g=⟨#[]⟩:=λe=>by rw[e,p]at i;cases i
  have j:decide (g=⟨#[]⟩)=false:=decide_eq_false I;simp only[f147,go_sem];apply pK o;simp only[go_sem,Fk,j];apply pK R;simp only[go_sem];apply pK J;simp only[go_sem]
def kf(U:List Int)(m:Int):m<=Hz U m:=by
 fun_induction Hz U m with
 |case1 m h g=>omega
 |case2 m h=>omega
def AFN(l:List Fc)(hl:l.length<=1073741824)(v:ByteArray)(g t:Int)(hlo:0<=g/\g<=65535)(hhi:t<=65535):Fm AA 149 [.sl none (Fs l),.str v,.int .i64 g,.int .i64 t] (.int .i64 (S_ ((M9 l v).map (·.n)) g t)):=by
 have c1:=AaM l hl v;have O:(M9 l v).length<=1073741824:=AJ (CS _ _) hl;generalize M9 l v=o at c1 O ⊢;have I:(Fs o).length=o.length:=HK o;have hU:(o.map (·.n)).length=o.length:=F3;have P:IntKind.i64.wrap (g+(o.length:Int))=g+o.length:=Mg Fj Fj;refine pC AVw rfl ?_;simp only[f149,go_sem];apply pK c1;simp only[go_sem];refine JB (λk:Nat=>[(2,.int .i64 g),(3,.int .i64 t),(9,.sl none (Fs o)),(10,.int .i64 (g+k))]) (λ_=>[]) (λk=>k<=o.length+1 /\ ∀m:Int,g<=m->m<g+k->m∈o.map (·.n)) (λk=>o.length+2 - k) 0 ⟨Fj,λm R h2=>Fj⟩ F3 rfl ?_;rintro k ⟨hk,j⟩;have hb:=kg j;have hf:=(UY k j).1;have hge:=kf (o.map (·.n)) (g+k);by_cases R:g+(k:Int)<=t
 ·have h2:g+(k:Int)<=g+(o.length:Int):=Fj;simp only[go_sem,R,h2,I,P,dT];refine F6 o (λ(b:Bool) r=>b||r.any λy=>y.n==g+k) (λ_ _=>True) (λi b=>[(2,.int .i64 g),(3,.int .i64 t),(9,.sl none (Fs o)),(10,.int .i64 (g+k)),(11,.bool b),(12,.int .i64 i)]) (λ_ _=>[]) false Fj trivial rfl rfl ?_ ?_
  ·intro i b x xs hd hx _ hF T h3 hw;simp only[go_sem,T,h3,Fz hx,I];cases b with
   |true =>
    simp only[go_sem,T,h3,Fz hx,I,hw];exact⟨true,F3,rfl,rfl⟩
   |false =>
    simp only[go_sem,T,h3,Fz hx,I,hw];exact⟨x.n==g+k,F3,rfl,rfl⟩
  ·intro b _ hF;have U:(o.any λy=>y.n==g+k)=b:=by simpa using hF
   have C:g+(k:Int)∈o.map (·.n)↔b=true:=by
    rw[<- U,List.any_eq_true,AN];simp
   have V:IntKind.i64.wrap (g+(k:Int)+1)=g+((k+1:Nat):Int):=by
    rw[Mg Fj Fj];omega
   simp only[go_sem,AR,dF,I];cases b with
   | true =>
    simp only[go_sem,Ax,V];exact⟨k+1,⟨Fj,λm m1 m2=>by
     by_cases hm:m=g+k
     ·rw[hm];exact C.2 rfl
     ·exact j m m1 Fj⟩,Fj,rfl,rfl⟩
   | false =>
    have J:g+(k:Int)∉o.map (·.n):=λhm=>by have:=C.1 hm;cases this
    have p:S_ (o.map (·.n)) g t=g+k:=by
     unfold S_;rw[hf,bG J,iN Fj]
    rw[p];simp only[go_sem,Ay]
 ·have p:S_ (o.map (·.n)) g t = -1:=by unfold S_;rw[iP Fj]
  rw[p];simp only[go_sem,R,dF]
def bW(s:Stp)(e:Fc)(g:Int)(hm:1<=s.m/\s.m<=1073741824)(hn:0<=s.n/\s.n<=65536)(R:0<=e.n/\e.n<=65536)(T:0<=g/\g<=1073741824)(U:0<=e.at_/\e.at_<=1073741824):Fm AA 150 [.agg s.c,.agg e.c,.int .i64 g] (.agg (KI s e g).c):=by
 obtain⟨V,I,r,J,O,t1,t2,t3,t4⟩:=Tu hm R T U;have P:¬s.m=0:=Fj;have hM:(if e.at_<g then(g - e.at_) / s.m else 0)=HW s e g:=by
  unfold HW;by_cases h:e.at_<g
  ·rw[iP h,iP Fj]
  ·rw[iN h,iN Fj,Int.zero_ediv]
 have i:KI s e g=if s.n<=e.n+HW s e g then { e with n:=s.n,at_:=g }else { e with n:=e.n+HW s e g,at_:=e.at_+HW s e g*s.m }:=rfl;generalize HW s e g=k at *;refine pB AVs rfl ?_;by_cases j:e.at_<g
 ·have t:IntKind.i64.wrap ((g - e.at_).tdiv s.m)=k:=by rw[iP Fj]at I;exact I
  simp only[f150,go_sem,j,V,t,r,P,dT];by_cases o:s.n<=e.n+k
  ·rw[iP o]at i;simp only[go_sem,o,dT,i]
  ·rw[iN o]at i;simp only[go_sem,o,dF,i,r,J,O]
 ·have C:k=0:=by rw[<- hM,iN j]
  subst C;simp only[CT]at r;simp only[f150,go_sem,j,r,P,dF];by_cases o:s.n<=e.n+0
  ·rw[iP o]at i;have p:s.n<=e.n:=Fj;simp only[go_sem,p,dT,i,CT,r]
  ·rw[iN o]at i;have p:¬s.n<=e.n:=Fj;simp only[go_sem,p,dF,i,CT,r,J,O]
def AaN(l:List Fld)(C:Is l)(g:List ByteArray)(hn:g.length<=1073741824)(I:∀J∈g,(Ft l J).2=true)(h:H0)(O:Fr h=true):
  Fm AA 144 [.sl none (Gf l),.sl none (Ha g),.agg h.c] (.tup [.sl none (Gi (HZ l g h)),.bool true]):=by
 have r:(Ha g).length=g.length:=Ko g;refine pB AWE rfl ?_ (r:=by simp only[AV.pure,Fq,JJ,Bool.and_true]);simp only[f144,go_sem];have P:∀x (L:Fl) z,(x::(L++[z]))[List.length (x::L)]? =some z:=λx L z=>by
  have:x::(L++[z])=(x::L)++[z]:=F3;rw[this];exact BT
 have R:∀x (L:Fl) z o,(x::(L++[z])).set (List.length (x::L)) o=x::(L++[o]):=λx L z o=>by
  have:x::(L++[z])=(x::L)++[z]:=F3;rw[this];simp
 refine F6 g (λ(_:Fl) (_:List ByteArray)=>()) (λ_ _=>True) (λk _=>[(0,.sl none (Gf l)),(1,.sl none (Ha g)),(5,.ptr 0 0),(8,.sl (some 1) (Gi (HZ l (g.take k) h))),(9,.int .i64 k)])
  (λ_ L=>some h.c::L) [] Fj trivial rfl rfl ?_ ?_
 ·intro k L x xs T hx _ _ U V hw;have hk2:=GI T;have i:=I x (AB hx);have hg:=Im C i;have t:=K0 l x;rw[i]at t;have c2:=UA (Ft l x).1 hg h O;have j:(Gi (HZ l (g.take k) h)).length=k:=by rw[Ho,S4,BB];omega
  have p:HZ l (g.take (k+1)) h=HZ l (g.take k) h++[((It (Ft l x).1 h:Nat):Int)]:=by
   rw[BF,hx];simp[HZ]
  simp only[go_sem,U,V,GN hx,r];apply pK t;simp only[go_sem,P,R];apply pK c2;simp only[go_sem,j,hw];exact⟨Fj,Fj,_,by rw[p],rfl⟩
 ·intro L _ _;simp only[go_sem,AR,dF,BL,r]
def bkP(l:List Fld)(s:Stp)(h:H0)(e:Fc):Bool:=decide (e.var=s.var)&&(e.n==(It (Ft l s.field).1 h:Nat))
def bkR(l:List Fld)(s:Stp)(st:List Fc)(h:H0):Done17:=match st.find? (bkP l s h)with
 |none=>⟨h,false,st⟩
 |some y=>⟨nb l h (s.key.zip y.key),true,st⟩
@[go_sem] def Am3(h : H0)(b : Bool)(st : List Fc): (if 11 <= (G8 (Done17.z.cf (some 4)) h.c).length then
        if 12<=(splice (G8 (Done17.z.cf (some 4)) h.c) 10 [AV.bool b]).length then
          some (splice (splice (G8 (Done17.z.cf (some 4)) h.c) 10 [AV.bool b]) 11 [AV.sl none (Fs st)])
        else none
      else none)=some ((⟨h,b,st⟩:Done17).cf none) := rfl
def AFV(l:List Fld)(hl:Is l)(hne:(Ft l ⟨#[]⟩).2=false)(s:Stp)(hf:(Ft l s.field).2=true)(hkl:s.key.length<=1048576)(st:List Fc)(hst:st.length<=1073741824)(hky : ∀ e∈st,e.var=s.var->e.key.length=s.key.length)(hkn : ∀ e∈st,∀ x∈e.key,0<=x)(h:H0)(hr:Fr h=true):
  Fm AA 143 [.sl none (Gf l),.agg s.c,.sl none (Fs st),.agg h.c] (.agg (bkR l s st h).c):=by
 have t:(Fs st).length=st.length:=HK st;have ek:(Ha s.key).length=s.key.length:=Ko s.key;have c1:=K0 l s.field;rw[hf]at c1;have hg:=Im hl hf;have c2:=UA (Ft l s.field).1 hg h hr;refine pB AWI rfl ?_;simp only[f143,go_sem];apply pK c1;simp only[go_sem];apply pK c2;simp only[go_sem];refine F6 st (λ(_:Unit) r=>r.find? (bkP l s h)) (λ_ _=>True) (λk _=>[(0,.sl none (Gf l)),(2,.sl none (Fs st)),(5,.ptr 0 0),(7,.ptr 1 0),(8,.ptr 2 0),(11,.int .i64 (It (Ft l s.field).1 h:Nat)),(12,.int .i64 k)])
  (λ_ _=>[some s.c,some h.c,some (Done17.z.cf (some 4)),some (Ft l s.field).1.c]) () Fj trivial rfl rfl ?_ ?_
 ·intro i _ x xs hd hx _ C J O hw;rw[BN]at C;have j:bkP l s h x=(decide (x.var=s.var)&&(x.n==(It (Ft l s.field).1 h:Nat))):=rfl;have P:=AB hx;simp only[go_sem,J,O,Fz hx,t,Fk];cases U:decide (x.var=s.var)with
  |false =>
   rw[U,CO]at j;rw[j]at C;simp only[go_sem,J,O,Fz hx,t,U,hw];exact⟨(),by rw[BN,j]⟩
  | true =>
   rw[U,Ba]at j;have hky2:=hky x P (of_decide_eq_true U);cases V:(x.n==((It (Ft l s.field).1 h:Nat):Int))with
   |false =>
    rw[V]at j;simp only[go_sem,J,O,Fz hx,t,V,hw];exact⟨(),by rw[BN,j]⟩
   | true =>
    rw[V]at j;rw[j]at C;have g:bkR l s st h=⟨nb l h (s.key.zip x.key),true,st⟩:=by unfold bkR;rw[C]
    rw[g];simp only[go_sem,J,O,Fz hx,t,V];refine F6 s.key (λ(_:Fl) (_:List ByteArray)=>()) (λk _=>Fr (nb l h ((s.key.take k).zip x.key))=true) (λk _=>[(0,.sl none (Gf l)),(2,.sl none (Fs st)),(5,.ptr 0 0),(8,.ptr 2 0),(12,.int .i64 i),(13,.ptr 4 0),(14,.int .i64 k)])
     (λk L=>[some s.c,some h.c,some (Done17.z.cf (some 4)),some (Ft l s.field).1.c,some (nb l h ((s.key.take k).zip x.key)).c]) [] Fj (by simpa [nb]using hr) rfl (by simp[nb]) ?_ ?_
    ·intro k L I nms hdk o R _ k0 k1 kw;have hkk:=(AD.1 o).1;obtain⟨z,p⟩:∃z,x.key[k]? =some z:=⟨_,AL Fj⟩;have T:=hkn x P z (AB p);have c3:=Q0 l hl hne _ R I z T;have htk:s.key.take (k+1)=s.key.take k++[I]:=by rw[BF,o];rfl
     have hzz:(s.key.take (k+1)).zip x.key=(s.key.take k).zip x.key++[(I,z)]:=by
      rw[htk];refine WZ I ?_;rw[BB,Nat.min_eq_left Fj];exact p
     have hb:nb l h ((s.key.take (k+1)).zip x.key)=Y7 l (nb l h ((s.key.take k).zip x.key)) I z:=by rw[hzz];simp[nb]
     simp only[go_sem,k0,k1,J,O,GN o,Fz hx,Gj p,t,ek];apply pK c3;simp only[go_sem,kw,hb];exact⟨[],Qd hl R I T⟩
    ·intro L _ _;simp only[go_sem,AR,dF,ek,BL]
 ·intro _ _ C;have g:bkR l s st h=⟨h,false,st⟩:=by unfold bkR;rw[C];rfl
  rw[g];simp only[go_sem,AR,dF,t]
def AE8(l:List Fld)(s:Stp)(st:List Fc)(h:H0)(g:Int):Done17:=⟨(PE l s st h g).1,(PE l s st h g).2.1,(PE l s st h g).2.2⟩
def ACI{s:Stp}{e:Fc}{tick:Int}(hm:1<=s.m)(g:0<=s.n/\s.n<=65535)(i:0<=e.n/\e.n<=65535):0<=(KI s e tick).n/\(KI s e tick).n<=65535:=by
 have j:=(bu (s:=s) (e:=e) (tick:=tick) hm).1;unfold KI;split
 ·exact g
 ·dsimp only;omega
def bL{l:List Fc}(i:KJ l){v:ByteArray}{g:List Int}{y:Fc}(h:Hj l v g=some y):y.var=v/\y.key=g:=by
 rw[<- bK i]at h;have:=List.find?_some h;unfold Vj at this;rw[AQ,decide_eq_true_eq,beq_iff_eq]at this;exact⟨this.1,Qx this.2⟩
def AaQ(l : List Fld)(hl : Is l)(O : (Ft l ⟨#[]⟩).2 = false)(s : Stp)(t : okStp l s)(st : List Fc)(hst : st.length <= 1073741823)(he : ∀ e ∈ st, am e)(hk : ∀ e ∈ st, XB s e)(r : KJ st)(h : H0)(hr : Fr h = true)(tick : Int)(ht : 0 <= tick /\ tick <= 1073741824):
    Fm AA 73 [.sl none (Gf l),.agg s.c,.sl none (Fs st),.agg h.c,.int .i64 tick] (.agg (AE8 l s st h tick).c) := by
  have hlk:∀y∈st,y.key.length<=1073741824 := λy hy=>by have := (he y hy).2.2.1;omega
  refine pB Aea rfl ?_;unfold AE8;by_cases k0:s.kind=0
  · have o := AZ1 (l := l) (st := st) (h := h) (tick := tick) k0
    have b0:(s.kind==0)=true := by rw[k0];rfl
    rw[o];simp only[f73,go_sem,b0]
  have b0:(s.kind==0)=false := by rw[beq_eq_false_iff_ne];exact k0
  by_cases k5:s.kind=5
  · have b5:(s.kind==5)=true := by rw [k5];rfl
    have c1 := AFV l hl O s (t.back k5) t.klen st Fj (λe hm hv=>hk e hm k0 hv) (λe hm=>(he e hm).2.2.2) h hr;have o:bkR l s st h=⟨(PE l s st h tick).1,(PE l s st h tick).2.1,(PE l s st h tick).2.2⟩ := by
      rw[AZx k5];unfold bkR;have hp:S6 (JV l s st h tick)=bkP l s h := rfl;rw[hp];cases st.find? (bkP l s h)<;>rfl
    rw[<- o];simp only[f73,go_sem,b0,b5];apply pK c1;simp only[go_sem]
  have b5:(s.kind==5)=false := by rw[beq_eq_false_iff_ne];exact k5
  have c1 := AaN l hl s.key (by have := t.klen;omega) (t.key k0) h hr;have c2 := AFa st Fj hlk s.var (HZ l s.key h);rw[bK r]at c2;have c3 := uF st Fj s.var;by_cases k3:s.kind=3
  · have b3:(s.kind==3)=true := by rw [k3];rfl
    have o := AZy (l := l) (st := st) (h := h) (tick := tick) k3;rw[o];simp only[f73,go_sem,b0,b5];apply pK c1;simp only[go_sem];apply pK c2;cases g:Hj st s.var (HZ l s.key h)with
    | none =>
      simp only[go_sem,b3]
    | some y =>
      have hE:SJ l s st h=y := by unfold SJ;rw[g];rfl
      simp only[go_sem,b3,hE]
  have b3:(s.kind==3)=false := by rw[beq_eq_false_iff_ne];exact k3
  have hE:SJ l s st h=⟨s.var,HZ l s.key h,((Hj st s.var (HZ l s.key h)).getD Entry.z).n,((Hj st s.var (HZ l s.key h)).getD Entry.z).at_⟩ := by
    unfold SJ;cases g:Hj st s.var (HZ l s.key h)with
    |none=>rfl
    | some y =>
      obtain⟨e1,p⟩ := bL r g;rw[BP,BP,<- e1,<- p]
  have hN:(0<=((Hj st s.var (HZ l s.key h)).getD Entry.z).n/\((Hj st s.var (HZ l s.key h)).getD Entry.z).n<=65535)/\0<=((Hj st s.var (HZ l s.key h)).getD Entry.z).at_/\((Hj st s.var (HZ l s.key h)).getD Entry.z).at_<=1073741824 := by
    cases g:Hj st s.var (HZ l s.key h)with
    |none=>exact⟨⟨dc,by decide⟩,by decide,by decide⟩
    |some y=>exact⟨(he y (Md g)).1,(he y (Md g)).2.1⟩
  have h4s:∀y,s.kind=4->Hj st s.var (HZ l s.key h)=some y->PE l s st h tick=(Y7 l h s.field y.n,true,Lp st ⟨s.var,HZ l s.key h,y.n,tick⟩) := λy P g=>by
    obtain⟨e1,p⟩ := bL r g;rw[AIX P g,<- e1,<- p]
  obtain⟨j,C⟩:∃j,(Hj st s.var (HZ l s.key h)).getD Entry.z=j := ⟨_,rfl⟩;rw[C]at c2 hE hN;obtain⟨⟨n0,n1⟩,a0,a1⟩ := hN;simp only[f73,go_sem,b0,b5];apply pK c1;simp only[go_sem];apply pK c2;by_cases i:S9 l s st h
  · have g := i.1
    have hfl := i.2;have I:(100:Int)<=((M9 st s.var).length:Int) := by omega
    rw[Ajo (by have := t.kind;omega) i,g];simp only[go_sem,b3,Option.isSome_none];apply pK c3;simp only[go_sem,I,dT]
  have w1:IntKind.i64.wrap (j.n+1)=j.n+1 := Mg Fj Fj;have R:(if(65535:Int)<j.n+1 then(65535:Int)else j.n+1)=Pu (j.n+1) 65535 := rfl;have hm0:0<=Pu (j.n+1) 65535 := by unfold Pu;split<;>omega
  have T := λx=>AIv st hst hlk x;simp only[AHW r]at T;have hfn:(Hj st s.var (HZ l s.key h)).isSome=false->Hj st s.var (HZ l s.key h)=none := λJ=>by
    cases hx:Hj st s.var (HZ l s.key h)with
    |none=>rfl
    |some y=>rw[hx]at J;cases J
  have hfl:(Hj st s.var (HZ l s.key h)).isSome=false -> ¬(100:Int)<=((M9 st s.var).length:Int) := λJ hh=>i ⟨hfn J,by omega⟩;cases J:(Hj st s.var (HZ l s.key h)).isSome
  case' false =>
    have I := hfl J;simp only[go_sem,b3];apply pK c3;simp only[go_sem,I,dF]
  case' true =>
    simp only[go_sem,b3]
  all_goals
    by_cases k1:s.kind=1
    · have U:(s.kind==1)=true := by rw [k1];rfl
      rw[AZ0 k1 i,hE];simp only[go_sem,U,w1,R];apply pK (Q0 l hl O h hr s.field _ hm0);simp only[go_sem,w1,R];apply pK (T _);simp only[go_sem]
    have U:(s.kind==1)=false := by rw[beq_eq_false_iff_ne];exact k1
    by_cases k2:s.kind=2
    · have b2:(s.kind==2)=true := by rw [k2];rfl
      rw[AZz k2 i,hE];simp only[go_sem,U,b2];apply pK (T _);simp only[go_sem]
    have b2:(s.kind==2)=false := by rw[beq_eq_false_iff_ne];exact k2
    by_cases P:s.kind=4
    · have b4:(s.kind==4)=true := by rw [P];rfl
      cases g:Hj st s.var (HZ l s.key h)with
      | some y =>
        first
        |(rw[g]at J;cases J;done)
        | (rw [g] at C
           cases C;rw[h4s _ P g];have y0 := (he y (Md g)).1.1;have yn:¬y.n<0 := by omega
           simp only[go_sem,U,b2,b4,yn,dF];apply pK (Q0 l hl O h hr s.field _ y0);simp only[go_sem];apply pK (T _);simp only[go_sem])
      | none =>
        first
        |(rw[g]at J;cases J;done)
        | (rw [g] at C
           cases C;rw[AIY P g i];have s0 := (t.n (.inl P)).1;simp only[go_sem,U,b2,b4];apply pK (AFN st Fj s.var s.n s.m (t.n (.inl P)) (t.m4 P));by_cases hF:s.m<Hz ((M9 st s.var).map (·.n)) s.n
           · have fr:S_ ((M9 st s.var).map (·.n)) s.n s.m = -1 := by unfold S_;rw [iP hF]
             rw[iP hF,fr];have m1:((-1:Int)<0) := by decide
             simp only[go_sem,m1,dT]
           · have fr:S_ ((M9 st s.var).map (·.n)) s.n s.m=Hz ((M9 st s.var).map (·.n)) s.n := by unfold S_;rw [iN hF]
             have f0 := kf ((M9 st s.var).map (·.n)) s.n;have m1:¬Hz ((M9 st s.var).map (·.n)) s.n<0 := by omega
             rw[iN hF,fr];simp only[go_sem,m1,dF];apply pK (Q0 l hl O h hr s.field _ Fj);simp only[go_sem];apply pK (T _);simp only[go_sem])
    have b4:(s.kind==4)=false := by rw[beq_eq_false_iff_ne];exact P
    have k6:s.kind=6 := by have := t.kind;omega
    have sn := t.n (.inr k6);have sm := t.m k6;rw[AZw k6 i,hE,J];have t1:Ll s ⟨s.var,HZ l s.key h,j.n,j.at_⟩ true tick=⟨s.var,HZ l s.key h,j.n,j.at_⟩ := rfl;have t2:Ll s ⟨s.var,HZ l s.key h,j.n,j.at_⟩ false tick=⟨s.var,HZ l s.key h,s.n,tick⟩ := rfl;first
    | (rw [t1]
       simp only[go_sem,U,b2,b4];apply pK (bW s _ tick sm Fj (by dsimp only;omega) ht (by dsimp only;omega));have V := ACI (e := ⟨s.var,HZ l s.key h,j.n,j.at_⟩) (tick := tick) sm.1 sn (by dsimp only;omega);generalize KI s ⟨s.var,HZ l s.key h,j.n,j.at_⟩ tick=p at V ⊢)
    | (rw [t2]
       simp only[go_sem,U,b2,b4];apply pK (bW s _ tick sm Fj (by dsimp only;omega) ht (by dsimp only;omega));have V := ACI (e := ⟨s.var,HZ l s.key h,s.n,tick⟩) (tick := tick) sm.1 sn (by dsimp only;omega);generalize KI s ⟨s.var,HZ l s.key h,s.n,tick⟩ tick=p at V ⊢)
    by_cases z:p.n=0
    · have zb:(p.n==0)=true := by rw [beq_iff_eq];exact z
      have z0:¬0<p.n := by omega
      have t3:L6 p=p := by unfold L6;rw[iN z0]
      rw[t3];simp only[go_sem,zb,z0,dF];apply pK (T _);simp only[go_sem]
    · have zb:(p.n==0)=false := by rw [beq_eq_false_iff_ne];exact z
      have z0:0<p.n := by omega
      have w2:IntKind.i64.wrap (p.n - 1)=p.n - 1 := Mg Fj Fj;have t3:L6 p={ p with n := p.n - 1 } := by unfold L6;rw[iP z0]
      rw[t3];simp only[go_sem,zb,z0,w2,dT];apply pK (T _);simp only[go_sem]
def N3{D:Fb}(h:KJ D.st):KJ (Gr D).1.st:=by
 unfold Gr;split
 ·exact h
 ·exact ACw h _
def nq(r:Fb×Bool):(ug r).1.st=r.1.st:=by
 unfold ug;split<;>rfl
def AIZ{D:Fb}(h:KJ D.st):KJ (TE D).1.st:=by
 unfold TE;split
 ·unfold SL;rw[nq];exact N3 (D:={ D with entry:={ D.entry with n:=Pu (D.entry.n+1) 65535,at_:=D.tick } }) h
 split
 ·exact N3 (D:={ D with entry:={ D.entry with at_:=D.tick } }) h
 split
 ·exact h
 split
 ·unfold JW;split
  ·rw[nq];exact N3 (D:={ D with entry:={ D.entry with at_:=D.tick } }) h
  ·split
   ·exact h
   ·rw[nq];exact N3 (D:={ D with entry:={ D.entry with n:=Hz (Kh D) D.step.n,at_:=D.tick } }) h
 split
 ·unfold Rb;split<;>exact h
 ·exact N3 (D:={ D with entry:=L6 (KI D.step (Ll D.step D.entry D.is D.tick) D.tick) }) h
def tq{l:List Fld}{s:Stp}{st:List Fc}{h:H0}{tick:Int}(g:KJ st):KJ (PE l s st h tick).2.2:=by
 unfold PE;split
 ·exact g
 ·exact AIZ (D:=JV l s st h tick) g
def tt{l:List Fld}{s:Stp}{i:Int}: ∀(j:List H0) {a:List H0×List Fc},KJ a.2->KJ (gX l s i a j).2
 |[],_,h=>h
 |g::j,a,h=>by
  rw[gX];exact tt j (tq h)
def Wq{l:List Fld}{g:Int}: ∀(p:List Stage) {a b:List H0×List Fc},KJ a.2->Ml l g a p=some b->KJ b.2
 |[],a,b,h,e=>by rw[Ml]at e;cases e;exact h
 | s::p,a,b,h,e=>by
  rw[Ml]at e;cases i:ka l g s.policy [] a.1 with
  |none=>rw[i]at e;cases e
  |some j =>
   rw[i]at e;exact Wq p (a:=gX l s.step g ([],a.2) j) (tt j h) e
def cA(g:List (List Fc)):Prop:=∀st∈g,KJ st
def uJ{s:Fe}{i:Int}: ∀ (f n:Nat) {q:List Ff} {g:List (List Fc)} {out:List Fg} {o:List Fg×List (List Fc)},cA g->TM s i f n q g out=some o->cA o.2
 | 0,_,_,_,_,_,_,e=>by rw[TM]at e;cases e
 | f+1,n,q,g,out,o,h,e=>by
  rw[TM]at e;cases I:q[n]? with
  |none=>rw[I]at e;cases e;exact h
  | some x =>
   rw[I]at e;dsimp only at e;cases j:s.tenants[x.tenant.toNat]? with
   |none=>rw[j]at e;cases e
   | some t =>
    cases p:g[x.tenant.toNat]? with
    |none=>rw[j,p]at e;cases e
    | some st =>
     rw[j,p]at e;dsimp only at e;cases r:Nl s.fields (Gc t).1 st x.head i with
     |none=>rw[r]at e;cases e
     | some b =>
      rw[r]at e;dsimp only at e;split at e
      ·cases e
      ·refine uJ f (n+1) (λy C=>?_) e;rcases DR C with C|rfl
       ·exact h y C
       ·exact Wq _ (a:=([x.head],st)) (h st (AB p)) r
def ACP{s:Fe}{g:List (List Fc)}{a:Fh}(h:cA g):cA (Ir s g a).2:=by
 unfold Ir;cases e:J0 s g a.head a.tick with
 |none=>exact h
 |some o=>exact uJ 600 0 h e
def mL:∀{l:List Fc},Aae l->KJ l
 |[],_=>List.Pairwise.nil
 | x::l,h=>by
  have i:KJ l:=mL λk y z g o=>h (k+1) y z g o;refine BM.2 ⟨λy g=>?_,i⟩;cases l with
  |nil=>cases g
  |cons z l =>
   have j:=h 0 x z rfl rfl;rcases AY.1 g with rfl|g
   ·exact j
   ·exact Ou j ((BM.1 i).1 y g)
def ALF(st:List Fc):Option (List H0×List Fc)->Ran17
 |some a=>⟨a.1,a.2,0⟩
 |none=>⟨[],st,2⟩
@[go_sem] def Al0(w : Option Nat)(L : List H0)(st : List Fc)(e : Int): (if 2 <= (G8 (Ran17.z.cf (some 10) (some 4)) [AV.sl w (F2 L)]).length then
        if 3<=(splice (G8 (Ran17.z.cf (some 10) (some 4)) [AV.sl w (F2 L)]) 1 [AV.sl none (Fs st)]).length then
          some (splice (splice (G8 (Ran17.z.cf (some 10) (some 4)) [AV.sl w (F2 L)]) 1 [AV.sl none (Fs st)]) 2 [AV.int .i64 e])
        else none
      else none)=some ((⟨L,st,e⟩:Ran17).cf w none) := rfl
@[go_sem] def Akj(w : Option Nat)(st : List Fc)(e : Int): (if 2 <= (G8 (Ran17.z.cf (some 10) (some 4)) [AV.sl w []]).length then
        if 3<=(splice (G8 (Ran17.z.cf (some 10) (some 4)) [AV.sl w []]) 1 [AV.sl none (Fs st)]).length then
          some (splice (splice (G8 (Ran17.z.cf (some 10) (some 4)) [AV.sl w []]) 1 [AV.sl none (Fs st)]) 2 [AV.int .i64 e])
        else none
      else none)=some ((⟨[],st,e⟩:Ran17).cf w none) := rfl
def AIu(l:List Fld)(hl:Is l)(hln:l.length<=1073741824)(hne:(Ft l ⟨#[]⟩).2=false)(p:List Stage)(hp:okPrg l p)(st:List Fc)(hlen:st.length+p.length*256<=1073741823)(hs:Nq p st)(hsrt:KJ st)(h:H0)(hr:Fr h=true)(tick:Int)(ht:0<=tick/\tick<=1073741824):
  Fm AA 40 [.sl none (Gf l),.sl none (GV p),.sl none (Fs st),.agg h.c,.int .i64 tick] (.agg (ALF st (Nl l p st h tick)).c):=by
 have ep:(GV p).length=p.length:=Ms p;refine pB Af4 rfl ?_;simp only[f40,go_sem];refine F6 p (λ(s:(List H0×List Fc)×Fl) (r:List Stage)=>Ml l tick s.1 r) (λk s=>Nq p s.1.2/\KJ s.1.2/\(∀z∈s.1.1,Fr z=true)/\s.1.2.length<=st.length+k*256/\s.1.1.length<=256)
  (λk s=>[(0,.sl none (Gf l)),(1,.sl none (GV p)),(2,.sl none (Fs st)),(4,.int .i64 tick),(10,.ptr 1 0),(11,.sl (some 10) (F2 s.1.1)),(12,.sl none (Fs s.1.2)),(13,.int .i64 k)])
  (λ_ s=>some h.c::some (Ran17.z.cf (some 10) (some 4))::s.2) (([h],st),[]) Fj ⟨hs,hsrt,by simpa using hr,F3,F3⟩ ?_ rfl ?_ ?_
 ·rfl
 ·rintro k ⟨⟨pk,J⟩,Y⟩ S Ss hd hx ⟨i1,i5,i2,i3,i4⟩ hF h0 h1 hw;dsimp only at i1 i2 i3 i4 i5 hF ⊢;have O:=AB hx;have hkl:=(AD.1 hx).1;have gN:∀a b (L:Fl) z,(a::b::(L++[z]))[List.length (a::b::L)]? =some z:=λa b L z=>by
   have:a::b::(L++[z])=(a::b::L)++[z]:=F3;rw[this];exact BT
  have sN:∀a b (L:Fl) z z2,(a::b::(L++[z])).set (List.length (a::b::L)) z2=a::b::(L++[z2]):=λa b L z z2=>by
   have:a::b::(L++[z])=(a::b::L)++[z]:=F3;rw[this];simp
  have b2:((2:Int) !=0)=true:=rfl;have b0:((0:Int) !=0)=false:=rfl;have epk:(F2 pk).length=pk.length:=Nz pk;simp only[go_sem,h0,h1,ep];refine F6 pk (λ(i:List H0) (r:List H0)=>ka l tick S.policy i r) (λ_ i=>(∀z∈i,Fr z=true)/\i.length<=256)
   (λj i=>[(0,.sl none (Gf l)),(1,.sl none (GV p)),(2,.sl none (Fs st)),(4,.int .i64 tick),(10,.ptr 1 0),(11,.sl (some 10) (F2 pk)),(12,.sl none (Fs J)),(13,.int .i64 k),(14,.sl (some 10) (F2 i)),(15,.int .i64 j)])
   (λ_ _=>some h.c::some (Ran17.z.cf (some 10) (some 4))::Y) [] Fj ⟨F3,F3⟩ ?_ rfl ?_ ?_
  ·rfl
  ·rintro j i g gs hd2 C ⟨j1,j2⟩ hF2 g0 g1 gw;have P:=i2 g (AB C);have c1:=ADQ l hl tick S.policy (hp.pol S O) g P;have I:=ka.eq_2 l tick S.policy i g gs;simp only[go_sem,h0,h1,g0,g1,GG C,F9 hx,epk,ep];cases ev:vO l tick S.policy g with
   |none =>
    rw[ev]at c1 I;have T:Nl l p st h tick=none:=by rw[Nl,hF,Ml,hF2,I]
    rw[T];apply pK c1;simp only[go_sem,b2];exact⟨Fj,Fj,rfl⟩
   | some x =>
    rw[ev]at c1 I;have hgx:=ML l hl tick S.policy (hp.pol S O) g x P ev;have hgl:=hgx.2.1;apply pK c1;simp only[go_sem,b0];refine⟨Fj,Fj, ?_⟩;by_cases N6:256<(i++x).length
    ·have T:Nl l p st h tick=none:=by rw[Nl,hF,Ml,hF2,I];simp only[iP N6]
     have t:(256:Int)<((i++x).length:Int):=Fj;rw[T];simp only[go_sem,t,dT];rfl
    ·have t:¬(256:Int)<((i++x).length:Int):=Fj;simp only[iN N6]at I;simp only[go_sem,t,dF,gw];refine⟨i++x,by rw[I],⟨λz U=>?_,by rw[AE]at N6 ⊢;omega⟩, ?_, ?_⟩
     ·rcases Ar.1 U with U|U
      ·exact j1 z U
      ·exact hgx.2.2 z U
     ·rfl
     ·rfl
  ·rintro i ⟨j1,j2⟩ hF2;have hgv:ka l tick S.policy [] pk=some i:=hF2;have egv:(F2 i).length=i.length:=Nz i;have hF4:Ml l tick ([h],st) p=Ml l tick (gX l S.step tick ([],J) i) Ss:=by rw[hF,Ml,hgv]
   simp only[go_sem,AR,dF,epk];refine F6 i (λ(s:(List H0×List Fc)×Fl) (r:List H0)=>gX l S.step tick s.1 r) (λj s=>Nq p s.1.2/\KJ s.1.2/\(∀z∈s.1.1,Fr z=true)/\s.1.2.length<=J.length+j/\s.1.1.length<=j)
    (λj s=>[(0,.sl none (Gf l)),(1,.sl none (GV p)),(2,.sl none (Fs st)),(4,.int .i64 tick),(10,.ptr 1 0),(11,.sl (some 10) (F2 s.1.1)),(12,.sl none (Fs s.1.2)),(13,.int .i64 k),(14,.sl (some 10) (F2 i)),(18,.int .i64 j)])
    (λ_ s=>some h.c::some (Ran17.z.cf (some 10) (some 4))::s.2) (([],J),Y) Fj ⟨i1,i5,F3,F3,F3⟩ ?_ rfl ?_ ?_
   ·rfl
   ·rintro j ⟨⟨V,o⟩,L2⟩ g gs hd2 C ⟨q1,q5,q2,q3,q4⟩ hF3 g0 g1 gw;dsimp only at q1 q2 q3 q4 q5 hF3 ⊢;have P:=j1 g (AB C);have hjl:=(AD.1 C).1;have c1:=AaQ l hl hne S.step (hp.stp S O) o Fj (λe he=>(q1 e he).1) (λe he=>(q1 e he).2 S O) q5 g P tick ht;obtain⟨d1,d2,d3⟩:=dY hl hln hp O (st:=o) Fj q1 P ht;have d5:=tq (l:=l) (s:=S.step) (h:=g) (tick:=tick) q5;have I:=gX.eq_2 l S.step tick (V,o) g gs;dsimp only at I;unfold AE8 at c1;generalize PE l S.step o g tick=R at c1 d1 d2 d3 d5 I;obtain⟨g',b,now'⟩:=R;dsimp only at c1 d1 d2 d3 d5 I;simp only[go_sem,h0,h1,g0,g1,GG C,F9 hx,egv,ep];apply pK c1;cases b with
    |true =>
     simp only[go_sem,gN,sN,gw];refine⟨Fj,Fj,((V++[g'],now'),_),by rw[I,iP rfl],⟨d2,d5,λz U=>?_,by dsimp only;omega,by rw[AE];exact C6 q4⟩,rfl,rfl⟩;rcases Ar.1 U with U|U
     ·exact q2 z U
     ·rcases List.mem_singleton.1 U with rfl;exact d1
    |false =>
     simp only[go_sem,gN,sN,gw];exact⟨((V,now'),_),by rw[I,iN dc],⟨d2,d5,q2,by dsimp only;omega,by dsimp only;omega⟩,rfl,rfl⟩
   ·rintro ⟨⟨V,o⟩,L2⟩ ⟨q1,q5,q2,q3,q4⟩ hF3;dsimp only at q1 q2 q3 q4 q5 hF3 ⊢;simp only[go_sem,AR,dF,hw,egv];exact⟨((V,o),_),by rw[<- hF,hF4,hF3];rfl,⟨q1,q5,q2,by dsimp only;omega,by dsimp only;omega⟩,rfl,rfl⟩
 ·rintro ⟨⟨pk,J⟩,Y⟩ ⟨i1,i5,i2,i3,i4⟩ hF;dsimp only at i1 i2 i3 i4 hF ⊢;simp only[go_sem,AR,dF,ep];rw[Nl,hF];rfl
def bX(s:Fe)(hl:Is s.fields)(hcl:s.contracts.length<=1073741824)(k:Nat)(u:Fi)(hu:s.tenants[k]? =some u)(h:H0)(hr:Fr h=true)(t:Int)(hx : ∀ c∈s.contracts,Iq s.fields c.pred):
  Fm AA 16 [.agg s.c,.int .i64 k,.agg h.c,.int .i64 t] (.int .i64 (IS (Pd s u.name h t) s.contracts)):=by
 have C:(HA s.contracts).length=s.contracts.length:=NR _;have j:=F7 hu;have o:(0:Int)<=(k:Int):=Fj;have I:∀a b (L:Fl) z,(a::b::(L++[z]))[List.length (a::b::L)]? =some z:=λa b L z=>by
  have:a::b::(L++[z])=(a::b::L)++[z]:=F3;rw[this];exact BT
 have J:∀a b (L:Fl) z z2,(a::b::(L++[z])).set (List.length (a::b::L)) z2=a::b::(L++[z2]):=λa b L z z2=>by
  have:a::b::(L++[z])=(a::b::L)++[z]:=F3;rw[this];simp
 refine pC Ag4 rfl ?_;simp only[f16,go_sem];refine F6 s.contracts (λ(_:Fl) r=>Hb (Pd s u.name h t) (s.contracts.length - r.length) r) (λ_ _=>True) (λi _=>[(1,.int .i64 k),(3,.int .i64 t),(4,.ptr 0 0),(6,.ptr 1 0),(9,.int .i64 i)]) (λ_ L=>some s.c::some h.c::L) [] Fj trivial rfl rfl ?_ ?_
 ·intro i L x xs hd g _ R O P hw;have hk2:=GI hd;have U:s.contracts.length - (xs.length+1)=i:=Fj;have e2:s.contracts.length - xs.length=i+1:=Fj;simp only[AC,U,AP]at R;have c1:=tL s.fields hl t x.pred (hx x (AB g)) h hr;have p:Pd s u.name h t x=(decide (x.src=u.name)&&(x.fromPort==h.h0&&hP s.fields t x.pred h)):=rfl;simp only[go_sem,O,P,GT g,C,I,J,j,o,Fk];cases v1:decide (x.src=u.name)with
  |false =>
   rw[v1,CO]at p;simp only[go_sem,O,P,GT g,C,I,J,j,o,hw];exact⟨_,by rw[U,e2,Hb,iN (by rw[p];decide)],rfl,rfl⟩
  | true =>
   rw[v1,Ba]at p;cases V:(x.fromPort==h.h0)with
   |false =>
    rw[V,CO]at p;simp only[go_sem,O,P,GT g,C,I,J,j,o,hw,V];exact⟨_,by rw[U,e2,Hb,iN (by rw[p];decide)],rfl,rfl⟩
   | true =>
    rw[V,Ba]at p;simp only[go_sem,O,P,GT g,C,I,J,j,o,V];apply pK c1;cases v3:hP s.fields t x.pred h with
    |false =>
     rw[v3]at p;simp only[go_sem,O,P,GT g,C,I,J,j,o,hw];exact⟨_,by rw[U,e2,Hb,iN (by rw[p];decide)],rfl,rfl⟩
    |true =>
     rw[v3]at p;have T:IS (Pd s u.name h t) s.contracts=i:=by rw[IS,R,Hb,iP p]
     rw[T];simp only[go_sem,O,P,GT g,C,I,J,j,o]
 ·intro L _ R;simp only[go_sem,AR,dF,C];rw[AP]at R;rw[IS,R];rfl
def oC(s:Fe):List (List Fc):=s.tenants.map λ_=>[]
def Si(s:Fe):IX false 1 s.tenants.length ((As s.tenants.length [AV.sl (some 4) []]).flatten.map borrow1)=Gp (oC s)/\(As s.tenants.length [AV.sl (some 4) []]).flatten.length=s.tenants.length:=by
 have j:∀n,(As n [AV.sl (some 4) []]).flatten=As n (AV.sl (some 4) []):=λn=>by
  induction n with
  |zero=>rfl
  |succ n g=>rw[CE,List.flatten_cons,g];rfl
 have o:Gp (oC s)=As s.tenants.length (AV.sl none []):=by
  unfold oC Gp;rw[List.map_map];have:∀l:List Fi,l.map ((λx=>AV.sl none (Fs x)) ∘ λ_=>[])=As l.length (AV.sl none []):=λl=>by
   induction l with
   |nil=>rfl
   |cons x l g=>rw[AW,g,AC,CE];rfl
  exact this _
 have i:=YB (As s.tenants.length (AV.sl none []));rw[D8]at i;rw[j,List.map_replicate,o];exact⟨i,D8 ..⟩
def wl:Hint:={ MR with fz:=[(1,[(2,none,false)])] }
@[go_sem] def Ak8(k:Nat):wl.lv k=MR.lv k:=AH rfl rfl
@[go_sem] def Ak_(k:Nat):wl.ct k=MR.ct k:=AH rfl rfl
@[go_sem] def Ak9(k:Nat):wl.dn k=MR.dn k:=AH rfl rfl
@[go_sem] def Ak':wl.at 0=[]/\wl.at 1=[(2,none,false)]:=⟨rfl,rfl⟩
@[go_sem] def Al9:wl.tk=[]/\wl.mt=[]/\wl.pc=[]:=⟨rfl,rfl,rfl⟩
def AdO:FK AA 13 f13 wl:=⟨kr,kr,func13,kr⟩
def hS2:Hint:={ PD with fz:=[(1,[(2,none,false)])] }
@[go_sem] def Ak4(k:Nat):hS2.lv k=PD.lv k:=AH rfl rfl
@[go_sem] def Ak6(k:Nat):hS2.ct k=PD.ct k:=AH rfl rfl
@[go_sem] def Ak5(k:Nat):hS2.dn k=PD.dn k:=AH rfl rfl
@[go_sem] def Ak7:hS2.at 0=[]/\hS2.at 1=[(2,none,false)]:=⟨rfl,rfl⟩
@[go_sem] def Al8:hS2.tk=[]/\hS2.mt=[]/\hS2.pc=[]:=⟨rfl,rfl,rfl⟩
def AdN:FK AA 14 f14 hS2:=⟨kr,kr,func14,kr⟩
def AHl(s:Fe)(j:s.tenants.length<=1073741824):Fm AA 13 [.agg s.c] (.sl none (Gp (oC s))):=by
 refine pB AdO rfl ?_;have g:(H6 s.tenants).length=s.tenants.length:=ND _;have i:F8 AA 98=some (.sl (some 4) []):=kr;have r1:=(Si s).1;have r2:=(Si s).2;simp only[f13,go_sem,g,i,r1,r2,or_true,and_self];exact⟨Fj,Fj,Fj⟩
def AAr(s:Fe)(j:s.tenants.length<=1073741824):Fm AA 14 [.agg s.c] (.sl none (Gp (oC s))):=by
 refine pB AdN rfl ?_;have g:(H6 s.tenants).length=s.tenants.length:=ND _;have i:F8 AA 98=some (.sl (some 4) []):=kr;have r1:=(Si s).1;have r2:=(Si s).2;simp only[f14,go_sem,g,i,r1,r2,or_true,and_self];exact⟨Fj,Fj,Fj⟩
def Wx{e:Int}: ∀{l:List Port} {i:Nat},0<=IE e i l->0<=e
 |[],i,h=>by rw[IE]at h;omega
 |x::l,i,h=>by
  rw[IE]at h;split at h
  ·rename_i hx;exact hx.1
  ·exact Wx h
def vm{s:Fe}(p:R19 s)(h:H0):(Pn (tW h) 0 s.tenants=(-1,-1)/\L_ h 0 s.tenants=[]) \/ ∃(j:Nat) (t:Fi),s.tenants[j]? =some t/\(Pn (tW h) 0 s.tenants).1=(j:Int)/\L_ h 0 s.tenants=[⟨(j:Int),(PR t h).1,[]⟩]/\(PR t h).2=true/\0<=tW h/\I' (IH t (tW h)) h=PR t h:=by
 rcases ak (tW h) s.tenants 0 with⟨g,i⟩|⟨j,t,g,i,h3⟩
 ·refine .inl ⟨g,Xs λt I=>?_⟩;cases e:(PR t h).2 with
  |false=>rfl
  |true=>exact absurd (Mz.1 e) (i t I)
 ·have r:=Mz.2 h3;have C:Hn t (tW h)=IH t (tW h):=ac (λx o=>(YA (p.ck g).1 x o).1) _;exact .inr ⟨j,t,g,by rw[i,AX],lK p g r,r,Wx (by rw[C]at h3;exact h3),by rw[<- C];rfl⟩
def AC1(s:Fe)(x:Ff)(t:Fi)(g:Int)(a:List Ff×List Fg)(p:H0):a.1.length<=(Vc s x t g a p).1.length:=by
 unfold Vc;split
 ·exact AS _
 ·split
  ·exact AS _
  ·split
   ·exact AS _
   ·simp
def il(s:Fe)(x:Ff)(t:Fi)(g:Int): ∀(r:List H0) (a:List Ff×List Fg),a.1.length<=(Q8 s x t g a r).1.length
 |[],_=>AS _
 |p::r,a=>by
  rw[Q8];exact AJ (AC1 s x t g a p) (il s x t g r _)
def ALG(g:List (List Fc)):Option (List Fg×List (List Fc))->Ran19
 |some a=>⟨a.1,a.2,0⟩
 |none=>⟨[],g,2⟩
def i9(x:Ff):Item19:=⟨x.tenant,x.head,x.chain⟩
def lI9(l:List Ff):List AV:=l.map λx => .agg (i9 x).c
@[go_sem] def AH5(l:List Ff):(lI9 l).length=l.length:=by simp[lI9]
def WK{l:List Ff}{i:Nat}{x:Ff}(h:l[i]? =some x):(lI9 l)[i]? =some (.agg (i9 x).c):=by simp[lI9,h]
def AD9(a:List Ff)(x:Ff):lI9 a++[.agg (i9 x).c]=lI9 (a++[x]):=by simp[lI9]
@[go_sem] def Am2(g : List (List Fc)): (if 3 <= (splice (Ran19.z.cf (some 12) (some 1)) 1 [AV.sl none (Gp g)]).length then
        some (splice (splice (Ran19.z.cf (some 12) (some 1)) 1 [AV.sl none (Gp g)]) 2 [AV.int .i64 2])
      else none)=some ((⟨[],g,2⟩:Ran19).cf (some 12) none) := rfl
structure okC7 (s:Fe) (sts:List (List Fc)) (h:H0) (tick:Int) (n:Nat) (q:List Ff) (now:List (List Fc)) (out:List Fg) (X:Fl):Prop where
 c0:X[0]? =some (some s.c)
 c2:X[2]? =some (some (Ran19.z.cf (some 12) (some 1)))
 c4:X[4]? =some (some (Gp now))
 c5:X[5]? =some (some [.sl (some 12) (F5 out),.msl 4 0 sts.length 1,.int .i64 0])
 fuel:n<=256
 res:J0 s sts h tick=TM s tick (600 - n) n q now out
 ql:q.length<=256/\n<=q.length/\out.length<=n*256
 itm:∀(i:Nat) (x:Ff),q[i]? =some x->Fr x.head=true/\(0<=x.tenant/\x.tenant<(s.tenants.length:Int))/\x.chain.length<=i
 nl:now.length=s.tenants.length
 st:∀(k:Nat) (t:Fi) (st:List Fc),s.tenants[k]? =some t->now[k]? =some st->Nq (Gc t).1 st/\st.length<=268435456+n*256000
 srt:cA now
structure okP7 (s:Fe) (sts:List (List Fc)) (x:Ff) (t:Fi) (n ox:Nat) (rn:Ran17) (now:List (List Fc)) (q:List Ff) (out:List Fg) (Z:Fl) (j:Nat):Prop where
 c0:Z[0]? =some (some s.c)
 c2:Z[2]? =some (some (Ran19.z.cf (some 12) (some 1)))
 c4:Z[4]? =some (some (Gp now))
 c5:Z[5]? =some (some [.sl (some 12) (F5 out),.msl 4 0 sts.length 1,.int .i64 0])
 cx:Z[ox]? =some (some (i9 x).c)
 ct:Z[ox+1]? =some (some t.c)
 cr:Z[ox+2]? =some (some rn.c)
 len:ox+3<=Z.length
 ox5:5<ox
 itm:∀(i:Nat) (y:Ff),q[i]? =some y->Fr y.head=true/\(0<=y.tenant/\y.tenant<(s.tenants.length:Int))/\y.chain.length<=i
 ql:n<q.length/\q.length<=256
 ol:out.length<=n*256+j
section
variable{s:Fe}{sts:List (List Fc)}{x:Ff}{t:Fi}{n ox:Nat}{rn:Ran17}{now:List (List Fc)}{q:List Ff}{out:List Fg}{Z:Fl}{j:Nat}
def okP7.grow(h:okP7 s sts x t n ox rn now q out Z j)(L:Fl):okP7 s sts x t n ox rn now q out (Z++L) (j+1) :=
 ⟨Fp h.c0 _,Fp h.c2 _,Fp h.c4 _,Fp h.c5 _,Fp h.cx _,Fp h.ct _,Fp h.cr _,by rw[AE];have:=h.len;omega,h.ox5,h.itm,h.ql,by have:=h.ol;omega⟩
def okP7.del(h:okP7 s sts x t n ox rn now q out Z j)(L:Fl)(d:Fg):okP7 s sts x t n ox rn now q (out++[d]) (Z.set 5 (some [.sl (some 12) (F5 (out++[d])),.msl 4 0 sts.length 1,.int .i64 0])++L) (j+1):=by
 have o:=(AD.1 h.c5).1;have p:=h.ox5;have g:∀(i:Nat) (v:Option (List AV)),i≠5->Z[i]? =some v->(Z.set 5 (some [.sl (some 12) (F5 (out++[d])),.msl 4 0 sts.length 1,.int .i64 0])++L)[i]? =some v:=λi v r C=>Fp (by rw[A2 (Ne.symm r)];exact C) _;exact⟨g 0 _ dc h.c0,g 2 _ dc h.c2,g 4 _ dc h.c4,Fp (Aw o) _,g ox _ Fj h.cx,g (ox+1) _ Fj h.ct,g (ox+2) _ Fj h.cr,by rw[AE,Aj];have:=h.len;omega,p,h.itm,h.ql,by rw[AE,BQ];have:=h.ol;omega⟩
def okP7.put(h:okP7 s sts x t n ox rn now q out Z j)(L:Fl)(d:Ff)(p:q.length+1<=256)(o:Fr d.head=true/\(0<=d.tenant/\d.tenant<(s.tenants.length:Int))/\d.chain.length<=n+1):okP7 s sts x t n ox rn now (q++[d]) out (Z++L) (j+1):=by
 refine⟨Fp h.c0 _,Fp h.c2 _,Fp h.c4 _,Fp h.c5 _,Fp h.cx _,Fp h.ct _,Fp h.cr _,by rw[AE];have:=h.len;omega,h.ox5,λi y g=>?_,⟨by rw[AE];have:=h.ql.1;omega,by rw[AE,BQ];exact p⟩,by have:=h.ol;omega⟩;rw[List.getElem?_append]at g;split at g
 ·exact h.itm i y g
 ·rename_i C;have r:=h.ql.1;have:i=q.length:=by
   by_cases I:i - q.length=0
   ·omega
   ·rw[A0 (by rw[BQ];omega)]at g;cases g
  subst this;rw[AP]at g;cases g;exact⟨o.1,o.2.1,by have:=o.2.2;omega⟩
end
def Oo:Hint:={ h7 with mt:=[26,28],fz:=[(4,[(8,some 1,false)]),(31,[(8,some 1,false)])] }
@[go_sem] def AlB(k:Nat):Oo.lv k=h7.lv k:=AH rfl rfl
@[go_sem] def AlD(k:Nat):Oo.ct k=h7.ct k:=AH rfl rfl
@[go_sem] def AlC(k:Nat):Oo.dn k=h7.dn k:=AH rfl rfl
@[go_sem] def AlE:Oo.at 0=[]/\Oo.at 1=[]/\Oo.at 2=[]/\Oo.at 3=[]/\Oo.at 4=[(8,some 1,false)]/\Oo.at 5=[]/\Oo.at 6=[]/\Oo.at 7=[]/\Oo.at 8=[]/\Oo.at 9=[]/\Oo.at 10=[]/\Oo.at 11=[]/\Oo.at 12=[]/\Oo.at 13=[]/\Oo.at 14=[]/\Oo.at 15=[]/\Oo.at 16=[]/\Oo.at 17=[]/\Oo.at 18=[]/\Oo.at 19=[]/\Oo.at 20=[]/\Oo.at 21=[]/\Oo.at 22=[]/\Oo.at 23=[]/\Oo.at 24=[]/\Oo.at 25=[]/\Oo.at 26=[]/\Oo.at 27=[]/\Oo.at 28=[]/\Oo.at 29=[]/\Oo.at 30=[]/\Oo.at 31=[(8,some 1,false)]:=⟨rfl,rfl,rfl,rfl,rfl,rfl,rfl,rfl,rfl,rfl,rfl,rfl,rfl,rfl,rfl,rfl,rfl,rfl,rfl,rfl,rfl,rfl,rfl,rfl,rfl,rfl,rfl,rfl,rfl,rfl,rfl,rfl⟩
@[go_sem] def Al':Oo.tk=[83,97,138,181,188]/\Oo.mt=[26,28]/\Oo.pc=[35,53,78,93,120,134,169]:=⟨rfl,rfl,rfl⟩
def AdQ:FK AA 7 f7 Oo:=⟨kr,kr,func7,kr⟩
def uG(s:Fe)(hb:Fo s.c<=1048576)(hR:R19 s)(hne:(Ft s.fields ⟨#[]⟩).2=false)(hwh : ∀ t∈s.tenants,Fm AA 39 [.agg t.c] (.tup [.sl none (GV (Gc t).1),.int .i64 (Gc t).2]))(C:List (List Fc))(hsr:cA C)(h:H0)(g:Int)(hr:Fr h=true)(R:okRun s C h g):Fm AA 7 [.agg s.c,.sl none (Gp C),.agg h.c,.int .i64 g] (.agg (ALG C (J0 s C h g)).c):=by
 have hnt:=R.ten;have elS:(Gp C).length=C.length:=Ns C;have c1:=AAu s hb hR (tW h);have h00:0<=h.h0/\h.h0<=65535:=HT hr 0;have eE:IntKind.i64.wrap (h.h0 - 10000)=tW h:=rfl;have eE2:tW h=h.h0 - 10000:=Mg Fj Fj;have hpre:((∀x∈Gp C,x.cells.length=1)=True):=eq_true λx hx=>by
  obtain⟨y,_,rfl⟩:=AN.1 hx;rfl
 have eS:splice (Ran19.z.cf (some 12) (some 1)) 1 [AV.msl 4 0 C.length 1]=[.sl (some 12) (F5 []),.msl 4 0 C.length 1,.int .i64 0]:=rfl;have eC:(Hx (Gp C)).map borrow1=Gp C:=by
  have:∀l:List (List Fc),(Hx (Gp l)).map borrow1=Gp l:=λl=>by
   induction l with
   |nil=>rfl
   |cons x l ih =>
    have e:Hx (Gp (x::l)) = .sl none (Fs x)::Hx (Gp l):=rfl;rw[e,AW,ih];rfl
  exact this C
 have hch:=R0 C;have hbb:=pX C;have hnn:(C.length:Int)=s.tenants.length:=by rw[R.len]
 refine pB AdQ rfl ?_;simp only[f7,go_sem,elS,eS,eC,AC,AG,Nat.reduceAdd];refine⟨Fj,Fj, ?_⟩;simp only[go_sem,eE];apply pK c1;rcases vm hR h with⟨o1,o2⟩|⟨j,t,hj,o1,o2,o3,o4,o5⟩
 ·have O:J0 s C h g=some ([],C):=bZ o2;have m1:((-1:Int)<0):=dc;rw[o1,O];by_cases gU:h.h0<10000
  ·simp only[go_sem,gU,dT];rw[UX (o:=2) (off2:=0) (ob:=4) (off:=0) (len:=C.length) (sz:=1) (cs:=Gp C) rfl rfl rfl dc rfl (by rw[elS];omega) (.inr rfl)];simp only[go_sem,BE,hbb,hch];rfl
  ·simp only[go_sem,gU,m1,dT,dF];rw[UX (o:=2) (off2:=0) (ob:=4) (off:=0) (len:=C.length) (sz:=1) (cs:=Gp C) rfl rfl rfl dc rfl (by rw[elS];omega) (.inr rfl)];simp only[go_sem,BE,hbb,hch];rfl
 ·have gU:¬h.h0<10000:=Fj;have j0:¬(j:Int)<0:=Fj;have j1:(0:Int)<=(j:Int):=Fj;have c2:=AAv t h;have eI:i64 (h.h0 - 10000)=tW h:=rfl;rw[eI,o5]at c2;simp only[go_sem,o1,gU,j0,j1,dF,F7 hj];apply pK c2;simp only[go_sem];refine JB (σ:=Nat×List Ff×List (List Fc)×List Fg×Fl) (λa=>[(1,.sl none (Gp C)),(3,.int .i64 g),(4,.ptr 0 0),(8,.ptr 2 0),(9,.ptr 5 0),(14,.sl (some 12) (lI9 a.2.1)),(15,.int .i64 a.1)])
   (λa=>a.2.2.2.2) (λa=>okC7 s C h g a.1 a.2.1 a.2.2.1 a.2.2.2.1 a.2.2.2.2) (λa=>600 - a.1) (0,[⟨(j:Int),(PR t h).1,[]⟩],C,[],_) ?_ rfl rfl ?_
  ·refine⟨rfl,rfl,rfl,rfl,Nat.zero_le _, ?_,⟨F3,F3,F3⟩,λi x hx=>?_,R.len,λk t2 st h1 h2=>?_,hsr⟩
   ·unfold J0;rw[o2];rfl
   ·match i,hx with
    | 0,hx =>
     simp only[List.getElem?_cons_zero,Option.some.injEq]at hx;subst hx;have:=(AD.1 hj).1;exact⟨R.ent t (AB hj) o3,⟨by dsimp only;omega,by dsimp only;omega⟩,F3⟩
    |i+1,hx=>simp at hx
   ·have:=R.st k t2 st h1 h2;exact⟨this.1,by have:=this.2;dsimp only;omega⟩
  rintro ⟨n,q,J,out,X⟩ hI;dsimp only at hI ⊢;obtain⟨x0,x2,x4,x5,xf,xr,xq,xi,xl,xs,xo⟩:=hI;have eq:(lI9 q).length=q.length:=AH5 q;simp only[go_sem,eq];refine cS ?_ ?_<;>intro hc
  ·have hc:=of_decide_eq_true hc;have hnl:n<q.length:=Fj;obtain⟨x,hx⟩:∃x,q[n]? =some x:=⟨_,AL hnl⟩;obtain⟨hxr,⟨hx0,hx1⟩,hxc⟩:=xi n x hx;obtain⟨m,hm⟩:∃m:Nat,x.tenant=(m:Int):=⟨x.tenant.toNat,Fj⟩;have hmT:m<s.tenants.length:=Fj;obtain⟨t,ht⟩:∃t,s.tenants[m]? =some t:=⟨_,AL hmT⟩;obtain⟨st,hst⟩:∃st,J[m]? =some st:=⟨_,AL Fj⟩;have htm:=AB ht;obtain⟨p1,p2⟩:=R.prg m t ht;obtain⟨s1,s2⟩:=xs m t st ht hst;have c3:=hwh t htm;have hlenb:st.length+(Gc t).1.length*256<=1073741823:=by have:=xq.1;have:=xq.2.1;omega
   have hfl:s.fields.length<=1073741824:=by have:=S0 (JI R.bulk);omega
   have c4:=AIu s.fields R.fld hfl hne (Gc t).1 p1 st hlenb s1 (xo st (AB hst)) x.head hxr g R.tick;have l0:=(AD.1 x0).1;have l4:=(AD.1 x4).1;have l5:=(AD.1 x5).1;have gX0:=Fp x0;have gX4:=Fp x4;have gX5:=Fp x5;have gx:∀y L,(X++y::L)[X.length]? =some y:=λy L=>F3;have gx1:∀y z L,(X++y::z::L)[X.length+1]? =some z:=λy z L=>F3;have gx2:∀y z w L,(X++y::z::w::L)[X.length+2]? =some w:=λy z w L=>F3;have sx:∀y z,(X++[y]).set X.length z=X++[z]:=λy z=>F3;have sx1:∀y z w,(X++[y,z]).set (X.length+1) w=X++[y,w]:=λy z w=>F3;have sx2:∀y z w v,(X++[y,z,w]).set (X.length+2) v=X++[y,z,v]:=λy z w v=>F3;have P:(0:Int)<=(m:Int):=Fj;have T:(m:Int)<(s.tenants.length:Int):=Fj;have hm2:(m:Int)<(C.length:Int):=by rw[R.len];omega
   have U:(i9 x).tenant=(m:Int):=hm;have h0n:(0:Int)<=(n:Int):=Fj;simp only[go_sem,h0n,hc,x0,x4,x5,gX0,gX4,gX5,gx,gx1,gx2,sx,sx1,sx2,WK hx,F7 ht,J9 hst,U,P,T,hm2,AE,AC,AG,AX,Nat.reduceAdd];apply pK c3;simp only[go_sem,x0,x4,x5,gX0,gX4,gX5,gx,gx1,gx2,sx,sx1,sx2,WK hx,F7 ht,J9 hst,U,P,T,hm2,AE,AC,AG,AX,Nat.reduceAdd];obtain⟨f',hf'⟩:∃f',600 - n=f'+1:=⟨600 - n - 1,Fj⟩;have hf2:600 - (n+1)=f':=Fj;have hto:x.tenant.toNat=m:=Fj;have b2:((2:Int) !=0)=true:=rfl;have b0:((0:Int) !=0)=false:=rfl;have hxh:(i9 x).head=x.head:=rfl;have gX2:=Fp x2;have l2:=(AD.1 x2).1;have g22:∀L v,((X++L).set 2 v)[2]? =some v:=λL v=>Aw (by rw[AE];omega);cases er:Nl s.fields (Gc t).1 st x.head g with
   |none =>
    rw[er]at c4;have O:J0 s C h g=none:=by rw[xr,hf',TM,hx];dsimp only;rw[hto,ht,hst];dsimp only;rw[er]
    rw[O];apply pK c4;simp only[go_sem,ALF,b2,x2,gX2,g22,x0,x4,x5,gX0,gX4,gX5,gx,gx1,gx2,sx,sx1,sx2,WK hx,F7 ht,J9 hst,U,P,T,hm2,AE,AC,AG,AX,Nat.reduceAdd];rfl
   | some b =>
    rw[er]at c4;obtain⟨r1,r2,r3,r4⟩:=Wp R.fld hfl p1 R.tick s1 hlenb hxr er;have r5:KJ b.2:=Wq _ (a:=([x.head],st)) (xo st (AB hst)) er;have e5:TM s g (f'+1) n q J out=if 256<(Q8 s x t g (q,out) b.1).1.length then none else TM s g f' (n+1) (Q8 s x t g (q,out) b.1).1 (J.set m b.2) (Q8 s x t g (q,out) b.1).2:=by rw[TM,hx];dsimp only;rw[hto,ht,hst];dsimp only;rw[er]
    rw[hf',e5]at xr;have sX4:∀(L:Fl) y,(X++L).set 4 y=X.set 4 y++L:=λL y=>KC l4 L;have hml:m+1<=J.length:=Fj;have hsp:=jk J m b.2 Fj;apply pK c4;simp only[go_sem,ALF,b0,sX4,hml,hsp,x0,x4,x5,gX0,gX4,gX5,gx,gx1,gx2,sx,sx1,sx2,WK hx,F7 ht,J9 hst,U,P,T,hm2,AE,AC,AG,AX,Nat.reduceAdd];have lsn:(X.set 4 (some (Gp (J.set m b.2)))).length=X.length:=Aj ..;have lX5:5<X.length:=l5;have elb:(F2 b.1).length=b.1.length:=Nz _;refine F6 b.1 (λ(a:List Ff×List Fg×Fl) (r:List H0)=>Q8 s x t g (a.1,a.2.1) r) (λj a=>okP7 s C x t n X.length ⟨b.1,b.2,0⟩ (J.set m b.2) a.1 a.2.1 a.2.2 j) (λj a=>[(1,.sl none (Gp C)),(3,.int .i64 g),(4,.ptr 0 0),(8,.ptr 2 0),(9,.ptr 5 0),(14,.sl (some 12) (lI9 a.1)),(15,.int .i64 n),(16,.ptr X.length 0),(17,.ptr (X.length+1) 0),(20,.ptr (X.length+2) 0),(21,.int .i64 j)])
     (λ_ a=>a.2.2) (q,out,_) Fj ?_ ?_ rfl ?_ ?_
    ·have u0:(X.set 4 (some (Gp (J.set m b.2))))[0]? =some (some s.c):=by rw[A2 dc];exact x0
     have u2:(X.set 4 (some (Gp (J.set m b.2))))[2]? =some (some (Ran19.z.cf (some 12) (some 1))):=by rw[A2 dc];exact x2
     have u4:(X.set 4 (some (Gp (J.set m b.2))))[4]? =some (some (Gp (J.set m b.2))):=Aw l4;have u5:(X.set 4 (some (Gp (J.set m b.2))))[5]? =some (some [.sl (some 12) (F5 out),.msl 4 0 C.length 1,.int .i64 0]):=by rw[A2 dc];exact x5
     refine⟨Fp u0 _,Fp u2 _,Fp u4 _,Fp u5 _, ?_, ?_, ?_, ?_,lX5,xi,⟨hnl,xq.1⟩,by dsimp only;omega⟩
     ·dsimp only;rw[<- lsn];simp
     ·dsimp only;rw[<- lsn];simp
     ·dsimp only;rw[<- lsn];simp
     ·dsimp only;rw[AE,lsn];exact AS _
    ·rfl
    ·rintro j ⟨V,I,Z⟩ p ps hd2 hxp hI2 hF2 g0 g1 gw;dsimp only at hI2 hF2 ⊢;have hI3:=hI2;obtain⟨y0,y2,y4,y5,yx,yt,yr,yl,yo,y7,y8,y9⟩:=hI2;have hrp:=r1 p (AB hxp);have hjl:=(AD.1 hxp).1;have d1:=AFb t p;have eX:Lw (Hp t p.h0) p=exT t p:=rfl;rw[eX]at d1;have d2:=bX s R.fld (by have:=I8 (HM R.bulk);omega) m t ht p hrp g R.pred;have eK:IS (Pd s t.name p g) s.contracts=OW s t p g:=rfl;rw[eK]at d2;have l0':=(AD.1 y0).1;have l2':=(AD.1 y2).1;have l5':=(AD.1 y5).1;have gY0:=Fp y0;have gY2:=Fp y2;have gY4:=Fp y4;have gY5:=Fp y5;have gYx:=Fp yx;have gYt:=Fp yt;have gYr:=Fp yr;have gz:∀y L,(Z++y::L)[Z.length]? =some y:=λy L=>F3;have gz1:∀y z L,(Z++y::z::L)[Z.length+1]? =some z:=λy z L=>F3;have sz:∀y z,(Z++[y]).set Z.length z=Z++[z]:=λy z=>F3;have sz1:∀y z w,(Z++[y,z]).set (Z.length+1) w=Z++[y,w]:=λy z w=>F3;have s5:∀(L:Fl) v,(Z++L).set 5 v=Z.set 5 v++L:=λL v=>KC l5' L;have ss5:∀(v w:Option (List AV)),(Z.set 5 v).set 5 w=Z.set 5 w:=λv w=>List.set_set ..;have ls5:∀v:Option (List AV),(Z.set 5 v).length=Z.length:=λv=>Aj ..;have s55:∀v w (L:Fl),(Z.set 5 v++L).set 5 w=Z.set 5 w++L:=λv w L=>by rw[KC (by rw[ls5];exact l5'),ss5]
     have g55:∀v (L:Fl),(Z.set 5 v++L)[5]? =some v:=λv L=>Fp (Aw l5') _;have g5x:∀v (L:Fl),(Z.set 5 v++L)[X.length]? =some (some (i9 x).c):=λv L=>Fp (by rw[A2 Fj];exact yx) _;have g5z:∀v y (L:Fl),(Z.set 5 v++y::L)[Z.length]? =some y:=λv y L=>by rw[<- ls5 v];simp
     have hpk:Q8 s x t g (q,out) b.1=Q8 s x t g (Vc s x t g (V,I) p) ps:=hF2;simp only[go_sem,g0,g1,GG hxp,gz,gz1,sz,sz1,y0,y2,y4,y5,yx,yt,yr,gY0,gY2,gY4,gY5,gYx,gYt,gYr,U,P,T,F7 ht,elb,AE,AC,AG,AX,Nat.reduceAdd];apply pK d1;cases he:(exT t p).2 with
     |false =>
      simp only[go_sem,he,gw,gz,gz1,sz,sz1,y0,y2,y4,y5,yx,yt,yr,gY0,gY2,gY4,gY5,gYx,gYt,gYr,U,P,T,F7 ht,elb,AE,AC,AG,AX,Nat.reduceAdd];have e6:Vc s x t g (V,I) p=(V,I):=by unfold Vc;rw[iP he]
      exact⟨(V,I,_),by rw[Q8,e6],hI3.grow _,rfl,rfl⟩
     | true =>
      simp only[go_sem,he,g0,g1,GG hxp,gz,gz1,sz,sz1,y0,y2,y4,y5,yx,yt,yr,gY0,gY2,gY4,gY5,gYx,gYt,gYr,U,P,T,F7 ht,elb,AE,AC,AG,AX,Nat.reduceAdd];apply pK d2;simp only[go_sem,he,g0,g1,GG hxp,gz,gz1,sz,sz1,y0,y2,y4,y5,yx,yt,yr,gY0,gY2,gY4,gY5,gYx,gYt,gYr,U,P,T,F7 ht,elb,AE,AC,AG,AX,Nat.reduceAdd];refine cS ?_ ?_<;>intro hc3
      ·have hc3:=of_decide_eq_true hc3;have e6:Vc s x t g (V,I) p=(V,I++[⟨(m:Int),(exT t p).1,x.chain⟩]):=by unfold Vc;rw[iN (by rw[he];decide),iP hc3,hm]
       simp only[go_sem,gw,s5,ss5,s55,g55,g5x,g5z,gz,gz1,sz,sz1,y0,y2,y4,y5,yx,yt,yr,gY0,gY2,gY4,gY5,gYx,gYt,gYr,U,P,T,F7 ht,elb,AE,AC,AG,AX,Nat.reduceAdd];exact⟨Fj,Fj,(V,I++[⟨(m:Int),(exT t p).1,x.chain⟩],_),by rw[Q8,e6],hI3.del _ _,rfl,rfl⟩
      ·have hc3:=of_decide_eq_false hc3;obtain⟨ci,d,hK,hd⟩:∃(ci:Nat) (d:Contract),OW s t p g=(ci:Int)/\s.contracts[ci]? =some d:=by
        rcases LM (Pd s t.name p g) s.contracts 0 with⟨w1,w2⟩|⟨i,y,w1,w2,w3⟩
        ·have:OW s t p g = -1:=w1;omega
        ·exact⟨i,y,by unfold OW IS;rw[w1,AX],w2⟩
       have hdm:=AB hd;obtain⟨t1,t2⟩:=R.to d hdm;obtain⟨t3,t4⟩:=R.port d hdm;have hcl:=(AD.1 hd).1;have hcn:s.contracts.length<=1048576:=I8 (HM R.bulk);have k0:(0:Int)<=(ci:Int):=Fj;have k1:(ci:Int)<(s.contracts.length:Int):=Fj;have hkt:(OW s t p g).toNat=ci:=Fj;have e6:Vc s x t g (V,I) p=(V++[⟨Gu s d.dst,{ p with h0:=d.toPort },x.chain++[(ci:Int)]⟩],I):=by unfold Vc;rw[iN (by rw[he];decide),iN hc3,hkt,hd,hK]
       have d4:=WU s d.dst Fj;have d5:bw (Gu s d.dst) = .tup [.int .i64 (Gu s d.dst),.bool true]:=by unfold bw Q_;rw[decide_eq_true t1];congr;split<;>omega
       rw[d5]at d4;simp only[go_sem,hK,k0,k1,GT hd,g0,g1,GG hxp,gz,gz1,sz,sz1,y0,y2,y4,y5,yx,yt,yr,gY0,gY2,gY4,gY5,gYx,gYt,gYr,U,P,T,F7 ht,elb,AE,AC,AG,AX,Nat.reduceAdd];have hxc2:(i9 x).chain.length<=256:=by have h1:(i9 x).chain=x.chain:=rfl;rw[h1];omega
       refine⟨Fj,Fj,Fj,Fj, ?_⟩;apply pK d4;simp only[go_sem,hK,k0,k1,GT hd,g0,g1,GG hxp,gz,gz1,sz,sz1,y0,y2,y4,y5,yx,yt,yr,gY0,gY2,gY4,gY5,gYx,gYt,gYr,U,P,T,F7 ht,elb,AE,AC,AG,AX,Nat.reduceAdd];have hrp':Fr { p with h0:=d.toPort }=true:=Pj hrp t3 t4;have gz22:∀(L:Fl) v,((Z++L).set 2 v)[2]? =some v:=λL v=>Aw (by rw[AE];omega);have hsn:lI9 V++[AV.agg (({ tenant:=Gu s d.dst,head:={ p with h0:=d.toPort },chain:=(i9 x).chain++[(ci:Int)] }:Item19).cf none)]=lI9 (V++[⟨Gu s d.dst,{ p with h0:=d.toPort },x.chain++[(ci:Int)]⟩]):=AD9 V ⟨Gu s d.dst,{ p with h0:=d.toPort },x.chain++[(ci:Int)]⟩;refine⟨Fj,Fj, ?_⟩;by_cases qG:256<V.length+1
       ·have h257b:(256:Int)<((V.length+1:Nat):Int):=Fj;have O:J0 s C h g=none:=by
         rw[xr];refine iP ?_;rw[hpk,e6];have:=il s x t g ps (V++[⟨Gu s d.dst,{ p with h0:=d.toPort },x.chain++[(ci:Int)]⟩],I);rw[AE,BQ]at this;omega
        rw[O];simp only[go_sem,h257b,dT,y2,gY2,gz22,AE,AC,AG,AX,Nat.reduceAdd];rfl
       ·have h257b:¬(256:Int)<((V.length+1:Nat):Int):=Fj;simp only[go_sem,h257b,dF,hsn,gw];exact⟨(V++[⟨Gu s d.dst,{ p with h0:=d.toPort },x.chain++[(ci:Int)]⟩],I,_),by rw[Q8,e6],hI3.put _ _ Fj ⟨hrp',⟨t1,t2⟩,by rw[AE];exact C6 hxc⟩,rfl,rfl⟩
    ·rintro ⟨V,I,Z⟩ hI2 hF2;dsimp only at hI2 hF2 ⊢;obtain⟨y0,y2,y4,y5,yx,yt,yr,yl,yo,y7,y8,y9⟩:=hI2;have hpk:Q8 s x t g (q,out) b.1=(V,I):=hF2;rw[hpk]at xr;have O:J0 s C h g=TM s g f' (n+1) V (J.set m b.2) I:=by rw[xr];exact iN (by dsimp only;omega)
     have hwn:IntKind.i64.wrap ((n:Int)+1)=((n+1:Nat):Int):=K_ Fj;simp only[go_sem,AR,dF,yr,elb,hwn];refine⟨(n+1,V,J.set m b.2,I,Z),⟨y0,y2,y4,y5,by dsimp only;omega,by rw[hf2];exact O,⟨y8.2,y8.1,by dsimp only;omega⟩,y7,by rw[Aj];exact xl,λk t2 st2 h1 h2=>?_,λst2 h2=>?_⟩,by dsimp only;omega,rfl,rfl⟩
     ·dsimp only at h2 ⊢;rw[List.getElem?_set]at h2;split at h2
      ·rename_i hkm;subst hkm;rw[ht]at h1;cases h1;split at h2
       ·cases h2;exact⟨r3,Fj⟩
       ·cases h2
      ·have:=xs k t2 st2 h1 h2;exact⟨this.1,AJ this.2 (Nat.add_le_add_left (Nat.mul_le_mul_right _ (Nat.le_succ n)) _)⟩
     ·dsimp only at h2;rcases DR h2 with h2|rfl
      ·exact xo st2 h2
      ·exact r5
  ·have hc:=of_decide_eq_false hc;have hq2:q[n]? =none:=A0 Fj;have O:J0 s C h g=some (out,J):=by
    rw[xr];obtain⟨f',hf'⟩:∃f',600 - n=f'+1:=⟨600 - n - 1,Fj⟩;rw[hf',TM,hq2]
   have l2:=(AD.1 x2).1;have hnl:C.length=J.length:=by rw[R.len,xl]
   have g22:∀v,(X.set 2 v)[2]? =some v:=λv=>Aw l2;have g24:∀v,(X.set 2 v)[4]? =some (some (Gp J)):=λv=>by rw[A2 dc];exact x4
   have elN:(Gp J).length=J.length:=Ns J;rw[O];simp only[go_sem,x5,x2];rw[UX (o:=2) (off2:=0) (ob:=4) (off:=0) (len:=C.length) (sz:=1) (cs:=Gp J) rfl (g22 _) rfl dc (g24 _) (by rw[elN,hnl];omega) (.inr rfl)];have g2z:∀v w,(((X.set 2 v).set 4 none).set 2 w)[2]? =some w:=λv w=>Aw (by rw[Aj,Aj];exact l2);simp only[go_sem,BE,pX,hnl,R0,g2z];rfl
end Go.AI
namespace Go.AI
open Go.Proofs
set_option maxRecDepth 50000
def AFY(s:Fe)(T:R19 s)(hf:Id s=true)(U:Fo s.c<=1048576)(V:(Ft s.fields ⟨#[]⟩).2=false)(hwh:∀t∈s.tenants,Fm AA 39 [.agg t.c] (.tup [.sl none (GV (Gc t).1),.int .i64 (Gc t).2]))(i:List (List Fc))(hs:Lq s i 60)(hsr:cA i)(l:List Fh)(hl:l.length<=12)(hr:∀a∈l,Fr a.head=true/\0<=a.tick/\a.tick<=1073741824):
  Fm AA 11 [.agg s.c,.sl none (Gp i),.sl none (N1 l)] (.tup [.sl none (PN (Ip s i l).1),.sl none (Gp (Ip s i l).2)]):=by
 have I:(N1 l).length=l.length:=S2 l;refine pB AhI rfl ?_;simp only[f11,go_sem,I];refine F6 l (λ(w:List (Int×List Fg)×List (List Fc)×Fl) (r:List Fh)=>(w.1++(Ip s w.2.1 r).1,(Ip s w.2.1 r).2)) (λk w=>w.1.length=k/\Lq s w.2.1 (60+k*1228800)/\cA w.2.1)
  (λk w=>[(1,.sl none (Gp w.2.1)),(2,.sl none (N1 l)),(3,.ptr 0 0),(8,.sl (some 2) (PN w.1)),(9,.int .i64 k)]) (λk w=>some s.c::w.2.2) ([],i,[]) Fj ⟨rfl,by simpa using hs,hsr⟩ rfl rfl ?_ ?_
 ·rintro k ⟨out,g,J⟩ a ar hd hx ⟨O,j,P⟩ o h0 p hw;dsimp only at O j P o ⊢;have hkl:=(AD.1 hx).1;have C:=hr a (AB hx);have R:=UF T hf U j Fj C.1 C.2;have c1:=uG s U T V hwh g P a.head a.tick C.1 R;have h3:=WB T hf U j Fj C.1 C.2;have h4:=ACP (s:=s) (a:=a) P;have gN:∀a (L:Fl) z,(a::(L++[z]))[List.length (a::L)]? =some z:=λa L z=>by
   have:a::(L++[z])=(a::L)++[z]:=F3;rw[this];exact BT
  have sN:∀a (L:Fl) z z2,(a::(L++[z])).set (List.length (a::L)) z2=a::(L++[z2]):=λa L z z2=>by
   have:a::(L++[z])=(a::L)++[z]:=F3;rw[this];simp
  have eS:ALG g (J0 s g a.head a.tick)=⟨(Ir s g a).1.2,(Ir s g a).2,(Ir s g a).1.1⟩:=by
   unfold Ir;cases J0 s g a.head a.tick<;>rfl
  rw[eS]at c1;simp only[go_sem,h0,p,J_ hx,I,gN,sN];apply pK c1;simp only[go_sem,h0,p,J_ hx,I,gN,sN,hw];have e1:60+k*1228800+1228800=60+(k+1)*1228800:=by rw[Nat.add_mul];omega
  rw[e1]at h3;have eO:PN out++[AV.agg (({ e:=(Ir s g a).1.1,l:=(Ir s g a).1.2 }:Outcome).cf none)]=PN (out++[(Ir s g a).1]):=by unfold PN;rw[List.map_append];rfl
  rw[eO];exact⟨Fj,Fj,(out++[(Ir s g a).1],(Ir s g a).2,_),by rw[Ip];simp[List.append_assoc],⟨by rw[AE,BQ];exact congrArg (· + 1) O,h3,h4⟩,rfl,rfl⟩
 ·rintro ⟨out,g,J⟩ ⟨O,j,P⟩ o;dsimp only at O j o ⊢;simp only[go_sem,AR,dF,I];have hF2:Ip s i l=(out,g):=by
   have p:=congrArg Prod.fst o;have h2:=congrArg Prod.snd o;simp only[Ip,AM,List.append_nil]at p h2;exact Prod.ext p h2
  rw[hF2]
def AZ5{l:List Fld}(h:PU l=0):(Ft l ⟨#[]⟩).2=false:=by
 have j:nmB ⟨#[]⟩=false:=dc;have:∀(r:List Fld) (i:Nat),I1 l i r=0 -> ∀f∈r,f.name≠⟨#[]⟩:=by
  intro r;induction r with
  |nil=>intro i _ f g;cases g
  | cons x r o =>
   intro i h f g;rw[I1]at h;split at h
   ·cases h
   rename_i hx;split at h
   ·cases h
   split at h
   ·cases h
   split at h
   ·cases h
   rcases AY.1 g with rfl|g
   ·intro e;rw[e,j]at hx;exact hx (.inl rfl)
   ·exact o _ h f g
 have p:∀f∈l,f.name≠⟨#[]⟩:=by
  unfold PU at h;split at h
  ·cases h
  ·exact this l 0 h
 have t:¬(⟨#[]⟩:ByteArray)=Gd:=dc;unfold Ft;rw[iN t,List.find?_eq_none.2 λf g=>by simpa using p f g]
def Acf{s:Fe}(j:Fo s.c<=1048576)(t:Fi)(hm:t∈s.tenants):Fm AA 39 [.agg t.c] (.tup [.sl none (GV (Gc t).1),.int .i64 (Gc t).2]):=by
 have g:Fo t.c<=1048576:=by
  have i:=Oj (IZ j) hm;simpa only[AV.bulk]using i
 refine s7 t (AJ (Mr (IK g)) dc) (AJ (Mc (HV g)) dc) λx hx=>Ul ?_ (Mr (IK g));have i:=KZ (HV g) hx;have o:Fo x.c<=1048576:=by simpa only[AV.bulk]using i
 exact IL o
def kQ:Hint:={ h3 with pc:=[33,45,59,63,69,82,89,94,99,104,106,107,118,137,145] }
@[go_sem] def AkY(k:Nat):kQ.lv k=h3.lv k/\kQ.ct k=h3.ct k/\kQ.at k=h3.at k/\kQ.dn k=h3.dn k:=⟨AH rfl rfl,AH rfl rfl,AH rfl rfl,AH rfl rfl⟩
@[go_sem] def AlO:kQ.tk=[60,66,87,92,93,97,98]/\kQ.mt=[]/\kQ.pc=[33,45,59,63,69,82,89,94,99,104,106,107,118,137,145]:=⟨rfl,rfl,rfl⟩
def ALp:FK AA 3 f3 kQ:=⟨kr,kr,func3,kr⟩
def AIo(o:Fm AA 5 [] (.bool true))(s:Fe)(sts:List (List Fc))(l:List Fh)(k:Int)(C:Fo s.c<=1048576)(hsb:Fo (Gp sts)<=1048576)(V:Fo (N1 l)<=1048576):Fm AA 3 [.agg s.c,.sl none (Gp sts),.sl none (N1 l),.int .i64 k] (.bool true):=by
 obtain⟨hsl,P⟩:=AH2 hsb;have hlb:=AH' V;have J:(N1 l).length=l.length:=S2 l;have q1:=AHS s C sts Fj (λst hm=>⟨by have:=(P st hm).1;omega,λe he=>by have:=(P st hm).2 e he;omega⟩) l Fj;refine pC ALp rfl ?_;simp only[f3,go_sem];refine L0 (K9.lend q1) λr hr=>?_;obtain⟨bb,rfl,hq⟩:=hr;cases bb with
 |false =>
  simp only[go_sem,Ay];apply pK o;simp only[go_sem]
 | true =>
  obtain⟨R,h2,h3⟩:=hq rfl;have p:=aR R;have O:Id s=true:=by unfold Kk at R;rw[AQ]at R;exact R.1
  have hne:=AZ5 p.fld0;have hSt:=ADf p h2 λst h=>(P st h).2;have hN:=hSt.n p;have hsr:cA sts:=λst hm=>by
   obtain⟨i,hi⟩:=List.getElem?_of_mem hm;have hil:=(AD.1 hi).1;have ht:s.tenants[i]? =some (s.tenants[i]'(by rw[<- h2.1];exact hil)):=AL _;exact mL (h2.2 i _ st ht hi).1.2.2.2
  by_cases hl0:l.length=0
  ·have z0:((l.length:Int)==0)=true:=by rw[hl0];rfl
   simp only[go_sem,Ax,J,z0];apply pK o;simp only[go_sem]
  have z0:((l.length:Int)==0)=false:=by rw[beq_eq_false_iff_ne];omega
  by_cases hl12:12<l.length
  ·have z1:(12:Int)<(l.length:Int):=Fj;simp only[go_sem,Ax,J,z0,z1,dT];apply pK o;simp only[go_sem]
  have z1:¬(12:Int)<(l.length:Int):=Fj;have T:(0:Int)<(l.length:Int):=Fj;have U:(0:Int)<=0:=dc;have I:∀x∈l,Fr x.head=true/\0<=x.tick/\x.tick<=1073741824:=λx hx=>by
   have t:=h3 x hx;unfold Zb at t;simp only[AQ,decide_eq_true_eq]at t;exact⟨t.1,t.2.2.1,t.2.2.2⟩
  obtain⟨a,t⟩:∃a,l[0]? =some a:=⟨_,AL Fj⟩;have g:=I a (AB t);have j:=jQ p O C hSt g.1 ⟨g.2.1,g.2.2⟩;have c1:=ADH s sts a.head a.tick g.1 j;have c2:=uG s C p hne (Acf C) sts hsr a.head a.tick g.1 j;have c3:=ALR s p O C sts hN l Fj I;have c4:=AFY s p O C hne (Acf C) sts hN hsr l Fj I;have hnt:s.tenants.length<=256:=j.ten;have c5:=AHl s Fj;have c6:=AAr s Fj;have e1:iS sts (J0 s sts a.head a.tick) = .tup [.sl none (F5 (Ir s sts a).1.2),.sl none (Gp (Ir s sts a).2),.int .i64 (Ir s sts a).1.1]:=by
   unfold Ir;cases J0 s sts a.head a.tick<;>rfl
  have e2:ALG sts (J0 s sts a.head a.tick)=⟨(Ir s sts a).1.2,(Ir s sts a).2,(Ir s sts a).1.1⟩:=by
   unfold Ir;cases J0 s sts a.head a.tick<;>rfl
  rw[e1]at c1;rw[e2]at c2;simp only[go_sem,Ax,J,z0,z1,T,U,dF,J_ t];apply pK c1;simp only[go_sem,J,T,U,J_ t];apply pK c2;simp only[go_sem,J,T,U,J_ t];have wl:=WB p O C hN dc g.1 ⟨g.2.1,g.2.2⟩;have hO1:=gk p (sts:=sts) (a:=a);have hnt8:s.tenants.length<=8:=by
   unfold Id at O;simp only[AQ,decide_eq_true_eq]at O;have:=O.2.2.1;omega
  have d1:=bY (Ir s sts a).1.2 Fj λd hd=>by have:=hO1.2 d hd;omega
  have d2:=Ug (Ir s sts a).2 (by rw[wl.1];omega) λst h=>⟨by have:=(wl.keys st h).1;omega,λe he=>by have:=(wl.keys st h).2 e he;omega⟩;have hS:=ik p O C l hN Fj I;have d3:=Ug (Ip s sts l).2 (by rw[hS.1];omega) λst h=>⟨by have:=(hS.keys st h).1;omega,λe he=>by have:=(hS.keys st h).2 e he;omega⟩;have d4:=AAs (Ip s sts l).1 (by rw[ae];omega) λx hx=>⟨by have:=(T8 p _ _ x hx).1;omega,λd hd=>by have:=(T8 p _ _ x hx).2 d hd;omega⟩;have d5:=Ug (oC s) (by unfold oC;rw[List.length_map];omega) λst h=>by
   obtain⟨_,_,rfl⟩:=AN.1 h;exact⟨F3,F3⟩
  have v1:((Ir s sts a).1.1 !=(Ir s sts a).1.1)=false:=F3;generalize (Ir s sts a).1.2=o1 at d1 ⊢;generalize (Ir s sts a).2=o2 at d2 ⊢;generalize (Ir s sts a).1.1=o3 at v1 ⊢;generalize (Ip s sts l).2=o4 at c3 c4 d3;generalize (Ip s sts l).1=o5 at c3 c4 d4;apply pK d1;simp only[go_sem];apply pK d2;simp only[go_sem,v1];apply pK c3;simp only[go_sem];apply pK c4;simp only[go_sem];apply pK d4;simp only[go_sem];apply pK d3;simp only[go_sem];apply pK c5;simp only[go_sem];apply pK c6;simp only[go_sem];apply pK d5;have hw0:0<=a.head.h0/\a.head.h0<=65535:=HT g.1 0;have hm:0<=a.head.h0.tmod 5/\a.head.h0.tmod 5<=65535:=by
   have R:=Int.tmod_nonneg 5 hw0.1;have h2:=Int.tmod_lt_of_pos a.head.h0 (show(0:Int)<5 by decide);exact⟨R,Fj⟩
  have n5:¬((5:Int)=0):=dc;have hw5:IntKind.i64.wrap (a.head.h0.tmod 5)=a.head.h0.tmod 5:=Mg Fj Fj;have hr5:Fr { a.head with h0:=a.head.h0.tmod 5 }=true:=Pj g.1 hm.1 hm.2;simp only[go_sem,J,T,U,J_ t,n5,hw5];apply pK o;by_cases k0:k<0
  ·simp only[go_sem,k0,dT]
  by_cases k1:(s.tenants.length:Int)<=k
  ·simp only[go_sem,k0,k1,dT,dF]
  obtain⟨m,rfl⟩:∃m:Nat,k=(m:Int):=⟨k.toNat,Fj⟩;obtain⟨u,hu⟩:∃u,s.tenants[m]? =some u:=⟨_,AL Fj⟩;have c7:=tH s p.fld (by have:=S0 (JI C);omega) (by have:=I8 (HM C);omega) m u hu _ hr5 a.tick j.pred;have c8:=bX s p.fld (by have:=I8 (HM C);omega) m u hu _ hr5 a.tick j.pred;simp only[go_sem,k0,k1,dF,J,T,U,J_ t];apply pK c7;simp only[go_sem,k0,k1,dF,J,T,U,J_ t];apply pK c8;simp only[go_sem];simp
end Go.AI
