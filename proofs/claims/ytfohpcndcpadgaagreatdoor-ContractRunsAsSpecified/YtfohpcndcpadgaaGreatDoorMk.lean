/- Rows of a known capacity;rows of any width that become lists. -/
import Derived.Test.YtfohpcndcpadgaaGreatDoorMx
set_option linter.unusedSimpArgs false
set_option linter.unusedVariables false
set_option maxHeartbeats 4000000
open Go.Proofs.Tryz
open Go.AI renaming Entry->FG,Hint->FH,Head->FI,Doing->FJ,Stage->FL,Item->FM,Tenant->FN,Setup->FO,Delivery->FP,Contract->FQ
open Bool renaming and_eq_true->AQ,not_false->Ay,not_true->Ax
open Eq renaming trans->AH
open Int renaming lt_irrefl->AR,toNat_natCast->AZ
open List renaming append_assoc->AF,append_nil->Ai,cons_append->AU,drop_drop->A_,drop_left'->Dt,drop_of_length_le->C4,drop_zero->BE,ext_getElem?->A6,filter_append->Ch,filter_eq_self->DZ,find?_cons->BN,find?_some->Dc,getElem?_append_right->AO,getElem?_concat_length->BT,getElem?_cons_zero->A7,getElem?_eq_getElem->AL,getElem?_eq_none->A0,getElem?_eq_some_iff->AD,getElem?_set->Az,getElem?_set_ne->A2,getElem?_set_self->Aw,getElem_mem->Cd,length_append->AE,length_cons->AC,length_drop->Ck,length_filter_le->CS,length_map->Ap,length_nil->AG,length_set->Aj,length_singleton->BQ,length_take->BB,map_append->Aq,map_congr_left->B4,map_cons->AW,map_flatten->DX,map_id->DY,mem_append->Ar,mem_cons->AY,mem_cons_of_mem->BX,mem_cons_self->Bh,mem_filter->Ca,mem_map->AN,mem_of_getElem?->AB,mem_singleton->Ag,nil_append->AM,set_append_left->BY,set_append_right->Bg,set_eq_take_append_cons_drop->DG,set_set->BD,take_add_one->BF,take_length->BL,take_of_length_le->Be,take_succ_cons->CP,zip_cons_cons->B6
open Nat renaming le_refl->AS,le_succ->C5,min_def->Db,sub_self->AP,sub_zero->BZ,succ_le_succ->C6,two_pow_pos->A',zero_add->AX,zero_le->BS,zero_mul->Bx
open Option renaming getD_none->BR
open Go.Proofs.Tryz renaming prog->AA
namespace Go.AI
section
variable{P:Program}
theorem Fw.cap{f:FuncId}{o i g r:Nat}{vs:List AV}{H:Fl}{R:AV->Fl->Prop}(p:IB P f=true)(h:∀c,g<=c->c<=9223372036854775807->Fw P f (.mslc o i g r c::vs) H R):Fw P f (.msl o i g r::vs) H R :=
 ⟨p,λF G w C j=>by
  match C,j with
  |[],j=>have:=j.l.len;simp at this
  | u::C,j =>
   obtain⟨J,U,O⟩:=j.l.uncons;cases J with
   |msl _ _ _ _ b cap T I hm t =>
    refine(h cap I (by unfold maxLen at hm;omega)).2 F G w _ ⟨.cons (.mslc o i g r cap b T I hm t) (GC (Fu rfl rfl _) _ _ _) O,j.h,λx=>?_⟩;have:=j.cnt x;rw[Fx,Fu rfl rfl]at this ⊢;exact this⟩
theorem nY{f:FuncId}{I:List AV}{H:Fl}{R:AV->Fl->Prop}(h:Fw P f I H λv J=>R v J \/ ∃o g i t c,v = .mslc o g i t c/\R (.msl o g i t) J):Fw P f I H R :=
 ⟨h.1,λF G w U V=>Calls.mono (h.2 F G w U V) λe w' he=>by
  obtain⟨u,rfl,v',O,T,r,p,j⟩:=he;rcases r with r|⟨o,g,i,t,c,rfl,r⟩
  ·exact⟨u,rfl,v',O,T,r,p,j⟩
  ·have hv:=p.l.rel 0 _ _ rfl rfl;cases hv with
   |mslc _ _ _ _ _ b hb hl hm C=>exact⟨_,rfl,_,O,T,r,p.swap1 (.msl o g i t b c hb hl hm C) rfl,j⟩⟩
def ALB(n:Nat)(es:List (List AV))(v:AV)(H g:Fl):Prop :=
 (es=[]/\(∃w,v = .sl w []) /\ ∃ext,g=H++ext) \/ ∃i j,v = .msl i 0 es.length n/\H.length<=i/\(∃ext,g=H++ext)/\g[i]? =some (some j)/\(∃r,j=es.flatten++r)
theorem sd{f:FuncId}{vs:List AV}{H:Fl}{es:List (List AV)}{n:Nat}(p:∀e∈es,e.length=n)(hs:∀e∈es,F_ H.length e=true)(hb:∀e∈es,e.map borrow1=e)
  (h:Fw P f vs H λt C=>ALB n es t H C):Fw P f vs H λt C=>t = .sl none (es.map .agg)/\C=H :=
 ⟨h.1,λF G w us I=>Calls.mono (h.2 F G w us I) λe w' J=>by
  obtain⟨u,rfl,t,H2,G',hr,i,j⟩:=J;rcases hr with⟨rfl,⟨w0,rfl⟩,ext,rfl⟩|⟨ob,cs,rfl,O,⟨ext,rfl⟩,ho,r,rfl⟩
  ·have R:VRel G' w' (.sl none []) u:=by
    have:=i.l.rel 0 _ _ rfl rfl;cases this with
    |slnil=>exact .slnil _
    |slany=>exact .slany _ _
    |sl own es sz b q cap u' T hown hl hm h1 h2=>exact .sl none [] sz b q cap u' T (λn p=>by cases p) hl hm h1 h2
   obtain⟨G2,U,V⟩:=I.cutExt (i.swap1 R rfl) j rfl;exact⟨u,rfl,_,H,G2,⟨rfl,rfl⟩,U,V⟩
  ·have R:=i.l.rel 0 _ _ rfl rfl;have o:=Pi es n p;obtain⟨G2,ext2,U,V,k3⟩:=i.frzRow true ho O R (by rw[AE,o];omega) (.inl rfl);have e1:(es.flatten++r).map borrow1=es.flatten++r.map borrow1:=by
    rw[Aq,DX];congr 2;exact B4 (f:=List.map borrow1) (g:=id) (λe J=>hb e J) |>.trans (DY _)
   rw[e1,LY es _ n p]at k3;obtain⟨G3,k4,k5⟩:=I.cutExt (U.swap1 k3 rfl) (j.trans V) (OX hs);exact⟨u,rfl,_,H,G3,⟨rfl,rfl⟩,k4,k5⟩⟩
def Ack(n:Nat)(es:List (List AV))(v:AV)(H g:Fl):Prop:=ALB n es v H g\/((∃w,v = .sl w (es.map .agg)) /\ ∃ext,g=H++ext)
theorem sb{f:FuncId}{vs:List AV}{H:Fl}{es:List (List AV)}{n:Nat}(I:∀e∈es,e.length=n)(hs:∀e∈es,F_ H.length e=true)(hb:∀e∈es,e.map borrow1=e)
  (h:Fw P f vs H λJ T=>Ack n es J H T):Fw P f vs H λJ T=>J = .sl none (es.map .agg)/\T=H :=
 ⟨h.1,λF G w us O=>Calls.mono (h.2 F G w us O) λe w' U=>by
  obtain⟨u,rfl,J,H2,G',hr,i,j⟩:=U;rcases hr with(⟨rfl,⟨w0,rfl⟩,ext,rfl⟩|⟨ob,cs,rfl,V,⟨ext,rfl⟩,ho,r,rfl⟩)|⟨⟨w0,rfl⟩,ext,rfl⟩
  ·have o:VRel G' w' (.sl none []) u:=by
    have:=i.l.rel 0 _ _ rfl rfl;cases this with
    |slnil=>exact .slnil _
    |slany=>exact .slany _ _
    |sl own es sz b q cap u' hsz hown hl hm h1 h2=>exact .sl none [] sz b q cap u' hsz (λn I=>by cases I) hl hm h1 h2
   obtain⟨R,p,t⟩:=O.cutExt (i.swap1 o rfl) j rfl;exact⟨u,rfl,_,H,R,⟨rfl,rfl⟩,p,t⟩
  ·have o:=i.l.rel 0 _ _ rfl rfl;have C:=Pi es n I;obtain⟨R,ext2,p,t,k3⟩:=i.frzRow true ho V o (by rw[AE,C];omega) (.inl rfl);have e1:(es.flatten++r).map borrow1=es.flatten++r.map borrow1:=by
    rw[Aq,DX];congr 2;exact B4 (f:=List.map borrow1) (g:=id) (λe U=>hb e U) |>.trans (DY _)
   rw[e1,LY es _ n I]at k3;obtain⟨G3,k4,k5⟩:=O.cutExt (p.swap1 k3 rfl) (j.trans t) (OX hs);exact⟨u,rfl,_,H,G3,⟨rfl,rfl⟩,k4,k5⟩
  ·have o:=(i.l.rel 0 _ _ rfl rfl).borrow1;obtain⟨R,p,t⟩:=O.cutExt (i.swap1 o rfl) j (OX hs);exact⟨u,rfl,_,H,R,⟨rfl,rfl⟩,p,t⟩⟩
end
end Go.AI
namespace Go.AI
open Go.Proofs
set_option maxRecDepth 50000
def PT(a b:ByteArray):Int:=if PB a b=true then -1 else if a=b then 0 else 1
def Kg:List Int->List Int->Int
 |[],[]=>0
 |[],_::_ => -1
 |_::_,[]=>1
 |x::a,y::b=>if OE x y≠0 then OE x y else Kg a b
def G_(a b:FG):Int:=if PT a.var b.var≠0 then PT a.var b.var else Kg a.key b.key
theorem ALP(a b:ByteArray):Fm AA 299 [.str a,.str b] (.int .i64 (PT a b)):=by
 refine pC AOi rfl ?_;simp only[f299,go_sem];repeat' (first|((first|apply pK (oV a)|apply pK (oV b));simp only[go_sem,Fk])|apply Pz<;>intro g<;>simp only[go_sem,g,Fk])
 all_goals first|(simp only[PT,PB];simp_all;done)|skip
theorem ALO(a b:List Int)(ha:a.length<=1073741824):Fm AA 300 [.sl none (Gi a),.sl none (Gi b)] (.int .i64 (Kg a b)):=by
 have R:(Gi a).length=a.length:=Ho a;have t:(Gi b).length=b.length:=Ho b;refine pC AES rfl ?_;simp only[f300,go_sem,R,t];refine F0 a (λr=>Kg r (b.drop (a.length - r.length))) (λk=>[(0,.sl none (Gi a)),(1,.sl none (Gi b)),(9,.sl none (Gi a)),(10,.int .i64 a.length),(11,.int .i64 k)]) Fj rfl ?_ ?_
 ·intro k x T hd hx g U V hw;have hk:=GI hd;have e1:a.length - (T.length+1)=k:=Fj;have e2:a.length - T.length=k+1:=Fj;simp only[AC,e1,e2,AP,BE]at g ⊢;by_cases I:k<b.length
  ·obtain⟨y,J⟩:∃y,b[k]? =some y:=⟨_,AL I⟩;have i:¬(b.length:Int)<=(k:Int):=Fj;rw[WP J,Kg]at g;simp only[go_sem,U,V,Gj hx,Gj J,t,i,dF];repeat' (first|(apply pK (ADE x y);simp only[go_sem,hw])|apply Pz<;>intro O<;>simp only[go_sem,O,hw])
   ·have j:OE x y≠0:=by simpa using O
    rw[iP j]at g;rw[g]
   ·have j:¬OE x y≠0:=by simpa using O
    rw[e1,e2,WP J,Kg,iN j]
  ·have i:(b.length:Int)<=(k:Int):=Fj;rw[List.drop_eq_nil_of_le Fj,Kg]at g;simp only[go_sem,U,V,Gj hx,t,i,dT];rw[g]
 ·intro g P;rw[AP,BE]at g;simp only[go_sem,P,dF,R,t];cases C:b.drop a.length with
  |nil =>
   have p:b.length<=a.length:=by simpa using C
   have o:¬(a.length:Int)<(b.length:Int):=Fj;rw[AG,BZ,C,Kg]at g;simp only[go_sem,o,dF];rw[g]
  |cons y ys =>
   have p:a.length<b.length:=by have:=GI C;omega
   have o:(a.length:Int)<(b.length:Int):=Fj;rw[AG,BZ,C,Kg]at g;simp only[go_sem,o,dT];rw[g]
theorem Akx(l:List Int)(I:l.length<=1073741824):Fm AA 298 [.sl none (Gi l)] (.int .i64 ((l.find? λz=>z !=0).getD 0)):=by
 have o:(Gi l).length=l.length:=Ho l;refine pC AOm rfl ?_;simp only[f298,go_sem,o];refine F0 l (λr=>(r.find? λz=>z !=0).getD 0) (λk=>[(3,.int .i64 0),(6,.sl none (Gi l)),(7,.int .i64 l.length),(8,.int .i64 k)]) Fj rfl ?_ ?_
 ·intro k z J O hx g p t C;simp only[go_sem,p,t,Gj hx];repeat' (first|apply Pz<;>intro i<;>simp only[go_sem,i,C])
  ·rw[g,BN,i];rfl
  ·rw[BN,i]
 ·intro g j;simp only[go_sem,j,dF];rw[g];rfl
theorem AdC(x y:Int):Fm AA 298 [.sl none [.int .i64 x,.int .i64 y]] (.int .i64 (if x≠0 then x else y)):=by
 have h:=Akx [x,y] F3;have e:(([x,y].find? λz=>z !=0).getD 0)=if x≠0 then x else y:=by
  rw[BN,BN];by_cases hx:x=0
  ·subst hx;by_cases g:y=0
   ·subst g;rfl
   ·have:(y !=0)=true:=by simp[g]
    rw[this];rfl
  ·have:(x !=0)=true:=by simp[hx]
   rw[this,iP hx];rfl
 rw[e]at h;exact h
theorem ADF(a b:FG)(g:a.key.length<=1073741824):Fm AA 225 [.agg a.c,.agg b.c] (.int .i64 (G_ a b)):=by
 refine pC ARp rfl ?_;simp only[f225,go_sem];repeat' (first|((first|apply pK (ALP a.var b.var)|apply pK (ALO a.key b.key g)|apply pK (Fm.weak (AdC _ _)));simp only[go_sem])|apply Pz<;>intro i<;>simp only[go_sem,i])
 all_goals first|rfl|skip
def YK(l:List FG)(x:FG):Nat->Nat->Nat->Nat
 | 0,i,_=>i
 | f+1,i,j=>if i<j then (match l[(i+j) / 2]? with
   |some y=>if G_ y x<0 then YK l x f ((i+j) / 2+1) j else YK l x f i ((i+j) / 2)
   |none=>i)else i
def SO(l:List FG)(x:FG):Nat:=YK l x (l.length+1) 0 l.length
def uM(l:List FG)(x:FG):Bool:=match l[SO l x]? with
 |some y=>G_ y x==0
 |none=>false
theorem dm(l:List FG)(x:FG): ∀(f i j:Nat),i<=j->j<=l.length->YK l x f i j<=l.length
 | 0,i,j,o,g=>by rw[YK];omega
 | f+1,i,j,o,g=>by
  rw[YK];split
  ·rename_i p;have hm:(i+j) / 2<l.length:=Fj;rw[AL hm];dsimp only;split
   ·exact dm l x f _ _ Fj g
   ·exact dm l x f _ _ Fj Fj
  ·omega
theorem rI(l:List FG)(x:FG):SO l x<=l.length:=dm l x _ _ _ (BS _) (AS _)
theorem Ac'(l:List FG)(T:l.length<=4611686018427387903)(hk:∀y∈l,y.key.length<=1073741824)(x:FG):Fm AA 297 [.sl none (Fs l),.agg x.c,.fn (.func 225) [] []] (.tup [.int .i64 (SO l x),.bool (uM l x)]):=by
 refine pB AOq rfl ?_;simp only[f297,go_sem];refine JB (σ:=Nat×Nat) (λs=>[(0,.sl none (Fs l)),(2,.fn (.func 225) [] []),(4,.ptr 0 0),(8,.int .i64 l.length),(9,.int .i64 s.1),(10,.int .i64 s.2)]) (λ_=>[some x.c]) (λs=>s.1<=s.2/\s.2<=l.length /\ ∃f,s.2 - s.1<f/\SO l x=YK l x f s.1 s.2) (λs=>s.2 - s.1) (0,l.length) ⟨BS _,AS _,l.length+1,by dsimp only;omega,rfl⟩ rfl rfl ?_;rintro ⟨i,j⟩ ⟨C,J,f,hf,p⟩;dsimp only at C J hf p ⊢;obtain⟨f,rfl⟩:∃f',f=f'+1:=⟨f - 1,Fj⟩;rw[YK]at p;by_cases g:i<j
 ·have t:(i:Int)<(j:Int):=Fj;have U:(0:Int)<=(((i+j) / 2:Nat):Int):=Fj;have r:(((i+j) / 2:Nat):Int).toNat=(i+j) / 2:=Fj;have hm:(i+j) / 2<l.length:=Fj;have hw:=K_ (k:=(i+j) / 2) Fj;have O:=AL hm;have I:=Fz O;have V:=ADF l[(i+j) / 2] x (hk _ (Cd hm));rw[iP g,O]at p;dsimp only at p;simp only[go_sem,t,dT,bB T J g,U,r,I];repeat' (first|(apply pK V;simp only[go_sem,t,bB T J g,U,r,I,hw])|apply Pz<;>intro o<;>simp only[go_sem,o,t,bB T J g,U,r,I,hw])
  ·have o:=of_decide_eq_true o;rw[iP o]at p;exact⟨((i+j) / 2+1,j),⟨by dsimp only;omega,J,f,by dsimp only;omega,p⟩,by dsimp only;omega,rfl,rfl⟩
  ·have o:=of_decide_eq_false o;rw[iN o]at p;exact⟨(i,(i+j) / 2),⟨by dsimp only;omega,by dsimp only;omega,f,by dsimp only;omega,p⟩,by dsimp only;omega,rfl,rfl⟩
 ·have C:i=j:=Fj;subst C;rw[iN g]at p;have t:¬(i:Int)<(i:Int):=Fj;unfold uM;rw[p];by_cases P:i<l.length
  ·have r:(i:Int)<(l.length:Int):=Fj;have g4:(0:Int)<=(i:Int):=Fj;have R:=AL P;have I:=Fz R;have V:=ADF l[i] x (hk _ (Cd P));rw[R];simp only[go_sem,t,dF,r,g4,dT,I];repeat' (first|(apply pK V;simp only[go_sem,t,r,g4,I,dT,AZ])|apply Pz<;>intro o<;>simp only[go_sem,o,t,r,g4,I,dT,AZ])
   all_goals first|rfl|skip
  ·have r:¬(i:Int)<(l.length:Int):=Fj;rw[A0 Fj];simp only[go_sem,t,dF,r];repeat' (first|apply Pz<;>intro o<;>simp only[go_sem,o,t,r])
   all_goals first|rfl|skip
theorem tF(l:List FG)(g:l.length<=4611686018427387903)(i:∀y∈l,y.key.length<=1073741824)(x:FG):Fm AA 224 [.sl none (Fs l),.agg x.c,.fn (.func 225) [] []] (.tup [.int .i64 (SO l x),.bool (uM l x)]):=by
 refine pC ARt rfl ?_;simp only[f224,go_sem];repeat' (first|(apply pK (Ac' l g i x);simp only[go_sem])|apply Pz<;>intro j<;>simp only[go_sem,j])
 all_goals first|rfl|skip
def Hj(l:List FG)(v:ByteArray)(g:List Int):Option FG:=if uM l ⟨v,g,0,0⟩=true then l[SO l ⟨v,g,0,0⟩]? else none
theorem AHf(l:List FG)(r:l.length<=4611686018427387903)(t:∀y∈l,y.key.length<=1073741824)(v:ByteArray)(g:List Int):Fm AA 128 [.sl none (Fs l),.str v,.sl none (Gi g)] (.tup [.agg ((Hj l v g).getD Entry.z).c,.bool (Hj l v g).isSome]):=by
 have j:=tF l r t ⟨v,g,0,0⟩;refine pB AXF rfl ?_;unfold Hj;cases i:uM l ⟨v,g,0,0⟩with
 |false =>
  rw[i]at j;simp only[f128,go_sem];apply pK j;simp only[go_sem];first|rfl|skip
 | true =>
  rw[i]at j;obtain⟨y,p⟩:∃y,l[SO l ⟨v,g,0,0⟩]? =some y:=by
   unfold uM at i;split at i
   ·exact⟨_,by assumption⟩
   ·cases i
  have o:=Fz p;have C:(0:Int)<=((SO l ⟨v,g,0,0⟩:Nat):Int):=Fj;rw[iP rfl,p];simp only[f128,go_sem];apply pK j;simp only[go_sem,C,AZ,o];first|rfl|skip
def GH(l:List FG):List AV:=(l.map Entry.c).flatten
theorem Il(x:FG)(l:List FG):GH (x::l)=x.c++GH l:=rfl
theorem In:∀l:List FG,(GH l).length=l.length*4
 |[]=>rfl
 |x::l=>by
  rw[Il,AE,In l,AC];have:x.c.length=4:=rfl;omega
theorem Uf:∀(l:List FG) (r:List AV) (k:Nat) (y:FG),l[k]? =some y->((GH l++r).drop (k*4)).take 4=y.c
 |[],_,_,_,h=>by simp at h
 |x::l,r,0,y,h=>by
  simp only[A7,Option.some.injEq]at h;subst h;rfl
 | x::l,r,k+1,y,h=>by
  rw[Il,AF];have e:(k+1)*4=x.c.length+k*4:=by
   have:x.c.length=4:=rfl;omega
  rw[e,<- A_,List.drop_left];exact Uf l r k y (by simpa using h)
theorem bV{l:List FG}(r:List AV){k:Nat}{y:FG}(h:l[k]? =some y):k*4+4<=(GH l++r).length:=by
 have:=(AD.1 h).1;rw[AE,In];omega
def kM(d:FG->Bool):Nat->List FG->Int
 |_,[] => -1
 |k,x::r=>if d x=true then(k:Int)else kM d (k+1) r
theorem ADO(l:List FG)(V:l.length<=9223372036854775807)(r:List AV)(H:Fl)(o:Nat)(j:H[o]? =some (some (GH l++r)))(f:Nat)(first cap:List AV)(d:FG->Bool)(hd:∀x∈l,Gq AA f (first.map AV.borrow++(.agg (Entry.c x)::cap.map AV.borrow)) H (.bool (d x))):
  Gq AA 222 [.msl o 0 l.length 4,.fn (.func f) first cap] H (.int .i64 (kM d 0 l)):=by
 refine aC qH rfl ?_;simp only[f222,go_sem];refine F0 l (λr=>kM d (l.length - r.length) r) (λk=>[(0,.msl o 0 l.length 4),(1,.fn (.func f) first cap),(7,.int .i64 l.length),(8,.int .i64 k)]) V rfl ?_ ?_
 ·intro k y T p hx g t C U;have c1:=hd y (AB hx);have I:=bV r hx;have J:=Uf l r k y hx;have hk2:=GI p;have i:l.length - (T.length+1)=k:=Fj;have O:l.length - T.length=k+1:=Fj;simp only[AC,i,AP]at g;simp only[go_sem,t,C,j,I,J,i,O];repeat' (first|(refine aS (c1) ?_;simp only[go_sem,t,C,U,j,I,J,i,O])|apply Pz<;>intro P<;>simp only[go_sem,P,t,C,U,j,I,J,i,O])
  ·rw[g,kM,iP P]
  ·rw[kM,iN (by rw[P];decide)]
 ·intro g R;simp only[go_sem,R,dF];rw[AP]at g;rw[g];rfl
theorem Ke:∀(l:List FG) (r:List AV) (i:Nat),i<=l.length->(GH l++r).take (i*4)=GH (l.take i)
 |_,r,0,_=>by simp[GH]
 |[],r,i+1,h=>by simp at h
 | x::l,r,i+1,h=>by
  have e:(i+1)*4=x.c.length+i*4:=by
   have:x.c.length=4:=rfl;omega
  rw[Il,AF,e,List.take_length_add_append,Ke l r i (by simpa using h),CP,Il]
theorem NG:∀(l:List FG) (r:List AV) (i:Nat),i<=l.length->(GH l++r).drop (i*4)=GH (l.drop i)++r
 |_,r,0,_=>F3
 |[],r,i+1,h=>by simp at h
 | x::l,r,i+1,h=>by
  have e:(i+1)*4=x.c.length+i*4:=by
   have:x.c.length=4:=rfl;omega
  rw[Il,AF,e,List.drop_length_add_append,NG l r i (by simpa using h),List.drop_succ_cons]
theorem Ow(a b:List FG):GH (a++b)=GH a++GH b:=by unfold GH;simp
theorem RP{l:List FG}(r:List AV){i:Nat}(h:i<l.length)(x:FG):splice (GH l++r) (i*4) x.c=GH (l.set i x)++r:=by
 have e:i*4+x.c.length=(i+1)*4:=by
  have:x.c.length=4:=rfl;omega
 unfold splice;rw[e,Ke l r i Fj,NG l r (i+1) Fj,DG,iP h,Ow,Il];simp only[AF]
theorem a_(d:FG->Bool): ∀(l:List FG) (k:Nat),(kM d k l = -1 /\ ∀x∈l,d x=false) \/ ∃(i:Nat) (x:FG),kM d k l=((k+i:Nat):Int)/\l[i]? =some x/\d x=true /\ ∀y∈l.take i,d y=false
 |[],k => .inl ⟨rfl,F3⟩
 | x::r,k=>by
  rw[kM];by_cases h:d x=true
  ·rw[iP h];exact .inr ⟨0,x,rfl,rfl,h,F3⟩
  ·rw[iN h];have h:d x=false:=by simpa using h
   rcases a_ d r (k+1)with⟨e,g⟩|⟨i,y,e,g,h3,h4⟩
   ·exact .inl ⟨e,by simpa [h]using g⟩
   ·refine .inr ⟨i+1,y,by rw[e];congr 1;omega,g,h3, ?_⟩;rw[CP];intro z j;rcases AY.1 j with rfl|j
    ·exact h
    ·exact h4 z j
theorem iz(H:Fl)(f:Nat)(first cap:List AV):Gq AA 222 [.sl none [],.fn (.func f) first cap] H (.int .i64 (-1)):=by
 refine aC qH rfl ?_;simp only[f222,go_sem];refine F0 ([]:List FG) (λ_=>()) (λk=>[(0,.sl none []),(1,.fn (.func f) first cap),(7,.int .i64 ((0:Nat):Int)),(8,.int .i64 k)]) F3 rfl ?_ ?_
 ·intro k y o g;rw[List.drop_nil]at g;cases g
 ·intro _ i;have j:decide (((0:Nat):Int)<((0:Nat):Int))=false:=dc;simp only[go_sem,j]
theorem ZD(w:Option Nat)(H:Fl)(f:Nat)(first cap:List AV):Fw AA 338 [.sl w [],.fn (.func f) first cap] H λv o=>o=H /\ ∃p,v = .sl p []:=by
 have j:=iz H f first cap
 have g:((-1:Int) == -1)=true:=rfl;refine aC AEO rfl ?_;cases w with
 |none =>
  simp only[f338,go_sem];repeat' (first|(refine aS (j) ?_;simp only[go_sem,g])|apply Pz<;>intro i<;>simp only[go_sem,i,g])
  all_goals first|exact⟨_,rfl⟩|exact⟨rfl,_,rfl⟩|skip
 |some w =>
  simp only[f338,go_sem];repeat' (first|(refine aS (j) ?_;simp only[go_sem,g])|apply Pz<;>intro i<;>simp only[go_sem,i,g])
  all_goals first|exact⟨_,rfl⟩|exact⟨rfl,_,rfl⟩|skip
theorem vY(l:List FG)(hl:l.length<=1073741823)(r:List AV)(H:Fl)(o:Nat)(ho:H[o]? =some (some (GH l++r)))(f:Nat)(first cap:List AV)(d:FG->Bool)
  (hd:∀x∈l,∀c J,Gq AA f (first.map AV.borrow++(.agg (Entry.c x)::cap.map AV.borrow)) (H.set o (some c)++J) (.bool (d x))):
  Fw AA 338 [.msl o 0 l.length 4,.fn (.func f) first cap] H λv H' => ∃r' J,v = .msl o 0 (l.filter λx => !d x).length 4/\H'=H.set o (some (GH (l.filter λx => !d x)++r'))++J:=by
 have I:H.set o (some (GH l++r))=H:=by
  obtain⟨hlt,he⟩:=AD.1 ho;apply A6;intro i;rw[Az];split
  ·rename_i hi;subst hi;rw[ho]
  ·rfl
 have hd0:∀x∈l,Gq AA f (first.map AV.borrow++(.agg (Entry.c x)::cap.map AV.borrow)) H (.bool (d x)):=λx hx=>by
  have:=hd x hx (GH l++r) [];rw[I,Ai]at this;exact this
 have c1:=ADO l Fj r H o ho f first cap d hd0
 refine aC AEO rfl ?_;rcases a_ d l 0 with⟨e,hall⟩|⟨i,x,e,hx,hdx,hpre⟩
 ·rw[e]at c1;have hf:l.filter (λx => !d x)=l:=DZ.2 λx hx=>by rw[hall x hx];rfl
  simp only[f338,go_sem];repeat' (first|(refine aS (c1) ?_;simp only[go_sem,Int.reduceBEq])|apply Pz<;>intro V<;>simp only[go_sem,V,Int.reduceBEq])
  all_goals first|exact⟨r,[],by rw[hf],by rw[hf,I,Ai]⟩|skip
 ·rw [e,AX] at c1
  have hn1:(((i:Nat):Int) == -1)=false:=by rw[beq_eq_false_iff_ne];omega
  have hi:=(AD.1 hx).1;have hw0:=K_ (k:=i) Fj;simp only[f338,go_sem];repeat' (first|(refine aS (c1) ?_;simp only[go_sem,hn1,hw0])|apply Pz<;>intro V<;>simp only[go_sem,V,hn1,hw0])
  refine JB (σ:=Nat×Nat×List FG×Fl×GO) (λs=>(0,.msl o 0 l.length 4)::(1,.fn (.func f) first cap)::(5,.int .i64 s.1)::(6,.int .i64 s.2.1)::s.2.2.2.2) (λs=>H.set o (some (GH s.2.2.1++r))++s.2.2.2.1)
   (λs=>s.1<s.2.1/\s.2.1<=l.length/\s.2.2.1.length=l.length/\s.2.2.1.take s.1=(l.take s.2.1).filter (λx => !d x)/\s.2.2.1.drop s.2.1=l.drop s.2.1) (λs=>l.length - s.2.1) (i,i+1,l,[],[]) ⟨by dsimp only;omega,by dsimp only;omega,rfl, ?_,rfl⟩ ?_ ?_ ?_
  ·dsimp only;rw[BF,hx,Ch];have h1:(l.take i).filter (λx => !d x)=l.take i:=DZ.2 λz hz=>by rw[hpre z hz];rfl
   rw[h1];simp[hdx]
  ·rfl
  ·dsimp only;rw[I,Ai]
  ·rintro ⟨i,j,g,J,rest⟩ ⟨hij,hj,hrl,p,O⟩;dsimp only at hij hj hrl p O ⊢;have hoL:=(AD.1 ho).1;have fO:∀c z,(H.set o c++z)[o]? =some c:=λc z=>Fp (JG hoL c) z;have fW:∀c z c',(H.set o c++z).set o c'=H.set o c'++z:=λc z c'=>by rw[BY _ _ (by simpa using hoL),BD]
   by_cases hlt:j<l.length
   ·have hy:=AL hlt;have hry:g[j]? =some l[j]:=by
     have:=congrArg (·[0]?) O;simpa [hy]using this
    have j0:(0:Int)<=(j:Int):=Fj;have j1:(j:Int)<(l.length:Int):=Fj;have k0:(0:Int)<=(i:Int):=Fj;have k1:(i:Int)<(l.length:Int):=Fj;have P:=K_ (k:=j) Fj;have R:=K_ (k:=i) Fj;have g1:=bV r hry;rw[AE]at g1;have g2:=Uf g r j _ hry;have fS:∀c z y,(H.set o c++(J++[z])).set (H.length+J.length) y=H.set o c++(J++[y]):=λc z y=>by
     rw[<- AF,<- AF];simp
    have fL:∀c y,(H.set o c++(J++[y]))[H.length+J.length]? =some y:=λc y=>by
     rw[<- AF];have:H.length+J.length=(H.set o c++J).length:=F3;rw[this];exact BT
    have c2:=hd _ (AB hy) (GH g++r) (J++[some (Entry.c l[j])]);have U:(l.take (j+1)).filter (λx => !d x)=(l.take j).filter (λx => !d x)++(if d l[j]=true then[]else[l[j]]):=by
     rw[BF,hy,Ch];congr 1;cases hd2:d l[j]<;>simp[hd2]
    have t:(Entry.c l[j]).length=4:=rfl;have C:(Entry.c l[j]).take 4=Entry.c l[j]:=rfl;cases T:d l[j]with
    | false =>
     rw[T]at c2;simp only[go_sem,j0,j1,k0,k1,dT,fO,g1,g2,fS,fL,fW,t,C,AF,AE,Aj];repeat' (first|(refine aS (c2) ?_;simp only[go_sem,j0,j1,k0,k1,dT,fO,g1,g2,fS,fL,fW,R,P,t,C,AF,AE,Aj])|apply Pz<;>intro V<;>simp only[go_sem,V,j0,j1,k0,k1,dT,fO,g1,g2,fS,fL,fW,R,P,t,C,AF,AE,Aj])
     have k2:i*4+4<=(GH g).length+r.length:=by rw[In];omega
     rw[iP k2,RP r Fj];refine⟨(i+1,j+1,g.set i l[j],J++[some (Entry.c l[j])],[]),⟨by dsimp only;omega,by dsimp only;omega,by simpa using hrl, ?_, ?_⟩,by dsimp only;omega,rfl,rfl⟩
     ·dsimp only;rw[U,T,iN dc,<- p,RM g i l[j] Fj]
     ·dsimp only;rw[List.drop_set_of_lt Fj,<- A_,O,A_]
    | true =>
     rw[T]at c2;simp only[go_sem,j0,j1,k0,k1,dT,fO,g1,g2,fS,fL,fW,t,C,AF,AE,Aj];repeat' (first|(refine aS (c2) ?_;simp only[go_sem,j0,j1,k0,k1,dT,fO,g1,g2,fS,fL,fW,R,P,t,C,AF,AE,Aj])|apply Pz<;>intro V<;>simp only[go_sem,V,j0,j1,k0,k1,dT,fO,g1,g2,fS,fL,fW,R,P,t,C,AF,AE,Aj])
     refine⟨(i,j+1,g,J++[some (Entry.c l[j])],[]),⟨by dsimp only;omega,by dsimp only;omega,hrl, ?_, ?_⟩,by dsimp only;omega,rfl,rfl⟩
     ·dsimp only;rw[U,T,iP rfl,Ai,p]
     ·dsimp only;rw[<- A_,O,A_]
   ·have hjl:j=l.length:=Fj;subst hjl;simp only[go_sem,AR,dF];refine⟨⟨Fj,Fj,Fj⟩, ?_⟩;simp only[go_sem,AIg,fO,fW,AE];rw[BL]at p;have hkl:(l.filter λx => !d x).length=i:=by rw[<- p,BB];omega
    refine⟨Fj,by rw[In];omega,⟨Fj,Fj,.inl trivial⟩,HC (AV.agg (Entry.z.cf (some 1))) (l.length - i)++(GH g++r).drop (i*4+(HC (AV.agg (Entry.z.cf (some 1))) (l.length - i)).length),J,by rw[hkl];rfl, ?_⟩;unfold splice;rw[Ke g r i Fj,p,AF]
theorem q8(l:List FG):(Hx (Fs l)).map borrow1=GH l:=by
 induction l with
 |nil=>rfl
 |cons x l g =>
  have:Hx (Fs (x::l))=x.c++Hx (Fs l):=rfl;rw[this,Aq,g];rfl
theorem Ky(l:List FG):(GH l).map borrow1=GH l:=by
 induction l with
 |nil=>rfl
 |cons x l g=>rw[Il,Aq,g];rfl
theorem i'(l:List FG)(r:l.length<=1073741824)(H:Fl):Fw AA 336 [.sl none (Fs l)] H λv j=>(l=[]/\v = .sl (some 4) []/\j=H)\/(v = .msl (H.length+1) 0 l.length 4/\j=H++[none,some (GH l)]):=by
 have t:(Fs l).length=l.length:=HK l;have o:∀(x:Option (List AV)),(H++[x])[H.length]? =some x:=λx=>F3;have p:∀(x y:Option (List AV)),(H++[x]).set H.length y=H++[y]:=λx y=>F3;refine aC ANW rfl ?_;cases l with
 |nil =>
  simp only[f336,go_sem,o,p];exact .inr ⟨F3,rfl⟩
 |cons x l =>
  have i:Fs (x::l) = .agg x.c::Fs l:=rfl;have g:=q8 (x::l);rw[i]at g t ⊢;simp only[AC]at r;simp only[f336,go_sem,o,p];exact⟨Fj,Fj,.inr ⟨F3,by rw[g]⟩⟩
section
variable{P:Program}{d:Tmp}{K:Kt}{ev:GO}{H:Fl}
theorem AJD{t C o:TypeId}{J k:IntKind}{I i g j c m:Nat}{p:List AV}{z:AV}(O:P.underlying t=some (.slice o))(r:P.underlying C=some (.int J))(R:F8 P o=some z)(T:z.cells.length=j)(U:P.cellsOf o=j)(h3:HD P o=true)(V:0<j)
  (ho:H[I]? =some (some p))(h5:i+g*j<=p.length)(h6:0<m)(h7:c<g+m)(h8:(g+m)*P.bytesOf o<=140737488355328)(h9:g+m<=9223372036854775807)
  (hk:K ((d,.msl H.length 0 (g+m) j)::ev) (H++[some (((p.drop i).take (g*j)).map borrow1++(HC z m).map borrow1)])):AJE P t C true [.mslc I i g j c,.int k (m:Int)] d K ev H:=by
 subst U;unfold AJE apz;simp only[O,r,ho,AZ];exact⟨z,R,⟨T,h3,V,trivial,h5,Fj,Fj,h8,h9⟩,hk⟩
end
theorem WQ{P:Program}{H:Fl}{r:TypeId}{k o g i j:Nat}{p X:List AV}{b:AV}(t:qh b=some (o,g,i,j,false)\/qh b=some (o,g,i,j,true))(C:H[o]? =some (some p))(I:g+k*j<=p.length)(J:j=P.cellsOf r)(h3:k<=i)(O:(p.drop g).take (k*j)=X):lP P r H k b=some X:=by
 subst O;cases b<;>simp only[qh,reduceCtorEq,Option.some.injEq,Prod.mk.injEq,or_self,Bool.true_eq_false,Bool.false_eq_true,and_false,and_true,false_or,or_false]at t;all_goals
  obtain⟨rfl,rfl,rfl,rfl⟩:=t;simp only[lP,C];rw[iP ⟨I,J,h3⟩]
theorem WR{P:Program}{d:Tmp}{K:Kt}{r:GO}{H:Fl}{t o:TypeId}{a b:AV}{ob g i p m k:Nat}{C:Bool}{cs X R:List AV}(I:Nat.min m i=k)(J:P.underlying t=some (.slice o))(j:qh a=some (ob,g,i,p,C))(hm:ACY b=some m)(O:H[ob]? =some (some cs))(T:p=P.cellsOf o)
  (U:(P.info? o).isSome=true)(h3:cs.map borrow1=cs)(h4:g<=cs.length)(h5:C=true\/g+k*p<=cs.length)(V:lP P o H k b=some X)(hR:cs.take g++X.map borrow1++cs.drop (g+k*p)=R)
  (hK:K ((d,.int .i64 (k:Nat))::r) (H.set ob (some R))):AIb P t a b d K r H:=by
 subst I hR;exact AFA J j hm O T U h3 h4 h5 V hK
theorem sw{A Z E:List AV}{k:Nat}(g:A.length=k)(m:Nat):(A++Z).take k++E++(A++Z).drop (k+m)=A++E++Z.drop m:=by
 rw[List.take_left' g,<- A_,Dt g]
def UT(l:List FG)(i:Nat)(e:FG):List FG:=l.take i++e::l.drop i
theorem kG{l:List FG}{i:Nat}(h:i<=l.length)(e:FG):(UT l i e).length=l.length+1:=by simp[UT];omega
def ALl(l:List FG)(i:Nat)(e:FG)(o:Nat)(H:Fl)(v:AV)(j:Fl):Prop :=
 ∃g r,v = .msl g 0 (l.length+1) 4/\j[g]? =some (some (GH (UT l i e)++r))/\(g=o\/H.length<=g) /\ ∃c ext,j=H.set o c++ext
theorem vU(l:List FG)(hl:l.length<=1073741824)(i:Nat)(hi:i<=l.length)(e:FG)(o vo:Nat)(hov:vo≠o)(H:Fl)(J:H[o]? =some (some (GH l)))(hv:H[vo]? =some (some e.c))(c:Nat)(hc1:l.length<=c)(hc2:c<=9223372036854775807):
  Fw AA 337 [.mslc o 0 l.length 4 c,.int .i64 i,.msl vo 0 1 4] H λv H'=>ALl l i e o H v H' \/ ∃ob off len sz cp,v = .mslc ob off len sz cp/\ALl l i e o H (.msl ob off len sz) H':=by
 have U:(0:Int)<=(i:Int):=Fj;have t:(i:Int)<=(l.length:Int):=Fj;have V:(l.length:Int)<=(c:Int):=Fj;have hcl:(GH l).length=l.length*4:=In l;have z1:(((1:Nat):Int)==0)=false:=rfl;have hw1:IntKind.i64.wrap ((l.length:Int)+((1:Nat):Int))=((l.length+1:Nat):Int):=by rw[Mg Fj Fj];rfl
 have C:IntKind.i64.wrap ((i:Int)+((1:Nat):Int))=((i+1:Nat):Int):=by rw[Mg Fj Fj];rfl
 have hw3:IntKind.i64.wrap (((l.length+1:Nat):Int) - (i:Int))=((l.length+1 - i:Nat):Int):=by rw[Mg Fj Fj];omega
 have hzv:F8 AA 159=some (.agg (Entry.z.cf (some 1))):=kr;have hzo:HD AA 159=true:=kr;have hby:AA.bytesOf 159=56:=kr;have p:(AA.info? 159).isSome=true:=kr;have hag:TR AA 159=true:=kr;have g:AA.cellsOf 159=4:=kr;have hsrc:Um AA 159 true H (.msl vo 0 1 4)=some [.agg e.c]:=by
  have h:=lz (P:=AA) (el:=159) hv (off:=0) (len:=1) (sz:=4) (AS 4) g.symm (.inl hag);rw[hag]at h;exact h
 have r:AA.underlying 98=some (.slice 159):=kr;have hui:AA.underlying 3=some (.int .i64):=kr;have O:∀(d:Tmp) (K:Kt) (ev:GO) (H2:Fl),AIj AA 98 (.mslc o 0 l.length 4 c) d K ev H2=K ((d,.int .i64 c)::ev) H2:=λd K ev H2=>by
  unfold AIj;rw[r]
 have h00:¬((0:Int)=(c:Int)/\(0:Int)<0):=Fj;refine aC AEP rfl ?_;by_cases hin:i=l.length
 ·subst hin;have hee:((l.length:Int)==(l.length:Int))=true:=F3;simp only[f337,go_sem,U,V,z1,hee,hsrc,J];refine⟨Fj,Fj,hcl,Ky l,.inl ⟨H.length,[],rfl, ?_,.inr (AS _),none,[some (GH l++e.c)],rfl⟩⟩;rw[AO F3];have:UT l l.length e=l++[e]:=by simp[UT]
  rw[this,Ow];simp[GH];rfl
 ·have hne:((i:Int)==(l.length:Int))=false:=by rw[beq_eq_false_iff_ne];omega
  have I:¬((i:Int)=(c:Int)/\(0:Int)<(i:Int)):=Fj;by_cases hroom:c<l.length+1
  ·have hr1:(c:Int)<((l.length+1:Nat):Int):=Fj;simp only[f337,go_sem,U,V,t,hne,z1,hw1,hr1,dT,I,O,h00,hw3,BZ,Bx,AX];refine⟨Fj,AJD (z:=.agg (Entry.z.cf (some 1))) r hui hzv rfl g hzo dc J Fj Fj  Fj (by rw[hby];omega) Fj ?_⟩;have hn1:i+(l.length+1 - i)=l.length+1:=Fj;have hA:(((GH l).drop 0).take (i*4)).map borrow1=GH (l.take i):=by
    have:=Ke l [] i hi;rw[Ai]at this;rw[BE,this,Ky]
   rw[hn1,hA];have hZ:((HC (.agg (Entry.z.cf (some 1))) (l.length+1 - i)).map borrow1).length=(l.length+1 - i)*4/\((HC (.agg (Entry.z.cf (some 1))) (l.length+1 - i)).map borrow1).map borrow1=(HC (.agg (Entry.z.cf (some 1))) (l.length+1 - i)).map borrow1:=by
    refine⟨by rw[Ap];simp[HC];rfl, ?_⟩;rw[List.map_map];exact B4 λa _=>by cases a<;>rfl
   generalize (HC (.agg (Entry.z.cf (some 1))) (l.length+1 - i)).map borrow1=Z at hZ;have hZb:Z.map borrow1=Z:=hZ.2;replace hZ:=hZ.1;simp only[go_sem,U,t,C,BZ,Bx,AX];refine⟨⟨Fj,.inr Fj⟩, ?_⟩;have hAl:(GH (l.take i)).length=i*4:=by rw[In,BB];omega
   have hDl:(GH (l.drop i)).length=(l.length - i)*4:=by rw[In,Ck]
   have gv:∀x,(H++[x])[vo]? =some (some e.c):=λx=>Fp hv _;have go:∀x,(H++[x])[o]? =some (some (GH l)):=λx=>Fp J _;have gn:∀x:Option (List AV),(H++[x])[H.length]? =some x:=λx=>F3;have gs:∀x y:Option (List AV),(H++[x]).set H.length y=H++[y]:=λx y=>F3;refine WR (k:=1) (ob:=H.length) (cs:=GH (l.take i)++Z) (X:=e.c) (R:=GH (l.take i)++e.c++Z.drop 4) (by simp[Db];omega) r rfl rfl (gn _) g.symm p (by rw[Aq,Ky,hZb]) (by rw[AE];omega) (.inr (by rw[AE];omega)) (WQ (.inl rfl) (gv _) (AS 4) g.symm (AS 1) rfl) (sw hAl 4) ?_;have hn2:l.length+1 - (i+1)=l.length - i:=Fj;simp only[go_sem,gs,C,U,t,I,hn2,BZ,Bx,AX];have hdr:((GH l).drop (i*4)).take ((l.length - i)*4)=GH (l.drop i):=by
    have:=NG l [] i hi;rw[Ai,Ai]at this;rw[this,Be Fj]
   have hel:e.c.length=4:=rfl;have heb:e.c.map borrow1=e.c:=rfl;have hZd:(Z.drop 4).length=(l.length - i)*4:=by rw[Ck];omega
   have hset:H.set o (some (GH l))=H:=by
    apply A6;intro j;rw[Az];split
    ·rename_i hj;subst hj;rw[J,iP (AD.1 J).1]
    ·rfl
   refine⟨⟨Fj,Fj,.inr Fj⟩,Fj,WR (k:=l.length - i) (ob:=H.length) (cs:=GH (l.take i)++e.c++Z.drop 4) (X:=GH (l.drop i)) (R:=GH (l.take i)++e.c++GH (l.drop i)) (by simp[Db]) r rfl rfl (by rw[<- AF];exact gn _) g.symm p (by rw[Aq,Aq,Ky,heb,List.map_drop,hZb]) (by simp only[AE];omega) (.inr (by simp only[AE];omega))
    (WQ (.inr rfl) (go _) Fj g.symm Fj hdr) ?_ ?_⟩
   ·rw[Ky,sw (A:=GH (l.take i)++e.c) (by rw[AE];omega),C4 (l:=Z.drop 4) Fj,Ai]
   ·simp only[go_sem,gs];exact .inl ⟨H.length,[],rfl,by rw[gn,UT,Ow,Il,Ai],.inr (AS _),some (GH l),_,by rw[hset]⟩
  ·have hr1:¬(c:Int)<((l.length+1:Nat):Int):=Fj;simp only[f337,go_sem,U,V,t,hne,z1,hw1,C,hr1,dF,I,O,h00,BZ,Bx,AX];have hno:¬(((i+1:Nat):Int)=(c:Int)/\(0:Int)<((i+1:Nat):Int)):=Fj;have T:l.length+1 - (i+1)=l.length - i:=Fj;rw[iN hno,T];refine⟨⟨Fj,Fj⟩,⟨Fj,Fj,Fj⟩,xK (v:=.bool false) ⟨hov,⟨f362,98,4,159,kr,kr,kr,kr,kr,r,p⟩,⟨_,hv⟩,⟨_,J⟩,Fj,rfl⟩ ?_⟩;simp only[go_sem,C,U,t,hno,I,T];have hDl:(GH (l.drop i)).length=(l.length - i)*4:=by rw[In,Ck]
   have hTl:(GH (l.take (i+1))).length=(i+1)*4:=by rw[In,BB];congr 1;omega
   have hdr:((GH l).drop (i*4)).take ((l.length - i)*4)=GH (l.drop i):=by
    have:=NG l [] i hi;rw[Ai,Ai]at this;rw[this,Be Fj]
   have htk:(GH l).take ((i+1)*4)=GH (l.take (i+1)):=by
    have:=Ke l [] (i+1) Fj
    rwa [Ai]at this
   have htk2:(GH (l.take (i+1))++GH (l.drop i)).take (i*4)=GH (l.take i):=by
    have:=Ke (l.take (i+1)) (GH (l.drop i)) i (by rw[BB];omega);rw[this,List.take_take,Nat.min_eq_left Fj]
   have hol:=(AD.1 J).1;have go2:∀x:Option (List AV),(H.set o x)[o]? =some x:=λx=>Aw hol;have gv2:∀x:Option (List AV),(H.set o x)[vo]? =some (some e.c):=λx=>by rw[A2 (Ne.symm hov)];exact hv
   have gs2:∀x y:Option (List AV),(H.set o x).set o y=H.set o y:=λx y=>BD ..;refine⟨⟨Fj,Fj,Fj⟩,⟨Fj,Fj⟩,WR (k:=l.length - i) (ob:=o) (cs:=GH l) (X:=GH (l.drop i)) (R:=GH (l.take (i+1))++GH (l.drop i)) (by simp[Db];omega) r rfl rfl J g.symm p (Ky l) Fj (.inl rfl) (WQ (.inr rfl) J Fj g.symm Fj hdr)
    (by rw[htk,Ky,C4 (l:=GH l) Fj,Ai]) ?_⟩
   simp only[go_sem,C,U,t,I,BZ,Bx,AX];refine⟨⟨Fj,Fj⟩,WR (k:=1) (ob:=o) (cs:=GH (l.take (i+1))++GH (l.drop i)) (X:=e.c) (R:=GH (l.take i)++e.c++GH (l.drop i)) (by simp[Db];omega) r rfl rfl (go2 _) g.symm p (by rw[Aq,Ky,Ky]) (by rw[AE];omega) (.inl rfl) (WQ (.inl rfl) (gv2 _) (AS 4) g.symm (AS 1) rfl)
    (by rw[htk2,show i*4+1*4=(i+1)*4 by omega,Dt hTl];rfl) ?_⟩
   simp only[go_sem,gs2];exact .inr ⟨o,0,l.length+1,4,c,rfl,o,[],rfl,by rw[go2,UT,Ow,Il,Ai],.inl rfl,_,[],by rw[Ai]⟩
theorem ADM(l:List FG)(p:l.length<=1073741824)(i:Nat)(r:i<=l.length)(e:FG)(o g:Nat)(j:g≠o)(H:Fl)(t:H[o]? =some (some (GH l)))(C:H[g]? =some (some e.c)):
  Fw AA 337 [.msl o 0 l.length 4,.int .i64 i,.msl g 0 1 4] H (ALl l i e o H) :=
 nY (Fw.cap AEP.c λc I J=>vU l p i r e o g j H t C c I J)
end Go.AI
namespace Go.AI
open Go.Proofs
set_option maxRecDepth 50000
theorem vV{H:Fl}(l:List FG)(U:l.length<=9223372036854775807)(g:FuncId)(o t:List AV)(p:FG->Bool)
  (h:∀x∈l,Gq AA g (o.map AV.borrow++(.agg x.c::t.map AV.borrow)) H (.bool (p x))):
  Gq AA 222 [.sl none (Fs l),.fn (.func g) o t] H (.int .i64 (IS p l)):=by
 unfold Gq;refine aC qH rfl ?_;simp only[f222,go_sem];refine F0 l (λr=>Hb p (l.length - r.length) r) (λk=>[(0,.sl none (Fs l)),(1,.fn (.func g) o t),(7,.int .i64 l.length),(8,.int .i64 k)]) U rfl ?_ ?_
 ·intro k x R V hx i C I T;have hk2:=GI V;have j:l.length - (R.length+1)=k:=Fj;have J:l.length - R.length=k+1:=Fj;simp only[AC,j,AP]at i;simp only[go_sem,C,I,Fz hx,j,J];repeat' (first|(refine aS (h x (AB hx)) ?_;simp only[go_sem,C,I,T,Fz hx,j,J])|apply Pz<;>intro O<;>simp only[go_sem,O,C,I,T,Fz hx,j,J])
  ·rw[IS,i,Hb,iP O]
  ·rw[Hb,iN (by rw[O];decide)]
 ·intro i P;simp only[go_sem,P,dF];rw[AP]at i;rw[IS,i];rfl
def wn:FH:={ dM with mt:=[40,67],tk:=25::dM.tk }
@[go_sem] theorem AkZ(k:Nat):wn.lv k=dM.lv k:=AH rfl rfl
set_option linter.defProp false in
@[go_sem] def AlQ:=qE wn rfl rfl rfl
@[go_sem] theorem AlP:wn.tk=[25,17,23,24,44,51,55,56,81,83,87,94]/\wn.mt=[40,67]/\wn.pc=[67,93]:=⟨rfl,rfl,rfl⟩
theorem ALq:FK AA 337 f337 wn:=⟨kr,kr,func337,kr⟩
theorem vT(e:FG)(j:Nat)(H:Fl)(p:H[j]? =some (some e.c)):
  Fw AA 337 [.sl (some 4) [],.int .i64 ((0:Nat):Int),.msl j 0 1 4] H λv r=>v = .sl (some 4) [.agg e.c]/\r=H:=by
 have t:(((1:Nat):Int)==0)=false:=rfl;have C:(((0:Nat):Int)==((0:Nat):Int))=true:=rfl;have g:TR AA 159=true:=kr;have o:AA.cellsOf 159=4:=kr;have i:Um AA 159 true H (.msl j 0 1 4)=some [.agg e.c]:=by
  have h:=lz (P:=AA) (el:=159) p (off:=0) (len:=1) (sz:=4) (AS 4) o.symm (.inl g);rw[g]at h;exact h
 refine aC ALq rfl ?_;simp only[f337,go_sem,t,C,i];exact Int.le_refl _
def Lp(l:List FG)(e:FG):List FG:=if uM l e=true then l.set (SO l e) e else UT l (SO l e) e
theorem XX(l:List FG):(l.map Entry.c).map AV.agg=Fs l:=by
 induction l with
 |nil=>rfl
 |cons x l g=>rw[AW,AW,g];rfl
theorem ALM(st:List FG)(hl:st.length<=1073741823)(J:∀y∈st,y.key.length<=1073741824)(e:FG):Fm AA 294 [.sl none (Fs st),.agg e.c] (.sl none (Fs (Lp st e))):=by
 have O:=tF st Fj J e;have i:=rI st e;have P:Fw AA 294 [.sl none (Fs st),.agg e.c] [] λv j=>Ack 4 ((Lp st e).map Entry.c) v [] j:=by
  refine aN AO2 rfl ?_;simp only[f294,go_sem];apply pK O;simp only[go_sem];refine GQ.intro (i' st Fj [some e.c]) λv j o=>?_;have C:(0:Int)<=((SO st e:Nat):Int):=Fj;rcases o with⟨rfl,rfl,rfl⟩|⟨rfl,rfl⟩
  ·have g:uM [] e=false:=rfl;have R:SO [] e=0:=rfl;simp only[go_sem,g];rw[R];refine GQ.intro (vT e 1 _ rfl) λv j o=>?_;obtain⟨rfl,rfl⟩:=o;simp only[go_sem];exact .inr ⟨⟨_,rfl⟩,_,rfl⟩
  ·simp only[go_sem,AC,AG,AU,AM,AX,Nat.reduceAdd];cases g:uM st e with
   | true =>
    have t:SO st e<st.length:=by
     unfold uM at g;split at g
     ·rename_i y T;exact(AD.1 T).1
     ·cases g
    have U:((SO st e:Nat):Int)<(st.length:Int):=Fj;have V:SO st e*4+4<=(GH st).length:=by rw[In];omega
    have k3:splice (GH st) (SO st e*4) (e.cf none)=GH (st.set (SO st e) e):=by
     have:=RP [] t e;rw[Ai,Ai]at this;exact this
    have p:Lp st e=st.set (SO st e) e:=by rw[Lp,iP g]
    simp only[go_sem,C,U,V,k3];refine .inl (.inr ⟨2,GH (st.set (SO st e) e), ?_,F3,⟨_,rfl⟩,rfl,[], ?_⟩)
    ·rw[p,Ap,Aj]
    ·rw[p,Ai];rfl
   |false =>
    have p:Lp st e=UT st (SO st e) e:=by rw[Lp,iN (by rw[g];decide)]
    simp only[go_sem,C];refine GQ.intro (ADM st Fj (SO st e) i e 2 3 dc _ rfl rfl) λv j o=>?_;obtain⟨ob,r,rfl,ho,hob,c,ext,rfl⟩:=o;simp only[go_sem];refine .inl (.inr ⟨ob,_, ?_,F3,⟨_,rfl⟩,ho,r, ?_⟩)
    ·rw[p,Ap,kG i]
    ·rw[p];rfl
 have I:=sb (n:=4) (es:=(Lp st e).map Entry.c) (λx hx=>by obtain⟨y,_,rfl⟩:=AN.1 hx;rfl) (λx hx=>by obtain⟨y,_,rfl⟩:=AN.1 hx;exact y.c_bnd _) (λx hx=>by obtain⟨y,_,rfl⟩:=AN.1 hx;rfl) P;rw[XX]at I;refine O_ (I.mono λv j h=>h.1) ?_ ?_
 ·simp[Fq,AV.pure,Ij,Tk]
 ·simp[AV.pure,Ij]
theorem vP(l:List FG)(U:l.length<=1073741823)(H:Fl)(g:FuncId)(i:List AV)(p:i.map AV.borrow=i)(d:FG->Bool)(V:∀x∈l,∀J,Gq AA g (.agg x.c::i) (H++J) (.bool (d x))):
  Fw AA 295 [.sl none (Fs l),.fn (.func g) [] i] H λv j=>v = .sl none (Fs (l.filter d))/\j=H:=by
 have h1:∀x∈l,∀J,Gq AA 339 [.agg x.c,.ptr H.length 0] (H++some [.fn (.func g) [] i]::J) (.bool (!d x)):=by
  intro x hx J;refine Fw.drop rfl ?_;have t:=V x hx (some [.fn (.func g) [] i]::(J++[some (Entry.c x)]));have R:H++some [.fn (.func g) [] i]::(J++[some (Entry.c x)])=H++some [.fn (.func g) [] i]::J++[some (Entry.c x)]:=F3;rw[R]at t;refine aC ANM rfl ?_;have C:∀L,(H++some [AV.fn (.func g) [] i]::L)[H.length]? =some (some [AV.fn (.func g) [] i]):=λL=>F3;have I:∀X y,(H++X::(J++[y]))[List.length (H++X::J)]? =some y:=λX y=>by
   have:H++X::(J++[y])=(H++X::J)++[y]:=F3;rw[this];exact BT
  have O:(Entry.c x).take 4=Entry.c x:=rfl;have P:(Entry.c x).length=4:=rfl;simp only[f339,go_sem,C,I,O,P,p];rw[<- R]at t;repeat' (first|(refine aS (t) ?_;simp only[go_sem,C,I])|apply Pz<;>intro hc<;>simp only[go_sem,hc,C,I])
  exact⟨_,rfl⟩
 have h0:Fw AA 295 [.sl none (Fs l),.fn (.func g) [] i] H λv j=>ALB 4 ((l.filter d).map Entry.c) v H j:=by
  refine aC AOy rfl ?_;simp only[f295,go_sem];refine GQ.intro (i' l Fj _) λv j o=>?_;rcases o with⟨rfl,rfl,rfl⟩|⟨rfl,rfl⟩
  ·simp only[go_sem];refine GQ.intro (ZD _ _ _ _ _) λv j o=>?_;obtain⟨rfl,w2,rfl⟩:=o;simp only[go_sem];exact .inl ⟨rfl,⟨_,rfl⟩,_,rfl⟩
  ·simp only[go_sem];have f2:List.filter (λx => !!d x) l=l.filter d:=F3;have eo:List.length (H++[some [AV.fn (.func g) [] i]])+1=H.length+2:=F3;have T:∀(c:Option (List AV)) (J:Fl),(H++[some [AV.fn (.func g) [] i],none,some (GH l)]).set (H.length+2) c++J=H++some [.fn (.func g) [] i]::([none,c]++J):=λc J=>by
    rw[Bg _ _ Fj];simp
   rw[eo];refine GQ.intro (vY l U [] _ (H.length+2) F3 _ [] [.ptr H.length 0] (λx => !d x) λx hx c J=>by rw[T];exact h1 x hx _) λv j o=>?_;obtain⟨r,J,rfl,rfl⟩:=o;simp only[go_sem,f2,T];refine .inr ⟨H.length+2,GH (l.filter d)++r, ?_,Fj,⟨_,rfl⟩, ?_,r,rfl⟩
   ·rw[Ap]
   ·simp
 have h2:=sd (n:=4) (es:=(l.filter d).map Entry.c) (λx hx=>by obtain⟨y,_,rfl⟩:=AN.1 hx;rfl) (λx hx=>by obtain⟨y,_,rfl⟩:=AN.1 hx;exact y.c_bnd _) (λx hx=>by obtain⟨y,_,rfl⟩:=AN.1 hx;rfl) h0
 rwa [XX]at h2
def M9(st:List FG)(v:ByteArray):List FG:=st.filter λe=>decide (e.var=v)
theorem AJv(l:List FG)(g:l.length<=1073741823)(v:ByteArray):Fm AA 221 [.sl none (Fs l),.str v] (.sl none (Fs (M9 l v))):=by
 have i:∀x∈l,∀J,Gq AA 296 [.agg x.c,.ptr 0 0] ([some [.str v]]++J) (.bool (decide (x.var=v))):=by
  intro x hx J;refine Fw.drop rfl ?_;refine aC AOu rfl ?_;simp only[f296,go_sem];exact⟨by rw[Fk],_,rfl⟩
 refine pB AR4 rfl ?_;simp only[f221,go_sem];refine GQ.intro (vP l g _ _ _ rfl _ i) λw o j=>?_;obtain⟨rfl,rfl⟩:=j;simp only[go_sem];rfl
def AhL(f:Fld×Bool):Prop:=f.2=true->HP f.1
def Y7(l:List Fld)(h:FI)(g:ByteArray)(n:Int):FI:=if(Ft l g).2=true then PK (Ft l g).1 h (if JY (Ft l g).1<n then JY (Ft l g).1 else n).toNat else h
theorem SI{l:List Fld}(g:Is l)(s:ByteArray):AhL (Ft l s):=λh=>Im g h
theorem Qf{α:Type}{H:List α}{o:Nat}{x:α}(h:H[o]? =some x):H.set o x=H:=by
 apply A6;intro j;rw[Az];split
 ·rename_i g;subst g;rw[h,iP (AD.1 h).1]
 ·rfl
theorem KC{α:Type}{H:List α}{o:Nat}{x:α}(h:o<H.length)(L:List α):(H++L).set o x=H.set o x++L:=BY _ _ h
theorem Qd{l:List Fld}(o:Is l){h:FI}(i:Fr h=true)(g:ByteArray){n:Int}(r:0<=n):Fr (Y7 l h g n)=true:=by
 unfold Y7;split
 ·rename_i p;have j:=SI o g p;have hm:=Qj j;have t:0<2^fW (Ft l g).1:=A' _;refine OY j ?_ i;rw[hm];split<;>omega
 ·exact i
theorem WG(D:FJ)(hl:Is D.fields)(I:D.fields.length<=9223372036854775807)(hr:Fr D.head=true)(g:ByteArray)(n:Int)(hn:0<=n)(H:Fl)(J:Nat)(P R T U:Option Nat)(i:H[J]? =some (some (D.cf P R T U))):
  Fw AA 220 [.ptr J 0,.str g,.int .i64 n] H λv H'=>v = .tup [] /\ ∃ext,H'=H.set J (some (({ D with head:=Y7 D.fields D.head g n }:FJ).cf P R T U))++ext:=by
 have o:=(AD.1 i).1;have r:=Ru D.fields I g;have t:=q_0 H;have j:=Fp i;refine aC AR8 rfl ?_;cases p:(Ft D.fields g).2 with
 |false =>
  rw[p]at r;simp only[f220,go_sem,i,j];apply pK r;simp only[go_sem,i,j,t];have O:Y7 D.fields D.head g n=D.head:=by unfold Y7;rw[iN (by rw[p];decide)]
  rw[O,Qf i];exact⟨_,rfl⟩
 |true =>
  rw[p]at r;have C:=SI hl g p;have hm:=Qj C;have c2:=tI (Ft D.fields g).1 (by have:=C;unfold HP at this;omega) (by have:=C;unfold HP at this;omega);have hp:0<2^fW (Ft D.fields g).1:=A' _;have O:Y7 D.fields D.head g n=PK (Ft D.fields g).1 D.head (if JY (Ft D.fields g).1<n then JY (Ft D.fields g).1 else n).toNat:=by unfold Y7;rw[iP p]
  have e2:(((if JY (Ft D.fields g).1<n then JY (Ft D.fields g).1 else n).toNat:Nat):Int)=if JY (Ft D.fields g).1<n then JY (Ft D.fields g).1 else n:=Int.toNat_of_nonneg (by rw[hm];split<;>omega);have V:=oY (Ft D.fields g).1 C D.head hr (if JY (Ft D.fields g).1<n then JY (Ft D.fields g).1 else n).toNat (by rw[hm];split<;>omega);rw[e2,<- O]at V;simp only[f220,go_sem,i,j];apply pK r;simp only[go_sem,i,j,t];apply pK c2;simp only[go_sem,i,j,t];apply pK V;simp only[go_sem,i,j,t,o];rw[KC o];exact⟨_,rfl⟩
def Gr(D:FJ):FJ×Bool:=if D.is=false/\100<=(M9 D.st D.step.var).length then(D,false)else({ D with st:=Lp D.st D.entry },true)
theorem LL(D:FJ):(Gr D).1.fields=D.fields/\(Gr D).1.step=D.step/\(Gr D).1.head=D.head/\(Gr D).1.entry=D.entry:=by
 unfold Gr;split<;>exact⟨rfl,rfl,rfl,rfl⟩
def iH(g:Nat)(i j o:Option Nat)(H:Fl)(r:FJ×Bool)(v:AV)(p:Fl):Prop:=v = .bool r.2 /\ ∃t ext,p=H.set g (some (r.1.cf i j t o))++ext
theorem NM(D:FJ)(P:D.st.length<=1073741823)(R:∀y∈D.st,y.key.length<=1073741824)(H:Fl)(p:Nat)(r t C I:Option Nat)(i:H[p]? =some (some (D.cf r t C I))):
  Fw AA 219 [.ptr p 0] H (iH p r t I H (Gr D)):=by
 have g:=(AD.1 i).1;have T:=AJv D.st Fj D.step.var;have J:=ALM D.st Fj R D.entry;refine aC ASA rfl ?_;cases j:D.is with
 |true =>
  simp only[f219,go_sem,i,j,Ax];apply pK J;simp only[go_sem,i,g];have o:Gr D=({ D with st:=Lp D.st D.entry },true):=by unfold Gr;rw[iN (by rw[j];simp)]
  rw[o];exact⟨rfl,none,[],F3⟩
 | false =>
  simp only[f219,go_sem,i,j,Ay];apply pK T;simp only[go_sem,i,g];refine cS ?_ ?_<;>intro O
  ·have o:Gr D=(D,false):=by unfold Gr;rw[iP ⟨j,by simp at O;omega⟩]
   simp only[go_sem,o];exact⟨rfl,C,[],by rw[Qf i,Ai]⟩
  ·have o:Gr D=({ D with st:=Lp D.st D.entry },true):=by unfold Gr;rw[iN (by simp at O ⊢;omega)]
   simp only[go_sem,i,g];apply pK J;simp only[go_sem,i,g,o];exact⟨rfl,none,[],by simp[j]⟩
theorem Wl{α:Type}{H:List α}{o:Nat}(h:o<H.length)(x:α)(L:List α):(H.set o x++L)[o]? =some x:=by
 rw[List.getElem?_append_left (by rw[Aj];exact h)];exact Aw h
def jH(D:FJ):FJ×Bool:=Gr { D with entry:={ D.entry with at_:=D.tick } }
def Ud(D:FJ):FJ×Bool:=(D,D.is&&decide (IntKind.i64.wrap (D.tick - D.step.n)<=D.entry.at_))
def ug(r:FJ×Bool):FJ×Bool:=if r.2=true then({ r.1 with head:=Y7 r.1.fields r.1.head r.1.step.field r.1.entry.n },true)else(r.1,false)
def Pu(a b:Int):Int:=if b<a then b else a
def SL(D:FJ):FJ×Bool:=ug (Gr { D with entry:={ D.entry with n:=Pu (D.entry.n+1) 65535,at_:=D.tick } })
def kU:FH:={ qM with pc:=[] }
@[go_sem] theorem Akd(k:Nat):kU.lv k=qM.lv k/\kU.ct k=qM.ct k/\kU.at k=qM.at k/\kU.dn k=qM.dn k:=⟨AH rfl rfl,AH rfl rfl,AH rfl rfl,AH rfl rfl⟩
@[go_sem] theorem AlU:kU.tk=[]/\kU.mt=[]/\kU.pc=[]:=⟨rfl,rfl,rfl⟩
theorem ALu:FK AA 121 f121 kU:=⟨kr,kr,func121,kr⟩
def kT:FH:={ qL with pc:=[] }
@[go_sem] theorem Akc(k:Nat):kT.lv k=qL.lv k/\kT.ct k=qL.ct k/\kT.at k=qL.at k/\kT.dn k=qL.dn k:=⟨AH rfl rfl,AH rfl rfl,AH rfl rfl,AH rfl rfl⟩
@[go_sem] theorem AlT:kT.tk=[]/\kT.mt=[]/\kT.pc=[]:=⟨rfl,rfl,rfl⟩
theorem ALt:FK AA 122 f122 kT:=⟨kr,kr,func122,kr⟩
section
variable(D:FJ)(hl:Is D.fields)(hln:D.fields.length<=9223372036854775807)(hst:D.st.length<=1073741823)(hk:∀y∈D.st,y.key.length<=1073741824)(hr:Fr D.head=true)(he:0<=D.entry.n/\D.entry.n<=65535)
variable(H:Fl)(od:Nat)(o0 o1 o2 o3:Option Nat)(ho:H[od]? =some (some (D.cf o0 o1 o2 o3)))
include hst hk ho
theorem AHb:Fw AA 122 [.ptr od 0] H (iH od o0 o1 o3 H (jH D)):=by
 have g:=(AD.1 ho).1;refine aC ALt rfl ?_;simp only[f122,go_sem,ho,g];refine GQ.intro (NM { D with entry:={ D.entry with at_:=D.tick } } hst hk _ od o0 o1 o2 o3 (Aw g)) λv j i=>?_;obtain⟨rfl,w,ext,rfl⟩:=i;simp only[go_sem];exact⟨rfl,w,ext,by rw[BD];rfl⟩
theorem ADG:Fw AA 123 [.ptr od 0] H (iH od o0 o1 o3 H (Ud D)):=by
 have:=hst;have:=hk;have i:=(AD.1 ho).1;refine aC AXV rfl ?_;cases g:D.is<;>simp only[f123,go_sem,ho,g]
 ·exact⟨by rw[Ud,g];rfl,o2,[],by rw[Ai];exact(Qf ho).symm⟩
 ·exact⟨by rw[Ud,g];rfl,o2,[],by rw[Ai];exact(Qf ho).symm⟩
include hl hln hr he
theorem ADD:Fw AA 121 [.ptr od 0] H (iH od o0 o1 o3 H (SL D)):=by
 have g:=(AD.1 ho).1;have R:IntKind.i64.wrap (D.entry.n+1)=D.entry.n+1:=Mg Fj Fj;refine aC ALu rfl ?_;have gS:∀x,(H.set od x)[od]? =some x:=λx=>Aw g;have t:∀x,od<(H.set od x).length:=λx=>by rw[Aj];exact g
 have j:∀x y,(H.set od x).set od y=H.set od y:=λx y=>BD ..;simp only[f121,go_sem,ho,g,R,gS,t,j];refine GQ.intro (NM { D with entry:={ D.entry with n:=Pu (D.entry.n+1) 65535,at_:=D.tick } } hst hk _ od o0 o1 o2 o3 (gS _)) λv T o=>?_;obtain⟨rfl,w,ext,rfl⟩:=o;have U:SL D=ug (Gr { D with entry:={ D.entry with n:=Pu (D.entry.n+1) 65535,at_:=D.tick } }):=rfl;rw[U];have C:=LL { D with entry:={ D.entry with n:=Pu (D.entry.n+1) 65535,at_:=D.tick } };generalize Gr { D with entry:={ D.entry with n:=Pu (D.entry.n+1) 65535,at_:=D.tick } }=r at C ⊢;obtain⟨I,b⟩:=r;obtain⟨p,V,J,O⟩:=C;dsimp only at p V J O;rw[j];cases b with
 |false =>
  simp only[go_sem,Ay];exact⟨rfl,w,ext,rfl⟩
 |true =>
  have P:=Wl g (some (I.cf o0 o1 w o3)) ext;simp only[go_sem,Ax,P];refine GQ.intro (WG I (by rw[p];exact hl) (by rw[p];exact hln) (by rw[J];exact hr) _ _ (by rw[O];unfold Pu;split<;>simp<;>omega) _ od o0 o1 w o3 P) λv T o=>?_;obtain⟨rfl,i,rfl⟩:=o;simp only[go_sem];refine⟨rfl,w,ext++i, ?_⟩;rw[KC (t _),j,AF];rfl
end
end Go.AI
namespace Go.AI
open Go.Proofs
set_option maxRecDepth 50000
theorem UZ(U:List Int)(m:Int)(h:m∈U):(U.filter λx=>decide (m+1<=x)).length<(U.filter λx=>decide (m<=x)).length:=by
 have e:U.filter (λx=>decide (m+1<=x))=(U.filter λx=>decide (m<=x)).filter λx => !decide (x=m):=by
  rw[List.filter_filter];congr 1;funext x;rw[Bool.eq_iff_iff];simp;omega
 rw[e];exact List.length_filter_lt_length_iff_exists.2 ⟨m,by simp[h],F3⟩
def Hz(U:List Int)(m:Int):Int:=if m∈U then Hz U (m+1)else m
termination_by (U.filter λx=>decide (m<=x)).length
decreasing_by exact UZ U m (by assumption)
theorem ke{U:List Int}{m:Int}(h:m∈U):Hz U m=Hz U (m+1):=by rw[Hz,iP h]
theorem bG{U:List Int}{m:Int}(h:m∉U):Hz U m=m:=by rw[Hz,iN h]
theorem AEo(U:List Int)(m B:Int)(g:∀x∈U,x<=B)(hm:m<=B+1):m<=Hz U m/\Hz U m<=B+1:=by
 fun_induction Hz U m with
 |case1 m h i =>
  have:=g m h;have:=i Fj;omega
 |case2 m h=>omega
def Kh(D:FJ):List Int:=(M9 D.st D.step.var).map (·.n)
def JW(D:FJ):FJ×Bool :=
 if D.is=true then ug (Gr { D with entry:={ D.entry with at_:=D.tick } })
 else if D.step.m<Hz (Kh D) D.step.n then({ D with entry:={ D.entry with n:=Hz (Kh D) D.step.n,at_:=D.tick } },false)
 else ug (Gr { D with entry:={ D.entry with n:=Hz (Kh D) D.step.n,at_:=D.tick } })
def kR:FH:={ qK with pc:=[29] }
@[go_sem] theorem Aka(k:Nat):kR.lv k=qK.lv k/\kR.ct k=qK.ct k/\kR.at k=qK.at k/\kR.dn k=qK.dn k:=⟨AH rfl rfl,AH rfl rfl,AH rfl rfl,AH rfl rfl⟩
@[go_sem] theorem AlR:kR.tk=[]/\kR.mt=[]/\kR.pc=[29]:=⟨rfl,rfl,rfl⟩
theorem ALr:FK AA 124 f124 kR:=⟨kr,kr,func124,kr⟩
def S6(D:FJ)(e:FG):Bool:=decide (e.var=D.step.var)&&(e.n==(It (Ft D.fields D.step.field).1 D.head:Nat))
def nb(l:List Fld)(h:FI)(q:List (ByteArray×Int)):FI:=q.foldl (λh p=>Y7 l h p.1 p.2) h
def Rb(D:FJ):FJ×Bool:=match D.st.find? (S6 D)with
 |none=>(D,false)
 |some y=>({ D with head:=nb D.fields D.head (D.step.key.zip y.key) },true)
theorem WZ{α β:Type}(x:α){y:β}: ∀{a:List α} {b:List β},b[a.length]? =some y->(a++[x]).zip b=a.zip b++[(x,y)]
 |[],[],h=>by simp at h
 |[],z::b,h=>by simp at h;subst h;rfl
 |w::a,[],h=>by simp at h
 |w::a,z::b,h=>by
  have g:b[a.length]? =some y:=by simpa using h
  rw[AU,B6,WZ x g,B6];rfl
theorem LM{α:Type}(p:α->Bool): ∀(l:List α) (k:Nat),(Hb p k l = -1/\l.find? p=none) \/ ∃(i:Nat) (y:α),Hb p k l=((k+i:Nat):Int)/\l[i]? =some y/\l.find? p=some y
 |[],k => .inl ⟨rfl,rfl⟩
 | x::l,k=>by
  rw[Hb];by_cases h:p x=true
  ·rw[iP h];exact .inr ⟨0,x,rfl,rfl,by rw[BN,h]⟩
  ·rw[iN h];have g:p x=false:=by simpa using h
   rcases LM p l (k+1)with⟨h3,h4⟩|⟨i,y,h3,h4,h5⟩
   ·exact .inl ⟨h3,by rw[BN,g];exact h4⟩
   ·exact .inr ⟨i+1,y,by rw[h3];congr 1;omega,h4,by rw[BN,g];exact h5⟩
def kV:FH:={ qJ with pc:=[19,27] }
@[go_sem] theorem Ake(k:Nat):kV.lv k=qJ.lv k/\kV.ct k=qJ.ct k/\kV.at k=qJ.at k/\kV.dn k=qJ.dn k:=⟨AH rfl rfl,AH rfl rfl,AH rfl rfl,AH rfl rfl⟩
@[go_sem] theorem AlV:kV.tk=[]/\kV.mt=[]/\kV.pc=[19,27]:=⟨rfl,rfl,rfl⟩
theorem ALv:FK AA 125 f125 kV:=⟨kr,kr,func125,kr⟩
def Ll(s:Stp)(e:FG)(is:Bool)(g:Int):FG:=if is=true then e else { e with n:=s.n,at_:=g }
def HW(s:Stp)(e:FG)(g:Int):Int:=(if 0<g - e.at_ then g - e.at_ else 0) / s.m
def KI(s:Stp)(e:FG)(g:Int):FG:=if s.n<=e.n+HW s e g then { e with n:=s.n,at_:=g }else { e with n:=e.n+HW s e g,at_:=e.at_+HW s e g*s.m }
def L6(e:FG):FG:=if 0<e.n then { e with n:=e.n - 1 }else e
theorem bu{s:Stp}{e:FG}{tick:Int}(hm:1<=s.m):0<=HW s e tick/\HW s e tick*s.m<=(if 0<tick - e.at_ then tick - e.at_ else 0):=by
 unfold HW;have g:0<=(if 0<tick - e.at_ then tick - e.at_ else 0):=by split<;>omega
 generalize (if 0<tick - e.at_ then tick - e.at_ else 0)=x at g ⊢;exact⟨Int.ediv_nonneg g Fj,Int.ediv_mul_le _ Fj⟩
theorem Tu{s:Stp}{e:FG}{tick:Int}(hm:1<=s.m/\s.m<=1073741824)(j:0<=e.n/\e.n<=65536)(o:0<=tick/\tick<=1073741824)(p:0<=e.at_/\e.at_<=1073741824):
  IntKind.i64.wrap (tick - e.at_)=tick - e.at_/\IntKind.i64.wrap ((if tick - e.at_>0 then tick - e.at_ else 0).tdiv s.m)=HW s e tick/\IntKind.i64.wrap (e.n+HW s e tick)=e.n+HW s e tick/\IntKind.i64.wrap (HW s e tick*s.m)=HW s e tick*s.m/\IntKind.i64.wrap (e.at_+HW s e tick*s.m)=e.at_+HW s e tick*s.m /\
   0<=HW s e tick/\HW s e tick*s.m<=1073741824/\HW s e tick<=1073741824/\0<=HW s e tick*s.m:=by
 obtain⟨g,r⟩:=bu (s:=s) (e:=e) (tick:=tick) hm.1;have t:(if 0<tick - e.at_ then tick - e.at_ else 0)<=1073741824:=by split<;>omega
 have C:HW s e tick<=HW s e tick*s.m:=by
  have:=Int.mul_le_mul_of_nonneg_left hm.1 g;omega
 have i:(if tick - e.at_>0 then tick - e.at_ else 0).tdiv s.m=HW s e tick:=by
  unfold HW;rw[Int.tdiv_eq_ediv_of_nonneg (by split<;>omega)]
 rw[i];exact⟨Mg Fj Fj,Mg Fj Fj,Mg Fj Fj,Mg Fj Fj,Mg Fj Fj,g,Fj,Fj,Fj⟩
def kS:FH:={ N7 with pc:=[] }
@[go_sem] theorem Akb(k:Nat):kS.lv k=N7.lv k/\kS.ct k=N7.ct k/\kS.at k=N7.at k/\kS.dn k=N7.dn k:=⟨AH rfl rfl,AH rfl rfl,AH rfl rfl,AH rfl rfl⟩
@[go_sem] theorem AlS:kS.tk=[]/\kS.mt=[]/\kS.pc=[]:=⟨rfl,rfl,rfl⟩
theorem ALs:FK AA 126 f126 kS:=⟨kr,kr,func126,kr⟩
def JM(D:FJ):FJ×Bool :=
 let g:=KI D.step (Ll D.step D.entry D.is D.tick) D.tick
 let r:=Gr { D with entry:=L6 g }
 (r.1,r.2&&decide (0<g.n))
section
variable(D:FJ)(hl:Is D.fields)(hln:D.fields.length<=9223372036854775807)(hst:D.st.length<=1073741823)(hk:∀y∈D.st,y.key.length<=1073741824)(hr:Fr D.head=true)(he:0<=D.entry.n/\D.entry.n<=65535)
variable(H:Fl)(od:Nat)(o0 o1 o2 o3:Option Nat)(ho:H[od]? =some (some (D.cf o0 o1 o2 o3)))
include hst hk ho hl hln hr he
theorem cI(hn:0<=D.step.n/\D.step.n<=65536)(hen:∀y∈D.st,y.n<=65535):Fw AA 124 [.ptr od 0] H (iH od o0 o1 o3 H (JW D)):=by
 have i:=(AD.1 ho).1;have gS:∀x,(H.set od x)[od]? =some x:=λx=>Aw i;have gL:∀x,od<(H.set od x).length:=λx=>by rw[Aj];exact i
 have sS:∀x y,(H.set od x).set od y=H.set od y:=λx y=>BD ..;have j:∀x L,(H.set od x++L)[od]? =some x:=λx L=>Wl i x L;have O:∀x L y,(H.set od x++L).set od y=H.set od y++L:=λx L y=>by rw[KC (gL _),sS]
 refine aC ALr rfl ?_;cases I:D.is with
 | true =>
  have U:JW D=ug (Gr { D with entry:={ D.entry with at_:=D.tick },is:=true }):=by unfold JW;rw[iP I,<- I]
  rw[U];simp only[f124,go_sem,ho,i,gS,gL,sS,I,Ax];have g:∀(x:Option (List AV)) ext,(H.set od (some (({ D with entry:={ D.entry with at_:=D.tick },is:=true }:FJ).cf o0 o1 o2 o3))).set od x++ext=H.set od x++([]++ext):=λx ext=>by rw[sS,AM]
  refine GQ.intro (NM ({ D with entry:={ D.entry with at_:=D.tick },is:=true }:FJ) hst hk _ od o0 o1 o2 o3 (gS _)) λv H' P=>?_;obtain⟨rfl,w,ext,rfl⟩:=P;have V:=LL ({ D with entry:={ D.entry with at_:=D.tick },is:=true }:FJ);have kn:0<=({ D with entry:={ D.entry with at_:=D.tick },is:=true }:FJ).entry.n:=he.1;generalize Gr ({ D with entry:={ D.entry with at_:=D.tick },is:=true }:FJ)=r at V ⊢;obtain⟨D2,b⟩:=r;obtain⟨R,k3,k4,k5⟩:=V;dsimp only at R k3 k4 k5 kn;cases b with
  |false =>
   simp only[go_sem,Ay];exact⟨rfl,w,_,g _ _⟩
  |true =>
   rw[g];simp only[go_sem,Ax,j];refine GQ.intro (WG D2 (by rw[R];exact hl) (by rw[R];exact hln) (by rw[k4];exact hr) _ _ (by rw[k5];exact kn) _ od o0 o1 w o3 (j _ _)) λv H' P=>?_;obtain⟨rfl,o,rfl⟩:=P;simp only[go_sem];refine⟨rfl,w,([]:Fl)++ext++o, ?_⟩;rw[O,<- AF];rfl
 | false =>
  simp only[f124,go_sem,ho,i,gS,gL,sS,j,I,Ay];apply pK (AJv D.st Fj D.step.var);simp only[go_sem,j];have J:AA.underlying 3=some (.int .i64):=by simp only[go_sem]
  have hln2:(M9 D.st D.step.var).length<=D.st.length:=CS _ _;have gM:∀x y L,(H.set od x++y::L)[H.length]? =some y:=λx y L=>by
   rw[AO F3];simp
  have sM:∀x y L z,(H.set od x++y::L).set H.length z=H.set od x++z::L:=λx y L z=>by
   rw[Bg _ _ F3];simp
  have gN:∀x y L z,(H.set od x++y::(L++[z]))[List.length (H.set od x++y::L)]? =some z:=λx y L z=>by
   have:H.set od x++y::(L++[z])=(H.set od x++y::L)++[z]:=F3;rw[this];exact BT
  have sN:∀x y L z z2,(H.set od x++y::(L++[z])).set (List.length (H.set od x++y::L)) z2=H.set od x++y::(L++[z2]):=λx y L z z2=>by
   have:H.set od x++y::(L++[z])=(H.set od x++y::L)++[z]:=F3;rw[this];simp
  refine F6 (M9 D.st D.step.var) (λ(_:List Int×Fl) (_:List FG)=>()) (λk s=>TF Kf s.1 /\ ∀x,x∈s.1↔x∈((M9 D.st D.step.var).take k).map (·.n)) (λk _=>[(0,.ptr od 0),(3,.mapr H.length),(29,.sl none (Fs (M9 D.st D.step.var))),(30,.int .i64 (M9 D.st D.step.var).length),(31,.int .i64 k)])
   (λ_ s=>H.set od (some (({ D with entry:={ D.entry with at_:=D.tick },is:=false }:FJ).cf o0 o1 o2 o3))++some (Kn (MN Kf s.1))::s.2) ([],[]) Fj ⟨trivial,λx=>F3⟩ ?_ rfl ?_ ?_
  ·rw[Aj];rfl
  ·rintro k ⟨B,L⟩ x xs hd hx t _ h0 h1 hw;dsimp only at t ⊢;have C:(Entry.c x).take 4=Entry.c x:=rfl;have hc3:(Entry.c x).length=4:=rfl;have hc4:(Entry.c x)[2]? =some (.int .i64 x.n):=rfl;have htk:(M9 D.st D.step.var).take (k+1)=(M9 D.st D.step.var).take k++[x]:=by rw[BF,hx];rfl
   simp only[go_sem,h0,h1,Fz hx,gM,gN,sN,C,hc3,hc4];refine ur (kt:=3) (et:=4) B x.n (by first|simp only[go_sem]|kernel_rfl) (gM _ _ _) (Xa J λa T=>by
    rcases AY.1 T with rfl|T
    ·exact⟨_,rfl⟩
    ·obtain⟨z,_,rfl⟩:=AN.1 T;exact⟨_,rfl⟩) t.1 ?_
   simp only[go_sem,hw,sM];refine⟨(if B.any (λz=>z==x.n)then B else B++[x.n],L++[some (Entry.c x)]),⟨AE' _ t.1,λy=>?_⟩,rfl,rfl⟩;rw[htk,Aq,Ar,<- t.2 y,AW,List.map_nil,Ag];dsimp only;split
   ·rename_i hany;have:x.n∈B:=by simpa using hany
    exact⟨.inl,λh=>h.elim id λh=>h▸this⟩
   ·rw[Ar,Ag]
  ·rintro ⟨B,L⟩ t _;dsimp only at t ⊢;rw[BL]at t;have hU:∀x,x∈B↔x∈Kh D:=t.2;have hUB:∀x∈Kh D,x<=65535:=λx hx=>by
    obtain⟨y,hy,rfl⟩:=AN.1 hx;exact hen y (Ca.1 hy).1
   simp only[go_sem,AR,dF,j,O];refine JB (σ:=Int) (λ_=>[(0,.ptr od 0),(3,.mapr H.length)])
    (λm=>H.set od (some (({ D with entry:={ D.entry with n:=m,at_:=D.tick },is:=false }:FJ).cf o0 o1 o2 o3))++some (Kn (MN Kf B))::L) (λm=>0<=m/\m<=65536/\Hz (Kh D) D.step.n=Hz (Kh D) m) (λm=>((Kh D).filter λx=>decide (m<=x)).length) D.step.n ⟨hn.1,hn.2,rfl⟩ rfl rfl ?_
   rintro m ⟨m0,m1,m2⟩;have hwm:IntKind.i64.wrap (m+1)=m+1:=Mg Fj Fj;simp only[go_sem,j,O];refine ADr (kt:=3) (et:=4) Kf B (Kf m) (by first|simp only[go_sem]|kernel_rfl) (by first|simp only[go_sem]|kernel_rfl) (gM _ _ _) (Xa J λa T=>by
    rcases AY.1 T with rfl|T
    ·exact⟨_,rfl⟩
    ·obtain⟨z,_,rfl⟩:=AN.1 T;exact⟨_,rfl⟩) t.1 ?_
   rw[uQ];simp only[go_sem];refine cS ?_ ?_<;>intro hc
   ·have hm:m∈Kh D:=(hU m).1 (by simpa using hc);have:=hUB m hm;simp only[go_sem,j,O,hwm];exact⟨m+1,⟨Fj,Fj,by rw[m2,ke hm]⟩,UZ _ _ hm,rfl,rfl⟩
   ·have hm:m∉Kh D:=λh=>by
     have:=(hU m).2 h;simp at hc;exact hc m this rfl
    have hf:Hz (Kh D) D.step.n=m:=by rw[m2,bG hm]
    simp only[go_sem,j,O];refine cS ?_ ?_<;>intro C
    ·have p:D.step.m<m:=by simpa using C
     have U:JW D=({ D with entry:={ D.entry with n:=m,at_:=D.tick },is:=false },false):=by unfold JW;rw[iN (by rw[I];decide),hf,iP p,<- I]
     rw[U];simp only[go_sem];exact⟨rfl,o2,_,rfl⟩
    ·have p:¬D.step.m<m:=by simpa using C
     have U:JW D=ug (Gr { D with entry:={ D.entry with n:=m,at_:=D.tick },is:=false }):=by unfold JW;rw[iN (by rw[I];decide),hf,iN p,<- I]
     rw[U];have g:∀(x:Option (List AV)) ext,(H.set od (some (({ D with entry:={ D.entry with n:=m,at_:=D.tick },is:=false }:FJ).cf o0 o1 o2 o3))++some (Kn (MN Kf B))::L).set od x++ext=H.set od x++((some (Kn (MN Kf B))::L)++ext):=λx ext=>by rw[O,AF]
     simp only[go_sem];refine GQ.intro (NM ({ D with entry:={ D.entry with n:=m,at_:=D.tick },is:=false }:FJ) hst hk _ od o0 o1 o2 o3 (j _ _)) λv H' P=>?_;obtain⟨rfl,w,ext,rfl⟩:=P;have V:=LL ({ D with entry:={ D.entry with n:=m,at_:=D.tick },is:=false }:FJ);have kn:0<=({ D with entry:={ D.entry with n:=m,at_:=D.tick },is:=false }:FJ).entry.n:=m0;generalize Gr ({ D with entry:={ D.entry with n:=m,at_:=D.tick },is:=false }:FJ)=r at V ⊢;obtain⟨D2,b⟩:=r;obtain⟨R,k3,k4,k5⟩:=V;dsimp only at R k3 k4 k5 kn;cases b with
     |false =>
      simp only[go_sem,Ay];exact⟨rfl,w,_,g _ _⟩
     |true =>
      rw[g];simp only[go_sem,Ax,j];refine GQ.intro (WG D2 (by rw[R];exact hl) (by rw[R];exact hln) (by rw[k4];exact hr) _ _ (by rw[k5];exact kn) _ od o0 o1 w o3 (j _ _)) λv H' P=>?_;obtain⟨rfl,o,rfl⟩:=P;simp only[go_sem];refine⟨rfl,w,(some (Kn (MN Kf B))::L)++ext++o, ?_⟩;rw[O,<- AF];rfl
omit hk he in
theorem AHh(hf:(Ft D.fields D.step.field).2=true)(hkl:∀y∈D.st,y.var=D.step.var->D.step.key.length<=y.key.length)(hkp:∀y∈D.st,∀x∈y.key,0<=x)(hskl:D.step.key.length<=1048576):Fw AA 125 [.ptr od 0] H (iH od o0 o1 o3 H (Rb D)):=by
 have t:=(AD.1 ho).1;have gS:∀x,(H.set od x)[od]? =some x:=λx=>Aw t;have gL:∀x,od<(H.set od x).length:=λx=>by rw[Aj];exact t
 have sS:∀x y,(H.set od x).set od y=H.set od y:=λx y=>BD ..;have gA:∀x L,(H.set od x++L)[od]? =some x:=λx L=>Wl t x L;have sA:∀x L y,(H.set od x++L).set od y=H.set od y++L:=λx L y=>by rw[KC (gL _),sS]
 have P:=Fp ho;have hg:=Im hl hf;have c1:=Ru D.fields hln D.step.field;have c2:=oZ (Ft D.fields D.step.field).1 hg D.head hr;have q0:=q_0 H;have R:∀y L,(H++y::L)[H.length]? =some y:=λy L=>F3;have g:∀x y L,(H++x::y::L)[H.length+1]? =some y:=λx y L=>F3;have j:∀x y z L,(H++x::y::z::L)[H.length+2]? =some z:=λx y z L=>F3;have o:∀x y z a L,(H++x::y::z::a::L)[H.length+3]? =some a:=λx y z a L=>F3;have C:∀x y a,(H++[x,y]).set (H.length+1) a=H++[x,a]:=λx y a=>F3;have I:∀x y z a,(H++[x,y,z]).set (H.length+2) a=H++[x,y,a]:=λx y z a=>F3;refine aC ALv rfl ?_;simp only[f125,go_sem,ho,P,R,g,j,o,C,I,AE,AC,AG,AX,Nat.reduceAdd];apply pK c1;simp only[go_sem,ho,P,R,g,j,o,C,I,AE,AC,AG,AX,Nat.reduceAdd];apply pK c2;simp only[go_sem,ho,P,R,g,j,o,C,I,AE,AC,AG,AX,Nat.reduceAdd];have k1:∀x∈D.st,Gq AA 223 ([].map AV.borrow++(.agg x.c::[AV.ptr H.length 0,.ptr (H.length+2) 0].map AV.borrow)) (H++[some [.ptr od 0],some (Ft D.fields D.step.field).1.c,some [.int .i64 (It (Ft D.fields D.step.field).1 D.head:Nat)]]) (.bool (S6 D x)):=by
  intro x hx;refine Fw.drop rfl ?_;have T:(Entry.c x).length=4:=rfl;have U:(Entry.c x)[0]? =some (.str x.var):=rfl;have V:(Entry.c x)[2]? =some (.int .i64 x.n):=rfl;refine aC ARx rfl ?_;cases hv:decide (x.var=D.step.var)with
  |true =>
   simp only[f223,go_sem,ho,P,R,g,j,o,T,U,V,AE,AC,AG,AX,Nat.reduceAdd,Fk,hv];exact⟨by rw[S6,hv,Bool.true_and],_,rfl⟩
  |false =>
   simp only[f223,go_sem,ho,P,R,g,j,o,T,U,V,AE,AC,AG,AX,Nat.reduceAdd,Fk,hv];exact⟨by rw[S6,hv,Bool.false_and],_,rfl⟩
 refine aS (vV D.st Fj _ [] _ (S6 D) k1) ?_;simp only[go_sem];rcases LM (S6 D) D.st 0 with⟨h3,h4⟩|⟨i,y,h3,h4,h5⟩
 ·have e1:Rb D=(D,false):=by unfold Rb;rw[h4]
  have e2:IS (S6 D) D.st = -1:=h3;rw[e1,e2];simp only[go_sem];exact⟨rfl,o2,_,by rw[Qf ho]⟩
 ·have e1:Rb D=({ D with head:=nb D.fields D.head (D.step.key.zip y.key) },true):=by unfold Rb;rw[h5]
  have e2:IS (S6 D) D.st=(i:Int):=by rw[IS,h3,AX]
  have hym:=AB h4;have J:S6 D y=true:=Dc h5;have hyv:y.var=D.step.var:=by unfold S6 at J;rw[AQ,decide_eq_true_eq]at J;exact J.1
  have hyl:=hkl y hym hyv;have i0:¬((i:Int)<0):=Fj;have i1:(0:Int)<=(i:Int):=Fj;rw[e1,e2];simp only[go_sem,i0,dF,P,R,g,j];refine F6 D.step.key (λ(_:FI×Fl) (_:List ByteArray)=>()) (λk s=>s.1=nb D.fields D.head ((D.step.key.take k).zip y.key)/\Fr s.1=true) (λk _=>[(1,.ptr H.length 0),(6,.int .i64 (i:Int)),(40,.sl none (Ha D.step.key)),(41,.int .i64 D.step.key.length),(42,.int .i64 k)])
   (λ_ s=>H.set od (some (({ D with head:=s.1 }:FJ).cf o0 o1 o2 o3))++some [.ptr od 0]::s.2) (D.head,[some (Ft D.fields D.step.field).1.c,some [.int .i64 (It (Ft D.fields D.step.field).1 D.head:Nat)]]) Fj ⟨rfl,hr⟩ rfl (by rw[Qf ho]) ?_ ?_
  ·rintro k ⟨h,L⟩ x xs hd hx ⟨O,p⟩ _ h0 h1 hw;dsimp only at O p ⊢;have r:k<y.key.length:=Fj;have hyk:y.key[k]? =some y.key[k]:=AL r;have h12:(k:Int)<(y.key.length:Int):=Fj;have h22:(i:Int)<(D.st.length:Int):=by have:=(AD.1 h4).1;omega
   have gM:∀x y L,(H.set od x++y::L)[H.length]? =some y:=λx y L=>by
    rw[AO F3];simp
   simp only[go_sem,h0,h1,GN hx,gA,gM,i1,h22,Fz h4,h12,Gj hyk];have hn0:0<=y.key[k]:=hkp y hym _ (Cd r);refine GQ.intro (WG { D with head:=h } hl hln p x y.key[k] hn0 _ od o0 o1 o2 o3 (gA _ _)) λv H' hq=>?_;obtain⟨rfl,ext,rfl⟩:=hq;have htk:(D.step.key.take (k+1)).zip y.key=(D.step.key.take k).zip y.key++[(x,y.key[k])]:=by
    rw[BF,hx];have hkk:(D.step.key.take k).length=k:=by rw[BB];omega
    exact WZ x (by rw[hkk];exact hyk)
   simp only[go_sem,hw];refine⟨(Y7 D.fields h x y.key[k],L++ext),⟨?_,Qd hl p _ hn0⟩,rfl, ?_⟩
   ·show Y7 D.fields h x y.key[k]=_;rw[htk];unfold nb at O ⊢;rw[List.foldl_append,<- O];rfl
   ·rw[sA];simp
  ·rintro ⟨h,L⟩ ⟨O,p⟩ _;dsimp only at O p ⊢;rw[BL]at O;simp only[go_sem,AR,dF];exact⟨rfl,o2,_,by rw[O]⟩
omit hl hln hr in
theorem AC3(hm:1<=D.step.m/\D.step.m<=1073741824)(hn:0<=D.step.n/\D.step.n<=65536)(ht:0<=D.tick/\D.tick<=1073741824)(hat:0<=D.entry.at_/\D.entry.at_<=1073741824):Fw AA 126 [.ptr od 0] H (iH od o0 o1 o3 H (JM D)):=by
 have T:=(AD.1 ho).1;have gS:∀x,(H.set od x)[od]? =some x:=λx=>Aw T;have gL:∀x,od<(H.set od x).length:=λx=>by rw[Aj];exact T
 have sS:∀x y,(H.set od x).set od y=H.set od y:=λx y=>BD ..;have o:∀x L,(H.set od x++L)[od]? =some x:=λx L=>Wl T x L;have i:∀x L y,(H.set od x++L).set od y=H.set od y++L:=λx L y=>by rw[KC (gL _),sS]
 have t:=Fp ho;have C:∀y L,(H++y::L)[H.length]? =some y:=λy L=>F3;have I:=q_0 H;have R:∀(L:Fl) y,(H++L).set od y=H.set od y++L:=λL y=>KC T L;have U:∀x y L,(H.set od x++y::L)[H.length]? =some y:=λx y L=>by
  rw[AO F3];simp
 have m0:¬D.step.m=0:=Fj;refine aC ALs rfl ?_;cases hi:D.is with
 | true =>
  obtain⟨f1,f2,f3,f4,f5,f6,f7,f8,f9⟩:=Tu (s:=D.step) (e:=D.entry) (tick:=D.tick) hm Fj ht hat
  simp only[f126,go_sem,ho,t,C,I,hi,Ax,f1,f2,f3,m0];have eT:Ll D.step D.entry D.is D.tick=D.entry:=by unfold Ll;rw[iP hi]
  refine cS ?_ ?_<;>intro hc
  ·have hc:=of_decide_eq_true hc;have V:KI D.step (Ll D.step D.entry D.is D.tick) D.tick={ D.entry with n:=D.step.n,at_:=D.tick }:=by rw[eT];unfold KI;rw[iP hc]
   simp only[go_sem,ho,t,C,I,R,o,i];refine cS ?_ ?_<;>intro j
   ·have g:0<(({ D.entry with n:=D.step.n,at_:=D.tick }:FG)).n:=of_decide_eq_true j;have J:IntKind.i64.wrap (D.step.n - 1)=D.step.n - 1:=Mg (by dsimp only at g;omega) Fj;have O:L6 (({ D.entry with n:=D.step.n,at_:=D.tick }:FG))={ ({ D.entry with n:=D.step.n,at_:=D.tick }:FG)with n:=D.step.n - 1 }:=by unfold L6;rw[iP g]
    have P:JM D=((Gr ({ D with entry:={ ({ D.entry with n:=D.step.n,at_:=D.tick }:FG)with n:=D.step.n - 1 },is:=D.is }:FJ)).1,(Gr ({ D with entry:={ ({ D.entry with n:=D.step.n,at_:=D.tick }:FG)with n:=D.step.n - 1 },is:=D.is }:FJ)).2&&true):=by
     unfold JM;dsimp only;rw[V,O,j]
    simp only[go_sem,ho,t,C,I,R,o,i,U,J];refine GQ.intro (NM ({ D with entry:={ ({ D.entry with n:=D.step.n,at_:=D.tick }:FG)with n:=D.step.n - 1 },is:=D.is }:FJ) hst hk _ od o0 o1 o2 o3 (o _ _)) λv H' p=>?_;obtain⟨rfl,w,ext,rfl⟩:=p;rw[P];generalize Gr ({ D with entry:={ ({ D.entry with n:=D.step.n,at_:=D.tick }:FG)with n:=D.step.n - 1 },is:=D.is }:FJ)=r;obtain⟨D2,b⟩:=r;cases b<;>simp only[go_sem,j]
    ·exact⟨rfl,w,[some (D.step.cf none)]++ext,by rw[i,AF]⟩
    ·exact⟨rfl,w,[some (D.step.cf none)]++ext,by rw[i,AF]⟩
   ·have g:¬0<(({ D.entry with n:=D.step.n,at_:=D.tick }:FG)).n:=of_decide_eq_false j;have O:L6 (({ D.entry with n:=D.step.n,at_:=D.tick }:FG))=({ D.entry with n:=D.step.n,at_:=D.tick }:FG):=by unfold L6;rw[iN g]
    have P:JM D=((Gr ({ D with entry:=({ D.entry with n:=D.step.n,at_:=D.tick }:FG),is:=D.is }:FJ)).1,(Gr ({ D with entry:=({ D.entry with n:=D.step.n,at_:=D.tick }:FG),is:=D.is }:FJ)).2&&false):=by
     unfold JM;dsimp only;rw[V,O,j]
    simp only[go_sem,ho,t,C,I,R,o,i,U];refine GQ.intro (NM ({ D with entry:=({ D.entry with n:=D.step.n,at_:=D.tick }:FG),is:=D.is }:FJ) hst hk _ od o0 o1 o2 o3 (o _ _)) λv H' p=>?_;obtain⟨rfl,w,ext,rfl⟩:=p;rw[P];generalize Gr ({ D with entry:=({ D.entry with n:=D.step.n,at_:=D.tick }:FG),is:=D.is }:FJ)=r;obtain⟨D2,b⟩:=r;cases b<;>simp only[go_sem,j]
    ·exact⟨rfl,w,[some (D.step.cf none)]++ext,by rw[i,AF]⟩
    ·exact⟨rfl,w,[some (D.step.cf none)]++ext,by rw[i,AF]⟩
  ·have hc:=of_decide_eq_false hc;have V:KI D.step (Ll D.step D.entry D.is D.tick) D.tick={ D.entry with n:=D.entry.n+HW D.step D.entry D.tick,at_:=D.entry.at_+HW D.step D.entry D.tick*D.step.m }:=by rw[eT];unfold KI;rw[iN hc]
   rw[IC _ _ _ (by simp only[go_sem]) rfl rfl];simp only[go_sem,ho,t,C,I,R,o,i,U,f3,f4,f5];refine⟨M0 [(some (78,1,false),some (83,1,true))] kr ?_, ?_⟩
   ·intro q p;rw[Ag.1 p];exact⟨.inr rfl,.inl Fj⟩
   simp only[go_sem,ho,t,C,I,R,o,i,U,f3,f4,f5];refine cS ?_ ?_<;>intro j
   ·have g:0<(({ D.entry with n:=D.entry.n+HW D.step D.entry D.tick,at_:=D.entry.at_+HW D.step D.entry D.tick*D.step.m }:FG)).n:=of_decide_eq_true j;have J:IntKind.i64.wrap ((D.entry.n+HW D.step D.entry D.tick) - 1)=(D.entry.n+HW D.step D.entry D.tick) - 1:=Mg (by dsimp only at g;omega) Fj;have O:L6 (({ D.entry with n:=D.entry.n+HW D.step D.entry D.tick,at_:=D.entry.at_+HW D.step D.entry D.tick*D.step.m }:FG))={ ({ D.entry with n:=D.entry.n+HW D.step D.entry D.tick,at_:=D.entry.at_+HW D.step D.entry D.tick*D.step.m }:FG)with n:=(D.entry.n+HW D.step D.entry D.tick) - 1 }:=by unfold L6;rw[iP g]
    have P:JM D=((Gr ({ D with entry:={ ({ D.entry with n:=D.entry.n+HW D.step D.entry D.tick,at_:=D.entry.at_+HW D.step D.entry D.tick*D.step.m }:FG)with n:=(D.entry.n+HW D.step D.entry D.tick) - 1 },is:=D.is }:FJ)).1,(Gr ({ D with entry:={ ({ D.entry with n:=D.entry.n+HW D.step D.entry D.tick,at_:=D.entry.at_+HW D.step D.entry D.tick*D.step.m }:FG)with n:=(D.entry.n+HW D.step D.entry D.tick) - 1 },is:=D.is }:FJ)).2&&true):=by
     unfold JM;dsimp only;rw[V,O,j]
    simp only[go_sem,ho,t,C,I,R,o,i,U,J];refine GQ.intro (NM ({ D with entry:={ ({ D.entry with n:=D.entry.n+HW D.step D.entry D.tick,at_:=D.entry.at_+HW D.step D.entry D.tick*D.step.m }:FG)with n:=(D.entry.n+HW D.step D.entry D.tick) - 1 },is:=D.is }:FJ) hst hk _ od o0 o1 o2 o3 (o _ _)) λv H' p=>?_;obtain⟨rfl,w,ext,rfl⟩:=p;rw[P];generalize Gr ({ D with entry:={ ({ D.entry with n:=D.entry.n+HW D.step D.entry D.tick,at_:=D.entry.at_+HW D.step D.entry D.tick*D.step.m }:FG)with n:=(D.entry.n+HW D.step D.entry D.tick) - 1 },is:=D.is }:FJ)=r;obtain⟨D2,b⟩:=r;cases b<;>simp only[go_sem,j]
    ·exact⟨rfl,w,[some (D.step.cf none)]++ext,by rw[i,AF]⟩
    ·exact⟨rfl,w,[some (D.step.cf none)]++ext,by rw[i,AF]⟩
   ·have g:¬0<(({ D.entry with n:=D.entry.n+HW D.step D.entry D.tick,at_:=D.entry.at_+HW D.step D.entry D.tick*D.step.m }:FG)).n:=of_decide_eq_false j;have O:L6 (({ D.entry with n:=D.entry.n+HW D.step D.entry D.tick,at_:=D.entry.at_+HW D.step D.entry D.tick*D.step.m }:FG))=({ D.entry with n:=D.entry.n+HW D.step D.entry D.tick,at_:=D.entry.at_+HW D.step D.entry D.tick*D.step.m }:FG):=by unfold L6;rw[iN g]
    have P:JM D=((Gr ({ D with entry:=({ D.entry with n:=D.entry.n+HW D.step D.entry D.tick,at_:=D.entry.at_+HW D.step D.entry D.tick*D.step.m }:FG),is:=D.is }:FJ)).1,(Gr ({ D with entry:=({ D.entry with n:=D.entry.n+HW D.step D.entry D.tick,at_:=D.entry.at_+HW D.step D.entry D.tick*D.step.m }:FG),is:=D.is }:FJ)).2&&false):=by
     unfold JM;dsimp only;rw[V,O,j]
    simp only[go_sem,ho,t,C,I,R,o,i,U];refine GQ.intro (NM ({ D with entry:=({ D.entry with n:=D.entry.n+HW D.step D.entry D.tick,at_:=D.entry.at_+HW D.step D.entry D.tick*D.step.m }:FG),is:=D.is }:FJ) hst hk _ od o0 o1 o2 o3 (o _ _)) λv H' p=>?_;obtain⟨rfl,w,ext,rfl⟩:=p;rw[P];generalize Gr ({ D with entry:=({ D.entry with n:=D.entry.n+HW D.step D.entry D.tick,at_:=D.entry.at_+HW D.step D.entry D.tick*D.step.m }:FG),is:=D.is }:FJ)=r;obtain⟨D2,b⟩:=r;cases b<;>simp only[go_sem,j]
    ·exact⟨rfl,w,[some (D.step.cf none)]++ext,by rw[i,AF]⟩
    ·exact⟨rfl,w,[some (D.step.cf none)]++ext,by rw[i,AF]⟩
 | false =>
  obtain⟨f1,f2,f3,f4,f5,f6,f7,f8,f9⟩:=Tu (s:=D.step) (e:={ D.entry with n:=D.step.n,at_:=D.tick }) (tick:=D.tick) hm (by dsimp only;omega) ht (by dsimp only;omega);dsimp only at f1 f2 f3 f4 f5 f6 f7 f8 f9;have hcc:D.step.n<=D.step.n+HW D.step { D.entry with n:=D.step.n,at_:=D.tick } D.tick:=Int.le_add_of_nonneg_right f6;have V:KI D.step (Ll D.step D.entry D.is D.tick) D.tick={ D.entry with n:=D.step.n,at_:=D.tick }:=by unfold Ll;rw[iN (by rw[hi];decide)];unfold KI;rw[iP hcc]
  simp only[f126,go_sem,ho,t,C,I,hi,Ay,R,o,i,U,f1,f2,f3,m0,hcc,dT];refine cS ?_ ?_<;>intro j
  ·have g:0<(({ D.entry with n:=D.step.n,at_:=D.tick }:FG)).n:=of_decide_eq_true j;have J:IntKind.i64.wrap (D.step.n - 1)=D.step.n - 1:=Mg (by dsimp only at g;omega) Fj;have O:L6 (({ D.entry with n:=D.step.n,at_:=D.tick }:FG))={ ({ D.entry with n:=D.step.n,at_:=D.tick }:FG)with n:=D.step.n - 1 }:=by unfold L6;rw[iP g]
   have P:JM D=((Gr ({ D with entry:={ ({ D.entry with n:=D.step.n,at_:=D.tick }:FG)with n:=D.step.n - 1 },is:=false }:FJ)).1,(Gr ({ D with entry:={ ({ D.entry with n:=D.step.n,at_:=D.tick }:FG)with n:=D.step.n - 1 },is:=false }:FJ)).2&&true):=by
    unfold JM;dsimp only;rw[V,O,j,hi]
   simp only[go_sem,ho,t,C,I,R,o,i,U,J];refine GQ.intro (NM ({ D with entry:={ ({ D.entry with n:=D.step.n,at_:=D.tick }:FG)with n:=D.step.n - 1 },is:=false }:FJ) hst hk _ od o0 o1 o2 o3 (o _ _)) λv H' p=>?_;obtain⟨rfl,w,ext,rfl⟩:=p;rw[P];generalize Gr ({ D with entry:={ ({ D.entry with n:=D.step.n,at_:=D.tick }:FG)with n:=D.step.n - 1 },is:=false }:FJ)=r;obtain⟨D2,b⟩:=r;cases b<;>simp only[go_sem,j]
   ·exact⟨rfl,w,[some (D.step.cf none)]++ext,by rw[i,AF]⟩
   ·exact⟨rfl,w,[some (D.step.cf none)]++ext,by rw[i,AF]⟩
  ·have g:¬0<(({ D.entry with n:=D.step.n,at_:=D.tick }:FG)).n:=of_decide_eq_false j;have O:L6 (({ D.entry with n:=D.step.n,at_:=D.tick }:FG))=({ D.entry with n:=D.step.n,at_:=D.tick }:FG):=by unfold L6;rw[iN g]
   have P:JM D=((Gr ({ D with entry:=({ D.entry with n:=D.step.n,at_:=D.tick }:FG),is:=false }:FJ)).1,(Gr ({ D with entry:=({ D.entry with n:=D.step.n,at_:=D.tick }:FG),is:=false }:FJ)).2&&false):=by
    unfold JM;dsimp only;rw[V,O,j,hi]
   simp only[go_sem,ho,t,C,I,R,o,i,U];refine GQ.intro (NM ({ D with entry:=({ D.entry with n:=D.step.n,at_:=D.tick }:FG),is:=false }:FJ) hst hk _ od o0 o1 o2 o3 (o _ _)) λv H' p=>?_;obtain⟨rfl,w,ext,rfl⟩:=p;rw[P];generalize Gr ({ D with entry:=({ D.entry with n:=D.step.n,at_:=D.tick }:FG),is:=false }:FJ)=r;obtain⟨D2,b⟩:=r;cases b<;>simp only[go_sem,j]
   ·exact⟨rfl,w,[some (D.step.cf none)]++ext,by rw[i,AF]⟩
   ·exact⟨rfl,w,[some (D.step.cf none)]++ext,by rw[i,AF]⟩
end
end Go.AI
namespace Go.AI
open Go.Proofs
set_option maxRecDepth 50000
def HZ(l:List Fld)(g:List ByteArray)(h:FI):List Int:=g.map λi=>((It (Ft l i).1 h:Nat):Int)
theorem S4(l:List Fld)(g:List ByteArray)(h:FI):(HZ l g h).length=g.length:=by simp[HZ]
theorem ALS(l:List Fld)(C:Is l)(o:l.length<=9223372036854775807)(g:List ByteArray)(hn:g.length<=1073741824)(I:∀J∈g,(Ft l J).2=true)(h:FI)(O:Fr h=true):
  Fm AA 127 [.sl none (Gf l),.sl none (Ha g),.agg h.c] (.tup [.sl none (Gi (HZ l g h)),.bool true]):=by
 refine pB AXJ rfl ?_ (r:=by simp only[AV.pure,Fq,JJ,Bool.and_true]);simp only[f127,go_sem];have P:∀x (L:Fl) z,(x::(L++[z]))[List.length (x::L)]? =some z:=λx L z=>by
  have:x::(L++[z])=(x::L)++[z]:=F3;rw[this];exact BT
 have R:∀x (L:Fl) z p,(x::(L++[z])).set (List.length (x::L)) p=x::(L++[p]):=λx L z p=>by
  have:x::(L++[z])=(x::L)++[z]:=F3;rw[this];simp
 refine F6 g (λ(_:Fl) (_:List ByteArray)=>()) (λ_ _=>True) (λk _=>[(0,.sl none (Gf l)),(5,.ptr 0 0),(8,.sl (some 1) (Gi (HZ l (g.take k) h))),(13,.sl none (Ha g)),(14,.int .i64 g.length),(15,.int .i64 k)])
  (λ_ L=>some h.c::L) [] Fj trivial rfl rfl ?_ ?_
 ·intro k L x xs T hx _ _ U V hw;have hk2:=GI T;have i:=I x (AB hx);have hg:=Im C i;have t:=Ru l o x;rw[i]at t;have c2:=oZ (Ft l x).1 hg h O;have j:(Gi (HZ l (g.take k) h)).length=k:=by rw[Ho,S4,BB];omega
  have r:HZ l (g.take (k+1)) h=HZ l (g.take k) h++[((It (Ft l x).1 h:Nat):Int)]:=by
   rw[BF,hx];simp[HZ]
  simp only[go_sem,U,V,GN hx];apply pK t;simp only[go_sem,P,R];apply pK c2;simp only[go_sem,j,hw];exact⟨Fj,Fj,_,by rw[r],rfl⟩
 ·intro L _ _;simp only[go_sem,AR,dF,BL]
def JV(l:List Fld)(s:Stp)(st:List FG)(h:FI)(g:Int):FJ :=
 ⟨l,s,st,h,g,(Hj st s.var (HZ l s.key h)).getD ⟨s.var,HZ l s.key h,0,0⟩,(Hj st s.var (HZ l s.key h)).isSome⟩
def TE(D:FJ):FJ×Bool :=
 if D.step.kind=1 then SL D else if D.step.kind=2 then jH D else if D.step.kind=3 then Ud D else if D.step.kind=4 then JW D else if D.step.kind=5 then Rb D else JM D
def PE(l:List Fld)(s:Stp)(st:List FG)(h:FI)(g:Int):FI×Bool×List FG :=
 if s.kind=0 then(h,true,st)else
  let r:=TE (JV l s st h g)
  (if r.2=true then r.1.head else h,r.2,r.1.st)
structure okStp (l:List Fld) (s:Stp):Prop where
 kind:0<=s.kind/\s.kind<=6
 klen:s.key.length<=1048576
 key:s.kind≠0 -> ∀nm∈s.key,(Ft l nm).2=true
 n:s.kind=4\/s.kind=6->0<=s.n/\s.n<=65535
 m4:s.kind=4->s.m<=65535
 m:s.kind=6->1<=s.m/\s.m<=1073741824
 back:s.kind=5->(Ft l s.field).2=true
def am(e:FG):Prop:=(0<=e.n/\e.n<=65535)/\(0<=e.at_/\e.at_<=1073741824)/\e.key.length<=1048576 /\ ∀x∈e.key,0<=x
def XB(s:Stp)(e:FG):Prop:=s.kind≠0->e.var=s.var->e.key.length=s.key.length
def WL:List AV:=[.nilf,.fn (.func 121) [] [],.fn (.func 122) [] [],.fn (.func 123) [] [],.fn (.func 124) [] [],.fn (.func 125) [] [],.fn (.func 126) [] []]
structure okDo (D:FJ):Prop where
 fs:Is D.fields
 fl:D.fields.length<=1073741824
 sl:D.st.length<=1073741823
 st:∀e∈D.st,am e
 key:∀e∈D.st,XB D.step e
 step:okStp D.fields D.step
 head:Fr D.head=true
 tick:0<=D.tick/\D.tick<=1073741824
 n:0<=D.entry.n/\D.entry.n<=65535
 at_:0<=D.entry.at_/\D.entry.at_<=1073741824
theorem Ac9(D:FJ)(i:okDo D)(T:D.step.kind≠0)(H:Fl)(o:Nat)(p r C t:Option Nat)(O:H[o]? =some (some (D.cf p r C t)))(g:FuncId)(R:WL[D.step.kind.toNat]? =some (.fn (.func g) [] [])):Fw AA g [.ptr o 0] H (iH o p r t H (TE D)):=by
 have j:∀y∈D.st,y.key.length<=1073741824:=λy I=>by have:=(i.st y I).2.2.1;omega
 have J:D.fields.length<=9223372036854775807:=by have:=i.fl;omega
 have P:=i.step;unfold TE;have U:D.step.kind=1\/D.step.kind=2\/D.step.kind=3\/D.step.kind=4\/D.step.kind=5\/D.step.kind=6:=by have:=P.kind;omega
 rcases U with e|e|e|e|e|e<;>rw[e]at R ⊢ <;> simp only[WL,List.getElem?_cons_succ,A7,Option.some.injEq,AV.fn.injEq,Fn.func.injEq,and_true,show(1:Int).toNat=1 from rfl,show(2:Int).toNat=2 from rfl,show(3:Int).toNat=3 from rfl,show(4:Int).toNat=4 from rfl,show(5:Int).toNat=5 from rfl,show(6:Int).toNat=6 from rfl]at R<;>subst R
 ·rw[iP rfl];exact ADD D i.fs J i.sl j i.head i.n H o p r C t O
 ·rw[iN dc,iP rfl];exact AHb D i.sl j H o p r C t O
 ·rw[iN dc,iN dc,iP rfl];exact ADG D i.sl j H o p r C t O
 ·rw[iN dc,iN dc,iN dc,iP rfl];exact cI D i.fs J i.sl j i.head i.n H o p r C t O (by have:=P.n (.inl e);omega) λy I=>(i.st y I).1.2
 ·rw[iN dc,iN dc,iN dc,iN dc,iP rfl];exact AHh D i.fs J i.sl i.head H o p r C t O (P.back e) (λy I V=>by have:=i.key y I T V;omega) (λy I=>(i.st y I).2.2.2) P.klen
 ·rw[iN dc,iN dc,iN dc,iN dc,iN dc];exact AC3 D i.sl j i.n H o p r C t O (P.m e) (by have:=P.n (.inr e);omega) i.tick i.at_
theorem Md{l:List FG}{v:ByteArray}{g:List Int}{y:FG}(h:Hj l v g=some y):y∈l:=by
 unfold Hj at h;split at h
 ·exact AB h
 ·cases h
theorem AE_{l:List Fld}(r:Is l)(i:l.length<=1073741824){s:Stp}(t:okStp l s){st:List FG}(j:st.length<=1073741823)(o:∀e∈st,am e)(C:∀e∈st,XB s e){h:FI}(I:Fr h=true){g:Int}(J:0<=g/\g<=1073741824):okDo (JV l s st h g):=by
 refine⟨r,i,j,o,C,t,I,J, ?_, ?_⟩<;>unfold JV<;>dsimp only<;>cases p:Hj st s.var (HZ l s.key h)with
 |none=>simp
 |some y=>first|exact(o y (Md p)).1|exact(o y (Md p)).2.1
theorem Akz(l:List Fld)(hl:Is l)(P:l.length<=1073741824)(s:Stp)(C:okStp l s)(st:List FG)(R:st.length<=1073741823)(he:∀e∈st,am e)(hk:∀e∈st,XB s e)(h:FI)(hr:Fr h=true)(i:Int)(ht:0<=i/\i<=1073741824):
  Fm AA 65 [.sl none (Gf l),.agg s.c,.sl none (Fs st),.agg h.c,.int .i64 i] (.tup [.agg (PE l s st h i).1.c,.bool (PE l s st h i).2.1,.sl none (Fs (PE l s st h i).2.2)]):=by
 refine pB Ae4 rfl ?_;by_cases t:s.kind=0
 ·have T:PE l s st h i=(h,true,st):=by unfold PE;rw[iP t]
  rw[T];have p:(s.kind==0)=true:=by rw[t];rfl
  simp only[f65,go_sem,p]
 ·have p:(s.kind==0)=false:=by rw[beq_eq_false_iff_ne];exact t
  have c1:=ALS l hl Fj s.key (by have:=C.klen;omega) (C.key t) h hr;have c2:=AHf st Fj (λy hy=>by have:=(he y hy).2.2.1;omega) s.var (HZ l s.key h);have U:AV.nilf.isVal=true:=rfl;simp only[f65,go_sem,p,U];apply pK c1;simp only[go_sem];apply pK c2;have I:(0:Int)<=s.kind:=C.kind.1;have J:s.kind<((7:Nat):Int):=by have:=C.kind;omega
  have hD:=AE_ hl P C R he hk hr ht;obtain⟨g,O⟩:∃g,WL[s.kind.toNat]? =some (.fn (.func g) [] []):=by
   have V:s.kind=1\/s.kind=2\/s.kind=3\/s.kind=4\/s.kind=5\/s.kind=6:=Fj;rcases V with e|e|e|e|e|e<;>rw[e]<;>exact⟨_,rfl⟩
  have hM:=λH od o0 o1 o2 o3 ho=>Ac9 (JV l s st h i) hD t H od o0 o1 o2 o3 ho g O;unfold WL at O;have T:PE l s st h i=(if(TE (JV l s st h i)).2=true then(TE (JV l s st h i)).1.head else h,(TE (JV l s st h i)).2,(TE (JV l s st h i)).1.st):=by unfold PE;rw[iN t]
  rw[T];cases o:Hj st s.var (HZ l s.key h)with
  | none =>
   simp only[go_sem,o,I,J,O];refine GQ.intro (hM _ 4 none none none none (by unfold JV;rw[o];rfl)) λv H' j=>?_;obtain⟨rfl,w,ext,rfl⟩:=j;generalize TE (JV l s st h i)=r;obtain⟨D2,b⟩:=r;cases b
   ·simp only[go_sem];rw[IC _ _ _ (by simp only[go_sem]) rfl rfl];simp only[go_sem];refine⟨M0 [(some (74,1,false),some (10,10,true))] kr ?_, ?_⟩
    ·intro q j;rw[Ag.1 j];exact⟨.inr rfl,.inl dc⟩
    simp only[go_sem]
   ·simp only[go_sem];rw[IC _ _ _ (by simp only[go_sem]) rfl rfl];simp only[go_sem];refine⟨M0 [(some (82,1,false),some (10,10,true))] kr ?_, ?_⟩
    ·intro q j;rw[Ag.1 j];exact⟨.inr rfl,.inl dc⟩
    simp only[go_sem]
  | some y =>
   simp only[go_sem,o,I,J,O];refine GQ.intro (hM _ 4 none none none none (by unfold JV;rw[o];rfl)) λv H' j=>?_;obtain⟨rfl,w,ext,rfl⟩:=j;generalize TE (JV l s st h i)=r;obtain⟨D2,b⟩:=r;cases b
   ·simp only[go_sem];rw[IC _ _ _ (by simp only[go_sem]) rfl rfl];simp only[go_sem];refine⟨M0 [(some (74,1,false),some (10,10,true))] kr ?_, ?_⟩
    ·intro q j;rw[Ag.1 j];exact⟨.inr rfl,.inl dc⟩
    simp only[go_sem]
   ·simp only[go_sem];rw[IC _ _ _ (by simp only[go_sem]) rfl rfl];simp only[go_sem];refine⟨M0 [(some (82,1,false),some (10,10,true))] kr ?_, ?_⟩
    ·intro q j;rw[Ag.1 j];exact⟨.inr rfl,.inl dc⟩
    simp only[go_sem]
structure okPrg (l:List Fld) (p:List FL):Prop where
 stp:∀s∈p,okStp l s.step
 pol:∀s∈p,IW l s.policy
 key:∀s∈p,∀t∈p,s.step.kind≠0->t.step.kind≠0->s.step.var=t.step.var->s.step.key.length=t.step.key.length
def Nq(p:List FL)(st:List FG):Prop:=∀e∈st,am e /\ ∀t∈p,XB t.step e
theorem AEI{l:List FG}{i:Nat}{e x:FG}(h:x∈UT l i e):x=e\/x∈l:=by
 unfold UT at h;rcases Ar.1 h with h|h
 ·exact .inr (List.mem_of_mem_take h)
 ·rcases AY.1 h with h|h
  ·exact .inl h
  ·exact .inr (List.mem_of_mem_drop h)
theorem ACx{l:List FG}{e x:FG}(h:x∈Lp l e):x=e\/x∈l:=by
 unfold Lp at h;split at h
 ·exact(List.mem_or_eq_of_mem_set h).symm
 ·exact AEI h
theorem ACy(l:List FG)(e:FG):(Lp l e).length<=l.length+1:=by
 unfold Lp;split
 ·rw[Aj];omega
 ·rw[kG (rI l e)];omega
def ce(D:FJ)(r:FJ×Bool)(P:FG->Prop):Prop:=Fr r.1.head=true/\(r.1.st=D.st \/ ∃e,P e/\r.1.st=Lp D.st e)
theorem Ku{D:FJ}(g:Fr D.head=true){P:FG->Prop}(i:P D.entry):ce D (Gr D) P:=by
 unfold Gr;split
 ·exact⟨g,.inl rfl⟩
 ·exact⟨g,.inr ⟨_,i,rfl⟩⟩
theorem Rl{D:FJ}{r:FJ×Bool}{P:FG->Prop}(g:Is r.1.fields)(i:0<=r.1.entry.n)(h:ce D r P):ce D (ug r) P:=by
 unfold ug;split
 ·exact⟨Qd g h.1 _ i,h.2⟩
 ·exact h
theorem bd{l:List Fld}(i:Is l): ∀(q:List (ByteArray×Int)) {h:FI},Fr h=true->(∀x∈q,0<=x.2)->Fr (nb l h q)=true
 |[],_,g,_=>g
 |x::q,h,g,j=>bd i q (Qd i g _ (j x (Bh ..))) λy o=>j y (BX _ o)
theorem qg{D:FJ}(g:okDo D)(h0:D.step.kind≠0):ce D (TE D) λe=>e.var=D.entry.var/\e.key=D.entry.key/\(0<=e.n/\e.n<=65535)/\(0<=e.at_/\e.at_<=1073741824):=by
 have r:=g.step;have C:=g.n;have O:=g.at_;have p:=g.tick;have P:D.step.kind=1\/D.step.kind=2\/D.step.kind=3\/D.step.kind=4\/D.step.kind=5\/D.step.kind=6:=by have:=r.kind;omega
 unfold TE;rcases P with e|e|e|e|e|e<;>rw[e]
 ·rw[iP rfl];have k:=LL { D with entry:={ D.entry with n:=Pu (D.entry.n+1) 65535,at_:=D.tick } };have hm:0<=Pu (D.entry.n+1) 65535/\Pu (D.entry.n+1) 65535<=65535:=by unfold Pu;split<;>omega
  exact Rl (by rw[k.1];exact g.fs) (by rw[k.2.2.2];exact hm.1) (Ku (D:={ D with entry:={ D.entry with n:=Pu (D.entry.n+1) 65535,at_:=D.tick } }) g.head ⟨rfl,rfl,hm,p⟩)
 ·rw[iN dc,iP rfl];exact Ku (D:={ D with entry:={ D.entry with at_:=D.tick } }) g.head ⟨rfl,rfl,C,p⟩
 ·rw[iN dc,iN dc,iP rfl];exact⟨g.head,.inl rfl⟩
 ·rw[iN dc,iN dc,iN dc,iP rfl];have R:=r.n (.inl e);have T:=r.m4 e;have hU:=AEo (Kh D) D.step.n 65535 (λx hx=>by
   obtain⟨y,I,rfl⟩:=AN.1 hx;exact(g.st y (Ca.1 I).1).1.2) Fj
  unfold JW;split
  ·have k:=LL { D with entry:={ D.entry with at_:=D.tick } };exact Rl (by rw[k.1];exact g.fs) (by rw[k.2.2.2];exact C.1) (Ku (D:={ D with entry:={ D.entry with at_:=D.tick } }) g.head ⟨rfl,rfl,C,p⟩)
  ·split
   ·exact⟨g.head,.inl rfl⟩
   ·rename_i U;have k:=LL { D with entry:={ D.entry with n:=Hz (Kh D) D.step.n,at_:=D.tick } };exact Rl (by rw[k.1];exact g.fs) (by rw[k.2.2.2];dsimp only;omega) (Ku (D:={ D with entry:={ D.entry with n:=Hz (Kh D) D.step.n,at_:=D.tick } }) g.head ⟨rfl,rfl,by dsimp only;omega,p⟩)
 ·rw[iN dc,iN dc,iN dc,iN dc,iP rfl];unfold Rb;split
  ·exact⟨g.head,.inl rfl⟩
  ·rename_i y I;exact⟨bd g.fs _ g.head λx hx=>(g.st y (List.mem_of_find?_eq_some I)).2.2.2 x.2 (List.of_mem_zip hx).2,.inl rfl⟩
 ·rw[iN dc,iN dc,iN dc,iN dc,iN dc];have J:=r.m e;have t:=r.n (.inr e);unfold JM;dsimp only;have o:(0<=(Ll D.step D.entry D.is D.tick).n/\(Ll D.step D.entry D.is D.tick).n<=65535)/\(0<=(Ll D.step D.entry D.is D.tick).at_/\(Ll D.step D.entry D.is D.tick).at_<=1073741824)/\(Ll D.step D.entry D.is D.tick).var=D.entry.var/\(Ll D.step D.entry D.is D.tick).key=D.entry.key:=by
   unfold Ll;split
   ·exact⟨C,O,rfl,rfl⟩
   ·exact⟨t,p,rfl,rfl⟩
  generalize Ll D.step D.entry D.is D.tick=j at o ⊢;have i:(0<=(KI D.step j D.tick).n/\(KI D.step j D.tick).n<=65535)/\(0<=(KI D.step j D.tick).at_/\(KI D.step j D.tick).at_<=1073741824)/\(KI D.step j D.tick).var=D.entry.var/\(KI D.step j D.tick).key=D.entry.key:=by
   obtain⟨V,p2⟩:=bu (s:=D.step) (e:=j) (tick:=D.tick) J.1;have p3:j.at_+(if 0<D.tick - j.at_ then D.tick - j.at_ else 0)<=1073741824:=by split<;>omega
   have p4:0<=HW D.step j D.tick*D.step.m:=Int.mul_nonneg V Fj;unfold KI;split
   ·exact⟨t,p,o.2.2.1,o.2.2.2⟩
   ·exact⟨by dsimp only;omega,by dsimp only;omega,o.2.2.1,o.2.2.2⟩
  generalize KI D.step j D.tick=e2 at i ⊢;refine Ku (D:={ D with entry:=L6 e2 }) g.head ?_;dsimp only;unfold L6;split
  ·exact⟨i.2.2.1,i.2.2.2,by dsimp only;omega,i.2.1⟩
  ·exact⟨i.2.2.1,i.2.2.2,i.1,i.2.1⟩
theorem dY{l:List Fld}(hl:Is l)(J:l.length<=1073741824){p:List FL}(O:okPrg l p){s:FL}(C:s∈p){st:List FG}(P:st.length<=1073741823)(o:Nq p st){h:FI}(V:Fr h=true){g:Int}(r:0<=g/\g<=1073741824):
  Fr (PE l s.step st h g).1=true/\Nq p (PE l s.step st h g).2.2/\(PE l s.step st h g).2.2.length<=st.length+1:=by
 unfold PE;split
 ·exact⟨V,o,by dsimp only;omega⟩
 ·rename_i h0;have hD:=AE_ hl J (O.stp s C) P (λe hx=>(o e hx).1) (λe hx=>(o e hx).2 s C) V r;obtain⟨l1,j⟩:=qg hD h0;have i:(∀t∈p,XB t.step (JV l s.step st h g).entry)/\(JV l s.step st h g).entry.key.length<=1048576 /\ ∀x∈(JV l s.step st h g).entry.key,0<=x:=by
   unfold JV;dsimp only;cases hf:Hj st s.step.var (HZ l s.step.key h)with
   | none =>
    refine⟨λt r R I=>?_, ?_, ?_⟩
    ·rw[BR,S4];exact O.key s C t r h0 R I
    ·rw[BR,S4];exact(O.stp s C).klen
    ·rw[BR];intro x hx;obtain⟨nm,_,rfl⟩:=AN.1 hx;omega
   |some y =>
    have T:=o y (Md hf);exact⟨T.2,T.1.2.2.1,T.1.2.2.2⟩
  dsimp only;refine⟨by split<;>assumption, ?_, ?_⟩
  ·rcases j with j|⟨e,⟨v1,U,v3,v4⟩,j⟩
   ·rw[j];exact o
   ·rw[j];intro x hx;rcases ACx hx with rfl|hx
    ·exact⟨⟨v3,v4,by rw[U];exact i.2.1,by rw[U];exact i.2.2⟩,λt r R I=>by rw[U];rw[v1]at I;exact i.1 t r R I⟩
    ·exact o x hx
  ·rcases j with j|⟨e,_,j⟩
   ·rw[j];exact C5 _
   ·rw[j];exact ACy _ _
def ka(l:List Fld)(o:Int)(x:Policy)(i:List FI):List FI->Option (List FI)
 |[]=>some i
 |g::r=>match vO l o x g with
  |none=>none
  |some j=>if 256<(i++j).length then none else ka l o x (i++j) r
def gX(l:List Fld)(s:Stp)(i:Int)(a:List FI×List FG):List FI->List FI×List FG
 |[]=>a
 |g::r=>gX l s i (if(PE l s a.2 g i).2.1=true then a.1++[(PE l s a.2 g i).1]else a.1,(PE l s a.2 g i).2.2) r
def Ml(l:List Fld)(g:Int)(a:List FI×List FG):List FL->Option (List FI×List FG)
 |[]=>some a
 |s::r=>match ka l g s.policy [] a.1 with
  |none=>none
  |some i=>Ml l g (gX l s.step g ([],a.2) i) r
def Nl(l:List Fld)(p:List FL)(st:List FG)(h:FI)(g:Int):Option (List FI×List FG):=Ml l g ([h],st) p
def ACn(st:List FG):Option (List FI×List FG)->AV
 |some a => .tup [.sl none (F2 a.1),.sl none (Fs a.2),.int .i64 0]
 |none => .tup [.sl none [],.sl none (Fs st),.int .i64 2]
theorem vD(st:List FG)(o:Option (List FI×List FG)):(ACn st o).pure=true:=by
 cases o<;>simp[ACn,AV.pure,Fq,R6,Ij]
theorem AdB(l:List Fld)(hl:Is l)(hln:l.length<=1073741824)(p:List FL)(hp:okPrg l p)(st:List FG)(hlen:st.length+p.length*256<=1073741823)(hs:Nq p st)(h:FI)(hr:Fr h=true)(i:Int)(ht:0<=i/\i<=1073741824):
  Fm AA 33 [.sl none (Gf l),.sl none (GV p),.sl none (Fs st),.agg h.c,.int .i64 i] (ACn st (Nl l p st h i)):=by
 refine pB AgW rfl ?_ (r:=vD _ _);simp only[f33,go_sem];refine F6 p (λ(s:(List FI×List FG)×Fl) (r:List FL)=>Ml l i s.1 r) (λk s=>Nq p s.1.2/\(∀z∈s.1.1,Fr z=true)/\s.1.2.length<=st.length+k*256/\s.1.1.length<=256)
  (λk s=>[(0,.sl none (Gf l)),(2,.sl none (Fs st)),(4,.int .i64 i),(13,.sl (some 10) (F2 s.1.1)),(14,.sl none (Fs s.1.2)),(28,.sl none (GV p)),(29,.int .i64 p.length),(30,.int .i64 k)])
  (λ_ s=>s.2) (([h],st),[some h.c]) Fj ⟨hs,by simpa using hr,F3,F3⟩ ?_ rfl ?_ ?_
 ·rfl
 ·rintro k ⟨⟨pk,O⟩,Y⟩ S Ss hd hx ⟨i1,i2,i3,i4⟩ hF h0 h1 hw;dsimp only at i1 i2 i3 i4 hF ⊢;have P:=AB hx;have hkl:=(AD.1 hx).1;have gS:∀y L,(Y++y::L)[Y.length]? =some y:=λy L=>F3;have gS0:∀y,(Y++[y])[Y.length]? =some y:=λy=>F3;have sS0:∀y z,(Y++[y]).set Y.length z=Y++[z]:=λy z=>F3;have gN:∀y L z,(Y++y::(L++[z]))[List.length (Y++y::L)]? =some z:=λy L z=>by
   have:Y++y::(L++[z])=(Y++y::L)++[z]:=F3;rw[this];exact BT
  have sN:∀y L z z2,(Y++y::(L++[z])).set (List.length (Y++y::L)) z2=Y++y::(L++[z2]):=λy L z z2=>by
   have:Y++y::(L++[z])=(Y++y::L)++[z]:=F3;rw[this];simp
  have b2:((2:Int) !=0)=true:=rfl;have b0:((0:Int) !=0)=false:=rfl;simp only[go_sem,h0,h1,F9 hx,gS,gS0,sS0];refine F6 pk (λ(s:List FI×Fl) (r:List FI)=>ka l i S.policy s.1 r) (λ_ s=>(∀z∈s.1,Fr z=true)/\s.1.length<=256)
   (λj s=>[(0,.sl none (Gf l)),(2,.sl none (Fs st)),(4,.int .i64 i),(14,.sl none (Fs O)),(16,.ptr Y.length 0),(17,.sl (some 10) (F2 s.1)),(28,.sl none (GV p)),(29,.int .i64 p.length),(30,.int .i64 k),(34,.sl (some 10) (F2 pk)),(35,.int .i64 pk.length),(36,.int .i64 j)])
   (λ_ s=>Y++some S.c::s.2) ([],[]) Fj ⟨F3,F3⟩ ?_ rfl ?_ ?_
  ·rfl
  ·rintro j ⟨T,L⟩ g gs hd2 C ⟨j1,j2⟩ I g0 g1 gw;dsimp only at j1 j2 I ⊢;have U:=i2 g (AB C);have c1:=AHc l hl Fj S.policy (hp.pol S P) i g U;have J:=ka.eq_2 l i S.policy T g gs;simp only[go_sem,g0,g1,GG C,gS,gN,sN];cases ev:vO l i S.policy g with
   |none =>
    rw[ev]at c1 J;have V:Nl l p st h i=none:=by rw[Nl,hF,Ml,I,J]
    rw[V];apply pK c1;simp only[go_sem,b2];exact⟨Fj,Fj,rfl⟩
   | some x =>
    rw[ev]at c1 J;have hgx:=ML l hl i S.policy (hp.pol S P) g x U ev;have hgl:=hgx.2.1;apply pK c1;simp only[go_sem,b0];refine⟨Fj,Fj, ?_⟩;by_cases N6:256<(T++x).length
    ·have V:Nl l p st h i=none:=by rw[Nl,hF,Ml,I,J];simp only[iP N6]
     have t:(256:Int)<((T++x).length:Int):=Fj;rw[V];simp only[go_sem,t,dT];rfl
    ·have t:¬(256:Int)<((T++x).length:Int):=Fj;simp only[iN N6]at J;simp only[go_sem,t,dF,gw];refine⟨(T++x,L++[some g.c]),by rw[J],⟨λz hz=>?_,by rw[AE]at N6 ⊢;omega⟩, ?_, ?_⟩
     ·rcases Ar.1 hz with hz|hz
      ·exact j1 z hz
      ·exact hgx.2.2 z hz
     ·rfl
     ·rfl
  ·rintro ⟨T,L⟩ ⟨j1,j2⟩ I;dsimp only at j1 j2 I ⊢;have hgv:ka l i S.policy [] pk=some T:=I;have hF4:Ml l i ([h],st) p=Ml l i (gX l S.step i ([],O) T) Ss:=by rw[hF,Ml,hgv]
   simp only[go_sem,AR,dF];refine F6 T (λ(s:(List FI×List FG)×Fl) (r:List FI)=>gX l S.step i s.1 r) (λj s=>Nq p s.1.2/\(∀z∈s.1.1,Fr z=true)/\s.1.2.length<=O.length+j/\s.1.1.length<=j)
    (λj s=>[(0,.sl none (Gf l)),(2,.sl none (Fs st)),(4,.int .i64 i),(13,.sl (some 10) (F2 s.1.1)),(14,.sl none (Fs s.1.2)),(16,.ptr Y.length 0),(28,.sl none (GV p)),(29,.int .i64 p.length),(30,.int .i64 k),(61,.sl (some 10) (F2 T)),(62,.int .i64 T.length),(63,.int .i64 j)])
    (λ_ s=>Y++some S.c::s.2) (([],O),L) Fj ⟨i1,F3,F3,F3⟩ ?_ rfl ?_ ?_
   ·rfl
   ·rintro j ⟨⟨pk2,o⟩,L2⟩ g gs hd2 C ⟨q1,q2,q3,q4⟩ hF3 g0 g1 gw;dsimp only at q1 q2 q3 q4 hF3 ⊢;have U:=j1 g (AB C);have hjl:=(AD.1 C).1;have c1:=Akz l hl hln S.step (hp.stp S P) o Fj (λe he=>(q1 e he).1) (λe he=>(q1 e he).2 S P) g U i ht;obtain⟨d1,d2,d3⟩:=dY hl hln hp P (st:=o) Fj q1 U ht;have J:=gX.eq_2 l S.step i (pk2,o) g gs;dsimp only at J;generalize PE l S.step o g i=R at c1 d1 d2 d3 J;obtain⟨g',b,now'⟩:=R;dsimp only at c1 d1 d2 d3 J;simp only[go_sem,g0,g1,GG C,gS,gN,sN];apply pK c1;cases b with
    |true =>
     simp only[go_sem,gS,gN,sN,gw];refine⟨Fj,Fj,((pk2++[g'],now'),L2++[some g'.c]),by rw[J,iP rfl],⟨d2,λz hz=>?_,by dsimp only;omega,by rw[AE];exact C6 q4⟩,rfl,rfl⟩;rcases Ar.1 hz with hz|hz
     ·exact q2 z hz
     ·rcases Ag.1 hz with rfl;exact d1
    |false =>
     simp only[go_sem,gS,gN,sN,gw];exact⟨((pk2,now'),L2++[some g'.c]),by rw[J,iN dc],⟨d2,q2,by dsimp only;omega,by dsimp only;omega⟩,rfl,rfl⟩
   ·rintro ⟨⟨pk2,o⟩,L2⟩ ⟨q1,q2,q3,q4⟩ hF3;dsimp only at q1 q2 q3 q4 hF3 ⊢;simp only[go_sem,AR,dF,hw];exact⟨((pk2,o),_),by rw[<- hF,hF4,hF3];rfl,⟨q1,q2,by dsimp only;omega,by dsimp only;omega⟩,rfl,rfl⟩
 ·rintro ⟨⟨pk,O⟩,Y⟩ ⟨i1,i2,i3,i4⟩ hF;dsimp only at i1 i2 i3 i4 hF ⊢;simp only[go_sem,AR,dF];rw[Nl,hF];rfl
def Lr(l:List FM):List AV:=l.map λx => .agg x.c
@[go_sem] theorem AbS(l:List FM):(Lr l).length=l.length:=by simp[Lr]
theorem wR{l:List FM}{i:Nat}{x:FM}(h:l[i]? =some x):(Lr l)[i]? =some (.agg x.c):=by simp[Lr,h]
@[go_sem] theorem ALj(a:List FM)(x:FM):Lr a++[.agg x.c]=Lr (a++[x]):=by simp[Lr]
def Gp(l:List (List FG)):List AV:=l.map λx => .sl none (Fs x)
@[go_sem] theorem Ns(l:List (List FG)):(Gp l).length=l.length:=by simp[Gp]
theorem J9{l:List (List FG)}{i:Nat}{x:List FG}(h:l[i]? =some x):(Gp l)[i]? =some (.sl none (Fs x)):=by simp[Gp,h]
@[go_sem] theorem AJ1(l:List (List FG)):(∀x∈Gp l,x.cells.length=1)=True:=eq_true λx hx=>by
 obtain⟨y,_,rfl⟩:=AN.1 hx;rfl
@[go_sem] theorem wD(l:List (List FG)):Fq (Gp l)=true:=by
 induction l with
 |nil=>rfl
 |cons x i g=>simpa [Gp,Fq,AV.pure]using⟨Ij x,g⟩
theorem ADz(l:List (List FG)):(Hx (Gp l)).map borrow1=Gp l:=by
 induction l with
 |nil=>rfl
 |cons x l g =>
  have:Hx (Gp (x::l)) = .sl none (Fs x)::Hx (Gp l):=rfl;rw[this,AW,g];rfl
def kW:FH:={ h31 with mt:=[5,7],tk:=[] }
@[go_sem] theorem Akf(k:Nat):kW.lv k=h31.lv k/\kW.ct k=h31.ct k/\kW.at k=h31.at k/\kW.dn k=h31.dn k:=⟨AH rfl rfl,AH rfl rfl,AH rfl rfl,AH rfl rfl⟩
@[go_sem] theorem AlW:kW.tk=[]/\kW.mt=[5,7]/\kW.pc=[]:=⟨rfl,rfl,rfl⟩
theorem ALw:FK AA 31 f31 kW:=⟨kr,kr,func31,kr⟩
theorem ADS(l:List (List FG))(r:l.length<=1073741824)(H:Fl):Fw AA 31 [.sl none (Gp l)] H λv j=>(l=[]/\v = .sl (some 1) []/\j=H)\/(v = .msl (H.length+1) 0 l.length 1/\j=H++[none,some (Gp l)]):=by
 have t:(Gp l).length=l.length:=Ns l;have o:∀(x:Option (List AV)),(H++[x])[H.length]? =some x:=λx=>F3;have p:∀(x y:Option (List AV)),(H++[x]).set H.length y=H++[y]:=λx y=>F3;refine aC ALw rfl ?_;cases l with
 |nil =>
  have C:Gp []=[]:=rfl;rw[C];simp only[f31,go_sem,o,p];simp
 |cons x l =>
  have i:Gp (x::l) = .sl none (Fs x)::Gp l:=rfl;have g:=ADz (x::l);rw[i]at g t ⊢;simp only[AC]at r;simp only[f31,go_sem,o,p];exact⟨Fj,Fj,.inr ⟨F3,by rw[g]⟩⟩
theorem AC7(q:List FM)(J:q.length<=1048576)(x:FM)(w:Option Nat)(H:Fl)(o:Nat)(i:H[o]? =some (some [.sl (some 12) (Lr q)])):
  Fw AA 29 [.agg (x.cf w),.ptr o 0] H λv j=>v = .tup [] /\ ∃ext,j=H.set o (some [.sl (some 12) (Lr (q++[x]))])++ext:=by
 have g:=(AD.1 i).1;have p:=Fp i;have r:∀y L,(H++y::L)[H.length]? =some y:=λy L=>F3;have t:∀(L:Fl) y,(H++L).set o y=H.set o y++L:=λL y=>KC g L;have gS:∀x L,(H.set o x++L)[o]? =some x:=λx L=>Wl g x L;have C:∀x y L,(H.set o x++y::L)[H.length]? =some y:=λx y L=>by
  rw[AO F3];simp
 have I:∀x L y,(H.set o x++L).set o y=H.set o y++L:=λx L y=>by rw[KC (by rw[Aj];exact g),BD]
 refine aC Agm rfl ?_;cases w<;>simp only[f29,go_sem,i,p,r,t,gS,I,C]
 ·exact⟨Fj,Fj⟩
 ·exact⟨Fj,Fj⟩
theorem tc{l:List Fld}(J:Is l){i:Int}{x:Policy}(hx:IW l x): ∀(p:List FI) {o r:List FI},(∀z∈p,Fr z=true)->(∀z∈o,Fr z=true)->o.length<=256->ka l i x o p=some r->(∀z∈r,Fr z=true)/\r.length<=256
 |[],o,r,_,t,O,e=>by
  rw[ka]at e;cases e;exact⟨t,O⟩
 | g::p,o,r,P,t,O,e=>by
  rw[ka]at e;have C:=P g (Bh ..);cases I:vO l i x g with
  |none=>rw[I]at e;cases e
  | some y =>
   rw[I]at e;have R:=ML l J i x hx g y C I;by_cases N6:256<(o++y).length
   ·simp only[iP N6]at e;cases e
   ·simp only[iN N6]at e;refine tc J hx p (λz j=>P z (BX _ j)) (λz j=>?_) Fj e;rcases Ar.1 j with j|j
    ·exact t z j
    ·exact R.2.2 z j
theorem tx{l:List Fld}(hl:Is l)(C:l.length<=1073741824){p:List FL}(hp:okPrg l p){s:FL}(hs:s∈p){i:Int}(ht:0<=i/\i<=1073741824): ∀(j:List FI) {pk:List FI} {st:List FG},(∀z∈j,Fr z=true)->(∀z∈pk,Fr z=true)->Nq p st->st.length+j.length<=1073741823 ->
  (∀z∈(gX l s.step i (pk,st) j).1,Fr z=true)/\Nq p (gX l s.step i (pk,st) j).2/\(gX l s.step i (pk,st) j).1.length<=pk.length+j.length/\(gX l s.step i (pk,st) j).2.length<=st.length+j.length
 |[],pk,st,_,o,r,_=>⟨o,r,AS _,AS _⟩
 | g::j,pk,st,hg,o,r,I=>by
  rw[AC]at I;have P:=hg g (Bh ..);obtain⟨d1,d2,d3⟩:=dY hl C hp hs (st:=st) Fj r P ht;rw[gX];dsimp only;generalize PE l s.step st g i=R at d1 d2 d3;obtain⟨g',b,J⟩:=R;dsimp only at d1 d2 d3 ⊢;have ih:=λT O=>tx hl C hp hs ht j (pk:=T) (st:=J) (λz t=>hg z (BX _ t)) O d2 Fj;rw[AC];cases b with
  | true =>
   rw[iP rfl];obtain⟨U,V,i3,i4⟩:=ih (pk++[g']) (λz t=>by
    rcases Ar.1 t with t|t
    ·exact o z t
    ·rcases Ag.1 t with rfl;exact d1)
   rw[AE,BQ]at i3;exact⟨U,V,Fj,Fj⟩
  |false =>
   rw[iN dc];obtain⟨U,V,i3,i4⟩:=ih pk o;exact⟨U,V,Fj,Fj⟩
theorem iM{l:List Fld}(j:Is l)(i:l.length<=1073741824){p:List FL}(o:okPrg l p){g:Int}(I:0<=g/\g<=1073741824): ∀(r:List FL) {a b:List FI×List FG},(∀s∈r,s∈p)->(∀z∈a.1,Fr z=true)->a.1.length<=256->Nq p a.2->a.2.length+r.length*256<=1073741823->Ml l g a r=some b ->
  (∀z∈b.1,Fr z=true)/\b.1.length<=256/\Nq p b.2/\b.2.length<=a.2.length+r.length*256
 |[],a,b,_,t,J,h3,_,e=>by
  rw[Ml]at e;cases e;exact⟨t,J,h3,Fj⟩
 | s::r,a,b,O,t,J,h3,h4,e=>by
  rw[AC]at h4;rw[Ml]at e;have P:=O s (Bh ..);cases C:ka l g s.policy [] a.1 with
  |none=>rw[C]at e;cases e
  |some R =>
   rw[C]at e;dsimp only at e;obtain⟨T,V⟩:=tc j (o.pol s P) a.1 t F3 F3  C;obtain⟨d1,d2,d3,d4⟩:=tx j i o P I R (pk:=[]) (st:=a.2) T F3 h3 Fj;rw[AG]at d3;obtain⟨r1,r2,r3,r4⟩:=iM j i o I r (λz U=>O z (BX _ U)) d1 Fj d2 Fj e;rw[AC];exact⟨r1,r2,r3,Fj⟩
theorem Wp{l:List Fld}(r:Is l)(j:l.length<=1073741824){p:List FL}(t:okPrg l p){g:Int}(C:0<=g/\g<=1073741824){st:List FG}(o:Nq p st)(i:st.length+p.length*256<=1073741823){h:FI}(I:Fr h=true){b:List FI×List FG}(e:Nl l p st h g=some b):
  (∀z∈b.1,Fr z=true)/\b.1.length<=256/\Nq p b.2/\b.2.length<=st.length+p.length*256 :=
 iM r j t C p (a:=([h],st)) (λ_ h=>h) (by simpa using I) F3 o i e
def exT(t:FN)(p:FI):FI×Bool:=Lw (Hp t p.h0) p
def PR(t:FN)(h:FI):FI×Bool:=I' (Hn t (i64 (h.h0 - 10000))) h
def OW(s:FO)(t:FN)(p:FI)(g:Int):Int:=IS (Pd s t.name p g) s.contracts
def Vc(s:FO)(x:FM)(t:FN)(g:Int)(a:List FM×List FP)(p:FI):List FM×List FP :=
 if(exT t p).2=false then a
 else if OW s t p g<0 then(a.1,a.2++[⟨x.tenant,(exT t p).1,x.chain⟩])
 else match s.contracts[(OW s t p g).toNat]? with
  |none=>a
  |some d=>(a.1++[⟨Gu s d.dst,{ p with h0:=d.toPort },x.chain++[OW s t p g]⟩],a.2)
def Q8(s:FO)(x:FM)(t:FN)(g:Int)(a:List FM×List FP):List FI->List FM×List FP
 |[]=>a
 |p::r=>Q8 s x t g (Vc s x t g a p) r
def L_(h:FI):Nat->List FN->List FM
 |_,[]=>[]
 |k,t::r=>if(PR t h).2=true then⟨(k:Nat),(PR t h).1,[]⟩::L_ h (k+1) r else L_ h (k+1) r
def TM(s:FO)(g:Int):Nat->Nat->List FM->List (List FG)->List FP->Option (List FP×List (List FG))
 | 0,_,_,_,_=>none
 | f+1,n,q,j,i=>match q[n]? with
  |none=>some (i,j)
  | some x=>match s.tenants[x.tenant.toNat]?,j[x.tenant.toNat]? with
   |some t,some st=>match Nl s.fields (Gc t).1 st x.head g with
    |none=>none
    |some b=>if 256<(Q8 s x t g (q,i) b.1).1.length then none else TM s g f (n+1) (Q8 s x t g (q,i) b.1).1 (j.set x.tenant.toNat b.2) (Q8 s x t g (q,i) b.1).2
   |_,_=>none
def J0(s:FO)(i:List (List FG))(h:FI)(g:Int):Option (List FP×List (List FG)):=TM s g 600 0 (L_ h 0 s.tenants) i []
def iS(g:List (List FG)):Option (List FP×List (List FG))->AV
 |some a => .tup [.sl none (F5 a.1),.sl none (Gp a.2),.int .i64 0]
 |none => .tup [.sl none [],.sl none (Gp g),.int .i64 2]
theorem oL(g:List (List FG))(o:Option (List FP×List (List FG))):(iS g o).pure=true:=by
 cases o<;>simp[iS,AV.pure,Fq,Ks,wD]
structure okRun (s:FO) (sts:List (List FG)) (h:FI) (tick:Int):Prop where
 bulk:Fo s.c<=1048576
 fld:Is s.fields
 ten:s.tenants.length<=256
 tick:0<=tick/\tick<=1073741824
 len:sts.length=s.tenants.length
 prg:∀(k:Nat) (t:FN),s.tenants[k]? =some t->okPrg s.fields (Gc t).1/\(Gc t).1.length<=1000
 whole:∀t∈s.tenants,Fm AA 32 [.agg t.c] (.tup [.sl none (GV (Gc t).1),.int .i64 (Gc t).2])
 st:∀(k:Nat) (t:FN) (st:List FG),s.tenants[k]? =some t->sts[k]? =some st->Nq (Gc t).1 st/\st.length<=268435456
 pred:∀c∈s.contracts,Iq s.fields c.pred
 to:∀c∈s.contracts,0<=Gu s c.dst/\Gu s c.dst<(s.tenants.length:Int)
 port:∀c∈s.contracts,0<=c.toPort/\c.toPort<=65535
 prt:∀t∈s.tenants,t.ports.length<=1073741824
 ent:∀t∈s.tenants,(PR t h).2=true->Fr (PR t h).1=true
def NE:FH:={ h6 with pc:=[46,76,91,112,122,131,143,158],fz:=[(36,[(9,none,false)])] }
@[go_sem] theorem AlF(k:Nat):NE.lv k=h6.lv k:=AH rfl rfl
@[go_sem] theorem AlH(k:Nat):NE.ct k=h6.ct k:=AH rfl rfl
@[go_sem] theorem AlG(k:Nat):NE.dn k=h6.dn k:=AH rfl rfl
@[go_sem] theorem AlI:NE.at 0=[]/\NE.at 1=[]/\NE.at 2=[]/\NE.at 3=[]/\NE.at 4=[]/\NE.at 5=[]/\NE.at 6=[]/\NE.at 7=[]/\NE.at 8=[]/\NE.at 9=[]/\NE.at 10=[]/\NE.at 11=[]/\NE.at 12=[]/\NE.at 13=[]/\NE.at 14=[]/\NE.at 15=[]/\NE.at 16=[]/\NE.at 17=[]/\NE.at 18=[]/\NE.at 19=[]/\NE.at 20=[]/\NE.at 21=[]/\NE.at 22=[]/\NE.at 23=[]/\NE.at 24=[]/\NE.at 25=[]/\NE.at 26=[]/\NE.at 27=[]/\NE.at 28=[]/\NE.at 29=[]/\NE.at 30=[]/\NE.at 31=[]/\NE.at 32=[]/\NE.at 33=[]/\NE.at 34=[]/\NE.at 35=[]/\NE.at 36=[(9,none,false)]:=⟨rfl,rfl,rfl,rfl,rfl,rfl,rfl,rfl,rfl,rfl,rfl,rfl,rfl,rfl,rfl,rfl,rfl,rfl,rfl,rfl,rfl,rfl,rfl,rfl,rfl,rfl,rfl,rfl,rfl,rfl,rfl,rfl,rfl,rfl,rfl,rfl,rfl⟩
@[go_sem] theorem AmA:NE.tk=[82,97,101,103,125,168,169,170]/\NE.mt=[]/\NE.pc=[46,76,91,112,122,131,143,158]:=⟨rfl,rfl,rfl⟩
theorem AdR:FK AA 6 f6 NE:=⟨kr,kr,func6,kr⟩
theorem pX(l:List (List FG)):(Gp l).map borrow1=Gp l:=by
 induction l with
 |nil=>rfl
 |cons x l g =>
  have:Gp (x::l) = .sl none (Fs x)::Gp l:=rfl;rw[this,AW,g];rfl
theorem R0(l:List (List FG)):IX false 1 l.length (Gp l)=Gp l:=by
 have:=YB (Gp l)
 rwa [Ns]at this
structure okC6 (s:FO) (sts:List (List FG)) (h:FI) (tick:Int) (pn f n:Nat) (q:List FM) (now:List (List FG)) (out:List FP) (X:Fl):Prop where
 c0:X[0]? =some (some s.c)
 c2:X[2]? =some (some [.sl (some 12) (Lr q)])
 cn:X[pn]? =some (some (Gp now))
 fuel:n+f=600
 res:J0 s sts h tick=TM s tick f n q now out
 ql:q.length<=256/\n<=q.length/\out.length<=n*256
 itm:∀(i:Nat) (x:FM),q[i]? =some x->Fr x.head=true/\(0<=x.tenant/\x.tenant<(s.tenants.length:Int))/\x.chain.length<=i
 nl:now.length=s.tenants.length
 st:∀(k:Nat) (t:FN) (st:List FG),s.tenants[k]? =some t->now[k]? =some st->Nq (Gc t).1 st/\st.length<=268435456+n*256000
structure okP6 (s:FO) (x:FM) (t:FN) (n pn ox:Nat) (now:List (List FG)) (q:List FM) (out:List FP) (Z:Fl) (j:Nat):Prop where
 c0:Z[0]? =some (some s.c)
 c2:Z[2]? =some (some [.sl (some 12) (Lr q)])
 cn:Z[pn]? =some (some (Gp now))
 cx:Z[ox]? =some (some x.c)
 ct:Z[ox+1]? =some (some t.c)
 len:ox+2<=Z.length
 itm:∀(i:Nat) (y:FM),q[i]? =some y->Fr y.head=true/\(0<=y.tenant/\y.tenant<(s.tenants.length:Int))/\y.chain.length<=i
 ql:n<q.length/\q.length<=256+j
 ol:out.length<=n*256+j
theorem okP6.grow{s:FO}{x:FM}{t:FN}{n o p:Nat}{g:List (List FG)}{q:List FM}{i:List FP}{Z:Fl}{j:Nat}(h:okP6 s x t n o p g q i Z j)(L:Fl):okP6 s x t n o p g q i (Z++L) (j+1) :=
 ⟨Fp h.c0 _,Fp h.c2 _,Fp h.cn _,Fp h.cx _,Fp h.ct _,by rw[AE];have:=h.len;omega,h.itm,⟨h.ql.1,by have:=h.ql.2;omega⟩,by have:=h.ol;omega⟩
theorem okP6.out{s:FO}{x:FM}{t:FN}{n i o:Nat}{g:List (List FG)}{q:List FM}{out:List FP}{Z:Fl}{j:Nat}(h:okP6 s x t n i o g q out Z j)(L:Fl)(d:FP):okP6 s x t n i o g q (out++[d]) (Z++L) (j+1) :=
 ⟨Fp h.c0 _,Fp h.c2 _,Fp h.cn _,Fp h.cx _,Fp h.ct _,by rw[AE];have:=h.len;omega,h.itm,⟨h.ql.1,by have:=h.ql.2;omega⟩,by rw[AE,BQ];have:=h.ol;omega⟩
theorem okP6.put{s:FO}{x:FM}{t:FN}{n r o:Nat}{p:List (List FG)}{q:List FM}{out:List FP}{Z:Fl}{j:Nat}(h:okP6 s x t n r o p q out Z j)(L M:Fl)(d:FM)(T:2<r)(O:2<o)(I:Fr d.head=true/\(0<=d.tenant/\d.tenant<(s.tenants.length:Int))/\d.chain.length<=n+1):
  okP6 s x t n r o p (q++[d]) out ((Z++L).set 2 (some [.sl (some 12) (Lr (q++[d]))])++M) (j+1):=by
 have U:=(AD.1 h.c2).1;have C:∀(i:Nat) (v:Option (List AV)),i≠2->Z[i]? =some v->((Z++L).set 2 (some [.sl (some 12) (Lr (q++[d]))])++M)[i]? =some v:=λi v J P=>Fp (by rw[A2 (Ne.symm J)];exact Fp P _) _;refine⟨C 0 _ Fj h.c0,Fp (Aw (by rw[AE];omega)) _,C r _ Fj h.cn,C o _ Fj h.cx,C (o+1) _ Fj h.ct,by rw[AE,Aj,AE];have:=h.len;omega,λi y g=>?_,⟨by rw[AE];have:=h.ql.1;omega,by rw[AE,BQ];have:=h.ql.2;omega⟩,by have:=h.ol;omega⟩;rw[List.getElem?_append]at g;split at g
 ·exact h.itm i y g
 ·rename_i J;have R:=h.ql.1;have:i=q.length:=by
   by_cases V:i - q.length=0
   ·omega
   ·rw[A0 (by rw[BQ];omega)]at g;cases g
  subst this;rw[AP]at g;cases g;exact⟨I.1,I.2.1,by have:=I.2.2;omega⟩
theorem jk(l:List (List FG))(i:Nat)(e:List FG)(h:i<l.length):splice (Gp l) i [.sl none (Fs e)]=Gp (l.set i e):=by
 unfold splice;rw[DG,iP h];simp[Gp]
theorem ADH(s:FO)(C:List (List FG))(h:FI)(g:Int)(hr:Fr h=true)(R:okRun s C h g):Fm AA 6 [.agg s.c,.sl none (Gp C),.agg h.c,.int .i64 g] (iS C (J0 s C h g)):=by
 have hnt:=R.ten;refine pB AdR rfl ?_ (r:=oL _ _);simp only[f6,go_sem];refine F6 s.tenants (λ(_:List FM×Fl) (_:List FN)=>()) (λk a=>a.1++L_ h k (s.tenants.drop k)=L_ h 0 s.tenants/\a.1.length<=k /\ ∀x∈a.1,x.chain=[]/\Fr x.head=true/\0<=x.tenant/\x.tenant<(s.tenants.length:Int))
  (λk _=>[(1,.sl none (Gp C)),(3,.int .i64 g),(4,.ptr 0 0),(6,.ptr 1 0),(11,.ptr 2 0),(12,.fn (.func 29) [] [.ptr 2 0]),(36,.sl none (H6 s.tenants)),(37,.int .i64 s.tenants.length),(38,.int .i64 k)])
  (λ_ a=>some s.c::some h.c::some [.sl (some 12) (Lr a.1)]::a.2) ([],[]) Fj ⟨rfl,F3,F3⟩ rfl rfl ?_ ?_
 ·rintro k ⟨q,J⟩ t ts hd hx ⟨i1,i2,i3⟩ _ h0 h1 hw;dsimp only at i1 i2 i3 ⊢;have htm:=AB hx;have hkl:=(AD.1 hx).1;have c1:=AIx t (R.prt t htm) h;have ht:=R.ent t htm;rw[hd,L_]at i1;have hd2:s.tenants.drop (k+1)=ts:=by rw[<- A_,hd];rfl
  have eT:I' (Hn t (i64 (h.h0 - 10000))) h=PR t h:=rfl;rw[eT]at c1;have gN:∀a b c (L:Fl) z,(a::b::c::(L++[z]))[List.length (a::b::c::L)]? =some z:=λa b c L z=>by
   have:a::b::c::(L++[z])=(a::b::c::L)++[z]:=F3;rw[this];exact BT
  have sN:∀a b c (L:Fl) z z2,(a::b::c::(L++[z])).set (List.length (a::b::c::L)) z2=a::b::c::(L++[z2]):=λa b c L z z2=>by
   have:a::b::c::(L++[z])=(a::b::c::L)++[z]:=F3;rw[this];simp
  simp only[go_sem,h0,h1,F7 hx,gN,sN];apply pK c1;cases he:(PR t h).2 with
  |false =>
   rw[he,iN dc]at i1;simp only[go_sem,gN,sN,he,hw];exact⟨(q,_),⟨by rw[hd2];exact i1,by dsimp only;omega,i3⟩,rfl,rfl⟩
  | true =>
   rw[he,iP rfl]at i1;simp only[go_sem,gN,sN,he,hw];refine GQ.intro (AC7 q Fj ⟨(k:Nat),(PR t h).1,[]⟩ (some 1) _ 2 rfl) λv H' hq=>?_;obtain⟨rfl,ext,rfl⟩:=hq;simp only[go_sem,hw];refine⟨(q++[⟨(k:Nat),(PR t h).1,[]⟩],_),⟨by rw[hd2,AF];exact i1,by rw[AE];exact C6 i2,λx hx=>?_⟩,rfl,rfl⟩;rcases Ar.1 hx with hx|hx
   ·exact i3 x hx
   ·rcases Ag.1 hx with rfl;exact⟨rfl,ht he,by dsimp only;omega,by dsimp only;omega⟩
 ·rintro ⟨q,J⟩ ⟨i1,i2,i3⟩ _;dsimp only at i1 i2 i3 ⊢;have hq0:q=L_ h 0 s.tenants:=by rw[<- i1,List.drop_length,L_,Ai]
  simp only[go_sem,AR,dF];refine GQ.intro (ADS C (by have:=R.len;omega) _) λv H' hq=>?_;rcases hq with⟨hnil,rfl,rfl⟩|⟨rfl,rfl⟩
  ·have ht0:s.tenants=[]:=List.length_eq_zero_iff.1 (by rw[<- R.len,hnil];rfl);have hq1:q=[]:=by rw[hq0,ht0];rfl
   have O:J0 s C h g=some ([],[]):=by unfold J0;rw[ht0,hnil];rfl
   subst hq1;rw[O];simp only[go_sem];refine JB (σ:=Unit) (λ_=>[(1,.sl none (Gp C)),(3,.int .i64 g),(4,.ptr 0 0),(11,.ptr 2 0),(12,.fn (.func 29) [] [.ptr 2 0]),(17,.sl (some 1) []),(18,.sl (some 12) []),(19,.int .i64 0)])
    (λ_=>some s.c::some h.c::some [.sl (some 12) (Lr [])]::J) (λ_=>True) (λ_=>0) () trivial rfl rfl λ_ _=>?_
   have z0:¬((0:Int)<((0:Nat):Int)):=dc;simp only[go_sem,z0,dF,AG];rfl
  ·simp only[go_sem];generalize hpn:List.length (some s.c::some h.c::some [AV.sl (some 12) (Lr q)]::J)+1=pn;refine JB (σ:=Nat×Nat×List FM×List (List FG)×List FP×Fl) (λa=>[(1,.sl none (Gp C)),(3,.int .i64 g),(4,.ptr 0 0),(11,.ptr 2 0),(12,.fn (.func 29) [] [.ptr 2 0]),(17,.msl pn 0 C.length 1),(18,.sl (some 12) (F5 a.2.2.2.2.1)),(19,.int .i64 a.2.1)])
    (λa=>a.2.2.2.2.2) (λa=>okC6 s C h g pn a.1 a.2.1 a.2.2.1 a.2.2.2.1 a.2.2.2.2.1 a.2.2.2.2.2) (λa=>a.1) (600,0,q,C,[],_) ?_ rfl rfl ?_
   ·refine⟨rfl,rfl, ?_,rfl,by rw[hq0];rfl,⟨by dsimp only;omega,BS _,BS _⟩,λi x hx=>?_,R.len,λk t st h1 h2=>?_⟩
    ·subst hpn;simp
    ·obtain⟨y1,y2,y3,y4⟩:=i3 x (AB hx);exact⟨y2,⟨y3,y4⟩,by rw[y1];exact BS _⟩
    ·have:=R.st k t st h1 h2;exact⟨this.1,by have:=this.2;dsimp only;omega⟩
   rintro ⟨f,n,q,I,out,X⟩ hI;dsimp only at hI ⊢;clear i1 i2 i3 hq0;obtain⟨x1,x2,x3,x4,x5,x6,x7,x8,x9⟩:=hI;simp only[go_sem,x2];refine cS ?_ ?_<;>intro hc
   ·have hc:=of_decide_eq_true hc;have hnl:n<q.length:=Fj;obtain⟨x,hx⟩:∃x,q[n]? =some x:=⟨_,AL hnl⟩;obtain⟨hxr,⟨hx0,hx1⟩,hxc⟩:=x7 n x hx;obtain⟨m,hm⟩:∃m:Nat,x.tenant=(m:Int):=⟨x.tenant.toNat,Fj⟩;have hmT:m<s.tenants.length:=Fj;obtain⟨t,ht⟩:∃t,s.tenants[m]? =some t:=⟨_,AL hmT⟩;obtain⟨st,hst⟩:∃st,I[m]? =some st:=⟨_,AL Fj⟩;have htm:=AB ht;obtain⟨p1,p2⟩:=R.prg m t ht;obtain⟨s1,s2⟩:=x9 m t st ht hst;have c1:=R.whole t htm;have hlenb:st.length+(Gc t).1.length*256<=1073741823:=by have:=x6.1;have:=x6.2.1;omega
    have hfl:s.fields.length<=1073741824:=by have:=S0 (JI R.bulk);omega
    have c2:=AdB s.fields R.fld hfl (Gc t).1 p1 st hlenb s1 x.head hxr g R.tick;have l0:=(AD.1 x1).1;have l2:=(AD.1 x2).1;have ln:=(AD.1 x3).1;have gX0:=Fp x1;have gX2:=Fp x2;have gXn:=Fp x3;have gx:∀y L,(X++y::L)[X.length]? =some y:=λy L=>F3;have gx1:∀y z L,(X++y::z::L)[X.length+1]? =some z:=λy z L=>F3;have sx:∀y z,(X++[y]).set X.length z=X++[z]:=λy z=>F3;have sx1:∀y z w,(X++[y,z]).set (X.length+1) w=X++[y,w]:=λy z w=>F3;have hm0:(0:Int)<=(m:Int):=Fj;have hm1:(m:Int)<(s.tenants.length:Int):=Fj;have hm2:(m:Int)<(C.length:Int):=by rw[R.len];omega
    have T:(Item.c x)[0]? =some (.int .i64 x.tenant):=rfl;have h0n:(0:Int)<=(n:Int):=Fj;simp only[go_sem,h0n,hc,x1,x2,x3,gX0,gX2,gXn,gx,gx1,sx,sx1,wR hx,F7 ht,J9 hst,hm,hm0,hm1,hm2,AE,AC,AG,AX,Nat.reduceAdd];apply pK c1;simp only[go_sem,x1,x2,x3,gX0,gX2,gXn,gx,gx1,sx,sx1,T,F7 ht,J9 hst,hm,hm0,hm1,hm2,AE,AC,AG,AX,Nat.reduceAdd];obtain⟨f',rfl⟩:∃f',f=f'+1:=⟨f - 1,Fj⟩;have hto:x.tenant.toNat=m:=Fj;have b2:((2:Int) !=0)=true:=rfl;have b0:((0:Int) !=0)=false:=rfl;cases er:Nl s.fields (Gc t).1 st x.head g with
    |none =>
     rw[er,ACn]at c2;have O:J0 s C h g=none:=by rw[x5,TM,hx];dsimp only;rw[hto,ht,hst];dsimp only;rw[er]
     rw[O];apply pK c2;simp only[go_sem,b2];rfl
    | some b =>
     rw[er,ACn]at c2;obtain⟨r1,r2,r3,r4⟩:=Wp R.fld hfl p1 R.tick s1 hlenb hxr er;have e5:TM s g (f'+1) n q I out=if 256<(Q8 s x t g (q,out) b.1).1.length then none else TM s g f' (n+1) (Q8 s x t g (q,out) b.1).1 (I.set m b.2) (Q8 s x t g (q,out) b.1).2:=by rw[TM,hx];dsimp only;rw[hto,ht,hst];dsimp only;rw[er]
     rw[e5]at x5;have sXn:∀(L:Fl) y,(X++L).set pn y=X.set pn y++L:=λL y=>KC ln L;apply pK c2;have hml:m+1<=I.length:=Fj;have hsp:=jk I m b.2 Fj;simp only[go_sem,b0,sXn,hml,hsp,x1,x2,x3,gX0,gX2,gXn,gx,gx1,sx,sx1,T,F7 ht,J9 hst,hm,hm0,hm1,hm2,AE,AC,AG,AX,Nat.reduceAdd];have hX2:2≠pn:=by subst hpn;simp
     have hX0:0≠pn:=by subst hpn;simp
     have lsn:(X.set pn (some (Gp (I.set m b.2)))).length=X.length:=Aj ..;refine F6 b.1 (λ(a:List FM×List FP×Fl) (r:List FI)=>Q8 s x t g (a.1,a.2.1) r) (λj a=>okP6 s x t n pn X.length (I.set m b.2) a.1 a.2.1 a.2.2 j) (λj a=>[(1,.sl none (Gp C)),(3,.int .i64 g),(4,.ptr 0 0),(11,.ptr 2 0),(12,.fn (.func 29) [] [.ptr 2 0]),(17,.msl pn 0 C.length 1),(18,.sl (some 12) (F5 a.2.1)),(19,.int .i64 n),(20,.ptr X.length 0),(21,.ptr (X.length+1) 0),(103,.sl none (F2 b.1)),(104,.int .i64 b.1.length),(105,.int .i64 j)])
      (λ_ a=>a.2.2) (q,out,_) Fj ?_ ?_ rfl ?_ ?_
     ·have u0:(X.set pn (some (Gp (I.set m b.2))))[0]? =some (some s.c):=by rw[A2 (Ne.symm hX0)];exact x1
      have u2:(X.set pn (some (Gp (I.set m b.2))))[2]? =some (some [.sl (some 12) (Lr q)]):=by rw[A2 (Ne.symm hX2)];exact x2
      have un:(X.set pn (some (Gp (I.set m b.2))))[pn]? =some (some (Gp (I.set m b.2))):=Aw ln;refine⟨Fp u0 _,Fp u2 _,Fp un _, ?_, ?_, ?_,x7,⟨hnl,by dsimp only;omega⟩,by dsimp only;omega⟩
      ·dsimp only;rw[<- lsn];simp
      ·dsimp only;rw[<- lsn];simp
      ·dsimp only;rw[AE,lsn];exact AS _
     ·rfl
     ·rintro j ⟨q2,o,Z⟩ p ps hd2 hxp hI2 hF2 g0 g1 gw;dsimp only at hI2 hF2 ⊢;have hI3:=hI2;obtain⟨y0,y2,yn,yx,yt,yl,y7,y8,y9⟩:=hI2;have hrp:=r1 p (AB hxp);have hjl:=(AD.1 hxp).1;have d1:=AaO t p;have eX:Lw (Hp t p.h0) p=exT t p:=rfl;rw[eX]at d1;have d2:=tH s R.fld Fj (by have:=I8 (HM R.bulk);omega) m t ht p hrp g R.pred;have d3:=ADT x.chain Fj;have hxk:(Item.c x)[11]? =some (.sl none (Gi x.chain)):=rfl;have eK:IS (Pd s t.name p g) s.contracts=OW s t p g:=rfl;rw[eK]at d2;have l0':=(AD.1 y0).1;have l2':=(AD.1 y2).1;have gY0:=Fp y0;have gY2:=Fp y2;have gYx:=Fp yx;have gYt:=Fp yt;have gz:∀y L,(Z++y::L)[Z.length]? =some y:=λy L=>F3;have U:∀y z L,(Z++y::z::L)[Z.length+1]? =some z:=λy z L=>F3;have sz:∀y z,(Z++[y]).set Z.length z=Z++[z]:=λy z=>F3;have sz0:∀y a z,(Z++[y,a]).set Z.length z=Z++[z,a]:=λy a z=>F3;have V:∀y z w,(Z++[y,z]).set (Z.length+1) w=Z++[y,w]:=λy z w=>F3;have hpk:Q8 s x t g (q,out) b.1=Q8 s x t g (Vc s x t g (q2,o) p) ps:=hF2;simp only[go_sem,g0,g1,GG hxp,y0,y2,yx,yt,gY0,gY2,gYx,gYt,gz,U,sz,V,hm,AE,AC,AG,AX,Nat.reduceAdd];apply pK d1;cases he:(exT t p).2 with
      |false =>
       simp only[go_sem,he,gz,U,sz,V,gw,AE,AC,AG,AX,Nat.reduceAdd,Ay];have e6:Vc s x t g (q2,o) p=(q2,o):=by unfold Vc;rw[iP he]
       exact⟨(q2,o,_),by rw[Q8,e6],hI3.grow _,rfl,rfl⟩
      | true =>
       simp only[go_sem,he,gz,U,sz,V,y0,y2,yx,yt,gY0,gY2,gYx,gYt,T,hm,AE,AC,AG,AX,Nat.reduceAdd,Ax];apply pK d2;simp only[go_sem,he,gz,U,sz,V,y0,y2,yx,yt,gY0,gY2,gYx,gYt,T,hm,AE,AC,AG,AX,Nat.reduceAdd,Ax];refine cS ?_ ?_<;>intro P
       ·have P:=of_decide_eq_true P;have e6:Vc s x t g (q2,o) p=(q2,o++[⟨x.tenant,(exT t p).1,x.chain⟩]):=by unfold Vc;rw[iN (by rw[he];decide),iP P]
        simp only[go_sem,gz,U,sz,V,y0,y2,yx,yt,gY0,gY2,gYx,gYt,T,hxk,hm,AE,AC,AG,AX,Nat.reduceAdd];apply pK d3;simp only[go_sem,gz,U,sz,V,y0,y2,yx,yt,gY0,gY2,gYx,gYt,T,hxk,hm,gw,AE,AC,AG,AX,Nat.reduceAdd];exact⟨Fj,Fj,(q2,o++[⟨x.tenant,(exT t p).1,x.chain⟩],_),by rw[Q8,e6],hI3.out _ _,by rw[hm],rfl⟩
       ·have P:=of_decide_eq_false P;obtain⟨ci,d,hK,hd⟩:∃(ci:Nat) (d:FQ),OW s t p g=(ci:Int)/\s.contracts[ci]? =some d:=by
         rcases LM (Pd s t.name p g) s.contracts 0 with⟨w1,w2⟩|⟨i,y,w1,w2,w3⟩
         ·have:OW s t p g = -1:=w1;omega
         ·exact⟨i,y,by unfold OW IS;rw[w1,AX],w2⟩
        have hdm:=AB hd;obtain⟨t1,t2⟩:=R.to d hdm;obtain⟨t3,t4⟩:=R.port d hdm;have hcl:=(AD.1 hd).1;have hcn:s.contracts.length<=1048576:=I8 (HM R.bulk);have k0:(0:Int)<=(ci:Int):=Fj;have k1:(ci:Int)<(s.contracts.length:Int):=Fj;have hkt:(OW s t p g).toNat=ci:=Fj;have e6:Vc s x t g (q2,o) p=(q2++[⟨Gu s d.dst,{ p with h0:=d.toPort },x.chain++[(ci:Int)]⟩],o):=by unfold Vc;rw[iN (by rw[he];decide),iN P,hkt,hd,hK]
        have d4:=ADJ s d.dst Fj;have d5:bw (Gu s d.dst) = .tup [.int .i64 (Gu s d.dst),.bool true]:=by unfold bw Q_;rw[decide_eq_true t1];congr;split<;>omega
        rw[d5]at d4;simp only[go_sem,hK,k0,k1,GT hd,gz,U,sz,V,y0,y2,yx,yt,gY0,gY2,gYx,gYt,T,hxk,hm,AE,AC,AG,AX,Nat.reduceAdd];apply pK d4;simp only[go_sem,hK,k0,k1,GT hd,gz,U,sz,sz0,V,y0,y2,yx,yt,gY0,gY2,gYx,gYt,T,hxk,hm,AE,AC,AG,AX,Nat.reduceAdd];apply pK d3;simp only[go_sem,hK,k0,k1,GT hd,gz,U,sz,sz0,V,y0,y2,yx,yt,gY0,gY2,gYx,gYt,T,hxk,hm,AE,AC,AG,AX,Nat.reduceAdd];refine⟨Fj,Fj, ?_⟩;have hrp':Fr { p with h0:=d.toPort }=true:=Pj hrp t3 t4;refine GQ.intro (AC7 q2 Fj ⟨Gu s d.dst,{ p with h0:=d.toPort },x.chain++[(ci:Int)]⟩ (some 1) _ 2 (Fp y2 _)) λv H' hq=>?_;obtain⟨rfl,ext,rfl⟩:=hq;simp only[go_sem,gw];exact⟨(q2++[⟨Gu s d.dst,{ p with h0:=d.toPort },x.chain++[(ci:Int)]⟩],o,_),by rw[Q8,e6],hI3.put _ _ _ (by subst hpn;simp) Fj ⟨hrp',⟨t1,t2⟩,by rw[AE];exact C6 hxc⟩,rfl,rfl⟩
     ·rintro ⟨q2,o,Z⟩ hI2 hF2;dsimp only at hI2 hF2 ⊢;obtain⟨y0,y2,yn,yx,yt,yl,y7,y8,y9⟩:=hI2;have hpk:Q8 s x t g (q,out) b.1=(q2,o):=hF2;rw[hpk]at x5;simp only[go_sem,AR,dF,y2];refine cS ?_ ?_<;>intro P
      ·have P:=of_decide_eq_true P;have O:J0 s C h g=none:=by rw[x5];exact iP (by dsimp only;omega)
       rw[O];simp only[go_sem];rfl
      ·have P:=of_decide_eq_false P;have O:J0 s C h g=TM s g f' (n+1) q2 (I.set m b.2) o:=by rw[x5];exact iN (by dsimp only;omega)
       have hwn:IntKind.i64.wrap ((n:Int)+1)=((n+1:Nat):Int):=K_ Fj;simp only[go_sem,hwn];refine⟨(f',n+1,q2,I.set m b.2,o,Z),⟨y0,y2,yn,by dsimp only;omega,O,⟨by dsimp only;omega,y8.1,by dsimp only;omega⟩,y7,by rw[Aj];exact x8,λk t2 st2 h1 h2=>?_⟩,by dsimp only;omega,rfl,rfl⟩;dsimp only at h2 ⊢;rw[Az]at h2;split at h2
       ·rename_i hkm;subst hkm;rw[ht]at h1;cases h1;split at h2
        ·cases h2;exact⟨r3,Fj⟩
        ·cases h2
       ·have:=x9 k t2 st2 h1 h2;exact⟨this.1,Nat.le_trans this.2 (Nat.add_le_add_left (Nat.mul_le_mul_right _ (C5 n)) _)⟩
   ·have hc:=of_decide_eq_false hc;have hq2:q[n]? =none:=A0 Fj;have O:J0 s C h g=some (out,I):=by
     rw[x5];obtain⟨f',rfl⟩:∃f',f=f'+1:=⟨f - 1,Fj⟩;rw[TM,hq2]
    rw[O];simp only[go_sem,x3];have hlen2:I.length=C.length:=by rw[x8,R.len]
    rw[iP ⟨Fj,.inr trivial⟩,pX,<- hlen2,R0];simp only[go_sem];rfl
def ZA(s:FO):Nat->List Int->Nat->Prop
 |a,[],k=>a=k
 |a,x::r,k => ∃d,0<=x/\s.contracts[x.toNat]? =some d/\d.src=(IN s (a:Int)).name/\ZA s (Gu s d.dst).toNat r k
theorem aa{s:FO}{x:Int}{d:FQ}(i:0<=x)(j:s.contracts[x.toNat]? =some d): ∀{c:List Int} {a k:Nat},ZA s a c k->d.src=(IN s (k:Int)).name->ZA s a (c++[x]) (Gu s d.dst).toNat
 |[],a,k,h,g=>by
  have:a=k:=h;subst this;exact⟨d,i,j,g,rfl⟩
 |y::c,a,k,h,g=>by
  obtain⟨e,o,p,r,t⟩:=h;exact⟨e,o,p,r,aa i j t g⟩
theorem dV{s:FO}(g:R19 s){d:FQ}(i:d∈s.contracts):(Gu s d.dst).toNat<s.tenants.length:=by
 have j:=(OD (g.con d i)).2;obtain⟨v,_,_,_,o⟩:=Mk j;omega
theorem AFB:∀l:List Bool,PS l<=l.length:=by
 intro l;unfold PS;first|exact List.countP_le_length|exact CS _ _
theorem ALC{s:FO}(k:Nat):rnk s k<s.tenants.length+1:=by
 unfold rnk;have:=AFB (oO s k);rw[WF]at this;omega
def itP(s:FO)(a:Nat)(q:List FM):Prop:=∀x∈q,0<=x.tenant/\x.tenant<(s.tenants.length:Int)/\ZA s a x.chain x.tenant.toNat
def dlP(s:FO)(a:Nat)(out:List FP):Prop:=∀d∈out,∃(k:Nat) (t:FN) (p:FI),d.tenant=(k:Int)/\s.tenants[k]? =some t/\(exT t p).2=true/\d.head=(exT t p).1/\ZA s a d.chain k
theorem ACL{s:FO}{t:FN}{p:FI}{g:Int}(h:¬OW s t p g<0): ∃d,s.contracts[(OW s t p g).toNat]? =some d/\Pd s t.name p g d=true:=by
 rcases LM (Pd s t.name p g) s.contracts 0 with⟨j,_⟩|⟨i,y,j,o,r⟩
 ·exact absurd (show OW s t p g<0 by unfold OW IS;rw[j];decide) h
 ·refine⟨y, ?_,Dc r⟩;have:OW s t p g=((i:Nat):Int):=by unfold OW IS;rw[j,AX]
  rw[this];exact o
theorem ACM{s:FO}{i:ByteArray}{p:FI}{g:Int}{d:FQ}(h:Pd s i p g d=true):d.src=i:=by
 unfold Pd at h;simp only[AQ,decide_eq_true_eq]at h;first|exact h.1.1|exact h.1
theorem AHY{s:FO}(J:R19 s){a m:Nat}{x:FM}{t:FN}(O:s.tenants[m]? =some t)(hx:x.tenant=(m:Int))(P:ZA s a x.chain m){tick:Int}{b:List FM×List FP}(o:itP s a b.1)(r:dlP s a b.2)(p:FI):itP s a (Vc s x t tick b p).1/\dlP s a (Vc s x t tick b p).2:=by
 have C:IN s (m:Int)=t:=by unfold IN;rw[AZ,O];rfl
 unfold Vc;split
 ·exact⟨o,r⟩
 ·rename_i I;have I:(exT t p).2=true:=by simpa using I
  split
  ·refine⟨o,λd g=>?_⟩;rcases Ar.1 g with g|g
   ·exact r d g
   ·rcases Ag.1 g with rfl;exact⟨m,t,p,hx,O,I,rfl,P⟩
  ·rename_i R;obtain⟨d,g,T⟩:=ACL R;have i:=AB g;rw[g];refine⟨λy j=>?_,r⟩;rcases Ar.1 j with j|j
   ·exact o y j
   ·rcases Ag.1 j with rfl;have U:=(OD (J.con d i)).2;have V:=dV J i;exact⟨U,by dsimp only;omega,aa Fj g P (by rw[C];exact ACM T)⟩
theorem s_{s:FO}(j:R19 s){a m:Nat}{x:FM}{t:FN}(o:s.tenants[m]? =some t)(hx:x.tenant=(m:Int))(C:ZA s a x.chain m){tick:Int}: ∀(r:List FI) {b:List FM×List FP},itP s a b.1->dlP s a b.2->itP s a (Q8 s x t tick b r).1/\dlP s a (Q8 s x t tick b r).2
 |[],_,g,i=>⟨g,i⟩
 |p::r,b,g,i=>by
  rw[Q8];obtain⟨I,J⟩:=AHY j o hx C (tick:=tick) g i p;exact s_ j o hx C r I J
theorem uL{s:FO}(j:R19 s){a:Nat}{tick:Int}: ∀(f n:Nat) {q:List FM} {g:List (List FG)} {out:List FP} {r:List FP×List (List FG)},itP s a q->dlP s a out->TM s tick f n q g out=some r ->
  dlP s a r.1/\r.2.length=g.length /\ ∀k,(∀c,¬ZA s a c k)->r.2[k]? =g[k]?
 | 0,n,q,g,out,r,_,_,e=>by rw[TM]at e;cases e
 | f+1,n,q,g,out,r,o,p,e=>by
  rw[TM]at e;cases hx:q[n]? with
  |none =>
   rw[hx]at e;cases e;exact⟨p,rfl,λ_ _=>rfl⟩
  | some x =>
   rw[hx]at e;dsimp only at e;obtain⟨x0,x1,C⟩:=o x (AB hx);cases i:s.tenants[x.tenant.toNat]? with
   |none=>rw[i]at e;cases e
   | some t =>
    rw[i]at e;cases I:g[x.tenant.toNat]? with
    |none=>rw[I]at e;cases e
    | some st =>
     rw[I]at e;dsimp only at e;cases J:Nl s.fields (Gc t).1 st x.head tick with
     |none=>rw[J]at e;cases e
     | some b =>
      rw[J]at e;dsimp only at e;obtain⟨P,R⟩:=s_ j i (x:=x) Fj C (tick:=tick) b.1 (b:=(q,out)) o p;split at e
      ·cases e
      ·obtain⟨T,U,V⟩:=uL j f (n+1) P R e;refine⟨T,by rw[U,Aj],λk O=>?_⟩;rw[V k O,A2];intro he;subst he;exact O _ C
end Go.AI
