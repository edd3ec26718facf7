/- A part. -/
import Derived.Test.YtmejnbhofjcibaaGreatDoorMx
set_option linter.unusedSimpArgs false
set_option linter.unusedVariables false
set_option maxHeartbeats 4000000
open Go.Proofs.Tryz
open Go.AI renaming Entry->E7,Hint->E8,Head->E9,Doing->E_,Stage->FA,Item->FB,Delivery->FC,Tenant->FD,Setup->FE,Contract->FF
open Bool renaming and_eq_true->AM,not_false->Aw,not_true->As
open Eq renaming trans->AG
open Int renaming lt_irrefl->AQ,toNat_natCast->Ag
open List renaming append_assoc->AE,append_nil->Af,cons_append->AW,drop_drop->A9,drop_left'->Cr,drop_of_length_le->Dr,drop_zero->BC,ext_getElem?->A3,filter_append->CY,filter_eq_self->DP,find?_cons->Bz,find?_some->Du,getElem?_append_right->AN,getElem?_concat_length->Bg,getElem?_cons_zero->A7,getElem?_eq_getElem->AH,getElem?_eq_none->Av,getElem?_eq_some_iff->AC,getElem?_set->Ax,getElem?_set_ne->A6,getElem?_set_self->A1,getElem_mem->CV,length_append->AF,length_cons->AD,length_drop->Cb,length_map->Ap,length_nil->AJ,length_set->Ao,length_singleton->BL,length_take->BF,map_append->Aq,map_congr_left->Bq,map_cons->AS,map_flatten->DN,map_id->DO,mem_append->Ar,mem_cons->AY,mem_cons_of_mem->B0,mem_cons_self->CO,mem_filter->CK,mem_map->AO,mem_of_getElem?->AB,mem_singleton->Ab,nil_append->AR,set_append_left->BN,set_append_right->BV,set_eq_take_append_cons_drop->Cn,set_set->BB,take_add_one->BD,take_length->BI,take_of_length_le->Bu,take_succ_cons->B8,zip_cons_cons->B4
open Nat renaming le_refl->AT,le_succ->DS,min_def->Dt,sub_self->AP,sub_zero->Bm,succ_le_succ->Dv,two_pow_pos->BW,zero_add->AU,zero_le->BU,zero_mul->CJ
open Option renaming getD_none->BH
open Go.Proofs.Tryz renaming prog->AA
namespace Go.AI
section
variable{P:Program}
theorem Fa.cap{f:FuncId}{o off len sz:Nat}{vs:List AV}{H:cj}{R:AV->cj->Prop}(hcal:HS P f=true)(h:∀c,len<=c->c<=9223372036854775807->Fa P f (.mslc o off len sz c::vs) H R):Fa P f (.msl o off len sz::vs) H R :=
 ⟨hcal,λF G w us hc=>by
  match us,hc with
  |[],hc=>have:=hc.l.len;simp at this
  | u::us,hc =>
   obtain⟨hv,ht,hr⟩:=hc.l.uncons
   cases hv with
   |msl _ _ _ _ b cap hb hl hm hcc =>
    refine(h cap hl (by unfold maxLen at hm;omega)).2 F G w _ ⟨.cons (.mslc o off len sz cap b hb hl hm hcc) (Fj (FX rfl rfl _) _ _ _) hr,hc.h,λx=>?_⟩
    have:=hc.cnt x
    rw[Fc,FX rfl rfl]at this ⊢
    exact this⟩
theorem ky{f:FuncId}{vs:List AV}{H:cj}{R:AV->cj->Prop}(h:Fa P f vs H λv H'=>R v H' \/ ∃o off len sz c,v = .mslc o off len sz c/\R (.msl o off len sz) H'):Fa P f vs H R :=
 ⟨h.1,λF G w us hc=>Calls.mono (h.2 F G w us hc) λe w' he=>by
  obtain⟨u,rfl,v',H2,G',hr,hcr,hext⟩:=he
  rcases hr with hr|⟨o,off,len,sz,c,rfl,hr⟩
  ·exact⟨u,rfl,v',H2,G',hr,hcr,hext⟩
  ·have hv:=hcr.l.rel 0 _ _ rfl rfl
   cases hv with
   |mslc _ _ _ _ _ b hb hl hm hcc=>exact⟨_,rfl,_,H2,G',hr,hcr.swap1 (.msl o off len sz b c hb hl hm hcc) rfl,hext⟩⟩
def AH7(n:Nat)(es:List (List AV))(v:AV)(H H':cj):Prop :=
 (es=[]/\(∃w,v = .sl w []) /\ ∃ext,H'=H++ext) \/ ∃ob cs,v = .msl ob 0 es.length n/\H.length<=ob/\(∃ext,H'=H++ext)/\H'[ob]? =some (some cs)/\(∃r,cs=es.flatten++r)
theorem qA{f:FuncId}{vs:List AV}{H:cj}{es:List (List AV)}{n:Nat}(hn:∀e∈es,e.length=n)(hs:∀e∈es,Fo H.length e=true)(hb:∀e∈es,e.map borrow1=e)
  (h:Fa P f vs H λv' H'=>AH7 n es v' H H'):Fa P f vs H λv' H'=>v' = .sl none (es.map .agg)/\H'=H :=
 ⟨h.1,λF G w us hc=>Calls.mono (h.2 F G w us hc) λe w' he=>by
  obtain⟨u,rfl,v',H2,G',hr,hcr,hext⟩:=he
  rcases hr with⟨rfl,⟨w0,rfl⟩,ext,rfl⟩|⟨ob,cs,rfl,hob,⟨ext,rfl⟩,ho,r,rfl⟩
  ·have hv:VRel G' w' (.sl none []) u:=by
    have:=hcr.l.rel 0 _ _ rfl rfl
    cases this with
    |slnil=>exact .slnil _
    |slany=>exact .slany _ _
    |sl own es sz b q cap u' hsz hown hl hm h1 h2=>exact .sl none [] sz b q cap u' hsz (λn hn=>by cases hn) hl hm h1 h2
   obtain⟨G2,k1,k2⟩:=hc.cutExt (hcr.swap1 hv rfl) hext rfl
   exact⟨u,rfl,_,H,G2,⟨rfl,rfl⟩,k1,k2⟩
  ·have hv:=hcr.l.rel 0 _ _ rfl rfl
   have hlen:=Oe es n hn
   obtain⟨G2,ext2,k1,k2,k3⟩:=hcr.frzRow true ho hob hv (by rw[AF,hlen];omega) (.inl rfl)
   have e1:(es.flatten++r).map borrow1=es.flatten++r.map borrow1:=by
    rw[Aq,DN]
    congr 2
    exact Bq (f:=List.map borrow1) (g:=id) (λe he=>hb e he) |>.trans (DO _)
   rw[e1,Ko es _ n hn]at k3
   obtain⟨G3,k4,k5⟩:=hc.cutExt (k1.swap1 k3 rfl) (hext.trans k2) (Nh hs)
   exact⟨u,rfl,_,H,G3,⟨rfl,rfl⟩,k4,k5⟩⟩
def AXT(n:Nat)(es:List (List AV))(v:AV)(H H':cj):Prop:=AH7 n es v H H'\/((∃w,v = .sl w (es.map .agg)) /\ ∃ext,H'=H++ext)
theorem p_{f:FuncId}{vs:List AV}{H:cj}{es:List (List AV)}{n:Nat}(hn:∀e∈es,e.length=n)(hs:∀e∈es,Fo H.length e=true)(hb:∀e∈es,e.map borrow1=e)
  (h:Fa P f vs H λv' H'=>AXT n es v' H H'):Fa P f vs H λv' H'=>v' = .sl none (es.map .agg)/\H'=H :=
 ⟨h.1,λF G w us hc=>Calls.mono (h.2 F G w us hc) λe w' he=>by
  obtain⟨u,rfl,v',H2,G',hr,hcr,hext⟩:=he
  rcases hr with(⟨rfl,⟨w0,rfl⟩,ext,rfl⟩|⟨ob,cs,rfl,hob,⟨ext,rfl⟩,ho,r,rfl⟩)|⟨⟨w0,rfl⟩,ext,rfl⟩
  ·have hv:VRel G' w' (.sl none []) u:=by
    have:=hcr.l.rel 0 _ _ rfl rfl
    cases this with
    |slnil=>exact .slnil _
    |slany=>exact .slany _ _
    |sl own es sz b q cap u' hsz hown hl hm h1 h2=>exact .sl none [] sz b q cap u' hsz (λn hn=>by cases hn) hl hm h1 h2
   obtain⟨G2,k1,k2⟩:=hc.cutExt (hcr.swap1 hv rfl) hext rfl
   exact⟨u,rfl,_,H,G2,⟨rfl,rfl⟩,k1,k2⟩
  ·have hv:=hcr.l.rel 0 _ _ rfl rfl
   have hlen:=Oe es n hn
   obtain⟨G2,ext2,k1,k2,k3⟩:=hcr.frzRow true ho hob hv (by rw[AF,hlen];omega) (.inl rfl)
   have e1:(es.flatten++r).map borrow1=es.flatten++r.map borrow1:=by
    rw[Aq,DN]
    congr 2
    exact Bq (f:=List.map borrow1) (g:=id) (λe he=>hb e he) |>.trans (DO _)
   rw[e1,Ko es _ n hn]at k3
   obtain⟨G3,k4,k5⟩:=hc.cutExt (k1.swap1 k3 rfl) (hext.trans k2) (Nh hs)
   exact⟨u,rfl,_,H,G3,⟨rfl,rfl⟩,k4,k5⟩
  ·have hv:=(hcr.l.rel 0 _ _ rfl rfl).borrow1
   obtain⟨G2,k1,k2⟩:=hc.cutExt (hcr.swap1 hv rfl) hext (Nh hs)
   exact⟨u,rfl,_,H,G2,⟨rfl,rfl⟩,k1,k2⟩⟩
end
end Go.AI
namespace Go.AI
open Go.Proofs
set_option maxRecDepth 50000
def T'(a b:ByteArray):Int:=if TY a b=true then -1 else if a=b then 0 else 1
def MT:List Int->List Int->Int
 |[],[]=>0
 |[],_::_ => -1
 |_::_,[]=>1
 |x::a,y::b=>if Nz x y≠0 then Nz x y else MT a b
def P6(a b:E7):Int:=if T' a.var b.var≠0 then T' a.var b.var else MT a.key b.key
theorem AIG(a b:ByteArray):FT AA 67 [.str a,.str b] (.int .i64 (T' a b)):=by
 refine pC AZ7 rfl ?_
 simp only[f67,go_sem]
 repeat' (first|((first|apply pK (l7 a)|apply pK (l7 b));simp only[go_sem])|apply cg<;>intro hc<;>simp only[go_sem,hc,FV])
 all_goals first|(simp only[T',TY];simp_all;done)|skip
theorem AIF(a b:List Int)(ha:a.length<=1073741824):FT AA 68 [.sl none (GK a),.sl none (GK b)] (.int .i64 (MT a b)):=by
 have ea:(GK a).length=a.length:=HR a
 have eb:(GK b).length=b.length:=HR b
 refine pC AG9 rfl ?_
 simp only[f68,go_sem,ea]
 refine Fe a (λr=>MT r (b.drop (a.length - r.length))) (λk=>[(0,.sl none (GK a)),(1,.sl none (GK b)),(9,.sl none (GK a)),(10,.int .i64 a.length),(11,.int .i64 k)]) FR rfl ?_ ?_
 ·intro k x xs hd hx hF h0 h1 hw
  have hk:=Fq hd
  have e1:a.length - (xs.length+1)=k:=FR
  have e2:a.length - xs.length=k+1:=FR
  simp only[AD,e1,AP,BC]at hF ⊢
  by_cases hkb:k<b.length
  ·obtain⟨y,hy⟩:∃y,b[k]? =some y:=⟨_,AH hkb⟩
   have hnb:¬(b.length:Int)<=(k:Int):=FR
   rw[Ps hy,MT]at hF
   simp only[go_sem,h0,h1,Gl hx,Gl hy,eb,hnb,dF]
   repeat' (first|(apply pK (AAX x y);simp only[go_sem])|apply cg<;>intro hc<;>simp only[go_sem,hc,hw])
   ·have hne:Nz x y≠0:=by simpa using hc
    rw[iP hne]at hF
    rw[hF]
   ·have hne:¬Nz x y≠0:=by simpa using hc
    rw[e1,e2,Ps hy,MT,iN hne]
  ·have hnb:(b.length:Int)<=(k:Int):=FR
   rw[List.drop_eq_nil_of_le FR,MT]at hF
   simp only[go_sem,h0,h1,Gl hx,eb,hnb,dT]
   rw[hF]
 ·intro hF hlt
  rw[AP,BC]at hF
  simp only[go_sem,hlt,dF,ea,eb]
  cases hr:b.drop a.length with
  |nil =>
   have hlen:b.length<=a.length:=by simpa using hr
   have hnl:¬(a.length:Int)<(b.length:Int):=FR
   rw[AJ,Bm,hr,MT]at hF
   simp only[go_sem,hnl,dF]
   rw[hF]
  |cons y ys =>
   have hlen:a.length<b.length:=by have:=Fq hr;omega
   have hnl:(a.length:Int)<(b.length:Int):=FR
   rw[AJ,Bm,hr,MT]at hF
   simp only[go_sem,hnl,dT]
   rw[hF]
theorem Af7(l:List Int)(hl:l.length<=1073741824):FT AA 66 [.sl none (GK l)] (.int .i64 ((l.find? λz=>z !=0).getD 0)):=by
 have el:(GK l).length=l.length:=HR l
 refine pC AZ' rfl ?_
 simp only[f66,go_sem,el]
 refine Fe l (λr=>(r.find? λz=>z !=0).getD 0) (λk=>[(3,.int .i64 0),(6,.sl none (GK l)),(7,.int .i64 l.length),(8,.int .i64 k)]) FR rfl ?_ ?_
 ·intro k z zs hd hx hF h0 h1 hw
  simp only[go_sem,h0,h1,Gl hx]
  repeat' (first|apply cg<;>intro hc<;>simp only[go_sem,hc,hw])
  ·rw[hF,Bz,hc];rfl
  ·rw[Bz,hc]
 ·intro hF hlt
  simp only[go_sem,hlt,dF]
  rw[hF];rfl
theorem AXu(x y:Int):FT AA 66 [.sl none [.int .i64 x,.int .i64 y]] (.int .i64 (if x≠0 then x else y)):=by
 have h:=Af7 [x,y] sm
 have e:(([x,y].find? λz=>z !=0).getD 0)=if x≠0 then x else y:=by
  rw[Bz,Bz]
  by_cases hx:x=0
  ·subst hx
   by_cases hy:y=0
   ·subst hy;rfl
   ·have:(y !=0)=true:=by simp[hy]
    rw[this];rfl
  ·have:(x !=0)=true:=by simp[hx]
   rw[this,iP hx];rfl
 rw[e]at h
 exact h
theorem Z3(a b:E7)(ha:a.key.length<=1073741824):FT AA 36 [.agg a.c,.agg b.c] (.int .i64 (P6 a b)):=by
 refine pC AbV rfl ?_
 simp only[f36,go_sem]
 repeat' (first|((first|apply pK (AIG a.var b.var)|apply pK (AIF a.key b.key ha)|apply pK (FT.weak (AXu _ _)));simp only[go_sem])|apply cg<;>intro hc<;>simp only[go_sem,hc])
 all_goals first|rfl|skip
def jH(l:List E7)(x:E7):Nat->Nat->Nat->Nat
 | 0,i,_=>i
 | f+1,i,j=>if i<j then (match l[(i+j) / 2]? with
   |some y=>if P6 y x<0 then jH l x f ((i+j) / 2+1) j else jH l x f i ((i+j) / 2)
   |none=>i)else i
def Xp(l:List E7)(x:E7):Nat:=jH l x (l.length+1) 0 l.length
def bsT(l:List E7)(x:E7):Bool:=match l[Xp l x]? with
 |some y=>P6 y x==0
 |none=>false
theorem bI(l:List E7)(x:E7): ∀(f i j:Nat),i<=j->j<=l.length->jH l x f i j<=l.length
 | 0,i,j,h1,h2=>by rw[jH];omega
 | f+1,i,j,h1,h2=>by
  rw[jH]
  split
  ·rename_i hlt
   have hm:(i+j) / 2<l.length:=FR
   rw[AH hm]
   dsimp only
   split
   ·exact bI l x f _ _ FR h2
   ·exact bI l x f _ _ FR FR
  ·omega
theorem ACt(l:List E7)(x:E7):Xp l x<=l.length:=bI l x _ _ _ (BU _) (AT _)
theorem AXs(l:List E7)(hl:l.length<=4611686018427387903)(hk:∀y∈l,y.key.length<=1073741824)(x:E7):FT AA 220 [.sl none (Fd l),.agg x.c,.fn (.func 36) [] []] (.tup [.int .i64 (Xp l x),.bool (bsT l x)]):=by
 refine pB ANb rfl ?_
 simp only[f220,go_sem]
 refine Ku (σ:=Nat×Nat) (λs=>[(0,.sl none (Fd l)),(2,.fn (.func 36) [] []),(4,.ptr 0 0),(8,.int .i64 l.length),(9,.int .i64 s.1),(10,.int .i64 s.2)]) (λ_=>[some x.c]) (λs=>s.1<=s.2/\s.2<=l.length /\ ∃f,s.2 - s.1<f/\Xp l x=jH l x f s.1 s.2) (λs=>s.2 - s.1) (0,l.length) ⟨BU _,AT _,l.length+1,by dsimp only;omega,rfl⟩ rfl rfl ?_
 rintro ⟨i,j⟩ ⟨hij,hj,f,hf,hF⟩
 dsimp only at hij hj hf hF ⊢
 obtain⟨f,rfl⟩:∃f',f=f'+1:=⟨f - 1,FR⟩
 rw[jH]at hF
 by_cases hlt:i<j
 ·have g1:(i:Int)<(j:Int):=FR
  have g2:(0:Int)<=(((i+j) / 2:Nat):Int):=FR
  have g3:(((i+j) / 2:Nat):Int).toNat=(i+j) / 2:=FR
  have hm:(i+j) / 2<l.length:=FR
  have hw:=Mg (k:=(i+j) / 2) FR
  have hgm:=AH hm
  have a1:=GX hgm
  have c1:=Z3 l[(i+j) / 2] x (hk _ (CV hm))
  rw[iP hlt,hgm]at hF
  dsimp only at hF
  simp only[go_sem,g1,dT,AG5 hl hj hlt,g2,g3,a1]
  repeat' (first|(apply pK c1;simp only[go_sem])|apply cg<;>intro hc<;>simp only[go_sem,hc,hw])
  ·have hc:=of_decide_eq_true hc
   rw[iP hc]at hF
   exact⟨((i+j) / 2+1,j),⟨by dsimp only;omega,hj,f,by dsimp only;omega,hF⟩,by dsimp only;omega,rfl,rfl⟩
  ·have hc:=of_decide_eq_false hc
   rw[iN hc]at hF
   exact⟨(i,(i+j) / 2),⟨by dsimp only;omega,by dsimp only;omega,f,by dsimp only;omega,hF⟩,by dsimp only;omega,rfl,rfl⟩
 ·have hij:i=j:=FR
  subst hij
  rw[iN hlt]at hF
  have g1:¬(i:Int)<(i:Int):=FR
  unfold bsT
  rw[hF]
  by_cases hil:i<l.length
  ·have g3:(i:Int)<(l.length:Int):=FR
   have g4:(0:Int)<=(i:Int):=FR
   have hgi:=AH hil
   have a1:=GX hgi
   have c1:=Z3 l[i] x (hk _ (CV hil))
   rw[hgi]
   simp only[go_sem,g1,dF,g3,g4,dT,a1]
   repeat' (first|(apply pK c1;simp only[go_sem])|apply cg<;>intro hc<;>simp only[go_sem,hc,g1,g3,g4,a1,dT,Ag])
   all_goals first|rfl|skip
  ·have g3:¬(i:Int)<(l.length:Int):=FR
   rw[Av FR]
   simp only[go_sem,g1,dF,g3]
   repeat' (first|apply cg<;>intro hc<;>simp only[go_sem,hc,g1,g3])
   all_goals first|rfl|skip
theorem qY(l:List E7)(hl:l.length<=4611686018427387903)(hk:∀y∈l,y.key.length<=1073741824)(x:E7):FT AA 157 [.sl none (Fd l),.agg x.c,.fn (.func 36) [] []] (.tup [.int .i64 (Xp l x),.bool (bsT l x)]):=by
 refine pC AQ3 rfl ?_
 simp only[f157,go_sem]
 repeat' (first|(apply pK (AXs l hl hk x);simp only[go_sem])|apply cg<;>intro hc<;>simp only[go_sem,hc])
 all_goals first|rfl|skip
def QM(l:List E7)(v:ByteArray)(key:List Int):Option E7:=if bsT l ⟨v,key,0,0⟩=true then l[Xp l ⟨v,key,0,0⟩]? else none
theorem AEs(l:List E7)(hl:l.length<=4611686018427387903)(hk:∀y∈l,y.key.length<=1073741824)(v:ByteArray)(key:List Int):FT AA 87 [.sl none (Fd l),.str v,.sl none (GK key)] (.tup [.agg ((QM l v key).getD Entry.z).c,.bool (QM l v key).isSome]):=by
 have c1:=qY l hl hk ⟨v,key,0,0⟩
 refine pB AYz rfl ?_
 unfold QM
 cases hb:bsT l ⟨v,key,0,0⟩with
 |false =>
  rw[hb]at c1
  simp only[f87,go_sem]
  apply pK c1
  simp only[go_sem]
  first|rfl|skip
 | true =>
  rw[hb]at c1
  obtain⟨y,hy⟩:∃y,l[Xp l ⟨v,key,0,0⟩]? =some y:=by
   unfold bsT at hb
   split at hb
   ·exact⟨_,by assumption⟩
   ·cases hb
  have hy2:=GX hy
  have h0:(0:Int)<=((Xp l ⟨v,key,0,0⟩:Nat):Int):=FR
  rw[iP rfl,hy]
  simp only[f87,go_sem]
  apply pK c1
  simp only[go_sem,h0,Ag,hy2]
  first|rfl|skip
def Fm(l:List E7):List AV:=(l.map Entry.c).flatten
theorem H_(x:E7)(l:List E7):Fm (x::l)=x.c++Fm l:=rfl
theorem IB:∀l:List E7,(Fm l).length=l.length*4
 |[]=>rfl
 |x::l=>by
  rw[H_,AF,IB l,AD]
  have:x.c.length=4:=rfl
  omega
theorem S8:∀(l:List E7) (r:List AV) (k:Nat) (y:E7),l[k]? =some y->((Fm l++r).drop (k*4)).take 4=y.c
 |[],_,_,_,h=>by simp at h
 |x::l,r,0,y,h=>by
  simp only[A7,Option.some.injEq]at h
  subst h
  rfl
 | x::l,r,k+1,y,h=>by
  rw[H_,AE]
  have e:(k+1)*4=x.c.length+k*4:=by
   have:x.c.length=4:=rfl
   omega
  rw[e,<- A9,List.drop_left]
  exact S8 l r k y (by simpa using h)
theorem ZO{l:List E7}(r:List AV){k:Nat}{y:E7}(h:l[k]? =some y):k*4+4<=(Fm l++r).length:=by
 have:=(AC.1 h).1
 rw[AF,IB]
 omega
def ge(d:E7->Bool):Nat->List E7->Int
 |_,[] => -1
 |k,x::r=>if d x=true then(k:Int)else ge d (k+1) r
theorem AAh(l:List E7)(hl:l.length<=9223372036854775807)(r:List AV)(H:cj)(o:Nat)(ho:H[o]? =some (some (Fm l++r)))(f:Nat)(first cap:List AV)(d:E7->Bool)(hd:∀x∈l,GM AA f (first.map AV.borrow++(.agg (Entry.c x)::cap.map AV.borrow)) H (.bool (d x))):
  GM AA 155 [.msl o 0 l.length 4,.fn (.func f) first cap] H (.int .i64 (ge d 0 l)):=by
 refine aC nQ rfl ?_
 simp only[f155,go_sem]
 refine Fe l (λr=>ge d (l.length - r.length) r) (λk=>[(0,.msl o 0 l.length 4),(1,.fn (.func f) first cap),(7,.int .i64 l.length),(8,.int .i64 k)]) hl rfl ?_ ?_
 ·intro k y ys hdr hx hF h0 h1 hw
  have c1:=hd y (AB hx)
  have g1:=ZO r hx
  have g2:=S8 l r k y hx
  have hk2:=Fq hdr
  have e1:l.length - (ys.length+1)=k:=FR
  have e2:l.length - ys.length=k+1:=FR
  simp only[AD,e1,AP]at hF
  simp only[go_sem,h0,h1,ho,g1,g2]
  repeat' (first|(refine aS (c1) ?_;simp only[go_sem])|apply cg<;>intro hc<;>simp only[go_sem,hc,hw,e1,e2])
  ·rw[hF,ge,iP hc]
  ·rw[ge,iN (by rw[hc];decide)]
 ·intro hF hlt
  simp only[go_sem,hlt,dF]
  rw[AP]at hF
  rw[hF];rfl
theorem Jv:∀(l:List E7) (r:List AV) (i:Nat),i<=l.length->(Fm l++r).take (i*4)=Fm (l.take i)
 |_,r,0,_=>by simp[Fm]
 |[],r,i+1,h=>by simp at h
 | x::l,r,i+1,h=>by
  have e:(i+1)*4=x.c.length+i*4:=by
   have:x.c.length=4:=rfl
   omega
  rw[H_,AE,e,List.take_length_add_append,Jv l r i (by simpa using h),B8,H_]
theorem Mc:∀(l:List E7) (r:List AV) (i:Nat),i<=l.length->(Fm l++r).drop (i*4)=Fm (l.drop i)++r
 |_,r,0,_=>sm
 |[],r,i+1,h=>by simp at h
 | x::l,r,i+1,h=>by
  have e:(i+1)*4=x.c.length+i*4:=by
   have:x.c.length=4:=rfl
   omega
  rw[H_,AE,e,List.drop_length_add_append,Mc l r i (by simpa using h),List.drop_succ_cons]
theorem N1(a b:List E7):Fm (a++b)=Fm a++Fm b:=by unfold Fm;simp
theorem QF{l:List E7}(r:List AV){i:Nat}(h:i<l.length)(x:E7):splice (Fm l++r) (i*4) x.c=Fm (l.set i x)++r:=by
 have e:i*4+x.c.length=(i+1)*4:=by
  have:x.c.length=4:=rfl
  omega
 unfold splice
 rw[e,Jv l r i FR,Mc l r (i+1) FR,Cn,iP h,N1,H_]
 simp only[AE]
theorem Y2(d:E7->Bool): ∀(l:List E7) (k:Nat),(ge d k l = -1 /\ ∀x∈l,d x=false) \/ ∃(i:Nat) (x:E7),ge d k l=((k+i:Nat):Int)/\l[i]? =some x/\d x=true /\ ∀y∈l.take i,d y=false
 |[],k => .inl ⟨rfl,sm⟩
 | x::r,k=>by
  rw[ge]
  by_cases h:d x=true
  ·rw[iP h]
   exact .inr ⟨0,x,rfl,rfl,h,sm⟩
  ·rw[iN h]
   have h:d x=false:=by simpa using h
   rcases Y2 d r (k+1)with⟨e,h2⟩|⟨i,y,e,h2,h3,h4⟩
   ·exact .inl ⟨e,by simpa [h]using h2⟩
   ·refine .inr ⟨i+1,y,by rw[e];congr 1;omega,h2,h3, ?_⟩
    rw[B8]
    intro z hz
    rcases AY.1 hz with rfl|hz
    ·exact h
    ·exact h4 z hz
theorem ef(H:cj)(f:Nat)(first cap:List AV):GM AA 155 [.sl none [],.fn (.func f) first cap] H (.int .i64 (-1)):=by
 refine aC nQ rfl ?_
 simp only[f155,go_sem]
 refine Fe ([]:List E7) (λ_=>()) (λk=>[(0,.sl none []),(1,.fn (.func f) first cap),(7,.int .i64 ((0:Nat):Int)),(8,.int .i64 k)]) sm rfl ?_ ?_
 ·intro k y ys hd
  rw[List.drop_nil]at hd;cases hd
 ·intro _ hlt
  have z2:decide (((0:Nat):Int)<((0:Nat):Int))=false:=dc
  simp only[go_sem,z2]
theorem XL(w:Option Nat)(H:cj)(f:Nat)(first cap:List AV):Fa AA 275 [.sl w [],.fn (.func f) first cap] H λv H'=>H'=H /\ ∃w2,v = .sl w2 []:=by
 have c1:=ef H f first cap
 have z1:((-1:Int) == -1)=true:=rfl
 refine aC ABk rfl ?_
 cases w with
 |none =>
  simp only[f275,go_sem]
  repeat' (first|(refine aS (c1) ?_;simp only[go_sem,z1])|apply cg<;>intro hc<;>simp only[go_sem,hc,z1])
  all_goals first|exact⟨_,rfl⟩|exact⟨rfl,_,rfl⟩|skip
 |some w =>
  simp only[f275,go_sem]
  repeat' (first|(refine aS (c1) ?_;simp only[go_sem,z1])|apply cg<;>intro hc<;>simp only[go_sem,hc,z1])
  all_goals first|exact⟨_,rfl⟩|exact⟨rfl,_,rfl⟩|skip
theorem sd(l:List E7)(hl:l.length<=1073741823)(r:List AV)(H:cj)(o:Nat)(ho:H[o]? =some (some (Fm l++r)))(f:Nat)(first cap:List AV)(d:E7->Bool)
  (hd:∀x∈l,∀c J,GM AA f (first.map AV.borrow++(.agg (Entry.c x)::cap.map AV.borrow)) (H.set o (some c)++J) (.bool (d x))):
  Fa AA 275 [.msl o 0 l.length 4,.fn (.func f) first cap] H λv H' => ∃r' J,v = .msl o 0 (l.filter λx => !d x).length 4/\H'=H.set o (some (Fm (l.filter λx => !d x)++r'))++J:=by
 have hset:H.set o (some (Fm l++r))=H:=by
  obtain⟨hlt,he⟩:=AC.1 ho
  apply A3
  intro i
  rw[Ax]
  split
  ·rename_i hi;subst hi;rw[ho]
  ·rfl
 have hd0:∀x∈l,GM AA f (first.map AV.borrow++(.agg (Entry.c x)::cap.map AV.borrow)) H (.bool (d x)):=λx hx=>by
  have:=hd x hx (Fm l++r) []
  rw[hset,Af]at this
  exact this
 have c1:=AAh l FR r H o ho f first cap d hd0
 refine aC ABk rfl ?_
 rcases Y2 d l 0 with⟨e,hall⟩|⟨i,x,e,hx,hdx,hpre⟩
 ·rw[e]at c1
  have hf:l.filter (λx => !d x)=l:=DP.2 λx hx=>by rw[hall x hx];rfl
  simp only[f275,go_sem]
  repeat' (first|(refine aS (c1) ?_;simp only[go_sem,Int.reduceBEq])|apply cg<;>intro hc<;>simp only[go_sem,hc,Int.reduceBEq])
  all_goals first|exact⟨r,[],by rw[hf],by rw[hf,hset,Af]⟩|skip
 ·rw [e,AU] at c1
  have hn1:(((i:Nat):Int) == -1)=false:=by rw[beq_eq_false_iff_ne];omega
  have hi:=(AC.1 hx).1
  have hw0:=Mg (k:=i) FR
  simp only[f275,go_sem]
  repeat' (first|(refine aS (c1) ?_;simp only[go_sem,hn1,hw0])|apply cg<;>intro hc<;>simp only[go_sem,hc,hn1,hw0])
  refine Ku (σ:=Nat×Nat×List E7×cj×Fs) (λs=>(0,.msl o 0 l.length 4)::(1,.fn (.func f) first cap)::(5,.int .i64 s.1)::(6,.int .i64 s.2.1)::s.2.2.2.2) (λs=>H.set o (some (Fm s.2.2.1++r))++s.2.2.2.1)
   (λs=>s.1<s.2.1/\s.2.1<=l.length/\s.2.2.1.length=l.length/\s.2.2.1.take s.1=(l.take s.2.1).filter (λx => !d x)/\s.2.2.1.drop s.2.1=l.drop s.2.1) (λs=>l.length - s.2.1) (i,i+1,l,[],[]) ⟨by dsimp only;omega,by dsimp only;omega,rfl, ?_,rfl⟩ ?_ ?_ ?_
  ·dsimp only
   rw[BD,hx,CY]
   have h1:(l.take i).filter (λx => !d x)=l.take i:=DP.2 λz hz=>by rw[hpre z hz];rfl
   rw[h1]
   simp[hdx]
  ·rfl
  ·dsimp only
   rw[hset,Af]
  ·rintro ⟨i,j,row,J,rest⟩ ⟨hij,hj,hrl,htk,hdr⟩
   dsimp only at hij hj hrl htk hdr ⊢
   have hoL:=(AC.1 ho).1
   have fO:∀c z,(H.set o c++z)[o]? =some c:=λc z=>FY (Ib hoL c) z
   have fW:∀c z c',(H.set o c++z).set o c'=H.set o c'++z:=λc z c'=>by rw[BN _ _ (by simpa using hoL),BB]
   by_cases hlt:j<l.length
   ·have hy:=AH hlt
    have hry:row[j]? =some l[j]:=by
     have:=congrArg (·[0]?) hdr
     simpa [hy]using this
    have j0:(0:Int)<=(j:Int):=FR
    have j1:(j:Int)<(l.length:Int):=FR
    have k0:(0:Int)<=(i:Int):=FR
    have k1:(i:Int)<(l.length:Int):=FR
    have hwj:=Mg (k:=j) FR
    have hwi:=Mg (k:=i) FR
    have g1:=ZO r hry
    rw[AF]at g1
    have g2:=S8 row r j _ hry
    have fS:∀c z y,(H.set o c++(J++[z])).set (H.length+J.length) y=H.set o c++(J++[y]):=λc z y=>by
     rw[<- AE,<- AE]
     simp
    have fL:∀c y,(H.set o c++(J++[y]))[H.length+J.length]? =some y:=λc y=>by
     rw[<- AE]
     have:H.length+J.length=(H.set o c++J).length:=sm
     rw[this];exact Bg
    have c2:=hd _ (AB hy) (Fm row++r) (J++[some (Entry.c l[j])])
    have hfil:(l.take (j+1)).filter (λx => !d x)=(l.take j).filter (λx => !d x)++(if d l[j]=true then[]else[l[j]]):=by
     rw[BD,hy,CY]
     congr 1
     cases hd2:d l[j]<;>simp[hd2]
    have hc1:(Entry.c l[j]).length=4:=rfl
    have hc2:(Entry.c l[j]).take 4=Entry.c l[j]:=rfl
    cases hdy:d l[j]with
    | false =>
     rw[hdy]at c2
     simp only[go_sem,j0,j1,dT,fO,g1,g2,fS,fL,hc1,hc2,AE,AF,Ao]
     repeat' (first|(refine aS (c2) ?_;simp only[go_sem,k0,k1,fO,fL,fW,hwi,hwj,hc1,hc2,AF])|apply cg<;>intro hc<;>simp only[go_sem,hc,j0,j1,k0,k1,dT,fO,g1,g2,fS,fL,fW,hwi,hwj,hc1,hc2,AE,AF,Ao])
     have k2:i*4+4<=(Fm row).length+r.length:=by rw[IB];omega
     rw[iP k2,QF r FR]
     refine⟨(i+1,j+1,row.set i l[j],J++[some (Entry.c l[j])],[]),⟨by dsimp only;omega,by dsimp only;omega,by simpa using hrl, ?_, ?_⟩,by dsimp only;omega,rfl,rfl⟩
     ·dsimp only
      rw[hfil,hdy,iN dc,<- htk,QD row i l[j] FR]
     ·dsimp only
      rw[List.drop_set_of_lt FR,<- A9,hdr,A9]
    | true =>
     rw[hdy]at c2
     simp only[go_sem,j0,j1,dT,fO,g1,g2,fS,fL,hc1,hc2,AE,AF,Ao]
     repeat' (first|(refine aS (c2) ?_;simp only[go_sem,hwj])|apply cg<;>intro hc<;>simp only[go_sem,hc,j0,j1,k0,k1,dT,fO,g1,g2,fS,fL,fW,hwi,hwj,hc1,hc2,AE,AF,Ao])
     refine⟨(i,j+1,row,J++[some (Entry.c l[j])],[]),⟨by dsimp only;omega,by dsimp only;omega,hrl, ?_, ?_⟩,by dsimp only;omega,rfl,rfl⟩
     ·dsimp only
      rw[hfil,hdy,iP rfl,Af,htk]
     ·dsimp only
      rw[<- A9,hdr,A9]
   ·have hjl:j=l.length:=FR
    subst hjl
    simp only[go_sem,AQ,dF]
    refine⟨⟨FR,FR,FR⟩, ?_⟩
    simp only[go_sem,AFn,fO,fW,AF]
    rw[BI]at htk
    have hkl:(l.filter λx => !d x).length=i:=by rw[<- htk,BF];omega
    refine⟨FR,by rw[IB];omega,⟨FR,FR,.inl trivial⟩,Gb (AV.agg (Entry.z.cf (some 1))) (l.length - i)++(Fm row++r).drop (i*4+(Gb (AV.agg (Entry.z.cf (some 1))) (l.length - i)).length),J,by rw[hkl];rfl, ?_⟩
    unfold splice
    rw[Jv row r i FR,htk,AE]
theorem oJ(l:List E7):(HP (Fd l)).map borrow1=Fm l:=by
 induction l with
 |nil=>rfl
 |cons x l ih =>
  have:HP (Fd (x::l))=x.c++HP (Fd l):=rfl
  rw[this,Aq,ih];rfl
theorem KC(l:List E7):(Fm l).map borrow1=Fm l:=by
 induction l with
 |nil=>rfl
 |cons x l ih=>rw[H_,Aq,ih];rfl
theorem ei(l:List E7)(hl:l.length<=1073741824)(H:cj):Fa AA 273 [.sl none (Fd l)] H λv H'=>(l=[]/\v = .sl (some 4) []/\H'=H)\/(v = .msl (H.length+1) 0 l.length 4/\H'=H++[none,some (Fm l)]):=by
 have el:(Fd l).length=l.length:=Hl l
 have g1:∀(x:Option (List AV)),(H++[x])[H.length]? =some x:=λx=>sm
 have g2:∀(x y:Option (List AV)),(H++[x]).set H.length y=H++[y]:=λx y=>sm
 refine aC ALp rfl ?_
 cases l with
 |nil =>
  simp only[f273,go_sem,g1,g2]
  exact .inr ⟨sm,rfl⟩
 |cons x l =>
  have hcs:Fd (x::l) = .agg x.c::Fd l:=rfl
  have hcat:=oJ (x::l)
  rw[hcs]at hcat el ⊢
  simp only[AD]at hl
  simp only[f273,go_sem,g1,g2]
  exact⟨FR,FR,.inr ⟨sm,by rw[hcat]⟩⟩
section
variable{P:Program}{d:Tmp}{K:Kt}{ev:Fs}{H:cj}
theorem AGL{t t' el:TypeId}{kn k:IntKind}{ob off len sz c m:Nat}{cs:List AV}{z:AV}(hu:P.underlying t=some (.slice el))(hu2:P.underlying t'=some (.int kn))(hz:Fk P el=some z)(h1:z.cells.length=sz)(h2:P.cellsOf el=sz)(h3:GW P el=true)(hp:0<sz)
  (ho:H[ob]? =some (some cs))(h5:off+len*sz<=cs.length)(h6:0<m)(h7:c<len+m)(h8:(len+m)*P.bytesOf el<=140737488355328)(h9:len+m<=9223372036854775807)
  (hk:K ((d,.msl H.length 0 (len+m) sz)::ev) (H++[some (((cs.drop off).take (len*sz)).map borrow1++(Gb z m).map borrow1)])):AGM P t t' true [.mslc ob off len sz c,.int k (m:Int)] d K ev H:=by
 subst h2
 unfold AGM apz
 simp only[hu,hu2,ho,Ag]
 exact⟨z,hz,⟨h1,h3,hp,trivial,h5,FR,FR,h8,h9⟩,hk⟩
end
theorem Um{P:Program}{H:cj}{el:TypeId}{k ob off len sz:Nat}{cs X:List AV}{b:AV}(hb:nq b=some (ob,off,len,sz,false)\/nq b=some (ob,off,len,sz,true))(ho:H[ob]? =some (some cs))(h1:off+k*sz<=cs.length)(h2:sz=P.cellsOf el)(h3:k<=len)(hX:(cs.drop off).take (k*sz)=X):ip P el H k b=some X:=by
 subst hX
 cases b<;>simp only[nq,reduceCtorEq,Option.some.injEq,Prod.mk.injEq,or_self,Bool.true_eq_false,Bool.false_eq_true,and_false,and_true,false_or,or_false]at hb
 all_goals
  obtain⟨rfl,rfl,rfl,rfl⟩:=hb
  simp only[ip,ho]
  rw[iP ⟨h1,h2,h3⟩]
theorem Un{P:Program}{d:Tmp}{K:Kt}{ev:Fs}{H:cj}{t el:TypeId}{a b:AV}{ob off len sz m k:Nat}{gr:Bool}{cs X R:List AV}(hk:Nat.min m len=k)(hu:P.underlying t=some (.slice el))(hrow:nq a=some (ob,off,len,sz,gr))(hm:zl b=some m)(ho:H[ob]? =some (some cs))(h1:sz=P.cellsOf el)
  (h2:(P.info? el).isSome=true)(h3:cs.map borrow1=cs)(h4:off<=cs.length)(h5:gr=true\/off+k*sz<=cs.length)(hs:ip P el H k b=some X)(hR:cs.take off++X.map borrow1++cs.drop (off+k*sz)=R)
  (hK:K ((d,.int .i64 (k:Nat))::ev) (H.set ob (some R))):AFk P t a b d K ev H:=by
 subst hk hR
 exact ACW hu hrow hm ho h1 h2 h3 h4 h5 hs hK
theorem qL{A Z E:List AV}{k:Nat}(hA:A.length=k)(m:Nat):(A++Z).take k++E++(A++Z).drop (k+m)=A++E++Z.drop m:=by
 rw[List.take_left' hA,<- A9,Cr hA]
def V2(l:List E7)(i:Nat)(e:E7):List E7:=l.take i++e::l.drop i
theorem gV{l:List E7}{i:Nat}(h:i<=l.length)(e:E7):(V2 l i e).length=l.length+1:=by simp[V2];omega
def AIe(l:List E7)(i:Nat)(e:E7)(o:Nat)(H:cj)(v:AV)(H':cj):Prop :=
 ∃ob r,v = .msl ob 0 (l.length+1) 4/\H'[ob]? =some (some (Fm (V2 l i e)++r))/\(ob=o\/H.length<=ob) /\ ∃c ext,H'=H.set o c++ext
theorem sY(l:List E7)(hl:l.length<=1073741824)(i:Nat)(hi:i<=l.length)(e:E7)(o vo:Nat)(hov:vo≠o)(H:cj)(ho:H[o]? =some (some (Fm l)))(hv:H[vo]? =some (some e.c))(c:Nat)(hc1:l.length<=c)(hc2:c<=9223372036854775807):
  Fa AA 274 [.mslc o 0 l.length 4 c,.int .i64 i,.msl vo 0 1 4] H λv H'=>AIe l i e o H v H' \/ ∃ob off len sz cp,v = .mslc ob off len sz cp/\AIe l i e o H (.msl ob off len sz) H':=by
 have i0:(0:Int)<=(i:Int):=FR
 have hil:(i:Int)<=(l.length:Int):=FR
 have hlc:(l.length:Int)<=(c:Int):=FR
 have hcl:(Fm l).length=l.length*4:=IB l
 have z1:(((1:Nat):Int)==0)=false:=rfl
 have hw1:IntKind.i64.wrap ((l.length:Int)+((1:Nat):Int))=((l.length+1:Nat):Int):=by rw[OY FR FR];rfl
 have hw2:IntKind.i64.wrap ((i:Int)+((1:Nat):Int))=((i+1:Nat):Int):=by rw[OY FR FR];rfl
 have hw3:IntKind.i64.wrap (((l.length+1:Nat):Int) - (i:Int))=((l.length+1 - i:Nat):Int):=by rw[OY FR FR];omega
 have hzv:Fk AA 107=some (.agg (Entry.z.cf (some 1))):=kr
 have hzo:GW AA 107=true:=kr
 have hby:AA.bytesOf 107=56:=kr
 have hinf:(AA.info? 107).isSome=true:=kr
 have hag:R6 AA 107=true:=kr
 have hcz:AA.cellsOf 107=4:=kr
 have hsrc:S' AA 107 true H (.msl vo 0 1 4)=some [.agg e.c]:=by
  have h:=jT (P:=AA) (el:=107) hv (off:=0) (len:=1) (sz:=4) (AT 4) hcz.symm (.inl hag)
  rw[hag]at h
  exact h
 have hus:AA.underlying 43=some (.slice 107):=kr
 have hui:AA.underlying 3=some (.int .i64):=kr
 have hcap:∀(d:Tmp) (K:Kt) (ev:Fs) (H2:cj),AFq AA 43 (.mslc o 0 l.length 4 c) d K ev H2=K ((d,.int .i64 c)::ev) H2:=λd K ev H2=>by
  unfold AFq
  rw[hus]
 have h00:¬((0:Int)=(c:Int)/\(0:Int)<0):=FR
 refine aC ABl rfl ?_
 by_cases hin:i=l.length
 ·subst hin
  have hee:((l.length:Int)==(l.length:Int))=true:=sm
  simp only[f274,go_sem,i0,hlc,z1,hee,hsrc,ho]
  refine⟨FR,FR,hcl,KC l,.inl ⟨H.length,[],rfl, ?_,.inr (AT _),none,[some (Fm l++e.c)],rfl⟩⟩
  rw[AN sm]
  have:V2 l l.length e=l++[e]:=by simp[V2]
  rw[this,N1]
  simp[Fm]
  rfl
 ·have hne:((i:Int)==(l.length:Int))=false:=by rw[beq_eq_false_iff_ne];omega
  have hic:¬((i:Int)=(c:Int)/\(0:Int)<(i:Int)):=FR
  by_cases hroom:c<l.length+1
  ·have hr1:(c:Int)<((l.length+1:Nat):Int):=FR
   simp only[f274,go_sem,i0,hlc,hil,hne,z1,hw1,hr1,dT,hic,hcap,hw3,Bm,CJ,AU]
   refine⟨FR,AGL (z:=.agg (Entry.z.cf (some 1))) hus hui hzv rfl hcz hzo dc ho FR FR  FR (by rw[hby];omega) FR ?_⟩
   have hn1:i+(l.length+1 - i)=l.length+1:=FR
   have hA:(((Fm l).drop 0).take (i*4)).map borrow1=Fm (l.take i):=by
    have:=Jv l [] i hi
    rw[Af]at this
    rw[BC,this,KC]
   rw[hn1,hA]
   have hZ:((Gb (.agg (Entry.z.cf (some 1))) (l.length+1 - i)).map borrow1).length=(l.length+1 - i)*4/\((Gb (.agg (Entry.z.cf (some 1))) (l.length+1 - i)).map borrow1).map borrow1=(Gb (.agg (Entry.z.cf (some 1))) (l.length+1 - i)).map borrow1:=by
    refine⟨by rw[Ap];simp[Gb];rfl, ?_⟩
    rw[List.map_map]
    exact Bq λa _=>by cases a<;>rfl
   generalize (Gb (.agg (Entry.z.cf (some 1))) (l.length+1 - i)).map borrow1=Z at hZ
   have hZb:Z.map borrow1=Z:=hZ.2
   replace hZ:=hZ.1
   simp only[go_sem,i0,AU]
   refine⟨⟨FR,.inr FR⟩, ?_⟩
   have hAl:(Fm (l.take i)).length=i*4:=by rw[IB,BF];omega
   have hDl:(Fm (l.drop i)).length=(l.length - i)*4:=by rw[IB,Cb]
   have gv:∀x,(H++[x])[vo]? =some (some e.c):=λx=>FY hv _
   have go:∀x,(H++[x])[o]? =some (some (Fm l)):=λx=>FY ho _
   have gn:∀x:Option (List AV),(H++[x])[H.length]? =some x:=λx=>sm
   have gs:∀x y:Option (List AV),(H++[x]).set H.length y=H++[y]:=λx y=>sm
   refine Un (k:=1) (ob:=H.length) (cs:=Fm (l.take i)++Z) (X:=e.c) (R:=Fm (l.take i)++e.c++Z.drop 4) (by simp[Dt];omega) hus rfl rfl (gn _) hcz.symm hinf (by rw[Aq,KC,hZb]) (by rw[AF];omega) (.inr (by rw[AF];omega)) (Um (.inl rfl) (gv _) (AT 4) hcz.symm (AT 1) rfl) (qL hAl 4) ?_
   have hn2:l.length+1 - (i+1)=l.length - i:=FR
   simp only[go_sem,gs,hw2,i0,hil,hic,hn2,AU]
   have hdr:((Fm l).drop (i*4)).take ((l.length - i)*4)=Fm (l.drop i):=by
    have:=Mc l [] i hi
    rw[Af,Af]at this
    rw[this,Bu FR]
   have hel:e.c.length=4:=rfl
   have heb:e.c.map borrow1=e.c:=rfl
   have hZd:(Z.drop 4).length=(l.length - i)*4:=by rw[Cb];omega
   have hset:H.set o (some (Fm l))=H:=by
    apply A3
    intro j
    rw[Ax]
    split
    ·rename_i hj;subst hj;rw[ho,iP (AC.1 ho).1]
    ·rfl
   refine⟨⟨FR,FR,.inr FR⟩,FR,Un (k:=l.length - i) (ob:=H.length) (cs:=Fm (l.take i)++e.c++Z.drop 4) (X:=Fm (l.drop i)) (R:=Fm (l.take i)++e.c++Fm (l.drop i)) (by simp[]) hus rfl rfl (by rw[<- AE];exact gn _) hcz.symm hinf (by rw[Aq,Aq,KC,heb,List.map_drop,hZb]) (by simp only[AF];omega) (.inr (by simp only[AF];omega))
    (Um (.inr rfl) (go _) FR hcz.symm FR hdr) ?_ ?_⟩
   ·rw[KC,qL (A:=Fm (l.take i)++e.c) (by rw[AF];omega),Dr (l:=Z.drop 4) FR,Af]
   ·simp only[go_sem,gs]
    exact .inl ⟨H.length,[],rfl,by rw[gn,V2,N1,H_,Af],.inr (AT _),some (Fm l),_,by rw[hset]⟩
  ·have hr1:¬(c:Int)<((l.length+1:Nat):Int):=FR
   simp only[f274,go_sem,i0,hlc,hil,hne,z1,hw1,hw2,hr1,dF,hic,hcap,Bm,CJ,AU]
   have hno:¬(((i+1:Nat):Int)=(c:Int)/\(0:Int)<((i+1:Nat):Int)):=FR
   have hsub:l.length+1 - (i+1)=l.length - i:=FR
   rw[iN hno,hsub]
   refine⟨⟨FR,FR⟩,⟨FR,FR,FR⟩,xK (v:=.bool false) ⟨hov,⟨f320,43,4,107,kr,kr,kr,kr,kr,hus,hinf⟩,⟨_,hv⟩,⟨_,ho⟩,FR,rfl⟩ ?_⟩
   simp only[go_sem,hw2,i0,hno,hic,hsub]
   have hDl:(Fm (l.drop i)).length=(l.length - i)*4:=by rw[IB,Cb]
   have hTl:(Fm (l.take (i+1))).length=(i+1)*4:=by rw[IB,BF];congr 1;omega
   have hdr:((Fm l).drop (i*4)).take ((l.length - i)*4)=Fm (l.drop i):=by
    have:=Mc l [] i hi
    rw[Af,Af]at this
    rw[this,Bu FR]
   have htk:(Fm l).take ((i+1)*4)=Fm (l.take (i+1)):=by
    have:=Jv l [] (i+1) FR
    rwa [Af]at this
   have htk2:(Fm (l.take (i+1))++Fm (l.drop i)).take (i*4)=Fm (l.take i):=by
    have:=Jv (l.take (i+1)) (Fm (l.drop i)) i (by rw[BF];omega)
    rw[this,List.take_take,Nat.min_eq_left FR]
   have hol:=(AC.1 ho).1
   have go2:∀x:Option (List AV),(H.set o x)[o]? =some x:=λx=>A1 hol
   have gv2:∀x:Option (List AV),(H.set o x)[vo]? =some (some e.c):=λx=>by rw[A6 (Ne.symm hov)];exact hv
   have gs2:∀x y:Option (List AV),(H.set o x).set o y=H.set o y:=λx y=>BB ..
   refine⟨⟨FR,FR,FR⟩,⟨FR,FR⟩,Un (k:=l.length - i) (ob:=o) (cs:=Fm l) (X:=Fm (l.drop i)) (R:=Fm (l.take (i+1))++Fm (l.drop i)) (by simp[Dt];omega) hus rfl rfl ho hcz.symm hinf (KC l) FR (.inl rfl) (Um (.inr rfl) ho FR hcz.symm FR hdr)
    (by rw[htk,KC,Dr (l:=Fm l) FR,Af]) ?_⟩
   simp only[go_sem,i0,hic,AU]
   refine⟨⟨FR,FR⟩,Un (k:=1) (ob:=o) (cs:=Fm (l.take (i+1))++Fm (l.drop i)) (X:=e.c) (R:=Fm (l.take i)++e.c++Fm (l.drop i)) (by simp[Dt];omega) hus rfl rfl (go2 _) hcz.symm hinf (by rw[Aq,KC,KC]) (by rw[AF];omega) (.inl rfl) (Um (.inl rfl) (gv2 _) (AT 4) hcz.symm (AT 1) rfl)
    (by rw[htk2,show i*4+1*4=(i+1)*4 by omega,Cr hTl];rfl) ?_⟩
   simp only[go_sem,gs2]
   exact .inr ⟨o,0,l.length+1,4,c,rfl,o,[],rfl,by rw[go2,V2,N1,H_,Af],.inl rfl,_,[],by rw[Af]⟩
theorem AAf(l:List E7)(hl:l.length<=1073741824)(i:Nat)(hi:i<=l.length)(e:E7)(o vo:Nat)(hov:vo≠o)(H:cj)(ho:H[o]? =some (some (Fm l)))(hv:H[vo]? =some (some e.c)):
  Fa AA 274 [.msl o 0 l.length 4,.int .i64 i,.msl vo 0 1 4] H (AIe l i e o H) :=
 ky (Fa.cap ABl.c λc h1 h2=>sY l hl i hi e o vo hov H ho hv c h1 h2)
end Go.AI
namespace Go.AI
open Go.Proofs
set_option maxRecDepth 50000
theorem sZ{H:cj}(l:List E7)(hl:l.length<=9223372036854775807)(g:FuncId)(fi ca:List AV)(p:E7->Bool)
  (h:∀x∈l,GM AA g (fi.map AV.borrow++(.agg x.c::ca.map AV.borrow)) H (.bool (p x))):
  GM AA 155 [.sl none (Fd l),.fn (.func g) fi ca] H (.int .i64 (H8 p l)):=by
 unfold GM
 refine aC nQ rfl ?_
 simp only[f155,go_sem]
 refine Fe l (λr=>G9 p (l.length - r.length) r) (λk=>[(0,.sl none (Fd l)),(1,.fn (.func g) fi ca),(7,.int .i64 l.length),(8,.int .i64 k)]) hl rfl ?_ ?_
 ·intro k x xs hd hx hF h0 h1 hw
  have hk2:=Fq hd
  have e1:l.length - (xs.length+1)=k:=FR
  have e2:l.length - xs.length=k+1:=FR
  simp only[AD,e1,AP]at hF
  simp only[go_sem,h0,h1,GX hx]
  repeat' (first|(refine aS (h x (AB hx)) ?_;simp only[go_sem])|apply cg<;>intro hc<;>simp only[go_sem,hc,hw,e1,e2])
  ·rw[H8,hF,G9,iP hc]
  ·rw[G9,iN (by rw[hc];decide)]
 ·intro hF hlt
  simp only[go_sem,hlt,dF]
  rw[AP]at hF
  rw[H8,hF];rfl
def t_:E8:={ ac with mt:=[40,67],tk:=25::ac.tk }
@[go_sem] theorem Afk(k:Nat):t_.lv k=ac.lv k:=AG rfl rfl
set_option linter.defProp false in
@[go_sem] def AgM:=nL t_ rfl rfl rfl
@[go_sem] theorem AgL:t_.tk=[25,17,23,24,44,51,55,56,81,83,87,94]/\t_.mt=[40,67]/\t_.pc=[67,93]:=⟨rfl,rfl,rfl⟩
theorem AIk:FK AA 274 f274 t_:=⟨kr,kr,func274,kr⟩
theorem sX(e:E7)(vo:Nat)(H:cj)(hv:H[vo]? =some (some e.c)):
  Fa AA 274 [.sl (some 4) [],.int .i64 ((0:Nat):Int),.msl vo 0 1 4] H λv H'=>v = .sl (some 4) [.agg e.c]/\H'=H:=by
 have z1:(((1:Nat):Int)==0)=false:=rfl
 have z0:(((0:Nat):Int)==((0:Nat):Int))=true:=rfl
 have hag:R6 AA 107=true:=kr
 have hcz:AA.cellsOf 107=4:=kr
 have hsrc:S' AA 107 true H (.msl vo 0 1 4)=some [.agg e.c]:=by
  have h:=jT (P:=AA) (el:=107) hv (off:=0) (len:=1) (sz:=4) (AT 4) hcz.symm (.inl hag)
  rw[hag]at h
  exact h
 refine aC AIk rfl ?_
 simp only[f274,go_sem,z1,z0,hsrc]
 exact Int.le_refl _
def Qg(l:List E7)(e:E7):List E7:=if bsT l e=true then l.set (Xp l e) e else V2 l (Xp l e) e
theorem Vo(l:List E7):(l.map Entry.c).map AV.agg=Fd l:=by
 induction l with
 |nil=>rfl
 |cons x l ih=>rw[AS,AS,ih];rfl
theorem AID(st:List E7)(hl:st.length<=1073741823)(hk:∀y∈st,y.key.length<=1073741824)(e:E7):FT AA 217 [.sl none (Fd st),.agg e.c] (.sl none (Fd (Qg st e))):=by
 have c1:=qY st FR hk e
 have hle:=ACt st e
 have h0:Fa AA 217 [.sl none (Fd st),.agg e.c] [] λv H'=>AXT 4 ((Qg st e).map Entry.c) v [] H':=by
  refine aN ANn rfl ?_
  simp only[f217,go_sem]
  apply pK c1
  simp only[go_sem]
  refine Fu.intro (ei st FR [some e.c]) λv H' hq=>?_
  have k0:(0:Int)<=((Xp st e:Nat):Int):=FR
  rcases hq with⟨rfl,rfl,rfl⟩|⟨rfl,rfl⟩
  ·have hb:bsT [] e=false:=rfl
   have hp:Xp [] e=0:=rfl
   simp only[go_sem,hb]
   rw[hp]
   refine Fu.intro (sX e 1 _ rfl) λv H' hq=>?_
   obtain⟨rfl,rfl⟩:=hq
   simp only[go_sem]
   exact .inr ⟨⟨_,rfl⟩,_,rfl⟩
  ·simp only[go_sem,AD,AJ,AW,AR,AU,Nat.reduceAdd]
   cases hb:bsT st e with
   | true =>
    have hlt:Xp st e<st.length:=by
     unfold bsT at hb
     split at hb
     ·rename_i y hy;exact(AC.1 hy).1
     ·cases hb
    have k1:((Xp st e:Nat):Int)<(st.length:Int):=FR
    have k2:Xp st e*4+4<=(Fm st).length:=by rw[IB];omega
    have k3:splice (Fm st) (Xp st e*4) (e.cf none)=Fm (st.set (Xp st e) e):=by
     have:=QF [] hlt e
     rw[Af,Af]at this
     exact this
    have k4:Qg st e=st.set (Xp st e) e:=by rw[Qg,iP hb]
    simp only[go_sem,k0,k1,k2,k3]
    refine .inl (.inr ⟨2,Fm (st.set (Xp st e) e), ?_,sm,⟨_,rfl⟩,rfl,[], ?_⟩)
    ·rw[k4,Ap,Ao]
    ·rw[k4,Af];rfl
   |false =>
    have k4:Qg st e=V2 st (Xp st e) e:=by rw[Qg,iN (by rw[hb];decide)]
    simp only[go_sem]
    refine Fu.intro (AAf st FR (Xp st e) hle e 2 3 dc _ rfl rfl) λv H' hq=>?_
    obtain⟨ob,r,rfl,ho,hob,c,ext,rfl⟩:=hq
    simp only[go_sem]
    refine .inl (.inr ⟨ob,_, ?_,sm,⟨_,rfl⟩,ho,r, ?_⟩)
    ·rw[k4,Ap,gV hle]
    ·rw[k4];rfl
 have h1:=p_ (n:=4) (es:=(Qg st e).map Entry.c) (λx hx=>by obtain⟨y,_,rfl⟩:=AO.1 hx;rfl) (λx hx=>by obtain⟨y,_,rfl⟩:=AO.1 hx;exact y.c_bnd _) (λx hx=>by obtain⟨y,_,rfl⟩:=AO.1 hx;rfl) h0
 rw[Vo]at h1
 refine OE (h1.mono λv H' h=>h.1) ?_ ?_
 ·simp[FW,AV.pure,Jq,SK]
 ·simp[AV.pure,Jq]
theorem sU(l:List E7)(hl:l.length<=1073741823)(H:cj)(g:FuncId)(ca:List AV)(hca:ca.map AV.borrow=ca)(d:E7->Bool)(hd:∀x∈l,∀J,GM AA g (.agg x.c::ca) (H++J) (.bool (d x))):
  Fa AA 218 [.sl none (Fd l),.fn (.func g) [] ca] H λv H'=>v = .sl none (Fd (l.filter d))/\H'=H:=by
 have h1:∀x∈l,∀J,GM AA 276 [.agg x.c,.ptr H.length 0] (H++some [.fn (.func g) [] ca]::J) (.bool (!d x)):=by
  intro x hx J
  refine Fa.drop rfl ?_
  have c1:=hd x hx (some [.fn (.func g) [] ca]::(J++[some (Entry.c x)]))
  have e1:H++some [.fn (.func g) [] ca]::(J++[some (Entry.c x)])=H++some [.fn (.func g) [] ca]::J++[some (Entry.c x)]:=sm
  rw[e1]at c1
  refine aC ALf rfl ?_
  have g1:∀L,(H++some [AV.fn (.func g) [] ca]::L)[H.length]? =some (some [AV.fn (.func g) [] ca]):=λL=>sm
  have g2:∀X y,(H++X::(J++[y]))[List.length (H++X::J)]? =some y:=λX y=>by
   have:H++X::(J++[y])=(H++X::J)++[y]:=sm
   rw[this];exact Bg
  have hc2:(Entry.c x).take 4=Entry.c x:=rfl
  have hc3:(Entry.c x).length=4:=rfl
  simp only[f276,go_sem,g1,g2,hc2,hc3,hca]
  rw[<- e1]at c1
  repeat' (first|(refine aS (c1) ?_;simp only[go_sem])|apply cg<;>intro hc<;>simp only[go_sem,hc,g1,g2])
  exact⟨_,rfl⟩
 have h0:Fa AA 218 [.sl none (Fd l),.fn (.func g) [] ca] H λv H'=>AH7 4 ((l.filter d).map Entry.c) v H H':=by
  refine aC ANj rfl ?_
  simp only[f218,go_sem]
  refine Fu.intro (ei l FR _) λv H' hq=>?_
  rcases hq with⟨rfl,rfl,rfl⟩|⟨rfl,rfl⟩
  ·simp only[go_sem]
   refine Fu.intro (XL _ _ _ _ _) λv H' hq=>?_
   obtain⟨rfl,w2,rfl⟩:=hq
   simp only[go_sem]
   exact .inl ⟨rfl,⟨_,rfl⟩,_,rfl⟩
  ·simp only[go_sem]
   have f2:List.filter (λx => !!d x) l=l.filter d:=sm
   have eo:List.length (H++[some [AV.fn (.func g) [] ca]])+1=H.length+2:=sm
   have eS:∀(c:Option (List AV)) (J:cj),(H++[some [AV.fn (.func g) [] ca],none,some (Fm l)]).set (H.length+2) c++J=H++some [.fn (.func g) [] ca]::([none,c]++J):=λc J=>by
    rw[BV _ _ FR]
    simp
   rw[eo]
   refine Fu.intro (sd l hl [] _ (H.length+2) sm _ [] [.ptr H.length 0] (λx => !d x) λx hx c J=>by rw[eS];exact h1 x hx _) λv H' hq=>?_
   obtain⟨r,J,rfl,rfl⟩:=hq
   simp only[go_sem,f2,eS]
   refine .inr ⟨H.length+2,Fm (l.filter d)++r, ?_,FR,⟨_,rfl⟩, ?_,r,rfl⟩
   ·rw[Ap]
   ·simp
 have h2:=qA (n:=4) (es:=(l.filter d).map Entry.c) (λx hx=>by obtain⟨y,_,rfl⟩:=AO.1 hx;rfl) (λx hx=>by obtain⟨y,_,rfl⟩:=AO.1 hx;exact y.c_bnd _) (λx hx=>by obtain⟨y,_,rfl⟩:=AO.1 hx;rfl) h0
 rwa [Vo]at h2
def XT(st:List E7)(v:ByteArray):List E7:=st.filter λe=>decide (e.var=v)
theorem AGv(l:List E7)(hl:l.length<=1073741823)(v:ByteArray):FT AA 154 [.sl none (Fd l),.str v] (.sl none (Fd (XT l v))):=by
 have h1:∀x∈l,∀J,GM AA 219 [.agg x.c,.ptr 0 0] ([some [.str v]]++J) (.bool (decide (x.var=v))):=by
  intro x hx J
  refine Fa.drop rfl ?_
  refine aC ANf rfl ?_
  simp only[f219,go_sem]
  exact⟨by rw[FV],_,rfl⟩
 refine pB ARC rfl ?_
 simp only[f154,go_sem]
 refine Fu.intro (sU l hl _ _ _ rfl _ h1) λw H' hq=>?_
 obtain⟨rfl,rfl⟩:=hq
 simp only[go_sem]
 rfl
def Acb(f:Fld×Bool):Prop:=f.2=true->HC f.1
def zG(l:List Fld)(h:E9)(nm:ByteArray)(n:Int):E9:=if(Ff l nm).2=true then RR (Ff l nm).1 h (if KY (Ff l nm).1<n then KY (Ff l nm).1 else n).toNat else h
theorem V_{l:List Fld}(hl:Iq l)(s:ByteArray):Acb (Ff l s):=λh=>Ir hl h
theorem PZ{α:Type}{H:List α}{o:Nat}{x:α}(h:H[o]? =some x):H.set o x=H:=by
 apply A3
 intro j
 rw[Ax]
 split
 ·rename_i hj;subst hj;rw[h,iP (AC.1 h).1]
 ·rfl
theorem LX{α:Type}{H:List α}{o:Nat}{x:α}(h:o<H.length)(L:List α):(H++L).set o x=H.set o x++L:=BN _ _ h
theorem SQ{l:List Fld}(hl:Iq l){h:E9}(hr:FZ h=true)(nm:ByteArray){n:Int}(hn:0<=n):FZ (zG l h nm n)=true:=by
 unfold zG
 split
 ·rename_i hf
  have hg:=V_ hl nm hf
  have hm:=Rc hg
  have hp:0<2^fW (Ff l nm).1:=BW _
  refine Ni hg ?_ hr
  rw[hm]
  split<;>omega
 ·exact hr
theorem Ud(D:E_)(hl:Iq D.fields)(hln:D.fields.length<=9223372036854775807)(hr:FZ D.head=true)(nm:ByteArray)(n:Int)(hn:0<=n)(H:cj)(od:Nat)(o0 o1 o2 o3:Option Nat)(ho:H[od]? =some (some (D.cf o0 o1 o2 o3))):
  Fa AA 153 [.ptr od 0,.str nm,.int .i64 n] H λv H'=>v = .tup [] /\ ∃ext,H'=H.set od (some (({ D with head:=zG D.fields D.head nm n }:E_).cf o0 o1 o2 o3))++ext:=by
 have hlt:=(AC.1 ho).1
 have c1:=Qi D.fields hln nm
 have q0:=q_0 H
 have g1:=FY ho
 refine aC ARG rfl ?_
 cases hf:(Ff D.fields nm).2 with
 |false =>
  rw[hf]at c1
  simp only[f153,go_sem,ho]
  apply pK c1
  simp only[go_sem,q0]
  have e1:zG D.fields D.head nm n=D.head:=by unfold zG;rw[iN (by rw[hf];decide)]
  rw[e1,PZ ho]
  exact⟨_,rfl⟩
 |true =>
  rw[hf]at c1
  have hg:=V_ hl nm hf
  have hm:=Rc hg
  have c2:=qb (Ff D.fields nm).1 (by have:=hg;unfold HC at this;omega) (by have:=hg;unfold HC at this;omega)
  have hp:0<2^fW (Ff D.fields nm).1:=BW _
  have e1:zG D.fields D.head nm n=RR (Ff D.fields nm).1 D.head (if KY (Ff D.fields nm).1<n then KY (Ff D.fields nm).1 else n).toNat:=by unfold zG;rw[iP hf]
  have e2:(((if KY (Ff D.fields nm).1<n then KY (Ff D.fields nm).1 else n).toNat:Nat):Int)=if KY (Ff D.fields nm).1<n then KY (Ff D.fields nm).1 else n:=Int.toNat_of_nonneg (by rw[hm];split<;>omega)
  have c3:=l_ (Ff D.fields nm).1 hg D.head hr (if KY (Ff D.fields nm).1<n then KY (Ff D.fields nm).1 else n).toNat (by rw[hm];split<;>omega)
  rw[e2,<- e1]at c3
  simp only[f153,go_sem,ho]
  apply pK c1
  simp only[go_sem,g1,q0]
  apply pK c2
  simp only[go_sem]
  apply pK c3
  simp only[go_sem,g1]
  rw[LX hlt]
  exact⟨_,rfl⟩
def Gu(D:E_):E_×Bool:=if D.is=false/\100<=(XT D.st D.step.var).length then(D,false)else({ D with st:=Qg D.st D.entry },true)
theorem Kd(D:E_):(Gu D).1.fields=D.fields/\(Gu D).1.step=D.step/\(Gu D).1.head=D.head/\(Gu D).1.entry=D.entry:=by
 unfold Gu;split<;>exact⟨rfl,rfl,rfl,rfl⟩
def dg(od:Nat)(o0 o1 o3:Option Nat)(H:cj)(r:E_×Bool)(v:AV)(H':cj):Prop:=v = .bool r.2 /\ ∃o2 ext,H'=H.set od (some (r.1.cf o0 o1 o2 o3))++ext
theorem Ml(D:E_)(hst:D.st.length<=1073741823)(hk:∀y∈D.st,y.key.length<=1073741824)(H:cj)(od:Nat)(o0 o1 o2 o3:Option Nat)(ho:H[od]? =some (some (D.cf o0 o1 o2 o3))):
  Fa AA 152 [.ptr od 0] H (dg od o0 o1 o3 H (Gu D)):=by
 have hlt:=(AC.1 ho).1
 have c1:=AGv D.st FR D.step.var
 have c2:=AID D.st FR hk D.entry
 refine aC ARK rfl ?_
 cases hi:D.is with
 |true =>
  simp only[f152,go_sem,ho,hi,As]
  apply pK c2
  simp only[go_sem,ho]
  have e1:Gu D=({ D with st:=Qg D.st D.entry },true):=by unfold Gu;rw[iN (by rw[hi];simp)]
  rw[e1]
  exact⟨rfl,none,[],sm⟩
 | false =>
  simp only[f152,go_sem,ho,hi,Aw]
  apply pK c1
  simp only[go_sem]
  refine cS ?_ ?_<;>intro hc
  ·have e1:Gu D=(D,false):=by unfold Gu;rw[iP ⟨hi,by simp at hc;omega⟩]
   simp only[go_sem,e1]
   exact⟨rfl,o2,[],by rw[PZ ho,Af]⟩
  ·have e1:Gu D=({ D with st:=Qg D.st D.entry },true):=by unfold Gu;rw[iN (by simp at hc ⊢;omega)]
   simp only[go_sem,ho]
   apply pK c2
   simp only[go_sem,ho,e1]
   exact⟨rfl,none,[],by simp[hi]⟩
theorem U5{α:Type}{H:List α}{o:Nat}(h:o<H.length)(x:α)(L:List α):(H.set o x++L)[o]? =some x:=by
 rw[List.getElem?_append_left (by rw[Ao];exact h)]
 exact A1 h
def AGw(D:E_):E_×Bool:=Gu { D with entry:={ D.entry with at_:=D.tick } }
def bC(D:E_):E_×Bool:=(D,D.is&&decide (IntKind.i64.wrap (D.tick - D.step.n)<=D.entry.at_))
def wrD(r:E_×Bool):E_×Bool:=if r.2=true then({ r.1 with head:=zG r.1.fields r.1.head r.1.step.field r.1.entry.n },true)else(r.1,false)
def VW(a b:Int):Int:=if b<a then b else a
def ns(D:E_):E_×Bool:=wrD (Gu { D with entry:={ D.entry with n:=VW (D.entry.n+1) 65535,at_:=D.tick } })
def g_:E8:={ h80 with pc:=[] }
@[go_sem] theorem Afo(k:Nat):g_.lv k=h80.lv k/\g_.ct k=h80.ct k/\g_.at k=h80.at k/\g_.dn k=h80.dn k:=⟨AG rfl rfl,AG rfl rfl,AG rfl rfl,AG rfl rfl⟩
@[go_sem] theorem AgQ:g_.tk=[]/\g_.mt=[]/\g_.pc=[]:=⟨rfl,rfl,rfl⟩
theorem AIo:FK AA 80 f80 g_:=⟨kr,kr,func80,kr⟩
def gt:E8:={ h81 with pc:=[] }
@[go_sem] theorem Afn(k:Nat):gt.lv k=h81.lv k/\gt.ct k=h81.ct k/\gt.at k=h81.at k/\gt.dn k=h81.dn k:=⟨AG rfl rfl,AG rfl rfl,AG rfl rfl,AG rfl rfl⟩
@[go_sem] theorem AgP:gt.tk=[]/\gt.mt=[]/\gt.pc=[]:=⟨rfl,rfl,rfl⟩
theorem AIn:FK AA 81 f81 gt:=⟨kr,kr,func81,kr⟩
section
variable(D:E_)(hl:Iq D.fields)(hln:D.fields.length<=9223372036854775807)(hst:D.st.length<=1073741823)(hk:∀y∈D.st,y.key.length<=1073741824)(hr:FZ D.head=true)(he:0<=D.entry.n/\D.entry.n<=65535)
variable(H:cj)(od:Nat)(o0 o1 o2 o3:Option Nat)(ho:H[od]? =some (some (D.cf o0 o1 o2 o3)))
include hst hk ho
theorem AEo:Fa AA 81 [.ptr od 0] H (dg od o0 o1 o3 H (AGw D)):=by
 have hlt:=(AC.1 ho).1
 refine aC AIn rfl ?_
 simp only[f81,go_sem,ho]
 refine Fu.intro (Ml { D with entry:={ D.entry with at_:=D.tick } } hst hk _ od o0 o1 o2 o3 (A1 hlt)) λv H' hq=>?_
 obtain⟨rfl,w,ext,rfl⟩:=hq
 simp only[go_sem]
 exact⟨rfl,w,ext,by rw[BB];rfl⟩
theorem AAY:Fa AA 82 [.ptr od 0] H (dg od o0 o1 o3 H (bC D)):=by
 have:=hst
 have:=hk
 have hlt:=(AC.1 ho).1
 refine aC AZD rfl ?_
 cases hi:D.is<;>simp only[f82,go_sem,ho,hi]
 ·exact⟨by rw[bC,hi];rfl,o2,[],by rw[Af];exact(PZ ho).symm⟩
 ·exact⟨by rw[bC,hi];rfl,o2,[],by rw[Af];exact(PZ ho).symm⟩
include hl hln hr he
theorem AAW:Fa AA 80 [.ptr od 0] H (dg od o0 o1 o3 H (ns D)):=by
 have hlt:=(AC.1 ho).1
 have hw:IntKind.i64.wrap (D.entry.n+1)=D.entry.n+1:=OY FR FR
 refine aC AIo rfl ?_
 have gS:∀x,(H.set od x)[od]? =some x:=λx=>A1 hlt
 have gL:∀x,od<(H.set od x).length:=λx=>by rw[Ao];exact hlt
 have sS:∀x y,(H.set od x).set od y=H.set od y:=λx y=>BB ..
 simp only[f80,go_sem,ho,hw,gS,sS]
 refine Fu.intro (Ml { D with entry:={ D.entry with n:=VW (D.entry.n+1) 65535,at_:=D.tick } } hst hk _ od o0 o1 o2 o3 (gS _)) λv H' hq=>?_
 obtain⟨rfl,w,ext,rfl⟩:=hq
 have hD:ns D=wrD (Gu { D with entry:={ D.entry with n:=VW (D.entry.n+1) 65535,at_:=D.tick } }):=rfl
 rw[hD]
 have k1:=Kd { D with entry:={ D.entry with n:=VW (D.entry.n+1) 65535,at_:=D.tick } }
 generalize Gu { D with entry:={ D.entry with n:=VW (D.entry.n+1) 65535,at_:=D.tick } }=r at k1 ⊢
 obtain⟨D2,b⟩:=r
 obtain⟨k2,k3,k4,k5⟩:=k1
 dsimp only at k2 k3 k4 k5
 rw[sS]
 cases b with
 |false =>
  simp only[go_sem,Aw]
  exact⟨rfl,w,ext,rfl⟩
 |true =>
  have hA:=U5 hlt (some (D2.cf o0 o1 w o3)) ext
  simp only[go_sem,As,hA]
  refine Fu.intro (Ud D2 (by rw[k2];exact hl) (by rw[k2];exact hln) (by rw[k4];exact hr) _ _ (by rw[k5];unfold VW;split<;>simp<;>omega) _ od o0 o1 w o3 hA) λv H' hq=>?_
  obtain⟨rfl,ext2,rfl⟩:=hq
  simp only[go_sem]
  refine⟨rfl,w,ext++ext2, ?_⟩
  rw[LX (gL _),sS,AE]
  rfl
end
end Go.AI
namespace Go.AI
open Go.Proofs
set_option maxRecDepth 50000
theorem Y_(U:List Int)(m:Int)(h:m∈U):(U.filter λx=>decide (m+1<=x)).length<(U.filter λx=>decide (m<=x)).length:=by
 have e:U.filter (λx=>decide (m+1<=x))=(U.filter λx=>decide (m<=x)).filter λx => !decide (x=m):=by
  rw[List.filter_filter]
  congr 1
  funext x
  rw[Bool.eq_iff_iff]
  simp
  omega
 rw[e]
 exact List.length_filter_lt_length_iff_exists.2 ⟨m,by simp[h],sm⟩
def LA(U:List Int)(m:Int):Int:=if m∈U then LA U (m+1)else m
termination_by (U.filter λx=>decide (m<=x)).length
decreasing_by exact Y_ U m (by assumption)
theorem AB9{U:List Int}{m:Int}(h:m∈U):LA U m=LA U (m+1):=by rw[LA,iP h]
theorem xB{U:List Int}{m:Int}(h:m∉U):LA U m=m:=by rw[LA,iN h]
theorem AB8(U:List Int)(m B:Int)(hU:∀x∈U,x<=B)(hm:m<=B+1):m<=LA U m/\LA U m<=B+1:=by
 fun_induction LA U m with
 |case1 m h ih =>
  have:=hU m h
  have:=ih FR
  omega
 |case2 m h=>omega
def MW(D:E_):List Int:=(XT D.st D.step.var).map (·.n)
def Nd(D:E_):E_×Bool :=
 if D.is=true then wrD (Gu { D with entry:={ D.entry with at_:=D.tick } })
 else if D.step.m<LA (MW D) D.step.n then({ D with entry:={ D.entry with n:=LA (MW D) D.step.n,at_:=D.tick } },false)
 else wrD (Gu { D with entry:={ D.entry with n:=LA (MW D) D.step.n,at_:=D.tick } })
def gk:E8:={ h83 with pc:=[29] }
@[go_sem] theorem Afl(k:Nat):gk.lv k=h83.lv k/\gk.ct k=h83.ct k/\gk.at k=h83.at k/\gk.dn k=h83.dn k:=⟨AG rfl rfl,AG rfl rfl,AG rfl rfl,AG rfl rfl⟩
@[go_sem] theorem AgN:gk.tk=[]/\gk.mt=[]/\gk.pc=[29]:=⟨rfl,rfl,rfl⟩
theorem AIl:FK AA 83 f83 gk:=⟨kr,kr,func83,kr⟩
def Xf(D:E_)(e:E7):Bool:=decide (e.var=D.step.var)&&(e.n==(Nx (Ff D.fields D.step.field).1 D.head:Nat))
def bkH(l:List Fld)(h:E9)(q:List (ByteArray×Int)):E9:=q.foldl (λh p=>zG l h p.1 p.2) h
def WZ(D:E_):E_×Bool:=match D.st.find? (Xf D)with
 |none=>(D,false)
 |some y=>({ D with head:=bkH D.fields D.head (D.step.key.zip y.key) },true)
theorem dE{α β:Type}(x:α){y:β}: ∀{a:List α} {b:List β},b[a.length]? =some y->(a++[x]).zip b=a.zip b++[(x,y)]
 |[],[],h=>by simp at h
 |[],z::b,h=>by simp at h;subst h;rfl
 |w::a,[],h=>by simp at h
 |w::a,z::b,h=>by
  have h2:b[a.length]? =some y:=by simpa using h
  rw[AW,B4,dE x h2,B4];rfl
theorem MA{α:Type}(p:α->Bool): ∀(l:List α) (k:Nat),(G9 p k l = -1/\l.find? p=none) \/ ∃(i:Nat) (y:α),G9 p k l=((k+i:Nat):Int)/\l[i]? =some y/\l.find? p=some y
 |[],k => .inl ⟨rfl,rfl⟩
 | x::l,k=>by
  rw[G9]
  by_cases h:p x=true
  ·rw[iP h]
   exact .inr ⟨0,x,rfl,rfl,by rw[Bz,h]⟩
  ·rw[iN h]
   have h2:p x=false:=by simpa using h
   rcases MA p l (k+1)with⟨h3,h4⟩|⟨i,y,h3,h4,h5⟩
   ·exact .inl ⟨h3,by rw[Bz,h2];exact h4⟩
   ·exact .inr ⟨i+1,y,by rw[h3];congr 1;omega,h4,by rw[Bz,h2];exact h5⟩
def hO:E8:={ h84 with pc:=[19,27] }
@[go_sem] theorem Afp(k:Nat):hO.lv k=h84.lv k/\hO.ct k=h84.ct k/\hO.at k=h84.at k/\hO.dn k=h84.dn k:=⟨AG rfl rfl,AG rfl rfl,AG rfl rfl,AG rfl rfl⟩
@[go_sem] theorem AgR:hO.tk=[]/\hO.mt=[]/\hO.pc=[19,27]:=⟨rfl,rfl,rfl⟩
theorem AIp:FK AA 84 f84 hO:=⟨kr,kr,func84,kr⟩
def Qc(s:Stp)(e:E7)(is:Bool)(tick:Int):E7:=if is=true then e else { e with n:=s.n,at_:=tick }
def G_(s:Stp)(e:E7)(tick:Int):Int:=(if 0<tick - e.at_ then tick - e.at_ else 0) / s.m
def Qb(s:Stp)(e:E7)(tick:Int):E7:=if s.n<=e.n+G_ s e tick then { e with n:=s.n,at_:=tick }else { e with n:=e.n+G_ s e tick,at_:=e.at_+G_ s e tick*s.m }
def Qa(e:E7):E7:=if 0<e.n then { e with n:=e.n - 1 }else e
theorem qH{s:Stp}{e:E7}{tick:Int}(hm:1<=s.m):0<=G_ s e tick/\G_ s e tick*s.m<=(if 0<tick - e.at_ then tick - e.at_ else 0):=by
 unfold G_
 have h0:0<=(if 0<tick - e.at_ then tick - e.at_ else 0):=by split<;>omega
 generalize (if 0<tick - e.at_ then tick - e.at_ else 0)=x at h0 ⊢
 exact⟨Int.ediv_nonneg h0 FR,Int.ediv_mul_le _ FR⟩
theorem YZ{s:Stp}{e:E7}{tick:Int}(hm:1<=s.m/\s.m<=1073741824)(he:0<=e.n/\e.n<=65536)(ht:0<=tick/\tick<=1073741824)(ha:0<=e.at_/\e.at_<=1073741824):
  IntKind.i64.wrap (tick - e.at_)=tick - e.at_/\IntKind.i64.wrap ((if tick - e.at_>0 then tick - e.at_ else 0).tdiv s.m)=G_ s e tick/\IntKind.i64.wrap (e.n+G_ s e tick)=e.n+G_ s e tick/\IntKind.i64.wrap (G_ s e tick*s.m)=G_ s e tick*s.m/\IntKind.i64.wrap (e.at_+G_ s e tick*s.m)=e.at_+G_ s e tick*s.m /\
   0<=G_ s e tick/\G_ s e tick*s.m<=1073741824/\G_ s e tick<=1073741824/\0<=G_ s e tick*s.m:=by
 obtain⟨p1,p2⟩:=qH (s:=s) (e:=e) (tick:=tick) hm.1
 have p3:(if 0<tick - e.at_ then tick - e.at_ else 0)<=1073741824:=by split<;>omega
 have p4:G_ s e tick<=G_ s e tick*s.m:=by
  have:=Int.mul_le_mul_of_nonneg_left hm.1 p1
  omega
 have p5:(if tick - e.at_>0 then tick - e.at_ else 0).tdiv s.m=G_ s e tick:=by
  unfold G_
  rw[Int.tdiv_eq_ediv_of_nonneg (by split<;>omega)]
 rw[p5]
 exact⟨OY FR FR,OY FR FR,OY FR FR,OY FR FR,OY FR FR,p1,FR,FR,FR⟩
def gq:E8:={ Y4 with pc:=[] }
@[go_sem] theorem Afm(k:Nat):gq.lv k=Y4.lv k/\gq.ct k=Y4.ct k/\gq.at k=Y4.at k/\gq.dn k=Y4.dn k:=⟨AG rfl rfl,AG rfl rfl,AG rfl rfl,AG rfl rfl⟩
@[go_sem] theorem AgO:gq.tk=[]/\gq.mt=[]/\gq.pc=[]:=⟨rfl,rfl,rfl⟩
theorem AIm:FK AA 85 f85 gq:=⟨kr,kr,func85,kr⟩
def Jd(D:E_):E_×Bool :=
 let e2:=Qb D.step (Qc D.step D.entry D.is D.tick) D.tick
 let r:=Gu { D with entry:=Qa e2 }
 (r.1,r.2&&decide (0<e2.n))
section
variable(D:E_)(hl:Iq D.fields)(hln:D.fields.length<=9223372036854775807)(hst:D.st.length<=1073741823)(hk:∀y∈D.st,y.key.length<=1073741824)(hr:FZ D.head=true)(he:0<=D.entry.n/\D.entry.n<=65535)
variable(H:cj)(od:Nat)(o0 o1 o2 o3:Option Nat)(ho:H[od]? =some (some (D.cf o0 o1 o2 o3)))
include hst hk ho hl hln hr he
theorem Zz(hn:0<=D.step.n/\D.step.n<=65536)(hen:∀y∈D.st,y.n<=65535):Fa AA 83 [.ptr od 0] H (dg od o0 o1 o3 H (Nd D)):=by
 have hlt:=(AC.1 ho).1
 have gS:∀x,(H.set od x)[od]? =some x:=λx=>A1 hlt
 have gL:∀x,od<(H.set od x).length:=λx=>by rw[Ao];exact hlt
 have sS:∀x y,(H.set od x).set od y=H.set od y:=λx y=>BB ..
 have gA:∀x L,(H.set od x++L)[od]? =some x:=λx L=>U5 hlt x L
 have sA:∀x L y,(H.set od x++L).set od y=H.set od y++L:=λx L y=>by rw[LX (gL _),sS]
 refine aC AIl rfl ?_
 cases hi:D.is with
 | true =>
  have e1:Nd D=wrD (Gu { D with entry:={ D.entry with at_:=D.tick },is:=true }):=by unfold Nd;rw[iP hi,<- hi]
  rw[e1]
  simp only[f83,go_sem,ho,gS,hi,As]
  have hEnd:∀(x:Option (List AV)) ext,(H.set od (some (({ D with entry:={ D.entry with at_:=D.tick },is:=true }:E_).cf o0 o1 o2 o3))).set od x++ext=H.set od x++([]++ext):=λx ext=>by rw[sS,AR]
  refine Fu.intro (Ml ({ D with entry:={ D.entry with at_:=D.tick },is:=true }:E_) hst hk _ od o0 o1 o2 o3 (gS _)) λv H' hq=>?_
  obtain⟨rfl,w,ext,rfl⟩:=hq
  have k1:=Kd ({ D with entry:={ D.entry with at_:=D.tick },is:=true }:E_)
  have kn:0<=({ D with entry:={ D.entry with at_:=D.tick },is:=true }:E_).entry.n:=he.1
  generalize Gu ({ D with entry:={ D.entry with at_:=D.tick },is:=true }:E_)=r at k1 ⊢
  obtain⟨D2,b⟩:=r
  obtain⟨k2,k3,k4,k5⟩:=k1
  dsimp only at k2 k3 k4 k5 kn
  cases b with
  |false =>
   simp only[go_sem,Aw]
   exact⟨rfl,w,_,hEnd _ _⟩
  |true =>
   rw[hEnd]
   simp only[go_sem,As,gA]
   refine Fu.intro (Ud D2 (by rw[k2];exact hl) (by rw[k2];exact hln) (by rw[k4];exact hr) _ _ (by rw[k5];exact kn) _ od o0 o1 w o3 (gA _ _)) λv H' hq=>?_
   obtain⟨rfl,ext2,rfl⟩:=hq
   simp only[go_sem]
   refine⟨rfl,w,([]:cj)++ext++ext2, ?_⟩
   rw[sA,<- AE]
   rfl
 | false =>
  simp only[f83,go_sem,ho,gS,gA,hi,Aw]
  apply pK (AGv D.st FR D.step.var)
  simp only[go_sem]
  have hint:AA.underlying 3=some (.int .i64):=by simp only[go_sem]
  have hln2:(XT D.st D.step.var).length<=D.st.length:=List.length_filter_le _ _
  have gM:∀x y L,(H.set od x++y::L)[H.length]? =some y:=λx y L=>by
   rw[AN sm];simp
  have sM:∀x y L z,(H.set od x++y::L).set H.length z=H.set od x++z::L:=λx y L z=>by
   rw[BV _ _ sm];simp
  have gN:∀x y L z,(H.set od x++y::(L++[z]))[List.length (H.set od x++y::L)]? =some z:=λx y L z=>by
   have:H.set od x++y::(L++[z])=(H.set od x++y::L)++[z]:=sm
   rw[this];exact Bg
  have sN:∀x y L z z2,(H.set od x++y::(L++[z])).set (List.length (H.set od x++y::L)) z2=H.set od x++y::(L++[z2]):=λx y L z z2=>by
   have:H.set od x++y::(L++[z])=(H.set od x++y::L)++[z]:=sm
   rw[this];simp
  refine Fg (XT D.st D.step.var) (λ(_:List Int×cj) (_:List E7)=>()) (λk s=>Rw Jy s.1 /\ ∀x,x∈s.1↔x∈((XT D.st D.step.var).take k).map (·.n)) (λk _=>[(0,.ptr od 0),(3,.mapr H.length),(29,.sl none (Fd (XT D.st D.step.var))),(30,.int .i64 (XT D.st D.step.var).length),(31,.int .i64 k)])
   (λ_ s=>H.set od (some (({ D with entry:={ D.entry with at_:=D.tick },is:=false }:E_).cf o0 o1 o2 o3))++some (J6 (LY Jy s.1))::s.2) ([],[]) FR ⟨trivial,λx=>sm⟩ ?_ rfl ?_ ?_
  ·rw[Ao];rfl
  ·rintro k ⟨B,L⟩ x xs hd hx hI _ h0 h1 hw
   dsimp only at hI ⊢
   have hc2:(Entry.c x).take 4=Entry.c x:=rfl
   have hc3:(Entry.c x).length=4:=rfl
   have hc4:(Entry.c x)[2]? =some (.int .i64 x.n):=rfl
   have htk:(XT D.st D.step.var).take (k+1)=(XT D.st D.step.var).take k++[x]:=by rw[BD,hx];rfl
   simp only[go_sem,h0,h1,GX hx,gN,sN,hc2,hc3,hc4]
   refine rr (kt:=3) (et:=4) B x.n (by first|simp only[go_sem]|kernel_rfl) (gM _ _ _) (Vt hint λa ha=>by
    rcases AY.1 ha with rfl|ha
    ·exact⟨_,rfl⟩
    ·obtain⟨z,_,rfl⟩:=AO.1 ha;exact⟨_,rfl⟩) hI.1 ?_
   simp only[go_sem,hw,sM]
   refine⟨(if B.any (λz=>z==x.n)then B else B++[x.n],L++[some (Entry.c x)]),⟨ACV _ hI.1,λy=>?_⟩,rfl,rfl⟩
   rw[htk,Aq,Ar,<- hI.2 y,AS,List.map_nil,Ab]
   dsimp only
   split
   ·rename_i hany
    have:x.n∈B:=by simpa using hany
    exact⟨.inl,λh=>h.elim id λh=>h▸this⟩
   ·rw[Ar,Ab]
  ·rintro ⟨B,L⟩ hI _
   dsimp only at hI ⊢
   rw[BI]at hI
   have hU:∀x,x∈B↔x∈MW D:=hI.2
   have hUB:∀x∈MW D,x<=65535:=λx hx=>by
    obtain⟨y,hy,rfl⟩:=AO.1 hx
    exact hen y (CK.1 hy).1
   simp only[go_sem,AQ,dF,gA,sA]
   refine Ku (σ:=Int) (λ_=>[(0,.ptr od 0),(3,.mapr H.length)])
    (λm=>H.set od (some (({ D with entry:={ D.entry with n:=m,at_:=D.tick },is:=false }:E_).cf o0 o1 o2 o3))++some (J6 (LY Jy B))::L) (λm=>0<=m/\m<=65536/\LA (MW D) D.step.n=LA (MW D) m) (λm=>((MW D).filter λx=>decide (m<=x)).length) D.step.n ⟨hn.1,hn.2,rfl⟩ rfl rfl ?_
   rintro m ⟨m0,m1,m2⟩
   have hwm:IntKind.i64.wrap (m+1)=m+1:=OY FR FR
   simp only[go_sem,gA]
   refine AA' (kt:=3) (et:=4) Jy B (Jy m) (by first|simp only[go_sem]|kernel_rfl) (by first|simp only[go_sem]|kernel_rfl) (gM _ _ _) (Vt hint λa ha=>by
    rcases AY.1 ha with rfl|ha
    ·exact⟨_,rfl⟩
    ·obtain⟨z,_,rfl⟩:=AO.1 ha;exact⟨_,rfl⟩) hI.1 ?_
   rw[rP]
   simp only[go_sem]
   refine cS ?_ ?_<;>intro hc
   ·have hm:m∈MW D:=(hU m).1 (by simpa using hc)
    have:=hUB m hm
    simp only[go_sem,gA,sA,hwm]
    exact⟨m+1,⟨FR,FR,by rw[m2,AB9 hm]⟩,Y_ _ _ hm,rfl,rfl⟩
   ·have hm:m∉MW D:=λh=>by
     have:=(hU m).2 h
     simp at hc
     exact hc m this rfl
    have hf:LA (MW D) D.step.n=m:=by rw[m2,xB hm]
    simp only[go_sem,gA]
    refine cS ?_ ?_<;>intro hc2
    ·have hlt2:D.step.m<m:=by simpa using hc2
     have e1:Nd D=({ D with entry:={ D.entry with n:=m,at_:=D.tick },is:=false },false):=by unfold Nd;rw[iN (by rw[hi];decide),hf,iP hlt2,<- hi]
     rw[e1]
     simp only[go_sem]
     exact⟨rfl,o2,_,rfl⟩
    ·have hlt2:¬D.step.m<m:=by simpa using hc2
     have e1:Nd D=wrD (Gu { D with entry:={ D.entry with n:=m,at_:=D.tick },is:=false }):=by unfold Nd;rw[iN (by rw[hi];decide),hf,iN hlt2,<- hi]
     rw[e1]
     have hEnd:∀(x:Option (List AV)) ext,(H.set od (some (({ D with entry:={ D.entry with n:=m,at_:=D.tick },is:=false }:E_).cf o0 o1 o2 o3))++some (J6 (LY Jy B))::L).set od x++ext=H.set od x++((some (J6 (LY Jy B))::L)++ext):=λx ext=>by rw[sA,AE]
     simp only[go_sem]
     refine Fu.intro (Ml ({ D with entry:={ D.entry with n:=m,at_:=D.tick },is:=false }:E_) hst hk _ od o0 o1 o2 o3 (gA _ _)) λv H' hq=>?_
     obtain⟨rfl,w,ext,rfl⟩:=hq
     have k1:=Kd ({ D with entry:={ D.entry with n:=m,at_:=D.tick },is:=false }:E_)
     have kn:0<=({ D with entry:={ D.entry with n:=m,at_:=D.tick },is:=false }:E_).entry.n:=m0
     generalize Gu ({ D with entry:={ D.entry with n:=m,at_:=D.tick },is:=false }:E_)=r at k1 ⊢
     obtain⟨D2,b⟩:=r
     obtain⟨k2,k3,k4,k5⟩:=k1
     dsimp only at k2 k3 k4 k5 kn
     cases b with
     |false =>
      simp only[go_sem,Aw]
      exact⟨rfl,w,_,hEnd _ _⟩
     |true =>
      rw[hEnd]
      simp only[go_sem,As,gA]
      refine Fu.intro (Ud D2 (by rw[k2];exact hl) (by rw[k2];exact hln) (by rw[k4];exact hr) _ _ (by rw[k5];exact kn) _ od o0 o1 w o3 (gA _ _)) λv H' hq=>?_
      obtain⟨rfl,ext2,rfl⟩:=hq
      simp only[go_sem]
      refine⟨rfl,w,(some (J6 (LY Jy B))::L)++ext++ext2, ?_⟩
      rw[sA,<- AE]
      rfl
omit hk he in
theorem AEu(hf:(Ff D.fields D.step.field).2=true)(hkl:∀y∈D.st,y.var=D.step.var->D.step.key.length<=y.key.length)(hkp:∀y∈D.st,∀x∈y.key,0<=x)(hskl:D.step.key.length<=1048576):Fa AA 84 [.ptr od 0] H (dg od o0 o1 o3 H (WZ D)):=by
 have hlt:=(AC.1 ho).1
 have gS:∀x,(H.set od x)[od]? =some x:=λx=>A1 hlt
 have gL:∀x,od<(H.set od x).length:=λx=>by rw[Ao];exact hlt
 have sS:∀x y,(H.set od x).set od y=H.set od y:=λx y=>BB ..
 have gA:∀x L,(H.set od x++L)[od]? =some x:=λx L=>U5 hlt x L
 have sA:∀x L y,(H.set od x++L).set od y=H.set od y++L:=λx L y=>by rw[LX (gL _),sS]
 have g1:=FY ho
 have hg:=Ir hl hf
 have c1:=Qi D.fields hln D.step.field
 have c2:=mA (Ff D.fields D.step.field).1 hg D.head hr
 have q0:=q_0 H
 have gB:∀y L,(H++y::L)[H.length]? =some y:=λy L=>sm
 have gB1:∀x y L,(H++x::y::L)[H.length+1]? =some y:=λx y L=>sm
 have gB2:∀x y z L,(H++x::y::z::L)[H.length+2]? =some z:=λx y z L=>sm
 have gB3:∀x y z a L,(H++x::y::z::a::L)[H.length+3]? =some a:=λx y z a L=>sm
 have sB1:∀x y a,(H++[x,y]).set (H.length+1) a=H++[x,a]:=λx y a=>sm
 have sB2:∀x y z a,(H++[x,y,z]).set (H.length+2) a=H++[x,y,a]:=λx y z a=>sm
 refine aC AIp rfl ?_
 simp only[f84,go_sem,g1,gB,AU,Nat.reduceAdd]
 apply pK c1
 simp only[go_sem,g1,gB,gB1,sB1,AF,AD,AJ,AU,Nat.reduceAdd]
 apply pK c2
 simp only[go_sem,g1,gB,gB2,sB2,AF,AD,AJ,AU,Nat.reduceAdd]
 have k1:∀x∈D.st,GM AA 156 ([].map AV.borrow++(.agg x.c::[AV.ptr H.length 0,.ptr (H.length+2) 0].map AV.borrow)) (H++[some [.ptr od 0],some (Ff D.fields D.step.field).1.c,some [.int .i64 (Nx (Ff D.fields D.step.field).1 D.head:Nat)]]) (.bool (Xf D x)):=by
  intro x hx
  refine Fa.drop rfl ?_
  have hc3:(Entry.c x).length=4:=rfl
  have hc4:(Entry.c x)[0]? =some (.str x.var):=rfl
  have hc5:(Entry.c x)[2]? =some (.int .i64 x.n):=rfl
  refine aC AQ7 rfl ?_
  cases hv:decide (x.var=D.step.var)with
  |true =>
   simp only[f156,go_sem,g1,gB,gB2,gB3,hc4,hc5,AF,AD,AJ,AU,Nat.reduceAdd,FV,hv]
   exact⟨by rw[Xf,hv,Bool.true_and],_,rfl⟩
  |false =>
   simp only[f156,go_sem,g1,gB,gB3,hc4,AF,AD,AJ,AU,Nat.reduceAdd,FV,hv]
   exact⟨by rw[Xf,hv,Bool.false_and],_,rfl⟩
 refine aS (sZ D.st FR _ [] _ (Xf D) k1) ?_
 simp only[go_sem]
 rcases MA (Xf D) D.st 0 with⟨h3,h4⟩|⟨i,y,h3,h4,h5⟩
 ·have e1:WZ D=(D,false):=by unfold WZ;rw[h4]
  have e2:H8 (Xf D) D.st = -1:=h3
  rw[e1,e2]
  simp only[go_sem]
  exact⟨rfl,o2,_,by rw[PZ ho]⟩
 ·have e1:WZ D=({ D with head:=bkH D.fields D.head (D.step.key.zip y.key) },true):=by unfold WZ;rw[h5]
  have e2:H8 (Xf D) D.st=(i:Int):=by rw[H8,h3,AU]
  have hym:=AB h4
  have hyb:Xf D y=true:=Du h5
  have hyv:y.var=D.step.var:=by unfold Xf at hyb;rw[AM,decide_eq_true_eq]at hyb;exact hyb.1
  have hyl:=hkl y hym hyv
  have i0:¬((i:Int)<0):=FR
  have i1:(0:Int)<=(i:Int):=FR
  rw[e1,e2]
  simp only[go_sem,i0,dF,g1,gB]
  refine Fg D.step.key (λ(_:E9×cj) (_:List ByteArray)=>()) (λk s=>s.1=bkH D.fields D.head ((D.step.key.take k).zip y.key)/\FZ s.1=true) (λk _=>[(1,.ptr H.length 0),(6,.int .i64 (i:Int)),(40,.sl none (HB D.step.key)),(41,.int .i64 D.step.key.length),(42,.int .i64 k)])
   (λ_ s=>H.set od (some (({ D with head:=s.1 }:E_).cf o0 o1 o2 o3))++some [.ptr od 0]::s.2) (D.head,[some (Ff D.fields D.step.field).1.c,some [.int .i64 (Nx (Ff D.fields D.step.field).1 D.head:Nat)]]) FR ⟨rfl,hr⟩ rfl (by rw[PZ ho]) ?_ ?_
  ·rintro k ⟨h,L⟩ x xs hd hx ⟨hI,hrh⟩ _ h0 h1 hw
   dsimp only at hI hrh ⊢
   have hkl2:k<y.key.length:=FR
   have hyk:y.key[k]? =some y.key[k]:=AH hkl2
   have h12:(k:Int)<(y.key.length:Int):=FR
   have h22:(i:Int)<(D.st.length:Int):=by have:=(AC.1 h4).1;omega
   have gM:∀x y L,(H.set od x++y::L)[H.length]? =some y:=λx y L=>by
    rw[AN sm];simp
   simp only[go_sem,h0,h1,Gk hx,gA,gM,i1,GX h4,Gl hyk]
   have hn0:0<=y.key[k]:=hkp y hym _ (CV hkl2)
   refine Fu.intro (Ud { D with head:=h } hl hln hrh x y.key[k] hn0 _ od o0 o1 o2 o3 (gA _ _)) λv H' hq=>?_
   obtain⟨rfl,ext,rfl⟩:=hq
   have htk:(D.step.key.take (k+1)).zip y.key=(D.step.key.take k).zip y.key++[(x,y.key[k])]:=by
    rw[BD,hx]
    have hkk:(D.step.key.take k).length=k:=by rw[BF];omega
    exact dE x (by rw[hkk];exact hyk)
   simp only[go_sem,hw]
   refine⟨(zG D.fields h x y.key[k],L++ext),⟨?_,SQ hl hrh _ hn0⟩,rfl, ?_⟩
   ·show zG D.fields h x y.key[k]=_
    rw[htk]
    unfold bkH at hI ⊢
    rw[List.foldl_append,<- hI];rfl
   ·rw[sA];simp
  ·rintro ⟨h,L⟩ ⟨hI,hrh⟩ _
   dsimp only at hI hrh ⊢
   rw[BI]at hI
   simp only[go_sem,AQ,dF]
   exact⟨rfl,o2,_,by rw[hI]⟩
omit hl hln hr in
theorem AAK(hm:1<=D.step.m/\D.step.m<=1073741824)(hn:0<=D.step.n/\D.step.n<=65536)(ht:0<=D.tick/\D.tick<=1073741824)(hat:0<=D.entry.at_/\D.entry.at_<=1073741824):Fa AA 85 [.ptr od 0] H (dg od o0 o1 o3 H (Jd D)):=by
 have hlt:=(AC.1 ho).1
 have gS:∀x,(H.set od x)[od]? =some x:=λx=>A1 hlt
 have gL:∀x,od<(H.set od x).length:=λx=>by rw[Ao];exact hlt
 have sS:∀x y,(H.set od x).set od y=H.set od y:=λx y=>BB ..
 have gA:∀x L,(H.set od x++L)[od]? =some x:=λx L=>U5 hlt x L
 have sA:∀x L y,(H.set od x++L).set od y=H.set od y++L:=λx L y=>by rw[LX (gL _),sS]
 have g1:=FY ho
 have gB:∀y L,(H++y::L)[H.length]? =some y:=λy L=>sm
 have q0:=q_0 H
 have s1:∀(L:cj) y,(H++L).set od y=H.set od y++L:=λL y=>LX hlt L
 have gM:∀x y L,(H.set od x++y::L)[H.length]? =some y:=λx y L=>by
  rw[AN sm];simp
 have m0:¬D.step.m=0:=FR
 refine aC AIm rfl ?_
 cases hi:D.is with
 | true =>
  obtain⟨f1,f2,f3,f4,f5,f6,f7,f8,f9⟩:=YZ (s:=D.step) (e:=D.entry) (tick:=D.tick) hm FR ht hat
  simp only[f85,go_sem,ho,g1,gB,hi,As,f1,f2,f3,m0]
  have eT:Qc D.step D.entry D.is D.tick=D.entry:=by unfold Qc;rw[iP hi]
  refine cS ?_ ?_<;>intro hc
  ·have hc:=of_decide_eq_true hc
   have eE:Qb D.step (Qc D.step D.entry D.is D.tick) D.tick={ D.entry with n:=D.step.n,at_:=D.tick }:=by rw[eT];unfold Qb;rw[iP hc]
   simp only[go_sem,g1,gB,s1,gA,sA]
   refine cS ?_ ?_<;>intro hp
   ·have hp2:0<(({ D.entry with n:=D.step.n,at_:=D.tick }:E7)).n:=of_decide_eq_true hp
    have hwn:IntKind.i64.wrap (D.step.n - 1)=D.step.n - 1:=OY (by dsimp only at hp2;omega) FR
    have e3:Qa (({ D.entry with n:=D.step.n,at_:=D.tick }:E7))={ ({ D.entry with n:=D.step.n,at_:=D.tick }:E7)with n:=D.step.n - 1 }:=by unfold Qa;rw[iP hp2]
    have e4:Jd D=((Gu ({ D with entry:={ ({ D.entry with n:=D.step.n,at_:=D.tick }:E7)with n:=D.step.n - 1 },is:=D.is }:E_)).1,(Gu ({ D with entry:={ ({ D.entry with n:=D.step.n,at_:=D.tick }:E7)with n:=D.step.n - 1 },is:=D.is }:E_)).2&&true):=by
     unfold Jd;dsimp only;rw[eE,e3,hp]
    simp only[go_sem,gA,sA,hwn]
    refine Fu.intro (Ml ({ D with entry:={ ({ D.entry with n:=D.step.n,at_:=D.tick }:E7)with n:=D.step.n - 1 },is:=D.is }:E_) hst hk _ od o0 o1 o2 o3 (gA _ _)) λv H' hq=>?_
    obtain⟨rfl,w,ext,rfl⟩:=hq
    rw[e4]
    generalize Gu ({ D with entry:={ ({ D.entry with n:=D.step.n,at_:=D.tick }:E7)with n:=D.step.n - 1 },is:=D.is }:E_)=r
    obtain⟨D2,b⟩:=r
    cases b<;>simp only[go_sem,hp]
    ·exact⟨rfl,w,[some (D.step.cf none)]++ext,by rw[sA,AE]⟩
    ·exact⟨rfl,w,[some (D.step.cf none)]++ext,by rw[sA,AE]⟩
   ·have hp2:¬0<(({ D.entry with n:=D.step.n,at_:=D.tick }:E7)).n:=of_decide_eq_false hp
    have e3:Qa (({ D.entry with n:=D.step.n,at_:=D.tick }:E7))=({ D.entry with n:=D.step.n,at_:=D.tick }:E7):=by unfold Qa;rw[iN hp2]
    have e4:Jd D=((Gu ({ D with entry:=({ D.entry with n:=D.step.n,at_:=D.tick }:E7),is:=D.is }:E_)).1,(Gu ({ D with entry:=({ D.entry with n:=D.step.n,at_:=D.tick }:E7),is:=D.is }:E_)).2&&false):=by
     unfold Jd;dsimp only;rw[eE,e3,hp]
    simp only[go_sem]
    refine Fu.intro (Ml ({ D with entry:=({ D.entry with n:=D.step.n,at_:=D.tick }:E7),is:=D.is }:E_) hst hk _ od o0 o1 o2 o3 (gA _ _)) λv H' hq=>?_
    obtain⟨rfl,w,ext,rfl⟩:=hq
    rw[e4]
    generalize Gu ({ D with entry:=({ D.entry with n:=D.step.n,at_:=D.tick }:E7),is:=D.is }:E_)=r
    obtain⟨D2,b⟩:=r
    cases b<;>simp only[go_sem,hp]
    ·exact⟨rfl,w,[some (D.step.cf none)]++ext,by rw[sA,AE]⟩
    ·exact⟨rfl,w,[some (D.step.cf none)]++ext,by rw[sA,AE]⟩
  ·have hc:=of_decide_eq_false hc
   have eE:Qb D.step (Qc D.step D.entry D.is D.tick) D.tick={ D.entry with n:=D.entry.n+G_ D.step D.entry D.tick,at_:=D.entry.at_+G_ D.step D.entry D.tick*D.step.m }:=by rw[eT];unfold Qb;rw[iN hc]
   rw[HT _ _ _ (by simp only[go_sem]) rfl rfl]
   simp only[go_sem,g1,gB,s1,gA,sA,f3,f4,f5]
   refine⟨MG [(some (78,1,false),some (83,1,true))] kr ?_, ?_⟩
   ·intro q hq
    rw[Ab.1 hq]
    exact⟨.inr rfl,.inl FR⟩
   simp only[go_sem,gA]
   refine cS ?_ ?_<;>intro hp
   ·have hp2:0<(({ D.entry with n:=D.entry.n+G_ D.step D.entry D.tick,at_:=D.entry.at_+G_ D.step D.entry D.tick*D.step.m }:E7)).n:=of_decide_eq_true hp
    have hwn:IntKind.i64.wrap ((D.entry.n+G_ D.step D.entry D.tick) - 1)=(D.entry.n+G_ D.step D.entry D.tick) - 1:=OY (by dsimp only at hp2;omega) FR
    have e3:Qa (({ D.entry with n:=D.entry.n+G_ D.step D.entry D.tick,at_:=D.entry.at_+G_ D.step D.entry D.tick*D.step.m }:E7))={ ({ D.entry with n:=D.entry.n+G_ D.step D.entry D.tick,at_:=D.entry.at_+G_ D.step D.entry D.tick*D.step.m }:E7)with n:=(D.entry.n+G_ D.step D.entry D.tick) - 1 }:=by unfold Qa;rw[iP hp2]
    have e4:Jd D=((Gu ({ D with entry:={ ({ D.entry with n:=D.entry.n+G_ D.step D.entry D.tick,at_:=D.entry.at_+G_ D.step D.entry D.tick*D.step.m }:E7)with n:=(D.entry.n+G_ D.step D.entry D.tick) - 1 },is:=D.is }:E_)).1,(Gu ({ D with entry:={ ({ D.entry with n:=D.entry.n+G_ D.step D.entry D.tick,at_:=D.entry.at_+G_ D.step D.entry D.tick*D.step.m }:E7)with n:=(D.entry.n+G_ D.step D.entry D.tick) - 1 },is:=D.is }:E_)).2&&true):=by
     unfold Jd;dsimp only;rw[eE,e3,hp]
    simp only[go_sem,gA,sA,hwn]
    refine Fu.intro (Ml ({ D with entry:={ ({ D.entry with n:=D.entry.n+G_ D.step D.entry D.tick,at_:=D.entry.at_+G_ D.step D.entry D.tick*D.step.m }:E7)with n:=(D.entry.n+G_ D.step D.entry D.tick) - 1 },is:=D.is }:E_) hst hk _ od o0 o1 o2 o3 (gA _ _)) λv H' hq=>?_
    obtain⟨rfl,w,ext,rfl⟩:=hq
    rw[e4]
    generalize Gu ({ D with entry:={ ({ D.entry with n:=D.entry.n+G_ D.step D.entry D.tick,at_:=D.entry.at_+G_ D.step D.entry D.tick*D.step.m }:E7)with n:=(D.entry.n+G_ D.step D.entry D.tick) - 1 },is:=D.is }:E_)=r
    obtain⟨D2,b⟩:=r
    cases b<;>simp only[go_sem,hp]
    ·exact⟨rfl,w,[some (D.step.cf none)]++ext,by rw[sA,AE]⟩
    ·exact⟨rfl,w,[some (D.step.cf none)]++ext,by rw[sA,AE]⟩
   ·have hp2:¬0<(({ D.entry with n:=D.entry.n+G_ D.step D.entry D.tick,at_:=D.entry.at_+G_ D.step D.entry D.tick*D.step.m }:E7)).n:=of_decide_eq_false hp
    have e3:Qa (({ D.entry with n:=D.entry.n+G_ D.step D.entry D.tick,at_:=D.entry.at_+G_ D.step D.entry D.tick*D.step.m }:E7))=({ D.entry with n:=D.entry.n+G_ D.step D.entry D.tick,at_:=D.entry.at_+G_ D.step D.entry D.tick*D.step.m }:E7):=by unfold Qa;rw[iN hp2]
    have e4:Jd D=((Gu ({ D with entry:=({ D.entry with n:=D.entry.n+G_ D.step D.entry D.tick,at_:=D.entry.at_+G_ D.step D.entry D.tick*D.step.m }:E7),is:=D.is }:E_)).1,(Gu ({ D with entry:=({ D.entry with n:=D.entry.n+G_ D.step D.entry D.tick,at_:=D.entry.at_+G_ D.step D.entry D.tick*D.step.m }:E7),is:=D.is }:E_)).2&&false):=by
     unfold Jd;dsimp only;rw[eE,e3,hp]
    simp only[go_sem]
    refine Fu.intro (Ml ({ D with entry:=({ D.entry with n:=D.entry.n+G_ D.step D.entry D.tick,at_:=D.entry.at_+G_ D.step D.entry D.tick*D.step.m }:E7),is:=D.is }:E_) hst hk _ od o0 o1 o2 o3 (gA _ _)) λv H' hq=>?_
    obtain⟨rfl,w,ext,rfl⟩:=hq
    rw[e4]
    generalize Gu ({ D with entry:=({ D.entry with n:=D.entry.n+G_ D.step D.entry D.tick,at_:=D.entry.at_+G_ D.step D.entry D.tick*D.step.m }:E7),is:=D.is }:E_)=r
    obtain⟨D2,b⟩:=r
    cases b<;>simp only[go_sem,hp]
    ·exact⟨rfl,w,[some (D.step.cf none)]++ext,by rw[sA,AE]⟩
    ·exact⟨rfl,w,[some (D.step.cf none)]++ext,by rw[sA,AE]⟩
 | false =>
  obtain⟨f1,f2,f3,f4,f5,f6,f7,f8,f9⟩:=YZ (s:=D.step) (e:={ D.entry with n:=D.step.n,at_:=D.tick }) (tick:=D.tick) hm (by dsimp only;omega) ht (by dsimp only;omega)
  dsimp only at f1 f2 f3 f4 f5 f6 f7 f8 f9
  have hcc:D.step.n<=D.step.n+G_ D.step { D.entry with n:=D.step.n,at_:=D.tick } D.tick:=Int.le_add_of_nonneg_right f6
  have eE:Qb D.step (Qc D.step D.entry D.is D.tick) D.tick={ D.entry with n:=D.step.n,at_:=D.tick }:=by unfold Qc;rw[iN (by rw[hi];decide)];unfold Qb;rw[iP hcc]
  simp only[f85,go_sem,ho,g1,gB,hi,Aw,s1,gA,sA,gM,f1,f2,f3,m0,hcc,dT]
  refine cS ?_ ?_<;>intro hp
  ·have hp2:0<(({ D.entry with n:=D.step.n,at_:=D.tick }:E7)).n:=of_decide_eq_true hp
   have hwn:IntKind.i64.wrap (D.step.n - 1)=D.step.n - 1:=OY (by dsimp only at hp2;omega) FR
   have e3:Qa (({ D.entry with n:=D.step.n,at_:=D.tick }:E7))={ ({ D.entry with n:=D.step.n,at_:=D.tick }:E7)with n:=D.step.n - 1 }:=by unfold Qa;rw[iP hp2]
   have e4:Jd D=((Gu ({ D with entry:={ ({ D.entry with n:=D.step.n,at_:=D.tick }:E7)with n:=D.step.n - 1 },is:=false }:E_)).1,(Gu ({ D with entry:={ ({ D.entry with n:=D.step.n,at_:=D.tick }:E7)with n:=D.step.n - 1 },is:=false }:E_)).2&&true):=by
    unfold Jd;dsimp only;rw[eE,e3,hp,hi]
   simp only[go_sem,gA,sA,hwn]
   refine Fu.intro (Ml ({ D with entry:={ ({ D.entry with n:=D.step.n,at_:=D.tick }:E7)with n:=D.step.n - 1 },is:=false }:E_) hst hk _ od o0 o1 o2 o3 (gA _ _)) λv H' hq=>?_
   obtain⟨rfl,w,ext,rfl⟩:=hq
   rw[e4]
   generalize Gu ({ D with entry:={ ({ D.entry with n:=D.step.n,at_:=D.tick }:E7)with n:=D.step.n - 1 },is:=false }:E_)=r
   obtain⟨D2,b⟩:=r
   cases b<;>simp only[go_sem,hp]
   ·exact⟨rfl,w,[some (D.step.cf none)]++ext,by rw[sA,AE]⟩
   ·exact⟨rfl,w,[some (D.step.cf none)]++ext,by rw[sA,AE]⟩
  ·have hp2:¬0<(({ D.entry with n:=D.step.n,at_:=D.tick }:E7)).n:=of_decide_eq_false hp
   have e3:Qa (({ D.entry with n:=D.step.n,at_:=D.tick }:E7))=({ D.entry with n:=D.step.n,at_:=D.tick }:E7):=by unfold Qa;rw[iN hp2]
   have e4:Jd D=((Gu ({ D with entry:=({ D.entry with n:=D.step.n,at_:=D.tick }:E7),is:=false }:E_)).1,(Gu ({ D with entry:=({ D.entry with n:=D.step.n,at_:=D.tick }:E7),is:=false }:E_)).2&&false):=by
    unfold Jd;dsimp only;rw[eE,e3,hp,hi]
   simp only[go_sem]
   refine Fu.intro (Ml ({ D with entry:=({ D.entry with n:=D.step.n,at_:=D.tick }:E7),is:=false }:E_) hst hk _ od o0 o1 o2 o3 (gA _ _)) λv H' hq=>?_
   obtain⟨rfl,w,ext,rfl⟩:=hq
   rw[e4]
   generalize Gu ({ D with entry:=({ D.entry with n:=D.step.n,at_:=D.tick }:E7),is:=false }:E_)=r
   obtain⟨D2,b⟩:=r
   cases b<;>simp only[go_sem,hp]
   ·exact⟨rfl,w,[some (D.step.cf none)]++ext,by rw[sA,AE]⟩
   ·exact⟨rfl,w,[some (D.step.cf none)]++ext,by rw[sA,AE]⟩
end
end Go.AI
namespace Go.AI
open Go.Proofs
set_option maxRecDepth 50000
def Qv(l:List Fld)(names:List ByteArray)(h:E9):List Int:=names.map λnm=>((Nx (Ff l nm).1 h:Nat):Int)
theorem Vw(l:List Fld)(names:List ByteArray)(h:E9):(Qv l names h).length=names.length:=by simp[Qv]
theorem AII(l:List Fld)(hl:Iq l)(hln:l.length<=9223372036854775807)(names:List ByteArray)(hn:names.length<=1073741824)(hf:∀nm∈names,(Ff l nm).2=true)(h:E9)(hr:FZ h=true):
  FT AA 86 [.sl none (GL l),.sl none (HB names),.agg h.c] (.tup [.sl none (GK (Qv l names h)),.bool true]):=by
 refine pB AY3 rfl ?_ (hv:=by simp only[AV.pure,FW,Jp,Bool.and_true])
 simp only[f86,go_sem]
 have gN:∀x (L:cj) z,(x::(L++[z]))[List.length (x::L)]? =some z:=λx L z=>by
  have:x::(L++[z])=(x::L)++[z]:=sm
  rw[this];exact Bg
 have sN:∀x (L:cj) z z2,(x::(L++[z])).set (List.length (x::L)) z2=x::(L++[z2]):=λx L z z2=>by
  have:x::(L++[z])=(x::L)++[z]:=sm
  rw[this];simp
 refine Fg names (λ(_:cj) (_:List ByteArray)=>()) (λ_ _=>True) (λk _=>[(0,.sl none (GL l)),(5,.ptr 0 0),(8,.sl (some 1) (GK (Qv l (names.take k) h))),(13,.sl none (HB names)),(14,.int .i64 names.length),(15,.int .i64 k)])
  (λ_ L=>some h.c::L) [] FR trivial rfl rfl ?_ ?_
 ·intro k L x xs hd hx _ _ h0 h1 hw
  have hk2:=Fq hd
  have hfx:=hf x (AB hx)
  have hg:=Ir hl hfx
  have c1:=Qi l hln x
  rw[hfx]at c1
  have c2:=mA (Ff l x).1 hg h hr
  have hlen:(GK (Qv l (names.take k) h)).length=k:=by rw[HR,Vw,BF];omega
  have htk:Qv l (names.take (k+1)) h=Qv l (names.take k) h++[((Nx (Ff l x).1 h:Nat):Int)]:=by
   rw[BD,hx];simp[Qv]
  simp only[go_sem,h0,h1,Gk hx]
  apply pK c1
  simp only[go_sem]
  apply pK c2
  simp only[go_sem,hlen,hw]
  exact⟨FR,FR,_,by rw[htk],rfl⟩
 ·intro L _ _
  simp only[go_sem,AQ,dF,BI]
def lC(l:List Fld)(s:Stp)(st:List E7)(h:E9)(tick:Int):E_ :=
 ⟨l,s,st,h,tick,(QM st s.var (Qv l s.key h)).getD ⟨s.var,Qv l s.key h,0,0⟩,(QM st s.var (Qv l s.key h)).isSome⟩
def doM(D:E_):E_×Bool :=
 if D.step.kind=1 then ns D else if D.step.kind=2 then AGw D else if D.step.kind=3 then bC D else if D.step.kind=4 then Nd D else if D.step.kind=5 then WZ D else Jd D
def lB(l:List Fld)(s:Stp)(st:List E7)(h:E9)(tick:Int):E9×Bool×List E7 :=
 if s.kind=0 then(h,true,st)else
  let r:=doM (lC l s st h tick)
  (if r.2=true then r.1.head else h,r.2,r.1.st)
structure okStp (l:List Fld) (s:Stp):Prop where
 kind:0<=s.kind/\s.kind<=6
 klen:s.key.length<=1048576
 key:s.kind≠0 -> ∀nm∈s.key,(Ff l nm).2=true
 n:s.kind=4\/s.kind=6->0<=s.n/\s.n<=65535
 m4:s.kind=4->s.m<=65535
 m:s.kind=6->1<=s.m/\s.m<=1073741824
 back:s.kind=5->(Ff l s.field).2=true
def fR(e:E7):Prop:=(0<=e.n/\e.n<=65535)/\(0<=e.at_/\e.at_<=1073741824)/\e.key.length<=1048576 /\ ∀x∈e.key,0<=x
def Yr(s:Stp)(e:E7):Prop:=s.kind≠0->e.var=s.var->e.key.length=s.key.length
def Uh:List AV:=[.nilf,.fn (.func 80) [] [],.fn (.func 81) [] [],.fn (.func 82) [] [],.fn (.func 83) [] [],.fn (.func 84) [] [],.fn (.func 85) [] []]
structure okDo (D:E_):Prop where
 fs:Iq D.fields
 fl:D.fields.length<=1073741824
 sl:D.st.length<=1073741823
 st:∀e∈D.st,fR e
 key:∀e∈D.st,Yr D.step e
 step:okStp D.fields D.step
 head:FZ D.head=true
 tick:0<=D.tick/\D.tick<=1073741824
 n:0<=D.entry.n/\D.entry.n<=65535
 at_:0<=D.entry.at_/\D.entry.at_<=1073741824
theorem AXq(D:E_)(hD:okDo D)(h0:D.step.kind≠0)(H:cj)(od:Nat)(o0 o1 o2 o3:Option Nat)(ho:H[od]? =some (some (D.cf o0 o1 o2 o3)))(g:FuncId)(hg:Uh[D.step.kind.toNat]? =some (.fn (.func g) [] [])):Fa AA g [.ptr od 0] H (dg od o0 o1 o3 H (doM D)):=by
 have hlk:∀y∈D.st,y.key.length<=1073741824:=λy hy=>by have:=(hD.st y hy).2.2.1;omega
 have hln:D.fields.length<=9223372036854775807:=by have:=hD.fl;omega
 have hs:=hD.step
 unfold doM
 have hk:D.step.kind=1\/D.step.kind=2\/D.step.kind=3\/D.step.kind=4\/D.step.kind=5\/D.step.kind=6:=by have:=hs.kind;omega
 rcases hk with e|e|e|e|e|e<;>rw[e]at hg ⊢ <;> simp only[Uh,List.getElem?_cons_succ,A7,Option.some.injEq,AV.fn.injEq,Fn.func.injEq,and_true,show(1:Int).toNat=1 from rfl,show(2:Int).toNat=2 from rfl,show(3:Int).toNat=3 from rfl,show(4:Int).toNat=4 from rfl,show(5:Int).toNat=5 from rfl,show(6:Int).toNat=6 from rfl]at hg<;>subst hg
 ·rw[iP rfl]
  exact AAW D hD.fs hln hD.sl hlk hD.head hD.n H od o0 o1 o2 o3 ho
 ·rw[iN dc,iP rfl]
  exact AEo D hD.sl hlk H od o0 o1 o2 o3 ho
 ·rw[iN dc,iN dc,iP rfl]
  exact AAY D hD.sl hlk H od o0 o1 o2 o3 ho
 ·rw[iN dc,iN dc,iN dc,iP rfl]
  exact Zz D hD.fs hln hD.sl hlk hD.head hD.n H od o0 o1 o2 o3 ho (by have:=hs.n (.inl e);omega) λy hy=>(hD.st y hy).1.2
 ·rw[iN dc,iN dc,iN dc,iN dc,iP rfl]
  exact AEu D hD.fs hln hD.sl hD.head H od o0 o1 o2 o3 ho (hs.back e) (λy hy hv=>by have:=hD.key y hy h0 hv;omega) (λy hy=>(hD.st y hy).2.2.2) hs.klen
 ·rw[iN dc,iN dc,iN dc,iN dc,iN dc]
  exact AAK D hD.sl hlk hD.n H od o0 o1 o2 o3 ho (hs.m e) (by have:=hs.n (.inr e);omega) hD.tick hD.at_
theorem S2{l:List E7}{v:ByteArray}{key:List Int}{y:E7}(h:QM l v key=some y):y∈l:=by
 unfold QM at h
 split at h
 ·exact AB h
 ·cases h
theorem ACU{l:List Fld}(hl:Iq l)(hln:l.length<=1073741824){s:Stp}(hs:okStp l s){st:List E7}(hst:st.length<=1073741823)(he:∀e∈st,fR e)(hk:∀e∈st,Yr s e){h:E9}(hr:FZ h=true){tick:Int}(ht:0<=tick/\tick<=1073741824):okDo (lC l s st h tick):=by
 refine⟨hl,hln,hst,he,hk,hs,hr,ht, ?_, ?_⟩<;>unfold lC<;>dsimp only<;>cases hf:QM st s.var (Qv l s.key h)with
 |none=>simp
 |some y=>first|exact(he y (S2 hf)).1|exact(he y (S2 hf)).2.1
theorem Af9(l:List Fld)(hl:Iq l)(hln:l.length<=1073741824)(s:Stp)(hs:okStp l s)(st:List E7)(hst:st.length<=1073741823)(he:∀e∈st,fR e)(hk:∀e∈st,Yr s e)(h:E9)(hr:FZ h=true)(tick:Int)(ht:0<=tick/\tick<=1073741824):
  FT AA 41 [.sl none (GL l),.agg s.c,.sl none (Fd st),.agg h.c,.int .i64 tick] (.tup [.agg (lB l s st h tick).1.c,.bool (lB l s st h tick).2.1,.sl none (Fd (lB l s st h tick).2.2)]):=by
 refine pB Aa' rfl ?_
 by_cases h0:s.kind=0
 ·have e1:lB l s st h tick=(h,true,st):=by unfold lB;rw[iP h0]
  rw[e1]
  have h0b:(s.kind==0)=true:=by rw[h0];rfl
  simp only[f41,go_sem,h0b]
 ·have h0b:(s.kind==0)=false:=by rw[beq_eq_false_iff_ne];exact h0
  have c1:=AII l hl FR s.key (by have:=hs.klen;omega) (hs.key h0) h hr
  have c2:=AEs st FR (λy hy=>by have:=(he y hy).2.2.1;omega) s.var (Qv l s.key h)
  have hnv:AV.nilf.isVal=true:=rfl
  simp only[f41,go_sem,h0b,hnv]
  apply pK c1
  simp only[go_sem]
  apply pK c2
  have hi0:(0:Int)<=s.kind:=hs.kind.1
  have hi1:s.kind<((7:Nat):Int):=by have:=hs.kind;omega
  have hD:=ACU hl hln hs hst he hk hr ht
  obtain⟨g,hg⟩:∃g,Uh[s.kind.toNat]? =some (.fn (.func g) [] []):=by
   have hkc:s.kind=1\/s.kind=2\/s.kind=3\/s.kind=4\/s.kind=5\/s.kind=6:=FR
   rcases hkc with e|e|e|e|e|e<;>rw[e]<;>exact⟨_,rfl⟩
  have hM:=λH od o0 o1 o2 o3 ho=>AXq (lC l s st h tick) hD h0 H od o0 o1 o2 o3 ho g hg
  unfold Uh at hg
  have e1:lB l s st h tick=(if(doM (lC l s st h tick)).2=true then(doM (lC l s st h tick)).1.head else h,(doM (lC l s st h tick)).2,(doM (lC l s st h tick)).1.st):=by unfold lB;rw[iN h0]
  rw[e1]
  cases hfd:QM st s.var (Qv l s.key h)with
  | none =>
   simp only[go_sem,hi0,hi1,hg]
   refine Fu.intro (hM _ 4 none none none none (by unfold lC;rw[hfd];rfl)) λv H' hq=>?_
   obtain⟨rfl,w,ext,rfl⟩:=hq
   generalize doM (lC l s st h tick)=r
   obtain⟨D2,b⟩:=r
   cases b
   ·simp only[go_sem]
    rw[HT _ _ _ (by simp only[go_sem]) rfl rfl]
    simp only[go_sem]
    refine⟨MG [(some (74,1,false),some (10,10,true))] kr ?_, ?_⟩
    ·intro q hq
     rw[Ab.1 hq]
     exact⟨.inr rfl,.inl dc⟩
    simp only[go_sem]
   ·simp only[go_sem]
    rw[HT _ _ _ (by simp only[go_sem]) rfl rfl]
    simp only[go_sem]
    refine⟨MG [(some (82,1,false),some (10,10,true))] kr ?_, ?_⟩
    ·intro q hq
     rw[Ab.1 hq]
     exact⟨.inr rfl,.inl dc⟩
    simp only[go_sem]
  | some y =>
   simp only[go_sem,hi0,hi1,hg]
   refine Fu.intro (hM _ 4 none none none none (by unfold lC;rw[hfd];rfl)) λv H' hq=>?_
   obtain⟨rfl,w,ext,rfl⟩:=hq
   generalize doM (lC l s st h tick)=r
   obtain⟨D2,b⟩:=r
   cases b
   ·simp only[go_sem]
    rw[HT _ _ _ (by simp only[go_sem]) rfl rfl]
    simp only[go_sem]
    refine⟨MG [(some (74,1,false),some (10,10,true))] kr ?_, ?_⟩
    ·intro q hq
     rw[Ab.1 hq]
     exact⟨.inr rfl,.inl dc⟩
    simp only[go_sem]
   ·simp only[go_sem]
    rw[HT _ _ _ (by simp only[go_sem]) rfl rfl]
    simp only[go_sem]
    refine⟨MG [(some (82,1,false),some (10,10,true))] kr ?_, ?_⟩
    ·intro q hq
     rw[Ab.1 hq]
     exact⟨.inr rfl,.inl dc⟩
    simp only[go_sem]
structure okPrg (l:List Fld) (p:List FA):Prop where
 stp:∀s∈p,okStp l s.step
 pol:∀s∈p,Hm l s.policy
 key:∀s∈p,∀t∈p,s.step.kind≠0->t.step.kind≠0->s.step.var=t.step.var->s.step.key.length=t.step.key.length
def Om(p:List FA)(st:List E7):Prop:=∀e∈st,fR e /\ ∀t∈p,Yr t.step e
theorem ABd{l:List E7}{i:Nat}{e x:E7}(h:x∈V2 l i e):x=e\/x∈l:=by
 unfold V2 at h
 rcases Ar.1 h with h|h
 ·exact .inr (List.mem_of_mem_take h)
 ·rcases AY.1 h with h|h
  ·exact .inl h
  ·exact .inr (List.mem_of_mem_drop h)
theorem AAF{l:List E7}{e x:E7}(h:x∈Qg l e):x=e\/x∈l:=by
 unfold Qg at h
 split at h
 ·exact(List.mem_or_eq_of_mem_set h).symm
 ·exact ABd h
theorem AAG(l:List E7)(e:E7):(Qg l e).length<=l.length+1:=by
 unfold Qg
 split
 ·rw[Ao];omega
 ·rw[gV (ACt l e)];omega
def aI(D:E_)(r:E_×Bool)(P:E7->Prop):Prop:=FZ r.1.head=true/\(r.1.st=D.st \/ ∃e,P e/\r.1.st=Qg D.st e)
theorem J_{D:E_}(hr:FZ D.head=true){P:E7->Prop}(he:P D.entry):aI D (Gu D) P:=by
 unfold Gu
 split
 ·exact⟨hr,.inl rfl⟩
 ·exact⟨hr,.inr ⟨_,he,rfl⟩⟩
theorem QX{D:E_}{r:E_×Bool}{P:E7->Prop}(hl:Iq r.1.fields)(hn:0<=r.1.entry.n)(h:aI D r P):aI D (wrD r) P:=by
 unfold wrD
 split
 ·exact⟨SQ hl h.1 _ hn,h.2⟩
 ·exact h
theorem ZT{l:List Fld}(hl:Iq l): ∀(q:List (ByteArray×Int)) {h:E9},FZ h=true->(∀x∈q,0<=x.2)->FZ (bkH l h q)=true
 |[],_,hr,_=>hr
 |x::q,h,hr,hq=>ZT hl q (SQ hl hr _ (hq x (CO ..))) λy hy=>hq y (B0 _ hy)
theorem np{D:E_}(hD:okDo D)(h0:D.step.kind≠0):aI D (doM D) λe=>e.var=D.entry.var/\e.key=D.entry.key/\(0<=e.n/\e.n<=65535)/\(0<=e.at_/\e.at_<=1073741824):=by
 have hs:=hD.step
 have hn:=hD.n
 have ha:=hD.at_
 have ht:=hD.tick
 have hk:D.step.kind=1\/D.step.kind=2\/D.step.kind=3\/D.step.kind=4\/D.step.kind=5\/D.step.kind=6:=by have:=hs.kind;omega
 unfold doM
 rcases hk with e|e|e|e|e|e<;>rw[e]
 ·rw[iP rfl]
  have k:=Kd { D with entry:={ D.entry with n:=VW (D.entry.n+1) 65535,at_:=D.tick } }
  have hm:0<=VW (D.entry.n+1) 65535/\VW (D.entry.n+1) 65535<=65535:=by unfold VW;split<;>omega
  exact QX (by rw[k.1];exact hD.fs) (by rw[k.2.2.2];exact hm.1) (J_ (D:={ D with entry:={ D.entry with n:=VW (D.entry.n+1) 65535,at_:=D.tick } }) hD.head ⟨rfl,rfl,hm,ht⟩)
 ·rw[iN dc,iP rfl]
  exact J_ (D:={ D with entry:={ D.entry with at_:=D.tick } }) hD.head ⟨rfl,rfl,hn,ht⟩
 ·rw[iN dc,iN dc,iP rfl]
  exact⟨hD.head,.inl rfl⟩
 ·rw[iN dc,iN dc,iN dc,iP rfl]
  have hn4:=hs.n (.inl e)
  have hm4:=hs.m4 e
  have hU:=AB8 (MW D) D.step.n 65535 (λx hx=>by
   obtain⟨y,hy,rfl⟩:=AO.1 hx
   exact(hD.st y (CK.1 hy).1).1.2) FR
  unfold Nd
  split
  ·have k:=Kd { D with entry:={ D.entry with at_:=D.tick } }
   exact QX (by rw[k.1];exact hD.fs) (by rw[k.2.2.2];exact hn.1) (J_ (D:={ D with entry:={ D.entry with at_:=D.tick } }) hD.head ⟨rfl,rfl,hn,ht⟩)
  ·split
   ·exact⟨hD.head,.inl rfl⟩
   ·rename_i hlt
    have k:=Kd { D with entry:={ D.entry with n:=LA (MW D) D.step.n,at_:=D.tick } }
    exact QX (by rw[k.1];exact hD.fs) (by rw[k.2.2.2];dsimp only;omega) (J_ (D:={ D with entry:={ D.entry with n:=LA (MW D) D.step.n,at_:=D.tick } }) hD.head ⟨rfl,rfl,by dsimp only;omega,ht⟩)
 ·rw[iN dc,iN dc,iN dc,iN dc,iP rfl]
  unfold WZ
  split
  ·exact⟨hD.head,.inl rfl⟩
  ·rename_i y hy
   exact⟨ZT hD.fs _ hD.head λx hx=>(hD.st y (List.mem_of_find?_eq_some hy)).2.2.2 x.2 (List.of_mem_zip hx).2,.inl rfl⟩
 ·rw[iN dc,iN dc,iN dc,iN dc,iN dc]
  have hm6:=hs.m e
  have hn6:=hs.n (.inr e)
  unfold Jd
  dsimp only
  have ht1:(0<=(Qc D.step D.entry D.is D.tick).n/\(Qc D.step D.entry D.is D.tick).n<=65535)/\(0<=(Qc D.step D.entry D.is D.tick).at_/\(Qc D.step D.entry D.is D.tick).at_<=1073741824)/\(Qc D.step D.entry D.is D.tick).var=D.entry.var/\(Qc D.step D.entry D.is D.tick).key=D.entry.key:=by
   unfold Qc
   split
   ·exact⟨hn,ha,rfl,rfl⟩
   ·exact⟨hn6,ht,rfl,rfl⟩
  generalize Qc D.step D.entry D.is D.tick=e1 at ht1 ⊢
  have ht2:(0<=(Qb D.step e1 D.tick).n/\(Qb D.step e1 D.tick).n<=65535)/\(0<=(Qb D.step e1 D.tick).at_/\(Qb D.step e1 D.tick).at_<=1073741824)/\(Qb D.step e1 D.tick).var=D.entry.var/\(Qb D.step e1 D.tick).key=D.entry.key:=by
   obtain⟨p1,p2⟩:=qH (s:=D.step) (e:=e1) (tick:=D.tick) hm6.1
   have p3:e1.at_+(if 0<D.tick - e1.at_ then D.tick - e1.at_ else 0)<=1073741824:=by split<;>omega
   have p4:0<=G_ D.step e1 D.tick*D.step.m:=Int.mul_nonneg p1 FR
   unfold Qb
   split
   ·exact⟨hn6,ht,ht1.2.2.1,ht1.2.2.2⟩
   ·exact⟨by dsimp only;omega,by dsimp only;omega,ht1.2.2.1,ht1.2.2.2⟩
  generalize Qb D.step e1 D.tick=e2 at ht2 ⊢
  refine J_ (D:={ D with entry:=Qa e2 }) hD.head ?_
  dsimp only
  unfold Qa
  split
  ·exact⟨ht2.2.2.1,ht2.2.2.2,by dsimp only;omega,ht2.2.1⟩
  ·exact⟨ht2.2.2.1,ht2.2.2.2,ht2.1,ht2.2.1⟩
theorem q8{l:List Fld}(hl:Iq l)(hln:l.length<=1073741824){p:List FA}(hp:okPrg l p){s:FA}(hs:s∈p){st:List E7}(hst:st.length<=1073741823)(he:Om p st){h:E9}(hr:FZ h=true){tick:Int}(ht:0<=tick/\tick<=1073741824):
  FZ (lB l s.step st h tick).1=true/\Om p (lB l s.step st h tick).2.2/\(lB l s.step st h tick).2.2.length<=st.length+1:=by
 unfold lB
 split
 ·exact⟨hr,he,by dsimp only;omega⟩
 ·rename_i h0
  have hD:=ACU hl hln (hp.stp s hs) hst (λe hx=>(he e hx).1) (λe hx=>(he e hx).2 s hs) hr ht
  obtain⟨l1,l2⟩:=np hD h0
  have hent:(∀t∈p,Yr t.step (lC l s.step st h tick).entry)/\(lC l s.step st h tick).entry.key.length<=1048576 /\ ∀x∈(lC l s.step st h tick).entry.key,0<=x:=by
   unfold lC
   dsimp only
   cases hf:QM st s.step.var (Qv l s.step.key h)with
   | none =>
    refine⟨λt ht h1 h2=>?_, ?_, ?_⟩
    ·rw[BH,Vw]
     exact hp.key s hs t ht h0 h1 h2
    ·rw[BH,Vw];exact(hp.stp s hs).klen
    ·rw[BH]
     intro x hx
     obtain⟨nm,_,rfl⟩:=AO.1 hx
     omega
   |some y =>
    have hy:=he y (S2 hf)
    exact⟨hy.2,hy.1.2.2.1,hy.1.2.2.2⟩
  dsimp only
  refine⟨by split<;>assumption, ?_, ?_⟩
  ·rcases l2 with l2|⟨e,⟨v1,v2,v3,v4⟩,l2⟩
   ·rw[l2];exact he
   ·rw[l2]
    intro x hx
    rcases AAF hx with rfl|hx
    ·exact⟨⟨v3,v4,by rw[v2];exact hent.2.1,by rw[v2];exact hent.2.2⟩,λt ht h1 h2=>by rw[v2];rw[v1]at h2;exact hent.1 t ht h1 h2⟩
    ·exact he x hx
  ·rcases l2 with l2|⟨e,_,l2⟩
   ·rw[l2];exact DS _
   ·rw[l2];exact AAG _ _
def w6(l:List Fld)(tick:Int)(x:Policy)(given:List E9):List E9->Option (List E9)
 |[]=>some given
 |g::r=>match vO l tick x g with
  |none=>none
  |some some'=>if 256<(given++some').length then none else w6 l tick x (given++some') r
def yq(l:List Fld)(s:Stp)(tick:Int)(a:List E9×List E7):List E9->List E9×List E7
 |[]=>a
 |g::r=>yq l s tick (if(lB l s a.2 g tick).2.1=true then a.1++[(lB l s a.2 g tick).1]else a.1,(lB l s a.2 g tick).2.2) r
def RU(l:List Fld)(tick:Int)(a:List E9×List E7):List FA->Option (List E9×List E7)
 |[]=>some a
 |s::r=>match w6 l tick s.policy [] a.1 with
  |none=>none
  |some given=>RU l tick (yq l s.step tick ([],a.2) given) r
def Ly(l:List Fld)(p:List FA)(st:List E7)(h:E9)(tick:Int):Option (List E9×List E7):=RU l tick ([h],st) p
def sH(st:List E7):Option (List E9×List E7)->AV
 |some a => .tup [.sl none (F2 a.1),.sl none (Fd a.2),.int .i64 0]
 |none => .tup [.sl none [],.sl none (Fd st),.int .i64 2]
theorem sG(st:List E7)(o:Option (List E9×List E7)):(sH st o).pure=true:=by
 cases o<;>simp[sH,AV.pure,FW,m8,Jq]
theorem AGu(l:List Fld)(hl:Iq l)(hln:l.length<=1073741824)(p:List FA)(hp:okPrg l p)(st:List E7)(hlen:st.length+p.length*256<=1073741823)(hs:Om p st)(h:E9)(hr:FZ h=true)(tick:Int)(ht:0<=tick/\tick<=1073741824):
  FT AA 13 [.sl none (GL l),.sl none (F4 p),.sl none (Fd st),.agg h.c,.int .i64 tick] (sH st (Ly l p st h tick)):=by
 refine pB AcM rfl ?_ (hv:=sG _ _)
 simp only[f13,go_sem]
 refine Fg p (λ(s:(List E9×List E7)×cj) (r:List FA)=>RU l tick s.1 r) (λk s=>Om p s.1.2/\(∀z∈s.1.1,FZ z=true)/\s.1.2.length<=st.length+k*256/\s.1.1.length<=256)
  (λk s=>[(0,.sl none (GL l)),(2,.sl none (Fd st)),(4,.int .i64 tick),(13,.sl (some 10) (F2 s.1.1)),(14,.sl none (Fd s.1.2)),(28,.sl none (F4 p)),(29,.int .i64 p.length),(30,.int .i64 k)])
  (λ_ s=>s.2) (([h],st),[some h.c]) FR ⟨hs,by simpa using hr,sm,sm⟩ ?_ rfl ?_ ?_
 ·rfl
 ·rintro k ⟨⟨pk,now⟩,Y⟩ S Ss hd hx ⟨i1,i2,i3,i4⟩ hF h0 h1 hw
  dsimp only at i1 i2 i3 i4 hF ⊢
  have hSp:=AB hx
  have hkl:=(AC.1 hx).1
  have gS:∀y L,(Y++y::L)[Y.length]? =some y:=λy L=>sm
  have gS0:∀y,(Y++[y])[Y.length]? =some y:=λy=>sm
  have sS0:∀y z,(Y++[y]).set Y.length z=Y++[z]:=λy z=>sm
  have gN:∀y L z,(Y++y::(L++[z]))[List.length (Y++y::L)]? =some z:=λy L z=>by
   have:Y++y::(L++[z])=(Y++y::L)++[z]:=sm
   rw[this];exact Bg
  have sN:∀y L z z2,(Y++y::(L++[z])).set (List.length (Y++y::L)) z2=Y++y::(L++[z2]):=λy L z z2=>by
   have:Y++y::(L++[z])=(Y++y::L)++[z]:=sm
   rw[this];simp
  have b2:((2:Int) !=0)=true:=rfl
  have b0:((0:Int) !=0)=false:=rfl
  simp only[go_sem,h0,h1,F7 hx,gS,sS0]
  refine Fg pk (λ(s:List E9×cj) (r:List E9)=>w6 l tick S.policy s.1 r) (λ_ s=>(∀z∈s.1,FZ z=true)/\s.1.length<=256)
   (λj s=>[(0,.sl none (GL l)),(2,.sl none (Fd st)),(4,.int .i64 tick),(14,.sl none (Fd now)),(16,.ptr Y.length 0),(17,.sl (some 10) (F2 s.1)),(28,.sl none (F4 p)),(29,.int .i64 p.length),(30,.int .i64 k),(34,.sl (some 10) (F2 pk)),(35,.int .i64 pk.length),(36,.int .i64 j)])
   (λ_ s=>Y++some S.c::s.2) ([],[]) FR ⟨sm,sm⟩ ?_ rfl ?_ ?_
  ·rfl
  ·rintro j ⟨gv,L⟩ g gs hd2 hx2 ⟨j1,j2⟩ hF2 g0 g1 gw
   dsimp only at j1 j2 hF2 ⊢
   have hrg:=i2 g (AB hx2)
   have c1:=AEp l hl FR S.policy (hp.pol S hSp) tick g hrg
   have e2:=w6.eq_2 l tick S.policy gv g gs
   simp only[go_sem,g0,g1,Hs hx2,gS,gN,sN]
   cases ev:vO l tick S.policy g with
   |none =>
    rw[ev]at c1 e2
    have hres:Ly l p st h tick=none:=by rw[Ly,hF,RU,hF2,e2]
    rw[hres]
    apply pK c1
    simp only[go_sem,b2]
    exact⟨FR,FR,rfl⟩
   | some x =>
    rw[ev]at c1 e2
    have hgx:=RO l hl tick S.policy (hp.pol S hSp) g x hrg ev
    have hgl:=hgx.2.1
    apply pK c1
    simp only[go_sem,b0]
    refine⟨FR,FR, ?_⟩
    by_cases h256:256<(gv++x).length
    ·have hres:Ly l p st h tick=none:=by rw[Ly,hF,RU,hF2,e2];simp only[iP h256]
     have h256b:(256:Int)<((gv++x).length:Int):=FR
     rw[hres]
     simp only[go_sem,h256b,dT]
     rfl
    ·have h256b:¬(256:Int)<((gv++x).length:Int):=FR
     simp only[iN h256]at e2
     simp only[go_sem,h256b,dF,gw]
     refine⟨(gv++x,L++[some g.c]),by rw[e2],⟨λz hz=>?_,by rw[AF]at h256 ⊢;omega⟩, ?_, ?_⟩
     ·rcases Ar.1 hz with hz|hz
      ·exact j1 z hz
      ·exact hgx.2.2 z hz
     ·rfl
     ·rfl
  ·rintro ⟨gv,L⟩ ⟨j1,j2⟩ hF2
   dsimp only at j1 j2 hF2 ⊢
   have hgv:w6 l tick S.policy [] pk=some gv:=hF2
   have hF4:RU l tick ([h],st) p=RU l tick (yq l S.step tick ([],now) gv) Ss:=by rw[hF,RU,hgv]
   simp only[go_sem,AQ,dF]
   refine Fg gv (λ(s:(List E9×List E7)×cj) (r:List E9)=>yq l S.step tick s.1 r) (λj s=>Om p s.1.2/\(∀z∈s.1.1,FZ z=true)/\s.1.2.length<=now.length+j/\s.1.1.length<=j)
    (λj s=>[(0,.sl none (GL l)),(2,.sl none (Fd st)),(4,.int .i64 tick),(13,.sl (some 10) (F2 s.1.1)),(14,.sl none (Fd s.1.2)),(16,.ptr Y.length 0),(28,.sl none (F4 p)),(29,.int .i64 p.length),(30,.int .i64 k),(61,.sl (some 10) (F2 gv)),(62,.int .i64 gv.length),(63,.int .i64 j)])
    (λ_ s=>Y++some S.c::s.2) (([],now),L) FR ⟨i1,sm,sm,sm⟩ ?_ rfl ?_ ?_
   ·rfl
   ·rintro j ⟨⟨pk2,now2⟩,L2⟩ g gs hd2 hx2 ⟨q1,q2,q3,q4⟩ hF3 g0 g1 gw
    dsimp only at q1 q2 q3 q4 hF3 ⊢
    have hrg:=j1 g (AB hx2)
    have hjl:=(AC.1 hx2).1
    have c1:=Af9 l hl hln S.step (hp.stp S hSp) now2 FR (λe he=>(q1 e he).1) (λe he=>(q1 e he).2 S hSp) g hrg tick ht
    obtain⟨d1,d2,d3⟩:=q8 hl hln hp hSp (st:=now2) FR q1 hrg ht
    have e2:=yq.eq_2 l S.step tick (pk2,now2) g gs
    dsimp only at e2
    generalize lB l S.step now2 g tick=R at c1 d1 d2 d3 e2
    obtain⟨g',b,now'⟩:=R
    dsimp only at c1 d1 d2 d3 e2
    simp only[go_sem,g0,g1,Hs hx2,gS,gN,sN]
    apply pK c1
    cases b with
    |true =>
     simp only[go_sem,gN,sN,gw]
     refine⟨FR,FR,((pk2++[g'],now'),L2++[some g'.c]),by rw[e2,iP rfl],⟨d2,λz hz=>?_,by dsimp only;omega,by rw[AF];exact Dv q4⟩,rfl,rfl⟩
     rcases Ar.1 hz with hz|hz
     ·exact q2 z hz
     ·rcases Ab.1 hz with rfl;exact d1
    |false =>
     simp only[go_sem,gN,sN,gw]
     exact⟨((pk2,now'),L2++[some g'.c]),by rw[e2,iN dc],⟨d2,q2,by dsimp only;omega,by dsimp only;omega⟩,rfl,rfl⟩
   ·rintro ⟨⟨pk2,now2⟩,L2⟩ ⟨q1,q2,q3,q4⟩ hF3
    dsimp only at q1 q2 q3 q4 hF3 ⊢
    simp only[go_sem,AQ,dF,hw]
    exact⟨((pk2,now2),_),by rw[<- hF,hF4,hF3];rfl,⟨q1,q2,by dsimp only;omega,by dsimp only;omega⟩,rfl,rfl⟩
 ·rintro ⟨⟨pk,now⟩,Y⟩ ⟨i1,i2,i3,i4⟩ hF
  dsimp only at i1 i2 i3 i4 hF ⊢
  simp only[go_sem,AQ,dF]
  rw[Ly,hF];rfl
def K7(l:List FB):List AV:=l.map λx => .agg x.c
@[go_sem] theorem AV7(l:List FB):(K7 l).length=l.length:=by simp[K7]
theorem td{l:List FB}{i:Nat}{x:FB}(h:l[i]? =some x):(K7 l)[i]? =some (.agg x.c):=by simp[K7,h]
@[go_sem] theorem AIa(a:List FB)(x:FB):K7 a++[.agg x.c]=K7 (a++[x]):=by simp[K7]
def GN(l:List FC):List AV:=l.map λx => .agg x.c
@[go_sem] theorem Xb(l:List FC):(GN l).length=l.length:=by simp[GN]
theorem Id{l:List FC}{i:Nat}{x:FC}(h:l[i]? =some x):(GN l)[i]? =some (.agg x.c):=by simp[GN,h]
@[go_sem] theorem ABU(a:List FC)(x:FC):GN a++[.agg x.c]=GN (a++[x]):=by simp[GN]
@[go_sem] theorem Vq(l:List FC):FW (GN l)=true:=by
 induction l with
 |nil=>rfl
 |cons x xs ih=>simpa [GN,FW,AV.pure]using⟨US x,ih⟩
@[go_sem] theorem Xc(k:Nat)(l:List FC):Fo k (GN l)=true:=Hg λx=>Delivery.c_bnd k x
def HG(l:List (List E7)):List AV:=l.map λx => .sl none (Fd x)
@[go_sem] theorem Vb(l:List (List E7)):(HG l).length=l.length:=by simp[HG]
theorem K6{l:List (List E7)}{i:Nat}{x:List E7}(h:l[i]? =some x):(HG l)[i]? =some (.sl none (Fd x)):=by simp[HG,h]
@[go_sem] theorem AG1(l:List (List E7)):(∀x∈HG l,x.cells.length=1)=True:=eq_true λx hx=>by
 obtain⟨y,_,rfl⟩:=AO.1 hx;rfl
@[go_sem] theorem tL(l:List (List E7)):FW (HG l)=true:=by
 induction l with
 |nil=>rfl
 |cons x xs ih=>simpa [HG,FW,AV.pure]using⟨Jq x,ih⟩
theorem ABI(l:List (List E7)):(HP (HG l)).map borrow1=HG l:=by
 induction l with
 |nil=>rfl
 |cons x l ih =>
  have:HP (HG (x::l)) = .sl none (Fd x)::HP (HG l):=rfl
  rw[this,AS,ih];rfl
def h_:E8:={ h47 with mt:=[5,7],tk:=[] }
@[go_sem] theorem Afq(k:Nat):h_.lv k=h47.lv k/\h_.ct k=h47.ct k/\h_.at k=h47.at k/\h_.dn k=h47.dn k:=⟨AG rfl rfl,AG rfl rfl,AG rfl rfl,AG rfl rfl⟩
@[go_sem] theorem AgS:h_.tk=[]/\h_.mt=[5,7]/\h_.pc=[]:=⟨rfl,rfl,rfl⟩
theorem AIq:FK AA 47 f47 h_:=⟨kr,kr,func47,kr⟩
theorem AAk(l:List (List E7))(hl:l.length<=1073741824)(H:cj):Fa AA 47 [.sl none (HG l)] H λv H'=>(l=[]/\v = .sl (some 1) []/\H'=H)\/(v = .msl (H.length+1) 0 l.length 1/\H'=H++[none,some (HG l)]):=by
 have el:(HG l).length=l.length:=Vb l
 have g1:∀(x:Option (List AV)),(H++[x])[H.length]? =some x:=λx=>sm
 have g2:∀(x y:Option (List AV)),(H++[x]).set H.length y=H++[y]:=λx y=>sm
 refine aC AIq rfl ?_
 cases l with
 |nil =>
  have e0:HG []=[]:=rfl
  rw[e0]
  simp only[f47,go_sem,g1,g2]
  simp
 |cons x l =>
  have hcs:HG (x::l) = .sl none (Fd x)::HG l:=rfl
  have hcat:=ABI (x::l)
  rw[hcs]at hcat el ⊢
  simp only[AD]at hl
  simp only[f47,go_sem,g1,g2]
  exact⟨FR,FR,.inr ⟨sm,by rw[hcat]⟩⟩
theorem AAO(q:List FB)(hq:q.length<=1048576)(x:FB)(w:Option Nat)(H:cj)(o:Nat)(ho:H[o]? =some (some [.sl (some 12) (K7 q)])):
  Fa AA 46 [.agg (x.cf w),.ptr o 0] H λv H'=>v = .tup [] /\ ∃ext,H'=H.set o (some [.sl (some 12) (K7 (q++[x]))])++ext:=by
 have hlt:=(AC.1 ho).1
 have g1:=FY ho
 have gB:∀y L,(H++y::L)[H.length]? =some y:=λy L=>sm
 have s1:∀(L:cj) y,(H++L).set o y=H.set o y++L:=λL y=>LX hlt L
 have gS:∀x L,(H.set o x++L)[o]? =some x:=λx L=>U5 hlt x L
 have gM:∀x y L,(H.set o x++y::L)[H.length]? =some y:=λx y L=>by
  rw[AN sm];simp
 have sA:∀x L y,(H.set o x++L).set o y=H.set o y++L:=λx L y=>by rw[LX (by rw[Ao];exact hlt),BB]
 refine aC Aao rfl ?_
 cases w<;>simp only[f46,go_sem,g1,s1,gS,sA,gM]
 ·exact⟨FR,FR⟩
 ·exact⟨FR,FR⟩
theorem qp{l:List Fld}(hl:Iq l){tick:Int}{x:Policy}(hx:Hm l x): ∀(pk:List E9) {gv r:List E9},(∀z∈pk,FZ z=true)->(∀z∈gv,FZ z=true)->gv.length<=256->w6 l tick x gv pk=some r->(∀z∈r,FZ z=true)/\r.length<=256
 |[],gv,r,_,hg,hn,e=>by
  rw[w6]at e
  cases e
  exact⟨hg,hn⟩
 | g::pk,gv,r,hp,hg,hn,e=>by
  rw[w6]at e
  have hrg:=hp g (CO ..)
  cases ev:vO l tick x g with
  |none=>rw[ev]at e;cases e
  | some y =>
   rw[ev]at e
   have hy:=RO l hl tick x hx g y hrg ev
   by_cases h256:256<(gv++y).length
   ·simp only[iP h256]at e
    cases e
   ·simp only[iN h256]at e
    refine qp hl hx pk (λz hz=>hp z (B0 _ hz)) (λz hz=>?_) FR e
    rcases Ar.1 hz with hz|hz
    ·exact hg z hz
    ·exact hy.2.2 z hz
theorem q_{l:List Fld}(hl:Iq l)(hln:l.length<=1073741824){p:List FA}(hp:okPrg l p){s:FA}(hs:s∈p){tick:Int}(ht:0<=tick/\tick<=1073741824): ∀(gv:List E9) {pk:List E9} {st:List E7},(∀z∈gv,FZ z=true)->(∀z∈pk,FZ z=true)->Om p st->st.length+gv.length<=1073741823 ->
  (∀z∈(yq l s.step tick (pk,st) gv).1,FZ z=true)/\Om p (yq l s.step tick (pk,st) gv).2/\(yq l s.step tick (pk,st) gv).1.length<=pk.length+gv.length/\(yq l s.step tick (pk,st) gv).2.length<=st.length+gv.length
 |[],pk,st,_,hpk,hst,_=>⟨hpk,hst,AT _,AT _⟩
 | g::gv,pk,st,hg,hpk,hst,hln2=>by
  rw[AD]at hln2
  have hrg:=hg g (CO ..)
  obtain⟨d1,d2,d3⟩:=q8 hl hln hp hs (st:=st) FR hst hrg ht
  rw[yq]
  dsimp only
  generalize lB l s.step st g tick=R at d1 d2 d3
  obtain⟨g',b,now'⟩:=R
  dsimp only at d1 d2 d3 ⊢
  have ih:=λpk2 hpk2=>q_ hl hln hp hs ht gv (pk:=pk2) (st:=now') (λz hz=>hg z (B0 _ hz)) hpk2 d2 FR
  rw[AD]
  cases b with
  | true =>
   rw[iP rfl]
   obtain⟨i1,i2,i3,i4⟩:=ih (pk++[g']) (λz hz=>by
    rcases Ar.1 hz with hz|hz
    ·exact hpk z hz
    ·rcases Ab.1 hz with rfl;exact d1)
   rw[AF,BL]at i3
   exact⟨i1,i2,FR,FR⟩
  |false =>
   rw[iN dc]
   obtain⟨i1,i2,i3,i4⟩:=ih pk hpk
   exact⟨i1,i2,FR,FR⟩
theorem dp{l:List Fld}(hl:Iq l)(hln:l.length<=1073741824){p:List FA}(hp:okPrg l p){tick:Int}(ht:0<=tick/\tick<=1073741824): ∀(r:List FA) {a b:List E9×List E7},(∀s∈r,s∈p)->(∀z∈a.1,FZ z=true)->a.1.length<=256->Om p a.2->a.2.length+r.length*256<=1073741823->RU l tick a r=some b ->
  (∀z∈b.1,FZ z=true)/\b.1.length<=256/\Om p b.2/\b.2.length<=a.2.length+r.length*256
 |[],a,b,_,h1,h2,h3,_,e=>by
  rw[RU]at e
  cases e
  exact⟨h1,h2,h3,FR⟩
 | s::r,a,b,hr,h1,h2,h3,h4,e=>by
  rw[AD]at h4
  rw[RU]at e
  have hs:=hr s (CO ..)
  cases eg:w6 l tick s.policy [] a.1 with
  |none=>rw[eg]at e;cases e
  |some gv =>
   rw[eg]at e
   dsimp only at e
   obtain⟨g1,g2⟩:=qp hl (hp.pol s hs) a.1 h1 sm sm  eg
   obtain⟨d1,d2,d3,d4⟩:=q_ hl hln hp hs ht gv (pk:=[]) (st:=a.2) g1 sm h3 FR
   rw[AJ]at d3
   obtain⟨r1,r2,r3,r4⟩:=dp hl hln hp ht r (λz hz=>hr z (B0 _ hz)) d1 FR d2 FR e
   rw[AD]
   exact⟨r1,r2,r3,FR⟩
theorem RS{l:List Fld}(hl:Iq l)(hln:l.length<=1073741824){p:List FA}(hp:okPrg l p){tick:Int}(ht:0<=tick/\tick<=1073741824){st:List E7}(hst:Om p st)(hlen:st.length+p.length*256<=1073741823){h:E9}(hr:FZ h=true){b:List E9×List E7}(e:Ly l p st h tick=some b):
  (∀z∈b.1,FZ z=true)/\b.1.length<=256/\Om p b.2/\b.2.length<=st.length+p.length*256 :=
 dp hl hln hp ht p (a:=([h],st)) (λ_ h=>h) (by simpa using hr) sm hst hlen e
def xF(t:FD)(p:E9):E9×Bool:=Rt (IV t p.h0) p
def MF(t:FD)(h:E9):E9×Bool:=Kj (Hz t (i64 (h.h0 - 10000))) h
def Mh(s:FE)(t:FD)(p:E9)(tick:Int):Int:=H8 (LV s t.name p tick) s.contracts
def XI(s:FE)(x:FB)(t:FD)(tick:Int)(a:List FB×List FC)(p:E9):List FB×List FC :=
 if(xF t p).2=false then a
 else if Mh s t p tick<0 then(a.1,a.2++[⟨x.tenant,(xF t p).1,x.chain⟩])
 else match s.contracts[(Mh s t p tick).toNat]? with
  |none=>a
  |some d=>(a.1++[⟨GY s d.dst,{ p with h0:=d.toPort },x.chain++[Mh s t p tick]⟩],a.2)
def TV(s:FE)(x:FB)(t:FD)(tick:Int)(a:List FB×List FC):List E9->List FB×List FC
 |[]=>a
 |p::r=>TV s x t tick (XI s x t tick a p) r
def ME(h:E9):Nat->List FD->List FB
 |_,[]=>[]
 |k,t::r=>if(MF t h).2=true then⟨(k:Nat),(MF t h).1,[]⟩::ME h (k+1) r else ME h (k+1) r
def Xo(s:FE)(tick:Int):Nat->Nat->List FB->List (List E7)->List FC->Option (List FC×List (List E7))
 | 0,_,_,_,_=>none
 | f+1,n,q,now,out=>match q[n]? with
  |none=>some (out,now)
  | some x=>match s.tenants[x.tenant.toNat]?,now[x.tenant.toNat]? with
   |some t,some st=>match Ly s.fields (GE t).1 st x.head tick with
    |none=>none
    |some b=>if 256<(TV s x t tick (q,out) b.1).1.length then none else Xo s tick f (n+1) (TV s x t tick (q,out) b.1).1 (now.set x.tenant.toNat b.2) (TV s x t tick (q,out) b.1).2
   |_,_=>none
def ML(s:FE)(sts:List (List E7))(h:E9)(tick:Int):Option (List FC×List (List E7)):=Xo s tick 600 0 (ME h 0 s.tenants) sts []
def qP(sts:List (List E7)):Option (List FC×List (List E7))->AV
 |some a => .tup [.sl none (GN a.1),.sl none (HG a.2),.int .i64 0]
 |none => .tup [.sl none [],.sl none (HG sts),.int .i64 2]
theorem lp(sts:List (List E7))(o:Option (List FC×List (List E7))):(qP sts o).pure=true:=by
 cases o<;>simp[qP,AV.pure,FW,Vq,tL]
structure okRun (s:FE) (sts:List (List E7)) (h:E9) (tick:Int):Prop where
 bulk:FU s.c<=1048576
 fld:Iq s.fields
 ten:s.tenants.length<=256
 tick:0<=tick/\tick<=1073741824
 len:sts.length=s.tenants.length
 prg:∀(k:Nat) (t:FD),s.tenants[k]? =some t->okPrg s.fields (GE t).1/\(GE t).1.length<=1000
 whole:∀t∈s.tenants,FT AA 11 [.agg t.c] (.tup [.sl none (F4 (GE t).1),.int .i64 (GE t).2])
 st:∀(k:Nat) (t:FD) (st:List E7),s.tenants[k]? =some t->sts[k]? =some st->Om (GE t).1 st/\st.length<=268435456
 pred:∀c∈s.contracts,IP s.fields c.pred
 to:∀c∈s.contracts,0<=GY s c.dst/\GY s c.dst<(s.tenants.length:Int)
 port:∀c∈s.contracts,0<=c.toPort/\c.toPort<=65535
 prt:∀t∈s.tenants,t.ports.length<=1073741824
 ent:∀t∈s.tenants,(MF t h).2=true->FZ (MF t h).1=true
def Mb:E8:={ h16 with pc:=[46,76,91,112,122,131,143,158],fz:=[(36,[(9,none,false)])] }
@[go_sem] theorem AgF(k:Nat):Mb.lv k=h16.lv k:=AG rfl rfl
@[go_sem] theorem AgH(k:Nat):Mb.ct k=h16.ct k:=AG rfl rfl
@[go_sem] theorem AgG(k:Nat):Mb.dn k=h16.dn k:=AG rfl rfl
@[go_sem] theorem AgI:Mb.at 0=[]/\Mb.at 1=[]/\Mb.at 2=[]/\Mb.at 3=[]/\Mb.at 4=[]/\Mb.at 5=[]/\Mb.at 6=[]/\Mb.at 7=[]/\Mb.at 8=[]/\Mb.at 9=[]/\Mb.at 10=[]/\Mb.at 11=[]/\Mb.at 12=[]/\Mb.at 13=[]/\Mb.at 14=[]/\Mb.at 15=[]/\Mb.at 16=[]/\Mb.at 17=[]/\Mb.at 18=[]/\Mb.at 19=[]/\Mb.at 20=[]/\Mb.at 21=[]/\Mb.at 22=[]/\Mb.at 23=[]/\Mb.at 24=[]/\Mb.at 25=[]/\Mb.at 26=[]/\Mb.at 27=[]/\Mb.at 28=[]/\Mb.at 29=[]/\Mb.at 30=[]/\Mb.at 31=[]/\Mb.at 32=[]/\Mb.at 33=[]/\Mb.at 34=[]/\Mb.at 35=[]/\Mb.at 36=[(9,none,false)]:=⟨rfl,rfl,rfl,rfl,rfl,rfl,rfl,rfl,rfl,rfl,rfl,rfl,rfl,rfl,rfl,rfl,rfl,rfl,rfl,rfl,rfl,rfl,rfl,rfl,rfl,rfl,rfl,rfl,rfl,rfl,rfl,rfl,rfl,rfl,rfl,rfl,rfl⟩
@[go_sem] theorem Ag9:Mb.tk=[82,97,101,103,125,168,169,170]/\Mb.mt=[]/\Mb.pc=[46,76,91,112,122,131,143,158]:=⟨rfl,rfl,rfl⟩
theorem AX6:FK AA 16 f16 Mb:=⟨kr,kr,func16,kr⟩
theorem AIX(l:List (List E7)):(HG l).map borrow1=HG l:=by
 induction l with
 |nil=>rfl
 |cons x l ih =>
  have:HG (x::l) = .sl none (Fd x)::HG l:=rfl
  rw[this,AS,ih];rfl
theorem ml(l:List (List E7)):Ho false 1 l.length (HG l)=HG l:=by
 have:=n8 (HG l)
 rwa [Vb]at this
structure okC6 (s:FE) (sts:List (List E7)) (h:E9) (tick:Int) (pn f n:Nat) (q:List FB) (now:List (List E7)) (out:List FC) (X:cj):Prop where
 c0:X[0]? =some (some s.c)
 c2:X[2]? =some (some [.sl (some 12) (K7 q)])
 cn:X[pn]? =some (some (HG now))
 fuel:n+f=600
 res:ML s sts h tick=Xo s tick f n q now out
 ql:q.length<=256/\n<=q.length/\out.length<=n*256
 itm:∀(i:Nat) (x:FB),q[i]? =some x->FZ x.head=true/\(0<=x.tenant/\x.tenant<(s.tenants.length:Int))/\x.chain.length<=i
 nl:now.length=s.tenants.length
 st:∀(k:Nat) (t:FD) (st:List E7),s.tenants[k]? =some t->now[k]? =some st->Om (GE t).1 st/\st.length<=268435456+n*256000
structure okP6 (s:FE) (x:FB) (t:FD) (n pn ox:Nat) (now:List (List E7)) (q:List FB) (out:List FC) (Z:cj) (j:Nat):Prop where
 c0:Z[0]? =some (some s.c)
 c2:Z[2]? =some (some [.sl (some 12) (K7 q)])
 cn:Z[pn]? =some (some (HG now))
 cx:Z[ox]? =some (some x.c)
 ct:Z[ox+1]? =some (some t.c)
 len:ox+2<=Z.length
 itm:∀(i:Nat) (y:FB),q[i]? =some y->FZ y.head=true/\(0<=y.tenant/\y.tenant<(s.tenants.length:Int))/\y.chain.length<=i
 ql:n<q.length/\q.length<=256+j
 ol:out.length<=n*256+j
theorem okP6.grow{s:FE}{x:FB}{t:FD}{n pn ox:Nat}{now:List (List E7)}{q:List FB}{out:List FC}{Z:cj}{j:Nat}(h:okP6 s x t n pn ox now q out Z j)(L:cj):okP6 s x t n pn ox now q out (Z++L) (j+1) :=
 ⟨FY h.c0 _,FY h.c2 _,FY h.cn _,FY h.cx _,FY h.ct _,by rw[AF];have:=h.len;omega,h.itm,⟨h.ql.1,by have:=h.ql.2;omega⟩,by have:=h.ol;omega⟩
theorem okP6.out{s:FE}{x:FB}{t:FD}{n pn ox:Nat}{now:List (List E7)}{q:List FB}{out:List FC}{Z:cj}{j:Nat}(h:okP6 s x t n pn ox now q out Z j)(L:cj)(d:FC):okP6 s x t n pn ox now q (out++[d]) (Z++L) (j+1) :=
 ⟨FY h.c0 _,FY h.c2 _,FY h.cn _,FY h.cx _,FY h.ct _,by rw[AF];have:=h.len;omega,h.itm,⟨h.ql.1,by have:=h.ql.2;omega⟩,by rw[AF,BL];have:=h.ol;omega⟩
theorem okP6.put{s:FE}{x:FB}{t:FD}{n pn ox:Nat}{now:List (List E7)}{q:List FB}{out:List FC}{Z:cj}{j:Nat}(h:okP6 s x t n pn ox now q out Z j)(L M:cj)(d:FB)(hp:2<pn)(hox:2<ox)(hd:FZ d.head=true/\(0<=d.tenant/\d.tenant<(s.tenants.length:Int))/\d.chain.length<=n+1):
  okP6 s x t n pn ox now (q++[d]) out ((Z++L).set 2 (some [.sl (some 12) (K7 (q++[d]))])++M) (j+1):=by
 have h2:=(AC.1 h.c2).1
 have hs:∀(i:Nat) (v:Option (List AV)),i≠2->Z[i]? =some v->((Z++L).set 2 (some [.sl (some 12) (K7 (q++[d]))])++M)[i]? =some v:=λi v hi hv=>FY (by rw[A6 (Ne.symm hi)];exact FY hv _) _
 refine⟨hs 0 _ FR h.c0,FY (A1 (by rw[AF];omega)) _,hs pn _ FR h.cn,hs ox _ FR h.cx,hs (ox+1) _ FR h.ct,by rw[AF,Ao,AF];have:=h.len;omega,λi y hy=>?_,⟨by rw[AF];have:=h.ql.1;omega,by rw[AF,BL];have:=h.ql.2;omega⟩,by have:=h.ol;omega⟩
 rw[List.getElem?_append]at hy
 split at hy
 ·exact h.itm i y hy
 ·rename_i hi
  have hql:=h.ql.1
  have:i=q.length:=by
   by_cases he:i - q.length=0
   ·omega
   ·rw[Av (by rw[BL];omega)]at hy
    cases hy
  subst this
  rw[AP]at hy
  cases hy
  exact⟨hd.1,hd.2.1,by have:=hd.2.2;omega⟩
theorem ABH(l:List (List E7))(i:Nat)(e:List E7)(h:i<l.length):splice (HG l) i [.sl none (Fd e)]=HG (l.set i e):=by
 unfold splice
 rw[Cn,iP h]
 simp[HG]
theorem AIH(s:FE)(sts:List (List E7))(h:E9)(tick:Int)(hr:FZ h=true)(R:okRun s sts h tick):FT AA 16 [.agg s.c,.sl none (HG sts),.agg h.c,.int .i64 tick] (qP sts (ML s sts h tick)):=by
 have hnt:=R.ten
 refine pB AX6 rfl ?_ (hv:=lp _ _)
 simp only[f16,go_sem]
 refine Fg s.tenants (λ(_:List FB×cj) (_:List FD)=>()) (λk a=>a.1++ME h k (s.tenants.drop k)=ME h 0 s.tenants/\a.1.length<=k /\ ∀x∈a.1,x.chain=[]/\FZ x.head=true/\0<=x.tenant/\x.tenant<(s.tenants.length:Int))
  (λk _=>[(1,.sl none (HG sts)),(3,.int .i64 tick),(4,.ptr 0 0),(6,.ptr 1 0),(11,.ptr 2 0),(12,.fn (.func 46) [] [.ptr 2 0]),(36,.sl none (HX s.tenants)),(37,.int .i64 s.tenants.length),(38,.int .i64 k)])
  (λ_ a=>some s.c::some h.c::some [.sl (some 12) (K7 a.1)]::a.2) ([],[]) FR ⟨rfl,sm,sm⟩ rfl rfl ?_ ?_
 ·rintro k ⟨q,J⟩ t ts hd hx ⟨i1,i2,i3⟩ _ h0 h1 hw
  dsimp only at i1 i2 i3 ⊢
  have htm:=AB hx
  have hkl:=(AC.1 hx).1
  have c1:=bG t (R.prt t htm) h
  have ht:=R.ent t htm
  rw[hd,ME]at i1
  have hd2:s.tenants.drop (k+1)=ts:=by rw[<- A9,hd];rfl
  have eT:Kj (Hz t (i64 (h.h0 - 10000))) h=MF t h:=rfl
  rw[eT]at c1
  have gN:∀a b c (L:cj) z,(a::b::c::(L++[z]))[List.length (a::b::c::L)]? =some z:=λa b c L z=>by
   have:a::b::c::(L++[z])=(a::b::c::L)++[z]:=sm
   rw[this];exact Bg
  have sN:∀a b c (L:cj) z z2,(a::b::c::(L++[z])).set (List.length (a::b::c::L)) z2=a::b::c::(L++[z2]):=λa b c L z z2=>by
   have:a::b::c::(L++[z])=(a::b::c::L)++[z]:=sm
   rw[this];simp
  simp only[go_sem,h0,h1,F5 hx]
  apply pK c1
  cases he:(MF t h).2 with
  |false =>
   rw[he,iN dc]at i1
   simp only[go_sem,hw]
   exact⟨(q,_),⟨by rw[hd2];exact i1,by dsimp only;omega,i3⟩,rfl,rfl⟩
  | true =>
   rw[he,iP rfl]at i1
   simp only[go_sem]
   refine Fu.intro (AAO q FR ⟨(k:Nat),(MF t h).1,[]⟩ (some 1) _ 2 rfl) λv H' hq=>?_
   obtain⟨rfl,ext,rfl⟩:=hq
   simp only[go_sem,hw]
   refine⟨(q++[⟨(k:Nat),(MF t h).1,[]⟩],_),⟨by rw[hd2,AE];exact i1,by rw[AF];exact Dv i2,λx hx=>?_⟩,rfl,rfl⟩
   rcases Ar.1 hx with hx|hx
   ·exact i3 x hx
   ·rcases Ab.1 hx with rfl
    exact⟨rfl,ht he,by dsimp only;omega,by dsimp only;omega⟩
 ·rintro ⟨q,J⟩ ⟨i1,i2,i3⟩ _
  dsimp only at i1 i2 i3 ⊢
  have hq0:q=ME h 0 s.tenants:=by rw[<- i1,List.drop_length,ME,Af]
  simp only[go_sem,AQ,dF]
  refine Fu.intro (AAk sts (by have:=R.len;omega) _) λv H' hq=>?_
  rcases hq with⟨hnil,rfl,rfl⟩|⟨rfl,rfl⟩
  ·have ht0:s.tenants=[]:=List.length_eq_zero_iff.1 (by rw[<- R.len,hnil];rfl)
   have hq1:q=[]:=by rw[hq0,ht0];rfl
   have hres:ML s sts h tick=some ([],[]):=by unfold ML;rw[ht0,hnil];rfl
   subst hq1
   rw[hres]
   simp only[go_sem]
   refine Ku (σ:=Unit) (λ_=>[(1,.sl none (HG sts)),(3,.int .i64 tick),(4,.ptr 0 0),(11,.ptr 2 0),(12,.fn (.func 46) [] [.ptr 2 0]),(17,.sl (some 1) []),(18,.sl (some 12) []),(19,.int .i64 0)])
    (λ_=>some s.c::some h.c::some [.sl (some 12) (K7 [])]::J) (λ_=>True) (λ_=>0) () trivial rfl rfl λ_ _=>?_
   have z0:¬((0:Int)<((0:Nat):Int)):=dc
   simp only[go_sem,z0,dF,AJ]
   rfl
  ·simp only[go_sem]
   generalize hpn:List.length (some s.c::some h.c::some [AV.sl (some 12) (K7 q)]::J)+1=pn
   refine Ku (σ:=Nat×Nat×List FB×List (List E7)×List FC×cj) (λa=>[(1,.sl none (HG sts)),(3,.int .i64 tick),(4,.ptr 0 0),(11,.ptr 2 0),(12,.fn (.func 46) [] [.ptr 2 0]),(17,.msl pn 0 sts.length 1),(18,.sl (some 12) (GN a.2.2.2.2.1)),(19,.int .i64 a.2.1)])
    (λa=>a.2.2.2.2.2) (λa=>okC6 s sts h tick pn a.1 a.2.1 a.2.2.1 a.2.2.2.1 a.2.2.2.2.1 a.2.2.2.2.2) (λa=>a.1) (600,0,q,sts,[],_) ?_ rfl rfl ?_
   ·refine⟨rfl,rfl, ?_,rfl,by rw[hq0];rfl,⟨by dsimp only;omega,BU _,BU _⟩,λi x hx=>?_,R.len,λk t st h1 h2=>?_⟩
    ·subst hpn
     simp
    ·obtain⟨y1,y2,y3,y4⟩:=i3 x (AB hx)
     exact⟨y2,⟨y3,y4⟩,by rw[y1];exact BU _⟩
    ·have:=R.st k t st h1 h2
     exact⟨this.1,by have:=this.2;dsimp only;omega⟩
   rintro ⟨f,n,q,now,out,X⟩ hI
   dsimp only at hI ⊢
   clear i1 i2 i3 hq0
   obtain⟨x1,x2,x3,x4,x5,x6,x7,x8,x9⟩:=hI
   simp only[go_sem,x2]
   refine cS ?_ ?_<;>intro hc
   ·have hc:=of_decide_eq_true hc
    have hnl:n<q.length:=FR
    obtain⟨x,hx⟩:∃x,q[n]? =some x:=⟨_,AH hnl⟩
    obtain⟨hxr,⟨hx0,hx1⟩,hxc⟩:=x7 n x hx
    obtain⟨m,hm⟩:∃m:Nat,x.tenant=(m:Int):=⟨x.tenant.toNat,FR⟩
    have hmT:m<s.tenants.length:=FR
    obtain⟨t,ht⟩:∃t,s.tenants[m]? =some t:=⟨_,AH hmT⟩
    obtain⟨st,hst⟩:∃st,now[m]? =some st:=⟨_,AH FR⟩
    have htm:=AB ht
    obtain⟨p1,p2⟩:=R.prg m t ht
    obtain⟨s1,s2⟩:=x9 m t st ht hst
    have c1:=R.whole t htm
    have hlenb:st.length+(GE t).1.length*256<=1073741823:=by have:=x6.1;have:=x6.2.1;omega
    have hfl:s.fields.length<=1073741824:=by have:=Ph (Hv R.bulk);omega
    have c2:=AGu s.fields R.fld hfl (GE t).1 p1 st hlenb s1 x.head hxr tick R.tick
    have l0:=(AC.1 x1).1
    have l2:=(AC.1 x2).1
    have ln:=(AC.1 x3).1
    have gX0:=FY x1
    have gX2:=FY x2
    have gXn:=FY x3
    have gx:∀y L,(X++y::L)[X.length]? =some y:=λy L=>sm
    have gx1:∀y z L,(X++y::z::L)[X.length+1]? =some z:=λy z L=>sm
    have sx:∀y z,(X++[y]).set X.length z=X++[z]:=λy z=>sm
    have sx1:∀y z w,(X++[y,z]).set (X.length+1) w=X++[y,w]:=λy z w=>sm
    have hm0:(0:Int)<=(m:Int):=FR
    have hm1:(m:Int)<(s.tenants.length:Int):=FR
    have hm2:(m:Int)<(sts.length:Int):=by rw[R.len];omega
    have hxi:(Item.c x)[0]? =some (.int .i64 x.tenant):=rfl
    have h0n:(0:Int)<=(n:Int):=FR
    simp only[go_sem,h0n,hc,x2,gX0,gx,gx1,sx,sx1,td hx,F5 ht,hm,hm0,AF,AD,AJ,AU]
    apply pK c1
    simp only[go_sem,gX0,gXn,gx,hxi,K6 hst,hm,hm0,hm2,AU,Nat.reduceAdd]
    obtain⟨f',rfl⟩:∃f',f=f'+1:=⟨f - 1,FR⟩
    have hto:x.tenant.toNat=m:=FR
    have b2:((2:Int) !=0)=true:=rfl
    have b0:((0:Int) !=0)=false:=rfl
    cases er:Ly s.fields (GE t).1 st x.head tick with
    |none =>
     rw[er,sH]at c2
     have hres:ML s sts h tick=none:=by rw[x5,Xo,hx];dsimp only;rw[hto,ht,hst];dsimp only;rw[er]
     rw[hres]
     apply pK c2
     simp only[go_sem,b2]
     rfl
    | some b =>
     rw[er,sH]at c2
     obtain⟨r1,r2,r3,r4⟩:=RS R.fld hfl p1 R.tick s1 hlenb hxr er
     have e5:Xo s tick (f'+1) n q now out=if 256<(TV s x t tick (q,out) b.1).1.length then none else Xo s tick f' (n+1) (TV s x t tick (q,out) b.1).1 (now.set m b.2) (TV s x t tick (q,out) b.1).2:=by rw[Xo,hx];dsimp only;rw[hto,ht,hst];dsimp only;rw[er]
     rw[e5]at x5
     have sXn:∀(L:cj) y,(X++L).set pn y=X.set pn y++L:=λL y=>LX ln L
     apply pK c2
     have hml:m+1<=now.length:=FR
     have hsp:=ABH now m b.2 FR
     simp only[go_sem,b0,sXn,hml,hsp,gXn,gx,hxi,hm,hm0,hm2,AD,AJ,AU]
     have hX2:2≠pn:=by subst hpn;simp
     have hX0:0≠pn:=by subst hpn;simp
     have lsn:(X.set pn (some (HG (now.set m b.2)))).length=X.length:=Ao ..
     refine Fg b.1 (λ(a:List FB×List FC×cj) (r:List E9)=>TV s x t tick (a.1,a.2.1) r) (λj a=>okP6 s x t n pn X.length (now.set m b.2) a.1 a.2.1 a.2.2 j) (λj a=>[(1,.sl none (HG sts)),(3,.int .i64 tick),(4,.ptr 0 0),(11,.ptr 2 0),(12,.fn (.func 46) [] [.ptr 2 0]),(17,.msl pn 0 sts.length 1),(18,.sl (some 12) (GN a.2.1)),(19,.int .i64 n),(20,.ptr X.length 0),(21,.ptr (X.length+1) 0),(103,.sl none (F2 b.1)),(104,.int .i64 b.1.length),(105,.int .i64 j)])
      (λ_ a=>a.2.2) (q,out,_) FR ?_ ?_ rfl ?_ ?_
     ·have u0:(X.set pn (some (HG (now.set m b.2))))[0]? =some (some s.c):=by rw[A6 (Ne.symm hX0)];exact x1
      have u2:(X.set pn (some (HG (now.set m b.2))))[2]? =some (some [.sl (some 12) (K7 q)]):=by rw[A6 (Ne.symm hX2)];exact x2
      have un:(X.set pn (some (HG (now.set m b.2))))[pn]? =some (some (HG (now.set m b.2))):=A1 ln
      refine⟨FY u0 _,FY u2 _,FY un _, ?_, ?_, ?_,x7,⟨hnl,by dsimp only;omega⟩,by dsimp only;omega⟩
      ·dsimp only
       rw[<- lsn];simp
      ·dsimp only
       rw[<- lsn];simp
      ·dsimp only
       rw[AF,lsn];exact AT _
     ·rfl
     ·rintro j ⟨q2,out2,Z⟩ p ps hd2 hxp hI2 hF2 g0 g1 gw
      dsimp only at hI2 hF2 ⊢
      have hI3:=hI2
      obtain⟨y0,y2,yn,yx,yt,yl,y7,y8,y9⟩:=hI2
      have hrp:=r1 p (AB hxp)
      have hjl:=(AC.1 hxp).1
      have d1:=AVH t p
      have eX:Rt (IV t p.h0) p=xF t p:=rfl
      rw[eX]at d1
      have d2:=qa s R.fld FR (by have:=I8 (G5 R.bulk);omega) m t ht p hrp tick R.pred
      have d3:=AAl x.chain FR
      have hxk:(Item.c x)[11]? =some (.sl none (GK x.chain)):=rfl
      have eK:H8 (LV s t.name p tick) s.contracts=Mh s t p tick:=rfl
      rw[eK]at d2
      have l0':=(AC.1 y0).1
      have l2':=(AC.1 y2).1
      have gY0:=FY y0
      have gY2:=FY y2
      have gYx:=FY yx
      have gYt:=FY yt
      have gz:∀y L,(Z++y::L)[Z.length]? =some y:=λy L=>sm
      have gz1:∀y z L,(Z++y::z::L)[Z.length+1]? =some z:=λy z L=>sm
      have sz:∀y z,(Z++[y]).set Z.length z=Z++[z]:=λy z=>sm
      have sz0:∀y a z,(Z++[y,a]).set Z.length z=Z++[z,a]:=λy a z=>sm
      have sz1:∀y z w,(Z++[y,z]).set (Z.length+1) w=Z++[y,w]:=λy z w=>sm
      have hpk:TV s x t tick (q,out) b.1=TV s x t tick (XI s x t tick (q2,out2) p) ps:=hF2
      simp only[go_sem,g0,g1,Hs hxp,gYt,gz,sz,AU]
      apply pK d1
      cases he:(xF t p).2 with
      |false =>
       simp only[go_sem,gz1,sz1,gw,AF,AD,AJ,AU,Aw]
       have e6:XI s x t tick (q2,out2) p=(q2,out2):=by unfold XI;rw[iP he]
       exact⟨(q2,out2,_),by rw[TV,e6],hI3.grow _,rfl,rfl⟩
      | true =>
       simp only[go_sem,gz,gz1,sz1,gY0,gYx,hxi,hm,AF,AD,AJ,AU,As]
       apply pK d2
       simp only[go_sem]
       refine cS ?_ ?_<;>intro hc3
       ·have hc3:=of_decide_eq_true hc3
        have e6:XI s x t tick (q2,out2) p=(q2,out2++[⟨x.tenant,(xF t p).1,x.chain⟩]):=by unfold XI;rw[iN (by rw[he];decide),iP hc3]
        simp only[go_sem,gz1,gYx,hxi,hxk,hm,AU]
        apply pK d3
        simp only[go_sem,gw,AD,AJ,AU,Nat.reduceAdd]
        exact⟨FR,FR,(q2,out2++[⟨x.tenant,(xF t p).1,x.chain⟩],_),by rw[TV,e6],hI3.out _ _,by rw[hm],rfl⟩
       ·have hc3:=of_decide_eq_false hc3
        obtain⟨ci,d,hK,hd⟩:∃(ci:Nat) (d:FF),Mh s t p tick=(ci:Int)/\s.contracts[ci]? =some d:=by
         rcases MA (LV s t.name p tick) s.contracts 0 with⟨w1,w2⟩|⟨i,y,w1,w2,w3⟩
         ·have:Mh s t p tick = -1:=w1
          omega
         ·exact⟨i,y,by unfold Mh H8;rw[w1,AU],w2⟩
        have hdm:=AB hd
        obtain⟨t1,t2⟩:=R.to d hdm
        obtain⟨t3,t4⟩:=R.port d hdm
        have hcl:=(AC.1 hd).1
        have hcn:s.contracts.length<=1048576:=I8 (G5 R.bulk)
        have k0:(0:Int)<=(ci:Int):=FR
        have k1:(ci:Int)<(s.contracts.length:Int):=FR
        have hkt:(Mh s t p tick).toNat=ci:=FR
        have e6:XI s x t tick (q2,out2) p=(q2++[⟨GY s d.dst,{ p with h0:=d.toPort },x.chain++[(ci:Int)]⟩],out2):=by unfold XI;rw[iN (by rw[he];decide),iN hc3,hkt,hd,hK]
        have d4:=AAb s d.dst FR
        have d5:lX (GY s d.dst) = .tup [.int .i64 (GY s d.dst),.bool true]:=by unfold lX Qx;rw[decide_eq_true t1];congr;split<;>omega
        rw[d5]at d4
        simp only[go_sem,hK,k0,Gi hd,gY0,AU]
        apply pK d4
        simp only[go_sem,k0,Gi hd,gz,sz0,gY0,gYx,hxk,AD,AJ,AU]
        apply pK d3
        simp only[go_sem,AD,AJ,AU,Nat.reduceAdd]
        refine⟨FR,FR, ?_⟩
        have hrp':FZ { p with h0:=d.toPort }=true:=U9 hrp t3 t4
        refine Fu.intro (AAO q2 FR ⟨GY s d.dst,{ p with h0:=d.toPort },x.chain++[(ci:Int)]⟩ (some 1) _ 2 (FY y2 _)) λv H' hq=>?_
        obtain⟨rfl,ext,rfl⟩:=hq
        simp only[go_sem,gw]
        exact⟨(q2++[⟨GY s d.dst,{ p with h0:=d.toPort },x.chain++[(ci:Int)]⟩],out2,_),by rw[TV,e6],hI3.put _ _ _ (by subst hpn;simp) FR ⟨hrp',⟨t1,t2⟩,by rw[AF];exact Dv hxc⟩,rfl,rfl⟩
     ·rintro ⟨q2,out2,Z⟩ hI2 hF2
      dsimp only at hI2 hF2 ⊢
      obtain⟨y0,y2,yn,yx,yt,yl,y7,y8,y9⟩:=hI2
      have hpk:TV s x t tick (q,out) b.1=(q2,out2):=hF2
      rw[hpk]at x5
      simp only[go_sem,AQ,dF,y2]
      refine cS ?_ ?_<;>intro hc3
      ·have hc3:=of_decide_eq_true hc3
       have hres:ML s sts h tick=none:=by rw[x5];exact iP (by dsimp only;omega)
       rw[hres]
       simp only[go_sem]
       rfl
      ·have hc3:=of_decide_eq_false hc3
       have hres:ML s sts h tick=Xo s tick f' (n+1) q2 (now.set m b.2) out2:=by rw[x5];exact iN (by dsimp only;omega)
       have hwn:IntKind.i64.wrap ((n:Int)+1)=((n+1:Nat):Int):=Mg FR
       simp only[go_sem,hwn]
       refine⟨(f',n+1,q2,now.set m b.2,out2,Z),⟨y0,y2,yn,by dsimp only;omega,hres,⟨by dsimp only;omega,y8.1,by dsimp only;omega⟩,y7,by rw[Ao];exact x8,λk t2 st2 h1 h2=>?_⟩,by dsimp only;omega,rfl,rfl⟩
       dsimp only at h2 ⊢
       rw[Ax]at h2
       split at h2
       ·rename_i hkm
        subst hkm
        rw[ht]at h1
        cases h1
        split at h2
        ·cases h2
         exact⟨r3,FR⟩
        ·cases h2
       ·have:=x9 k t2 st2 h1 h2
        exact⟨this.1,Nat.le_trans this.2 (Nat.add_le_add_left (Nat.mul_le_mul_right _ (DS n)) _)⟩
   ·have hc:=of_decide_eq_false hc
    have hq2:q[n]? =none:=Av FR
    have hres:ML s sts h tick=some (out,now):=by
     rw[x5]
     obtain⟨f',rfl⟩:∃f',f=f'+1:=⟨f - 1,FR⟩
     rw[Xo,hq2]
    rw[hres]
    simp only[go_sem,x3]
    have hlen2:now.length=sts.length:=by rw[x8,R.len]
    rw[iP ⟨FR,.inr trivial⟩,AIX,<- hlen2,ml]
    simp only[go_sem]
    rfl
def eH(s:FE):Nat->List Int->Nat->Prop
 |a,[],k=>a=k
 |a,x::r,k => ∃d,0<=x/\s.contracts[x.toNat]? =some d/\d.src=(Hd s (a:Int)).name/\eH s (GY s d.dst).toNat r k
theorem Yk{s:FE}{x:Int}{d:FF}(h0:0<=x)(hd:s.contracts[x.toNat]? =some d): ∀{c:List Int} {a k:Nat},eH s a c k->d.src=(Hd s (k:Int)).name->eH s a (c++[x]) (GY s d.dst).toNat
 |[],a,k,h,hs=>by
  have:a=k:=h
  subst this
  exact⟨d,h0,hd,hs,rfl⟩
 |y::c,a,k,h,hs=>by
  obtain⟨e,e0,e1,e2,e3⟩:=h
  exact⟨e,e0,e1,e2,Yk h0 hd e3 hs⟩
theorem an{s:FE}(hR:R19 s){d:FF}(hd:d∈s.contracts):(GY s d.dst).toNat<s.tenants.length:=by
 have h0:=(NP (hR.con d hd)).2
 obtain⟨v,_,_,_,hv⟩:=Lx h0
 omega
theorem Yl{s:FE}(hR:R19 s): ∀{c:List Int} {a k:Nat},a<s.tenants.length->eH s a c k->(c=[]/\a=k)\/rnk s k<rnk s a
 |[],a,k,_,h => .inl ⟨rfl,h⟩
 |x::c,a,k,ha,h=>by
  obtain⟨d,_,e1,e2,e3⟩:=h
  have hdm:=AB e1
  have h1:=hR.rank ha hdm e2
  rcases Yl hR (an hR hdm) e3 with⟨_,h2⟩|h2
  ·right;rw[<- h2];exact h1
  ·right;omega
def itP(s:FE)(a:Nat)(q:List FB):Prop:=∀x∈q,0<=x.tenant/\x.tenant<(s.tenants.length:Int)/\eH s a x.chain x.tenant.toNat
def dlP(s:FE)(a:Nat)(out:List FC):Prop:=∀d∈out,∃(k:Nat) (t:FD) (p:E9),d.tenant=(k:Int)/\s.tenants[k]? =some t/\(xF t p).2=true/\d.head=(xF t p).1/\eH s a d.chain k
theorem zZ{s:FE}{t:FD}{p:E9}{tick:Int}(h:¬Mh s t p tick<0): ∃d,s.contracts[(Mh s t p tick).toNat]? =some d/\LV s t.name p tick d=true:=by
 rcases MA (LV s t.name p tick) s.contracts 0 with⟨w1,_⟩|⟨i,y,w1,w2,w3⟩
 ·exact absurd (show Mh s t p tick<0 by unfold Mh H8;rw[w1];decide) h
 ·refine⟨y, ?_,Du w3⟩
  have:Mh s t p tick=((i:Nat):Int):=by unfold Mh H8;rw[w1,AU]
  rw[this];exact w2
theorem dN{s:FE}{nm:ByteArray}{p:E9}{tick:Int}{d:FF}(h:LV s nm p tick d=true):d.src=nm:=by
 unfold LV at h
 simp only[AM,decide_eq_true_eq]at h
 first|exact h.1.1|exact h.1
theorem AEl{s:FE}(hR:R19 s){a m:Nat}{x:FB}{t:FD}(ht:s.tenants[m]? =some t)(hx:x.tenant=(m:Int))(hp:eH s a x.chain m){tick:Int}{b:List FB×List FC}(h1:itP s a b.1)(h2:dlP s a b.2)(p:E9):itP s a (XI s x t tick b p).1/\dlP s a (XI s x t tick b p).2:=by
 have hta:Hd s (m:Int)=t:=by unfold Hd;rw[Ag,ht];rfl
 unfold XI
 split
 ·exact⟨h1,h2⟩
 ·rename_i he
  have he:(xF t p).2=true:=by simpa using he
  split
  ·refine⟨h1,λd hd=>?_⟩
   rcases Ar.1 hd with hd|hd
   ·exact h2 d hd
   ·rcases Ab.1 hd with rfl
    exact⟨m,t,p,hx,ht,he,rfl,hp⟩
  ·rename_i hc
   obtain⟨d,hd,hb⟩:=zZ hc
   have hdm:=AB hd
   rw[hd]
   refine⟨λy hy=>?_,h2⟩
   rcases Ar.1 hy with hy|hy
   ·exact h1 y hy
   ·rcases Ab.1 hy with rfl
    have h0:=(NP (hR.con d hdm)).2
    have hl:=an hR hdm
    exact⟨h0,by dsimp only;omega,Yk FR hd hp (by rw[hta];exact dN hb)⟩
theorem Zy{s:FE}(hR:R19 s){a m:Nat}{x:FB}{t:FD}(ht:s.tenants[m]? =some t)(hx:x.tenant=(m:Int))(hp:eH s a x.chain m){tick:Int}: ∀(r:List E9) {b:List FB×List FC},itP s a b.1->dlP s a b.2->itP s a (TV s x t tick b r).1/\dlP s a (TV s x t tick b r).2
 |[],_,h1,h2=>⟨h1,h2⟩
 |p::r,b,h1,h2=>by
  rw[TV]
  obtain⟨g1,g2⟩:=AEl hR ht hx hp (tick:=tick) h1 h2 p
  exact Zy hR ht hx hp r g1 g2
end Go.AI
