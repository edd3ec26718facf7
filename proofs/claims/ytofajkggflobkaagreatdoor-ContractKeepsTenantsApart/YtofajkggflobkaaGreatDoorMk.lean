/- Rows of a known capacity;rows of any width that become lists. -/
import Derived.Test.YtofajkggflobkaaGreatDoorMx
set_option linter.unusedSimpArgs false
set_option linter.unusedVariables false
set_option maxHeartbeats 4000000
open Go.Proofs.Tryz
open Go.AI renaming Entry->E4,Hint->E5,Head->E6,Doing->E7,Stage->E8,Item->E9,Delivery->FA,Tenant->FB,Setup->FC,Contract->FD
open Bool renaming and_eq_true->AQ,not_false->Ax,not_true->Av
open Eq renaming trans->AG
open Int renaming lt_irrefl->AW,toNat_natCast->Aa
open List renaming append_assoc->AE,append_nil->Ai,cons_append->AR,drop_drop->A8,drop_left'->EQ,drop_of_length_le->Dp,drop_zero->BO,ext_getElem?->A5,filter_append->Cb,filter_eq_self->DP,find?_cons->Bz,find?_some->Dr,getElem?_append_right->AM,getElem?_concat_length->BT,getElem?_cons_zero->A7,getElem?_eq_getElem->AL,getElem?_eq_none->Az,getElem?_eq_some_iff->AC,getElem?_set->Aw,getElem?_set_ne->A6,getElem?_set_self->A3,getElem_mem->CP,length_append->AF,length_cons->AD,length_drop->Ce,length_filter_le->Cv,length_map->Aq,length_nil->AH,length_set->Ap,length_singleton->Bt,length_take->BC,map_append->Ar,map_congr_left->B2,map_cons->AS,map_flatten->DN,map_id->DO,mem_append->As,mem_cons->AX,mem_cons_of_mem->CJ,mem_cons_self->Cx,mem_filter->CW,mem_map->AP,mem_of_getElem?->AB,mem_singleton->Ac,nil_append->AN,set_append_left->BP,set_append_right->BS,set_eq_take_append_cons_drop->DA,set_set->BD,take_add_one->BE,take_length->BH,take_of_length_le->Bs,take_succ_cons->CO,zip_cons_cons->B4
open Nat renaming le_refl->AU,le_succ->DS,min_def->Dq,sub_self->AO,sub_zero->Bo,succ_le_succ->Ds,two_pow_pos->BZ,zero_add->AY,zero_le->BY,zero_mul->CM
open Option renaming getD_none->BG
open Go.Proofs.Tryz renaming prog->AA
namespace Go.AI
section
variable {P:Program}
theorem FV.cap{f:FuncId}{o off len sz:Nat}{vs:List AV}{H:FP}{R:AV->FP->Prop}(hcal:HW P f=true)(h : ∀ c,len<=c->c<=9223372036854775807->FV P f (.mslc o off len sz c::vs) H R):FV P f (.msl o off len sz::vs) H R :=
 ⟨hcal,λF G w us hc=>by
  match us,hc with
  | [],hc=>have:=hc.l.len;simp at this
  | u::us,hc =>
   obtain ⟨hv,ht,hr⟩:=hc.l.uncons
   cases hv with
   | msl _ _ _ _ b cap hb hl hm hcc =>
    refine (h cap hl (by unfold maxLen at hm;omega)).2 F G w _ ⟨.cons (.mslc o off len sz cap b hb hl hm hcc) (Ff (FT rfl rfl _) _ _ _) hr,hc.h,λx=>?_⟩
    have:=hc.cnt x
    rw [FY,FT rfl rfl] at this ⊢
    exact this⟩
theorem kV{f:FuncId}{vs:List AV}{H:FP}{R:AV->FP->Prop}(h:FV P f vs H λv H'=>R v H' \/ ∃ o off len sz c,v = .mslc o off len sz c/\R (.msl o off len sz) H'):FV P f vs H R :=
 ⟨h.1,λF G w us hc=>Calls.mono (h.2 F G w us hc) λe w' he=>by
  obtain ⟨u,rfl,v',H2,G',hr,hcr,hext⟩:=he
  rcases hr with hr|⟨o,off,len,sz,c,rfl,hr⟩
  ·exact ⟨u,rfl,v',H2,G',hr,hcr,hext⟩
  ·have hv:=hcr.l.rel 0 _ _ rfl rfl
   cases hv with
   | mslc _ _ _ _ _ b hb hl hm hcc=>exact ⟨_,rfl,_,H2,G',hr,hcr.swap1 (.msl o off len sz b c hb hl hm hcc) rfl,hext⟩⟩
def AHy(n:Nat)(es:List (List AV))(v:AV)(H H':FP):Prop :=
 (es=[]/\(∃ w,v = .sl w []) /\ ∃ ext,H'=H++ext) \/ ∃ ob cs,v = .msl ob 0 es.length n/\H.length<=ob/\(∃ ext,H'=H++ext)/\H'[ob]? =some (some cs)/\(∃ r,cs=es.flatten++r)
theorem pW {f:FuncId} {vs:List AV} {H:FP} {es:List (List AV)} {n:Nat} (hn : ∀ e∈es,e.length=n) (hs : ∀ e∈es,Fo H.length e=true) (hb : ∀ e∈es,e.map borrow1=e)
  (h:FV P f vs H λv' H'=>AHy n es v' H H'):FV P f vs H λv' H'=>v' = .sl none (es.map .agg)/\H'=H :=
 ⟨h.1,λF G w us hc=>Calls.mono (h.2 F G w us hc) λe w' he=>by
  obtain ⟨u,rfl,v',H2,G',hr,hcr,hext⟩:=he
  rcases hr with ⟨rfl,⟨w0,rfl⟩,ext,rfl⟩|⟨ob,cs,rfl,hob,⟨ext,rfl⟩,ho,r,rfl⟩
  ·have hv:VRel G' w' (.sl none []) u:=by
    have:=hcr.l.rel 0 _ _ rfl rfl
    cases this with
    | slnil=>exact .slnil _
    | slany=>exact .slany _ _
    | sl own es sz b q cap u' hsz hown hl hm h1 h2=>exact .sl none [] sz b q cap u' hsz (λn hn=>by cases hn) hl hm h1 h2
   obtain ⟨G2,k1,k2⟩:=hc.cutExt (hcr.swap1 hv rfl) hext rfl
   exact ⟨u,rfl,_,H,G2,⟨rfl,rfl⟩,k1,k2⟩
  ·have hv:=hcr.l.rel 0 _ _ rfl rfl
   have hlen:=OT es n hn
   obtain ⟨G2,ext2,k1,k2,k3⟩:=hcr.frzRow true ho hob hv (by rw [AF,hlen];omega) (.inl rfl)
   have e1:(es.flatten++r).map borrow1=es.flatten++r.map borrow1:=by
    rw [Ar,DN]
    congr 2
    exact B2 (f:=List.map borrow1) (g:=id) (λe he=>hb e he) |>.trans (DO _)
   rw [e1,Kj es _ n hn] at k3
   obtain ⟨G3,k4,k5⟩:=hc.cutExt (k1.swap1 k3 rfl) (hext.trans k2) (NQ hs)
   exact ⟨u,rfl,_,H,G3,⟨rfl,rfl⟩,k4,k5⟩⟩
def AVc(n:Nat)(es:List (List AV))(v:AV)(H H':FP):Prop:=AHy n es v H H'\/((∃ w,v = .sl w (es.map .agg)) /\ ∃ ext,H'=H++ext)
theorem pV {f:FuncId} {vs:List AV} {H:FP} {es:List (List AV)} {n:Nat} (hn : ∀ e∈es,e.length=n) (hs : ∀ e∈es,Fo H.length e=true) (hb : ∀ e∈es,e.map borrow1=e)
  (h:FV P f vs H λv' H'=>AVc n es v' H H'):FV P f vs H λv' H'=>v' = .sl none (es.map .agg)/\H'=H :=
 ⟨h.1,λF G w us hc=>Calls.mono (h.2 F G w us hc) λe w' he=>by
  obtain ⟨u,rfl,v',H2,G',hr,hcr,hext⟩:=he
  rcases hr with (⟨rfl,⟨w0,rfl⟩,ext,rfl⟩|⟨ob,cs,rfl,hob,⟨ext,rfl⟩,ho,r,rfl⟩)|⟨⟨w0,rfl⟩,ext,rfl⟩
  ·have hv:VRel G' w' (.sl none []) u:=by
    have:=hcr.l.rel 0 _ _ rfl rfl
    cases this with
    | slnil=>exact .slnil _
    | slany=>exact .slany _ _
    | sl own es sz b q cap u' hsz hown hl hm h1 h2=>exact .sl none [] sz b q cap u' hsz (λn hn=>by cases hn) hl hm h1 h2
   obtain ⟨G2,k1,k2⟩:=hc.cutExt (hcr.swap1 hv rfl) hext rfl
   exact ⟨u,rfl,_,H,G2,⟨rfl,rfl⟩,k1,k2⟩
  ·have hv:=hcr.l.rel 0 _ _ rfl rfl
   have hlen:=OT es n hn
   obtain ⟨G2,ext2,k1,k2,k3⟩:=hcr.frzRow true ho hob hv (by rw [AF,hlen];omega) (.inl rfl)
   have e1:(es.flatten++r).map borrow1=es.flatten++r.map borrow1:=by
    rw [Ar,DN]
    congr 2
    exact B2 (f:=List.map borrow1) (g:=id) (λe he=>hb e he) |>.trans (DO _)
   rw [e1,Kj es _ n hn] at k3
   obtain ⟨G3,k4,k5⟩:=hc.cutExt (k1.swap1 k3 rfl) (hext.trans k2) (NQ hs)
   exact ⟨u,rfl,_,H,G3,⟨rfl,rfl⟩,k4,k5⟩
  ·have hv:=(hcr.l.rel 0 _ _ rfl rfl).borrow1
   obtain ⟨G2,k1,k2⟩:=hc.cutExt (hcr.swap1 hv rfl) hext (NQ hs)
   exact ⟨u,rfl,_,H,G2,⟨rfl,rfl⟩,k1,k2⟩⟩
end
end Go.AI
namespace Go.AI
open Go.Proofs
set_option maxRecDepth 50000
def ak(a b:ByteArray):Int:=if TV a b=true then -1 else if a=b then 0 else 1
def OJ:List Int->List Int->Int
 | [],[]=>0
 | [],_::_ => -1
 | _::_,[]=>1
 | x::a,y::b=>if Ps x y≠0 then Ps x y else OJ a b
def Sz(a b:E4):Int:=if ak a.var b.var≠0 then ak a.var b.var else OJ a.key b.key
theorem AIB(a b:ByteArray):FQ AA 65 [.str a,.str b] (.int .i64 (ak a b)):=by
 refine pC AXA rfl ?_
 simp only [f65,go_sem]
 repeat' (first|((first|refine pK (lV a) ?_|refine pK (lV b) ?_);simp only [go_sem,FN])|(first|apply cS|apply gS)<;>intro hc<;>simp only [go_sem,hc,FN])
 all_goals first|(simp only [ak,TV];simp_all;done)|skip
theorem AIA(a b:List Int)(ha:a.length<=1073741824):FQ AA 66 [.sl none (GB a),.sl none (GB b)] (.int .i64 (OJ a b)):=by
 have ea:(GB a).length=a.length:=HM a
 have eb:(GB b).length=b.length:=HM b
 refine pC AG4 rfl ?_
 simp only [f66,go_sem,ea,eb]
 refine Fa a (λr=>OJ r (b.drop (a.length - r.length))) (λk=>[(0,.sl none (GB a)),(1,.sl none (GB b)),(9,.sl none (GB a)),(10,.int .i64 a.length),(11,.int .i64 k)]) FO rfl ?_ ?_
 ·intro k x xs hd hx hF h0 h1 hw
  have hk:=Fl hd
  have e1:a.length - (xs.length+1)=k:=FO
  have e2:a.length - xs.length=k+1:=FO
  simp only [AD,e1,e2,AO,BO] at hF ⊢
  by_cases hkb:k<b.length
  ·obtain ⟨y,hy⟩ : ∃ y,b[k]? =some y:=⟨_,AL hkb⟩
   have hnb : ¬ (b.length:Int)<=(k:Int):=FO
   rw [Uk hy,OJ] at hF
   simp only [go_sem,h0,h1,GI hx,GI hy,eb,hnb,dF]
   repeat' (first|(refine pK (AAP x y) ?_;simp only [go_sem,hw])|(first|apply cS|apply gS)<;>intro hc<;>simp only [go_sem,hc,hw])
   ·have hne:Ps x y≠0:=by simpa using hc
    rw [iP hne] at hF
    rw [hF]
   ·have hne : ¬ Ps x y≠0:=by simpa using hc
    rw [e1,e2,Uk hy,OJ,iN hne]
  ·have hnb:(b.length:Int)<=(k:Int):=FO
   rw [List.drop_eq_nil_of_le FO,OJ] at hF
   simp only [go_sem,h0,h1,GI hx,eb,hnb,dT]
   rw [hF]
 ·intro hF hlt
  rw [AO,BO] at hF
  simp only [go_sem,hlt,dF,ea,eb]
  cases hr:b.drop a.length with
  | nil =>
   have hlen:b.length<=a.length:=by simpa using hr
   have hnl : ¬ (a.length:Int)<(b.length:Int):=FO
   rw [AH,Bo,hr,OJ] at hF
   simp only [go_sem,hnl,dF]
   rw [hF]
  | cons y ys =>
   have hlen:a.length<b.length:=by have:=Fl hr;omega
   have hnl:(a.length:Int)<(b.length:Int):=FO
   rw [AH,Bo,hr,OJ] at hF
   simp only [go_sem,hnl,dT]
   rw [hF]
theorem Acm(l:List Int)(hl:l.length<=1073741824):FQ AA 64 [.sl none (GB l)] (.int .i64 ((l.find? λz=>z !=0).getD 0)):=by
 have el:(GB l).length=l.length:=HM l
 refine pC AXD rfl ?_
 simp only [f64,go_sem,el]
 refine Fa l (λr=>(r.find? λz=>z !=0).getD 0) (λk=>[(3,.int .i64 0),(6,.sl none (GB l)),(7,.int .i64 l.length),(8,.int .i64 k)]) FO rfl ?_ ?_
 ·intro k z zs hd hx hF h0 h1 hw
  simp only [go_sem,h0,h1,GI hx]
  repeat' (first|(first|apply cS|apply gS)<;>intro hc<;>simp only [go_sem,hc,hw])
  ·rw [hF,Bz,hc];rfl
  ·rw [Bz,hc]
 ·intro hF hlt
  simp only [go_sem,hlt,dF]
  rw [hF];rfl
theorem AV4(x y:Int):FQ AA 64 [.sl none [.int .i64 x,.int .i64 y]] (.int .i64 (if x≠0 then x else y)):=by
 have h:=Acm [x,y] sm
 have e:(([x,y].find? λz=>z !=0).getD 0)=if x≠0 then x else y:=by
  rw [Bz,Bz]
  by_cases hx:x=0
  ·subst hx
   by_cases hy:y=0
   ·subst hy;rfl
   ·have:(y !=0)=true:=by simp [hy]
    rw [this];rfl
  ·have:(x !=0)=true:=by simp [hx]
   rw [this,iP hx];rfl
 rw [e] at h
 exact h
theorem lc(a b:E4)(ha:a.key.length<=1073741824):FQ AA 37 [.agg a.c,.agg b.c] (.int .i64 (Sz a b)):=by
 refine pC AYC rfl ?_
 simp only [f37,go_sem]
 repeat' (first|((first|refine pK (AIB a.var b.var) ?_|refine pK (AIA a.key b.key ha) ?_|refine pK (FQ.weak (AV4 _ _)) ?_);simp only [go_sem])|(first|apply cS|apply gS)<;>intro hc<;>simp only [go_sem,hc])
 all_goals first|rfl|skip
def ic(l:List E4)(x:E4):Nat->Nat->Nat->Nat
 | 0,i,_=>i
 | f+1,i,j=>if i<j then (match l[(i+j) / 2]? with
   | some y=>if Sz y x<0 then ic l x f ((i+j) / 2+1) j else ic l x f i ((i+j) / 2)
   | none=>i) else i
def Xn(l:List E4)(x:E4):Nat:=ic l x (l.length+1) 0 l.length
def bsT(l:List E4)(x:E4):Bool:=match l[Xn l x]? with
 | some y=>Sz y x==0
 | none=>false
theorem ax(l:List E4)(x:E4): ∀ (f i j:Nat),i<=j->j<=l.length->ic l x f i j<=l.length
 | 0,i,j,h1,h2=>by rw [ic];omega
 | f+1,i,j,h1,h2=>by
  rw [ic]
  split
  ·rename_i hlt
   have hm:(i+j) / 2<l.length:=FO
   rw [AL hm]
   dsimp only
   split
   ·exact ax l x f _ _ FO h2
   ·exact ax l x f _ _ FO FO
  ·omega
theorem ACq(l:List E4)(x:E4):Xn l x<=l.length:=ax l x _ _ _ (BY _) (AU _)
theorem AV1(l:List E4)(hl:l.length<=4611686018427387903)(hk : ∀ y∈l,y.key.length<=1073741824)(x:E4):FQ AA 256 [.sl none (FZ l),.agg x.c,.fn (.func 37) [] []] (.tup [.int .i64 (Xn l x),.bool (bsT l x)]):=by
 refine pB ALZ rfl ?_
 simp only [f256,go_sem]
 refine Ko (σ:=Nat×Nat) (λs=>[(0,.sl none (FZ l)),(2,.fn (.func 37) [] []),(4,.ptr 0 0),(8,.int .i64 l.length),(9,.int .i64 s.1),(10,.int .i64 s.2)]) (λ_=>[some x.c]) (λs=>s.1<=s.2/\s.2<=l.length /\ ∃ f,s.2 - s.1<f/\Xn l x=ic l x f s.1 s.2) (λs=>s.2 - s.1) (0,l.length) ⟨BY _,AU _,l.length+1,by dsimp only;omega,rfl⟩ rfl rfl ?_
 rintro ⟨i,j⟩ ⟨hij,hj,f,hf,hF⟩
 dsimp only at hij hj hf hF ⊢
 obtain ⟨f,rfl⟩ : ∃ f',f=f'+1:=⟨f - 1,FO⟩
 rw [ic] at hF
 by_cases hlt:i<j
 ·have g1:(i:Int)<(j:Int):=FO
  have g2:(0:Int)<=(((i+j) / 2:Nat):Int):=FO
  have g3:(((i+j) / 2:Nat):Int).toNat=(i+j) / 2:=FO
  have hm:(i+j) / 2<l.length:=FO
  have hw:=Mk (k:=(i+j) / 2) FO
  have hgm:=AL hm
  have a1:=F8 hgm
  have c1:=lc l[(i+j) / 2] x (hk _ (CP hm))
  rw [iP hlt,hgm] at hF
  dsimp only at hF
  simp only [go_sem,g1,dT,Y5 hl hj hlt,g2,g3,a1]
  repeat' (first|(refine pK (c1) ?_;simp only [go_sem,g1,Y5 hl hj hlt,g2,g3,a1,hw])|(first|apply cS|apply gS)<;>intro hc<;>simp only [go_sem,hc,g1,Y5 hl hj hlt,g2,g3,a1,hw])
  ·have hc:=of_decide_eq_true hc
   rw [iP hc] at hF
   exact ⟨((i+j) / 2+1,j),⟨by dsimp only;omega,hj,f,by dsimp only;omega,hF⟩,by dsimp only;omega,rfl,rfl⟩
  ·have hc:=of_decide_eq_false hc
   rw [iN hc] at hF
   exact ⟨(i,(i+j) / 2),⟨by dsimp only;omega,by dsimp only;omega,f,by dsimp only;omega,hF⟩,by dsimp only;omega,rfl,rfl⟩
 ·have hij:i=j:=FO
  subst hij
  rw [iN hlt] at hF
  have g1 : ¬ (i:Int)<(i:Int):=FO
  unfold bsT
  rw [hF]
  by_cases hil:i<l.length
  ·have g3:(i:Int)<(l.length:Int):=FO
   have g4:(0:Int)<=(i:Int):=FO
   have hgi:=AL hil
   have a1:=F8 hgi
   have c1:=lc l[i] x (hk _ (CP hil))
   rw [hgi]
   simp only [go_sem,g1,dF,g3,g4,dT,a1]
   repeat' (first|(refine pK (c1) ?_;simp only [go_sem,g1,g3,g4,a1,dT,Aa])|(first|apply cS|apply gS)<;>intro hc<;>simp only [go_sem,hc,g1,g3,g4,a1,dT,Aa])
   all_goals first|rfl|skip
  ·have g3 : ¬ (i:Int)<(l.length:Int):=FO
   rw [Az FO]
   simp only [go_sem,g1,dF,g3]
   repeat' (first|(first|apply cS|apply gS)<;>intro hc<;>simp only [go_sem,hc,g1,g3])
   all_goals first|rfl|skip
theorem pz(l:List E4)(hl:l.length<=4611686018427387903)(hk : ∀ y∈l,y.key.length<=1073741824)(x:E4):FQ AA 191 [.sl none (FZ l),.agg x.c,.fn (.func 37) [] []] (.tup [.int .i64 (Xn l x),.bool (bsT l x)]):=by
 refine pC ANe rfl ?_
 simp only [f191,go_sem]
 repeat' (first|(refine pK (AV1 l hl hk x) ?_;simp only [go_sem])|(first|apply cS|apply gS)<;>intro hc<;>simp only [go_sem,hc])
 all_goals first|rfl|skip
def QA(l:List E4)(v:ByteArray)(key:List Int):Option E4:=if bsT l ⟨v,key,0,0⟩=true then l[Xn l ⟨v,key,0,0⟩]? else none
theorem AEn(l:List E4)(hl:l.length<=4611686018427387903)(hk : ∀ y∈l,y.key.length<=1073741824)(v:ByteArray)(key:List Int):FQ AA 114 [.sl none (FZ l),.str v,.sl none (GB key)] (.tup [.agg ((QA l v key).getD Entry.z).c,.bool (QA l v key).isSome]):=by
 have c1:=pz l hl hk ⟨v,key,0,0⟩
 refine pB AQ6 rfl ?_
 unfold QA
 cases hb:bsT l ⟨v,key,0,0⟩ with
 | false =>
  rw [hb] at c1
  simp only [f114,go_sem]
  refine pK c1 ?_
  simp only [go_sem]
  first|rfl|skip
 | true =>
  rw [hb] at c1
  obtain ⟨y,hy⟩ : ∃ y,l[Xn l ⟨v,key,0,0⟩]? =some y:=by
   unfold bsT at hb
   split at hb
   ·exact ⟨_,by assumption⟩
   ·cases hb
  have hy2:=F8 hy
  have h0:(0:Int)<=((Xn l ⟨v,key,0,0⟩:Nat):Int):=FO
  rw [iP rfl,hy]
  simp only [f114,go_sem]
  refine pK c1 ?_
  simp only [go_sem,h0,Aa,hy2]
  first|rfl|skip
def Fj(l:List E4):List AV:=(l.map Entry.c).flatten
theorem Hz(x:E4)(l:List E4):Fj (x::l)=x.c++Fj l:=rfl
theorem H9 : ∀ l:List E4,(Fj l).length=l.length*4
 | []=>rfl
 | x::l=>by
  rw [Hz,AF,H9 l,AD]
  have:x.c.length=4:=rfl
  omega
theorem S2 : ∀ (l:List E4) (r:List AV) (k:Nat) (y:E4),l[k]? =some y->((Fj l++r).drop (k*4)).take 4=y.c
 | [],_,_,_,h=>by simp at h
 | x::l,r,0,y,h=>by
  simp only [A7,Option.some.injEq] at h
  subst h
  rfl
 | x::l,r,k+1,y,h=>by
  rw [Hz,AE]
  have e:(k+1)*4=x.c.length+k*4:=by
   have:x.c.length=4:=rfl
   omega
  rw [e,<- A8,List.drop_left]
  exact S2 l r k y (by simpa using h)
theorem ZK{l:List E4}(r:List AV){k:Nat}{y:E4}(h:l[k]? =some y):k*4+4<=(Fj l++r).length:=by
 have:=(AC.1 h).1
 rw [AF,H9]
 omega
def fu(d:E4->Bool):Nat->List E4->Int
 | _,[] => -1
 | k,x::r=>if d x=true then (k:Int) else fu d (k+1) r
theorem AAW(l:List E4)(hl:l.length<=9223372036854775807)(r:List AV)(H:FP)(o:Nat)(ho:H[o]? =some (some (Fj l++r)))(f:Nat)(first cap:List AV)(d:E4->Bool)(hd : ∀ x∈l,GK AA f (first.map AV.borrow++(.agg (Entry.c x)::cap.map AV.borrow)) H (.bool (d x))):
  GK AA 189 [.msl o 0 l.length 4,.fn (.func f) first cap] H (.int .i64 (fu d 0 l)):=by
 refine aC mr rfl ?_
 simp only [f189,go_sem]
 refine Fa l (λr=>fu d (l.length - r.length) r) (λk=>[(0,.msl o 0 l.length 4),(1,.fn (.func f) first cap),(7,.int .i64 l.length),(8,.int .i64 k)]) hl rfl ?_ ?_
 ·intro k y ys hdr hx hF h0 h1 hw
  have c1:=hd y (AB hx)
  have g1:=ZK r hx
  have g2:=S2 l r k y hx
  have hk2:=Fl hdr
  have e1:l.length - (ys.length+1)=k:=FO
  have e2:l.length - ys.length=k+1:=FO
  simp only [AD,e1,AO] at hF
  simp only [go_sem,h0,h1,ho,g1,g2]
  repeat' (first|(refine aS (c1) ?_;simp only [go_sem])|(first|apply cS|apply gS)<;>intro hc<;>simp only [go_sem,hc,hw,e1,e2])
  ·rw [hF,fu,iP hc]
  ·rw [fu,iN (by rw [hc];decide)]
 ·intro hF hlt
  simp only [go_sem,hlt,dF]
  rw [AO] at hF
  rw [hF];rfl
theorem Jt : ∀ (l:List E4) (r:List AV) (i:Nat),i<=l.length->(Fj l++r).take (i*4)=Fj (l.take i)
 | _,r,0,_=>by simp [Fj]
 | [],r,i+1,h=>by simp at h
 | x::l,r,i+1,h=>by
  have e:(i+1)*4=x.c.length+i*4:=by
   have:x.c.length=4:=rfl
   omega
  rw [Hz,AE,e,List.take_length_add_append,Jt l r i (by simpa using h),CO,Hz]
theorem MM : ∀ (l:List E4) (r:List AV) (i:Nat),i<=l.length->(Fj l++r).drop (i*4)=Fj (l.drop i)++r
 | _,r,0,_=>sm
 | [],r,i+1,h=>by simp at h
 | x::l,r,i+1,h=>by
  have e:(i+1)*4=x.c.length+i*4:=by
   have:x.c.length=4:=rfl
   omega
  rw [Hz,AE,e,List.drop_length_add_append,MM l r i (by simpa using h),List.drop_succ_cons]
theorem Nn(a b:List E4):Fj (a++b)=Fj a++Fj b:=by unfold Fj;simp
theorem P3{l:List E4}(r:List AV){i:Nat}(h:i<l.length)(x:E4):splice (Fj l++r) (i*4) x.c=Fj (l.set i x)++r:=by
 have e:i*4+x.c.length=(i+1)*4:=by
  have:x.c.length=4:=rfl
  omega
 unfold splice
 rw [e,Jt l r i FO,MM l r (i+1) FO,DA,iP h,Nn,Hz]
 simp only [AE]
theorem Y3(d:E4->Bool): ∀ (l:List E4) (k:Nat),(fu d k l = -1 /\ ∀ x∈l,d x=false) \/ ∃ (i:Nat) (x:E4),fu d k l=((k+i:Nat):Int)/\l[i]? =some x/\d x=true /\ ∀ y∈l.take i,d y=false
 | [],k => .inl ⟨rfl,sm⟩
 | x::r,k=>by
  rw [fu]
  by_cases h:d x=true
  ·rw [iP h]
   exact .inr ⟨0,x,rfl,rfl,h,sm⟩
  ·rw [iN h]
   have h:d x=false:=by simpa using h
   rcases Y3 d r (k+1) with ⟨e,h2⟩|⟨i,y,e,h2,h3,h4⟩
   ·exact .inl ⟨e,by simpa [h] using h2⟩
   ·refine .inr ⟨i+1,y,by rw [e];congr 1;omega,h2,h3, ?_⟩
    rw [CO]
    intro z hz
    rcases AX.1 hz with rfl|hz
    ·exact h
    ·exact h4 z hz
theorem eC(H:FP)(f:Nat)(first cap:List AV):GK AA 189 [.sl none [],.fn (.func f) first cap] H (.int .i64 (-1)):=by
 refine aC mr rfl ?_
 simp only [f189,go_sem]
 refine Fa ([]:List E4) (λ_=>()) (λk=>[(0,.sl none []),(1,.fn (.func f) first cap),(7,.int .i64 ((0:Nat):Int)),(8,.int .i64 k)]) sm rfl ?_ ?_
 ·intro k y ys hd
  rw [List.drop_nil] at hd;cases hd
 ·intro _ hlt
  have z2:decide (((0:Nat):Int)<((0:Nat):Int))=false:=dc
  simp only [go_sem,z2]
theorem XP(w:Option Nat)(H:FP)(f:Nat)(first cap:List AV):FV AA 304 [.sl w [],.fn (.func f) first cap] H λv H'=>H'=H /\ ∃ w2,v = .sl w2 []:=by
 have c1:=eC H f first cap
 have z1:((-1:Int) == -1)=true:=rfl
 refine aC ABa rfl ?_
 cases w with
 | none =>
  simp only [f304,go_sem]
  repeat' (first|(refine aS (c1) ?_;simp only [go_sem,z1])|(first|apply cS|apply gS)<;>intro hc<;>simp only [go_sem,hc,z1])
  all_goals first|exact ⟨_,rfl⟩|exact ⟨rfl,_,rfl⟩|skip
 | some w =>
  simp only [f304,go_sem]
  repeat' (first|(refine aS (c1) ?_;simp only [go_sem,z1])|(first|apply cS|apply gS)<;>intro hc<;>simp only [go_sem,hc,z1])
  all_goals first|exact ⟨_,rfl⟩|exact ⟨rfl,_,rfl⟩|skip
theorem sC (l:List E4) (hl:l.length<=1073741823) (r:List AV) (H:FP) (o:Nat) (ho:H[o]? =some (some (Fj l++r))) (f:Nat) (first cap:List AV) (d:E4->Bool)
  (hd : ∀ x∈l,∀ c J,GK AA f (first.map AV.borrow++(.agg (Entry.c x)::cap.map AV.borrow)) (H.set o (some c)++J) (.bool (d x))) :
  FV AA 304 [.msl o 0 l.length 4,.fn (.func f) first cap] H λv H' => ∃ r' J,v = .msl o 0 (l.filter λx => !d x).length 4/\H'=H.set o (some (Fj (l.filter λx => !d x)++r'))++J:=by
 have hset:H.set o (some (Fj l++r))=H:=by
  obtain ⟨hlt,he⟩:=AC.1 ho
  apply A5
  intro i
  rw [Aw]
  split
  ·rename_i hi;subst hi;rw [ho]
  ·rfl
 have hd0 : ∀ x∈l,GK AA f (first.map AV.borrow++(.agg (Entry.c x)::cap.map AV.borrow)) H (.bool (d x)):=λx hx=>by
  have:=hd x hx (Fj l++r) []
  rw [hset,Ai] at this
  exact this
 have c1:=AAW l FO r H o ho f first cap d hd0
 refine aC ABa rfl ?_
 rcases Y3 d l 0 with ⟨e,hall⟩|⟨i,x,e,hx,hdx,hpre⟩
 ·rw [e] at c1
  have hf:l.filter (λx => !d x)=l:=DP.2 λx hx=>by rw [hall x hx];rfl
  simp only [f304,go_sem]
  repeat' (first|(refine aS (c1) ?_;simp only [go_sem,Int.reduceBEq])|(first|apply cS|apply gS)<;>intro hc<;>simp only [go_sem,hc,Int.reduceBEq])
  all_goals first|exact ⟨r,[],by rw [hf],by rw [hf,hset,Ai]⟩|skip
 ·rw [e,AY] at c1
  have hn1:(((i:Nat):Int) == -1)=false:=by rw [beq_eq_false_iff_ne];omega
  have hi:=(AC.1 hx).1
  have hw0:=Mk (k:=i) FO
  simp only [f304,go_sem]
  repeat' (first|(refine aS (c1) ?_;simp only [go_sem,hn1,hw0])|(first|apply cS|apply gS)<;>intro hc<;>simp only [go_sem,hc,hn1,hw0])
  refine Ko (σ:=Nat×Nat×List E4×FP×Fs) (λs=>(0,.msl o 0 l.length 4)::(1,.fn (.func f) first cap)::(5,.int .i64 s.1)::(6,.int .i64 s.2.1)::s.2.2.2.2) (λs=>H.set o (some (Fj s.2.2.1++r))++s.2.2.2.1)
   (λs=>s.1<s.2.1/\s.2.1<=l.length/\s.2.2.1.length=l.length/\s.2.2.1.take s.1=(l.take s.2.1).filter (λx => !d x)/\s.2.2.1.drop s.2.1=l.drop s.2.1) (λs=>l.length - s.2.1) (i,i+1,l,[],[]) ⟨by dsimp only;omega,by dsimp only;omega,rfl, ?_,rfl⟩ ?_ ?_ ?_
  ·dsimp only
   rw [BE,hx,Cb]
   have h1:(l.take i).filter (λx => !d x)=l.take i:=DP.2 λz hz=>by rw [hpre z hz];rfl
   rw [h1]
   simp [hdx]
  ·rfl
  ·dsimp only
   rw [hset,Ai]
  ·rintro ⟨i,j,row,J,rest⟩ ⟨hij,hj,hrl,htk,hdr⟩
   dsimp only at hij hj hrl htk hdr ⊢
   have hoL:=(AC.1 ho).1
   have fO : ∀ c z,(H.set o c++z)[o]? =some c:=λc z=>FU (IX hoL c) z
   have fW : ∀ c z c',(H.set o c++z).set o c'=H.set o c'++z:=λc z c'=>by rw [BP _ _ (by simpa using hoL),BD]
   by_cases hlt:j<l.length
   ·have hy:=AL hlt
    have hry:row[j]? =some l[j]:=by
     have:=congrArg (·[0]?) hdr
     simpa [hy] using this
    have j0:(0:Int)<=(j:Int):=FO
    have j1:(j:Int)<(l.length:Int):=FO
    have k0:(0:Int)<=(i:Int):=FO
    have k1:(i:Int)<(l.length:Int):=FO
    have hwj:=Mk (k:=j) FO
    have hwi:=Mk (k:=i) FO
    have g1:=ZK r hry
    rw [AF] at g1
    have g2:=S2 row r j _ hry
    have fS : ∀ c z y,(H.set o c++(J++[z])).set (H.length+J.length) y=H.set o c++(J++[y]):=λc z y=>by
     rw [<- AE,<- AE]
     simp
    have fL : ∀ c y,(H.set o c++(J++[y]))[H.length+J.length]? =some y:=λc y=>by
     rw [<- AE]
     have:H.length+J.length=(H.set o c++J).length:=sm
     rw [this];exact BT
    have c2:=hd _ (AB hy) (Fj row++r) (J++[some (Entry.c l[j])])
    have hfil:(l.take (j+1)).filter (λx => !d x)=(l.take j).filter (λx => !d x)++(if d l[j]=true then [] else [l[j]]):=by
     rw [BE,hy,Cb]
     congr 1
     cases hd2:d l[j]<;>simp [hd2]
    have hc1:(Entry.c l[j]).length=4:=rfl
    have hc2:(Entry.c l[j]).take 4=Entry.c l[j]:=rfl
    cases hdy:d l[j] with
    | false =>
     rw [hdy] at c2
     simp only [go_sem,j0,j1,dT,fO,g1,g2,fS,fL,hc1,hc2,AE,AF,Ap]
     repeat' (first|(refine aS (c2) ?_;simp only [go_sem,k0,k1,fO,fL,fW,hwi,hwj,hc1,hc2,AF])|(first|apply cS|apply gS)<;>intro hc<;>simp only [go_sem,hc,j0,j1,k0,k1,dT,fO,g1,g2,fS,fL,fW,hwi,hwj,hc1,hc2,AE,AF,Ap])
     have k2:i*4+4<=(Fj row).length+r.length:=by rw [H9];omega
     rw [iP k2,P3 r FO]
     refine ⟨(i+1,j+1,row.set i l[j],J++[some (Entry.c l[j])],[]),⟨by dsimp only;omega,by dsimp only;omega,by simpa using hrl, ?_, ?_⟩,by dsimp only;omega,rfl,rfl⟩
     ·dsimp only
      rw [hfil,hdy,iN dc,<- htk,P1 row i l[j] FO]
     ·dsimp only
      rw [List.drop_set_of_lt FO,<- A8,hdr,A8]
    | true =>
     rw [hdy] at c2
     simp only [go_sem,j0,j1,dT,fO,g1,g2,fS,fL,hc1,hc2,AE,AF,Ap]
     repeat' (first|(refine aS (c2) ?_;simp only [go_sem,hwj])|(first|apply cS|apply gS)<;>intro hc<;>simp only [go_sem,hc,j0,j1,k0,k1,dT,fO,g1,g2,fS,fL,fW,hwi,hwj,hc1,hc2,AE,AF,Ap])
     refine ⟨(i,j+1,row,J++[some (Entry.c l[j])],[]),⟨by dsimp only;omega,by dsimp only;omega,hrl, ?_, ?_⟩,by dsimp only;omega,rfl,rfl⟩
     ·dsimp only
      rw [hfil,hdy,iP rfl,Ai,htk]
     ·dsimp only
      rw [<- A8,hdr,A8]
   ·have hjl:j=l.length:=FO
    subst hjl
    simp only [go_sem,AW,dF]
    refine ⟨⟨FO,FO,FO⟩, ?_⟩
    simp only [go_sem,AFk,fO,fW,AF]
    rw [BH] at htk
    have hkl:(l.filter λx => !d x).length=i:=by rw [<- htk,BC];omega
    refine ⟨FO,by rw [H9];omega,⟨FO,FO,.inl trivial⟩,Ga (AV.agg (Entry.z.cf (some 1))) (l.length - i)++(Fj row++r).drop (i*4+(Ga (AV.agg (Entry.z.cf (some 1))) (l.length - i)).length),J,by rw [hkl];rfl, ?_⟩
    unfold splice
    rw [Jt row r i FO,htk,AE]
theorem nq(l:List E4):(HU (FZ l)).map borrow1=Fj l:=by
 induction l with
 | nil=>rfl
 | cons x l ih =>
  have:HU (FZ (x::l))=x.c++HU (FZ l):=rfl
  rw [this,Ar,ih];rfl
theorem J9(l:List E4):(Fj l).map borrow1=Fj l:=by
 induction l with
 | nil=>rfl
 | cons x l ih=>rw [Hz,Ar,ih];rfl
theorem eH(l:List E4)(hl:l.length<=1073741824)(H:FP):FV AA 302 [.sl none (FZ l)] H λv H'=>(l=[]/\v = .sl (some 4) []/\H'=H)\/(v = .msl (H.length+1) 0 l.length 4/\H'=H++[none,some (Fj l)]):=by
 have el:(FZ l).length=l.length:=H7 l
 have g1 : ∀ (x:Option (List AV)),(H++[x])[H.length]? =some x:=λx=>sm
 have g2 : ∀ (x y:Option (List AV)),(H++[x]).set H.length y=H++[y]:=λx y=>sm
 refine aC AKC rfl ?_
 cases l with
 | nil =>
  simp only [f302,go_sem,g1,g2]
  exact .inr ⟨sm,rfl⟩
 | cons x l =>
  have hcs:FZ (x::l) = .agg x.c::FZ l:=rfl
  have hcat:=nq (x::l)
  rw [hcs] at hcat el ⊢
  simp only [AD] at hl
  simp only [f302,go_sem,g1,g2]
  exact ⟨FO,FO,.inr ⟨sm,by rw [hcat]⟩⟩
section
variable {P:Program} {d:Tmp} {K:Kt} {ev:Fs} {H:FP}
theorem AGK {t t' el:TypeId} {kn k:IntKind} {ob off len sz c m:Nat} {cs:List AV} {z:AV} (hu:P.underlying t=some (.slice el)) (hu2:P.underlying t'=some (.int kn)) (hz:Fi P el=some z) (h1:z.cells.length=sz) (h2:P.cellsOf el=sz) (h3:Gj P el=true) (hp:0<sz)
  (ho:H[ob]? =some (some cs)) (h5:off+len*sz<=cs.length) (h6:0<m) (h7:c<len+m) (h8:(len+m)*P.bytesOf el<=140737488355328) (h9:len+m<=9223372036854775807)
  (hk:K ((d,.msl H.length 0 (len+m) sz)::ev) (H++[some (((cs.drop off).take (len*sz)).map borrow1++(Ga z m).map borrow1)])):AGL P t t' true [.mslc ob off len sz c,.int k (m:Int)] d K ev H:=by
 subst h2
 unfold AGL apz
 simp only [hu,hu2,ho,Aa]
 exact ⟨z,hz,⟨h1,h3,hp,trivial,h5,FO,FO,h8,h9⟩,hk⟩
end
theorem Ul{P:Program}{H:FP}{el:TypeId}{k ob off len sz:Nat}{cs X:List AV}{b:AV}(hb:nS b=some (ob,off,len,sz,false)\/nS b=some (ob,off,len,sz,true))(ho:H[ob]? =some (some cs))(h1:off+k*sz<=cs.length)(h2:sz=P.cellsOf el)(h3:k<=len)(hX:(cs.drop off).take (k*sz)=X):iI P el H k b=some X:=by
 subst hX
 cases b<;>simp only [nS,reduceCtorEq,Option.some.injEq,Prod.mk.injEq,or_self,Bool.true_eq_false,Bool.false_eq_true,and_false,and_true,false_or,or_false] at hb
 all_goals
  obtain ⟨rfl,rfl,rfl,rfl⟩:=hb
  simp only [iI,ho]
  rw [iP ⟨h1,h2,h3⟩]
theorem Um {P:Program} {d:Tmp} {K:Kt} {ev:Fs} {H:FP} {t el:TypeId} {a b:AV} {ob off len sz m k:Nat} {gr:Bool} {cs X R:List AV} (hk:Nat.min m len=k) (hu:P.underlying t=some (.slice el)) (hrow:nS a=some (ob,off,len,sz,gr)) (hm:zX b=some m) (ho:H[ob]? =some (some cs)) (h1:sz=P.cellsOf el)
  (h2:(P.info? el).isSome=true) (h3:cs.map borrow1=cs) (h4:off<=cs.length) (h5:gr=true\/off+k*sz<=cs.length) (hs:iI P el H k b=some X) (hR:cs.take off++X.map borrow1++cs.drop (off+k*sz)=R)
  (hK:K ((d,.int .i64 (k:Nat))::ev) (H.set ob (some R))):AFh P t a b d K ev H:=by
 subst hk hR
 exact ACP hu hrow hm ho h1 h2 h3 h4 h5 hs hK
theorem pi{A Z E:List AV}{k:Nat}(hA:A.length=k)(m:Nat):(A++Z).take k++E++(A++Z).drop (k+m)=A++E++Z.drop m:=by
 rw [List.take_left' hA,<- A8,EQ hA]
def V5(l:List E4)(i:Nat)(e:E4):List E4:=l.take i++e::l.drop i
theorem fj{l:List E4}{i:Nat}(h:i<=l.length)(e:E4):(V5 l i e).length=l.length+1:=by simp [V5];omega
def AIZ(l:List E4)(i:Nat)(e:E4)(o:Nat)(H:FP)(v:AV)(H':FP):Prop :=
 ∃ ob r,v = .msl ob 0 (l.length+1) 4/\H'[ob]? =some (some (Fj (V5 l i e)++r))/\(ob=o\/H.length<=ob) /\ ∃ c ext,H'=H.set o c++ext
theorem r7(l:List E4)(hl:l.length<=1073741824)(i:Nat)(hi:i<=l.length)(e:E4)(o vo:Nat)(hov:vo≠o)(H:FP)(ho:H[o]? =some (some (Fj l)))(hv:H[vo]? =some (some e.c))(c:Nat)(hc1:l.length<=c)(hc2:c<=9223372036854775807):
  FV AA 303 [.mslc o 0 l.length 4 c,.int .i64 i,.msl vo 0 1 4] H λv H'=>AIZ l i e o H v H' \/ ∃ ob off len sz cp,v = .mslc ob off len sz cp/\AIZ l i e o H (.msl ob off len sz) H':=by
 have i0:(0:Int)<=(i:Int):=FO
 have hil:(i:Int)<=(l.length:Int):=FO
 have hlc:(l.length:Int)<=(c:Int):=FO
 have hcl:(Fj l).length=l.length*4:=H9 l
 have z1:(((1:Nat):Int)==0)=false:=rfl
 have hw1:IntKind.i64.wrap ((l.length:Int)+((1:Nat):Int))=((l.length+1:Nat):Int):=by rw [OA FO FO];rfl
 have hw2:IntKind.i64.wrap ((i:Int)+((1:Nat):Int))=((i+1:Nat):Int):=by rw [OA FO FO];rfl
 have hw3:IntKind.i64.wrap (((l.length+1:Nat):Int) - (i:Int))=((l.length+1 - i:Nat):Int):=by rw [OA FO FO];omega
 have hzv:Fi AA 107=some (.agg (Entry.z.cf (some 1))):=kr
 have hzo:Gj AA 107=true:=kr
 have hby:AA.bytesOf 107=56:=kr
 have hinf:(AA.info? 107).isSome=true:=kr
 have hag:Rv AA 107=true:=kr
 have hcz:AA.cellsOf 107=4:=kr
 have hsrc:S5 AA 107 true H (.msl vo 0 1 4)=some [.agg e.c]:=by
  have h:=ix (P:=AA) (el:=107) hv (off:=0) (len:=1) (sz:=4) (AU 4) hcz.symm (.inl hag)
  rw [hag] at h
  exact h
 have hus:AA.underlying 49=some (.slice 107):=kr
 have hui:AA.underlying 3=some (.int .i64):=kr
 have hcap : ∀ (d:Tmp) (K:Kt) (ev:Fs) (H2:FP),AFp AA 49 (.mslc o 0 l.length 4 c) d K ev H2=K ((d,.int .i64 c)::ev) H2:=λd K ev H2=>by
  unfold AFp
  rw [hus]
 have h00 : ¬ ((0:Int)=(c:Int)/\(0:Int)<0):=FO
 refine aC ABb rfl ?_
 by_cases hin:i=l.length
 ·subst hin
  have hee:((l.length:Int)==(l.length:Int))=true:=sm
  simp only [f303,go_sem,i0,hlc,z1,hee,hsrc,ho]
  refine ⟨FO,FO,hcl,J9 l,.inl ⟨H.length,[],rfl, ?_,.inr (AU _),none,[some (Fj l++e.c)],rfl⟩⟩
  rw [AM sm]
  have:V5 l l.length e=l++[e]:=by simp [V5]
  rw [this,Nn]
  simp [Fj]
  rfl
 ·have hne:((i:Int)==(l.length:Int))=false:=by rw [beq_eq_false_iff_ne];omega
  have hic : ¬ ((i:Int)=(c:Int)/\(0:Int)<(i:Int)):=FO
  by_cases hroom:c<l.length+1
  ·have hr1:(c:Int)<((l.length+1:Nat):Int):=FO
   simp only [f303,go_sem,i0,hlc,hil,hne,z1,hw1,hr1,dT,hic,hcap,hw3,Bo,CM,AY]
   refine ⟨FO,AGK (z:=.agg (Entry.z.cf (some 1))) hus hui hzv rfl hcz hzo dc ho FO FO  FO (by rw [hby];omega) FO ?_⟩
   have hn1:i+(l.length+1 - i)=l.length+1:=FO
   have hA:(((Fj l).drop 0).take (i*4)).map borrow1=Fj (l.take i):=by
    have:=Jt l [] i hi
    rw [Ai] at this
    rw [BO,this,J9]
   rw [hn1,hA]
   have hZ:((Ga (.agg (Entry.z.cf (some 1))) (l.length+1 - i)).map borrow1).length=(l.length+1 - i)*4/\((Ga (.agg (Entry.z.cf (some 1))) (l.length+1 - i)).map borrow1).map borrow1=(Ga (.agg (Entry.z.cf (some 1))) (l.length+1 - i)).map borrow1:=by
    refine ⟨by rw [Aq];simp [Ga];rfl, ?_⟩
    rw [List.map_map]
    exact B2 λa _=>by cases a<;>rfl
   generalize (Ga (.agg (Entry.z.cf (some 1))) (l.length+1 - i)).map borrow1=Z at hZ
   have hZb:Z.map borrow1=Z:=hZ.2
   replace hZ:=hZ.1
   simp only [go_sem,i0,AY]
   refine ⟨⟨FO,.inr FO⟩, ?_⟩
   have hAl:(Fj (l.take i)).length=i*4:=by rw [H9,BC];omega
   have hDl:(Fj (l.drop i)).length=(l.length - i)*4:=by rw [H9,Ce]
   have gv : ∀ x,(H++[x])[vo]? =some (some e.c):=λx=>FU hv _
   have go : ∀ x,(H++[x])[o]? =some (some (Fj l)):=λx=>FU ho _
   have gn : ∀ x:Option (List AV),(H++[x])[H.length]? =some x:=λx=>sm
   have gs : ∀ x y:Option (List AV),(H++[x]).set H.length y=H++[y]:=λx y=>sm
   refine Um (k:=1) (ob:=H.length) (cs:=Fj (l.take i)++Z) (X:=e.c) (R:=Fj (l.take i)++e.c++Z.drop 4) (by simp [Dq];omega) hus rfl rfl (gn _) hcz.symm hinf (by rw [Ar,J9,hZb]) (by rw [AF];omega) (.inr (by rw [AF];omega)) (Ul (.inl rfl) (gv _) (AU 4) hcz.symm (AU 1) rfl) (pi hAl 4) ?_
   have hn2:l.length+1 - (i+1)=l.length - i:=FO
   simp only [go_sem,gs,hw2,i0,hil,hic,hn2,AY]
   have hdr:((Fj l).drop (i*4)).take ((l.length - i)*4)=Fj (l.drop i):=by
    have:=MM l [] i hi
    rw [Ai,Ai] at this
    rw [this,Bs FO]
   have hel:e.c.length=4:=rfl
   have heb:e.c.map borrow1=e.c:=rfl
   have hZd:(Z.drop 4).length=(l.length - i)*4:=by rw [Ce];omega
   have hset:H.set o (some (Fj l))=H:=by
    apply A5
    intro j
    rw [Aw]
    split
    ·rename_i hj;subst hj;rw [ho,iP (AC.1 ho).1]
    ·rfl
   refine ⟨⟨FO,FO,.inr FO⟩,FO,Um (k:=l.length - i) (ob:=H.length) (cs:=Fj (l.take i)++e.c++Z.drop 4) (X:=Fj (l.drop i)) (R:=Fj (l.take i)++e.c++Fj (l.drop i)) (by simp []) hus rfl rfl (by rw [<- AE];exact gn _) hcz.symm hinf (by rw [Ar,Ar,J9,heb,List.map_drop,hZb]) (by simp only [AF];omega) (.inr (by simp only [AF];omega))
    (Ul (.inr rfl) (go _) FO hcz.symm FO hdr) ?_ ?_⟩
   ·rw [J9,pi (A:=Fj (l.take i)++e.c) (by rw [AF];omega),Dp (l:=Z.drop 4) FO,Ai]
   ·simp only [go_sem,gs]
    exact .inl ⟨H.length,[],rfl,by rw [gn,V5,Nn,Hz,Ai],.inr (AU _),some (Fj l),_,by rw [hset]⟩
  ·have hr1 : ¬ (c:Int)<((l.length+1:Nat):Int):=FO
   simp only [f303,go_sem,i0,hlc,hil,hne,z1,hw1,hw2,hr1,dF,hic,hcap,Bo,CM,AY]
   have hno : ¬ (((i+1:Nat):Int)=(c:Int)/\(0:Int)<((i+1:Nat):Int)):=FO
   have hsub:l.length+1 - (i+1)=l.length - i:=FO
   rw [iN hno,hsub]
   refine ⟨⟨FO,FO⟩,⟨FO,FO,FO⟩,xK (v:=.bool false) ⟨hov,⟨f333,49,4,107,kr,kr,kr,kr,kr,hus,hinf⟩,⟨_,hv⟩,⟨_,ho⟩,FO,rfl⟩ ?_⟩
   simp only [go_sem,hw2,i0,hno,hic,hsub]
   have hDl:(Fj (l.drop i)).length=(l.length - i)*4:=by rw [H9,Ce]
   have hTl:(Fj (l.take (i+1))).length=(i+1)*4:=by rw [H9,BC];congr 1;omega
   have hdr:((Fj l).drop (i*4)).take ((l.length - i)*4)=Fj (l.drop i):=by
    have:=MM l [] i hi
    rw [Ai,Ai] at this
    rw [this,Bs FO]
   have htk:(Fj l).take ((i+1)*4)=Fj (l.take (i+1)):=by
    have:=Jt l [] (i+1) FO
    rwa [Ai] at this
   have htk2:(Fj (l.take (i+1))++Fj (l.drop i)).take (i*4)=Fj (l.take i):=by
    have:=Jt (l.take (i+1)) (Fj (l.drop i)) i (by rw [BC];omega)
    rw [this,List.take_take,Nat.min_eq_left FO]
   have hol:=(AC.1 ho).1
   have go2 : ∀ x:Option (List AV),(H.set o x)[o]? =some x:=λx=>A3 hol
   have gv2 : ∀ x:Option (List AV),(H.set o x)[vo]? =some (some e.c):=λx=>by rw [A6 (Ne.symm hov)];exact hv
   have gs2 : ∀ x y:Option (List AV),(H.set o x).set o y=H.set o y:=λx y=>BD ..
   refine ⟨⟨FO,FO,FO⟩,⟨FO,FO⟩,Um (k:=l.length - i) (ob:=o) (cs:=Fj l) (X:=Fj (l.drop i)) (R:=Fj (l.take (i+1))++Fj (l.drop i)) (by simp [Dq];omega) hus rfl rfl ho hcz.symm hinf (J9 l) FO (.inl rfl) (Ul (.inr rfl) ho FO hcz.symm FO hdr)
    (by rw [htk,J9,Dp (l:=Fj l) FO,Ai]) ?_⟩
   simp only [go_sem,i0,hic,AY]
   refine ⟨⟨FO,FO⟩,Um (k:=1) (ob:=o) (cs:=Fj (l.take (i+1))++Fj (l.drop i)) (X:=e.c) (R:=Fj (l.take i)++e.c++Fj (l.drop i)) (by simp [Dq];omega) hus rfl rfl (go2 _) hcz.symm hinf (by rw [Ar,J9,J9]) (by rw [AF];omega) (.inl rfl) (Ul (.inl rfl) (gv2 _) (AU 4) hcz.symm (AU 1) rfl)
    (by rw [htk2,show i*4+1*4=(i+1)*4 by omega,EQ hTl];rfl) ?_⟩
   simp only [go_sem,gs2]
   exact .inr ⟨o,0,l.length+1,4,c,rfl,o,[],rfl,by rw [go2,V5,Nn,Hz,Ai],.inl rfl,_,[],by rw [Ai]⟩
theorem AAU(l:List E4)(hl:l.length<=1073741824)(i:Nat)(hi:i<=l.length)(e:E4)(o vo:Nat)(hov:vo≠o)(H:FP)(ho:H[o]? =some (some (Fj l)))(hv:H[vo]? =some (some e.c)):
  FV AA 303 [.msl o 0 l.length 4,.int .i64 i,.msl vo 0 1 4] H (AIZ l i e o H) :=
 kV (FV.cap ABb.c λc h1 h2=>r7 l hl i hi e o vo hov H ho hv c h1 h2)
end Go.AI
namespace Go.AI
open Go.Proofs
set_option maxRecDepth 50000
theorem r8 {H:FP} (l:List E4) (hl:l.length<=9223372036854775807) (g:FuncId) (fi ca:List AV) (p:E4->Bool)
  (h : ∀ x∈l,GK AA g (fi.map AV.borrow++(.agg x.c::ca.map AV.borrow)) H (.bool (p x))) :
  GK AA 189 [.sl none (FZ l),.fn (.func g) fi ca] H (.int .i64 (H8 p l)):=by
 unfold GK
 refine aC mr rfl ?_
 simp only [f189,go_sem]
 refine Fa l (λr=>HN p (l.length - r.length) r) (λk=>[(0,.sl none (FZ l)),(1,.fn (.func g) fi ca),(7,.int .i64 l.length),(8,.int .i64 k)]) hl rfl ?_ ?_
 ·intro k x xs hd hx hF h0 h1 hw
  have hk2:=Fl hd
  have e1:l.length - (xs.length+1)=k:=FO
  have e2:l.length - xs.length=k+1:=FO
  simp only [AD,e1,AO] at hF
  simp only [go_sem,h0,h1,F8 hx,e1,e2]
  repeat' (first|(refine aS (h x (AB hx)) ?_;simp only [go_sem,h0,h1,hw,F8 hx,e1,e2])|(first|apply cS|apply gS)<;>intro hc<;>simp only [go_sem,hc,h0,h1,hw,F8 hx,e1,e2])
  ·rw [H8,hF,HN,iP hc]
  ·rw [HN,iN (by rw [hc];decide)]
 ·intro hF hlt
  simp only [go_sem,hlt,dF]
  rw [AO] at hF
  rw [H8,hF];rfl
def tT:E5:={ aW with mt:=[40,67],tk:=25::aW.tk }
@[go_sem] theorem AcP(k:Nat):tT.lv k=aW.lv k:=AG rfl rfl
set_option linter.defProp false in
@[go_sem] def Ac4:=mj tT rfl rfl rfl
@[go_sem] theorem Ac3:tT.tk=[25,17,23,24,44,51,55,56,81,83,87,94]/\tT.mt=[40,67]/\tT.pc=[67,93]:=⟨rfl,rfl,rfl⟩
theorem AId:FK AA 303 f303 tT:=⟨kr,kr,func303,kr⟩
theorem r6(e:E4)(vo:Nat)(H:FP)(hv:H[vo]? =some (some e.c)):
  FV AA 303 [.sl (some 4) [],.int .i64 ((0:Nat):Int),.msl vo 0 1 4] H λv H'=>v = .sl (some 4) [.agg e.c]/\H'=H:=by
 have z1:(((1:Nat):Int)==0)=false:=rfl
 have z0:(((0:Nat):Int)==((0:Nat):Int))=true:=rfl
 have hag:Rv AA 107=true:=kr
 have hcz:AA.cellsOf 107=4:=kr
 have hsrc:S5 AA 107 true H (.msl vo 0 1 4)=some [.agg e.c]:=by
  have h:=ix (P:=AA) (el:=107) hv (off:=0) (len:=1) (sz:=4) (AU 4) hcz.symm (.inl hag)
  rw [hag] at h
  exact h
 refine aC AId rfl ?_
 simp only [f303,go_sem,z1,z0,hsrc]
 exact Int.le_refl _
def QS(l:List E4)(e:E4):List E4:=if bsT l e=true then l.set (Xn l e) e else V5 l (Xn l e) e
theorem Vs(l:List E4):(l.map Entry.c).map AV.agg=FZ l:=by
 induction l with
 | nil=>rfl
 | cons x l ih=>rw [AS,AS,ih];rfl
theorem AH8(st:List E4)(hl:st.length<=1073741823)(hk : ∀ y∈st,y.key.length<=1073741824)(e:E4):FQ AA 253 [.sl none (FZ st),.agg e.c] (.sl none (FZ (QS st e))):=by
 have c1:=pz st FO hk e
 have hle:=ACq st e
 have h0:FV AA 253 [.sl none (FZ st),.agg e.c] [] λv H'=>AVc 4 ((QS st e).map Entry.c) v [] H':=by
  refine aN ALi rfl ?_
  simp only [f253,go_sem]
  refine pK c1 ?_
  simp only [go_sem]
  refine Fr.intro (eH st FO [some e.c]) λv H' hq=>?_
  have k0:(0:Int)<=((Xn st e:Nat):Int):=FO
  rcases hq with ⟨rfl,rfl,rfl⟩|⟨rfl,rfl⟩
  ·have hb:bsT [] e=false:=rfl
   have hp:Xn [] e=0:=rfl
   simp only [go_sem,hb]
   rw [hp]
   refine Fr.intro (r6 e 1 _ rfl) λv H' hq=>?_
   obtain ⟨rfl,rfl⟩:=hq
   simp only [go_sem]
   exact .inr ⟨⟨_,rfl⟩,_,rfl⟩
  ·simp only [go_sem,AD,AH,AR,AN,AY,Nat.reduceAdd]
   cases hb:bsT st e with
   | true =>
    have hlt:Xn st e<st.length:=by
     unfold bsT at hb
     split at hb
     ·rename_i y hy;exact (AC.1 hy).1
     ·cases hb
    have k1:((Xn st e:Nat):Int)<(st.length:Int):=FO
    have k2:Xn st e*4+4<=(Fj st).length:=by rw [H9];omega
    have k3:splice (Fj st) (Xn st e*4) (e.cf none)=Fj (st.set (Xn st e) e):=by
     have:=P3 [] hlt e
     rw [Ai,Ai] at this
     exact this
    have k4:QS st e=st.set (Xn st e) e:=by rw [QS,iP hb]
    simp only [go_sem,k0,k1,k2,k3]
    refine .inl (.inr ⟨2,Fj (st.set (Xn st e) e), ?_,sm,⟨_,rfl⟩,rfl,[], ?_⟩)
    ·rw [k4,Aq,Ap]
    ·rw [k4,Ai];rfl
   | false =>
    have k4:QS st e=V5 st (Xn st e) e:=by rw [QS,iN (by rw [hb];decide)]
    simp only [go_sem,k0]
    refine Fr.intro (AAU st FO (Xn st e) hle e 2 3 dc _ rfl rfl) λv H' hq=>?_
    obtain ⟨ob,r,rfl,ho,hob,c,ext,rfl⟩:=hq
    simp only [go_sem]
    refine .inl (.inr ⟨ob,_, ?_,sm,⟨_,rfl⟩,ho,r, ?_⟩)
    ·rw [k4,Aq,fj hle]
    ·rw [k4];rfl
 have h1:=pV (n:=4) (es:=(QS st e).map Entry.c) (λx hx=>by obtain ⟨y,_,rfl⟩:=AP.1 hx;rfl) (λx hx=>by obtain ⟨y,_,rfl⟩:=AP.1 hx;exact y.c_bnd _) (λx hx=>by obtain ⟨y,_,rfl⟩:=AP.1 hx;rfl) h0
 rw [Vs] at h1
 refine N1 (h1.mono λv H' h=>h.1) ?_ ?_
 ·simp [A',AV.pure,Jo,SB]
 ·simp [AV.pure,Jo]
theorem rx(l:List E4)(hl:l.length<=1073741823)(H:FP)(g:FuncId)(ca:List AV)(hca:ca.map AV.borrow=ca)(d:E4->Bool)(hd : ∀ x∈l,∀ J,GK AA g (.agg x.c::ca) (H++J) (.bool (d x))):
  FV AA 254 [.sl none (FZ l),.fn (.func g) [] ca] H λv H'=>v = .sl none (FZ (l.filter d))/\H'=H:=by
 have h1 : ∀ x∈l,∀ J,GK AA 305 [.agg x.c,.ptr H.length 0] (H++some [.fn (.func g) [] ca]::J) (.bool (!d x)):=by
  intro x hx J
  refine FV.drop rfl ?_
  have c1:=hd x hx (some [.fn (.func g) [] ca]::(J++[some (Entry.c x)]))
  have e1:H++some [.fn (.func g) [] ca]::(J++[some (Entry.c x)])=H++some [.fn (.func g) [] ca]::J++[some (Entry.c x)]:=sm
  rw [e1] at c1
  refine aC AJ5 rfl ?_
  have g1 : ∀ L,(H++some [AV.fn (.func g) [] ca]::L)[H.length]? =some (some [AV.fn (.func g) [] ca]):=λL=>sm
  have g2 : ∀ X y,(H++X::(J++[y]))[List.length (H++X::J)]? =some y:=λX y=>by
   have:H++X::(J++[y])=(H++X::J)++[y]:=sm
   rw [this];exact BT
  have hc2:(Entry.c x).take 4=Entry.c x:=rfl
  have hc3:(Entry.c x).length=4:=rfl
  simp only [f305,go_sem,g1,g2,hc2,hc3,hca]
  rw [<- e1] at c1
  repeat' (first|(refine aS (c1) ?_;simp only [go_sem,g1,g2])|(first|apply cS|apply gS)<;>intro hc<;>simp only [go_sem,hc,g1,g2])
  exact ⟨_,rfl⟩
 have h0:FV AA 254 [.sl none (FZ l),.fn (.func g) [] ca] H λv H'=>AHy 4 ((l.filter d).map Entry.c) v H H':=by
  refine aC ALf rfl ?_
  simp only [f254,go_sem]
  refine Fr.intro (eH l FO _) λv H' hq=>?_
  rcases hq with ⟨rfl,rfl,rfl⟩|⟨rfl,rfl⟩
  ·simp only [go_sem]
   refine Fr.intro (XP _ _ _ _ _) λv H' hq=>?_
   obtain ⟨rfl,w2,rfl⟩:=hq
   simp only [go_sem]
   exact .inl ⟨rfl,⟨_,rfl⟩,_,rfl⟩
  ·simp only [go_sem]
   have f2:List.filter (λx => !!d x) l=l.filter d:=sm
   have eo:List.length (H++[some [AV.fn (.func g) [] ca]])+1=H.length+2:=sm
   have eS : ∀ (c:Option (List AV)) (J:FP),(H++[some [AV.fn (.func g) [] ca],none,some (Fj l)]).set (H.length+2) c++J=H++some [.fn (.func g) [] ca]::([none,c]++J):=λc J=>by
    rw [BS _ _ FO]
    simp
   rw [eo]
   refine Fr.intro (sC l hl [] _ (H.length+2) sm _ [] [.ptr H.length 0] (λx => !d x) λx hx c J=>by rw [eS];exact h1 x hx _) λv H' hq=>?_
   obtain ⟨r,J,rfl,rfl⟩:=hq
   simp only [go_sem,f2,eS]
   refine .inr ⟨H.length+2,Fj (l.filter d)++r, ?_,FO,⟨_,rfl⟩, ?_,r,rfl⟩
   ·rw [Aq]
   ·simp
 have h2:=pW (n:=4) (es:=(l.filter d).map Entry.c) (λx hx=>by obtain ⟨y,_,rfl⟩:=AP.1 hx;rfl) (λx hx=>by obtain ⟨y,_,rfl⟩:=AP.1 hx;exact y.c_bnd _) (λx hx=>by obtain ⟨y,_,rfl⟩:=AP.1 hx;rfl) h0
 rwa [Vs] at h2
def XX(st:List E4)(v:ByteArray):List E4:=st.filter λe=>decide (e.var=v)
theorem AGs(l:List E4)(hl:l.length<=1073741823)(v:ByteArray):FQ AA 188 [.sl none (FZ l),.str v] (.sl none (FZ (XX l v))):=by
 have h1 : ∀ x∈l,∀ J,GK AA 255 [.agg x.c,.ptr 0 0] ([some [.str v]]++J) (.bool (decide (x.var=v))):=by
  intro x hx J
  refine FV.drop rfl ?_
  refine aC ALc rfl ?_
  simp only [f255,go_sem]
  exact ⟨by rw [FN],_,rfl⟩
 refine pB ANm rfl ?_
 simp only [f188,go_sem]
 refine Fr.intro (rx l hl _ _ _ rfl _ h1) λw H' hq=>?_
 obtain ⟨rfl,rfl⟩:=hq
 simp only [go_sem]
 rfl
def AZC(f:Fld×Bool):Prop:=f.2=true->HE f.1
def yu(l:List Fld)(h:E6)(nm:ByteArray)(n:Int):E6:=if (Fb l nm).2=true then RH (Fb l nm).1 h (if KV (Fb l nm).1<n then KV (Fb l nm).1 else n).toNat else h
theorem WD{l:List Fld}(hl:I3 l)(s:ByteArray):AZC (Fb l s):=λh=>Il hl h
theorem PR{α:Type}{H:List α}{o:Nat}{x:α}(h:H[o]? =some x):H.set o x=H:=by
 apply A5
 intro j
 rw [Aw]
 split
 ·rename_i hj;subst hj;rw [h,iP (AC.1 h).1]
 ·rfl
theorem LV{α:Type}{H:List α}{o:Nat}{x:α}(h:o<H.length)(L:List α):(H++L).set o x=H.set o x++L:=BP _ _ h
theorem SH{l:List Fld}(hl:I3 l){h:E6}(hr:FX h=true)(nm:ByteArray){n:Int}(hn:0<=n):FX (yu l h nm n)=true:=by
 unfold yu
 split
 ·rename_i hf
  have hg:=WD hl nm hf
  have hm:=RR hg
  have hp:0<2^fW (Fb l nm).1:=BZ _
  refine NR hg ?_ hr
  rw [hm]
  split<;>omega
 ·exact hr
theorem Uc(D:E7)(hl:I3 D.fields)(hln:D.fields.length<=9223372036854775807)(hr:FX D.head=true)(nm:ByteArray)(n:Int)(hn:0<=n)(H:FP)(od:Nat)(o0 o1 o2 o3:Option Nat)(ho:H[od]? =some (some (D.cf o0 o1 o2 o3))):
  FV AA 187 [.ptr od 0,.str nm,.int .i64 n] H λv H'=>v = .tup [] /\ ∃ ext,H'=H.set od (some (({ D with head:=yu D.fields D.head nm n }:E7).cf o0 o1 o2 o3))++ext:=by
 have hlt:=(AC.1 ho).1
 have c1:=QU D.fields hln nm
 have q0:=q_0 H
 have g1:=FU ho
 refine aC ANp rfl ?_
 cases hf:(Fb D.fields nm).2 with
 | false =>
  rw [hf] at c1
  simp only [f187,go_sem,ho,g1]
  refine pK c1 ?_
  simp only [go_sem,ho,g1,q0]
  have e1:yu D.fields D.head nm n=D.head:=by unfold yu;rw [iN (by rw [hf];decide)]
  rw [e1,PR ho]
  exact ⟨_,rfl⟩
 | true =>
  rw [hf] at c1
  have hg:=WD hl nm hf
  have hm:=RR hg
  have c2:=qB (Fb D.fields nm).1 (by have:=hg;unfold HE at this;omega) (by have:=hg;unfold HE at this;omega)
  have hp:0<2^fW (Fb D.fields nm).1:=BZ _
  have e1:yu D.fields D.head nm n=RH (Fb D.fields nm).1 D.head (if KV (Fb D.fields nm).1<n then KV (Fb D.fields nm).1 else n).toNat:=by unfold yu;rw [iP hf]
  have e2:(((if KV (Fb D.fields nm).1<n then KV (Fb D.fields nm).1 else n).toNat:Nat):Int)=if KV (Fb D.fields nm).1<n then KV (Fb D.fields nm).1 else n:=Int.toNat_of_nonneg (by rw [hm];split<;>omega)
  have c3:=lY (Fb D.fields nm).1 hg D.head hr (if KV (Fb D.fields nm).1<n then KV (Fb D.fields nm).1 else n).toNat (by rw [hm];split<;>omega)
  rw [e2,<- e1] at c3
  simp only [f187,go_sem,ho,g1]
  refine pK c1 ?_
  simp only [go_sem,ho,g1,q0]
  refine pK c2 ?_
  simp only [go_sem,ho,g1,q0]
  refine pK c3 ?_
  simp only [go_sem,ho,g1,q0,hlt]
  rw [LV hlt]
  exact ⟨_,rfl⟩
def Gw(D:E7):E7×Bool:=if D.is=false/\100<=(XX D.st D.step.var).length then (D,false) else ({ D with st:=QS D.st D.entry },true)
theorem KZ(D:E7):(Gw D).1.fields=D.fields/\(Gw D).1.step=D.step/\(Gw D).1.head=D.head/\(Gw D).1.entry=D.entry:=by
 unfold Gw;split<;>exact ⟨rfl,rfl,rfl,rfl⟩
def dJ(od:Nat)(o0 o1 o3:Option Nat)(H:FP)(r:E7×Bool)(v:AV)(H':FP):Prop:=v = .bool r.2 /\ ∃ o2 ext,H'=H.set od (some (r.1.cf o0 o1 o2 o3))++ext
theorem MS(D:E7)(hst:D.st.length<=1073741823)(hk : ∀ y∈D.st,y.key.length<=1073741824)(H:FP)(od:Nat)(o0 o1 o2 o3:Option Nat)(ho:H[od]? =some (some (D.cf o0 o1 o2 o3))):
  FV AA 186 [.ptr od 0] H (dJ od o0 o1 o3 H (Gw D)):=by
 have hlt:=(AC.1 ho).1
 have c1:=AGs D.st FO D.step.var
 have c2:=AH8 D.st FO hk D.entry
 refine aC ANs rfl ?_
 cases hi:D.is with
 | true =>
  simp only [f186,go_sem,ho,hi,Av]
  refine pK c2 ?_
  simp only [go_sem,ho,hlt]
  have e1:Gw D=({ D with st:=QS D.st D.entry },true):=by unfold Gw;rw [iN (by rw [hi];simp)]
  rw [e1]
  exact ⟨rfl,none,[],sm⟩
 | false =>
  simp only [f186,go_sem,ho,hi,Ax]
  refine pK c1 ?_
  simp only [go_sem,ho,hlt]
  refine cS ?_ ?_<;>intro hc
  ·have e1:Gw D=(D,false):=by unfold Gw;rw [iP ⟨hi,by simp at hc;omega⟩]
   simp only [go_sem,e1]
   exact ⟨rfl,o2,[],by rw [PR ho,Ai]⟩
  ·have e1:Gw D=({ D with st:=QS D.st D.entry },true):=by unfold Gw;rw [iN (by simp at hc ⊢;omega)]
   simp only [go_sem,ho,hlt]
   refine pK c2 ?_
   simp only [go_sem,ho,hlt,e1]
   exact ⟨rfl,none,[],by simp [hi]⟩
theorem U6{α:Type}{H:List α}{o:Nat}(h:o<H.length)(x:α)(L:List α):(H.set o x++L)[o]? =some x:=by
 rw [List.getElem?_append_left (by rw [Ap];exact h)]
 exact A3 h
def AGt(D:E7):E7×Bool:=Gw { D with entry:={ D.entry with at_:=D.tick } }
def ao(D:E7):E7×Bool:=(D,D.is&&decide (IntKind.i64.wrap (D.tick - D.step.n)<=D.entry.at_))
def wrD(r:E7×Bool):E7×Bool:=if r.2=true then ({ r.1 with head:=yu r.1.fields r.1.head r.1.step.field r.1.entry.n },true) else (r.1,false)
def VZ(a b:Int):Int:=if b<a then b else a
def nU(D:E7):E7×Bool:=wrD (Gw { D with entry:={ D.entry with n:=VZ (D.entry.n+1) 65535,at_:=D.tick } })
def gG:E5:={ m5 with pc:=[] }
@[go_sem] theorem AcT(k:Nat):gG.lv k=m5.lv k/\gG.ct k=m5.ct k/\gG.at k=m5.at k/\gG.dn k=m5.dn k:=⟨AG rfl rfl,AG rfl rfl,AG rfl rfl,AG rfl rfl⟩
@[go_sem] theorem Ac8:gG.tk=[]/\gG.mt=[]/\gG.pc=[]:=⟨rfl,rfl,rfl⟩
theorem AIh:FK AA 107 f107 gG:=⟨kr,kr,func107,kr⟩
def gF:E5:={ mz with pc:=[] }
@[go_sem] theorem AcS(k:Nat):gF.lv k=mz.lv k/\gF.ct k=mz.ct k/\gF.at k=mz.at k/\gF.dn k=mz.dn k:=⟨AG rfl rfl,AG rfl rfl,AG rfl rfl,AG rfl rfl⟩
@[go_sem] theorem Ac7:gF.tk=[]/\gF.mt=[]/\gF.pc=[]:=⟨rfl,rfl,rfl⟩
theorem AIg:FK AA 108 f108 gF:=⟨kr,kr,func108,kr⟩
section
variable (D:E7) (hl:I3 D.fields) (hln:D.fields.length<=9223372036854775807) (hst:D.st.length<=1073741823) (hk : ∀ y∈D.st,y.key.length<=1073741824) (hr:FX D.head=true) (he:0<=D.entry.n/\D.entry.n<=65535)
variable (H:FP) (od:Nat) (o0 o1 o2 o3:Option Nat) (ho:H[od]? =some (some (D.cf o0 o1 o2 o3)))
include hst hk ho
theorem AEj:FV AA 108 [.ptr od 0] H (dJ od o0 o1 o3 H (AGt D)):=by
 have hlt:=(AC.1 ho).1
 refine aC AIg rfl ?_
 simp only [f108,go_sem,ho,hlt]
 refine Fr.intro (MS { D with entry:={ D.entry with at_:=D.tick } } hst hk _ od o0 o1 o2 o3 (A3 hlt)) λv H' hq=>?_
 obtain ⟨rfl,w,ext,rfl⟩:=hq
 simp only [go_sem]
 exact ⟨rfl,w,ext,by rw [BD];rfl⟩
theorem AAQ:FV AA 109 [.ptr od 0] H (dJ od o0 o1 o3 H (ao D)):=by
 have:=hst
 have:=hk
 have hlt:=(AC.1 ho).1
 refine aC ARI rfl ?_
 cases hi:D.is<;>simp only [f109,go_sem,ho,hi]
 ·exact ⟨by rw [ao,hi];rfl,o2,[],by rw [Ai];exact (PR ho).symm⟩
 ·exact ⟨by rw [ao,hi];rfl,o2,[],by rw [Ai];exact (PR ho).symm⟩
include hl hln hr he
theorem AAO:FV AA 107 [.ptr od 0] H (dJ od o0 o1 o3 H (nU D)):=by
 have hlt:=(AC.1 ho).1
 have hw:IntKind.i64.wrap (D.entry.n+1)=D.entry.n+1:=OA FO FO
 refine aC AIh rfl ?_
 have gS : ∀ x,(H.set od x)[od]? =some x:=λx=>A3 hlt
 have gL : ∀ x,od<(H.set od x).length:=λx=>by rw [Ap];exact hlt
 have sS : ∀ x y,(H.set od x).set od y=H.set od y:=λx y=>BD ..
 simp only [f107,go_sem,ho,hlt,hw,gS,gL,sS]
 refine Fr.intro (MS { D with entry:={ D.entry with n:=VZ (D.entry.n+1) 65535,at_:=D.tick } } hst hk _ od o0 o1 o2 o3 (gS _)) λv H' hq=>?_
 obtain ⟨rfl,w,ext,rfl⟩:=hq
 have hD:nU D=wrD (Gw { D with entry:={ D.entry with n:=VZ (D.entry.n+1) 65535,at_:=D.tick } }):=rfl
 rw [hD]
 have k1:=KZ { D with entry:={ D.entry with n:=VZ (D.entry.n+1) 65535,at_:=D.tick } }
 generalize Gw { D with entry:={ D.entry with n:=VZ (D.entry.n+1) 65535,at_:=D.tick } }=r at k1 ⊢
 obtain ⟨D2,b⟩:=r
 obtain ⟨k2,k3,k4,k5⟩:=k1
 dsimp only at k2 k3 k4 k5
 rw [sS]
 cases b with
 | false =>
  simp only [go_sem,Ax]
  exact ⟨rfl,w,ext,rfl⟩
 | true =>
  have hA:=U6 hlt (some (D2.cf o0 o1 w o3)) ext
  simp only [go_sem,Av,hA]
  refine Fr.intro (Uc D2 (by rw [k2];exact hl) (by rw [k2];exact hln) (by rw [k4];exact hr) _ _ (by rw [k5];unfold VZ;split<;>simp<;>omega) _ od o0 o1 w o3 hA) λv H' hq=>?_
  obtain ⟨rfl,ext2,rfl⟩:=hq
  simp only [go_sem]
  refine ⟨rfl,w,ext++ext2, ?_⟩
  rw [LV (gL _),sS,AE]
  rfl
end
end Go.AI
namespace Go.AI
open Go.Proofs
set_option maxRecDepth 50000
theorem Y9(U:List Int)(m:Int)(h:m∈U):(U.filter λx=>decide (m+1<=x)).length<(U.filter λx=>decide (m<=x)).length:=by
 have e:U.filter (λx=>decide (m+1<=x))=(U.filter λx=>decide (m<=x)).filter λx => !decide (x=m):=by
  rw [List.filter_filter]
  congr 1
  funext x
  rw [Bool.eq_iff_iff]
  simp
  omega
 rw [e]
 exact List.length_filter_lt_length_iff_exists.2 ⟨m,by simp [h],sm⟩
def K8(U:List Int)(m:Int):Int:=if m∈U then K8 U (m+1) else m
termination_by (U.filter λx=>decide (m<=x)).length
decreasing_by exact Y9 U m (by assumption)
theorem AB1{U:List Int}{m:Int}(h:m∈U):K8 U m=K8 U (m+1):=by rw [K8,iP h]
theorem wt{U:List Int}{m:Int}(h:m∉U):K8 U m=m:=by rw [K8,iN h]
theorem AB0(U:List Int)(m B:Int)(hU : ∀ x∈U,x<=B)(hm:m<=B+1):m<=K8 U m/\K8 U m<=B+1:=by
 fun_induction K8 U m with
 | case1 m h ih =>
  have:=hU m h
  have:=ih FO
  omega
 | case2 m h=>omega
def ME(D:E7):List Int:=(XX D.st D.step.var).map (·.n)
def NO(D:E7):E7×Bool :=
 if D.is=true then wrD (Gw { D with entry:={ D.entry with at_:=D.tick } })
 else if D.step.m<K8 (ME D) D.step.n then ({ D with entry:={ D.entry with n:=K8 (ME D) D.step.n,at_:=D.tick } },false)
 else wrD (Gw { D with entry:={ D.entry with n:=K8 (ME D) D.step.n,at_:=D.tick } })
def gD:E5:={ my with pc:=[29] }
@[go_sem] theorem AcQ(k:Nat):gD.lv k=my.lv k/\gD.ct k=my.ct k/\gD.at k=my.at k/\gD.dn k=my.dn k:=⟨AG rfl rfl,AG rfl rfl,AG rfl rfl,AG rfl rfl⟩
@[go_sem] theorem Ac5:gD.tk=[]/\gD.mt=[]/\gD.pc=[29]:=⟨rfl,rfl,rfl⟩
theorem AIe:FK AA 110 f110 gD:=⟨kr,kr,func110,kr⟩
def Xg(D:E7)(e:E4):Bool:=decide (e.var=D.step.var)&&(e.n==(Nk (Fb D.fields D.step.field).1 D.head:Nat))
def bkH(l:List Fld)(h:E6)(q:List (ByteArray×Int)):E6:=q.foldl (λh p=>yu l h p.1 p.2) h
def Wd(D:E7):E7×Bool:=match D.st.find? (Xg D) with
 | none=>(D,false)
 | some y=>({ D with head:=bkH D.fields D.head (D.step.key.zip y.key) },true)
theorem ce{α β:Type}(x:α){y:β}: ∀ {a:List α} {b:List β},b[a.length]? =some y->(a++[x]).zip b=a.zip b++[(x,y)]
 | [],[],h=>by simp at h
 | [],z::b,h=>by simp at h;subst h;rfl
 | w::a,[],h=>by simp at h
 | w::a,z::b,h=>by
  have h2:b[a.length]? =some y:=by simpa using h
  rw [AR,B4,ce x h2,B4];rfl
theorem Lz{α:Type}(p:α->Bool): ∀ (l:List α) (k:Nat),(HN p k l = -1/\l.find? p=none) \/ ∃ (i:Nat) (y:α),HN p k l=((k+i:Nat):Int)/\l[i]? =some y/\l.find? p=some y
 | [],k => .inl ⟨rfl,rfl⟩
 | x::l,k=>by
  rw [HN]
  by_cases h:p x=true
  ·rw [iP h]
   exact .inr ⟨0,x,rfl,rfl,by rw [Bz,h]⟩
  ·rw [iN h]
   have h2:p x=false:=by simpa using h
   rcases Lz p l (k+1) with ⟨h3,h4⟩|⟨i,y,h3,h4,h5⟩
   ·exact .inl ⟨h3,by rw [Bz,h2];exact h4⟩
   ·exact .inr ⟨i+1,y,by rw [h3];congr 1;omega,h4,by rw [Bz,h2];exact h5⟩
def gH:E5:={ mw with pc:=[19,27] }
@[go_sem] theorem AcU(k:Nat):gH.lv k=mw.lv k/\gH.ct k=mw.ct k/\gH.at k=mw.at k/\gH.dn k=mw.dn k:=⟨AG rfl rfl,AG rfl rfl,AG rfl rfl,AG rfl rfl⟩
@[go_sem] theorem Ac9:gH.tk=[]/\gH.mt=[]/\gH.pc=[19,27]:=⟨rfl,rfl,rfl⟩
theorem AIi:FK AA 111 f111 gH:=⟨kr,kr,func111,kr⟩
def QN(s:Stp)(e:E4)(is:Bool)(tick:Int):E4:=if is=true then e else { e with n:=s.n,at_:=tick }
def HB(s:Stp)(e:E4)(tick:Int):Int:=(if 0<tick - e.at_ then tick - e.at_ else 0) / s.m
def QM(s:Stp)(e:E4)(tick:Int):E4:=if s.n<=e.n+HB s e tick then { e with n:=s.n,at_:=tick } else { e with n:=e.n+HB s e tick,at_:=e.at_+HB s e tick*s.m }
def QL(e:E4):E4:=if 0<e.n then { e with n:=e.n - 1 } else e
theorem pd{s:Stp}{e:E4}{tick:Int}(hm:1<=s.m):0<=HB s e tick/\HB s e tick*s.m<=(if 0<tick - e.at_ then tick - e.at_ else 0):=by
 unfold HB
 have h0:0<=(if 0<tick - e.at_ then tick - e.at_ else 0):=by split<;>omega
 generalize (if 0<tick - e.at_ then tick - e.at_ else 0)=x at h0 ⊢
 exact ⟨Int.ediv_nonneg h0 FO,Int.ediv_mul_le _ FO⟩
theorem YY{s:Stp}{e:E4}{tick:Int}(hm:1<=s.m/\s.m<=1073741824)(he:0<=e.n/\e.n<=65536)(ht:0<=tick/\tick<=1073741824)(ha:0<=e.at_/\e.at_<=1073741824):
  IntKind.i64.wrap (tick - e.at_)=tick - e.at_/\IntKind.i64.wrap ((if tick - e.at_>0 then tick - e.at_ else 0).tdiv s.m)=HB s e tick/\IntKind.i64.wrap (e.n+HB s e tick)=e.n+HB s e tick/\IntKind.i64.wrap (HB s e tick*s.m)=HB s e tick*s.m/\IntKind.i64.wrap (e.at_+HB s e tick*s.m)=e.at_+HB s e tick*s.m /\
   0<=HB s e tick/\HB s e tick*s.m<=1073741824/\HB s e tick<=1073741824/\0<=HB s e tick*s.m:=by
 obtain ⟨p1,p2⟩:=pd (s:=s) (e:=e) (tick:=tick) hm.1
 have p3:(if 0<tick - e.at_ then tick - e.at_ else 0)<=1073741824:=by split<;>omega
 have p4:HB s e tick<=HB s e tick*s.m:=by
  have:=Int.mul_le_mul_of_nonneg_left hm.1 p1
  omega
 have p5:(if tick - e.at_>0 then tick - e.at_ else 0).tdiv s.m=HB s e tick:=by
  unfold HB
  rw [Int.tdiv_eq_ediv_of_nonneg (by split<;>omega)]
 rw [p5]
 exact ⟨OA FO FO,OA FO FO,OA FO FO,OA FO FO,OA FO FO,p1,FO,FO,FO⟩
def gE:E5:={ M6 with pc:=[] }
@[go_sem] theorem AcR(k:Nat):gE.lv k=M6.lv k/\gE.ct k=M6.ct k/\gE.at k=M6.at k/\gE.dn k=M6.dn k:=⟨AG rfl rfl,AG rfl rfl,AG rfl rfl,AG rfl rfl⟩
@[go_sem] theorem Ac6:gE.tk=[]/\gE.mt=[]/\gE.pc=[]:=⟨rfl,rfl,rfl⟩
theorem AIf:FK AA 112 f112 gE:=⟨kr,kr,func112,kr⟩
def JZ(D:E7):E7×Bool :=
 let e2:=QM D.step (QN D.step D.entry D.is D.tick) D.tick
 let r:=Gw { D with entry:=QL e2 }
 (r.1,r.2&&decide (0<e2.n))
section
variable (D:E7) (hl:I3 D.fields) (hln:D.fields.length<=9223372036854775807) (hst:D.st.length<=1073741823) (hk : ∀ y∈D.st,y.key.length<=1073741824) (hr:FX D.head=true) (he:0<=D.entry.n/\D.entry.n<=65535)
variable (H:FP) (od:Nat) (o0 o1 o2 o3:Option Nat) (ho:H[od]? =some (some (D.cf o0 o1 o2 o3)))
include hst hk ho hl hln hr he
theorem Zq(hn:0<=D.step.n/\D.step.n<=65536)(hen : ∀ y∈D.st,y.n<=65535):FV AA 110 [.ptr od 0] H (dJ od o0 o1 o3 H (NO D)):=by
 have hlt:=(AC.1 ho).1
 have gS : ∀ x,(H.set od x)[od]? =some x:=λx=>A3 hlt
 have gL : ∀ x,od<(H.set od x).length:=λx=>by rw [Ap];exact hlt
 have sS : ∀ x y,(H.set od x).set od y=H.set od y:=λx y=>BD ..
 have gA : ∀ x L,(H.set od x++L)[od]? =some x:=λx L=>U6 hlt x L
 have sA : ∀ x L y,(H.set od x++L).set od y=H.set od y++L:=λx L y=>by rw [LV (gL _),sS]
 refine aC AIe rfl ?_
 cases hi:D.is with
 | true =>
  have e1:NO D=wrD (Gw { D with entry:={ D.entry with at_:=D.tick },is:=true }):=by unfold NO;rw [iP hi,<- hi]
  rw [e1]
  simp only [f110,go_sem,ho,gS,hi,Av]
  have hEnd : ∀ (x:Option (List AV)) ext,(H.set od (some (({ D with entry:={ D.entry with at_:=D.tick },is:=true }:E7).cf o0 o1 o2 o3))).set od x++ext=H.set od x++([]++ext):=λx ext=>by rw [sS,AN]
  refine Fr.intro (MS ({ D with entry:={ D.entry with at_:=D.tick },is:=true }:E7) hst hk _ od o0 o1 o2 o3 (gS _)) λv H' hq=>?_
  obtain ⟨rfl,w,ext,rfl⟩:=hq
  have k1:=KZ ({ D with entry:={ D.entry with at_:=D.tick },is:=true }:E7)
  have kn:0<=({ D with entry:={ D.entry with at_:=D.tick },is:=true }:E7).entry.n:=he.1
  generalize Gw ({ D with entry:={ D.entry with at_:=D.tick },is:=true }:E7)=r at k1 ⊢
  obtain ⟨D2,b⟩:=r
  obtain ⟨k2,k3,k4,k5⟩:=k1
  dsimp only at k2 k3 k4 k5 kn
  cases b with
  | false =>
   simp only [go_sem,Ax]
   exact ⟨rfl,w,_,hEnd _ _⟩
  | true =>
   rw [hEnd]
   simp only [go_sem,Av,gA]
   refine Fr.intro (Uc D2 (by rw [k2];exact hl) (by rw [k2];exact hln) (by rw [k4];exact hr) _ _ (by rw [k5];exact kn) _ od o0 o1 w o3 (gA _ _)) λv H' hq=>?_
   obtain ⟨rfl,ext2,rfl⟩:=hq
   simp only [go_sem]
   refine ⟨rfl,w,([]:FP)++ext++ext2, ?_⟩
   rw [sA,<- AE]
   rfl
 | false =>
  simp only [f110,go_sem,ho,gS,gA,hi,Ax]
  refine pK (AGs D.st FO D.step.var) ?_
  simp only [go_sem]
  have hint:AA.underlying 3=some (.int .i64):=by simp only [go_sem]
  have hln2:(XX D.st D.step.var).length<=D.st.length:=Cv _ _
  have gM : ∀ x y L,(H.set od x++y::L)[H.length]? =some y:=λx y L=>by
   rw [AM sm];simp
  have sM : ∀ x y L z,(H.set od x++y::L).set H.length z=H.set od x++z::L:=λx y L z=>by
   rw [BS _ _ sm];simp
  have gN : ∀ x y L z,(H.set od x++y::(L++[z]))[List.length (H.set od x++y::L)]? =some z:=λx y L z=>by
   have:H.set od x++y::(L++[z])=(H.set od x++y::L)++[z]:=sm
   rw [this];exact BT
  have sN : ∀ x y L z z2,(H.set od x++y::(L++[z])).set (List.length (H.set od x++y::L)) z2=H.set od x++y::(L++[z2]):=λx y L z z2=>by
   have:H.set od x++y::(L++[z])=(H.set od x++y::L)++[z]:=sm
   rw [this];simp
  refine Fm (XX D.st D.step.var) (λ(_:List Int×FP) (_:List E4)=>()) (λk s=>Rl Ju s.1 /\ ∀ x,x∈s.1↔x∈((XX D.st D.step.var).take k).map (·.n)) (λk _=>[(0,.ptr od 0),(3,.mapr H.length),(29,.sl none (FZ (XX D.st D.step.var))),(30,.int .i64 (XX D.st D.step.var).length),(31,.int .i64 k)])
   (λ_ s=>H.set od (some (({ D with entry:={ D.entry with at_:=D.tick },is:=false }:E7).cf o0 o1 o2 o3))++some (J1 (LW Ju s.1))::s.2) ([],[]) FO ⟨trivial,λx=>sm⟩ ?_ rfl ?_ ?_
  ·rw [Ap];rfl
  ·rintro k ⟨B,L⟩ x xs hd hx hI _ h0 h1 hw
   dsimp only at hI ⊢
   have hc2:(Entry.c x).take 4=Entry.c x:=rfl
   have hc3:(Entry.c x).length=4:=rfl
   have hc4:(Entry.c x)[2]? =some (.int .i64 x.n):=rfl
   have htk:(XX D.st D.step.var).take (k+1)=(XX D.st D.step.var).take k++[x]:=by rw [BE,hx];rfl
   simp only [go_sem,h0,h1,F8 hx,gN,sN,hc2,hc3,hc4]
   refine rQ (kt:=3) (et:=4) B x.n (by first|simp only [go_sem]|kernel_rfl) (gM _ _ _) (Vx hint λa ha=>by
    rcases AX.1 ha with rfl|ha
    ·exact ⟨_,rfl⟩
    ·obtain ⟨z,_,rfl⟩:=AP.1 ha;exact ⟨_,rfl⟩) hI.1 ?_
   simp only [go_sem,hw,sM]
   refine ⟨(if B.any (λz=>z==x.n) then B else B++[x.n],L++[some (Entry.c x)]),⟨ACO _ hI.1,λy=>?_⟩,rfl,rfl⟩
   rw [htk,Ar,As,<- hI.2 y,AS,List.map_nil,Ac]
   dsimp only
   split
   ·rename_i hany
    have:x.n∈B:=by simpa using hany
    exact ⟨.inl,λh=>h.elim id λh=>h▸this⟩
   ·rw [As,Ac]
  ·rintro ⟨B,L⟩ hI _
   dsimp only at hI ⊢
   rw [BH] at hI
   have hU : ∀ x,x∈B↔x∈ME D:=hI.2
   have hUB : ∀ x∈ME D,x<=65535:=λx hx=>by
    obtain ⟨y,hy,rfl⟩:=AP.1 hx
    exact hen y (CW.1 hy).1
   simp only [go_sem,AW,dF,gA,sA]
   refine Ko (σ:=Int) (λ_=>[(0,.ptr od 0),(3,.mapr H.length)])
    (λm=>H.set od (some (({ D with entry:={ D.entry with n:=m,at_:=D.tick },is:=false }:E7).cf o0 o1 o2 o3))++some (J1 (LW Ju B))::L) (λm=>0<=m/\m<=65536/\K8 (ME D) D.step.n=K8 (ME D) m) (λm=>((ME D).filter λx=>decide (m<=x)).length) D.step.n ⟨hn.1,hn.2,rfl⟩ rfl rfl ?_
   rintro m ⟨m0,m1,m2⟩
   have hwm:IntKind.i64.wrap (m+1)=m+1:=OA FO FO
   simp only [go_sem,gA]
   refine AAz (kt:=3) (et:=4) Ju B (Ju m) (by first|simp only [go_sem]|kernel_rfl) (by first|simp only [go_sem]|kernel_rfl) (gM _ _ _) (Vx hint λa ha=>by
    rcases AX.1 ha with rfl|ha
    ·exact ⟨_,rfl⟩
    ·obtain ⟨z,_,rfl⟩:=AP.1 ha;exact ⟨_,rfl⟩) hI.1 ?_
   rw [qv]
   simp only [go_sem]
   refine cS ?_ ?_<;>intro hc
   ·have hm:m∈ME D:=(hU m).1 (by simpa using hc)
    have:=hUB m hm
    simp only [go_sem,gA,sA,hwm]
    exact ⟨m+1,⟨FO,FO,by rw [m2,AB1 hm]⟩,Y9 _ _ hm,rfl,rfl⟩
   ·have hm:m∉ME D:=λh=>by
     have:=(hU m).2 h
     simp at hc
     exact hc m this rfl
    have hf:K8 (ME D) D.step.n=m:=by rw [m2,wt hm]
    simp only [go_sem,gA]
    refine cS ?_ ?_<;>intro hc2
    ·have hlt2:D.step.m<m:=by simpa using hc2
     have e1:NO D=({ D with entry:={ D.entry with n:=m,at_:=D.tick },is:=false },false):=by unfold NO;rw [iN (by rw [hi];decide),hf,iP hlt2,<- hi]
     rw [e1]
     simp only [go_sem]
     exact ⟨rfl,o2,_,rfl⟩
    ·have hlt2 : ¬ D.step.m<m:=by simpa using hc2
     have e1:NO D=wrD (Gw { D with entry:={ D.entry with n:=m,at_:=D.tick },is:=false }):=by unfold NO;rw [iN (by rw [hi];decide),hf,iN hlt2,<- hi]
     rw [e1]
     have hEnd : ∀ (x:Option (List AV)) ext,(H.set od (some (({ D with entry:={ D.entry with n:=m,at_:=D.tick },is:=false }:E7).cf o0 o1 o2 o3))++some (J1 (LW Ju B))::L).set od x++ext=H.set od x++((some (J1 (LW Ju B))::L)++ext):=λx ext=>by rw [sA,AE]
     simp only [go_sem]
     refine Fr.intro (MS ({ D with entry:={ D.entry with n:=m,at_:=D.tick },is:=false }:E7) hst hk _ od o0 o1 o2 o3 (gA _ _)) λv H' hq=>?_
     obtain ⟨rfl,w,ext,rfl⟩:=hq
     have k1:=KZ ({ D with entry:={ D.entry with n:=m,at_:=D.tick },is:=false }:E7)
     have kn:0<=({ D with entry:={ D.entry with n:=m,at_:=D.tick },is:=false }:E7).entry.n:=m0
     generalize Gw ({ D with entry:={ D.entry with n:=m,at_:=D.tick },is:=false }:E7)=r at k1 ⊢
     obtain ⟨D2,b⟩:=r
     obtain ⟨k2,k3,k4,k5⟩:=k1
     dsimp only at k2 k3 k4 k5 kn
     cases b with
     | false =>
      simp only [go_sem,Ax]
      exact ⟨rfl,w,_,hEnd _ _⟩
     | true =>
      rw [hEnd]
      simp only [go_sem,Av,gA]
      refine Fr.intro (Uc D2 (by rw [k2];exact hl) (by rw [k2];exact hln) (by rw [k4];exact hr) _ _ (by rw [k5];exact kn) _ od o0 o1 w o3 (gA _ _)) λv H' hq=>?_
      obtain ⟨rfl,ext2,rfl⟩:=hq
      simp only [go_sem]
      refine ⟨rfl,w,(some (J1 (LW Ju B))::L)++ext++ext2, ?_⟩
      rw [sA,<- AE]
      rfl
omit hk he in
theorem AEp(hf:(Fb D.fields D.step.field).2=true)(hkl : ∀ y∈D.st,y.var=D.step.var->D.step.key.length<=y.key.length)(hkp : ∀ y∈D.st,∀ x∈y.key,0<=x)(hskl:D.step.key.length<=1048576):FV AA 111 [.ptr od 0] H (dJ od o0 o1 o3 H (Wd D)):=by
 have hlt:=(AC.1 ho).1
 have gS : ∀ x,(H.set od x)[od]? =some x:=λx=>A3 hlt
 have gL : ∀ x,od<(H.set od x).length:=λx=>by rw [Ap];exact hlt
 have sS : ∀ x y,(H.set od x).set od y=H.set od y:=λx y=>BD ..
 have gA : ∀ x L,(H.set od x++L)[od]? =some x:=λx L=>U6 hlt x L
 have sA : ∀ x L y,(H.set od x++L).set od y=H.set od y++L:=λx L y=>by rw [LV (gL _),sS]
 have g1:=FU ho
 have hg:=Il hl hf
 have c1:=QU D.fields hln D.step.field
 have c2:=lZ (Fb D.fields D.step.field).1 hg D.head hr
 have q0:=q_0 H
 have gB : ∀ y L,(H++y::L)[H.length]? =some y:=λy L=>sm
 have gB1 : ∀ x y L,(H++x::y::L)[H.length+1]? =some y:=λx y L=>sm
 have gB2 : ∀ x y z L,(H++x::y::z::L)[H.length+2]? =some z:=λx y z L=>sm
 have gB3 : ∀ x y z a L,(H++x::y::z::a::L)[H.length+3]? =some a:=λx y z a L=>sm
 have sB1 : ∀ x y a,(H++[x,y]).set (H.length+1) a=H++[x,a]:=λx y a=>sm
 have sB2 : ∀ x y z a,(H++[x,y,z]).set (H.length+2) a=H++[x,y,a]:=λx y z a=>sm
 refine aC AIi rfl ?_
 simp only [f111,go_sem,g1,gB,AY,Nat.reduceAdd]
 refine pK c1 ?_
 simp only [go_sem,g1,gB,gB1,sB1,AF,AD,AH,AY,Nat.reduceAdd]
 refine pK c2 ?_
 simp only [go_sem,g1,gB,gB2,sB2,AF,AD,AH,AY,Nat.reduceAdd]
 have k1 : ∀ x∈D.st,GK AA 190 ([].map AV.borrow++(.agg x.c::[AV.ptr H.length 0,.ptr (H.length+2) 0].map AV.borrow)) (H++[some [.ptr od 0],some (Fb D.fields D.step.field).1.c,some [.int .i64 (Nk (Fb D.fields D.step.field).1 D.head:Nat)]]) (.bool (Xg D x)):=by
  intro x hx
  refine FV.drop rfl ?_
  have hc3:(Entry.c x).length=4:=rfl
  have hc4:(Entry.c x)[0]? =some (.str x.var):=rfl
  have hc5:(Entry.c x)[2]? =some (.int .i64 x.n):=rfl
  refine aC ANh rfl ?_
  cases hv:decide (x.var=D.step.var) with
  | true =>
   simp only [f190,go_sem,g1,gB,gB2,gB3,hc4,hc5,AF,AD,AH,AY,Nat.reduceAdd,FN,hv]
   exact ⟨by rw [Xg,hv,Bool.true_and],_,rfl⟩
  | false =>
   simp only [f190,go_sem,g1,gB,gB3,hc4,AF,AD,AH,AY,Nat.reduceAdd,FN,hv]
   exact ⟨by rw [Xg,hv,Bool.false_and],_,rfl⟩
 refine aS (r8 D.st FO _ [] _ (Xg D) k1) ?_
 simp only [go_sem]
 rcases Lz (Xg D) D.st 0 with ⟨h3,h4⟩|⟨i,y,h3,h4,h5⟩
 ·have e1:Wd D=(D,false):=by unfold Wd;rw [h4]
  have e2:H8 (Xg D) D.st = -1:=h3
  rw [e1,e2]
  simp only [go_sem]
  exact ⟨rfl,o2,_,by rw [PR ho]⟩
 ·have e1:Wd D=({ D with head:=bkH D.fields D.head (D.step.key.zip y.key) },true):=by unfold Wd;rw [h5]
  have e2:H8 (Xg D) D.st=(i:Int):=by rw [H8,h3,AY]
  have hym:=AB h4
  have hyb:Xg D y=true:=Dr h5
  have hyv:y.var=D.step.var:=by unfold Xg at hyb;rw [AQ,decide_eq_true_eq] at hyb;exact hyb.1
  have hyl:=hkl y hym hyv
  have i0 : ¬ ((i:Int)<0):=FO
  have i1:(0:Int)<=(i:Int):=FO
  rw [e1,e2]
  simp only [go_sem,i0,dF,g1,gB]
  refine Fm D.step.key (λ(_:E6×FP) (_:List ByteArray)=>()) (λk s=>s.1=bkH D.fields D.head ((D.step.key.take k).zip y.key)/\FX s.1=true) (λk _=>[(1,.ptr H.length 0),(6,.int .i64 (i:Int)),(40,.sl none (HD D.step.key)),(41,.int .i64 D.step.key.length),(42,.int .i64 k)])
   (λ_ s=>H.set od (some (({ D with head:=s.1 }:E7).cf o0 o1 o2 o3))++some [.ptr od 0]::s.2) (D.head,[some (Fb D.fields D.step.field).1.c,some [.int .i64 (Nk (Fb D.fields D.step.field).1 D.head:Nat)]]) FO ⟨rfl,hr⟩ rfl (by rw [PR ho]) ?_ ?_
  ·rintro k ⟨h,L⟩ x xs hd hx ⟨hI,hrh⟩ _ h0 h1 hw
   dsimp only at hI hrh ⊢
   have hkl2:k<y.key.length:=FO
   have hyk:y.key[k]? =some y.key[k]:=AL hkl2
   have aX:(k:Int)<(y.key.length:Int):=FO
   have h22:(i:Int)<(D.st.length:Int):=by have:=(AC.1 h4).1;omega
   have gM : ∀ x y L,(H.set od x++y::L)[H.length]? =some y:=λx y L=>by
    rw [AM sm];simp
   simp only [go_sem,h0,h1,Fv hx,gA,gM,i1,F8 h4,GI hyk]
   have hn0:0<=y.key[k]:=hkp y hym _ (CP hkl2)
   refine Fr.intro (Uc { D with head:=h } hl hln hrh x y.key[k] hn0 _ od o0 o1 o2 o3 (gA _ _)) λv H' hq=>?_
   obtain ⟨rfl,ext,rfl⟩:=hq
   have htk:(D.step.key.take (k+1)).zip y.key=(D.step.key.take k).zip y.key++[(x,y.key[k])]:=by
    rw [BE,hx]
    have hkk:(D.step.key.take k).length=k:=by rw [BC];omega
    exact ce x (by rw [hkk];exact hyk)
   simp only [go_sem,hw]
   refine ⟨(yu D.fields h x y.key[k],L++ext),⟨?_,SH hl hrh _ hn0⟩,rfl, ?_⟩
   ·show yu D.fields h x y.key[k]=_
    rw [htk]
    unfold bkH at hI ⊢
    rw [List.foldl_append,<- hI];rfl
   ·rw [sA];simp
  ·rintro ⟨h,L⟩ ⟨hI,hrh⟩ _
   dsimp only at hI hrh ⊢
   rw [BH] at hI
   simp only [go_sem,AW,dF]
   exact ⟨rfl,o2,_,by rw [hI]⟩
omit hl hln hr in
theorem AAC(hm:1<=D.step.m/\D.step.m<=1073741824)(hn:0<=D.step.n/\D.step.n<=65536)(ht:0<=D.tick/\D.tick<=1073741824)(hat:0<=D.entry.at_/\D.entry.at_<=1073741824):FV AA 112 [.ptr od 0] H (dJ od o0 o1 o3 H (JZ D)):=by
 have hlt:=(AC.1 ho).1
 have gS : ∀ x,(H.set od x)[od]? =some x:=λx=>A3 hlt
 have gL : ∀ x,od<(H.set od x).length:=λx=>by rw [Ap];exact hlt
 have sS : ∀ x y,(H.set od x).set od y=H.set od y:=λx y=>BD ..
 have gA : ∀ x L,(H.set od x++L)[od]? =some x:=λx L=>U6 hlt x L
 have sA : ∀ x L y,(H.set od x++L).set od y=H.set od y++L:=λx L y=>by rw [LV (gL _),sS]
 have g1:=FU ho
 have gB : ∀ y L,(H++y::L)[H.length]? =some y:=λy L=>sm
 have q0:=q_0 H
 have s1 : ∀ (L:FP) y,(H++L).set od y=H.set od y++L:=λL y=>LV hlt L
 have gM : ∀ x y L,(H.set od x++y::L)[H.length]? =some y:=λx y L=>by
  rw [AM sm];simp
 have m0 : ¬ D.step.m=0:=FO
 refine aC AIf rfl ?_
 cases hi:D.is with
 | true =>
  obtain ⟨f1,f2,f3,f4,f5,f6,f7,f8,f9⟩:=YY (s:=D.step) (e:=D.entry) (tick:=D.tick) hm FO ht hat
  simp only [f112,go_sem,ho,g1,gB,hi,Av,f1,f2,f3,m0]
  have eT:QN D.step D.entry D.is D.tick=D.entry:=by unfold QN;rw [iP hi]
  refine cS ?_ ?_<;>intro hc
  ·have hc:=of_decide_eq_true hc
   have eE:QM D.step (QN D.step D.entry D.is D.tick) D.tick={ D.entry with n:=D.step.n,at_:=D.tick }:=by rw [eT];unfold QM;rw [iP hc]
   simp only [go_sem,g1,gB,s1,gA,sA]
   refine cS ?_ ?_<;>intro hp
   ·have hp2:0<(({ D.entry with n:=D.step.n,at_:=D.tick }:E4)).n:=of_decide_eq_true hp
    have hwn:IntKind.i64.wrap (D.step.n - 1)=D.step.n - 1:=OA (by dsimp only at hp2;omega) FO
    have e3:QL (({ D.entry with n:=D.step.n,at_:=D.tick }:E4))={ ({ D.entry with n:=D.step.n,at_:=D.tick }:E4) with n:=D.step.n - 1 }:=by unfold QL;rw [iP hp2]
    have e4:JZ D=((Gw ({ D with entry:={ ({ D.entry with n:=D.step.n,at_:=D.tick }:E4) with n:=D.step.n - 1 },is:=D.is }:E7)).1,(Gw ({ D with entry:={ ({ D.entry with n:=D.step.n,at_:=D.tick }:E4) with n:=D.step.n - 1 },is:=D.is }:E7)).2&&true):=by
     unfold JZ;dsimp only;rw [eE,e3,hp]
    simp only [go_sem,gA,sA,hwn]
    refine Fr.intro (MS ({ D with entry:={ ({ D.entry with n:=D.step.n,at_:=D.tick }:E4) with n:=D.step.n - 1 },is:=D.is }:E7) hst hk _ od o0 o1 o2 o3 (gA _ _)) λv H' hq=>?_
    obtain ⟨rfl,w,ext,rfl⟩:=hq
    rw [e4]
    generalize Gw ({ D with entry:={ ({ D.entry with n:=D.step.n,at_:=D.tick }:E4) with n:=D.step.n - 1 },is:=D.is }:E7)=r
    obtain ⟨D2,b⟩:=r
    cases b<;>simp only [go_sem,hp]
    ·exact ⟨rfl,w,[some (D.step.cf none)]++ext,by rw [sA,AE]⟩
    ·exact ⟨rfl,w,[some (D.step.cf none)]++ext,by rw [sA,AE]⟩
   ·have hp2 : ¬ 0<(({ D.entry with n:=D.step.n,at_:=D.tick }:E4)).n:=of_decide_eq_false hp
    have e3:QL (({ D.entry with n:=D.step.n,at_:=D.tick }:E4))=({ D.entry with n:=D.step.n,at_:=D.tick }:E4):=by unfold QL;rw [iN hp2]
    have e4:JZ D=((Gw ({ D with entry:=({ D.entry with n:=D.step.n,at_:=D.tick }:E4),is:=D.is }:E7)).1,(Gw ({ D with entry:=({ D.entry with n:=D.step.n,at_:=D.tick }:E4),is:=D.is }:E7)).2&&false):=by
     unfold JZ;dsimp only;rw [eE,e3,hp]
    simp only [go_sem]
    refine Fr.intro (MS ({ D with entry:=({ D.entry with n:=D.step.n,at_:=D.tick }:E4),is:=D.is }:E7) hst hk _ od o0 o1 o2 o3 (gA _ _)) λv H' hq=>?_
    obtain ⟨rfl,w,ext,rfl⟩:=hq
    rw [e4]
    generalize Gw ({ D with entry:=({ D.entry with n:=D.step.n,at_:=D.tick }:E4),is:=D.is }:E7)=r
    obtain ⟨D2,b⟩:=r
    cases b<;>simp only [go_sem,hp]
    ·exact ⟨rfl,w,[some (D.step.cf none)]++ext,by rw [sA,AE]⟩
    ·exact ⟨rfl,w,[some (D.step.cf none)]++ext,by rw [sA,AE]⟩
  ·have hc:=of_decide_eq_false hc
   have eE:QM D.step (QN D.step D.entry D.is D.tick) D.tick={ D.entry with n:=D.entry.n+HB D.step D.entry D.tick,at_:=D.entry.at_+HB D.step D.entry D.tick*D.step.m }:=by rw [eT];unfold QM;rw [iN hc]
   rw [HX _ _ _ (by simp only [go_sem]) rfl rfl]
   simp only [go_sem,g1,gB,s1,gA,sA,f3,f4,f5]
   refine ⟨L3 [(some (78,1,false),some (83,1,true))] kr ?_, ?_⟩
   ·intro q hq
    rw [Ac.1 hq]
    exact ⟨.inr rfl,.inl FO⟩
   simp only [go_sem,gA]
   refine cS ?_ ?_<;>intro hp
   ·have hp2:0<(({ D.entry with n:=D.entry.n+HB D.step D.entry D.tick,at_:=D.entry.at_+HB D.step D.entry D.tick*D.step.m }:E4)).n:=of_decide_eq_true hp
    have hwn:IntKind.i64.wrap ((D.entry.n+HB D.step D.entry D.tick) - 1)=(D.entry.n+HB D.step D.entry D.tick) - 1:=OA (by dsimp only at hp2;omega) FO
    have e3:QL (({ D.entry with n:=D.entry.n+HB D.step D.entry D.tick,at_:=D.entry.at_+HB D.step D.entry D.tick*D.step.m }:E4))={ ({ D.entry with n:=D.entry.n+HB D.step D.entry D.tick,at_:=D.entry.at_+HB D.step D.entry D.tick*D.step.m }:E4) with n:=(D.entry.n+HB D.step D.entry D.tick) - 1 }:=by unfold QL;rw [iP hp2]
    have e4:JZ D=((Gw ({ D with entry:={ ({ D.entry with n:=D.entry.n+HB D.step D.entry D.tick,at_:=D.entry.at_+HB D.step D.entry D.tick*D.step.m }:E4) with n:=(D.entry.n+HB D.step D.entry D.tick) - 1 },is:=D.is }:E7)).1,(Gw ({ D with entry:={ ({ D.entry with n:=D.entry.n+HB D.step D.entry D.tick,at_:=D.entry.at_+HB D.step D.entry D.tick*D.step.m }:E4) with n:=(D.entry.n+HB D.step D.entry D.tick) - 1 },is:=D.is }:E7)).2&&true):=by
     unfold JZ;dsimp only;rw [eE,e3,hp]
    simp only [go_sem,gA,sA,hwn]
    refine Fr.intro (MS ({ D with entry:={ ({ D.entry with n:=D.entry.n+HB D.step D.entry D.tick,at_:=D.entry.at_+HB D.step D.entry D.tick*D.step.m }:E4) with n:=(D.entry.n+HB D.step D.entry D.tick) - 1 },is:=D.is }:E7) hst hk _ od o0 o1 o2 o3 (gA _ _)) λv H' hq=>?_
    obtain ⟨rfl,w,ext,rfl⟩:=hq
    rw [e4]
    generalize Gw ({ D with entry:={ ({ D.entry with n:=D.entry.n+HB D.step D.entry D.tick,at_:=D.entry.at_+HB D.step D.entry D.tick*D.step.m }:E4) with n:=(D.entry.n+HB D.step D.entry D.tick) - 1 },is:=D.is }:E7)=r
    obtain ⟨D2,b⟩:=r
    cases b<;>simp only [go_sem,hp]
    ·exact ⟨rfl,w,[some (D.step.cf none)]++ext,by rw [sA,AE]⟩
    ·exact ⟨rfl,w,[some (D.step.cf none)]++ext,by rw [sA,AE]⟩
   ·have hp2 : ¬ 0<(({ D.entry with n:=D.entry.n+HB D.step D.entry D.tick,at_:=D.entry.at_+HB D.step D.entry D.tick*D.step.m }:E4)).n:=of_decide_eq_false hp
    have e3:QL (({ D.entry with n:=D.entry.n+HB D.step D.entry D.tick,at_:=D.entry.at_+HB D.step D.entry D.tick*D.step.m }:E4))=({ D.entry with n:=D.entry.n+HB D.step D.entry D.tick,at_:=D.entry.at_+HB D.step D.entry D.tick*D.step.m }:E4):=by unfold QL;rw [iN hp2]
    have e4:JZ D=((Gw ({ D with entry:=({ D.entry with n:=D.entry.n+HB D.step D.entry D.tick,at_:=D.entry.at_+HB D.step D.entry D.tick*D.step.m }:E4),is:=D.is }:E7)).1,(Gw ({ D with entry:=({ D.entry with n:=D.entry.n+HB D.step D.entry D.tick,at_:=D.entry.at_+HB D.step D.entry D.tick*D.step.m }:E4),is:=D.is }:E7)).2&&false):=by
     unfold JZ;dsimp only;rw [eE,e3,hp]
    simp only [go_sem]
    refine Fr.intro (MS ({ D with entry:=({ D.entry with n:=D.entry.n+HB D.step D.entry D.tick,at_:=D.entry.at_+HB D.step D.entry D.tick*D.step.m }:E4),is:=D.is }:E7) hst hk _ od o0 o1 o2 o3 (gA _ _)) λv H' hq=>?_
    obtain ⟨rfl,w,ext,rfl⟩:=hq
    rw [e4]
    generalize Gw ({ D with entry:=({ D.entry with n:=D.entry.n+HB D.step D.entry D.tick,at_:=D.entry.at_+HB D.step D.entry D.tick*D.step.m }:E4),is:=D.is }:E7)=r
    obtain ⟨D2,b⟩:=r
    cases b<;>simp only [go_sem,hp]
    ·exact ⟨rfl,w,[some (D.step.cf none)]++ext,by rw [sA,AE]⟩
    ·exact ⟨rfl,w,[some (D.step.cf none)]++ext,by rw [sA,AE]⟩
 | false =>
  obtain ⟨f1,f2,f3,f4,f5,f6,f7,f8,f9⟩:=YY (s:=D.step) (e:={ D.entry with n:=D.step.n,at_:=D.tick }) (tick:=D.tick) hm (by dsimp only;omega) ht (by dsimp only;omega)
  dsimp only at f1 f2 f3 f4 f5 f6 f7 f8 f9
  have hcc:D.step.n<=D.step.n+HB D.step { D.entry with n:=D.step.n,at_:=D.tick } D.tick:=Int.le_add_of_nonneg_right f6
  have eE:QM D.step (QN D.step D.entry D.is D.tick) D.tick={ D.entry with n:=D.step.n,at_:=D.tick }:=by unfold QN;rw [iN (by rw [hi];decide)];unfold QM;rw [iP hcc]
  simp only [f112,go_sem,ho,g1,gB,hi,Ax,s1,gA,sA,gM,f1,f2,f3,m0,hcc,dT]
  refine cS ?_ ?_<;>intro hp
  ·have hp2:0<(({ D.entry with n:=D.step.n,at_:=D.tick }:E4)).n:=of_decide_eq_true hp
   have hwn:IntKind.i64.wrap (D.step.n - 1)=D.step.n - 1:=OA (by dsimp only at hp2;omega) FO
   have e3:QL (({ D.entry with n:=D.step.n,at_:=D.tick }:E4))={ ({ D.entry with n:=D.step.n,at_:=D.tick }:E4) with n:=D.step.n - 1 }:=by unfold QL;rw [iP hp2]
   have e4:JZ D=((Gw ({ D with entry:={ ({ D.entry with n:=D.step.n,at_:=D.tick }:E4) with n:=D.step.n - 1 },is:=false }:E7)).1,(Gw ({ D with entry:={ ({ D.entry with n:=D.step.n,at_:=D.tick }:E4) with n:=D.step.n - 1 },is:=false }:E7)).2&&true):=by
    unfold JZ;dsimp only;rw [eE,e3,hp,hi]
   simp only [go_sem,gA,sA,hwn]
   refine Fr.intro (MS ({ D with entry:={ ({ D.entry with n:=D.step.n,at_:=D.tick }:E4) with n:=D.step.n - 1 },is:=false }:E7) hst hk _ od o0 o1 o2 o3 (gA _ _)) λv H' hq=>?_
   obtain ⟨rfl,w,ext,rfl⟩:=hq
   rw [e4]
   generalize Gw ({ D with entry:={ ({ D.entry with n:=D.step.n,at_:=D.tick }:E4) with n:=D.step.n - 1 },is:=false }:E7)=r
   obtain ⟨D2,b⟩:=r
   cases b<;>simp only [go_sem,hp]
   ·exact ⟨rfl,w,[some (D.step.cf none)]++ext,by rw [sA,AE]⟩
   ·exact ⟨rfl,w,[some (D.step.cf none)]++ext,by rw [sA,AE]⟩
  ·have hp2 : ¬ 0<(({ D.entry with n:=D.step.n,at_:=D.tick }:E4)).n:=of_decide_eq_false hp
   have e3:QL (({ D.entry with n:=D.step.n,at_:=D.tick }:E4))=({ D.entry with n:=D.step.n,at_:=D.tick }:E4):=by unfold QL;rw [iN hp2]
   have e4:JZ D=((Gw ({ D with entry:=({ D.entry with n:=D.step.n,at_:=D.tick }:E4),is:=false }:E7)).1,(Gw ({ D with entry:=({ D.entry with n:=D.step.n,at_:=D.tick }:E4),is:=false }:E7)).2&&false):=by
    unfold JZ;dsimp only;rw [eE,e3,hp,hi]
   simp only [go_sem]
   refine Fr.intro (MS ({ D with entry:=({ D.entry with n:=D.step.n,at_:=D.tick }:E4),is:=false }:E7) hst hk _ od o0 o1 o2 o3 (gA _ _)) λv H' hq=>?_
   obtain ⟨rfl,w,ext,rfl⟩:=hq
   rw [e4]
   generalize Gw ({ D with entry:=({ D.entry with n:=D.step.n,at_:=D.tick }:E4),is:=false }:E7)=r
   obtain ⟨D2,b⟩:=r
   cases b<;>simp only [go_sem,hp]
   ·exact ⟨rfl,w,[some (D.step.cf none)]++ext,by rw [sA,AE]⟩
   ·exact ⟨rfl,w,[some (D.step.cf none)]++ext,by rw [sA,AE]⟩
end
end Go.AI
namespace Go.AI
open Go.Proofs
set_option maxRecDepth 50000
def Qg(l:List Fld)(names:List ByteArray)(h:E6):List Int:=names.map λnm=>((Nk (Fb l nm).1 h:Nat):Int)
theorem Vz(l:List Fld)(names:List ByteArray)(h:E6):(Qg l names h).length=names.length:=by simp [Qg]
theorem AID(l:List Fld)(hl:I3 l)(hln:l.length<=9223372036854775807)(names:List ByteArray)(hn:names.length<=1073741824)(hf : ∀ nm∈names,(Fb l nm).2=true)(h:E6)(hr:FX h=true):
  FQ AA 113 [.sl none (GN l),.sl none (HD names),.agg h.c] (.tup [.sl none (GB (Qg l names h)),.bool true]):=by
 refine pB AQ9 rfl ?_ (hv:=by simp only [AV.pure,A',Jn,Bool.and_true])
 simp only [f113,go_sem]
 have gN : ∀ x (L:FP) z,(x::(L++[z]))[List.length (x::L)]? =some z:=λx L z=>by
  have:x::(L++[z])=(x::L)++[z]:=sm
  rw [this];exact BT
 have sN : ∀ x (L:FP) z z2,(x::(L++[z])).set (List.length (x::L)) z2=x::(L++[z2]):=λx L z z2=>by
  have:x::(L++[z])=(x::L)++[z]:=sm
  rw [this];simp
 refine Fm names (λ(_:FP) (_:List ByteArray)=>()) (λ_ _=>True) (λk _=>[(0,.sl none (GN l)),(5,.ptr 0 0),(8,.sl (some 1) (GB (Qg l (names.take k) h))),(13,.sl none (HD names)),(14,.int .i64 names.length),(15,.int .i64 k)])
  (λ_ L=>some h.c::L) [] FO trivial rfl rfl ?_ ?_
 ·intro k L x xs hd hx _ _ h0 h1 hw
  have hk2:=Fl hd
  have hfx:=hf x (AB hx)
  have hg:=Il hl hfx
  have c1:=QU l hln x
  rw [hfx] at c1
  have c2:=lZ (Fb l x).1 hg h hr
  have hlen:(GB (Qg l (names.take k) h)).length=k:=by rw [HM,Vz,BC];omega
  have htk:Qg l (names.take (k+1)) h=Qg l (names.take k) h++[((Nk (Fb l x).1 h:Nat):Int)]:=by
   rw [BE,hx];simp [Qg]
  simp only [go_sem,h0,h1,Fv hx]
  refine pK c1 ?_
  simp only [go_sem,gN,sN]
  refine pK c2 ?_
  simp only [go_sem,hlen,hw]
  exact ⟨FO,FO,_,by rw [htk],rfl⟩
 ·intro L _ _
  simp only [go_sem,AW,dF,BH]
def ka(l:List Fld)(s:Stp)(st:List E4)(h:E6)(tick:Int):E7 :=
 ⟨l,s,st,h,tick,(QA st s.var (Qg l s.key h)).getD ⟨s.var,Qg l s.key h,0,0⟩,(QA st s.var (Qg l s.key h)).isSome⟩
def doM(D:E7):E7×Bool :=
 if D.step.kind=1 then nU D else if D.step.kind=2 then AGt D else if D.step.kind=3 then ao D else if D.step.kind=4 then NO D else if D.step.kind=5 then Wd D else JZ D
def kZ(l:List Fld)(s:Stp)(st:List E4)(h:E6)(tick:Int):E6×Bool×List E4 :=
 if s.kind=0 then (h,true,st) else
  let r:=doM (ka l s st h tick)
  (if r.2=true then r.1.head else h,r.2,r.1.st)
structure okStp (l:List Fld) (s:Stp):Prop where
 kind:0<=s.kind/\s.kind<=6
 klen:s.key.length<=1048576
 key:s.kind≠0 -> ∀ nm∈s.key,(Fb l nm).2=true
 n:s.kind=4\/s.kind=6->0<=s.n/\s.n<=65535
 m4:s.kind=4->s.m<=65535
 m:s.kind=6->1<=s.m/\s.m<=1073741824
 back:s.kind=5->(Fb l s.field).2=true
def ep(e:E4):Prop:=(0<=e.n/\e.n<=65535)/\(0<=e.at_/\e.at_<=1073741824)/\e.key.length<=1048576 /\ ∀ x∈e.key,0<=x
def Ys(s:Stp)(e:E4):Prop:=s.kind≠0->e.var=s.var->e.key.length=s.key.length
def Ug:List AV:=[.nilf,.fn (.func 107) [] [],.fn (.func 108) [] [],.fn (.func 109) [] [],.fn (.func 110) [] [],.fn (.func 111) [] [],.fn (.func 112) [] []]
structure okDo (D:E7):Prop where
 fs:I3 D.fields
 fl:D.fields.length<=1073741824
 sl:D.st.length<=1073741823
 st : ∀ e∈D.st,ep e
 key : ∀ e∈D.st,Ys D.step e
 step:okStp D.fields D.step
 head:FX D.head=true
 tick:0<=D.tick/\D.tick<=1073741824
 n:0<=D.entry.n/\D.entry.n<=65535
 at_:0<=D.entry.at_/\D.entry.at_<=1073741824
theorem AVz(D:E7)(hD:okDo D)(h0:D.step.kind≠0)(H:FP)(od:Nat)(o0 o1 o2 o3:Option Nat)(ho:H[od]? =some (some (D.cf o0 o1 o2 o3)))(g:FuncId)(hg:Ug[D.step.kind.toNat]? =some (.fn (.func g) [] [])):FV AA g [.ptr od 0] H (dJ od o0 o1 o3 H (doM D)):=by
 have hlk : ∀ y∈D.st,y.key.length<=1073741824:=λy hy=>by have:=(hD.st y hy).2.2.1;omega
 have hln:D.fields.length<=9223372036854775807:=by have:=hD.fl;omega
 have hs:=hD.step
 unfold doM
 have hk:D.step.kind=1\/D.step.kind=2\/D.step.kind=3\/D.step.kind=4\/D.step.kind=5\/D.step.kind=6:=by have:=hs.kind;omega
 rcases hk with e|e|e|e|e|e<;>rw [e] at hg ⊢ <;> simp only [Ug,List.getElem?_cons_succ,A7,Option.some.injEq,AV.fn.injEq,Fn.func.injEq,and_true,show (1:Int).toNat=1 from rfl,show (2:Int).toNat=2 from rfl,show (3:Int).toNat=3 from rfl,show (4:Int).toNat=4 from rfl,show (5:Int).toNat=5 from rfl,show (6:Int).toNat=6 from rfl] at hg<;>subst hg
 ·rw [iP rfl]
  exact AAO D hD.fs hln hD.sl hlk hD.head hD.n H od o0 o1 o2 o3 ho
 ·rw [iN dc,iP rfl]
  exact AEj D hD.sl hlk H od o0 o1 o2 o3 ho
 ·rw [iN dc,iN dc,iP rfl]
  exact AAQ D hD.sl hlk H od o0 o1 o2 o3 ho
 ·rw [iN dc,iN dc,iN dc,iP rfl]
  exact Zq D hD.fs hln hD.sl hlk hD.head hD.n H od o0 o1 o2 o3 ho (by have:=hs.n (.inl e);omega) λy hy=>(hD.st y hy).1.2
 ·rw [iN dc,iN dc,iN dc,iN dc,iP rfl]
  exact AEp D hD.fs hln hD.sl hD.head H od o0 o1 o2 o3 ho (hs.back e) (λy hy hv=>by have:=hD.key y hy h0 hv;omega) (λy hy=>(hD.st y hy).2.2.2) hs.klen
 ·rw [iN dc,iN dc,iN dc,iN dc,iN dc]
  exact AAC D hD.sl hlk hD.n H od o0 o1 o2 o3 ho (hs.m e) (by have:=hs.n (.inr e);omega) hD.tick hD.at_
theorem Sv{l:List E4}{v:ByteArray}{key:List Int}{y:E4}(h:QA l v key=some y):y∈l:=by
 unfold QA at h
 split at h
 ·exact AB h
 ·cases h
theorem ACN{l:List Fld}(hl:I3 l)(hln:l.length<=1073741824){s:Stp}(hs:okStp l s){st:List E4}(hst:st.length<=1073741823)(he : ∀ e∈st,ep e)(hk : ∀ e∈st,Ys s e){h:E6}(hr:FX h=true){tick:Int}(ht:0<=tick/\tick<=1073741824):okDo (ka l s st h tick):=by
 refine ⟨hl,hln,hst,he,hk,hs,hr,ht, ?_, ?_⟩<;>unfold ka<;>dsimp only<;>cases hf:QA st s.var (Qg l s.key h) with
 | none=>simp
 | some y=>first|exact (he y (Sv hf)).1|exact (he y (Sv hf)).2.1
theorem Aco(l:List Fld)(hl:I3 l)(hln:l.length<=1073741824)(s:Stp)(hs:okStp l s)(st:List E4)(hst:st.length<=1073741823)(he : ∀ e∈st,ep e)(hk : ∀ e∈st,Ys s e)(h:E6)(hr:FX h=true)(tick:Int)(ht:0<=tick/\tick<=1073741824):
  FQ AA 54 [.sl none (GN l),.agg s.c,.sl none (FZ st),.agg h.c,.int .i64 tick] (.tup [.agg (kZ l s st h tick).1.c,.bool (kZ l s st h tick).2.1,.sl none (FZ (kZ l s st h tick).2.2)]):=by
 refine pB AXl rfl ?_
 by_cases h0:s.kind=0
 ·have e1:kZ l s st h tick=(h,true,st):=by unfold kZ;rw [iP h0]
  rw [e1]
  have h0b:(s.kind==0)=true:=by rw [h0];rfl
  simp only [f54,go_sem,h0b]
 ·have h0b:(s.kind==0)=false:=by rw [beq_eq_false_iff_ne];exact h0
  have c1:=AID l hl FO s.key (by have:=hs.klen;omega) (hs.key h0) h hr
  have c2:=AEn st FO (λy hy=>by have:=(he y hy).2.2.1;omega) s.var (Qg l s.key h)
  have hnv:AV.nilf.isVal=true:=rfl
  simp only [f54,go_sem,h0b,hnv]
  refine pK c1 ?_
  simp only [go_sem]
  refine pK c2 ?_
  have hi0:(0:Int)<=s.kind:=hs.kind.1
  have hi1:s.kind<((7:Nat):Int):=by have:=hs.kind;omega
  have hD:=ACN hl hln hs hst he hk hr ht
  obtain ⟨g,hg⟩ : ∃ g,Ug[s.kind.toNat]? =some (.fn (.func g) [] []):=by
   have hkc:s.kind=1\/s.kind=2\/s.kind=3\/s.kind=4\/s.kind=5\/s.kind=6:=FO
   rcases hkc with e|e|e|e|e|e<;>rw [e]<;>exact ⟨_,rfl⟩
  have hM:=λH od o0 o1 o2 o3 ho=>AVz (ka l s st h tick) hD h0 H od o0 o1 o2 o3 ho g hg
  unfold Ug at hg
  have e1:kZ l s st h tick=(if (doM (ka l s st h tick)).2=true then (doM (ka l s st h tick)).1.head else h,(doM (ka l s st h tick)).2,(doM (ka l s st h tick)).1.st):=by unfold kZ;rw [iN h0]
  rw [e1]
  cases hfd:QA st s.var (Qg l s.key h) with
  | none =>
   simp only [go_sem,hfd,hi0,hi1,hg]
   refine Fr.intro (hM _ 4 none none none none (by unfold ka;rw [hfd];rfl)) λv H' hq=>?_
   obtain ⟨rfl,w,ext,rfl⟩:=hq
   generalize doM (ka l s st h tick)=r
   obtain ⟨D2,b⟩:=r
   cases b
   ·simp only [go_sem]
    rw [HX _ _ _ (by simp only [go_sem]) rfl rfl]
    simp only [go_sem]
    refine ⟨L3 [(some (74,1,false),some (10,10,true))] kr ?_, ?_⟩
    ·intro q hq
     rw [Ac.1 hq]
     exact ⟨.inr rfl,.inl dc⟩
    simp only [go_sem]
   ·simp only [go_sem]
    rw [HX _ _ _ (by simp only [go_sem]) rfl rfl]
    simp only [go_sem]
    refine ⟨L3 [(some (82,1,false),some (10,10,true))] kr ?_, ?_⟩
    ·intro q hq
     rw [Ac.1 hq]
     exact ⟨.inr rfl,.inl dc⟩
    simp only [go_sem]
  | some y =>
   simp only [go_sem,hfd,hi0,hi1,hg]
   refine Fr.intro (hM _ 4 none none none none (by unfold ka;rw [hfd];rfl)) λv H' hq=>?_
   obtain ⟨rfl,w,ext,rfl⟩:=hq
   generalize doM (ka l s st h tick)=r
   obtain ⟨D2,b⟩:=r
   cases b
   ·simp only [go_sem]
    rw [HX _ _ _ (by simp only [go_sem]) rfl rfl]
    simp only [go_sem]
    refine ⟨L3 [(some (74,1,false),some (10,10,true))] kr ?_, ?_⟩
    ·intro q hq
     rw [Ac.1 hq]
     exact ⟨.inr rfl,.inl dc⟩
    simp only [go_sem]
   ·simp only [go_sem]
    rw [HX _ _ _ (by simp only [go_sem]) rfl rfl]
    simp only [go_sem]
    refine ⟨L3 [(some (82,1,false),some (10,10,true))] kr ?_, ?_⟩
    ·intro q hq
     rw [Ac.1 hq]
     exact ⟨.inr rfl,.inl dc⟩
    simp only [go_sem]
structure okPrg (l:List Fld) (p:List E8):Prop where
 stp : ∀ s∈p,okStp l s.step
 pol : ∀ s∈p,Hl l s.policy
 key : ∀ s∈p,∀ t∈p,s.step.kind≠0->t.step.kind≠0->s.step.var=t.step.var->s.step.key.length=t.step.key.length
def Sg(p:List E8)(st:List E4):Prop:=∀ e∈st,ep e /\ ∀ t∈p,Ys t.step e
theorem ABU{l:List E4}{i:Nat}{e x:E4}(h:x∈V5 l i e):x=e\/x∈l:=by
 unfold V5 at h
 rcases As.1 h with h|h
 ·exact .inr (List.mem_of_mem_take h)
 ·rcases AX.1 h with h|h
  ·exact .inl h
  ·exact .inr (List.mem_of_mem_drop h)
theorem z6{l:List E4}{e x:E4}(h:x∈QS l e):x=e\/x∈l:=by
 unfold QS at h
 split at h
 ·exact (List.mem_or_eq_of_mem_set h).symm
 ·exact ABU h
theorem z7(l:List E4)(e:E4):(QS l e).length<=l.length+1:=by
 unfold QS
 split
 ·rw [Ap];omega
 ·rw [fj (ACq l e)];omega
def Z9(D:E7)(r:E7×Bool)(P:E4->Prop):Prop:=FX r.1.head=true/\(r.1.st=D.st \/ ∃ e,P e/\r.1.st=QS D.st e)
theorem J4{D:E7}(hr:FX D.head=true){P:E4->Prop}(he:P D.entry):Z9 D (Gw D) P:=by
 unfold Gw
 split
 ·exact ⟨hr,.inl rfl⟩
 ·exact ⟨hr,.inr ⟨_,he,rfl⟩⟩
theorem QJ{D:E7}{r:E7×Bool}{P:E4->Prop}(hl:I3 r.1.fields)(hn:0<=r.1.entry.n)(h:Z9 D r P):Z9 D (wrD r) P:=by
 unfold wrD
 split
 ·exact ⟨SH hl h.1 _ hn,h.2⟩
 ·exact h
theorem ZO{l:List Fld}(hl:I3 l): ∀ (q:List (ByteArray×Int)) {h:E6},FX h=true->(∀ x∈q,0<=x.2)->FX (bkH l h q)=true
 | [],_,hr,_=>hr
 | x::q,h,hr,hq=>ZO hl q (SH hl hr _ (hq x (Cx ..))) λy hy=>hq y (CJ _ hy)
theorem nR{D:E7}(hD:okDo D)(h0:D.step.kind≠0):Z9 D (doM D) λe=>e.var=D.entry.var/\e.key=D.entry.key/\(0<=e.n/\e.n<=65535)/\(0<=e.at_/\e.at_<=1073741824):=by
 have hs:=hD.step
 have hn:=hD.n
 have ha:=hD.at_
 have ht:=hD.tick
 have hk:D.step.kind=1\/D.step.kind=2\/D.step.kind=3\/D.step.kind=4\/D.step.kind=5\/D.step.kind=6:=by have:=hs.kind;omega
 unfold doM
 rcases hk with e|e|e|e|e|e<;>rw [e]
 ·rw [iP rfl]
  have k:=KZ { D with entry:={ D.entry with n:=VZ (D.entry.n+1) 65535,at_:=D.tick } }
  have hm:0<=VZ (D.entry.n+1) 65535/\VZ (D.entry.n+1) 65535<=65535:=by unfold VZ;split<;>omega
  exact QJ (by rw [k.1];exact hD.fs) (by rw [k.2.2.2];exact hm.1) (J4 (D:={ D with entry:={ D.entry with n:=VZ (D.entry.n+1) 65535,at_:=D.tick } }) hD.head ⟨rfl,rfl,hm,ht⟩)
 ·rw [iN dc,iP rfl]
  exact J4 (D:={ D with entry:={ D.entry with at_:=D.tick } }) hD.head ⟨rfl,rfl,hn,ht⟩
 ·rw [iN dc,iN dc,iP rfl]
  exact ⟨hD.head,.inl rfl⟩
 ·rw [iN dc,iN dc,iN dc,iP rfl]
  have hn4:=hs.n (.inl e)
  have hm4:=hs.m4 e
  have hU:=AB0 (ME D) D.step.n 65535 (λx hx=>by
   obtain ⟨y,hy,rfl⟩:=AP.1 hx
   exact (hD.st y (CW.1 hy).1).1.2) FO
  unfold NO
  split
  ·have k:=KZ { D with entry:={ D.entry with at_:=D.tick } }
   exact QJ (by rw [k.1];exact hD.fs) (by rw [k.2.2.2];exact hn.1) (J4 (D:={ D with entry:={ D.entry with at_:=D.tick } }) hD.head ⟨rfl,rfl,hn,ht⟩)
  ·split
   ·exact ⟨hD.head,.inl rfl⟩
   ·rename_i hlt
    have k:=KZ { D with entry:={ D.entry with n:=K8 (ME D) D.step.n,at_:=D.tick } }
    exact QJ (by rw [k.1];exact hD.fs) (by rw [k.2.2.2];dsimp only;omega) (J4 (D:={ D with entry:={ D.entry with n:=K8 (ME D) D.step.n,at_:=D.tick } }) hD.head ⟨rfl,rfl,by dsimp only;omega,ht⟩)
 ·rw [iN dc,iN dc,iN dc,iN dc,iP rfl]
  unfold Wd
  split
  ·exact ⟨hD.head,.inl rfl⟩
  ·rename_i y hy
   exact ⟨ZO hD.fs _ hD.head λx hx=>(hD.st y (List.mem_of_find?_eq_some hy)).2.2.2 x.2 (List.of_mem_zip hx).2,.inl rfl⟩
 ·rw [iN dc,iN dc,iN dc,iN dc,iN dc]
  have hm6:=hs.m e
  have hn6:=hs.n (.inr e)
  unfold JZ
  dsimp only
  have ht1:(0<=(QN D.step D.entry D.is D.tick).n/\(QN D.step D.entry D.is D.tick).n<=65535)/\(0<=(QN D.step D.entry D.is D.tick).at_/\(QN D.step D.entry D.is D.tick).at_<=1073741824)/\(QN D.step D.entry D.is D.tick).var=D.entry.var/\(QN D.step D.entry D.is D.tick).key=D.entry.key:=by
   unfold QN
   split
   ·exact ⟨hn,ha,rfl,rfl⟩
   ·exact ⟨hn6,ht,rfl,rfl⟩
  generalize QN D.step D.entry D.is D.tick=e1 at ht1 ⊢
  have ht2:(0<=(QM D.step e1 D.tick).n/\(QM D.step e1 D.tick).n<=65535)/\(0<=(QM D.step e1 D.tick).at_/\(QM D.step e1 D.tick).at_<=1073741824)/\(QM D.step e1 D.tick).var=D.entry.var/\(QM D.step e1 D.tick).key=D.entry.key:=by
   obtain ⟨p1,p2⟩:=pd (s:=D.step) (e:=e1) (tick:=D.tick) hm6.1
   have p3:e1.at_+(if 0<D.tick - e1.at_ then D.tick - e1.at_ else 0)<=1073741824:=by split<;>omega
   have p4:0<=HB D.step e1 D.tick*D.step.m:=Int.mul_nonneg p1 FO
   unfold QM
   split
   ·exact ⟨hn6,ht,ht1.2.2.1,ht1.2.2.2⟩
   ·exact ⟨by dsimp only;omega,by dsimp only;omega,ht1.2.2.1,ht1.2.2.2⟩
  generalize QM D.step e1 D.tick=e2 at ht2 ⊢
  refine J4 (D:={ D with entry:=QL e2 }) hD.head ?_
  dsimp only
  unfold QL
  split
  ·exact ⟨ht2.2.2.1,ht2.2.2.2,by dsimp only;omega,ht2.2.1⟩
  ·exact ⟨ht2.2.2.1,ht2.2.2.2,ht2.1,ht2.2.1⟩
theorem qZ{l:List Fld}(hl:I3 l)(hln:l.length<=1073741824){p:List E8}(hp:okPrg l p){s:E8}(hs:s∈p){st:List E4}(hst:st.length<=1073741823)(he:Sg p st){h:E6}(hr:FX h=true){tick:Int}(ht:0<=tick/\tick<=1073741824):
  FX (kZ l s.step st h tick).1=true/\Sg p (kZ l s.step st h tick).2.2/\(kZ l s.step st h tick).2.2.length<=st.length+1:=by
 unfold kZ
 split
 ·exact ⟨hr,he,by dsimp only;omega⟩
 ·rename_i h0
  have hD:=ACN hl hln (hp.stp s hs) hst (λe hx=>(he e hx).1) (λe hx=>(he e hx).2 s hs) hr ht
  obtain ⟨l1,l2⟩:=nR hD h0
  have hent:(∀ t∈p,Ys t.step (ka l s.step st h tick).entry)/\(ka l s.step st h tick).entry.key.length<=1048576 /\ ∀ x∈(ka l s.step st h tick).entry.key,0<=x:=by
   unfold ka
   dsimp only
   cases hf:QA st s.step.var (Qg l s.step.key h) with
   | none =>
    refine ⟨λt ht h1 h2=>?_, ?_, ?_⟩
    ·rw [BG,Vz]
     exact hp.key s hs t ht h0 h1 h2
    ·rw [BG,Vz];exact (hp.stp s hs).klen
    ·rw [BG]
     intro x hx
     obtain ⟨nm,_,rfl⟩:=AP.1 hx
     omega
   | some y =>
    have hy:=he y (Sv hf)
    exact ⟨hy.2,hy.1.2.2.1,hy.1.2.2.2⟩
  dsimp only
  refine ⟨by split<;>assumption, ?_, ?_⟩
  ·rcases l2 with l2|⟨e,⟨v1,v2,v3,v4⟩,l2⟩
   ·rw [l2];exact he
   ·rw [l2]
    intro x hx
    rcases z6 hx with rfl|hx
    ·exact ⟨⟨v3,v4,by rw [v2];exact hent.2.1,by rw [v2];exact hent.2.2⟩,λt ht h1 h2=>by rw [v2];rw [v1] at h2;exact hent.1 t ht h1 h2⟩
    ·exact he x hx
  ·rcases l2 with l2|⟨e,_,l2⟩
   ·rw [l2];exact DS _
   ·rw [l2];exact z7 _ _
def wn(l:List Fld)(tick:Int)(x:Policy)(given:List E6):List E6->Option (List E6)
 | []=>some given
 | g::r=>match vO l tick x g with
  | none=>none
  | some some'=>if 256<(given++some').length then none else wn l tick x (given++some') r
def yd(l:List Fld)(s:Stp)(tick:Int)(a:List E6×List E4):List E6->List E6×List E4
 | []=>a
 | g::r=>yd l s tick (if (kZ l s a.2 g tick).2.1=true then a.1++[(kZ l s a.2 g tick).1] else a.1,(kZ l s a.2 g tick).2.2) r
def RI(l:List Fld)(tick:Int)(a:List E6×List E4):List E8->Option (List E6×List E4)
 | []=>some a
 | s::r=>match wn l tick s.policy [] a.1 with
  | none=>none
  | some given=>RI l tick (yd l s.step tick ([],a.2) given) r
def VA(l:List Fld)(p:List E8)(st:List E4)(h:E6)(tick:Int):Option (List E6×List E4):=RI l tick ([h],st) p
def zq(st:List E4):Option (List E6×List E4)->AV
 | some a => .tup [.sl none (F4 a.1),.sl none (FZ a.2),.int .i64 0]
 | none => .tup [.sl none [],.sl none (FZ st),.int .i64 2]
theorem rj(st:List E4)(o:Option (List E6×List E4)):(zq st o).pure=true:=by
 cases o<;>simp [zq,AV.pure,A',mV,Jo]
theorem AV3(l:List Fld)(hl:I3 l)(hln:l.length<=1073741824)(p:List E8)(hp:okPrg l p)(st:List E4)(hlen:st.length+p.length*256<=1073741823)(hs:Sg p st)(h:E6)(hr:FX h=true)(tick:Int)(ht:0<=tick/\tick<=1073741824):
  FQ AA 28 [.sl none (GN l),.sl none (F9 p),.sl none (FZ st),.agg h.c,.int .i64 tick] (zq st (VA l p st h tick)):=by
 refine pB AYf rfl ?_ (hv:=rj _ _)
 simp only [f28,go_sem]
 refine Fm p (λ(s:(List E6×List E4)×FP) (r:List E8)=>RI l tick s.1 r) (λk s=>Sg p s.1.2/\(∀ z∈s.1.1,FX z=true)/\s.1.2.length<=st.length+k*256/\s.1.1.length<=256)
  (λk s=>[(0,.sl none (GN l)),(2,.sl none (FZ st)),(4,.int .i64 tick),(13,.sl (some 10) (F4 s.1.1)),(14,.sl none (FZ s.1.2)),(28,.sl none (F9 p)),(29,.int .i64 p.length),(30,.int .i64 k)])
  (λ_ s=>s.2) (([h],st),[some h.c]) FO ⟨hs,by simpa using hr,sm,sm⟩ ?_ rfl ?_ ?_
 ·rfl
 ·rintro k ⟨⟨pk,now⟩,Y⟩ S Ss hd hx ⟨i1,i2,i3,i4⟩ hF h0 h1 hw
  dsimp only at i1 i2 i3 i4 hF ⊢
  have hSp:=AB hx
  have hkl:=(AC.1 hx).1
  have gS : ∀ y L,(Y++y::L)[Y.length]? =some y:=λy L=>sm
  have gS0 : ∀ y,(Y++[y])[Y.length]? =some y:=λy=>sm
  have sS0 : ∀ y z,(Y++[y]).set Y.length z=Y++[z]:=λy z=>sm
  have gN : ∀ y L z,(Y++y::(L++[z]))[List.length (Y++y::L)]? =some z:=λy L z=>by
   have:Y++y::(L++[z])=(Y++y::L)++[z]:=sm
   rw [this];exact BT
  have sN : ∀ y L z z2,(Y++y::(L++[z])).set (List.length (Y++y::L)) z2=Y++y::(L++[z2]):=λy L z z2=>by
   have:Y++y::(L++[z])=(Y++y::L)++[z]:=sm
   rw [this];simp
  have b2:((2:Int) !=0)=true:=rfl
  have b0:((0:Int) !=0)=false:=rfl
  simp only [go_sem,h0,h1,Fg hx,gS,gS0,sS0]
  refine Fm pk (λ(s:List E6×FP) (r:List E6)=>wn l tick S.policy s.1 r) (λ_ s=>(∀ z∈s.1,FX z=true)/\s.1.length<=256)
   (λj s=>[(0,.sl none (GN l)),(2,.sl none (FZ st)),(4,.int .i64 tick),(14,.sl none (FZ now)),(16,.ptr Y.length 0),(17,.sl (some 10) (F4 s.1)),(28,.sl none (F9 p)),(29,.int .i64 p.length),(30,.int .i64 k),(34,.sl (some 10) (F4 pk)),(35,.int .i64 pk.length),(36,.int .i64 j)])
   (λ_ s=>Y++some S.c::s.2) ([],[]) FO ⟨sm,sm⟩ ?_ rfl ?_ ?_
  ·rfl
  ·rintro j ⟨gv,L⟩ g gs hd2 hx2 ⟨j1,j2⟩ hF2 g0 g1 gw
   dsimp only at j1 j2 hF2 ⊢
   have hrg:=i2 g (AB hx2)
   have c1:=AEk l hl FO S.policy (hp.pol S hSp) tick g hrg
   have e2:=wn.eq_2 l tick S.policy gv g gs
   simp only [go_sem,g0,g1,IF hx2,gS,gN,sN]
   cases ev:vO l tick S.policy g with
   | none =>
    rw [ev] at c1 e2
    have hres:VA l p st h tick=none:=by rw [VA,hF,RI,hF2,e2]
    rw [hres]
    refine pK c1 ?_
    simp only [go_sem,b2]
    exact ⟨FO,FO,rfl⟩
   | some x =>
    rw [ev] at c1 e2
    have hgx:=RC l hl tick S.policy (hp.pol S hSp) g x hrg ev
    have hgl:=hgx.2.1
    refine pK c1 ?_
    simp only [go_sem,b0]
    refine ⟨FO,FO, ?_⟩
    by_cases Pq:256<(gv++x).length
    ·have hres:VA l p st h tick=none:=by rw [VA,hF,RI,hF2,e2];simp only [iP Pq]
     have h256b:(256:Int)<((gv++x).length:Int):=FO
     rw [hres]
     simp only [go_sem,h256b,dT]
     rfl
    ·have h256b : ¬ (256:Int)<((gv++x).length:Int):=FO
     simp only [iN Pq] at e2
     simp only [go_sem,h256b,dF,gw]
     refine ⟨(gv++x,L++[some g.c]),by rw [e2],⟨λz hz=>?_,by rw [AF] at Pq ⊢;omega⟩, ?_, ?_⟩
     ·rcases As.1 hz with hz|hz
      ·exact j1 z hz
      ·exact hgx.2.2 z hz
     ·rfl
     ·rfl
  ·rintro ⟨gv,L⟩ ⟨j1,j2⟩ hF2
   dsimp only at j1 j2 hF2 ⊢
   have hgv:wn l tick S.policy [] pk=some gv:=hF2
   have hF4:RI l tick ([h],st) p=RI l tick (yd l S.step tick ([],now) gv) Ss:=by rw [hF,RI,hgv]
   simp only [go_sem,AW,dF]
   refine Fm gv (λ(s:(List E6×List E4)×FP) (r:List E6)=>yd l S.step tick s.1 r) (λj s=>Sg p s.1.2/\(∀ z∈s.1.1,FX z=true)/\s.1.2.length<=now.length+j/\s.1.1.length<=j)
    (λj s=>[(0,.sl none (GN l)),(2,.sl none (FZ st)),(4,.int .i64 tick),(13,.sl (some 10) (F4 s.1.1)),(14,.sl none (FZ s.1.2)),(16,.ptr Y.length 0),(28,.sl none (F9 p)),(29,.int .i64 p.length),(30,.int .i64 k),(61,.sl (some 10) (F4 gv)),(62,.int .i64 gv.length),(63,.int .i64 j)])
    (λ_ s=>Y++some S.c::s.2) (([],now),L) FO ⟨i1,sm,sm,sm⟩ ?_ rfl ?_ ?_
   ·rfl
   ·rintro j ⟨⟨pk2,now2⟩,L2⟩ g gs hd2 hx2 ⟨q1,q2,q3,q4⟩ hF3 g0 g1 gw
    dsimp only at q1 q2 q3 q4 hF3 ⊢
    have hrg:=j1 g (AB hx2)
    have hjl:=(AC.1 hx2).1
    have c1:=Aco l hl hln S.step (hp.stp S hSp) now2 FO (λe he=>(q1 e he).1) (λe he=>(q1 e he).2 S hSp) g hrg tick ht
    obtain ⟨d1,d2,d3⟩:=qZ hl hln hp hSp (st:=now2) FO q1 hrg ht
    have e2:=yd.eq_2 l S.step tick (pk2,now2) g gs
    dsimp only at e2
    generalize kZ l S.step now2 g tick=R at c1 d1 d2 d3 e2
    obtain ⟨g',b,now'⟩:=R
    dsimp only at c1 d1 d2 d3 e2
    simp only [go_sem,g0,g1,IF hx2,gS,gN,sN]
    refine pK c1 ?_
    cases b with
    | true =>
     simp only [go_sem,gS,gN,sN,gw]
     refine ⟨FO,FO,((pk2++[g'],now'),L2++[some g'.c]),by rw [e2,iP rfl],⟨d2,λz hz=>?_,by dsimp only;omega,by rw [AF];exact Ds q4⟩,rfl,rfl⟩
     rcases As.1 hz with hz|hz
     ·exact q2 z hz
     ·rcases Ac.1 hz with rfl;exact d1
    | false =>
     simp only [go_sem,gS,gN,sN,gw]
     exact ⟨((pk2,now'),L2++[some g'.c]),by rw [e2,iN dc],⟨d2,q2,by dsimp only;omega,by dsimp only;omega⟩,rfl,rfl⟩
   ·rintro ⟨⟨pk2,now2⟩,L2⟩ ⟨q1,q2,q3,q4⟩ hF3
    dsimp only at q1 q2 q3 q4 hF3 ⊢
    simp only [go_sem,AW,dF,hw]
    exact ⟨((pk2,now2),_),by rw [<- hF,hF4,hF3];rfl,⟨q1,q2,by dsimp only;omega,by dsimp only;omega⟩,rfl,rfl⟩
 ·rintro ⟨⟨pk,now⟩,Y⟩ ⟨i1,i2,i3,i4⟩ hF
  dsimp only at i1 i2 i3 i4 hF ⊢
  simp only [go_sem,AW,dF]
  rw [VA,hF];rfl
def K5(l:List E9):List AV:=l.map λx => .agg x.c
@[go_sem] theorem AUQ(l:List E9):(K5 l).length=l.length:=by simp [K5]
theorem tC{l:List E9}{i:Nat}{x:E9}(h:l[i]? =some x):(K5 l)[i]? =some (.agg x.c):=by simp [K5,h]
@[go_sem] theorem AIW(a:List E9)(x:E9):K5 a++[.agg x.c]=K5 (a++[x]):=by simp [K5]
def GR(l:List FA):List AV:=l.map λx => .agg x.c
@[go_sem] theorem ADy(l:List FA):(GR l).length=l.length:=by simp [GR]
theorem Kv{l:List FA}{i:Nat}{x:FA}(h:l[i]? =some x):(GR l)[i]? =some (.agg x.c):=by simp [GR,h]
@[go_sem] theorem ABJ(a:List FA)(x:FA):GR a++[.agg x.c]=GR (a++[x]):=by simp [GR]
@[go_sem] theorem Vv(l:List FA):A' (GR l)=true:=by
 induction l with
 | nil=>rfl
 | cons x xs ih=>simpa [GR,A',AV.pure] using ⟨UR x,ih⟩
def Gu(l:List (List E4)):List AV:=l.map λx => .sl none (FZ x)
@[go_sem] theorem RY(l:List (List E4)):(Gu l).length=l.length:=by simp [Gu]
theorem Mu{l:List (List E4)}{i:Nat}{x:List E4}(h:l[i]? =some x):(Gu l)[i]? =some (.sl none (FZ x)):=by simp [Gu,h]
@[go_sem] theorem AGy(l:List (List E4)):(∀ x∈Gu l,x.cells.length=1)=True:=eq_true λx hx=>by
 obtain ⟨y,_,rfl⟩:=AP.1 hx;rfl
@[go_sem] theorem sh(l:List (List E4)):A' (Gu l)=true:=by
 induction l with
 | nil=>rfl
 | cons x xs ih=>simpa [Gu,A',AV.pure] using ⟨Jo x,ih⟩
theorem AA8(l:List (List E4)):(HU (Gu l)).map borrow1=Gu l:=by
 induction l with
 | nil=>rfl
 | cons x l ih =>
  have:HU (Gu (x::l)) = .sl none (FZ x)::HU (Gu l):=rfl
  rw [this,AS,ih];rfl
def gI:E5:={ h26 with mt:=[5,7],tk:=[] }
@[go_sem] theorem AcV(k:Nat):gI.lv k=h26.lv k/\gI.ct k=h26.ct k/\gI.at k=h26.at k/\gI.dn k=h26.dn k:=⟨AG rfl rfl,AG rfl rfl,AG rfl rfl,AG rfl rfl⟩
@[go_sem] theorem AdA:gI.tk=[]/\gI.mt=[5,7]/\gI.pc=[]:=⟨rfl,rfl,rfl⟩
theorem AIj:FK AA 26 f26 gI:=⟨kr,kr,func26,kr⟩
theorem AAZ(l:List (List E4))(hl:l.length<=1073741824)(H:FP):FV AA 26 [.sl none (Gu l)] H λv H'=>(l=[]/\v = .sl (some 1) []/\H'=H)\/(v = .msl (H.length+1) 0 l.length 1/\H'=H++[none,some (Gu l)]):=by
 have el:(Gu l).length=l.length:=RY l
 have g1 : ∀ (x:Option (List AV)),(H++[x])[H.length]? =some x:=λx=>sm
 have g2 : ∀ (x y:Option (List AV)),(H++[x]).set H.length y=H++[y]:=λx y=>sm
 refine aC AIj rfl ?_
 cases l with
 | nil =>
  have e0:Gu []=[]:=rfl
  rw [e0]
  simp only [f26,go_sem,g1,g2]
  simp
 | cons x l =>
  have hcs:Gu (x::l) = .sl none (FZ x)::Gu l:=rfl
  have hcat:=AA8 (x::l)
  rw [hcs] at hcat el ⊢
  simp only [AD] at hl
  simp only [f26,go_sem,g1,g2]
  exact ⟨FO,FO,.inr ⟨sm,by rw [hcat]⟩⟩
theorem AAG(q:List E9)(hq:q.length<=1048576)(x:E9)(w:Option Nat)(H:FP)(o:Nat)(ho:H[o]? =some (some [.sl (some 12) (K5 q)])):
  FV AA 24 [.agg (x.cf w),.ptr o 0] H λv H'=>v = .tup [] /\ ∃ ext,H'=H.set o (some [.sl (some 12) (K5 (q++[x]))])++ext:=by
 have hlt:=(AC.1 ho).1
 have g1:=FU ho
 have gB : ∀ y L,(H++y::L)[H.length]? =some y:=λy L=>sm
 have s1 : ∀ (L:FP) y,(H++L).set o y=H.set o y++L:=λL y=>LV hlt L
 have gS : ∀ x L,(H.set o x++L)[o]? =some x:=λx L=>U6 hlt x L
 have gM : ∀ x y L,(H.set o x++y::L)[H.length]? =some y:=λx y L=>by
  rw [AM sm];simp
 have sA : ∀ x L y,(H.set o x++L).set o y=H.set o y++L:=λx L y=>by rw [LV (by rw [Ap];exact hlt),BD]
 refine aC AYs rfl ?_
 cases w<;>simp only [f24,go_sem,ho,g1,gB,s1,gS,sA,gM]
 ·exact ⟨FO,FO⟩
 ·exact ⟨FO,FO⟩
theorem qO{l:List Fld}(hl:I3 l){tick:Int}{x:Policy}(hx:Hl l x): ∀ (pk:List E6) {gv r:List E6},(∀ z∈pk,FX z=true)->(∀ z∈gv,FX z=true)->gv.length<=256->wn l tick x gv pk=some r->(∀ z∈r,FX z=true)/\r.length<=256
 | [],gv,r,_,hg,hn,e=>by
  rw [wn] at e
  cases e
  exact ⟨hg,hn⟩
 | g::pk,gv,r,hp,hg,hn,e=>by
  rw [wn] at e
  have hrg:=hp g (Cx ..)
  cases ev:vO l tick x g with
  | none=>rw [ev] at e;cases e
  | some y =>
   rw [ev] at e
   have hy:=RC l hl tick x hx g y hrg ev
   by_cases Pq:256<(gv++y).length
   ·simp only [iP Pq] at e
    cases e
   ·simp only [iN Pq] at e
    refine qO hl hx pk (λz hz=>hp z (CJ _ hz)) (λz hz=>?_) FO e
    rcases As.1 hz with hz|hz
    ·exact hg z hz
    ·exact hy.2.2 z hz
theorem qb{l:List Fld}(hl:I3 l)(hln:l.length<=1073741824){p:List E8}(hp:okPrg l p){s:E8}(hs:s∈p){tick:Int}(ht:0<=tick/\tick<=1073741824): ∀ (gv:List E6) {pk:List E6} {st:List E4},(∀ z∈gv,FX z=true)->(∀ z∈pk,FX z=true)->Sg p st->st.length+gv.length<=1073741823 ->
  (∀ z∈(yd l s.step tick (pk,st) gv).1,FX z=true)/\Sg p (yd l s.step tick (pk,st) gv).2/\(yd l s.step tick (pk,st) gv).1.length<=pk.length+gv.length/\(yd l s.step tick (pk,st) gv).2.length<=st.length+gv.length
 | [],pk,st,_,hpk,hst,_=>⟨hpk,hst,AU _,AU _⟩
 | g::gv,pk,st,hg,hpk,hst,hln2=>by
  rw [AD] at hln2
  have hrg:=hg g (Cx ..)
  obtain ⟨d1,d2,d3⟩:=qZ hl hln hp hs (st:=st) FO hst hrg ht
  rw [yd]
  dsimp only
  generalize kZ l s.step st g tick=R at d1 d2 d3
  obtain ⟨g',b,now'⟩:=R
  dsimp only at d1 d2 d3 ⊢
  have ih:=λpk2 hpk2=>qb hl hln hp hs ht gv (pk:=pk2) (st:=now') (λz hz=>hg z (CJ _ hz)) hpk2 d2 FO
  rw [AD]
  cases b with
  | true =>
   rw [iP rfl]
   obtain ⟨i1,i2,i3,i4⟩:=ih (pk++[g']) (λz hz=>by
    rcases As.1 hz with hz|hz
    ·exact hpk z hz
    ·rcases Ac.1 hz with rfl;exact d1)
   rw [AF,Bt] at i3
   exact ⟨i1,i2,FO,FO⟩
  | false =>
   rw [iN dc]
   obtain ⟨i1,i2,i3,i4⟩:=ih pk hpk
   exact ⟨i1,i2,FO,FO⟩
theorem dP{l:List Fld}(hl:I3 l)(hln:l.length<=1073741824){p:List E8}(hp:okPrg l p){tick:Int}(ht:0<=tick/\tick<=1073741824): ∀ (r:List E8) {a b:List E6×List E4},(∀ s∈r,s∈p)->(∀ z∈a.1,FX z=true)->a.1.length<=256->Sg p a.2->a.2.length+r.length*256<=1073741823->RI l tick a r=some b ->
  (∀ z∈b.1,FX z=true)/\b.1.length<=256/\Sg p b.2/\b.2.length<=a.2.length+r.length*256
 | [],a,b,_,h1,h2,h3,_,e=>by
  rw [RI] at e
  cases e
  exact ⟨h1,h2,h3,FO⟩
 | s::r,a,b,hr,h1,h2,h3,h4,e=>by
  rw [AD] at h4
  rw [RI] at e
  have hs:=hr s (Cx ..)
  cases eg:wn l tick s.policy [] a.1 with
  | none=>rw [eg] at e;cases e
  | some gv =>
   rw [eg] at e
   dsimp only at e
   obtain ⟨g1,g2⟩:=qO hl (hp.pol s hs) a.1 h1 sm sm  eg
   obtain ⟨d1,d2,d3,d4⟩:=qb hl hln hp hs ht gv (pk:=[]) (st:=a.2) g1 sm h3 FO
   rw [AH] at d3
   obtain ⟨r1,r2,r3,r4⟩:=dP hl hln hp ht r (λz hz=>hr z (CJ _ hz)) d1 FO d2 FO e
   rw [AD]
   exact ⟨r1,r2,r3,FO⟩
theorem ze{l:List Fld}(hl:I3 l)(hln:l.length<=1073741824){p:List E8}(hp:okPrg l p){tick:Int}(ht:0<=tick/\tick<=1073741824){st:List E4}(hst:Sg p st)(hlen:st.length+p.length*256<=1073741823){h:E6}(hr:FX h=true){b:List E6×List E4}(e:VA l p st h tick=some b):
  (∀ z∈b.1,FX z=true)/\b.1.length<=256/\Sg p b.2/\b.2.length<=st.length+p.length*256 :=
 dP hl hln hp ht p (a:=([h],st)) (λ_ h=>h) (by simpa using hr) sm hst hlen e
def qU(t:FB)(p:E6):E6×Bool:=Ow (He t p.h0) p
def T7(t:FB)(h:E6):E6×Bool:=LK (HI t (i64 (h.h0 - 10000))) h
def RG(s:FC)(t:FB)(p:E6)(tick:Int):Int:=H8 (U0 s t.name p tick) s.contracts
def pr(s:FC)(x:E9)(t:FB)(tick:Int)(a:List E9×List FA)(p:E6):List E9×List FA :=
 if (qU t p).2=false then a
 else if RG s t p tick<0 then (a.1,a.2++[⟨x.tenant,(qU t p).1,x.chain⟩])
 else match s.contracts[(RG s t p tick).toNat]? with
  | none=>a
  | some d=>(a.1++[⟨GO s d.dst,{ p with h0:=d.toPort },x.chain++[RG s t p tick]⟩],a.2)
def Zp(s:FC)(x:E9)(t:FB)(tick:Int)(a:List E9×List FA):List E6->List E9×List FA
 | []=>a
 | p::r=>Zp s x t tick (pr s x t tick a p) r
def Oy(h:E6):Nat->List FB->List E9
 | _,[]=>[]
 | k,t::r=>if (T7 t h).2=true then ⟨(k:Nat),(T7 t h).1,[]⟩::Oy h (k+1) r else Oy h (k+1) r
def kb(s:FC)(tick:Int):Nat->Nat->List E9->List (List E4)->List FA->Option (List FA×List (List E4))
 | 0,_,_,_,_=>none
 | f+1,n,q,now,out=>match q[n]? with
  | none=>some (out,now)
  | some x=>match s.tenants[x.tenant.toNat]?,now[x.tenant.toNat]? with
   | some t,some st=>match VA s.fields (Gf t).1 st x.head tick with
    | none=>none
    | some b=>if 256<(Zp s x t tick (q,out) b.1).1.length then none else kb s tick f (n+1) (Zp s x t tick (q,out) b.1).1 (now.set x.tenant.toNat b.2) (Zp s x t tick (q,out) b.1).2
   | _,_=>none
def UB(s:FC)(sts:List (List E4))(h:E6)(tick:Int):Option (List FA×List (List E4)):=kb s tick 600 0 (Oy h 0 s.tenants) sts []
def dV(sts:List (List E4)):Option (List FA×List (List E4))->AV
 | some a => .tup [.sl none (GR a.1),.sl none (Gu a.2),.int .i64 0]
 | none => .tup [.sl none [],.sl none (Gu sts),.int .i64 2]
theorem lN(sts:List (List E4))(o:Option (List FA×List (List E4))):(dV sts o).pure=true:=by
 cases o<;>simp [dV,AV.pure,A',Vv,sh]
structure okRun (s:FC) (sts:List (List E4)) (h:E6) (tick:Int):Prop where
 bulk:FR s.c<=1048576
 fld:I3 s.fields
 ten:s.tenants.length<=256
 tick:0<=tick/\tick<=1073741824
 len:sts.length=s.tenants.length
 prg : ∀ (k:Nat) (t:FB),s.tenants[k]? =some t->okPrg s.fields (Gf t).1/\(Gf t).1.length<=1000
 whole : ∀ t∈s.tenants,FQ AA 27 [.agg t.c] (.tup [.sl none (F9 (Gf t).1),.int .i64 (Gf t).2])
 st : ∀ (k:Nat) (t:FB) (st:List E4),s.tenants[k]? =some t->sts[k]? =some st->Sg (Gf t).1 st/\st.length<=268435456
 pred : ∀ c∈s.contracts,IK s.fields c.pred
 to : ∀ c∈s.contracts,0<=GO s c.dst/\GO s c.dst<(s.tenants.length:Int)
 port : ∀ c∈s.contracts,0<=c.toPort/\c.toPort<=65535
 prt : ∀ t∈s.tenants,t.ports.length<=1073741824
 ent : ∀ t∈s.tenants,(T7 t h).2=true->FX (T7 t h).1=true
def MK:E5:={ h6 with pc:=[46,76,91,112,122,131,143,158],fz:=[(36,[(9,none,false)])] }
@[go_sem] theorem Acx(k:Nat):MK.lv k=h6.lv k:=AG rfl rfl
@[go_sem] theorem Acz(k:Nat):MK.ct k=h6.ct k:=AG rfl rfl
@[go_sem] theorem Acy(k:Nat):MK.dn k=h6.dn k:=AG rfl rfl
@[go_sem] theorem Ac0:MK.at 0=[]/\MK.at 1=[]/\MK.at 2=[]/\MK.at 3=[]/\MK.at 4=[]/\MK.at 5=[]/\MK.at 6=[]/\MK.at 7=[]/\MK.at 8=[]/\MK.at 9=[]/\MK.at 10=[]/\MK.at 11=[]/\MK.at 12=[]/\MK.at 13=[]/\MK.at 14=[]/\MK.at 15=[]/\MK.at 16=[]/\MK.at 17=[]/\MK.at 18=[]/\MK.at 19=[]/\MK.at 20=[]/\MK.at 21=[]/\MK.at 22=[]/\MK.at 23=[]/\MK.at 24=[]/\MK.at 25=[]/\MK.at 26=[]/\MK.at 27=[]/\MK.at 28=[]/\MK.at 29=[]/\MK.at 30=[]/\MK.at 31=[]/\MK.at 32=[]/\MK.at 33=[]/\MK.at 34=[]/\MK.at 35=[]/\MK.at 36=[(9,none,false)]:=⟨rfl,rfl,rfl,rfl,rfl,rfl,rfl,rfl,rfl,rfl,rfl,rfl,rfl,rfl,rfl,rfl,rfl,rfl,rfl,rfl,rfl,rfl,rfl,rfl,rfl,rfl,rfl,rfl,rfl,rfl,rfl,rfl,rfl,rfl,rfl,rfl,rfl⟩
@[go_sem] theorem AgI:MK.tk=[82,97,101,103,125,168,169,170]/\MK.mt=[]/\MK.pc=[46,76,91,112,122,131,143,158]:=⟨rfl,rfl,rfl⟩
theorem AWF:FK AA 6 f6 MK:=⟨kr,kr,func6,kr⟩
theorem AIT(l:List (List E4)):(Gu l).map borrow1=Gu l:=by
 induction l with
 | nil=>rfl
 | cons x l ih =>
  have:Gu (x::l) = .sl none (FZ x)::Gu l:=rfl
  rw [this,AS,ih];rfl
theorem mK(l:List (List E4)):Ia false 1 l.length (Gu l)=Gu l:=by
 have:=nZ (Gu l)
 rwa [RY] at this
structure okC6 (s:FC) (sts:List (List E4)) (h:E6) (tick:Int) (pn f n:Nat) (q:List E9) (now:List (List E4)) (out:List FA) (X:FP):Prop where
 c0:X[0]? =some (some s.c)
 c2:X[2]? =some (some [.sl (some 12) (K5 q)])
 cn:X[pn]? =some (some (Gu now))
 fuel:n+f=600
 res:UB s sts h tick=kb s tick f n q now out
 ql:q.length<=256/\n<=q.length/\out.length<=n*256
 itm : ∀ (i:Nat) (x:E9),q[i]? =some x->FX x.head=true/\(0<=x.tenant/\x.tenant<(s.tenants.length:Int))/\x.chain.length<=i
 nl:now.length=s.tenants.length
 st : ∀ (k:Nat) (t:FB) (st:List E4),s.tenants[k]? =some t->now[k]? =some st->Sg (Gf t).1 st/\st.length<=268435456+n*256000
structure okP6 (s:FC) (x:E9) (t:FB) (n pn ox:Nat) (now:List (List E4)) (q:List E9) (out:List FA) (Z:FP) (j:Nat):Prop where
 c0:Z[0]? =some (some s.c)
 c2:Z[2]? =some (some [.sl (some 12) (K5 q)])
 cn:Z[pn]? =some (some (Gu now))
 cx:Z[ox]? =some (some x.c)
 ct:Z[ox+1]? =some (some t.c)
 len:ox+2<=Z.length
 itm : ∀ (i:Nat) (y:E9),q[i]? =some y->FX y.head=true/\(0<=y.tenant/\y.tenant<(s.tenants.length:Int))/\y.chain.length<=i
 ql:n<q.length/\q.length<=256+j
 ol:out.length<=n*256+j
theorem okP6.grow{s:FC}{x:E9}{t:FB}{n pn ox:Nat}{now:List (List E4)}{q:List E9}{out:List FA}{Z:FP}{j:Nat}(h:okP6 s x t n pn ox now q out Z j)(L:FP):okP6 s x t n pn ox now q out (Z++L) (j+1) :=
 ⟨FU h.c0 _,FU h.c2 _,FU h.cn _,FU h.cx _,FU h.ct _,by rw [AF];have:=h.len;omega,h.itm,⟨h.ql.1,by have:=h.ql.2;omega⟩,by have:=h.ol;omega⟩
theorem okP6.out{s:FC}{x:E9}{t:FB}{n pn ox:Nat}{now:List (List E4)}{q:List E9}{out:List FA}{Z:FP}{j:Nat}(h:okP6 s x t n pn ox now q out Z j)(L:FP)(d:FA):okP6 s x t n pn ox now q (out++[d]) (Z++L) (j+1) :=
 ⟨FU h.c0 _,FU h.c2 _,FU h.cn _,FU h.cx _,FU h.ct _,by rw [AF];have:=h.len;omega,h.itm,⟨h.ql.1,by have:=h.ql.2;omega⟩,by rw [AF,Bt];have:=h.ol;omega⟩
theorem okP6.put{s:FC}{x:E9}{t:FB}{n pn ox:Nat}{now:List (List E4)}{q:List E9}{out:List FA}{Z:FP}{j:Nat}(h:okP6 s x t n pn ox now q out Z j)(L M:FP)(d:E9)(hp:2<pn)(hox:2<ox)(hd:FX d.head=true/\(0<=d.tenant/\d.tenant<(s.tenants.length:Int))/\d.chain.length<=n+1):
  okP6 s x t n pn ox now (q++[d]) out ((Z++L).set 2 (some [.sl (some 12) (K5 (q++[d]))])++M) (j+1):=by
 have h2:=(AC.1 h.c2).1
 have hs : ∀ (i:Nat) (v:Option (List AV)),i≠2->Z[i]? =some v->((Z++L).set 2 (some [.sl (some 12) (K5 (q++[d]))])++M)[i]? =some v:=λi v hi hv=>FU (by rw [A6 (Ne.symm hi)];exact FU hv _) _
 refine ⟨hs 0 _ FO h.c0,FU (A3 (by rw [AF];omega)) _,hs pn _ FO h.cn,hs ox _ FO h.cx,hs (ox+1) _ FO h.ct,by rw [AF,Ap,AF];have:=h.len;omega,λi y hy=>?_,⟨by rw [AF];have:=h.ql.1;omega,by rw [AF,Bt];have:=h.ql.2;omega⟩,by have:=h.ol;omega⟩
 rw [List.getElem?_append] at hy
 split at hy
 ·exact h.itm i y hy
 ·rename_i hi
  have hql:=h.ql.1
  have:i=q.length:=by
   by_cases he:i - q.length=0
   ·omega
   ·rw [Az (by rw [Bt];omega)] at hy
    cases hy
  subst this
  rw [AO] at hy
  cases hy
  exact ⟨hd.1,hd.2.1,by have:=hd.2.2;omega⟩
theorem AA7(l:List (List E4))(i:Nat)(e:List E4)(h:i<l.length):splice (Gu l) i [.sl none (FZ e)]=Gu (l.set i e):=by
 unfold splice
 rw [DA,iP h]
 simp [Gu]
theorem AIC(s:FC)(sts:List (List E4))(h:E6)(tick:Int)(hr:FX h=true)(R:okRun s sts h tick):FQ AA 6 [.agg s.c,.sl none (Gu sts),.agg h.c,.int .i64 tick] (dV sts (UB s sts h tick)):=by
 have hnt:=R.ten
 refine pB AWF rfl ?_ (hv:=lN _ _)
 simp only [f6,go_sem]
 refine Fm s.tenants (λ(_:List E9×FP) (_:List FB)=>()) (λk a=>a.1++Oy h k (s.tenants.drop k)=Oy h 0 s.tenants/\a.1.length<=k /\ ∀ x∈a.1,x.chain=[]/\FX x.head=true/\0<=x.tenant/\x.tenant<(s.tenants.length:Int))
  (λk _=>[(1,.sl none (Gu sts)),(3,.int .i64 tick),(4,.ptr 0 0),(6,.ptr 1 0),(11,.ptr 2 0),(12,.fn (.func 24) [] [.ptr 2 0]),(36,.sl none (HQ s.tenants)),(37,.int .i64 s.tenants.length),(38,.int .i64 k)])
  (λ_ a=>some s.c::some h.c::some [.sl (some 12) (K5 a.1)]::a.2) ([],[]) FO ⟨rfl,sm,sm⟩ rfl rfl ?_ ?_
 ·rintro k ⟨q,J⟩ t ts hd hx ⟨i1,i2,i3⟩ _ h0 h1 hw
  dsimp only at i1 i2 i3 ⊢
  have htm:=AB hx
  have hkl:=(AC.1 hx).1
  have c1:=qo t (R.prt t htm) h
  have ht:=R.ent t htm
  rw [hd,Oy] at i1
  have hd2:s.tenants.drop (k+1)=ts:=by rw [<- A8,hd];rfl
  have eT:LK (HI t (i64 (h.h0 - 10000))) h=T7 t h:=rfl
  rw [eT] at c1
  have gN : ∀ a b c (L:FP) z,(a::b::c::(L++[z]))[List.length (a::b::c::L)]? =some z:=λa b c L z=>by
   have:a::b::c::(L++[z])=(a::b::c::L)++[z]:=sm
   rw [this];exact BT
  have sN : ∀ a b c (L:FP) z z2,(a::b::c::(L++[z])).set (List.length (a::b::c::L)) z2=a::b::c::(L++[z2]):=λa b c L z z2=>by
   have:a::b::c::(L++[z])=(a::b::c::L)++[z]:=sm
   rw [this];simp
  simp only [go_sem,h0,h1,F2 hx]
  refine pK c1 ?_
  cases he:(T7 t h).2 with
  | false =>
   rw [he,iN dc] at i1
   simp only [go_sem,hw]
   exact ⟨(q,_),⟨by rw [hd2];exact i1,by dsimp only;omega,i3⟩,rfl,rfl⟩
  | true =>
   rw [he,iP rfl] at i1
   simp only [go_sem]
   refine Fr.intro (AAG q FO ⟨(k:Nat),(T7 t h).1,[]⟩ (some 1) _ 2 rfl) λv H' hq=>?_
   obtain ⟨rfl,ext,rfl⟩:=hq
   simp only [go_sem,hw]
   refine ⟨(q++[⟨(k:Nat),(T7 t h).1,[]⟩],_),⟨by rw [hd2,AE];exact i1,by rw [AF];exact Ds i2,λx hx=>?_⟩,rfl,rfl⟩
   rcases As.1 hx with hx|hx
   ·exact i3 x hx
   ·rcases Ac.1 hx with rfl
    exact ⟨rfl,ht he,by dsimp only;omega,by dsimp only;omega⟩
 ·rintro ⟨q,J⟩ ⟨i1,i2,i3⟩ _
  dsimp only at i1 i2 i3 ⊢
  have hq0:q=Oy h 0 s.tenants:=by rw [<- i1,List.drop_length,Oy,Ai]
  simp only [go_sem,AW,dF]
  refine Fr.intro (AAZ sts (by have:=R.len;omega) _) λv H' hq=>?_
  rcases hq with ⟨hnil,rfl,rfl⟩|⟨rfl,rfl⟩
  ·have ht0:s.tenants=[]:=List.length_eq_zero_iff.1 (by rw [<- R.len,hnil];rfl)
   have hq1:q=[]:=by rw [hq0,ht0];rfl
   have hres:UB s sts h tick=some ([],[]):=by unfold UB;rw [ht0,hnil];rfl
   subst hq1
   rw [hres]
   simp only [go_sem]
   refine Ko (σ:=Unit) (λ_=>[(1,.sl none (Gu sts)),(3,.int .i64 tick),(4,.ptr 0 0),(11,.ptr 2 0),(12,.fn (.func 24) [] [.ptr 2 0]),(17,.sl (some 1) []),(18,.sl (some 12) []),(19,.int .i64 0)])
    (λ_=>some s.c::some h.c::some [.sl (some 12) (K5 [])]::J) (λ_=>True) (λ_=>0) () trivial rfl rfl λ_ _=>?_
   have z0 : ¬ ((0:Int)<((0:Nat):Int)):=dc
   simp only [go_sem,z0,dF,AH]
   rfl
  ·simp only [go_sem]
   generalize hpn:List.length (some s.c::some h.c::some [AV.sl (some 12) (K5 q)]::J)+1=pn
   refine Ko (σ:=Nat×Nat×List E9×List (List E4)×List FA×FP) (λa=>[(1,.sl none (Gu sts)),(3,.int .i64 tick),(4,.ptr 0 0),(11,.ptr 2 0),(12,.fn (.func 24) [] [.ptr 2 0]),(17,.msl pn 0 sts.length 1),(18,.sl (some 12) (GR a.2.2.2.2.1)),(19,.int .i64 a.2.1)])
    (λa=>a.2.2.2.2.2) (λa=>okC6 s sts h tick pn a.1 a.2.1 a.2.2.1 a.2.2.2.1 a.2.2.2.2.1 a.2.2.2.2.2) (λa=>a.1) (600,0,q,sts,[],_) ?_ rfl rfl ?_
   ·refine ⟨rfl,rfl, ?_,rfl,by rw [hq0];rfl,⟨by dsimp only;omega,BY _,BY _⟩,λi x hx=>?_,R.len,λk t st h1 h2=>?_⟩
    ·subst hpn
     simp
    ·obtain ⟨y1,y2,y3,y4⟩:=i3 x (AB hx)
     exact ⟨y2,⟨y3,y4⟩,by rw [y1];exact BY _⟩
    ·have:=R.st k t st h1 h2
     exact ⟨this.1,by have:=this.2;dsimp only;omega⟩
   rintro ⟨f,n,q,now,out,X⟩ hI
   dsimp only at hI ⊢
   clear i1 i2 i3 hq0
   obtain ⟨x1,x2,x3,x4,x5,x6,x7,x8,x9⟩:=hI
   simp only [go_sem,x2]
   refine cS ?_ ?_<;>intro hc
   ·have hc:=of_decide_eq_true hc
    have hnl:n<q.length:=FO
    obtain ⟨x,hx⟩ : ∃ x,q[n]? =some x:=⟨_,AL hnl⟩
    obtain ⟨hxr,⟨hx0,hx1⟩,hxc⟩:=x7 n x hx
    obtain ⟨m,hm⟩ : ∃ m:Nat,x.tenant=(m:Int):=⟨x.tenant.toNat,FO⟩
    have hmT:m<s.tenants.length:=FO
    obtain ⟨t,ht⟩ : ∃ t,s.tenants[m]? =some t:=⟨_,AL hmT⟩
    obtain ⟨st,hst⟩ : ∃ st,now[m]? =some st:=⟨_,AL FO⟩
    have htm:=AB ht
    obtain ⟨p1,p2⟩:=R.prg m t ht
    obtain ⟨s1,s2⟩:=x9 m t st ht hst
    have c1:=R.whole t htm
    have hlenb:st.length+(Gf t).1.length*256<=1073741823:=by have:=x6.1;have:=x6.2.1;omega
    have hfl:s.fields.length<=1073741824:=by have:=qH (N6 R.bulk);omega
    have c2:=AV3 s.fields R.fld hfl (Gf t).1 p1 st hlenb s1 x.head hxr tick R.tick
    have l0:=(AC.1 x1).1
    have l2:=(AC.1 x2).1
    have ln:=(AC.1 x3).1
    have gX0:=FU x1
    have gX2:=FU x2
    have gXn:=FU x3
    have gx : ∀ y L,(X++y::L)[X.length]? =some y:=λy L=>sm
    have gx1 : ∀ y z L,(X++y::z::L)[X.length+1]? =some z:=λy z L=>sm
    have sx : ∀ y z,(X++[y]).set X.length z=X++[z]:=λy z=>sm
    have sx1 : ∀ y z w,(X++[y,z]).set (X.length+1) w=X++[y,w]:=λy z w=>sm
    have hm0:(0:Int)<=(m:Int):=FO
    have hm1:(m:Int)<(s.tenants.length:Int):=FO
    have hm2:(m:Int)<(sts.length:Int):=by rw [R.len];omega
    have hxi:(Item.c x)[0]? =some (.int .i64 x.tenant):=rfl
    have h0n:(0:Int)<=(n:Int):=FO
    simp only [go_sem,h0n,hc,x2,gX0,gx,gx1,sx,sx1,tC hx,F2 ht,hm,hm0,AF,AD,AH,AY]
    refine pK c1 ?_
    simp only [go_sem,gX0,gXn,gx,hxi,Mu hst,hm,hm0,hm2,AY,Nat.reduceAdd]
    obtain ⟨f',rfl⟩ : ∃ f',f=f'+1:=⟨f - 1,FO⟩
    have hto:x.tenant.toNat=m:=FO
    have b2:((2:Int) !=0)=true:=rfl
    have b0:((0:Int) !=0)=false:=rfl
    cases er:VA s.fields (Gf t).1 st x.head tick with
    | none =>
     rw [er,zq] at c2
     have hres:UB s sts h tick=none:=by rw [x5,kb,hx];dsimp only;rw [hto,ht,hst];dsimp only;rw [er]
     rw [hres]
     refine pK c2 ?_
     simp only [go_sem,b2]
     rfl
    | some b =>
     rw [er,zq] at c2
     obtain ⟨r1,r2,r3,r4⟩:=ze R.fld hfl p1 R.tick s1 hlenb hxr er
     have e5:kb s tick (f'+1) n q now out=if 256<(Zp s x t tick (q,out) b.1).1.length then none else kb s tick f' (n+1) (Zp s x t tick (q,out) b.1).1 (now.set m b.2) (Zp s x t tick (q,out) b.1).2:=by rw [kb,hx];dsimp only;rw [hto,ht,hst];dsimp only;rw [er]
     rw [e5] at x5
     have sXn : ∀ (L:FP) y,(X++L).set pn y=X.set pn y++L:=λL y=>LV ln L
     refine pK c2 ?_
     have hml:m+1<=now.length:=FO
     have hsp:=AA7 now m b.2 FO
     simp only [go_sem,b0,sXn,hml,hsp,gXn,gx,hxi,hm,hm0,hm2,AD,AH,AY]
     have hX2:2≠pn:=by subst hpn;simp
     have hX0:0≠pn:=by subst hpn;simp
     have lsn:(X.set pn (some (Gu (now.set m b.2)))).length=X.length:=Ap ..
     refine Fm b.1 (λ(a:List E9×List FA×FP) (r:List E6)=>Zp s x t tick (a.1,a.2.1) r) (λj a=>okP6 s x t n pn X.length (now.set m b.2) a.1 a.2.1 a.2.2 j) (λj a=>[(1,.sl none (Gu sts)),(3,.int .i64 tick),(4,.ptr 0 0),(11,.ptr 2 0),(12,.fn (.func 24) [] [.ptr 2 0]),(17,.msl pn 0 sts.length 1),(18,.sl (some 12) (GR a.2.1)),(19,.int .i64 n),(20,.ptr X.length 0),(21,.ptr (X.length+1) 0),(103,.sl none (F4 b.1)),(104,.int .i64 b.1.length),(105,.int .i64 j)])
      (λ_ a=>a.2.2) (q,out,_) FO ?_ ?_ rfl ?_ ?_
     ·have u0:(X.set pn (some (Gu (now.set m b.2))))[0]? =some (some s.c):=by rw [A6 (Ne.symm hX0)];exact x1
      have u2:(X.set pn (some (Gu (now.set m b.2))))[2]? =some (some [.sl (some 12) (K5 q)]):=by rw [A6 (Ne.symm hX2)];exact x2
      have un:(X.set pn (some (Gu (now.set m b.2))))[pn]? =some (some (Gu (now.set m b.2))):=A3 ln
      refine ⟨FU u0 _,FU u2 _,FU un _, ?_, ?_, ?_,x7,⟨hnl,by dsimp only;omega⟩,by dsimp only;omega⟩
      ·dsimp only
       rw [<- lsn];simp
      ·dsimp only
       rw [<- lsn];simp
      ·dsimp only
       rw [AF,lsn];exact AU _
     ·rfl
     ·rintro j ⟨q2,out2,Z⟩ p ps hd2 hxp hI2 hF2 g0 g1 gw
      dsimp only at hI2 hF2 ⊢
      have hI3:=hI2
      obtain ⟨y0,y2,yn,yx,yt,yl,y7,y8,y9⟩:=hI2
      have hrp:=r1 p (AB hxp)
      have hjl:=(AC.1 hxp).1
      have d1:=ATZ t p
      have eX:Ow (He t p.h0) p=qU t p:=rfl
      rw [eX] at d1
      have d2:=AEt s R.fld FO (by have:=LZ (Hp R.bulk);omega) m t ht p hrp tick R.pred
      have d3:=eG x.chain FO
      have hxk:(Item.c x)[11]? =some (.sl none (GB x.chain)):=rfl
      have eK:H8 (U0 s t.name p tick) s.contracts=RG s t p tick:=rfl
      rw [eK] at d2
      have l0':=(AC.1 y0).1
      have l2':=(AC.1 y2).1
      have gY0:=FU y0
      have gY2:=FU y2
      have gYx:=FU yx
      have gYt:=FU yt
      have gz : ∀ y L,(Z++y::L)[Z.length]? =some y:=λy L=>sm
      have gz1 : ∀ y z L,(Z++y::z::L)[Z.length+1]? =some z:=λy z L=>sm
      have sz : ∀ y z,(Z++[y]).set Z.length z=Z++[z]:=λy z=>sm
      have sz0 : ∀ y a z,(Z++[y,a]).set Z.length z=Z++[z,a]:=λy a z=>sm
      have sz1 : ∀ y z w,(Z++[y,z]).set (Z.length+1) w=Z++[y,w]:=λy z w=>sm
      have hpk:Zp s x t tick (q,out) b.1=Zp s x t tick (pr s x t tick (q2,out2) p) ps:=hF2
      simp only [go_sem,g0,g1,IF hxp,gYt,gz,sz,AY]
      refine pK d1 ?_
      cases he:(qU t p).2 with
      | false =>
       simp only [go_sem,gz1,sz1,gw,AF,AD,AH,AY,Ax]
       have e6:pr s x t tick (q2,out2) p=(q2,out2):=by unfold pr;rw [iP he]
       exact ⟨(q2,out2,_),by rw [Zp,e6],hI3.grow _,rfl,rfl⟩
      | true =>
       simp only [go_sem,gz,gz1,sz1,gY0,gYx,hxi,hm,AF,AD,AH,AY,Av]
       refine pK d2 ?_
       simp only [go_sem]
       refine cS ?_ ?_<;>intro hc3
       ·have hc3:=of_decide_eq_true hc3
        have e6:pr s x t tick (q2,out2) p=(q2,out2++[⟨x.tenant,(qU t p).1,x.chain⟩]):=by unfold pr;rw [iN (by rw [he];decide),iP hc3]
        simp only [go_sem,gz1,gYx,hxi,hxk,hm,AY]
        refine pK d3 ?_
        simp only [go_sem,gw,AD,AH,AY,Nat.reduceAdd]
        exact ⟨FO,FO,(q2,out2++[⟨x.tenant,(qU t p).1,x.chain⟩],_),by rw [Zp,e6],hI3.out _ _,by rw [hm],rfl⟩
       ·have hc3:=of_decide_eq_false hc3
        obtain ⟨ci,d,hK,hd⟩ : ∃ (ci:Nat) (d:FD),RG s t p tick=(ci:Int)/\s.contracts[ci]? =some d:=by
         rcases Lz (U0 s t.name p tick) s.contracts 0 with ⟨w1,w2⟩|⟨i,y,w1,w2,w3⟩
         ·have:RG s t p tick = -1:=w1
          omega
         ·exact ⟨i,y,by unfold RG H8;rw [w1,AY],w2⟩
        have hdm:=AB hd
        obtain ⟨t1,t2⟩:=R.to d hdm
        obtain ⟨t3,t4⟩:=R.port d hdm
        have hcl:=(AC.1 hd).1
        have hcn:s.contracts.length<=1048576:=LZ (Hp R.bulk)
        have k0:(0:Int)<=(ci:Int):=FO
        have k1:(ci:Int)<(s.contracts.length:Int):=FO
        have hkt:(RG s t p tick).toNat=ci:=FO
        have e6:pr s x t tick (q2,out2) p=(q2++[⟨GO s d.dst,{ p with h0:=d.toPort },x.chain++[(ci:Int)]⟩],out2):=by unfold pr;rw [iN (by rw [he];decide),iN hc3,hkt,hd,hK]
        have d4:=d7 s d.dst FO
        have d5:cm (GO s d.dst) = .tup [.int .i64 (GO s d.dst),.bool true]:=by unfold cm Qi;rw [decide_eq_true t1];congr;split<;>omega
        rw [d5] at d4
        simp only [go_sem,hK,k0,GL hd,gY0,AY]
        refine pK d4 ?_
        simp only [go_sem,k0,GL hd,gz,sz0,gY0,gYx,hxk,AD,AH,AY]
        refine pK d3 ?_
        simp only [go_sem,AD,AH,AY,Nat.reduceAdd]
        refine ⟨FO,FO, ?_⟩
        have hrp':FX { p with h0:=d.toPort }=true:=dQ hrp t3 t4
        refine Fr.intro (AAG q2 FO ⟨GO s d.dst,{ p with h0:=d.toPort },x.chain++[(ci:Int)]⟩ (some 1) _ 2 (FU y2 _)) λv H' hq=>?_
        obtain ⟨rfl,ext,rfl⟩:=hq
        simp only [go_sem,gw]
        exact ⟨(q2++[⟨GO s d.dst,{ p with h0:=d.toPort },x.chain++[(ci:Int)]⟩],out2,_),by rw [Zp,e6],hI3.put _ _ _ (by subst hpn;simp) FO ⟨hrp',⟨t1,t2⟩,by rw [AF];exact Ds hxc⟩,rfl,rfl⟩
     ·rintro ⟨q2,out2,Z⟩ hI2 hF2
      dsimp only at hI2 hF2 ⊢
      obtain ⟨y0,y2,yn,yx,yt,yl,y7,y8,y9⟩:=hI2
      have hpk:Zp s x t tick (q,out) b.1=(q2,out2):=hF2
      rw [hpk] at x5
      simp only [go_sem,AW,dF,y2]
      refine cS ?_ ?_<;>intro hc3
      ·have hc3:=of_decide_eq_true hc3
       have hres:UB s sts h tick=none:=by rw [x5];exact iP (by dsimp only;omega)
       rw [hres]
       simp only [go_sem]
       rfl
      ·have hc3:=of_decide_eq_false hc3
       have hres:UB s sts h tick=kb s tick f' (n+1) q2 (now.set m b.2) out2:=by rw [x5];exact iN (by dsimp only;omega)
       have hwn:IntKind.i64.wrap ((n:Int)+1)=((n+1:Nat):Int):=Mk FO
       simp only [go_sem,hwn]
       refine ⟨(f',n+1,q2,now.set m b.2,out2,Z),⟨y0,y2,yn,by dsimp only;omega,hres,⟨by dsimp only;omega,y8.1,by dsimp only;omega⟩,y7,by rw [Ap];exact x8,λk t2 st2 h1 h2=>?_⟩,by dsimp only;omega,rfl,rfl⟩
       dsimp only at h2 ⊢
       rw [Aw] at h2
       split at h2
       ·rename_i hkm
        subst hkm
        rw [ht] at h1
        cases h1
        split at h2
        ·cases h2
         exact ⟨r3,FO⟩
        ·cases h2
       ·have:=x9 k t2 st2 h1 h2
        exact ⟨this.1,Nat.le_trans this.2 (Nat.add_le_add_left (Nat.mul_le_mul_right _ (DS n)) _)⟩
   ·have hc:=of_decide_eq_false hc
    have hq2:q[n]? =none:=Az FO
    have hres:UB s sts h tick=some (out,now):=by
     rw [x5]
     obtain ⟨f',rfl⟩ : ∃ f',f=f'+1:=⟨f - 1,FO⟩
     rw [kb,hq2]
    rw [hres]
    simp only [go_sem,x3]
    have hlen2:now.length=sts.length:=by rw [x8,R.len]
    rw [iP ⟨FO,.inr trivial⟩,AIT,<- hlen2,mK]
    simp only [go_sem]
    rfl
def SW(s:FC):Nat->List Int->Nat->Prop
 | a,[],k=>a=k
 | a,x::r,k => ∃ d,0<=x/\s.contracts[x.toNat]? =some d/\d.src=(HL s (a:Int)).name/\SW s (GO s d.dst).toNat r k
theorem Yk{s:FC}{x:Int}{d:FD}(h0:0<=x)(hd:s.contracts[x.toNat]? =some d): ∀ {c:List Int} {a k:Nat},SW s a c k->d.src=(HL s (k:Int)).name->SW s a (c++[x]) (GO s d.dst).toNat
 | [],a,k,h,hs=>by
  have:a=k:=h
  subst this
  exact ⟨d,h0,hd,hs,rfl⟩
 | y::c,a,k,h,hs=>by
  obtain ⟨e,e0,e1,e2,e3⟩:=h
  exact ⟨e,e0,e1,e2,Yk h0 hd e3 hs⟩
theorem WK{s:FC}(hR:R19 s){d:FD}(hd:d∈s.contracts):(GO s d.dst).toNat<s.tenants.length:=by
 have h0:=(L4 (hR.con d hd)).2
 obtain ⟨v,_,_,_,hv⟩:=K1 h0
 omega
theorem Yl{s:FC}(hR:R19 s): ∀ {c:List Int} {a k:Nat},a<s.tenants.length->SW s a c k->(c=[]/\a=k)\/rnk s k<rnk s a
 | [],a,k,_,h => .inl ⟨rfl,h⟩
 | x::c,a,k,ha,h=>by
  obtain ⟨d,_,e1,e2,e3⟩:=h
  have hdm:=AB e1
  have h1:=hR.rank ha hdm e2
  rcases Yl hR (WK hR hdm) e3 with ⟨_,h2⟩|h2
  ·right;rw [<- h2];exact h1
  ·right;omega
theorem qg{s:FC}(hR:R19 s)(k:Nat): ∀ (c:List Int) (f a:Nat) (ch:List Int),a<s.tenants.length->rnk s a<f->SW s a c k->ch++c∈ZJ s k f a ch
 | c,0,a,ch,_,hf,_=>FO
 | [],f+1,a,ch,_,_,h=>by
  have:a=k:=h
  subst this
  rw [ap,Ai]
  exact Ac.2 rfl
 | x::c,f+1,a,ch,ha,hf,h=>by
  have hne:a≠k:=by
   rcases Yl hR ha h with ⟨h1,_⟩|h1
   ·cases h1
   ·intro he;subst he;omega
  obtain ⟨d,e0,e1,e2,e3⟩:=h
  have hdm:=AB e1
  have hrk:=hR.rank ha hdm e2
  rw [ZJ,iN hne]
  refine List.mem_flatMap.2 ⟨(d,x.toNat),List.mem_zipIdx_iff_getElem?.2 e1, ?_⟩
  dsimp only
  rw [iP e2]
  have hx:((x.toNat:Nat):Int)=x:=FO
  rw [hx]
  have ih:=qg hR k c f (GO s d.dst).toNat (ch++[x]) (WK hR hdm) FO e3
  rwa [AE] at ih
theorem ACQ : ∀ l:List Bool,OI l<=l.length:=by
 intro l
 unfold OI
 first|exact List.countP_le_length|exact Cv _ _
theorem AHz{s:FC}(k:Nat):rnk s k<s.tenants.length+1:=by
 unfold rnk
 have:=ACQ (kX s k)
 rw [RJ] at this
 omega
theorem iS{s:FC}(hR:R19 s){a k:Nat}(ha:a<s.tenants.length){c:List Int}(h:SW s a c k):c∈ZJ s k (s.tenants.length+1) a []:=by
 have:=qg hR k c (s.tenants.length+1) a [] ha (AHz a) h
 rwa [AN] at this
def itP(s:FC)(a:Nat)(q:List E9):Prop:=∀ x∈q,0<=x.tenant/\x.tenant<(s.tenants.length:Int)/\SW s a x.chain x.tenant.toNat
def dlP(s:FC)(a:Nat)(out:List FA):Prop:=∀ d∈out,∃ (k:Nat) (t:FB) (p:E6),d.tenant=(k:Int)/\s.tenants[k]? =some t/\(qU t p).2=true/\d.head=(qU t p).1/\SW s a d.chain k
theorem zL{s:FC}{t:FB}{p:E6}{tick:Int}(h : ¬ RG s t p tick<0): ∃ d,s.contracts[(RG s t p tick).toNat]? =some d/\U0 s t.name p tick d=true:=by
 rcases Lz (U0 s t.name p tick) s.contracts 0 with ⟨w1,_⟩|⟨i,y,w1,w2,w3⟩
 ·exact absurd (show RG s t p tick<0 by unfold RG H8;rw [w1];decide) h
 ·refine ⟨y, ?_,Dr w3⟩
  have:RG s t p tick=((i:Nat):Int):=by unfold RG H8;rw [w1,AY]
  rw [this];exact w2
theorem zM{s:FC}{nm:ByteArray}{p:E6}{tick:Int}{d:FD}(h:U0 s nm p tick d=true):d.src=nm:=by
 unfold U0 at h
 simp only [AQ,decide_eq_true_eq] at h
 first|exact h.1.1|exact h.1
theorem AEg{s:FC}(hR:R19 s){a m:Nat}{x:E9}{t:FB}(ht:s.tenants[m]? =some t)(hx:x.tenant=(m:Int))(hp:SW s a x.chain m){tick:Int}{b:List E9×List FA}(h1:itP s a b.1)(h2:dlP s a b.2)(p:E6):itP s a (pr s x t tick b p).1/\dlP s a (pr s x t tick b p).2:=by
 have hta:HL s (m:Int)=t:=by unfold HL;rw [Aa,ht];rfl
 unfold pr
 split
 ·exact ⟨h1,h2⟩
 ·rename_i he
  have he:(qU t p).2=true:=by simpa using he
  split
  ·refine ⟨h1,λd hd=>?_⟩
   rcases As.1 hd with hd|hd
   ·exact h2 d hd
   ·rcases Ac.1 hd with rfl
    exact ⟨m,t,p,hx,ht,he,rfl,hp⟩
  ·rename_i hc
   obtain ⟨d,hd,hb⟩:=zL hc
   have hdm:=AB hd
   rw [hd]
   refine ⟨λy hy=>?_,h2⟩
   rcases As.1 hy with hy|hy
   ·exact h1 y hy
   ·rcases Ac.1 hy with rfl
    have h0:=(L4 (hR.con d hdm)).2
    have hl:=WK hR hdm
    exact ⟨h0,by dsimp only;omega,Yk FO hd hp (by rw [hta];exact zM hb)⟩
theorem pq{s:FC}(hR:R19 s){a m:Nat}{x:E9}{t:FB}(ht:s.tenants[m]? =some t)(hx:x.tenant=(m:Int))(hp:SW s a x.chain m){tick:Int}: ∀ (r:List E6) {b:List E9×List FA},itP s a b.1->dlP s a b.2->itP s a (Zp s x t tick b r).1/\dlP s a (Zp s x t tick b r).2
 | [],_,h1,h2=>⟨h1,h2⟩
 | p::r,b,h1,h2=>by
  rw [Zp]
  obtain ⟨g1,g2⟩:=AEg hR ht hx hp (tick:=tick) h1 h2 p
  exact pq hR ht hx hp r g1 g2
theorem qq{s:FC}(hR:R19 s){a:Nat}{tick:Int}: ∀ (f n:Nat) {q:List E9} {now:List (List E4)} {out:List FA} {r:List FA×List (List E4)},itP s a q->dlP s a out->kb s tick f n q now out=some r ->
  dlP s a r.1/\r.2.length=now.length /\ ∀ k,(∀ c,¬ SW s a c k)->r.2[k]? =now[k]?
 | 0,n,q,now,out,r,_,_,e=>by rw [kb] at e;cases e
 | f+1,n,q,now,out,r,h1,h2,e=>by
  rw [kb] at e
  cases hx:q[n]? with
  | none =>
   rw [hx] at e
   cases e
   exact ⟨h2,rfl,λ_ _=>rfl⟩
  | some x =>
   rw [hx] at e
   dsimp only at e
   obtain ⟨x0,x1,x2⟩:=h1 x (AB hx)
   cases ht:s.tenants[x.tenant.toNat]? with
   | none=>rw [ht] at e;cases e
   | some t =>
    rw [ht] at e
    cases hs:now[x.tenant.toNat]? with
    | none=>rw [hs] at e;cases e
    | some st =>
     rw [hs] at e
     dsimp only at e
     cases er:VA s.fields (Gf t).1 st x.head tick with
     | none=>rw [er] at e;cases e
     | some b =>
      rw [er] at e
      dsimp only at e
      obtain ⟨g1,g2⟩:=pq hR ht (x:=x) FO x2 (tick:=tick) b.1 (b:=(q,out)) h1 h2
      split at e
      ·cases e
      ·obtain ⟨i1,i2,i3⟩:=qq hR f (n+1) g1 g2 e
       refine ⟨i1,by rw [i2,Ap],λk hk=>?_⟩
       rw [i3 k hk,A6]
       intro he
       subst he
       exact hk _ x2
end Go.AI
