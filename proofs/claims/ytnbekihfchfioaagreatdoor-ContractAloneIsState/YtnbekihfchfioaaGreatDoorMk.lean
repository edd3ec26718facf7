/- Rows of a known capacity;rows of any width that become lists. -/
import Derived.Test.YtnbekihfchfioaaGreatDoorMx
set_option linter.unusedSimpArgs false
set_option linter.unusedVariables false
set_option maxHeartbeats 4000000
open Go.Proofs.Tryz
open Go.AI renaming Entry->E3,Hint->E4,Head->E5,Doing->E6,Stage->E7,Item->E8,Delivery->E9,Tenant->FA,Setup->FB
open Bool renaming not_false->Av,not_true->Ar
open Eq renaming trans->AH
open Int renaming lt_irrefl->AY,toNat_natCast->Ae
open List renaming append_assoc->AF,append_nil->Ah,cons_append->AS,drop_drop->A9,drop_left'->EO,drop_of_length_le->Dn,drop_zero->BN,ext_getElem?->A4,filter_append->Cb,filter_eq_self->DN,find?_cons->B0,getElem?_append_right->AM,getElem?_concat_length->Bj,getElem?_cons_zero->A8,getElem?_eq_getElem->AL,getElem?_eq_none->Ax,getElem?_eq_some_iff->AD,getElem?_set->A0,getElem?_set_ne->A6,getElem?_set_self->Az,getElem_mem->CY,length_append->AE,length_cons->AC,length_drop->Cf,length_map->Aq,length_nil->AG,length_set->An,length_singleton->Bs,length_take->BI,map_append->As,map_congr_left->B3,map_cons->AT,map_flatten->DL,map_id->DM,mem_append->Ay,mem_cons->AZ,mem_cons_of_mem->B9,mem_cons_self->Cc,mem_filter->CV,mem_map->AO,mem_of_getElem?->AB,mem_singleton->Al,nil_append->AN,set_append_left->BP,set_append_right->BZ,set_eq_take_append_cons_drop->C7,set_set->BB,take_add_one->BF,take_length->BO,take_of_length_le->Br,take_succ_cons->CO,zip_cons_cons->B5
open Nat renaming le_refl->AU,le_succ->EP,min_def->DP,sub_self->AQ,sub_zero->BS,succ_le_succ->Do,two_pow_pos->Ba,zero_add->AX,zero_le->BY,zero_mul->Bt
open Option renaming getD_none->BE
open Go.Proofs.Tryz renaming prog->AA
namespace Go.AI
section
variable {P:Program}
theorem FT.cap{f:FuncId}{o off len sz:Nat}{vs:List AV}{H:FN}{R:AV->FN->Prop}(hcal:HP P f=true)(h : ∀ c,len<=c->c<=9223372036854775807->FT P f (.mslc o off len sz c::vs) H R):FT P f (.msl o off len sz::vs) H R :=
 ⟨hcal,λF G w us hc=>by
  match us,hc with
  | [],hc=>have:=hc.l.len;simp at this
  | u::us,hc =>
   obtain ⟨hv,ht,hr⟩:=hc.l.uncons
   cases hv with
   | msl _ _ _ _ b cap hb hl hm hcc =>
    refine (h cap hl (by unfold maxLen at hm;omega)).2 F G w _ ⟨.cons (.mslc o off len sz cap b hb hl hm hcc) (Fd (FR rfl rfl _) _ _ _) hr,hc.h,λx=>?_⟩
    have:=hc.cnt x
    rw [FW,FR rfl rfl] at this ⊢
    exact this⟩
theorem ji{f:FuncId}{vs:List AV}{H:FN}{R:AV->FN->Prop}(h:FT P f vs H λv H'=>R v H' \/ ∃ o off len sz c,v = .mslc o off len sz c/\R (.msl o off len sz) H'):FT P f vs H R :=
 ⟨h.1,λF G w us hc=>Calls.mono (h.2 F G w us hc) λe w' he=>by
  obtain ⟨u,rfl,v',H2,G',hr,hcr,hext⟩:=he
  rcases hr with hr|⟨o,off,len,sz,c,rfl,hr⟩
  ·exact ⟨u,rfl,v',H2,G',hr,hcr,hext⟩
  ·have hv:=hcr.l.rel 0 _ _ rfl rfl
   cases hv with
   | mslc _ _ _ _ _ b hb hl hm hcc=>exact ⟨_,rfl,_,H2,G',hr,hcr.swap1 (.msl o off len sz b c hb hl hm hcc) rfl,hext⟩⟩
def AGi(n:Nat)(es:List (List AV))(v:AV)(H H':FN):Prop :=
 (es=[]/\(∃ w,v = .sl w []) /\ ∃ ext,H'=H++ext) \/ ∃ ob cs,v = .msl ob 0 es.length n/\H.length<=ob/\(∃ ext,H'=H++ext)/\H'[ob]? =some (some cs)/\(∃ r,cs=es.flatten++r)
theorem oQ {f:FuncId} {vs:List AV} {H:FN} {es:List (List AV)} {n:Nat} (hn : ∀ e∈es,e.length=n) (hs : ∀ e∈es,Fj H.length e=true) (hb : ∀ e∈es,e.map borrow1=e)
  (h:FT P f vs H λv' H'=>AGi n es v' H H'):FT P f vs H λv' H'=>v' = .sl none (es.map .agg)/\H'=H :=
 ⟨h.1,λF G w us hc=>Calls.mono (h.2 F G w us hc) λe w' he=>by
  obtain ⟨u,rfl,v',H2,G',hr,hcr,hext⟩:=he
  rcases hr with ⟨rfl,⟨w0,rfl⟩,ext,rfl⟩|⟨ob,cs,rfl,hob,⟨ext,rfl⟩,ho,r,rfl⟩
  ·have hv:VRel G' w' (.sl none []) u:=by
    have:=hcr.l.rel 0 _ _ rfl rfl
    cases this with
    | slnil=>exact .slnil _
    | slany=>exact .slany _ _
    | sl own es sz b q cap u' hsz hown hl hm h1 h2=>exact .sl none [] sz b q cap u' hsz (λn hn=>by cases hn) hl hm h1 h2
   obtain ⟨G2,k1,k2⟩:=hc.cutExt (hcr.swap1 hv rfl) hext rfl
   exact ⟨u,rfl,_,H,G2,⟨rfl,rfl⟩,k1,k2⟩
  ·have hv:=hcr.l.rel 0 _ _ rfl rfl
   have hlen:=OJ es n hn
   obtain ⟨G2,ext2,k1,k2,k3⟩:=hcr.frzRow true ho hob hv (by rw [AE,hlen];omega) (.inl rfl)
   have e1:(es.flatten++r).map borrow1=es.flatten++r.map borrow1:=by
    rw [As,DL]
    congr 2
    exact B3 (f:=List.map borrow1) (g:=id) (λe he=>hb e he) |>.trans (DM _)
   rw [e1,Ke es _ n hn] at k3
   obtain ⟨G3,k4,k5⟩:=hc.cutExt (k1.swap1 k3 rfl) (hext.trans k2) (NH hs)
   exact ⟨u,rfl,_,H,G3,⟨rfl,rfl⟩,k4,k5⟩⟩
def AT0(n:Nat)(es:List (List AV))(v:AV)(H H':FN):Prop:=AGi n es v H H'\/((∃ w,v = .sl w (es.map .agg)) /\ ∃ ext,H'=H++ext)
theorem oP {f:FuncId} {vs:List AV} {H:FN} {es:List (List AV)} {n:Nat} (hn : ∀ e∈es,e.length=n) (hs : ∀ e∈es,Fj H.length e=true) (hb : ∀ e∈es,e.map borrow1=e)
  (h:FT P f vs H λv' H'=>AT0 n es v' H H'):FT P f vs H λv' H'=>v' = .sl none (es.map .agg)/\H'=H :=
 ⟨h.1,λF G w us hc=>Calls.mono (h.2 F G w us hc) λe w' he=>by
  obtain ⟨u,rfl,v',H2,G',hr,hcr,hext⟩:=he
  rcases hr with (⟨rfl,⟨w0,rfl⟩,ext,rfl⟩|⟨ob,cs,rfl,hob,⟨ext,rfl⟩,ho,r,rfl⟩)|⟨⟨w0,rfl⟩,ext,rfl⟩
  ·have hv:VRel G' w' (.sl none []) u:=by
    have:=hcr.l.rel 0 _ _ rfl rfl
    cases this with
    | slnil=>exact .slnil _
    | slany=>exact .slany _ _
    | sl own es sz b q cap u' hsz hown hl hm h1 h2=>exact .sl none [] sz b q cap u' hsz (λn hn=>by cases hn) hl hm h1 h2
   obtain ⟨G2,k1,k2⟩:=hc.cutExt (hcr.swap1 hv rfl) hext rfl
   exact ⟨u,rfl,_,H,G2,⟨rfl,rfl⟩,k1,k2⟩
  ·have hv:=hcr.l.rel 0 _ _ rfl rfl
   have hlen:=OJ es n hn
   obtain ⟨G2,ext2,k1,k2,k3⟩:=hcr.frzRow true ho hob hv (by rw [AE,hlen];omega) (.inl rfl)
   have e1:(es.flatten++r).map borrow1=es.flatten++r.map borrow1:=by
    rw [As,DL]
    congr 2
    exact B3 (f:=List.map borrow1) (g:=id) (λe he=>hb e he) |>.trans (DM _)
   rw [e1,Ke es _ n hn] at k3
   obtain ⟨G3,k4,k5⟩:=hc.cutExt (k1.swap1 k3 rfl) (hext.trans k2) (NH hs)
   exact ⟨u,rfl,_,H,G3,⟨rfl,rfl⟩,k4,k5⟩
  ·have hv:=(hcr.l.rel 0 _ _ rfl rfl).borrow1
   obtain ⟨G2,k1,k2⟩:=hc.cutExt (hcr.swap1 hv rfl) hext (NH hs)
   exact ⟨u,rfl,_,H,G2,⟨rfl,rfl⟩,k1,k2⟩⟩
end
end Go.AI
namespace Go.AI
open Go.Proofs
set_option maxRecDepth 50000
def Z8(a b:ByteArray):Int:=if TD a b=true then -1 else if a=b then 0 else 1
def N7:List Int->List Int->Int
 | [],[]=>0
 | [],_::_ => -1
 | _::_,[]=>1
 | x::a,y::b=>if Pi x y≠0 then Pi x y else N7 a b
def Sh(a b:E3):Int:=if Z8 a.var b.var≠0 then Z8 a.var b.var else N7 a.key b.key
theorem AGt(a b:ByteArray):FO AA 83 [.str a,.str b] (.int .i64 (Z8 a b)):=by
 refine pC AVK rfl ?_
 simp only [f83,go_sem]
 repeat' (first|((first|refine pK (kc a) ?_|refine pK (kc b) ?_);simp only [go_sem,FL])|(first|apply cS|apply gS)<;>intro hc<;>simp only [go_sem,hc,FL])
 all_goals first|(simp only [Z8,TD];simp_all;done)|skip
theorem AGs(a b:List Int)(ha:a.length<=1073741824):FO AA 84 [.sl none (GH a),.sl none (GH b)] (.int .i64 (N7 a b)):=by
 have ea:(GH a).length=a.length:=HO a
 have eb:(GH b).length=b.length:=HO b
 refine pC AFp rfl ?_
 simp only [f84,go_sem,ea,eb]
 refine FZ a (λr=>N7 r (b.drop (a.length - r.length))) (λk=>[(0,.sl none (GH a)),(1,.sl none (GH b)),(9,.sl none (GH a)),(10,.int .i64 a.length),(11,.int .i64 k)]) FM rfl ?_ ?_
 ·intro k x xs hd hx hF h0 h1 hw
  have hk:=Fl hd
  have e1:a.length - (xs.length+1)=k:=FM
  have e2:a.length - xs.length=k+1:=FM
  simp only [AC,e1,e2,AQ,BN] at hF ⊢
  by_cases hkb:k<b.length
  ·obtain ⟨y,hy⟩ : ∃ y,b[k]? =some y:=⟨_,AL hkb⟩
   have hnb : ¬ (b.length:Int)<=(k:Int):=FM
   rw [US hy,N7] at hF
   simp only [go_sem,h0,h1,GF hx,GF hy,eb,hnb,dF]
   repeat' (first|(refine pK (yy x y) ?_;simp only [go_sem,hw])|(first|apply cS|apply gS)<;>intro hc<;>simp only [go_sem,hc,hw])
   ·have hne:Pi x y≠0:=by simpa using hc
    rw [iP hne] at hF
    rw [hF]
   ·have hne : ¬ Pi x y≠0:=by simpa using hc
    rw [e1,e2,US hy,N7,iN hne]
  ·have hnb:(b.length:Int)<=(k:Int):=FM
   rw [List.drop_eq_nil_of_le FM,N7] at hF
   simp only [go_sem,h0,h1,GF hx,eb,hnb,dT]
   rw [hF]
 ·intro hF hlt
  rw [AQ,BN] at hF
  simp only [go_sem,hlt,dF,ea,eb]
  cases hr:b.drop a.length with
  | nil =>
   have hlen:b.length<=a.length:=by simpa using hr
   have hnl : ¬ (a.length:Int)<(b.length:Int):=FM
   rw [AG,BS,hr,N7] at hF
   simp only [go_sem,hnl,dF]
   rw [hF]
  | cons y ys =>
   have hlen:a.length<b.length:=by have:=Fl hr;omega
   have hnl:(a.length:Int)<(b.length:Int):=FM
   rw [AG,BS,hr,N7] at hF
   simp only [go_sem,hnl,dT]
   rw [hF]
theorem Abf(l:List Int)(hl:l.length<=1073741824):FO AA 82 [.sl none (GH l)] (.int .i64 ((l.find? λz=>z !=0).getD 0)):=by
 have el:(GH l).length=l.length:=HO l
 refine pC AVN rfl ?_
 simp only [f82,go_sem,el]
 refine FZ l (λr=>(r.find? λz=>z !=0).getD 0) (λk=>[(3,.int .i64 0),(6,.sl none (GH l)),(7,.int .i64 l.length),(8,.int .i64 k)]) FM rfl ?_ ?_
 ·intro k z zs hd hx hF h0 h1 hw
  simp only [go_sem,h0,h1,GF hx]
  repeat' (first|(first|apply cS|apply gS)<;>intro hc<;>simp only [go_sem,hc,hw])
  ·rw [hF,B0,hc];rfl
  ·rw [B0,hc]
 ·intro hF hlt
  simp only [go_sem,hlt,dF]
  rw [hF];rfl
theorem AUR(x y:Int):FO AA 82 [.sl none [.int .i64 x,.int .i64 y]] (.int .i64 (if x≠0 then x else y)):=by
 have h:=Abf [x,y] sm
 have e:(([x,y].find? λz=>z !=0).getD 0)=if x≠0 then x else y:=by
  rw [B0,B0]
  by_cases hx:x=0
  ·subst hx
   by_cases hy:y=0
   ·subst hy;rfl
   ·have:(y !=0)=true:=by simp [hy]
    rw [this];rfl
  ·have:(x !=0)=true:=by simp [hx]
   rw [this,iP hx];rfl
 rw [e] at h
 exact h
theorem ki(a b:E3)(ha:a.key.length<=1073741824):FO AA 42 [.agg a.c,.agg b.c] (.int .i64 (Sh a b)):=by
 refine pC AWo rfl ?_
 simp only [f42,go_sem]
 repeat' (first|((first|refine pK (AGt a.var b.var) ?_|refine pK (AGs a.key b.key ha) ?_|refine pK (FO.weak (AUR _ _)) ?_);simp only [go_sem])|(first|apply cS|apply gS)<;>intro hc<;>simp only [go_sem,hc])
 all_goals first|rfl|skip
def gX(l:List E3)(x:E3):Nat->Nat->Nat->Nat
 | 0,i,_=>i
 | f+1,i,j=>if i<j then (match l[(i+j) / 2]? with
   | some y=>if Sh y x<0 then gX l x f ((i+j) / 2+1) j else gX l x f i ((i+j) / 2)
   | none=>i) else i
def XO(l:List E3)(x:E3):Nat:=gX l x (l.length+1) 0 l.length
def bsT(l:List E3)(x:E3):Bool:=match l[XO l x]? with
 | some y=>Sh y x==0
 | none=>false
theorem aI(l:List E3)(x:E3): ∀ (f i j:Nat),i<=j->j<=l.length->gX l x f i j<=l.length
 | 0,i,j,h1,h2=>by rw [gX];omega
 | f+1,i,j,h1,h2=>by
  rw [gX]
  split
  ·rename_i hlt
   have hm:(i+j) / 2<l.length:=FM
   rw [AL hm]
   dsimp only
   split
   ·exact aI l x f _ _ FM h2
   ·exact aI l x f _ _ FM FM
  ·omega
theorem ABf(l:List E3)(x:E3):XO l x<=l.length:=aI l x _ _ _ (BY _) (AU _)
theorem AUP(l:List E3)(hl:l.length<=4611686018427387903)(hk : ∀ y∈l,y.key.length<=1073741824)(x:E3):FO AA 212 [.sl none (FX l),.agg x.c,.fn (.func 42) [] []] (.tup [.int .i64 (XO l x),.bool (bsT l x)]):=by
 refine pB ALK rfl ?_
 simp only [f212,go_sem]
 refine Kj (σ:=Nat×Nat) (λs=>[(0,.sl none (FX l)),(2,.fn (.func 42) [] []),(4,.ptr 0 0),(8,.int .i64 l.length),(9,.int .i64 s.1),(10,.int .i64 s.2)]) (λ_=>[some x.c]) (λs=>s.1<=s.2/\s.2<=l.length /\ ∃ f,s.2 - s.1<f/\XO l x=gX l x f s.1 s.2) (λs=>s.2 - s.1) (0,l.length) ⟨BY _,AU _,l.length+1,by dsimp only;omega,rfl⟩ rfl rfl ?_
 rintro ⟨i,j⟩ ⟨hij,hj,f,hf,hF⟩
 dsimp only at hij hj hf hF ⊢
 obtain ⟨f,rfl⟩ : ∃ f',f=f'+1:=⟨f - 1,FM⟩
 rw [gX] at hF
 by_cases hlt:i<j
 ·have g1:(i:Int)<(j:Int):=FM
  have g2:(0:Int)<=(((i+j) / 2:Nat):Int):=FM
  have g3:(((i+j) / 2:Nat):Int).toNat=(i+j) / 2:=FM
  have hm:(i+j) / 2<l.length:=FM
  have hw:=Mc (k:=(i+j) / 2) FM
  have hgm:=AL hm
  have a1:=F6 hgm
  have c1:=ki l[(i+j) / 2] x (hk _ (CY hm))
  rw [iP hlt,hgm] at hF
  dsimp only at hF
  simp only [go_sem,g1,dT,Ya hl hj hlt,g2,g3,a1]
  repeat' (first|(refine pK (c1) ?_;simp only [go_sem,g1,Ya hl hj hlt,g2,g3,a1,hw])|(first|apply cS|apply gS)<;>intro hc<;>simp only [go_sem,hc,g1,Ya hl hj hlt,g2,g3,a1,hw])
  ·have hc:=of_decide_eq_true hc
   rw [iP hc] at hF
   exact ⟨((i+j) / 2+1,j),⟨by dsimp only;omega,hj,f,by dsimp only;omega,hF⟩,by dsimp only;omega,rfl,rfl⟩
  ·have hc:=of_decide_eq_false hc
   rw [iN hc] at hF
   exact ⟨(i,(i+j) / 2),⟨by dsimp only;omega,by dsimp only;omega,f,by dsimp only;omega,hF⟩,by dsimp only;omega,rfl,rfl⟩
 ·have hij:i=j:=FM
  subst hij
  rw [iN hlt] at hF
  have g1 : ¬ (i:Int)<(i:Int):=FM
  unfold bsT
  rw [hF]
  by_cases hil:i<l.length
  ·have g3:(i:Int)<(l.length:Int):=FM
   have g4:(0:Int)<=(i:Int):=FM
   have hgi:=AL hil
   have a1:=F6 hgi
   have c1:=ki l[i] x (hk _ (CY hil))
   rw [hgi]
   simp only [go_sem,g1,dF,g3,g4,dT,a1]
   repeat' (first|(refine pK (c1) ?_;simp only [go_sem,g1,g3,g4,a1,dT,Ae])|(first|apply cS|apply gS)<;>intro hc<;>simp only [go_sem,hc,g1,g3,g4,a1,dT,Ae])
   all_goals first|rfl|skip
  ·have g3 : ¬ (i:Int)<(l.length:Int):=FM
   rw [Ax FM]
   simp only [go_sem,g1,dF,g3]
   repeat' (first|(first|apply cS|apply gS)<;>intro hc<;>simp only [go_sem,hc,g1,g3])
   all_goals first|rfl|skip
theorem oz(l:List E3)(hl:l.length<=4611686018427387903)(hk : ∀ y∈l,y.key.length<=1073741824)(x:E3):FO AA 148 [.sl none (FX l),.agg x.c,.fn (.func 42) [] []] (.tup [.int .i64 (XO l x),.bool (bsT l x)]):=by
 refine pC AOD rfl ?_
 simp only [f148,go_sem]
 repeat' (first|(refine pK (AUP l hl hk x) ?_;simp only [go_sem])|(first|apply cS|apply gS)<;>intro hc<;>simp only [go_sem,hc])
 all_goals first|rfl|skip
def P1(l:List E3)(v:ByteArray)(key:List Int):Option E3:=if bsT l ⟨v,key,0,0⟩=true then l[XO l ⟨v,key,0,0⟩]? else none
theorem ADc(l:List E3)(hl:l.length<=4611686018427387903)(hk : ∀ y∈l,y.key.length<=1073741824)(v:ByteArray)(key:List Int):FO AA 80 [.sl none (FX l),.str v,.sl none (GH key)] (.tup [.agg ((P1 l v key).getD Entry.z).c,.bool (P1 l v key).isSome]):=by
 have c1:=oz l hl hk ⟨v,key,0,0⟩
 refine pB AVT rfl ?_
 unfold P1
 cases hb:bsT l ⟨v,key,0,0⟩ with
 | false =>
  rw [hb] at c1
  simp only [f80,go_sem]
  refine pK c1 ?_
  simp only [go_sem]
  first|rfl|skip
 | true =>
  rw [hb] at c1
  obtain ⟨y,hy⟩ : ∃ y,l[XO l ⟨v,key,0,0⟩]? =some y:=by
   unfold bsT at hb
   split at hb
   ·exact ⟨_,by assumption⟩
   ·cases hb
  have hy2:=F6 hy
  have h0:(0:Int)<=((XO l ⟨v,key,0,0⟩:Nat):Int):=FM
  rw [iP rfl,hy]
  simp only [f80,go_sem]
  refine pK c1 ?_
  simp only [go_sem,h0,Ae,hy2]
  first|rfl|skip
def Fh(l:List E3):List AV:=(l.map Entry.c).flatten
theorem Hu(x:E3)(l:List E3):Fh (x::l)=x.c++Fh l:=rfl
theorem Hx : ∀ l:List E3,(Fh l).length=l.length*4
 | []=>rfl
 | x::l=>by
  rw [Hu,AE,Hx l,AC]
  have:x.c.length=4:=rfl
  omega
theorem Sk : ∀ (l:List E3) (r:List AV) (k:Nat) (y:E3),l[k]? =some y->((Fh l++r).drop (k*4)).take 4=y.c
 | [],_,_,_,h=>by simp at h
 | x::l,r,0,y,h=>by
  simp only [A8,Option.some.injEq] at h
  subst h
  rfl
 | x::l,r,k+1,y,h=>by
  rw [Hu,AF]
  have e:(k+1)*4=x.c.length+k*4:=by
   have:x.c.length=4:=rfl
   omega
  rw [e,<- A9,List.drop_left]
  exact Sk l r k y (by simpa using h)
theorem Yr{l:List E3}(r:List AV){k:Nat}{y:E3}(h:l[k]? =some y):k*4+4<=(Fh l++r).length:=by
 have:=(AD.1 h).1
 rw [AE,Hx]
 omega
def ej(d:E3->Bool):Nat->List E3->Int
 | _,[] => -1
 | k,x::r=>if d x=true then (k:Int) else ej d (k+1) r
theorem zD(l:List E3)(hl:l.length<=9223372036854775807)(r:List AV)(H:FN)(o:Nat)(ho:H[o]? =some (some (Fh l++r)))(f:Nat)(first cap:List AV)(d:E3->Bool)(hd : ∀ x∈l,GI AA f (first.map AV.borrow++(.agg (Entry.c x)::cap.map AV.borrow)) H (.bool (d x))):
  GI AA 146 [.msl o 0 l.length 4,.fn (.func f) first cap] H (.int .i64 (ej d 0 l)):=by
 refine aC mC rfl ?_
 simp only [f146,go_sem]
 refine FZ l (λr=>ej d (l.length - r.length) r) (λk=>[(0,.msl o 0 l.length 4),(1,.fn (.func f) first cap),(7,.int .i64 l.length),(8,.int .i64 k)]) hl rfl ?_ ?_
 ·intro k y ys hdr hx hF h0 h1 hw
  have c1:=hd y (AB hx)
  have g1:=Yr r hx
  have g2:=Sk l r k y hx
  have hk2:=Fl hdr
  have e1:l.length - (ys.length+1)=k:=FM
  have e2:l.length - ys.length=k+1:=FM
  simp only [AC,e1,AQ] at hF
  simp only [go_sem,h0,h1,ho,g1,g2,e1,e2]
  repeat' (first|(refine aS (c1) ?_;simp only [go_sem,h0,h1,hw,ho,g1,g2,e1,e2])|(first|apply cS|apply gS)<;>intro hc<;>simp only [go_sem,hc,h0,h1,hw,ho,g1,g2,e1,e2])
  ·rw [hF,ej,iP hc]
  ·rw [ej,iN (by rw [hc];decide)]
 ·intro hF hlt
  simp only [go_sem,hlt,dF]
  rw [AQ] at hF
  rw [hF];rfl
theorem Jp : ∀ (l:List E3) (r:List AV) (i:Nat),i<=l.length->(Fh l++r).take (i*4)=Fh (l.take i)
 | _,r,0,_=>by simp [Fh]
 | [],r,i+1,h=>by simp at h
 | x::l,r,i+1,h=>by
  have e:(i+1)*4=x.c.length+i*4:=by
   have:x.c.length=4:=rfl
   omega
  rw [Hu,AF,e,List.take_length_add_append,Jp l r i (by simpa using h),CO,Hu]
theorem MC : ∀ (l:List E3) (r:List AV) (i:Nat),i<=l.length->(Fh l++r).drop (i*4)=Fh (l.drop i)++r
 | _,r,0,_=>sm
 | [],r,i+1,h=>by simp at h
 | x::l,r,i+1,h=>by
  have e:(i+1)*4=x.c.length+i*4:=by
   have:x.c.length=4:=rfl
   omega
  rw [Hu,AF,e,List.drop_length_add_append,MC l r i (by simpa using h),List.drop_succ_cons]
theorem Nc(a b:List E3):Fh (a++b)=Fh a++Fh b:=by unfold Fh;simp
theorem Pt{l:List E3}(r:List AV){i:Nat}(h:i<l.length)(x:E3):splice (Fh l++r) (i*4) x.c=Fh (l.set i x)++r:=by
 have e:i*4+x.c.length=(i+1)*4:=by
  have:x.c.length=4:=rfl
  omega
 unfold splice
 rw [e,Jp l r i FM,MC l r (i+1) FM,C7,iP h,Nc,Hu]
 simp only [AF]
theorem YY(d:E3->Bool): ∀ (l:List E3) (k:Nat),(ej d k l = -1 /\ ∀ x∈l,d x=false) \/ ∃ (i:Nat) (x:E3),ej d k l=((k+i:Nat):Int)/\l[i]? =some x/\d x=true /\ ∀ y∈l.take i,d y=false
 | [],k => .inl ⟨rfl,sm⟩
 | x::r,k=>by
  rw [ej]
  by_cases h:d x=true
  ·rw [iP h]
   exact .inr ⟨0,x,rfl,rfl,h,sm⟩
  ·rw [iN h]
   have h:d x=false:=by simpa using h
   rcases YY d r (k+1) with ⟨e,h2⟩|⟨i,y,e,h2,h3,h4⟩
   ·exact .inl ⟨e,by simpa [h] using h2⟩
   ·refine .inr ⟨i+1,y,by rw [e];congr 1;omega,h2,h3, ?_⟩
    rw [CO]
    intro z hz
    rcases AZ.1 hz with rfl|hz
    ·exact h
    ·exact h4 z hz
theorem dD(H:FN)(f:Nat)(first cap:List AV):GI AA 146 [.sl none [],.fn (.func f) first cap] H (.int .i64 (-1)):=by
 refine aC mC rfl ?_
 simp only [f146,go_sem]
 refine FZ ([]:List E3) (λ_=>()) (λk=>[(0,.sl none []),(1,.fn (.func f) first cap),(7,.int .i64 ((0:Nat):Int)),(8,.int .i64 k)]) sm rfl ?_ ?_
 ·intro k y ys hd
  rw [List.drop_nil] at hd;cases hd
 ·intro _ hlt
  have z2:decide (((0:Nat):Int)<((0:Nat):Int))=false:=dc
  simp only [go_sem,z2]
theorem W0(w:Option Nat)(H:FN)(f:Nat)(first cap:List AV):FT AA 267 [.sl w [],.fn (.func f) first cap] H λv H'=>H'=H /\ ∃ w2,v = .sl w2 []:=by
 have c1:=dD H f first cap
 have z1:((-1:Int) == -1)=true:=rfl
 refine aC AAT rfl ?_
 cases w with
 | none =>
  simp only [f267,go_sem]
  repeat' (first|(refine aS (c1) ?_;simp only [go_sem,z1])|(first|apply cS|apply gS)<;>intro hc<;>simp only [go_sem,hc,z1])
  all_goals first|exact ⟨_,rfl⟩|exact ⟨rfl,_,rfl⟩|skip
 | some w =>
  simp only [f267,go_sem]
  repeat' (first|(refine aS (c1) ?_;simp only [go_sem,z1])|(first|apply cS|apply gS)<;>intro hc<;>simp only [go_sem,hc,z1])
  all_goals first|exact ⟨_,rfl⟩|exact ⟨rfl,_,rfl⟩|skip
theorem qv (l:List E3) (hl:l.length<=1073741823) (r:List AV) (H:FN) (o:Nat) (ho:H[o]? =some (some (Fh l++r))) (f:Nat) (first cap:List AV) (d:E3->Bool)
  (hd : ∀ x∈l,∀ c J,GI AA f (first.map AV.borrow++(.agg (Entry.c x)::cap.map AV.borrow)) (H.set o (some c)++J) (.bool (d x))) :
  FT AA 267 [.msl o 0 l.length 4,.fn (.func f) first cap] H λv H' => ∃ r' J,v = .msl o 0 (l.filter λx => !d x).length 4/\H'=H.set o (some (Fh (l.filter λx => !d x)++r'))++J:=by
 have hset:H.set o (some (Fh l++r))=H:=by
  obtain ⟨hlt,he⟩:=AD.1 ho
  apply A4
  intro i
  rw [A0]
  split
  ·rename_i hi;subst hi;rw [ho]
  ·rfl
 have hd0 : ∀ x∈l,GI AA f (first.map AV.borrow++(.agg (Entry.c x)::cap.map AV.borrow)) H (.bool (d x)):=λx hx=>by
  have:=hd x hx (Fh l++r) []
  rw [hset,Ah] at this
  exact this
 have c1:=zD l FM r H o ho f first cap d hd0
 refine aC AAT rfl ?_
 rcases YY d l 0 with ⟨e,hall⟩|⟨i,x,e,hx,hdx,hpre⟩
 ·rw [e] at c1
  have hf:l.filter (λx => !d x)=l:=DN.2 λx hx=>by rw [hall x hx];rfl
  simp only [f267,go_sem]
  repeat' (first|(refine aS (c1) ?_;simp only [go_sem,Int.reduceBEq])|(first|apply cS|apply gS)<;>intro hc<;>simp only [go_sem,hc,Int.reduceBEq])
  all_goals first|exact ⟨r,[],by rw [hf],by rw [hf,hset,Ah]⟩|skip
 ·rw [e,AX] at c1
  have hn1:(((i:Nat):Int) == -1)=false:=by rw [beq_eq_false_iff_ne];omega
  have hi:=(AD.1 hx).1
  have hw0:=Mc (k:=i) FM
  simp only [f267,go_sem]
  repeat' (first|(refine aS (c1) ?_;simp only [go_sem,hn1,hw0])|(first|apply cS|apply gS)<;>intro hc<;>simp only [go_sem,hc,hn1,hw0])
  refine Kj (σ:=Nat×Nat×List E3×FN×Fp) (λs=>(0,.msl o 0 l.length 4)::(1,.fn (.func f) first cap)::(5,.int .i64 s.1)::(6,.int .i64 s.2.1)::s.2.2.2.2) (λs=>H.set o (some (Fh s.2.2.1++r))++s.2.2.2.1)
   (λs=>s.1<s.2.1/\s.2.1<=l.length/\s.2.2.1.length=l.length/\s.2.2.1.take s.1=(l.take s.2.1).filter (λx => !d x)/\s.2.2.1.drop s.2.1=l.drop s.2.1) (λs=>l.length - s.2.1) (i,i+1,l,[],[]) ⟨by dsimp only;omega,by dsimp only;omega,rfl, ?_,rfl⟩ ?_ ?_ ?_
  ·dsimp only
   rw [BF,hx,Cb]
   have h1:(l.take i).filter (λx => !d x)=l.take i:=DN.2 λz hz=>by rw [hpre z hz];rfl
   rw [h1]
   simp [hdx]
  ·rfl
  ·dsimp only
   rw [hset,Ah]
  ·rintro ⟨i,j,row,J,rest⟩ ⟨hij,hj,hrl,htk,hdr⟩
   dsimp only at hij hj hrl htk hdr ⊢
   have hoL:=(AD.1 ho).1
   have fO : ∀ c z,(H.set o c++z)[o]? =some c:=λc z=>A' (IS hoL c) z
   have fW : ∀ c z c',(H.set o c++z).set o c'=H.set o c'++z:=λc z c'=>by rw [BP _ _ (by simpa using hoL),BB]
   by_cases hlt:j<l.length
   ·have hy:=AL hlt
    have hry:row[j]? =some l[j]:=by
     have:=congrArg (·[0]?) hdr
     simpa [hy] using this
    have j0:(0:Int)<=(j:Int):=FM
    have j1:(j:Int)<(l.length:Int):=FM
    have k0:(0:Int)<=(i:Int):=FM
    have k1:(i:Int)<(l.length:Int):=FM
    have hwj:=Mc (k:=j) FM
    have hwi:=Mc (k:=i) FM
    have g1:=Yr r hry
    rw [AE] at g1
    have g2:=Sk row r j _ hry
    have fS : ∀ c z y,(H.set o c++(J++[z])).set (H.length+J.length) y=H.set o c++(J++[y]):=λc z y=>by
     rw [<- AF,<- AF]
     simp
    have fL : ∀ c y,(H.set o c++(J++[y]))[H.length+J.length]? =some y:=λc y=>by
     rw [<- AF]
     have:H.length+J.length=(H.set o c++J).length:=sm
     rw [this];exact Bj
    have c2:=hd _ (AB hy) (Fh row++r) (J++[some (Entry.c l[j])])
    have hfil:(l.take (j+1)).filter (λx => !d x)=(l.take j).filter (λx => !d x)++(if d l[j]=true then [] else [l[j]]):=by
     rw [BF,hy,Cb]
     congr 1
     cases hd2:d l[j]<;>simp [hd2]
    have hc1:(Entry.c l[j]).length=4:=rfl
    have hc2:(Entry.c l[j]).take 4=Entry.c l[j]:=rfl
    cases hdy:d l[j] with
    | false =>
     rw [hdy] at c2
     simp only [go_sem,j0,j1,k0,k1,dT,fO,g1,g2,fS,fL,fW,hc1,hc2,AF,AE,An]
     repeat' (first|(refine aS (c2) ?_;simp only [go_sem,j0,j1,k0,k1,dT,fO,g1,g2,fS,fL,fW,hwi,hwj,hc1,hc2,AF,AE,An])|(first|apply cS|apply gS)<;>intro hc<;>simp only [go_sem,hc,j0,j1,k0,k1,dT,fO,g1,g2,fS,fL,fW,hwi,hwj,hc1,hc2,AF,AE,An])
     have k2:i*4+4<=(Fh row).length+r.length:=by rw [Hx];omega
     rw [iP k2,Pt r FM]
     refine ⟨(i+1,j+1,row.set i l[j],J++[some (Entry.c l[j])],[]),⟨by dsimp only;omega,by dsimp only;omega,by simpa using hrl, ?_, ?_⟩,by dsimp only;omega,rfl,rfl⟩
     ·dsimp only
      rw [hfil,hdy,iN dc,<- htk,Pr row i l[j] FM]
     ·dsimp only
      rw [List.drop_set_of_lt FM,<- A9,hdr,A9]
    | true =>
     rw [hdy] at c2
     simp only [go_sem,j0,j1,k0,k1,dT,fO,g1,g2,fS,fL,fW,hc1,hc2,AF,AE,An]
     repeat' (first|(refine aS (c2) ?_;simp only [go_sem,j0,j1,k0,k1,dT,fO,g1,g2,fS,fL,fW,hwi,hwj,hc1,hc2,AF,AE,An])|(first|apply cS|apply gS)<;>intro hc<;>simp only [go_sem,hc,j0,j1,k0,k1,dT,fO,g1,g2,fS,fL,fW,hwi,hwj,hc1,hc2,AF,AE,An])
     refine ⟨(i,j+1,row,J++[some (Entry.c l[j])],[]),⟨by dsimp only;omega,by dsimp only;omega,hrl, ?_, ?_⟩,by dsimp only;omega,rfl,rfl⟩
     ·dsimp only
      rw [hfil,hdy,iP rfl,Ah,htk]
     ·dsimp only
      rw [<- A9,hdr,A9]
   ·have hjl:j=l.length:=FM
    subst hjl
    simp only [go_sem,AY,dF]
    refine ⟨⟨FM,FM,FM⟩, ?_⟩
    simp only [go_sem,AEW,fO,fW,AE]
    rw [BO] at htk
    have hkl:(l.filter λx => !d x).length=i:=by rw [<- htk,BI];omega
    refine ⟨FM,by rw [Hx];omega,⟨FM,FM,.inl trivial⟩,GY (AV.agg (Entry.z.cf (some 1))) (l.length - i)++(Fh row++r).drop (i*4+(GY (AV.agg (Entry.z.cf (some 1))) (l.length - i)).length),J,by rw [hkl];rfl, ?_⟩
    unfold splice
    rw [Jp row r i FM,htk,AF]
theorem my(l:List E3):(HM (FX l)).map borrow1=Fh l:=by
 induction l with
 | nil=>rfl
 | cons x l ih =>
  have:HM (FX (x::l))=x.c++HM (FX l):=rfl
  rw [this,As,ih];rfl
theorem J4(l:List E3):(Fh l).map borrow1=Fh l:=by
 induction l with
 | nil=>rfl
 | cons x l ih=>rw [Hu,As,ih];rfl
theorem dG(l:List E3)(hl:l.length<=1073741824)(H:FN):FT AA 265 [.sl none (FX l)] H λv H'=>(l=[]/\v = .sl (some 4) []/\H'=H)\/(v = .msl (H.length+1) 0 l.length 4/\H'=H++[none,some (Fh l)]):=by
 have el:(FX l).length=l.length:=Hw l
 have g1 : ∀ (x:Option (List AV)),(H++[x])[H.length]? =some x:=λx=>sm
 have g2 : ∀ (x y:Option (List AV)),(H++[x]).set H.length y=H++[y]:=λx y=>sm
 refine aC AJv rfl ?_
 cases l with
 | nil =>
  simp only [f265,go_sem,g1,g2]
  exact .inr ⟨sm,rfl⟩
 | cons x l =>
  have hcs:FX (x::l) = .agg x.c::FX l:=rfl
  have hcat:=my (x::l)
  rw [hcs] at hcat el ⊢
  simp only [AC] at hl
  simp only [f265,go_sem,g1,g2]
  exact ⟨FM,FM,.inr ⟨sm,by rw [hcat]⟩⟩
section
variable {P:Program} {d:Tmp} {K:Kt} {ev:Fp} {H:FN}
theorem AE3 {t t' el:TypeId} {kn k:IntKind} {ob off len sz c m:Nat} {cs:List AV} {z:AV} (hu:P.underlying t=some (.slice el)) (hu2:P.underlying t'=some (.int kn)) (hz:Fg P el=some z) (h1:z.cells.length=sz) (h2:P.cellsOf el=sz) (h3:Gg P el=true) (hp:0<sz)
  (ho:H[ob]? =some (some cs)) (h5:off+len*sz<=cs.length) (h6:0<m) (h7:c<len+m) (h8:(len+m)*P.bytesOf el<=140737488355328) (h9:len+m<=9223372036854775807)
  (hk:K ((d,.msl H.length 0 (len+m) sz)::ev) (H++[some (((cs.drop off).take (len*sz)).map borrow1++(GY z m).map borrow1)])):AE4 P t t' true [.mslc ob off len sz c,.int k (m:Int)] d K ev H:=by
 subst h2
 unfold AE4 apz
 simp only [hu,hu2,ho,Ae]
 exact ⟨z,hz,⟨h1,h3,hp,trivial,h5,FM,FM,h8,h9⟩,hk⟩
end
theorem UT{P:Program}{H:FN}{el:TypeId}{k ob off len sz:Nat}{cs X:List AV}{b:AV}(hb:mX b=some (ob,off,len,sz,false)\/mX b=some (ob,off,len,sz,true))(ho:H[ob]? =some (some cs))(h1:off+k*sz<=cs.length)(h2:sz=P.cellsOf el)(h3:k<=len)(hX:(cs.drop off).take (k*sz)=X):gE P el H k b=some X:=by
 subst hX
 cases b<;>simp only [mX,reduceCtorEq,Option.some.injEq,Prod.mk.injEq,or_self,Bool.true_eq_false,Bool.false_eq_true,and_false,and_true,false_or,or_false] at hb
 all_goals
  obtain ⟨rfl,rfl,rfl,rfl⟩:=hb
  simp only [gE,ho]
  rw [iP ⟨h1,h2,h3⟩]
theorem UU {P:Program} {d:Tmp} {K:Kt} {ev:Fp} {H:FN} {t el:TypeId} {a b:AV} {ob off len sz m k:Nat} {gr:Bool} {cs X R:List AV} (hk:Nat.min m len=k) (hu:P.underlying t=some (.slice el)) (hrow:mX a=some (ob,off,len,sz,gr)) (hm:yG b=some m) (ho:H[ob]? =some (some cs)) (h1:sz=P.cellsOf el)
  (h2:(P.info? el).isSome=true) (h3:cs.map borrow1=cs) (h4:off<=cs.length) (h5:gr=true\/off+k*sz<=cs.length) (hs:gE P el H k b=some X) (hR:cs.take off++X.map borrow1++cs.drop (off+k*sz)=R)
  (hK:K ((d,.int .i64 (k:Nat))::ev) (H.set ob (some R))):AET P t a b d K ev H:=by
 subst hk hR
 exact ABF hu hrow hm ho h1 h2 h3 h4 h5 hs hK
theorem oY{A Z E:List AV}{k:Nat}(hA:A.length=k)(m:Nat):(A++Z).take k++E++(A++Z).drop (k+m)=A++E++Z.drop m:=by
 rw [List.take_left' hA,<- A9,EO hA]
def Vg(l:List E3)(i:Nat)(e:E3):List E3:=l.take i++e::l.drop i
theorem eZ{l:List E3}{i:Nat}(h:i<=l.length)(e:E3):(Vg l i e).length=l.length+1:=by simp [Vg];omega
def AHJ(l:List E3)(i:Nat)(e:E3)(o:Nat)(H:FN)(v:AV)(H':FN):Prop :=
 ∃ ob r,v = .msl ob 0 (l.length+1) 4/\H'[ob]? =some (some (Fh (Vg l i e)++r))/\(ob=o\/H.length<=ob) /\ ∃ c ext,H'=H.set o c++ext
theorem qr(l:List E3)(hl:l.length<=1073741824)(i:Nat)(hi:i<=l.length)(e:E3)(o vo:Nat)(hov:vo≠o)(H:FN)(ho:H[o]? =some (some (Fh l)))(hv:H[vo]? =some (some e.c))(c:Nat)(hc1:l.length<=c)(hc2:c<=9223372036854775807):
  FT AA 266 [.mslc o 0 l.length 4 c,.int .i64 i,.msl vo 0 1 4] H λv H'=>AHJ l i e o H v H' \/ ∃ ob off len sz cp,v = .mslc ob off len sz cp/\AHJ l i e o H (.msl ob off len sz) H':=by
 have i0:(0:Int)<=(i:Int):=FM
 have hil:(i:Int)<=(l.length:Int):=FM
 have hlc:(l.length:Int)<=(c:Int):=FM
 have hcl:(Fh l).length=l.length*4:=Hx l
 have z1:(((1:Nat):Int)==0)=false:=rfl
 have hw1:IntKind.i64.wrap ((l.length:Int)+((1:Nat):Int))=((l.length+1:Nat):Int):=by rw [OD FM FM];rfl
 have hw2:IntKind.i64.wrap ((i:Int)+((1:Nat):Int))=((i+1:Nat):Int):=by rw [OD FM FM];rfl
 have hw3:IntKind.i64.wrap (((l.length+1:Nat):Int) - (i:Int))=((l.length+1 - i:Nat):Int):=by rw [OD FM FM];omega
 have hzv:Fg AA 119=some (.agg (Entry.z.cf (some 1))):=kr
 have hzo:Gg AA 119=true:=kr
 have hby:AA.bytesOf 119=56:=kr
 have hinf:(AA.info? 119).isSome=true:=kr
 have hag:Ri AA 119=true:=kr
 have hcz:AA.cellsOf 119=4:=kr
 have hsrc:Sn AA 119 true H (.msl vo 0 1 4)=some [.agg e.c]:=by
  have h:=iA (P:=AA) (el:=119) hv (off:=0) (len:=1) (sz:=4) (AU 4) hcz.symm (.inl hag)
  rw [hag] at h
  exact h
 have hus:AA.underlying 58=some (.slice 119):=kr
 have hui:AA.underlying 3=some (.int .i64):=kr
 have hcap : ∀ (d:Tmp) (K:Kt) (ev:Fp) (H2:FN),AEZ AA 58 (.mslc o 0 l.length 4 c) d K ev H2=K ((d,.int .i64 c)::ev) H2:=λd K ev H2=>by
  unfold AEZ
  rw [hus]
 have h00 : ¬ ((0:Int)=(c:Int)/\(0:Int)<0):=FM
 refine aC AAU rfl ?_
 by_cases hin:i=l.length
 ·subst hin
  have hee:((l.length:Int)==(l.length:Int))=true:=sm
  simp only [f266,go_sem,i0,hlc,z1,hee,hsrc,ho]
  refine ⟨FM,FM,hcl,J4 l,.inl ⟨H.length,[],rfl, ?_,.inr (AU _),none,[some (Fh l++e.c)],rfl⟩⟩
  rw [AM sm]
  have:Vg l l.length e=l++[e]:=by simp [Vg]
  rw [this,Nc]
  simp [Fh]
  rfl
 ·have hne:((i:Int)==(l.length:Int))=false:=by rw [beq_eq_false_iff_ne];omega
  have hic : ¬ ((i:Int)=(c:Int)/\(0:Int)<(i:Int)):=FM
  by_cases hroom:c<l.length+1
  ·have hr1:(c:Int)<((l.length+1:Nat):Int):=FM
   simp only [f266,go_sem,i0,hlc,hil,hne,z1,hw1,hr1,dT,hic,hcap,h00,hw3,BS,Bt,AX]
   refine ⟨FM,AE3 (z:=.agg (Entry.z.cf (some 1))) hus hui hzv rfl hcz hzo dc ho FM FM  FM (by rw [hby];omega) FM ?_⟩
   have hn1:i+(l.length+1 - i)=l.length+1:=FM
   have hA:(((Fh l).drop 0).take (i*4)).map borrow1=Fh (l.take i):=by
    have:=Jp l [] i hi
    rw [Ah] at this
    rw [BN,this,J4]
   rw [hn1,hA]
   have hZ:((GY (.agg (Entry.z.cf (some 1))) (l.length+1 - i)).map borrow1).length=(l.length+1 - i)*4/\((GY (.agg (Entry.z.cf (some 1))) (l.length+1 - i)).map borrow1).map borrow1=(GY (.agg (Entry.z.cf (some 1))) (l.length+1 - i)).map borrow1:=by
    refine ⟨by rw [Aq];simp [GY];rfl, ?_⟩
    rw [List.map_map]
    exact B3 λa _=>by cases a<;>rfl
   generalize (GY (.agg (Entry.z.cf (some 1))) (l.length+1 - i)).map borrow1=Z at hZ
   have hZb:Z.map borrow1=Z:=hZ.2
   replace hZ:=hZ.1
   simp only [go_sem,i0,hil,hw2,BS,Bt,AX]
   refine ⟨⟨FM,.inr FM⟩, ?_⟩
   have hAl:(Fh (l.take i)).length=i*4:=by rw [Hx,BI];omega
   have hDl:(Fh (l.drop i)).length=(l.length - i)*4:=by rw [Hx,Cf]
   have gv : ∀ x,(H++[x])[vo]? =some (some e.c):=λx=>A' hv _
   have go : ∀ x,(H++[x])[o]? =some (some (Fh l)):=λx=>A' ho _
   have gn : ∀ x:Option (List AV),(H++[x])[H.length]? =some x:=λx=>sm
   have gs : ∀ x y:Option (List AV),(H++[x]).set H.length y=H++[y]:=λx y=>sm
   refine UU (k:=1) (ob:=H.length) (cs:=Fh (l.take i)++Z) (X:=e.c) (R:=Fh (l.take i)++e.c++Z.drop 4) (by simp [DP];omega) hus rfl rfl (gn _) hcz.symm hinf (by rw [As,J4,hZb]) (by rw [AE];omega) (.inr (by rw [AE];omega)) (UT (.inl rfl) (gv _) (AU 4) hcz.symm (AU 1) rfl) (oY hAl 4) ?_
   have hn2:l.length+1 - (i+1)=l.length - i:=FM
   simp only [go_sem,gs,hw2,i0,hil,hic,hn2,BS,Bt,AX]
   have hdr:((Fh l).drop (i*4)).take ((l.length - i)*4)=Fh (l.drop i):=by
    have:=MC l [] i hi
    rw [Ah,Ah] at this
    rw [this,Br FM]
   have hel:e.c.length=4:=rfl
   have heb:e.c.map borrow1=e.c:=rfl
   have hZd:(Z.drop 4).length=(l.length - i)*4:=by rw [Cf];omega
   have hset:H.set o (some (Fh l))=H:=by
    apply A4
    intro j
    rw [A0]
    split
    ·rename_i hj;subst hj;rw [ho,iP (AD.1 ho).1]
    ·rfl
   refine ⟨⟨FM,FM,.inr FM⟩,FM,UU (k:=l.length - i) (ob:=H.length) (cs:=Fh (l.take i)++e.c++Z.drop 4) (X:=Fh (l.drop i)) (R:=Fh (l.take i)++e.c++Fh (l.drop i)) (by simp [DP]) hus rfl rfl (by rw [<- AF];exact gn _) hcz.symm hinf (by rw [As,As,J4,heb,List.map_drop,hZb]) (by simp only [AE];omega) (.inr (by simp only [AE];omega))
    (UT (.inr rfl) (go _) FM hcz.symm FM hdr) ?_ ?_⟩
   ·rw [J4,oY (A:=Fh (l.take i)++e.c) (by rw [AE];omega),Dn (l:=Z.drop 4) FM,Ah]
   ·simp only [go_sem,gs]
    exact .inl ⟨H.length,[],rfl,by rw [gn,Vg,Nc,Hu,Ah],.inr (AU _),some (Fh l),_,by rw [hset]⟩
  ·have hr1 : ¬ (c:Int)<((l.length+1:Nat):Int):=FM
   simp only [f266,go_sem,i0,hlc,hil,hne,z1,hw1,hw2,hr1,dF,hic,hcap,h00,BS,Bt,AX]
   have hno : ¬ (((i+1:Nat):Int)=(c:Int)/\(0:Int)<((i+1:Nat):Int)):=FM
   have hsub:l.length+1 - (i+1)=l.length - i:=FM
   rw [iN hno,hsub]
   refine ⟨⟨FM,FM⟩,⟨FM,FM,FM⟩,xK (v:=.bool false) ⟨hov,⟨f312,58,4,119,kr,kr,kr,kr,kr,hus,hinf⟩,⟨_,hv⟩,⟨_,ho⟩,FM,rfl⟩ ?_⟩
   simp only [go_sem,hw2,i0,hil,hno,hic,hsub]
   have hDl:(Fh (l.drop i)).length=(l.length - i)*4:=by rw [Hx,Cf]
   have hTl:(Fh (l.take (i+1))).length=(i+1)*4:=by rw [Hx,BI];congr 1;omega
   have hdr:((Fh l).drop (i*4)).take ((l.length - i)*4)=Fh (l.drop i):=by
    have:=MC l [] i hi
    rw [Ah,Ah] at this
    rw [this,Br FM]
   have htk:(Fh l).take ((i+1)*4)=Fh (l.take (i+1)):=by
    have:=Jp l [] (i+1) FM
    rwa [Ah] at this
   have htk2:(Fh (l.take (i+1))++Fh (l.drop i)).take (i*4)=Fh (l.take i):=by
    have:=Jp (l.take (i+1)) (Fh (l.drop i)) i (by rw [BI];omega)
    rw [this,List.take_take,Nat.min_eq_left FM]
   have hol:=(AD.1 ho).1
   have go2 : ∀ x:Option (List AV),(H.set o x)[o]? =some x:=λx=>Az hol
   have gv2 : ∀ x:Option (List AV),(H.set o x)[vo]? =some (some e.c):=λx=>by rw [A6 (Ne.symm hov)];exact hv
   have gs2 : ∀ x y:Option (List AV),(H.set o x).set o y=H.set o y:=λx y=>BB ..
   refine ⟨⟨FM,FM,FM⟩,⟨FM,FM⟩,UU (k:=l.length - i) (ob:=o) (cs:=Fh l) (X:=Fh (l.drop i)) (R:=Fh (l.take (i+1))++Fh (l.drop i)) (by simp [DP];omega) hus rfl rfl ho hcz.symm hinf (J4 l) FM (.inl rfl) (UT (.inr rfl) ho FM hcz.symm FM hdr)
    (by rw [htk,J4,Dn (l:=Fh l) FM,Ah]) ?_⟩
   simp only [go_sem,hw2,i0,hil,hic,BS,Bt,AX]
   refine ⟨⟨FM,FM⟩,UU (k:=1) (ob:=o) (cs:=Fh (l.take (i+1))++Fh (l.drop i)) (X:=e.c) (R:=Fh (l.take i)++e.c++Fh (l.drop i)) (by simp [DP];omega) hus rfl rfl (go2 _) hcz.symm hinf (by rw [As,J4,J4]) (by rw [AE];omega) (.inl rfl) (UT (.inl rfl) (gv2 _) (AU 4) hcz.symm (AU 1) rfl)
    (by rw [htk2,show i*4+1*4=(i+1)*4 by omega,EO hTl];rfl) ?_⟩
   simp only [go_sem,gs2]
   exact .inr ⟨o,0,l.length+1,4,c,rfl,o,[],rfl,by rw [go2,Vg,Nc,Hu,Ah],.inl rfl,_,[],by rw [Ah]⟩
theorem zB(l:List E3)(hl:l.length<=1073741824)(i:Nat)(hi:i<=l.length)(e:E3)(o vo:Nat)(hov:vo≠o)(H:FN)(ho:H[o]? =some (some (Fh l)))(hv:H[vo]? =some (some e.c)):
  FT AA 266 [.msl o 0 l.length 4,.int .i64 i,.msl vo 0 1 4] H (AHJ l i e o H) :=
 ji (FT.cap AAU.c λc h1 h2=>qr l hl i hi e o vo hov H ho hv c h1 h2)
end Go.AI
namespace Go.AI
open Go.Proofs
set_option maxRecDepth 50000
theorem qt {H:FN} (l:List E3) (hl:l.length<=9223372036854775807) (g:FuncId) (fi ca:List AV) (p:E3->Bool)
  (h : ∀ x∈l,GI AA g (fi.map AV.borrow++(.agg x.c::ca.map AV.borrow)) H (.bool (p x))) :
  GI AA 146 [.sl none (FX l),.fn (.func g) fi ca] H (.int .i64 (H9 p l)):=by
 unfold GI
 refine aC mC rfl ?_
 simp only [f146,go_sem]
 refine FZ l (λr=>HF p (l.length - r.length) r) (λk=>[(0,.sl none (FX l)),(1,.fn (.func g) fi ca),(7,.int .i64 l.length),(8,.int .i64 k)]) hl rfl ?_ ?_
 ·intro k x xs hd hx hF h0 h1 hw
  have hk2:=Fl hd
  have e1:l.length - (xs.length+1)=k:=FM
  have e2:l.length - xs.length=k+1:=FM
  simp only [AC,e1,AQ] at hF
  simp only [go_sem,h0,h1,F6 hx,e1,e2]
  repeat' (first|(refine aS (h x (AB hx)) ?_;simp only [go_sem,h0,h1,hw,F6 hx,e1,e2])|(first|apply cS|apply gS)<;>intro hc<;>simp only [go_sem,hc,h0,h1,hw,F6 hx,e1,e2])
  ·rw [H9,hF,HF,iP hc]
  ·rw [HF,iN (by rw [hc];decide)]
 ·intro hF hlt
  simp only [go_sem,hlt,dF]
  rw [AQ] at hF
  rw [H9,hF];rfl
def sE:E4:={ Zy with mt:=[40,67],tk:=25::Zy.tk }
@[go_sem] theorem AbI(k:Nat):sE.lv k=Zy.lv k:=AH rfl rfl
set_option linter.defProp false in
@[go_sem] def Abv:=l7 sE rfl rfl rfl
@[go_sem] theorem Abu:sE.tk=[25,17,23,24,44,51,55,56,81,83,87,94]/\sE.mt=[40,67]/\sE.pc=[67,93]:=⟨rfl,rfl,rfl⟩
theorem AHO:FK AA 266 f266 sE:=⟨kr,kr,func266,kr⟩
theorem qq(e:E3)(vo:Nat)(H:FN)(hv:H[vo]? =some (some e.c)):
  FT AA 266 [.sl (some 4) [],.int .i64 ((0:Nat):Int),.msl vo 0 1 4] H λv H'=>v = .sl (some 4) [.agg e.c]/\H'=H:=by
 have z1:(((1:Nat):Int)==0)=false:=rfl
 have z0:(((0:Nat):Int)==((0:Nat):Int))=true:=rfl
 have hag:Ri AA 119=true:=kr
 have hcz:AA.cellsOf 119=4:=kr
 have hsrc:Sn AA 119 true H (.msl vo 0 1 4)=some [.agg e.c]:=by
  have h:=iA (P:=AA) (el:=119) hv (off:=0) (len:=1) (sz:=4) (AU 4) hcz.symm (.inl hag)
  rw [hag] at h
  exact h
 refine aC AHO rfl ?_
 simp only [f266,go_sem,z1,z0,hsrc]
 exact Int.le_refl _
def QJ(l:List E3)(e:E3):List E3:=if bsT l e=true then l.set (XO l e) e else Vg l (XO l e) e
theorem VU(l:List E3):(l.map Entry.c).map AV.agg=FX l:=by
 induction l with
 | nil=>rfl
 | cons x l ih=>rw [AT,AT,ih];rfl
theorem AGq(st:List E3)(hl:st.length<=1073741823)(hk : ∀ y∈st,y.key.length<=1073741824)(e:E3):FO AA 209 [.sl none (FX st),.agg e.c] (.sl none (FX (QJ st e))):=by
 have c1:=oz st FM hk e
 have hle:=ABf st e
 have h0:FT AA 209 [.sl none (FX st),.agg e.c] [] λv H'=>AT0 4 ((QJ st e).map Entry.c) v [] H':=by
  refine aN ALT rfl ?_
  simp only [f209,go_sem]
  refine pK c1 ?_
  simp only [go_sem]
  refine Fs.intro (dG st FM [some e.c]) λv H' hq=>?_
  have k0:(0:Int)<=((XO st e:Nat):Int):=FM
  rcases hq with ⟨rfl,rfl,rfl⟩|⟨rfl,rfl⟩
  ·have hb:bsT [] e=false:=rfl
   have hp:XO [] e=0:=rfl
   simp only [go_sem,hb]
   rw [hp]
   refine Fs.intro (qq e 1 _ rfl) λv H' hq=>?_
   obtain ⟨rfl,rfl⟩:=hq
   simp only [go_sem]
   exact .inr ⟨⟨_,rfl⟩,_,rfl⟩
  ·simp only [go_sem,AC,AG,AS,AN,AX,Nat.reduceAdd]
   cases hb:bsT st e with
   | true =>
    have hlt:XO st e<st.length:=by
     unfold bsT at hb
     split at hb
     ·rename_i y hy;exact (AD.1 hy).1
     ·cases hb
    have k1:((XO st e:Nat):Int)<(st.length:Int):=FM
    have k2:XO st e*4+4<=(Fh st).length:=by rw [Hx];omega
    have k3:splice (Fh st) (XO st e*4) (e.cf none)=Fh (st.set (XO st e) e):=by
     have:=Pt [] hlt e
     rw [Ah,Ah] at this
     exact this
    have k4:QJ st e=st.set (XO st e) e:=by rw [QJ,iP hb]
    simp only [go_sem,k0,k1,k2,k3]
    refine .inl (.inr ⟨2,Fh (st.set (XO st e) e), ?_,sm,⟨_,rfl⟩,rfl,[], ?_⟩)
    ·rw [k4,Aq,An]
    ·rw [k4,Ah];rfl
   | false =>
    have k4:QJ st e=Vg st (XO st e) e:=by rw [QJ,iN (by rw [hb];decide)]
    simp only [go_sem,k0]
    refine Fs.intro (zB st FM (XO st e) hle e 2 3 dc _ rfl rfl) λv H' hq=>?_
    obtain ⟨ob,r,rfl,ho,hob,c,ext,rfl⟩:=hq
    simp only [go_sem]
    refine .inl (.inr ⟨ob,_, ?_,sm,⟨_,rfl⟩,ho,r, ?_⟩)
    ·rw [k4,Aq,eZ hle]
    ·rw [k4];rfl
 have h1:=oP (n:=4) (es:=(QJ st e).map Entry.c) (λx hx=>by obtain ⟨y,_,rfl⟩:=AO.1 hx;rfl) (λx hx=>by obtain ⟨y,_,rfl⟩:=AO.1 hx;exact y.c_bnd _) (λx hx=>by obtain ⟨y,_,rfl⟩:=AO.1 hx;rfl) h0
 rw [VU] at h1
 refine Nr (h1.mono λv H' h=>h.1) ?_ ?_
 ·simp [FQ,AV.pure,Jl,Ry]
 ·simp [AV.pure,Jl]
theorem qn(l:List E3)(hl:l.length<=1073741823)(H:FN)(g:FuncId)(ca:List AV)(hca:ca.map AV.borrow=ca)(d:E3->Bool)(hd : ∀ x∈l,∀ J,GI AA g (.agg x.c::ca) (H++J) (.bool (d x))):
  FT AA 210 [.sl none (FX l),.fn (.func g) [] ca] H λv H'=>v = .sl none (FX (l.filter d))/\H'=H:=by
 have h1 : ∀ x∈l,∀ J,GI AA 268 [.agg x.c,.ptr H.length 0] (H++some [.fn (.func g) [] ca]::J) (.bool (!d x)):=by
  intro x hx J
  refine FT.drop rfl ?_
  have c1:=hd x hx (some [.fn (.func g) [] ca]::(J++[some (Entry.c x)]))
  have e1:H++some [.fn (.func g) [] ca]::(J++[some (Entry.c x)])=H++some [.fn (.func g) [] ca]::J++[some (Entry.c x)]:=sm
  rw [e1] at c1
  refine aC AJo rfl ?_
  have g1 : ∀ L,(H++some [AV.fn (.func g) [] ca]::L)[H.length]? =some (some [AV.fn (.func g) [] ca]):=λL=>sm
  have g2 : ∀ X y,(H++X::(J++[y]))[List.length (H++X::J)]? =some y:=λX y=>by
   have:H++X::(J++[y])=(H++X::J)++[y]:=sm
   rw [this];exact Bj
  have hc2:(Entry.c x).take 4=Entry.c x:=rfl
  have hc3:(Entry.c x).length=4:=rfl
  simp only [f268,go_sem,g1,g2,hc2,hc3,hca]
  rw [<- e1] at c1
  repeat' (first|(refine aS (c1) ?_;simp only [go_sem,g1,g2])|(first|apply cS|apply gS)<;>intro hc<;>simp only [go_sem,hc,g1,g2])
  exact ⟨_,rfl⟩
 have h0:FT AA 210 [.sl none (FX l),.fn (.func g) [] ca] H λv H'=>AGi 4 ((l.filter d).map Entry.c) v H H':=by
  refine aC ALQ rfl ?_
  simp only [f210,go_sem]
  refine Fs.intro (dG l FM _) λv H' hq=>?_
  rcases hq with ⟨rfl,rfl,rfl⟩|⟨rfl,rfl⟩
  ·simp only [go_sem]
   refine Fs.intro (W0 _ _ _ _ _) λv H' hq=>?_
   obtain ⟨rfl,w2,rfl⟩:=hq
   simp only [go_sem]
   exact .inl ⟨rfl,⟨_,rfl⟩,_,rfl⟩
  ·simp only [go_sem]
   have f2:List.filter (λx => !!d x) l=l.filter d:=sm
   have eo:List.length (H++[some [AV.fn (.func g) [] ca]])+1=H.length+2:=sm
   have eS : ∀ (c:Option (List AV)) (J:FN),(H++[some [AV.fn (.func g) [] ca],none,some (Fh l)]).set (H.length+2) c++J=H++some [.fn (.func g) [] ca]::([none,c]++J):=λc J=>by
    rw [BZ _ _ FM]
    simp
   rw [eo]
   refine Fs.intro (qv l hl [] _ (H.length+2) sm _ [] [.ptr H.length 0] (λx => !d x) λx hx c J=>by rw [eS];exact h1 x hx _) λv H' hq=>?_
   obtain ⟨r,J,rfl,rfl⟩:=hq
   simp only [go_sem,f2,eS]
   refine .inr ⟨H.length+2,Fh (l.filter d)++r, ?_,FM,⟨_,rfl⟩, ?_,r,rfl⟩
   ·rw [Aq]
   ·simp
 have h2:=oQ (n:=4) (es:=(l.filter d).map Entry.c) (λx hx=>by obtain ⟨y,_,rfl⟩:=AO.1 hx;rfl) (λx hx=>by obtain ⟨y,_,rfl⟩:=AO.1 hx;exact y.c_bnd _) (λx hx=>by obtain ⟨y,_,rfl⟩:=AO.1 hx;rfl) h0
 rwa [VU] at h2
def W8(st:List E3)(v:ByteArray):List E3:=st.filter λe=>decide (e.var=v)
theorem AFd(l:List E3)(hl:l.length<=1073741823)(v:ByteArray):FO AA 145 [.sl none (FX l),.str v] (.sl none (FX (W8 l v))):=by
 have h1 : ∀ x∈l,∀ J,GI AA 211 [.agg x.c,.ptr 0 0] ([some [.str v]]++J) (.bool (decide (x.var=v))):=by
  intro x hx J
  refine FT.drop rfl ?_
  refine aC ALN rfl ?_
  simp only [f211,go_sem]
  exact ⟨by rw [FL],_,rfl⟩
 refine pB AOL rfl ?_
 simp only [f145,go_sem]
 refine Fs.intro (qn l hl _ _ _ rfl _ h1) λw H' hq=>?_
 obtain ⟨rfl,rfl⟩:=hq
 simp only [go_sem]
 rfl
def AX2(f:Fld×Bool):Prop:=f.2=true->HA f.1
def xc(l:List Fld)(h:E5)(nm:ByteArray)(n:Int):E5:=if (FY l nm).2=true then Q7 (FY l nm).1 h (if KQ (FY l nm).1<n then KQ (FY l nm).1 else n).toNat else h
theorem Vp{l:List Fld}(hl:Iy l)(s:ByteArray):AX2 (FY l s):=λh=>Ig hl h
theorem PH{α:Type}{H:List α}{o:Nat}{x:α}(h:H[o]? =some x):H.set o x=H:=by
 apply A4
 intro j
 rw [A0]
 split
 ·rename_i hj;subst hj;rw [h,iP (AD.1 h).1]
 ·rfl
theorem LK{α:Type}{H:List α}{o:Nat}{x:α}(h:o<H.length)(L:List α):(H++L).set o x=H.set o x++L:=BP _ _ h
theorem R4{l:List Fld}(hl:Iy l){h:E5}(hr:FV h=true)(nm:ByteArray){n:Int}(hn:0<=n):FV (xc l h nm n)=true:=by
 unfold xc
 split
 ·rename_i hf
  have hg:=Vp hl nm hf
  have hm:=RF hg
  have hp:0<2^fW (FY l nm).1:=Ba _
  refine NI hg ?_ hr
  rw [hm]
  split<;>omega
 ·exact hr
theorem UK(D:E6)(hl:Iy D.fields)(hln:D.fields.length<=9223372036854775807)(hr:FV D.head=true)(nm:ByteArray)(n:Int)(hn:0<=n)(H:FN)(od:Nat)(o0 o1 o2 o3:Option Nat)(ho:H[od]? =some (some (D.cf o0 o1 o2 o3))):
  FT AA 144 [.ptr od 0,.str nm,.int .i64 n] H λv H'=>v = .tup [] /\ ∃ ext,H'=H.set od (some (({ D with head:=xc D.fields D.head nm n }:E6).cf o0 o1 o2 o3))++ext:=by
 have hlt:=(AD.1 ho).1
 have c1:=QL D.fields hln nm
 have q0:=q_0 H
 have g1:=A' ho
 refine aC AOO rfl ?_
 cases hf:(FY D.fields nm).2 with
 | false =>
  rw [hf] at c1
  simp only [f144,go_sem,ho,g1]
  refine pK c1 ?_
  simp only [go_sem,ho,g1,q0]
  have e1:xc D.fields D.head nm n=D.head:=by unfold xc;rw [iN (by rw [hf];decide)]
  rw [e1,PH ho]
  exact ⟨_,rfl⟩
 | true =>
  rw [hf] at c1
  have hg:=Vp hl nm hf
  have hm:=RF hg
  have c2:=o7 (FY D.fields nm).1 (by have:=hg;unfold HA at this;omega) (by have:=hg;unfold HA at this;omega)
  have hp:0<2^fW (FY D.fields nm).1:=Ba _
  have e1:xc D.fields D.head nm n=Q7 (FY D.fields nm).1 D.head (if KQ (FY D.fields nm).1<n then KQ (FY D.fields nm).1 else n).toNat:=by unfold xc;rw [iP hf]
  have e2:(((if KQ (FY D.fields nm).1<n then KQ (FY D.fields nm).1 else n).toNat:Nat):Int)=if KQ (FY D.fields nm).1<n then KQ (FY D.fields nm).1 else n:=Int.toNat_of_nonneg (by rw [hm];split<;>omega)
  have c3:=kf (FY D.fields nm).1 hg D.head hr (if KQ (FY D.fields nm).1<n then KQ (FY D.fields nm).1 else n).toNat (by rw [hm];split<;>omega)
  rw [e2,<- e1] at c3
  simp only [f144,go_sem,ho,g1]
  refine pK c1 ?_
  simp only [go_sem,ho,g1,q0]
  refine pK c2 ?_
  simp only [go_sem,ho,g1,q0]
  refine pK c3 ?_
  simp only [go_sem,ho,g1,q0,hlt]
  rw [LK hlt]
  exact ⟨_,rfl⟩
def Gr(D:E6):E6×Bool:=if D.is=false/\100<=(W8 D.st D.step.var).length then (D,false) else ({ D with st:=QJ D.st D.entry },true)
theorem KU(D:E6):(Gr D).1.fields=D.fields/\(Gr D).1.step=D.step/\(Gr D).1.head=D.head/\(Gr D).1.entry=D.entry:=by
 unfold Gr;split<;>exact ⟨rfl,rfl,rfl,rfl⟩
def cL(od:Nat)(o0 o1 o3:Option Nat)(H:FN)(r:E6×Bool)(v:AV)(H':FN):Prop:=v = .bool r.2 /\ ∃ o2 ext,H'=H.set od (some (r.1.cf o0 o1 o2 o3))++ext
theorem MJ(D:E6)(hst:D.st.length<=1073741823)(hk : ∀ y∈D.st,y.key.length<=1073741824)(H:FN)(od:Nat)(o0 o1 o2 o3:Option Nat)(ho:H[od]? =some (some (D.cf o0 o1 o2 o3))):
  FT AA 143 [.ptr od 0] H (cL od o0 o1 o3 H (Gr D)):=by
 have hlt:=(AD.1 ho).1
 have c1:=AFd D.st FM D.step.var
 have c2:=AGq D.st FM hk D.entry
 refine aC AOR rfl ?_
 cases hi:D.is with
 | true =>
  simp only [f143,go_sem,ho,hi,Ar]
  refine pK c2 ?_
  simp only [go_sem,ho,hlt]
  have e1:Gr D=({ D with st:=QJ D.st D.entry },true):=by unfold Gr;rw [iN (by rw [hi];simp)]
  rw [e1]
  exact ⟨rfl,none,[],sm⟩
 | false =>
  simp only [f143,go_sem,ho,hi,Av]
  refine pK c1 ?_
  simp only [go_sem,ho,hlt]
  refine cS ?_ ?_<;>intro hc
  ·have e1:Gr D=(D,false):=by unfold Gr;rw [iP ⟨hi,by simp at hc;omega⟩]
   simp only [go_sem,e1]
   exact ⟨rfl,o2,[],by rw [PH ho,Ah]⟩
  ·have e1:Gr D=({ D with st:=QJ D.st D.entry },true):=by unfold Gr;rw [iN (by simp at hc ⊢;omega)]
   simp only [go_sem,ho,hlt]
   refine pK c2 ?_
   simp only [go_sem,ho,hlt,e1]
   exact ⟨rfl,none,[],by simp [hi]⟩
theorem Ul{α:Type}{H:List α}{o:Nat}(h:o<H.length)(x:α)(L:List α):(H.set o x++L)[o]? =some x:=by
 rw [List.getElem?_append_left (by rw [An];exact h)]
 exact Az h
def AFe(D:E6):E6×Bool:=Gr { D with entry:={ D.entry with at_:=D.tick } }
def aD(D:E6):E6×Bool:=(D,D.is&&decide (IntKind.i64.wrap (D.tick - D.step.n)<=D.entry.at_))
def wrD(r:E6×Bool):E6×Bool:=if r.2=true then ({ r.1 with head:=xc r.1.fields r.1.head r.1.step.field r.1.entry.n },true) else (r.1,false)
def VB(a b:Int):Int:=if b<a then b else a
def mZ(D:E6):E6×Bool:=wrD (Gr { D with entry:={ D.entry with n:=VB (D.entry.n+1) 65535,at_:=D.tick } })
def fB:E4:={ h73 with pc:=[] }
@[go_sem] theorem AbM(k:Nat):fB.lv k=h73.lv k/\fB.ct k=h73.ct k/\fB.at k=h73.at k/\fB.dn k=h73.dn k:=⟨AH rfl rfl,AH rfl rfl,AH rfl rfl,AH rfl rfl⟩
@[go_sem] theorem Abz:fB.tk=[]/\fB.mt=[]/\fB.pc=[]:=⟨rfl,rfl,rfl⟩
theorem AHS:FK AA 73 f73 fB:=⟨kr,kr,func73,kr⟩
def fA:E4:={ h74 with pc:=[] }
@[go_sem] theorem AbL(k:Nat):fA.lv k=h74.lv k/\fA.ct k=h74.ct k/\fA.at k=h74.at k/\fA.dn k=h74.dn k:=⟨AH rfl rfl,AH rfl rfl,AH rfl rfl,AH rfl rfl⟩
@[go_sem] theorem Aby:fA.tk=[]/\fA.mt=[]/\fA.pc=[]:=⟨rfl,rfl,rfl⟩
theorem AHR:FK AA 74 f74 fA:=⟨kr,kr,func74,kr⟩
section
variable (D:E6) (hl:Iy D.fields) (hln:D.fields.length<=9223372036854775807) (hst:D.st.length<=1073741823) (hk : ∀ y∈D.st,y.key.length<=1073741824) (hr:FV D.head=true) (he:0<=D.entry.n/\D.entry.n<=65535)
variable (H:FN) (od:Nat) (o0 o1 o2 o3:Option Nat) (ho:H[od]? =some (some (D.cf o0 o1 o2 o3)))
include hst hk ho
theorem ADY:FT AA 74 [.ptr od 0] H (cL od o0 o1 o3 H (AFe D)):=by
 have hlt:=(AD.1 ho).1
 refine aC AHR rfl ?_
 simp only [f74,go_sem,ho,hlt]
 refine Fs.intro (MJ { D with entry:={ D.entry with at_:=D.tick } } hst hk _ od o0 o1 o2 o3 (Az hlt)) λv H' hq=>?_
 obtain ⟨rfl,w,ext,rfl⟩:=hq
 simp only [go_sem]
 exact ⟨rfl,w,ext,by rw [BB];rfl⟩
theorem yz:FT AA 75 [.ptr od 0] H (cL od o0 o1 o3 H (aD D)):=by
 have:=hst
 have:=hk
 have hlt:=(AD.1 ho).1
 refine aC AVf rfl ?_
 cases hi:D.is<;>simp only [f75,go_sem,ho,hi]
 ·exact ⟨by rw [aD,hi];rfl,o2,[],by rw [Ah];exact (PH ho).symm⟩
 ·exact ⟨by rw [aD,hi];rfl,o2,[],by rw [Ah];exact (PH ho).symm⟩
include hl hln hr he
theorem yw:FT AA 73 [.ptr od 0] H (cL od o0 o1 o3 H (mZ D)):=by
 have hlt:=(AD.1 ho).1
 have hw:IntKind.i64.wrap (D.entry.n+1)=D.entry.n+1:=OD FM FM
 refine aC AHS rfl ?_
 have gS : ∀ x,(H.set od x)[od]? =some x:=λx=>Az hlt
 have gL : ∀ x,od<(H.set od x).length:=λx=>by rw [An];exact hlt
 have sS : ∀ x y,(H.set od x).set od y=H.set od y:=λx y=>BB ..
 simp only [f73,go_sem,ho,hlt,hw,gS,gL,sS]
 refine Fs.intro (MJ { D with entry:={ D.entry with n:=VB (D.entry.n+1) 65535,at_:=D.tick } } hst hk _ od o0 o1 o2 o3 (gS _)) λv H' hq=>?_
 obtain ⟨rfl,w,ext,rfl⟩:=hq
 have hD:mZ D=wrD (Gr { D with entry:={ D.entry with n:=VB (D.entry.n+1) 65535,at_:=D.tick } }):=rfl
 rw [hD]
 have k1:=KU { D with entry:={ D.entry with n:=VB (D.entry.n+1) 65535,at_:=D.tick } }
 generalize Gr { D with entry:={ D.entry with n:=VB (D.entry.n+1) 65535,at_:=D.tick } }=r at k1 ⊢
 obtain ⟨D2,b⟩:=r
 obtain ⟨k2,k3,k4,k5⟩:=k1
 dsimp only at k2 k3 k4 k5
 rw [sS]
 cases b with
 | false =>
  simp only [go_sem,Av]
  exact ⟨rfl,w,ext,rfl⟩
 | true =>
  have hA:=Ul hlt (some (D2.cf o0 o1 w o3)) ext
  simp only [go_sem,Ar,hA]
  refine Fs.intro (UK D2 (by rw [k2];exact hl) (by rw [k2];exact hln) (by rw [k4];exact hr) _ _ (by rw [k5];unfold VB;split<;>simp<;>omega) _ od o0 o1 w o3 hA) λv H' hq=>?_
  obtain ⟨rfl,ext2,rfl⟩:=hq
  simp only [go_sem]
  refine ⟨rfl,w,ext++ext2, ?_⟩
  rw [LK (gL _),sS,AF]
  rfl
end
end Go.AI
namespace Go.AI
open Go.Proofs
set_option maxRecDepth 50000
theorem Yg(U:List Int)(m:Int)(h:m∈U):(U.filter λx=>decide (m+1<=x)).length<(U.filter λx=>decide (m<=x)).length:=by
 have e:U.filter (λx=>decide (m+1<=x))=(U.filter λx=>decide (m<=x)).filter λx => !decide (x=m):=by
  rw [List.filter_filter]
  congr 1
  funext x
  rw [Bool.eq_iff_iff]
  simp
  omega
 rw [e]
 exact List.length_filter_lt_length_iff_exists.2 ⟨m,by simp [h],sm⟩
def Ky(U:List Int)(m:Int):Int:=if m∈U then Ky U (m+1) else m
termination_by (U.filter λx=>decide (m<=x)).length
decreasing_by exact Yg U m (by assumption)
theorem AAr{U:List Int}{m:Int}(h:m∈U):Ky U m=Ky U (m+1):=by rw [Ky,iP h]
theorem vZ{U:List Int}{m:Int}(h:m∉U):Ky U m=m:=by rw [Ky,iN h]
theorem AAq(U:List Int)(m B:Int)(hU : ∀ x∈U,x<=B)(hm:m<=B+1):m<=Ky U m/\Ky U m<=B+1:=by
 fun_induction Ky U m with
 | case1 m h ih =>
  have:=hU m h
  have:=ih FM
  omega
 | case2 m h=>omega
def L5(D:E6):List Int:=(W8 D.st D.step.var).map (·.n)
def NF(D:E6):E6×Bool :=
 if D.is=true then wrD (Gr { D with entry:={ D.entry with at_:=D.tick } })
 else if D.step.m<Ky (L5 D) D.step.n then ({ D with entry:={ D.entry with n:=Ky (L5 D) D.step.n,at_:=D.tick } },false)
 else wrD (Gr { D with entry:={ D.entry with n:=Ky (L5 D) D.step.n,at_:=D.tick } })
def e7:E4:={ h76 with pc:=[29] }
@[go_sem] theorem AbJ(k:Nat):e7.lv k=h76.lv k/\e7.ct k=h76.ct k/\e7.at k=h76.at k/\e7.dn k=h76.dn k:=⟨AH rfl rfl,AH rfl rfl,AH rfl rfl,AH rfl rfl⟩
@[go_sem] theorem Abw:e7.tk=[]/\e7.mt=[]/\e7.pc=[29]:=⟨rfl,rfl,rfl⟩
theorem AHP:FK AA 76 f76 e7:=⟨kr,kr,func76,kr⟩
def XI(D:E6)(e:E3):Bool:=decide (e.var=D.step.var)&&(e.n==(NZ (FY D.fields D.step.field).1 D.head:Nat))
def bkH(l:List Fld)(h:E5)(q:List (ByteArray×Int)):E5:=q.foldl (λh p=>xc l h p.1 p.2) h
def WE(D:E6):E6×Bool:=match D.st.find? (XI D) with
 | none=>(D,false)
 | some y=>({ D with head:=bkH D.fields D.head (D.step.key.zip y.key) },true)
theorem bx{α β:Type}(x:α){y:β}: ∀ {a:List α} {b:List β},b[a.length]? =some y->(a++[x]).zip b=a.zip b++[(x,y)]
 | [],[],h=>by simp at h
 | [],z::b,h=>by simp at h;subst h;rfl
 | w::a,[],h=>by simp at h
 | w::a,z::b,h=>by
  have h2:b[a.length]? =some y:=by simpa using h
  rw [AS,B5,bx x h2,B5];rfl
theorem NW{α:Type}(p:α->Bool): ∀ (l:List α) (k:Nat),(HF p k l = -1/\l.find? p=none) \/ ∃ (i:Nat) (y:α),HF p k l=((k+i:Nat):Int)/\l[i]? =some y/\l.find? p=some y
 | [],k => .inl ⟨rfl,rfl⟩
 | x::l,k=>by
  rw [HF]
  by_cases h:p x=true
  ·rw [iP h]
   exact .inr ⟨0,x,rfl,rfl,by rw [B0,h]⟩
  ·rw [iN h]
   have h2:p x=false:=by simpa using h
   rcases NW p l (k+1) with ⟨h3,h4⟩|⟨i,y,h3,h4,h5⟩
   ·exact .inl ⟨h3,by rw [B0,h2];exact h4⟩
   ·exact .inr ⟨i+1,y,by rw [h3];congr 1;omega,h4,by rw [B0,h2];exact h5⟩
def fC:E4:={ h77 with pc:=[19,27] }
@[go_sem] theorem AbN(k:Nat):fC.lv k=h77.lv k/\fC.ct k=h77.ct k/\fC.at k=h77.at k/\fC.dn k=h77.dn k:=⟨AH rfl rfl,AH rfl rfl,AH rfl rfl,AH rfl rfl⟩
@[go_sem] theorem Ab0:fC.tk=[]/\fC.mt=[]/\fC.pc=[19,27]:=⟨rfl,rfl,rfl⟩
theorem AHT:FK AA 77 f77 fC:=⟨kr,kr,func77,kr⟩
def QF(s:Stp)(e:E3)(is:Bool)(tick:Int):E3:=if is=true then e else { e with n:=s.n,at_:=tick }
def G6(s:Stp)(e:E3)(tick:Int):Int:=(if 0<tick - e.at_ then tick - e.at_ else 0) / s.m
def QE(s:Stp)(e:E3)(tick:Int):E3:=if s.n<=e.n+G6 s e tick then { e with n:=s.n,at_:=tick } else { e with n:=e.n+G6 s e tick,at_:=e.at_+G6 s e tick*s.m }
def QD(e:E3):E3:=if 0<e.n then { e with n:=e.n - 1 } else e
theorem oU{s:Stp}{e:E3}{tick:Int}(hm:1<=s.m):0<=G6 s e tick/\G6 s e tick*s.m<=(if 0<tick - e.at_ then tick - e.at_ else 0):=by
 unfold G6
 have h0:0<=(if 0<tick - e.at_ then tick - e.at_ else 0):=by split<;>omega
 generalize (if 0<tick - e.at_ then tick - e.at_ else 0)=x at h0 ⊢
 exact ⟨Int.ediv_nonneg h0 FM,Int.ediv_mul_le _ FM⟩
theorem X9{s:Stp}{e:E3}{tick:Int}(hm:1<=s.m/\s.m<=1073741824)(he:0<=e.n/\e.n<=65536)(ht:0<=tick/\tick<=1073741824)(ha:0<=e.at_/\e.at_<=1073741824):
  IntKind.i64.wrap (tick - e.at_)=tick - e.at_/\IntKind.i64.wrap ((if tick - e.at_>0 then tick - e.at_ else 0).tdiv s.m)=G6 s e tick/\IntKind.i64.wrap (e.n+G6 s e tick)=e.n+G6 s e tick/\IntKind.i64.wrap (G6 s e tick*s.m)=G6 s e tick*s.m/\IntKind.i64.wrap (e.at_+G6 s e tick*s.m)=e.at_+G6 s e tick*s.m /\
   0<=G6 s e tick/\G6 s e tick*s.m<=1073741824/\G6 s e tick<=1073741824/\0<=G6 s e tick*s.m:=by
 obtain ⟨p1,p2⟩:=oU (s:=s) (e:=e) (tick:=tick) hm.1
 have p3:(if 0<tick - e.at_ then tick - e.at_ else 0)<=1073741824:=by split<;>omega
 have p4:G6 s e tick<=G6 s e tick*s.m:=by
  have:=Int.mul_le_mul_of_nonneg_left hm.1 p1
  omega
 have p5:(if tick - e.at_>0 then tick - e.at_ else 0).tdiv s.m=G6 s e tick:=by
  unfold G6
  rw [Int.tdiv_eq_ediv_of_nonneg (by split<;>omega)]
 rw [p5]
 exact ⟨OD FM FM,OD FM FM,OD FM FM,OD FM FM,OD FM FM,p1,FM,FM,FM⟩
def e8:E4:={ Yb with pc:=[] }
@[go_sem] theorem AbK(k:Nat):e8.lv k=Yb.lv k/\e8.ct k=Yb.ct k/\e8.at k=Yb.at k/\e8.dn k=Yb.dn k:=⟨AH rfl rfl,AH rfl rfl,AH rfl rfl,AH rfl rfl⟩
@[go_sem] theorem Abx:e8.tk=[]/\e8.mt=[]/\e8.pc=[]:=⟨rfl,rfl,rfl⟩
theorem AHQ:FK AA 78 f78 e8:=⟨kr,kr,func78,kr⟩
def JX(D:E6):E6×Bool :=
 let e2:=QE D.step (QF D.step D.entry D.is D.tick) D.tick
 let r:=Gr { D with entry:=QD e2 }
 (r.1,r.2&&decide (0<e2.n))
section
variable (D:E6) (hl:Iy D.fields) (hln:D.fields.length<=9223372036854775807) (hst:D.st.length<=1073741823) (hk : ∀ y∈D.st,y.key.length<=1073741824) (hr:FV D.head=true) (he:0<=D.entry.n/\D.entry.n<=65535)
variable (H:FN) (od:Nat) (o0 o1 o2 o3:Option Nat) (ho:H[od]? =some (some (D.cf o0 o1 o2 o3)))
include hst hk ho hl hln hr he
theorem ZN(hn:0<=D.step.n/\D.step.n<=65536)(hen : ∀ y∈D.st,y.n<=65535):FT AA 76 [.ptr od 0] H (cL od o0 o1 o3 H (NF D)):=by
 have hlt:=(AD.1 ho).1
 have gS : ∀ x,(H.set od x)[od]? =some x:=λx=>Az hlt
 have gL : ∀ x,od<(H.set od x).length:=λx=>by rw [An];exact hlt
 have sS : ∀ x y,(H.set od x).set od y=H.set od y:=λx y=>BB ..
 have gA : ∀ x L,(H.set od x++L)[od]? =some x:=λx L=>Ul hlt x L
 have sA : ∀ x L y,(H.set od x++L).set od y=H.set od y++L:=λx L y=>by rw [LK (gL _),sS]
 refine aC AHP rfl ?_
 cases hi:D.is with
 | true =>
  have e1:NF D=wrD (Gr { D with entry:={ D.entry with at_:=D.tick },is:=true }):=by unfold NF;rw [iP hi,<- hi]
  rw [e1]
  simp only [f76,go_sem,ho,hlt,gS,gL,sS,hi,Ar]
  have hEnd : ∀ (x:Option (List AV)) ext,(H.set od (some (({ D with entry:={ D.entry with at_:=D.tick },is:=true }:E6).cf o0 o1 o2 o3))).set od x++ext=H.set od x++([]++ext):=λx ext=>by rw [sS,AN]
  refine Fs.intro (MJ ({ D with entry:={ D.entry with at_:=D.tick },is:=true }:E6) hst hk _ od o0 o1 o2 o3 (gS _)) λv H' hq=>?_
  obtain ⟨rfl,w,ext,rfl⟩:=hq
  have k1:=KU ({ D with entry:={ D.entry with at_:=D.tick },is:=true }:E6)
  have kn:0<=({ D with entry:={ D.entry with at_:=D.tick },is:=true }:E6).entry.n:=he.1
  generalize Gr ({ D with entry:={ D.entry with at_:=D.tick },is:=true }:E6)=r at k1 ⊢
  obtain ⟨D2,b⟩:=r
  obtain ⟨k2,k3,k4,k5⟩:=k1
  dsimp only at k2 k3 k4 k5 kn
  cases b with
  | false =>
   simp only [go_sem,Av]
   exact ⟨rfl,w,_,hEnd _ _⟩
  | true =>
   rw [hEnd]
   simp only [go_sem,Ar,gA]
   refine Fs.intro (UK D2 (by rw [k2];exact hl) (by rw [k2];exact hln) (by rw [k4];exact hr) _ _ (by rw [k5];exact kn) _ od o0 o1 w o3 (gA _ _)) λv H' hq=>?_
   obtain ⟨rfl,ext2,rfl⟩:=hq
   simp only [go_sem]
   refine ⟨rfl,w,([]:FN)++ext++ext2, ?_⟩
   rw [sA,<- AF]
   rfl
 | false =>
  simp only [f76,go_sem,ho,hlt,gS,gL,sS,gA,hi,Av]
  refine pK (AFd D.st FM D.step.var) ?_
  simp only [go_sem,gA]
  have hint:AA.underlying 3=some (.int .i64):=by simp only [go_sem]
  have hln2:(W8 D.st D.step.var).length<=D.st.length:=List.length_filter_le _ _
  have gM : ∀ x y L,(H.set od x++y::L)[H.length]? =some y:=λx y L=>by
   rw [AM sm];simp
  have sM : ∀ x y L z,(H.set od x++y::L).set H.length z=H.set od x++z::L:=λx y L z=>by
   rw [BZ _ _ sm];simp
  have gN : ∀ x y L z,(H.set od x++y::(L++[z]))[List.length (H.set od x++y::L)]? =some z:=λx y L z=>by
   have:H.set od x++y::(L++[z])=(H.set od x++y::L)++[z]:=sm
   rw [this];exact Bj
  have sN : ∀ x y L z z2,(H.set od x++y::(L++[z])).set (List.length (H.set od x++y::L)) z2=H.set od x++y::(L++[z2]):=λx y L z z2=>by
   have:H.set od x++y::(L++[z])=(H.set od x++y::L)++[z]:=sm
   rw [this];simp
  refine Fo (W8 D.st D.step.var) (λ(_:List Int×FN) (_:List E3)=>()) (λk s=>RW Jq s.1 /\ ∀ x,x∈s.1↔x∈((W8 D.st D.step.var).take k).map (·.n)) (λk _=>[(0,.ptr od 0),(3,.mapr H.length),(29,.sl none (FX (W8 D.st D.step.var))),(30,.int .i64 (W8 D.st D.step.var).length),(31,.int .i64 k)])
   (λ_ s=>H.set od (some (({ D with entry:={ D.entry with at_:=D.tick },is:=false }:E6).cf o0 o1 o2 o3))++some (Jx (LL Jq s.1))::s.2) ([],[]) FM ⟨trivial,λx=>sm⟩ ?_ rfl ?_ ?_
  ·rw [An];rfl
  ·rintro k ⟨B,L⟩ x xs hd hx hI _ h0 h1 hw
   dsimp only at hI ⊢
   have hc2:(Entry.c x).take 4=Entry.c x:=rfl
   have hc3:(Entry.c x).length=4:=rfl
   have hc4:(Entry.c x)[2]? =some (.int .i64 x.n):=rfl
   have htk:(W8 D.st D.step.var).take (k+1)=(W8 D.st D.step.var).take k++[x]:=by rw [BF,hx];rfl
   simp only [go_sem,h0,h1,F6 hx,gM,gN,sN,hc2,hc3,hc4]
   refine qP (kt:=3) (et:=4) B x.n (by first|simp only [go_sem]|kernel_rfl) (gM _ _ _) (VY hint λa ha=>by
    rcases AZ.1 ha with rfl|ha
    ·exact ⟨_,rfl⟩
    ·obtain ⟨z,_,rfl⟩:=AO.1 ha;exact ⟨_,rfl⟩) hI.1 ?_
   simp only [go_sem,hw,sM]
   refine ⟨(if B.any (λz=>z==x.n) then B else B++[x.n],L++[some (Entry.c x)]),⟨ABE _ hI.1,λy=>?_⟩,rfl,rfl⟩
   rw [htk,As,Ay,<- hI.2 y,AT,List.map_nil,Al]
   dsimp only
   split
   ·rename_i hany
    have:x.n∈B:=by simpa using hany
    exact ⟨.inl,λh=>h.elim id λh=>h▸this⟩
   ·rw [Ay,Al]
  ·rintro ⟨B,L⟩ hI _
   dsimp only at hI ⊢
   rw [BO] at hI
   have hU : ∀ x,x∈B↔x∈L5 D:=hI.2
   have hUB : ∀ x∈L5 D,x<=65535:=λx hx=>by
    obtain ⟨y,hy,rfl⟩:=AO.1 hx
    exact hen y (CV.1 hy).1
   simp only [go_sem,AY,dF,gA,sA]
   refine Kj (σ:=Int) (λ_=>[(0,.ptr od 0),(3,.mapr H.length)])
    (λm=>H.set od (some (({ D with entry:={ D.entry with n:=m,at_:=D.tick },is:=false }:E6).cf o0 o1 o2 o3))++some (Jx (LL Jq B))::L) (λm=>0<=m/\m<=65536/\Ky (L5 D) D.step.n=Ky (L5 D) m) (λm=>((L5 D).filter λx=>decide (m<=x)).length) D.step.n ⟨hn.1,hn.2,rfl⟩ rfl rfl ?_
   rintro m ⟨m0,m1,m2⟩
   have hwm:IntKind.i64.wrap (m+1)=m+1:=OD FM FM
   simp only [go_sem,gA,sA]
   refine zh (kt:=3) (et:=4) Jq B (Jq m) (by first|simp only [go_sem]|kernel_rfl) (by first|simp only [go_sem]|kernel_rfl) (gM _ _ _) (VY hint λa ha=>by
    rcases AZ.1 ha with rfl|ha
    ·exact ⟨_,rfl⟩
    ·obtain ⟨z,_,rfl⟩:=AO.1 ha;exact ⟨_,rfl⟩) hI.1 ?_
   rw [pq]
   simp only [go_sem]
   refine cS ?_ ?_<;>intro hc
   ·have hm:m∈L5 D:=(hU m).1 (by simpa using hc)
    have:=hUB m hm
    simp only [go_sem,gA,sA,hwm]
    exact ⟨m+1,⟨FM,FM,by rw [m2,AAr hm]⟩,Yg _ _ hm,rfl,rfl⟩
   ·have hm:m∉L5 D:=λh=>by
     have:=(hU m).2 h
     simp at hc
     exact hc m this rfl
    have hf:Ky (L5 D) D.step.n=m:=by rw [m2,vZ hm]
    simp only [go_sem,gA,sA]
    refine cS ?_ ?_<;>intro hc2
    ·have hlt2:D.step.m<m:=by simpa using hc2
     have e1:NF D=({ D with entry:={ D.entry with n:=m,at_:=D.tick },is:=false },false):=by unfold NF;rw [iN (by rw [hi];decide),hf,iP hlt2,<- hi]
     rw [e1]
     simp only [go_sem]
     exact ⟨rfl,o2,_,rfl⟩
    ·have hlt2 : ¬ D.step.m<m:=by simpa using hc2
     have e1:NF D=wrD (Gr { D with entry:={ D.entry with n:=m,at_:=D.tick },is:=false }):=by unfold NF;rw [iN (by rw [hi];decide),hf,iN hlt2,<- hi]
     rw [e1]
     have hEnd : ∀ (x:Option (List AV)) ext,(H.set od (some (({ D with entry:={ D.entry with n:=m,at_:=D.tick },is:=false }:E6).cf o0 o1 o2 o3))++some (Jx (LL Jq B))::L).set od x++ext=H.set od x++((some (Jx (LL Jq B))::L)++ext):=λx ext=>by rw [sA,AF]
     simp only [go_sem]
     refine Fs.intro (MJ ({ D with entry:={ D.entry with n:=m,at_:=D.tick },is:=false }:E6) hst hk _ od o0 o1 o2 o3 (gA _ _)) λv H' hq=>?_
     obtain ⟨rfl,w,ext,rfl⟩:=hq
     have k1:=KU ({ D with entry:={ D.entry with n:=m,at_:=D.tick },is:=false }:E6)
     have kn:0<=({ D with entry:={ D.entry with n:=m,at_:=D.tick },is:=false }:E6).entry.n:=m0
     generalize Gr ({ D with entry:={ D.entry with n:=m,at_:=D.tick },is:=false }:E6)=r at k1 ⊢
     obtain ⟨D2,b⟩:=r
     obtain ⟨k2,k3,k4,k5⟩:=k1
     dsimp only at k2 k3 k4 k5 kn
     cases b with
     | false =>
      simp only [go_sem,Av]
      exact ⟨rfl,w,_,hEnd _ _⟩
     | true =>
      rw [hEnd]
      simp only [go_sem,Ar,gA]
      refine Fs.intro (UK D2 (by rw [k2];exact hl) (by rw [k2];exact hln) (by rw [k4];exact hr) _ _ (by rw [k5];exact kn) _ od o0 o1 w o3 (gA _ _)) λv H' hq=>?_
      obtain ⟨rfl,ext2,rfl⟩:=hq
      simp only [go_sem]
      refine ⟨rfl,w,(some (Jx (LL Jq B))::L)++ext++ext2, ?_⟩
      rw [sA,<- AF]
      rfl
omit hk he in
theorem ADe(hf:(FY D.fields D.step.field).2=true)(hkl : ∀ y∈D.st,y.var=D.step.var->D.step.key.length<=y.key.length)(hkp : ∀ y∈D.st,∀ x∈y.key,0<=x)(hskl:D.step.key.length<=1048576):FT AA 77 [.ptr od 0] H (cL od o0 o1 o3 H (WE D)):=by
 have hlt:=(AD.1 ho).1
 have gS : ∀ x,(H.set od x)[od]? =some x:=λx=>Az hlt
 have gL : ∀ x,od<(H.set od x).length:=λx=>by rw [An];exact hlt
 have sS : ∀ x y,(H.set od x).set od y=H.set od y:=λx y=>BB ..
 have gA : ∀ x L,(H.set od x++L)[od]? =some x:=λx L=>Ul hlt x L
 have sA : ∀ x L y,(H.set od x++L).set od y=H.set od y++L:=λx L y=>by rw [LK (gL _),sS]
 have g1:=A' ho
 have hg:=Ig hl hf
 have c1:=QL D.fields hln D.step.field
 have c2:=kg (FY D.fields D.step.field).1 hg D.head hr
 have q0:=q_0 H
 have gB : ∀ y L,(H++y::L)[H.length]? =some y:=λy L=>sm
 have gB1 : ∀ x y L,(H++x::y::L)[H.length+1]? =some y:=λx y L=>sm
 have gB2 : ∀ x y z L,(H++x::y::z::L)[H.length+2]? =some z:=λx y z L=>sm
 have gB3 : ∀ x y z a L,(H++x::y::z::a::L)[H.length+3]? =some a:=λx y z a L=>sm
 have sB1 : ∀ x y a,(H++[x,y]).set (H.length+1) a=H++[x,a]:=λx y a=>sm
 have sB2 : ∀ x y z a,(H++[x,y,z]).set (H.length+2) a=H++[x,y,a]:=λx y z a=>sm
 refine aC AHT rfl ?_
 simp only [f77,go_sem,ho,g1,gB,gB1,gB2,gB3,sB1,sB2,AE,AC,AG,AX,Nat.reduceAdd]
 refine pK c1 ?_
 simp only [go_sem,ho,g1,gB,gB1,gB2,gB3,sB1,sB2,AE,AC,AG,AX,Nat.reduceAdd]
 refine pK c2 ?_
 simp only [go_sem,ho,g1,gB,gB1,gB2,gB3,sB1,sB2,AE,AC,AG,AX,Nat.reduceAdd]
 have k1 : ∀ x∈D.st,GI AA 147 ([].map AV.borrow++(.agg x.c::[AV.ptr H.length 0,.ptr (H.length+2) 0].map AV.borrow)) (H++[some [.ptr od 0],some (FY D.fields D.step.field).1.c,some [.int .i64 (NZ (FY D.fields D.step.field).1 D.head:Nat)]]) (.bool (XI D x)):=by
  intro x hx
  refine FT.drop rfl ?_
  have hc3:(Entry.c x).length=4:=rfl
  have hc4:(Entry.c x)[0]? =some (.str x.var):=rfl
  have hc5:(Entry.c x)[2]? =some (.int .i64 x.n):=rfl
  refine aC AOG rfl ?_
  cases hv:decide (x.var=D.step.var) with
  | true =>
   simp only [f147,go_sem,ho,g1,gB,gB1,gB2,gB3,hc3,hc4,hc5,AE,AC,AG,AX,Nat.reduceAdd,FL,hv]
   exact ⟨by rw [XI,hv,Bool.true_and],_,rfl⟩
  | false =>
   simp only [f147,go_sem,ho,g1,gB,gB1,gB2,gB3,hc3,hc4,hc5,AE,AC,AG,AX,Nat.reduceAdd,FL,hv]
   exact ⟨by rw [XI,hv,Bool.false_and],_,rfl⟩
 refine aS (qt D.st FM _ [] _ (XI D) k1) ?_
 simp only [go_sem]
 rcases NW (XI D) D.st 0 with ⟨h3,h4⟩|⟨i,y,h3,h4,h5⟩
 ·have e1:WE D=(D,false):=by unfold WE;rw [h4]
  have e2:H9 (XI D) D.st = -1:=h3
  rw [e1,e2]
  simp only [go_sem]
  exact ⟨rfl,o2,_,by rw [PH ho]⟩
 ·have e1:WE D=({ D with head:=bkH D.fields D.head (D.step.key.zip y.key) },true):=by unfold WE;rw [h5]
  have e2:H9 (XI D) D.st=(i:Int):=by rw [H9,h3,AX]
  have hym:=AB h4
  have hyb:XI D y=true:=List.find?_some h5
  have hyv:y.var=D.step.var:=by unfold XI at hyb;rw [Bool.and_eq_true,decide_eq_true_eq] at hyb;exact hyb.1
  have hyl:=hkl y hym hyv
  have i0 : ¬ ((i:Int)<0):=FM
  have i1:(0:Int)<=(i:Int):=FM
  rw [e1,e2]
  simp only [go_sem,i0,dF,g1,gB,gB1,gB2]
  refine Fo D.step.key (λ(_:E5×FN) (_:List ByteArray)=>()) (λk s=>s.1=bkH D.fields D.head ((D.step.key.take k).zip y.key)/\FV s.1=true) (λk _=>[(1,.ptr H.length 0),(6,.int .i64 (i:Int)),(40,.sl none (G9 D.step.key)),(41,.int .i64 D.step.key.length),(42,.int .i64 k)])
   (λ_ s=>H.set od (some (({ D with head:=s.1 }:E6).cf o0 o1 o2 o3))++some [.ptr od 0]::s.2) (D.head,[some (FY D.fields D.step.field).1.c,some [.int .i64 (NZ (FY D.fields D.step.field).1 D.head:Nat)]]) FM ⟨rfl,hr⟩ rfl (by rw [PH ho]) ?_ ?_
  ·rintro k ⟨h,L⟩ x xs hd hx ⟨hI,hrh⟩ _ h0 h1 hw
   dsimp only at hI hrh ⊢
   have hkl2:k<y.key.length:=FM
   have hyk:y.key[k]? =some y.key[k]:=AL hkl2
   have h12:(k:Int)<(y.key.length:Int):=FM
   have h22:(i:Int)<(D.st.length:Int):=by have:=(AD.1 h4).1;omega
   have gM : ∀ x y L,(H.set od x++y::L)[H.length]? =some y:=λx y L=>by
    rw [AM sm];simp
   simp only [go_sem,h0,h1,Fu hx,gA,gM,i1,h22,F6 h4,h12,GF hyk]
   have hn0:0<=y.key[k]:=hkp y hym _ (CY hkl2)
   refine Fs.intro (UK { D with head:=h } hl hln hrh x y.key[k] hn0 _ od o0 o1 o2 o3 (gA _ _)) λv H' hq=>?_
   obtain ⟨rfl,ext,rfl⟩:=hq
   have htk:(D.step.key.take (k+1)).zip y.key=(D.step.key.take k).zip y.key++[(x,y.key[k])]:=by
    rw [BF,hx]
    have hkk:(D.step.key.take k).length=k:=by rw [BI];omega
    exact bx x (by rw [hkk];exact hyk)
   simp only [go_sem,hw]
   refine ⟨(xc D.fields h x y.key[k],L++ext),⟨?_,R4 hl hrh _ hn0⟩,rfl, ?_⟩
   ·show xc D.fields h x y.key[k]=_
    rw [htk]
    unfold bkH at hI ⊢
    rw [List.foldl_append,<- hI];rfl
   ·rw [sA];simp
  ·rintro ⟨h,L⟩ ⟨hI,hrh⟩ _
   dsimp only at hI hrh ⊢
   rw [BO] at hI
   simp only [go_sem,AY,dF]
   exact ⟨rfl,o2,_,by rw [hI]⟩
omit hl hln hr in
theorem yg(hm:1<=D.step.m/\D.step.m<=1073741824)(hn:0<=D.step.n/\D.step.n<=65536)(ht:0<=D.tick/\D.tick<=1073741824)(hat:0<=D.entry.at_/\D.entry.at_<=1073741824):FT AA 78 [.ptr od 0] H (cL od o0 o1 o3 H (JX D)):=by
 have hlt:=(AD.1 ho).1
 have gS : ∀ x,(H.set od x)[od]? =some x:=λx=>Az hlt
 have gL : ∀ x,od<(H.set od x).length:=λx=>by rw [An];exact hlt
 have sS : ∀ x y,(H.set od x).set od y=H.set od y:=λx y=>BB ..
 have gA : ∀ x L,(H.set od x++L)[od]? =some x:=λx L=>Ul hlt x L
 have sA : ∀ x L y,(H.set od x++L).set od y=H.set od y++L:=λx L y=>by rw [LK (gL _),sS]
 have g1:=A' ho
 have gB : ∀ y L,(H++y::L)[H.length]? =some y:=λy L=>sm
 have q0:=q_0 H
 have s1 : ∀ (L:FN) y,(H++L).set od y=H.set od y++L:=λL y=>LK hlt L
 have gM : ∀ x y L,(H.set od x++y::L)[H.length]? =some y:=λx y L=>by
  rw [AM sm];simp
 have m0 : ¬ D.step.m=0:=FM
 refine aC AHQ rfl ?_
 cases hi:D.is with
 | true =>
  obtain ⟨f1,f2,f3,f4,f5,f6,f7,f8,f9⟩:=X9 (s:=D.step) (e:=D.entry) (tick:=D.tick) hm FM ht hat
  simp only [f78,go_sem,ho,g1,gB,q0,hi,Ar,f1,f2,f3,m0]
  have eT:QF D.step D.entry D.is D.tick=D.entry:=by unfold QF;rw [iP hi]
  refine cS ?_ ?_<;>intro hc
  ·have hc:=of_decide_eq_true hc
   have eE:QE D.step (QF D.step D.entry D.is D.tick) D.tick={ D.entry with n:=D.step.n,at_:=D.tick }:=by rw [eT];unfold QE;rw [iP hc]
   simp only [go_sem,ho,g1,gB,q0,s1,gA,sA]
   refine cS ?_ ?_<;>intro hp
   ·have hp2:0<(({ D.entry with n:=D.step.n,at_:=D.tick }:E3)).n:=of_decide_eq_true hp
    have hwn:IntKind.i64.wrap (D.step.n - 1)=D.step.n - 1:=OD (by dsimp only at hp2;omega) FM
    have e3:QD (({ D.entry with n:=D.step.n,at_:=D.tick }:E3))={ ({ D.entry with n:=D.step.n,at_:=D.tick }:E3) with n:=D.step.n - 1 }:=by unfold QD;rw [iP hp2]
    have e4:JX D=((Gr ({ D with entry:={ ({ D.entry with n:=D.step.n,at_:=D.tick }:E3) with n:=D.step.n - 1 },is:=D.is }:E6)).1,(Gr ({ D with entry:={ ({ D.entry with n:=D.step.n,at_:=D.tick }:E3) with n:=D.step.n - 1 },is:=D.is }:E6)).2&&true):=by
     unfold JX;dsimp only;rw [eE,e3,hp]
    simp only [go_sem,ho,g1,gB,q0,s1,gA,sA,gM,hwn]
    refine Fs.intro (MJ ({ D with entry:={ ({ D.entry with n:=D.step.n,at_:=D.tick }:E3) with n:=D.step.n - 1 },is:=D.is }:E6) hst hk _ od o0 o1 o2 o3 (gA _ _)) λv H' hq=>?_
    obtain ⟨rfl,w,ext,rfl⟩:=hq
    rw [e4]
    generalize Gr ({ D with entry:={ ({ D.entry with n:=D.step.n,at_:=D.tick }:E3) with n:=D.step.n - 1 },is:=D.is }:E6)=r
    obtain ⟨D2,b⟩:=r
    cases b<;>simp only [go_sem,hp]
    ·exact ⟨rfl,w,[some (D.step.cf none)]++ext,by rw [sA,AF]⟩
    ·exact ⟨rfl,w,[some (D.step.cf none)]++ext,by rw [sA,AF]⟩
   ·have hp2 : ¬ 0<(({ D.entry with n:=D.step.n,at_:=D.tick }:E3)).n:=of_decide_eq_false hp
    have e3:QD (({ D.entry with n:=D.step.n,at_:=D.tick }:E3))=({ D.entry with n:=D.step.n,at_:=D.tick }:E3):=by unfold QD;rw [iN hp2]
    have e4:JX D=((Gr ({ D with entry:=({ D.entry with n:=D.step.n,at_:=D.tick }:E3),is:=D.is }:E6)).1,(Gr ({ D with entry:=({ D.entry with n:=D.step.n,at_:=D.tick }:E3),is:=D.is }:E6)).2&&false):=by
     unfold JX;dsimp only;rw [eE,e3,hp]
    simp only [go_sem,ho,g1,gB,q0,s1,gA,sA,gM]
    refine Fs.intro (MJ ({ D with entry:=({ D.entry with n:=D.step.n,at_:=D.tick }:E3),is:=D.is }:E6) hst hk _ od o0 o1 o2 o3 (gA _ _)) λv H' hq=>?_
    obtain ⟨rfl,w,ext,rfl⟩:=hq
    rw [e4]
    generalize Gr ({ D with entry:=({ D.entry with n:=D.step.n,at_:=D.tick }:E3),is:=D.is }:E6)=r
    obtain ⟨D2,b⟩:=r
    cases b<;>simp only [go_sem,hp]
    ·exact ⟨rfl,w,[some (D.step.cf none)]++ext,by rw [sA,AF]⟩
    ·exact ⟨rfl,w,[some (D.step.cf none)]++ext,by rw [sA,AF]⟩
  ·have hc:=of_decide_eq_false hc
   have eE:QE D.step (QF D.step D.entry D.is D.tick) D.tick={ D.entry with n:=D.entry.n+G6 D.step D.entry D.tick,at_:=D.entry.at_+G6 D.step D.entry D.tick*D.step.m }:=by rw [eT];unfold QE;rw [iN hc]
   rw [HQ _ _ _ (by simp only [go_sem]) rfl rfl]
   simp only [go_sem,ho,g1,gB,q0,s1,gA,sA,gM,f3,f4,f5]
   refine ⟨Ls [(some (78,1,false),some (83,1,true))] kr ?_, ?_⟩
   ·intro q hq
    rw [Al.1 hq]
    exact ⟨.inr rfl,.inl FM⟩
   simp only [go_sem,ho,g1,gB,q0,s1,gA,sA,gM,f3,f4,f5]
   refine cS ?_ ?_<;>intro hp
   ·have hp2:0<(({ D.entry with n:=D.entry.n+G6 D.step D.entry D.tick,at_:=D.entry.at_+G6 D.step D.entry D.tick*D.step.m }:E3)).n:=of_decide_eq_true hp
    have hwn:IntKind.i64.wrap ((D.entry.n+G6 D.step D.entry D.tick) - 1)=(D.entry.n+G6 D.step D.entry D.tick) - 1:=OD (by dsimp only at hp2;omega) FM
    have e3:QD (({ D.entry with n:=D.entry.n+G6 D.step D.entry D.tick,at_:=D.entry.at_+G6 D.step D.entry D.tick*D.step.m }:E3))={ ({ D.entry with n:=D.entry.n+G6 D.step D.entry D.tick,at_:=D.entry.at_+G6 D.step D.entry D.tick*D.step.m }:E3) with n:=(D.entry.n+G6 D.step D.entry D.tick) - 1 }:=by unfold QD;rw [iP hp2]
    have e4:JX D=((Gr ({ D with entry:={ ({ D.entry with n:=D.entry.n+G6 D.step D.entry D.tick,at_:=D.entry.at_+G6 D.step D.entry D.tick*D.step.m }:E3) with n:=(D.entry.n+G6 D.step D.entry D.tick) - 1 },is:=D.is }:E6)).1,(Gr ({ D with entry:={ ({ D.entry with n:=D.entry.n+G6 D.step D.entry D.tick,at_:=D.entry.at_+G6 D.step D.entry D.tick*D.step.m }:E3) with n:=(D.entry.n+G6 D.step D.entry D.tick) - 1 },is:=D.is }:E6)).2&&true):=by
     unfold JX;dsimp only;rw [eE,e3,hp]
    simp only [go_sem,ho,g1,gB,q0,s1,gA,sA,gM,hwn]
    refine Fs.intro (MJ ({ D with entry:={ ({ D.entry with n:=D.entry.n+G6 D.step D.entry D.tick,at_:=D.entry.at_+G6 D.step D.entry D.tick*D.step.m }:E3) with n:=(D.entry.n+G6 D.step D.entry D.tick) - 1 },is:=D.is }:E6) hst hk _ od o0 o1 o2 o3 (gA _ _)) λv H' hq=>?_
    obtain ⟨rfl,w,ext,rfl⟩:=hq
    rw [e4]
    generalize Gr ({ D with entry:={ ({ D.entry with n:=D.entry.n+G6 D.step D.entry D.tick,at_:=D.entry.at_+G6 D.step D.entry D.tick*D.step.m }:E3) with n:=(D.entry.n+G6 D.step D.entry D.tick) - 1 },is:=D.is }:E6)=r
    obtain ⟨D2,b⟩:=r
    cases b<;>simp only [go_sem,hp]
    ·exact ⟨rfl,w,[some (D.step.cf none)]++ext,by rw [sA,AF]⟩
    ·exact ⟨rfl,w,[some (D.step.cf none)]++ext,by rw [sA,AF]⟩
   ·have hp2 : ¬ 0<(({ D.entry with n:=D.entry.n+G6 D.step D.entry D.tick,at_:=D.entry.at_+G6 D.step D.entry D.tick*D.step.m }:E3)).n:=of_decide_eq_false hp
    have e3:QD (({ D.entry with n:=D.entry.n+G6 D.step D.entry D.tick,at_:=D.entry.at_+G6 D.step D.entry D.tick*D.step.m }:E3))=({ D.entry with n:=D.entry.n+G6 D.step D.entry D.tick,at_:=D.entry.at_+G6 D.step D.entry D.tick*D.step.m }:E3):=by unfold QD;rw [iN hp2]
    have e4:JX D=((Gr ({ D with entry:=({ D.entry with n:=D.entry.n+G6 D.step D.entry D.tick,at_:=D.entry.at_+G6 D.step D.entry D.tick*D.step.m }:E3),is:=D.is }:E6)).1,(Gr ({ D with entry:=({ D.entry with n:=D.entry.n+G6 D.step D.entry D.tick,at_:=D.entry.at_+G6 D.step D.entry D.tick*D.step.m }:E3),is:=D.is }:E6)).2&&false):=by
     unfold JX;dsimp only;rw [eE,e3,hp]
    simp only [go_sem,ho,g1,gB,q0,s1,gA,sA,gM]
    refine Fs.intro (MJ ({ D with entry:=({ D.entry with n:=D.entry.n+G6 D.step D.entry D.tick,at_:=D.entry.at_+G6 D.step D.entry D.tick*D.step.m }:E3),is:=D.is }:E6) hst hk _ od o0 o1 o2 o3 (gA _ _)) λv H' hq=>?_
    obtain ⟨rfl,w,ext,rfl⟩:=hq
    rw [e4]
    generalize Gr ({ D with entry:=({ D.entry with n:=D.entry.n+G6 D.step D.entry D.tick,at_:=D.entry.at_+G6 D.step D.entry D.tick*D.step.m }:E3),is:=D.is }:E6)=r
    obtain ⟨D2,b⟩:=r
    cases b<;>simp only [go_sem,hp]
    ·exact ⟨rfl,w,[some (D.step.cf none)]++ext,by rw [sA,AF]⟩
    ·exact ⟨rfl,w,[some (D.step.cf none)]++ext,by rw [sA,AF]⟩
 | false =>
  obtain ⟨f1,f2,f3,f4,f5,f6,f7,f8,f9⟩:=X9 (s:=D.step) (e:={ D.entry with n:=D.step.n,at_:=D.tick }) (tick:=D.tick) hm (by dsimp only;omega) ht (by dsimp only;omega)
  dsimp only at f1 f2 f3 f4 f5 f6 f7 f8 f9
  have hcc:D.step.n<=D.step.n+G6 D.step { D.entry with n:=D.step.n,at_:=D.tick } D.tick:=Int.le_add_of_nonneg_right f6
  have eE:QE D.step (QF D.step D.entry D.is D.tick) D.tick={ D.entry with n:=D.step.n,at_:=D.tick }:=by unfold QF;rw [iN (by rw [hi];decide)];unfold QE;rw [iP hcc]
  simp only [f78,go_sem,ho,g1,gB,q0,hi,Av,s1,gA,sA,gM,f1,f2,f3,m0,hcc,dT]
  refine cS ?_ ?_<;>intro hp
  ·have hp2:0<(({ D.entry with n:=D.step.n,at_:=D.tick }:E3)).n:=of_decide_eq_true hp
   have hwn:IntKind.i64.wrap (D.step.n - 1)=D.step.n - 1:=OD (by dsimp only at hp2;omega) FM
   have e3:QD (({ D.entry with n:=D.step.n,at_:=D.tick }:E3))={ ({ D.entry with n:=D.step.n,at_:=D.tick }:E3) with n:=D.step.n - 1 }:=by unfold QD;rw [iP hp2]
   have e4:JX D=((Gr ({ D with entry:={ ({ D.entry with n:=D.step.n,at_:=D.tick }:E3) with n:=D.step.n - 1 },is:=false }:E6)).1,(Gr ({ D with entry:={ ({ D.entry with n:=D.step.n,at_:=D.tick }:E3) with n:=D.step.n - 1 },is:=false }:E6)).2&&true):=by
    unfold JX;dsimp only;rw [eE,e3,hp,hi]
   simp only [go_sem,ho,g1,gB,q0,s1,gA,sA,gM,hwn]
   refine Fs.intro (MJ ({ D with entry:={ ({ D.entry with n:=D.step.n,at_:=D.tick }:E3) with n:=D.step.n - 1 },is:=false }:E6) hst hk _ od o0 o1 o2 o3 (gA _ _)) λv H' hq=>?_
   obtain ⟨rfl,w,ext,rfl⟩:=hq
   rw [e4]
   generalize Gr ({ D with entry:={ ({ D.entry with n:=D.step.n,at_:=D.tick }:E3) with n:=D.step.n - 1 },is:=false }:E6)=r
   obtain ⟨D2,b⟩:=r
   cases b<;>simp only [go_sem,hp]
   ·exact ⟨rfl,w,[some (D.step.cf none)]++ext,by rw [sA,AF]⟩
   ·exact ⟨rfl,w,[some (D.step.cf none)]++ext,by rw [sA,AF]⟩
  ·have hp2 : ¬ 0<(({ D.entry with n:=D.step.n,at_:=D.tick }:E3)).n:=of_decide_eq_false hp
   have e3:QD (({ D.entry with n:=D.step.n,at_:=D.tick }:E3))=({ D.entry with n:=D.step.n,at_:=D.tick }:E3):=by unfold QD;rw [iN hp2]
   have e4:JX D=((Gr ({ D with entry:=({ D.entry with n:=D.step.n,at_:=D.tick }:E3),is:=false }:E6)).1,(Gr ({ D with entry:=({ D.entry with n:=D.step.n,at_:=D.tick }:E3),is:=false }:E6)).2&&false):=by
    unfold JX;dsimp only;rw [eE,e3,hp,hi]
   simp only [go_sem,ho,g1,gB,q0,s1,gA,sA,gM]
   refine Fs.intro (MJ ({ D with entry:=({ D.entry with n:=D.step.n,at_:=D.tick }:E3),is:=false }:E6) hst hk _ od o0 o1 o2 o3 (gA _ _)) λv H' hq=>?_
   obtain ⟨rfl,w,ext,rfl⟩:=hq
   rw [e4]
   generalize Gr ({ D with entry:=({ D.entry with n:=D.step.n,at_:=D.tick }:E3),is:=false }:E6)=r
   obtain ⟨D2,b⟩:=r
   cases b<;>simp only [go_sem,hp]
   ·exact ⟨rfl,w,[some (D.step.cf none)]++ext,by rw [sA,AF]⟩
   ·exact ⟨rfl,w,[some (D.step.cf none)]++ext,by rw [sA,AF]⟩
end
end Go.AI
namespace Go.AI
open Go.Proofs
set_option maxRecDepth 50000
def QZ(l:List Fld)(names:List ByteArray)(h:E5):List Int:=names.map λnm=>((NZ (FY l nm).1 h:Nat):Int)
theorem Va(l:List Fld)(names:List ByteArray)(h:E5):(QZ l names h).length=names.length:=by simp [QZ]
theorem AGv(l:List Fld)(hl:Iy l)(hln:l.length<=9223372036854775807)(names:List ByteArray)(hn:names.length<=1073741824)(hf : ∀ nm∈names,(FY l nm).2=true)(h:E5)(hr:FV h=true):
  FO AA 79 [.sl none (GL l),.sl none (G9 names),.agg h.c] (.tup [.sl none (GH (QZ l names h)),.bool true]):=by
 refine pB AVW rfl ?_ (hv:=by simp only [AV.pure,FQ,Jk,Bool.and_true])
 simp only [f79,go_sem]
 have gN : ∀ x (L:FN) z,(x::(L++[z]))[List.length (x::L)]? =some z:=λx L z=>by
  have:x::(L++[z])=(x::L)++[z]:=sm
  rw [this];exact Bj
 have sN : ∀ x (L:FN) z z2,(x::(L++[z])).set (List.length (x::L)) z2=x::(L++[z2]):=λx L z z2=>by
  have:x::(L++[z])=(x::L)++[z]:=sm
  rw [this];simp
 refine Fo names (λ(_:FN) (_:List ByteArray)=>()) (λ_ _=>True) (λk _=>[(0,.sl none (GL l)),(5,.ptr 0 0),(8,.sl (some 1) (GH (QZ l (names.take k) h))),(13,.sl none (G9 names)),(14,.int .i64 names.length),(15,.int .i64 k)])
  (λ_ L=>some h.c::L) [] FM trivial rfl rfl ?_ ?_
 ·intro k L x xs hd hx _ _ h0 h1 hw
  have hk2:=Fl hd
  have hfx:=hf x (AB hx)
  have hg:=Ig hl hfx
  have c1:=QL l hln x
  rw [hfx] at c1
  have c2:=kg (FY l x).1 hg h hr
  have hlen:(GH (QZ l (names.take k) h)).length=k:=by rw [HO,Va,BI];omega
  have htk:QZ l (names.take (k+1)) h=QZ l (names.take k) h++[((NZ (FY l x).1 h:Nat):Int)]:=by
   rw [BF,hx];simp [QZ]
  simp only [go_sem,h0,h1,Fu hx]
  refine pK c1 ?_
  simp only [go_sem,gN,sN]
  refine pK c2 ?_
  simp only [go_sem,hlen,hw]
  exact ⟨FM,FM,_,by rw [htk],rfl⟩
 ·intro L _ _
  simp only [go_sem,AY,dF,BO]
def jm(l:List Fld)(s:Stp)(st:List E3)(h:E5)(tick:Int):E6 :=
 ⟨l,s,st,h,tick,(P1 st s.var (QZ l s.key h)).getD ⟨s.var,QZ l s.key h,0,0⟩,(P1 st s.var (QZ l s.key h)).isSome⟩
def doM(D:E6):E6×Bool :=
 if D.step.kind=1 then mZ D else if D.step.kind=2 then AFe D else if D.step.kind=3 then aD D else if D.step.kind=4 then NF D else if D.step.kind=5 then WE D else JX D
def jl(l:List Fld)(s:Stp)(st:List E3)(h:E5)(tick:Int):E5×Bool×List E3 :=
 if s.kind=0 then (h,true,st) else
  let r:=doM (jm l s st h tick)
  (if r.2=true then r.1.head else h,r.2,r.1.st)
structure okStp (l:List Fld) (s:Stp):Prop where
 kind:0<=s.kind/\s.kind<=6
 klen:s.key.length<=1048576
 key:s.kind≠0 -> ∀ nm∈s.key,(FY l nm).2=true
 n:s.kind=4\/s.kind=6->0<=s.n/\s.n<=65535
 m4:s.kind=4->s.m<=65535
 m:s.kind=6->1<=s.m/\s.m<=1073741824
 back:s.kind=5->(FY l s.field).2=true
def dY(e:E3):Prop:=(0<=e.n/\e.n<=65535)/\(0<=e.at_/\e.at_<=1073741824)/\e.key.length<=1048576 /\ ∀ x∈e.key,0<=x
def YO(s:Stp)(e:E3):Prop:=s.kind≠0->e.var=s.var->e.key.length=s.key.length
def UO:List AV:=[.nilf,.fn (.func 73) [] [],.fn (.func 74) [] [],.fn (.func 75) [] [],.fn (.func 76) [] [],.fn (.func 77) [] [],.fn (.func 78) [] []]
structure okDo (D:E6):Prop where
 fs:Iy D.fields
 fl:D.fields.length<=1073741824
 sl:D.st.length<=1073741823
 st : ∀ e∈D.st,dY e
 key : ∀ e∈D.st,YO D.step e
 step:okStp D.fields D.step
 head:FV D.head=true
 tick:0<=D.tick/\D.tick<=1073741824
 n:0<=D.entry.n/\D.entry.n<=65535
 at_:0<=D.entry.at_/\D.entry.at_<=1073741824
theorem AUN(D:E6)(hD:okDo D)(h0:D.step.kind≠0)(H:FN)(od:Nat)(o0 o1 o2 o3:Option Nat)(ho:H[od]? =some (some (D.cf o0 o1 o2 o3)))(g:FuncId)(hg:UO[D.step.kind.toNat]? =some (.fn (.func g) [] [])):FT AA g [.ptr od 0] H (cL od o0 o1 o3 H (doM D)):=by
 have hlk : ∀ y∈D.st,y.key.length<=1073741824:=λy hy=>by have:=(hD.st y hy).2.2.1;omega
 have hln:D.fields.length<=9223372036854775807:=by have:=hD.fl;omega
 have hs:=hD.step
 unfold doM
 have hk:D.step.kind=1\/D.step.kind=2\/D.step.kind=3\/D.step.kind=4\/D.step.kind=5\/D.step.kind=6:=by have:=hs.kind;omega
 rcases hk with e|e|e|e|e|e<;>rw [e] at hg ⊢ <;> simp only [UO,List.getElem?_cons_succ,A8,Option.some.injEq,AV.fn.injEq,Fn.func.injEq,and_true,show (1:Int).toNat=1 from rfl,show (2:Int).toNat=2 from rfl,show (3:Int).toNat=3 from rfl,show (4:Int).toNat=4 from rfl,show (5:Int).toNat=5 from rfl,show (6:Int).toNat=6 from rfl] at hg<;>subst hg
 ·rw [iP rfl]
  exact yw D hD.fs hln hD.sl hlk hD.head hD.n H od o0 o1 o2 o3 ho
 ·rw [iN dc,iP rfl]
  exact ADY D hD.sl hlk H od o0 o1 o2 o3 ho
 ·rw [iN dc,iN dc,iP rfl]
  exact yz D hD.sl hlk H od o0 o1 o2 o3 ho
 ·rw [iN dc,iN dc,iN dc,iP rfl]
  exact ZN D hD.fs hln hD.sl hlk hD.head hD.n H od o0 o1 o2 o3 ho (by have:=hs.n (.inl e);omega) λy hy=>(hD.st y hy).1.2
 ·rw [iN dc,iN dc,iN dc,iN dc,iP rfl]
  exact ADe D hD.fs hln hD.sl hD.head H od o0 o1 o2 o3 ho (hs.back e) (λy hy hv=>by have:=hD.key y hy h0 hv;omega) (λy hy=>(hD.st y hy).2.2.2) hs.klen
 ·rw [iN dc,iN dc,iN dc,iN dc,iN dc]
  exact yg D hD.sl hlk hD.n H od o0 o1 o2 o3 ho (hs.m e) (by have:=hs.n (.inr e);omega) hD.tick hD.at_
theorem Sd{l:List E3}{v:ByteArray}{key:List Int}{y:E3}(h:P1 l v key=some y):y∈l:=by
 unfold P1 at h
 split at h
 ·exact AB h
 ·cases h
theorem ABD{l:List Fld}(hl:Iy l)(hln:l.length<=1073741824){s:Stp}(hs:okStp l s){st:List E3}(hst:st.length<=1073741823)(he : ∀ e∈st,dY e)(hk : ∀ e∈st,YO s e){h:E5}(hr:FV h=true){tick:Int}(ht:0<=tick/\tick<=1073741824):okDo (jm l s st h tick):=by
 refine ⟨hl,hln,hst,he,hk,hs,hr,ht, ?_, ?_⟩<;>unfold jm<;>dsimp only<;>cases hf:P1 st s.var (QZ l s.key h) with
 | none=>simp
 | some y=>first|exact (he y (Sd hf)).1|exact (he y (Sd hf)).2.1
theorem Abh(l:List Fld)(hl:Iy l)(hln:l.length<=1073741824)(s:Stp)(hs:okStp l s)(st:List E3)(hst:st.length<=1073741823)(he : ∀ e∈st,dY e)(hk : ∀ e∈st,YO s e)(h:E5)(hr:FV h=true)(tick:Int)(ht:0<=tick/\tick<=1073741824):
  FO AA 38 [.sl none (GL l),.agg s.c,.sl none (FX st),.agg h.c,.int .i64 tick] (.tup [.agg (jl l s st h tick).1.c,.bool (jl l s st h tick).2.1,.sl none (FX (jl l s st h tick).2.2)]):=by
 refine pB AW4 rfl ?_
 by_cases h0:s.kind=0
 ·have e1:jl l s st h tick=(h,true,st):=by unfold jl;rw [iP h0]
  rw [e1]
  have h0b:(s.kind==0)=true:=by rw [h0];rfl
  simp only [f38,go_sem,h0b]
 ·have h0b:(s.kind==0)=false:=by rw [beq_eq_false_iff_ne];exact h0
  have c1:=AGv l hl FM s.key (by have:=hs.klen;omega) (hs.key h0) h hr
  have c2:=ADc st FM (λy hy=>by have:=(he y hy).2.2.1;omega) s.var (QZ l s.key h)
  have hnv:AV.nilf.isVal=true:=rfl
  simp only [f38,go_sem,h0b,hnv]
  refine pK c1 ?_
  simp only [go_sem]
  refine pK c2 ?_
  have hi0:(0:Int)<=s.kind:=hs.kind.1
  have hi1:s.kind<((7:Nat):Int):=by have:=hs.kind;omega
  have hD:=ABD hl hln hs hst he hk hr ht
  obtain ⟨g,hg⟩ : ∃ g,UO[s.kind.toNat]? =some (.fn (.func g) [] []):=by
   have hkc:s.kind=1\/s.kind=2\/s.kind=3\/s.kind=4\/s.kind=5\/s.kind=6:=FM
   rcases hkc with e|e|e|e|e|e<;>rw [e]<;>exact ⟨_,rfl⟩
  have hM:=λH od o0 o1 o2 o3 ho=>AUN (jm l s st h tick) hD h0 H od o0 o1 o2 o3 ho g hg
  unfold UO at hg
  have e1:jl l s st h tick=(if (doM (jm l s st h tick)).2=true then (doM (jm l s st h tick)).1.head else h,(doM (jm l s st h tick)).2,(doM (jm l s st h tick)).1.st):=by unfold jl;rw [iN h0]
  rw [e1]
  cases hfd:P1 st s.var (QZ l s.key h) with
  | none =>
   simp only [go_sem,hfd,hi0,hi1,hg]
   refine Fs.intro (hM _ 4 none none none none (by unfold jm;rw [hfd];rfl)) λv H' hq=>?_
   obtain ⟨rfl,w,ext,rfl⟩:=hq
   generalize doM (jm l s st h tick)=r
   obtain ⟨D2,b⟩:=r
   cases b
   ·simp only [go_sem]
    rw [HQ _ _ _ (by simp only [go_sem]) rfl rfl]
    simp only [go_sem]
    refine ⟨Ls [(some (74,1,false),some (10,10,true))] kr ?_, ?_⟩
    ·intro q hq
     rw [Al.1 hq]
     exact ⟨.inr rfl,.inl dc⟩
    simp only [go_sem]
   ·simp only [go_sem]
    rw [HQ _ _ _ (by simp only [go_sem]) rfl rfl]
    simp only [go_sem]
    refine ⟨Ls [(some (82,1,false),some (10,10,true))] kr ?_, ?_⟩
    ·intro q hq
     rw [Al.1 hq]
     exact ⟨.inr rfl,.inl dc⟩
    simp only [go_sem]
  | some y =>
   simp only [go_sem,hfd,hi0,hi1,hg]
   refine Fs.intro (hM _ 4 none none none none (by unfold jm;rw [hfd];rfl)) λv H' hq=>?_
   obtain ⟨rfl,w,ext,rfl⟩:=hq
   generalize doM (jm l s st h tick)=r
   obtain ⟨D2,b⟩:=r
   cases b
   ·simp only [go_sem]
    rw [HQ _ _ _ (by simp only [go_sem]) rfl rfl]
    simp only [go_sem]
    refine ⟨Ls [(some (74,1,false),some (10,10,true))] kr ?_, ?_⟩
    ·intro q hq
     rw [Al.1 hq]
     exact ⟨.inr rfl,.inl dc⟩
    simp only [go_sem]
   ·simp only [go_sem]
    rw [HQ _ _ _ (by simp only [go_sem]) rfl rfl]
    simp only [go_sem]
    refine ⟨Ls [(some (82,1,false),some (10,10,true))] kr ?_, ?_⟩
    ·intro q hq
     rw [Al.1 hq]
     exact ⟨.inr rfl,.inl dc⟩
    simp only [go_sem]
structure okPrg (l:List Fld) (p:List E7):Prop where
 stp : ∀ s∈p,okStp l s.step
 pol : ∀ s∈p,Hf l s.policy
 key : ∀ s∈p,∀ t∈p,s.step.kind≠0->t.step.kind≠0->s.step.var=t.step.var->s.step.key.length=t.step.key.length
def RD(p:List E7)(st:List E3):Prop:=∀ e∈st,dY e /\ ∀ t∈p,YO t.step e
theorem AAL{l:List E3}{i:Nat}{e x:E3}(h:x∈Vg l i e):x=e\/x∈l:=by
 unfold Vg at h
 rcases Ay.1 h with h|h
 ·exact .inr (List.mem_of_mem_take h)
 ·rcases AZ.1 h with h|h
  ·exact .inl h
  ·exact .inr (List.mem_of_mem_drop h)
theorem yb{l:List E3}{e x:E3}(h:x∈QJ l e):x=e\/x∈l:=by
 unfold QJ at h
 split at h
 ·exact (List.mem_or_eq_of_mem_set h).symm
 ·exact AAL h
theorem yc(l:List E3)(e:E3):(QJ l e).length<=l.length+1:=by
 unfold QJ
 split
 ·rw [An];omega
 ·rw [eZ (ABf l e)];omega
def Zg(D:E6)(r:E6×Bool)(P:E3->Prop):Prop:=FV r.1.head=true/\(r.1.st=D.st \/ ∃ e,P e/\r.1.st=QJ D.st e)
theorem J1{D:E6}(hr:FV D.head=true){P:E3->Prop}(he:P D.entry):Zg D (Gr D) P:=by
 unfold Gr
 split
 ·exact ⟨hr,.inl rfl⟩
 ·exact ⟨hr,.inr ⟨_,he,rfl⟩⟩
theorem QB{D:E6}{r:E6×Bool}{P:E3->Prop}(hl:Iy r.1.fields)(hn:0<=r.1.entry.n)(h:Zg D r P):Zg D (wrD r) P:=by
 unfold wrD
 split
 ·exact ⟨R4 hl h.1 _ hn,h.2⟩
 ·exact h
theorem Yv{l:List Fld}(hl:Iy l): ∀ (q:List (ByteArray×Int)) {h:E5},FV h=true->(∀ x∈q,0<=x.2)->FV (bkH l h q)=true
 | [],_,hr,_=>hr
 | x::q,h,hr,hq=>Yv hl q (R4 hl hr _ (hq x (Cc ..))) λy hy=>hq y (B9 _ hy)
theorem mW{D:E6}(hD:okDo D)(h0:D.step.kind≠0):Zg D (doM D) λe=>e.var=D.entry.var/\e.key=D.entry.key/\(0<=e.n/\e.n<=65535)/\(0<=e.at_/\e.at_<=1073741824):=by
 have hs:=hD.step
 have hn:=hD.n
 have ha:=hD.at_
 have ht:=hD.tick
 have hk:D.step.kind=1\/D.step.kind=2\/D.step.kind=3\/D.step.kind=4\/D.step.kind=5\/D.step.kind=6:=by have:=hs.kind;omega
 unfold doM
 rcases hk with e|e|e|e|e|e<;>rw [e]
 ·rw [iP rfl]
  have k:=KU { D with entry:={ D.entry with n:=VB (D.entry.n+1) 65535,at_:=D.tick } }
  have hm:0<=VB (D.entry.n+1) 65535/\VB (D.entry.n+1) 65535<=65535:=by unfold VB;split<;>omega
  exact QB (by rw [k.1];exact hD.fs) (by rw [k.2.2.2];exact hm.1) (J1 (D:={ D with entry:={ D.entry with n:=VB (D.entry.n+1) 65535,at_:=D.tick } }) hD.head ⟨rfl,rfl,hm,ht⟩)
 ·rw [iN dc,iP rfl]
  exact J1 (D:={ D with entry:={ D.entry with at_:=D.tick } }) hD.head ⟨rfl,rfl,hn,ht⟩
 ·rw [iN dc,iN dc,iP rfl]
  exact ⟨hD.head,.inl rfl⟩
 ·rw [iN dc,iN dc,iN dc,iP rfl]
  have hn4:=hs.n (.inl e)
  have hm4:=hs.m4 e
  have hU:=AAq (L5 D) D.step.n 65535 (λx hx=>by
   obtain ⟨y,hy,rfl⟩:=AO.1 hx
   exact (hD.st y (CV.1 hy).1).1.2) FM
  unfold NF
  split
  ·have k:=KU { D with entry:={ D.entry with at_:=D.tick } }
   exact QB (by rw [k.1];exact hD.fs) (by rw [k.2.2.2];exact hn.1) (J1 (D:={ D with entry:={ D.entry with at_:=D.tick } }) hD.head ⟨rfl,rfl,hn,ht⟩)
  ·split
   ·exact ⟨hD.head,.inl rfl⟩
   ·rename_i hlt
    have k:=KU { D with entry:={ D.entry with n:=Ky (L5 D) D.step.n,at_:=D.tick } }
    exact QB (by rw [k.1];exact hD.fs) (by rw [k.2.2.2];dsimp only;omega) (J1 (D:={ D with entry:={ D.entry with n:=Ky (L5 D) D.step.n,at_:=D.tick } }) hD.head ⟨rfl,rfl,by dsimp only;omega,ht⟩)
 ·rw [iN dc,iN dc,iN dc,iN dc,iP rfl]
  unfold WE
  split
  ·exact ⟨hD.head,.inl rfl⟩
  ·rename_i y hy
   exact ⟨Yv hD.fs _ hD.head λx hx=>(hD.st y (List.mem_of_find?_eq_some hy)).2.2.2 x.2 (List.of_mem_zip hx).2,.inl rfl⟩
 ·rw [iN dc,iN dc,iN dc,iN dc,iN dc]
  have hm6:=hs.m e
  have hn6:=hs.n (.inr e)
  unfold JX
  dsimp only
  have ht1:(0<=(QF D.step D.entry D.is D.tick).n/\(QF D.step D.entry D.is D.tick).n<=65535)/\(0<=(QF D.step D.entry D.is D.tick).at_/\(QF D.step D.entry D.is D.tick).at_<=1073741824)/\(QF D.step D.entry D.is D.tick).var=D.entry.var/\(QF D.step D.entry D.is D.tick).key=D.entry.key:=by
   unfold QF
   split
   ·exact ⟨hn,ha,rfl,rfl⟩
   ·exact ⟨hn6,ht,rfl,rfl⟩
  generalize QF D.step D.entry D.is D.tick=e1 at ht1 ⊢
  have ht2:(0<=(QE D.step e1 D.tick).n/\(QE D.step e1 D.tick).n<=65535)/\(0<=(QE D.step e1 D.tick).at_/\(QE D.step e1 D.tick).at_<=1073741824)/\(QE D.step e1 D.tick).var=D.entry.var/\(QE D.step e1 D.tick).key=D.entry.key:=by
   obtain ⟨p1,p2⟩:=oU (s:=D.step) (e:=e1) (tick:=D.tick) hm6.1
   have p3:e1.at_+(if 0<D.tick - e1.at_ then D.tick - e1.at_ else 0)<=1073741824:=by split<;>omega
   have p4:0<=G6 D.step e1 D.tick*D.step.m:=Int.mul_nonneg p1 FM
   unfold QE
   split
   ·exact ⟨hn6,ht,ht1.2.2.1,ht1.2.2.2⟩
   ·exact ⟨by dsimp only;omega,by dsimp only;omega,ht1.2.2.1,ht1.2.2.2⟩
  generalize QE D.step e1 D.tick=e2 at ht2 ⊢
  refine J1 (D:={ D with entry:=QD e2 }) hD.head ?_
  dsimp only
  unfold QD
  split
  ·exact ⟨ht2.2.2.1,ht2.2.2.2,by dsimp only;omega,ht2.2.1⟩
  ·exact ⟨ht2.2.2.1,ht2.2.2.2,ht2.1,ht2.2.1⟩
theorem pX{l:List Fld}(hl:Iy l)(hln:l.length<=1073741824){p:List E7}(hp:okPrg l p){s:E7}(hs:s∈p){st:List E3}(hst:st.length<=1073741823)(he:RD p st){h:E5}(hr:FV h=true){tick:Int}(ht:0<=tick/\tick<=1073741824):
  FV (jl l s.step st h tick).1=true/\RD p (jl l s.step st h tick).2.2/\(jl l s.step st h tick).2.2.length<=st.length+1:=by
 unfold jl
 split
 ·exact ⟨hr,he,by dsimp only;omega⟩
 ·rename_i h0
  have hD:=ABD hl hln (hp.stp s hs) hst (λe hx=>(he e hx).1) (λe hx=>(he e hx).2 s hs) hr ht
  obtain ⟨l1,l2⟩:=mW hD h0
  have hent:(∀ t∈p,YO t.step (jm l s.step st h tick).entry)/\(jm l s.step st h tick).entry.key.length<=1048576 /\ ∀ x∈(jm l s.step st h tick).entry.key,0<=x:=by
   unfold jm
   dsimp only
   cases hf:P1 st s.step.var (QZ l s.step.key h) with
   | none =>
    refine ⟨λt ht h1 h2=>?_, ?_, ?_⟩
    ·rw [BE,Va]
     exact hp.key s hs t ht h0 h1 h2
    ·rw [BE,Va];exact (hp.stp s hs).klen
    ·rw [BE]
     intro x hx
     obtain ⟨nm,_,rfl⟩:=AO.1 hx
     omega
   | some y =>
    have hy:=he y (Sd hf)
    exact ⟨hy.2,hy.1.2.2.1,hy.1.2.2.2⟩
  dsimp only
  refine ⟨by split<;>assumption, ?_, ?_⟩
  ·rcases l2 with l2|⟨e,⟨v1,v2,v3,v4⟩,l2⟩
   ·rw [l2];exact he
   ·rw [l2]
    intro x hx
    rcases yb hx with rfl|hx
    ·exact ⟨⟨v3,v4,by rw [v2];exact hent.2.1,by rw [v2];exact hent.2.2⟩,λt ht h1 h2=>by rw [v2];rw [v1] at h2;exact hent.1 t ht h1 h2⟩
    ·exact he x hx
  ·rcases l2 with l2|⟨e,_,l2⟩
   ·rw [l2];exact EP _
   ·rw [l2];exact yc _ _
def gvG(l:List Fld)(tick:Int)(x:Policy)(given:List E5):List E5->Option (List E5)
 | []=>some given
 | g::r=>match vO l tick x g with
  | none=>none
  | some some'=>if 256<(given++some').length then none else gvG l tick x (given++some') r
def doG(l:List Fld)(s:Stp)(tick:Int)(a:List E5×List E3):List E5->List E5×List E3
 | []=>a
 | g::r=>doG l s tick (if (jl l s a.2 g tick).2.1=true then a.1++[(jl l s a.2 g tick).1] else a.1,(jl l s a.2 g tick).2.2) r
def Up(l:List Fld)(tick:Int)(a:List E5×List E3):List E7->Option (List E5×List E3)
 | []=>some a
 | s::r=>match gvG l tick s.policy [] a.1 with
  | none=>none
  | some given=>Up l tick (doG l s.step tick ([],a.2) given) r
def Tf(l:List Fld)(p:List E7)(st:List E3)(h:E5)(tick:Int):Option (List E5×List E3):=Up l tick ([h],st) p
def kT(st:List E3):Option (List E5×List E3)->AV
 | some a => .tup [.sl none (F0 a.1),.sl none (FX a.2),.int .i64 0]
 | none => .tup [.sl none [],.sl none (FX st),.int .i64 2]
theorem qd(st:List E3)(o:Option (List E5×List E3)):(kT st o).pure=true:=by
 cases o<;>simp [kT,AV.pure,FQ,ll,Jl]
theorem AFc(l:List Fld)(hl:Iy l)(hln:l.length<=1073741824)(p:List E7)(hp:okPrg l p)(st:List E3)(hlen:st.length+p.length*256<=1073741823)(hs:RD p st)(h:E5)(hr:FV h=true)(tick:Int)(ht:0<=tick/\tick<=1073741824):
  FO AA 11 [.sl none (GL l),.sl none (F7 p),.sl none (FX st),.agg h.c,.int .i64 tick] (kT st (Tf l p st h tick)):=by
 refine pB AXv rfl ?_ (hv:=qd _ _)
 simp only [f11,go_sem]
 refine Fo p (λ(s:(List E5×List E3)×FN) (r:List E7)=>Up l tick s.1 r) (λk s=>RD p s.1.2/\(∀ z∈s.1.1,FV z=true)/\s.1.2.length<=st.length+k*256/\s.1.1.length<=256)
  (λk s=>[(0,.sl none (GL l)),(2,.sl none (FX st)),(4,.int .i64 tick),(13,.sl (some 10) (F0 s.1.1)),(14,.sl none (FX s.1.2)),(28,.sl none (F7 p)),(29,.int .i64 p.length),(30,.int .i64 k)])
  (λ_ s=>s.2) (([h],st),[some h.c]) FM ⟨hs,by simpa using hr,sm,sm⟩ ?_ rfl ?_ ?_
 ·rfl
 ·rintro k ⟨⟨pk,now⟩,Y⟩ S Ss hd hx ⟨i1,i2,i3,i4⟩ hF h0 h1 hw
  dsimp only at i1 i2 i3 i4 hF ⊢
  have hSp:=AB hx
  have hkl:=(AD.1 hx).1
  have gS : ∀ y L,(Y++y::L)[Y.length]? =some y:=λy L=>sm
  have gS0 : ∀ y,(Y++[y])[Y.length]? =some y:=λy=>sm
  have sS0 : ∀ y z,(Y++[y]).set Y.length z=Y++[z]:=λy z=>sm
  have gN : ∀ y L z,(Y++y::(L++[z]))[List.length (Y++y::L)]? =some z:=λy L z=>by
   have:Y++y::(L++[z])=(Y++y::L)++[z]:=sm
   rw [this];exact Bj
  have sN : ∀ y L z z2,(Y++y::(L++[z])).set (List.length (Y++y::L)) z2=Y++y::(L++[z2]):=λy L z z2=>by
   have:Y++y::(L++[z])=(Y++y::L)++[z]:=sm
   rw [this];simp
  have b2:((2:Int) !=0)=true:=rfl
  have b0:((0:Int) !=0)=false:=rfl
  simp only [go_sem,h0,h1,Fe hx,gS,gS0,sS0]
  refine Fo pk (λ(s:List E5×FN) (r:List E5)=>gvG l tick S.policy s.1 r) (λ_ s=>(∀ z∈s.1,FV z=true)/\s.1.length<=256)
   (λj s=>[(0,.sl none (GL l)),(2,.sl none (FX st)),(4,.int .i64 tick),(14,.sl none (FX now)),(16,.ptr Y.length 0),(17,.sl (some 10) (F0 s.1)),(28,.sl none (F7 p)),(29,.int .i64 p.length),(30,.int .i64 k),(34,.sl (some 10) (F0 pk)),(35,.int .i64 pk.length),(36,.int .i64 j)])
   (λ_ s=>Y++some S.c::s.2) ([],[]) FM ⟨sm,sm⟩ ?_ rfl ?_ ?_
  ·rfl
  ·rintro j ⟨gv,L⟩ g gs hd2 hx2 ⟨j1,j2⟩ hF2 g0 g1 gw
   dsimp only at j1 j2 hF2 ⊢
   have hrg:=i2 g (AB hx2)
   have c1:=ADZ l hl FM S.policy (hp.pol S hSp) tick g hrg
   have e2:=gvG.eq_2 l tick S.policy gv g gs
   simp only [go_sem,g0,g1,HJ hx2,gS,gN,sN]
   cases ev:vO l tick S.policy g with
   | none =>
    rw [ev] at c1 e2
    have hres:Tf l p st h tick=none:=by rw [Tf,hF,Up,hF2,e2]
    rw [hres]
    refine pK c1 ?_
    simp only [go_sem,b2]
    exact ⟨FM,FM,rfl⟩
   | some x =>
    rw [ev] at c1 e2
    have hgx:=Q2 l hl tick S.policy (hp.pol S hSp) g x hrg ev
    have hgl:=hgx.2.1
    refine pK c1 ?_
    simp only [go_sem,b0]
    refine ⟨FM,FM, ?_⟩
    by_cases h256:256<(gv++x).length
    ·have hres:Tf l p st h tick=none:=by rw [Tf,hF,Up,hF2,e2];simp only [iP h256]
     have h256b:(256:Int)<((gv++x).length:Int):=FM
     rw [hres]
     simp only [go_sem,h256b,dT]
     rfl
    ·have h256b : ¬ (256:Int)<((gv++x).length:Int):=FM
     simp only [iN h256] at e2
     simp only [go_sem,h256b,dF,gw]
     refine ⟨(gv++x,L++[some g.c]),by rw [e2],⟨λz hz=>?_,by rw [AE] at h256 ⊢;omega⟩, ?_, ?_⟩
     ·rcases Ay.1 hz with hz|hz
      ·exact j1 z hz
      ·exact hgx.2.2 z hz
     ·rfl
     ·rfl
  ·rintro ⟨gv,L⟩ ⟨j1,j2⟩ hF2
   dsimp only at j1 j2 hF2 ⊢
   have hgv:gvG l tick S.policy [] pk=some gv:=hF2
   have hF4:Up l tick ([h],st) p=Up l tick (doG l S.step tick ([],now) gv) Ss:=by rw [hF,Up,hgv]
   simp only [go_sem,AY,dF]
   refine Fo gv (λ(s:(List E5×List E3)×FN) (r:List E5)=>doG l S.step tick s.1 r) (λj s=>RD p s.1.2/\(∀ z∈s.1.1,FV z=true)/\s.1.2.length<=now.length+j/\s.1.1.length<=j)
    (λj s=>[(0,.sl none (GL l)),(2,.sl none (FX st)),(4,.int .i64 tick),(13,.sl (some 10) (F0 s.1.1)),(14,.sl none (FX s.1.2)),(16,.ptr Y.length 0),(28,.sl none (F7 p)),(29,.int .i64 p.length),(30,.int .i64 k),(61,.sl (some 10) (F0 gv)),(62,.int .i64 gv.length),(63,.int .i64 j)])
    (λ_ s=>Y++some S.c::s.2) (([],now),L) FM ⟨i1,sm,sm,sm⟩ ?_ rfl ?_ ?_
   ·rfl
   ·rintro j ⟨⟨pk2,now2⟩,L2⟩ g gs hd2 hx2 ⟨q1,q2,q3,q4⟩ hF3 g0 g1 gw
    dsimp only at q1 q2 q3 q4 hF3 ⊢
    have hrg:=j1 g (AB hx2)
    have hjl:=(AD.1 hx2).1
    have c1:=Abh l hl hln S.step (hp.stp S hSp) now2 FM (λe he=>(q1 e he).1) (λe he=>(q1 e he).2 S hSp) g hrg tick ht
    obtain ⟨d1,d2,d3⟩:=pX hl hln hp hSp (st:=now2) FM q1 hrg ht
    have e2:=doG.eq_2 l S.step tick (pk2,now2) g gs
    dsimp only at e2
    generalize jl l S.step now2 g tick=R at c1 d1 d2 d3 e2
    obtain ⟨g',b,now'⟩:=R
    dsimp only at c1 d1 d2 d3 e2
    simp only [go_sem,g0,g1,HJ hx2,gS,gN,sN]
    refine pK c1 ?_
    cases b with
    | true =>
     simp only [go_sem,gS,gN,sN,gw]
     refine ⟨FM,FM,((pk2++[g'],now'),L2++[some g'.c]),by rw [e2,iP rfl],⟨d2,λz hz=>?_,by dsimp only;omega,by rw [AE];exact Do q4⟩,rfl,rfl⟩
     rcases Ay.1 hz with hz|hz
     ·exact q2 z hz
     ·rcases Al.1 hz with rfl;exact d1
    | false =>
     simp only [go_sem,gS,gN,sN,gw]
     exact ⟨((pk2,now'),L2++[some g'.c]),by rw [e2,iN dc],⟨d2,q2,by dsimp only;omega,by dsimp only;omega⟩,rfl,rfl⟩
   ·rintro ⟨⟨pk2,now2⟩,L2⟩ ⟨q1,q2,q3,q4⟩ hF3
    dsimp only at q1 q2 q3 q4 hF3 ⊢
    simp only [go_sem,AY,dF,hw]
    exact ⟨((pk2,now2),_),by rw [<- hF,hF4,hF3];rfl,⟨q1,q2,by dsimp only;omega,by dsimp only;omega⟩,rfl,rfl⟩
 ·rintro ⟨⟨pk,now⟩,Y⟩ ⟨i1,i2,i3,i4⟩ hF
  dsimp only at i1 i2 i3 i4 hF ⊢
  simp only [go_sem,AY,dF]
  rw [Tf,hF];rfl
def Kv(l:List E8):List AV:=l.map λx => .agg x.c
@[go_sem] theorem ASg(l:List E8):(Kv l).length=l.length:=by simp [Kv]
theorem rn{l:List E8}{i:Nat}{x:E8}(h:l[i]? =some x):(Kv l)[i]? =some (.agg x.c):=by simp [Kv,h]
@[go_sem] theorem AHF(a:List E8)(x:E8):Kv a++[.agg x.c]=Kv (a++[x]):=by simp [Kv]
def GS(l:List E9):List AV:=l.map λx => .agg x.c
@[go_sem] theorem XF(l:List E9):(GS l).length=l.length:=by simp [GS]
theorem Px{l:List E9}{i:Nat}{x:E9}(h:l[i]? =some x):(GS l)[i]? =some (.agg x.c):=by simp [GS,h]
@[go_sem] theorem AAC(a:List E9)(x:E9):GS a++[.agg x.c]=GS (a++[x]):=by simp [GS]
@[go_sem] theorem VW(l:List E9):FQ (GS l)=true:=by
 induction l with
 | nil=>rfl
 | cons x xs ih=>simpa [GS,FQ,AV.pure] using ⟨T9 x,ih⟩
def G8(l:List (List E3)):List AV:=l.map λx => .sl none (FX x)
@[go_sem] theorem Ml(l:List (List E3)):(G8 l).length=l.length:=by simp [G8]
theorem IQ{l:List (List E3)}{i:Nat}{x:List E3}(h:l[i]? =some x):(G8 l)[i]? =some (.sl none (FX x)):=by simp [G8,h]
@[go_sem] theorem AFj(l:List (List E3)):(∀ x∈G8 l,x.cells.length=1)=True:=eq_true λx hx=>by
 obtain ⟨y,_,rfl⟩:=AO.1 hx;rfl
@[go_sem] theorem rU(l:List (List E3)):FQ (G8 l)=true:=by
 induction l with
 | nil=>rfl
 | cons x xs ih=>simpa [G8,FQ,AV.pure] using ⟨Jl x,ih⟩
theorem zt(l:List (List E3)):(HM (G8 l)).map borrow1=G8 l:=by
 induction l with
 | nil=>rfl
 | cons x l ih =>
  have:HM (G8 (x::l)) = .sl none (FX x)::HM (G8 l):=rfl
  rw [this,AT,ih];rfl
def fD:E4:={ h29 with mt:=[5,7],tk:=[] }
@[go_sem] theorem AbO(k:Nat):fD.lv k=h29.lv k/\fD.ct k=h29.ct k/\fD.at k=h29.at k/\fD.dn k=h29.dn k:=⟨AH rfl rfl,AH rfl rfl,AH rfl rfl,AH rfl rfl⟩
@[go_sem] theorem Ab1:fD.tk=[]/\fD.mt=[5,7]/\fD.pc=[]:=⟨rfl,rfl,rfl⟩
theorem AHU:FK AA 29 f29 fD:=⟨kr,kr,func29,kr⟩
theorem zG(l:List (List E3))(hl:l.length<=1073741824)(H:FN):FT AA 29 [.sl none (G8 l)] H λv H'=>(l=[]/\v = .sl (some 1) []/\H'=H)\/(v = .msl (H.length+1) 0 l.length 1/\H'=H++[none,some (G8 l)]):=by
 have el:(G8 l).length=l.length:=Ml l
 have g1 : ∀ (x:Option (List AV)),(H++[x])[H.length]? =some x:=λx=>sm
 have g2 : ∀ (x y:Option (List AV)),(H++[x]).set H.length y=H++[y]:=λx y=>sm
 refine aC AHU rfl ?_
 cases l with
 | nil =>
  have e0:G8 []=[]:=rfl
  rw [e0]
  simp only [f29,go_sem,g1,g2]
  simp
 | cons x l =>
  have hcs:G8 (x::l) = .sl none (FX x)::G8 l:=rfl
  have hcat:=zt (x::l)
  rw [hcs] at hcat el ⊢
  simp only [AC] at hl
  simp only [f29,go_sem,g1,g2]
  exact ⟨FM,FM,.inr ⟨sm,by rw [hcat]⟩⟩
theorem yk(q:List E8)(hq:q.length<=1048576)(x:E8)(w:Option Nat)(H:FN)(o:Nat)(ho:H[o]? =some (some [.sl (some 12) (Kv q)])):
  FT AA 28 [.agg (x.cf w),.ptr o 0] H λv H'=>v = .tup [] /\ ∃ ext,H'=H.set o (some [.sl (some 12) (Kv (q++[x]))])++ext:=by
 have hlt:=(AD.1 ho).1
 have g1:=A' ho
 have gB : ∀ y L,(H++y::L)[H.length]? =some y:=λy L=>sm
 have s1 : ∀ (L:FN) y,(H++L).set o y=H.set o y++L:=λL y=>LK hlt L
 have gS : ∀ x L,(H.set o x++L)[o]? =some x:=λx L=>Ul hlt x L
 have gM : ∀ x y L,(H.set o x++y::L)[H.length]? =some y:=λx y L=>by
  rw [AM sm];simp
 have sA : ∀ x L y,(H.set o x++L).set o y=H.set o y++L:=λx L y=>by rw [LK (by rw [An];exact hlt),BB]
 refine aC AXZ rfl ?_
 cases w<;>simp only [f28,go_sem,ho,g1,gB,s1,gS,sA,gM]
 ·exact ⟨FM,FM⟩
 ·exact ⟨FM,FM⟩
theorem pM{l:List Fld}(hl:Iy l){tick:Int}{x:Policy}(hx:Hf l x): ∀ (pk:List E5) {gv r:List E5},(∀ z∈pk,FV z=true)->(∀ z∈gv,FV z=true)->gv.length<=256->gvG l tick x gv pk=some r->(∀ z∈r,FV z=true)/\r.length<=256
 | [],gv,r,_,hg,hn,e=>by
  rw [gvG] at e
  cases e
  exact ⟨hg,hn⟩
 | g::pk,gv,r,hp,hg,hn,e=>by
  rw [gvG] at e
  have hrg:=hp g (Cc ..)
  cases ev:vO l tick x g with
  | none=>rw [ev] at e;cases e
  | some y =>
   rw [ev] at e
   have hy:=Q2 l hl tick x hx g y hrg ev
   by_cases h256:256<(gv++y).length
   ·simp only [iP h256] at e
    cases e
   ·simp only [iN h256] at e
    refine pM hl hx pk (λz hz=>hp z (B9 _ hz)) (λz hz=>?_) FM e
    rcases Ay.1 hz with hz|hz
    ·exact hg z hz
    ·exact hy.2.2 z hz
theorem pY{l:List Fld}(hl:Iy l)(hln:l.length<=1073741824){p:List E7}(hp:okPrg l p){s:E7}(hs:s∈p){tick:Int}(ht:0<=tick/\tick<=1073741824): ∀ (gv:List E5) {pk:List E5} {st:List E3},(∀ z∈gv,FV z=true)->(∀ z∈pk,FV z=true)->RD p st->st.length+gv.length<=1073741823 ->
  (∀ z∈(doG l s.step tick (pk,st) gv).1,FV z=true)/\RD p (doG l s.step tick (pk,st) gv).2/\(doG l s.step tick (pk,st) gv).1.length<=pk.length+gv.length/\(doG l s.step tick (pk,st) gv).2.length<=st.length+gv.length
 | [],pk,st,_,hpk,hst,_=>⟨hpk,hst,AU _,AU _⟩
 | g::gv,pk,st,hg,hpk,hst,hln2=>by
  rw [AC] at hln2
  have hrg:=hg g (Cc ..)
  obtain ⟨d1,d2,d3⟩:=pX hl hln hp hs (st:=st) FM hst hrg ht
  rw [doG]
  dsimp only
  generalize jl l s.step st g tick=R at d1 d2 d3
  obtain ⟨g',b,now'⟩:=R
  dsimp only at d1 d2 d3 ⊢
  have ih:=λpk2 hpk2=>pY hl hln hp hs ht gv (pk:=pk2) (st:=now') (λz hz=>hg z (B9 _ hz)) hpk2 d2 FM
  rw [AC]
  cases b with
  | true =>
   rw [iP rfl]
   obtain ⟨i1,i2,i3,i4⟩:=ih (pk++[g']) (λz hz=>by
    rcases Ay.1 hz with hz|hz
    ·exact hpk z hz
    ·rcases Al.1 hz with rfl;exact d1)
   rw [AE,Bs] at i3
   exact ⟨i1,i2,FM,FM⟩
  | false =>
   rw [iN dc]
   obtain ⟨i1,i2,i3,i4⟩:=ih pk hpk
   exact ⟨i1,i2,FM,FM⟩
theorem cQ{l:List Fld}(hl:Iy l)(hln:l.length<=1073741824){p:List E7}(hp:okPrg l p){tick:Int}(ht:0<=tick/\tick<=1073741824): ∀ (r:List E7) {a b:List E5×List E3},(∀ s∈r,s∈p)->(∀ z∈a.1,FV z=true)->a.1.length<=256->RD p a.2->a.2.length+r.length*256<=1073741823->Up l tick a r=some b ->
  (∀ z∈b.1,FV z=true)/\b.1.length<=256/\RD p b.2/\b.2.length<=a.2.length+r.length*256
 | [],a,b,_,h1,h2,h3,_,e=>by
  rw [Up] at e
  cases e
  exact ⟨h1,h2,h3,FM⟩
 | s::r,a,b,hr,h1,h2,h3,h4,e=>by
  rw [AC] at h4
  rw [Up] at e
  have hs:=hr s (Cc ..)
  cases eg:gvG l tick s.policy [] a.1 with
  | none=>rw [eg] at e;cases e
  | some gv =>
   rw [eg] at e
   dsimp only at e
   obtain ⟨g1,g2⟩:=pM hl (hp.pol s hs) a.1 h1 sm sm  eg
   obtain ⟨d1,d2,d3,d4⟩:=pY hl hln hp hs ht gv (pk:=[]) (st:=a.2) g1 sm h3 FM
   rw [AG] at d3
   obtain ⟨r1,r2,r3,r4⟩:=cQ hl hln hp ht r (λz hz=>hr z (B9 _ hz)) d1 FM d2 FM e
   rw [AC]
   exact ⟨r1,r2,r3,FM⟩
theorem cP{l:List Fld}(hl:Iy l)(hln:l.length<=1073741824){p:List E7}(hp:okPrg l p){tick:Int}(ht:0<=tick/\tick<=1073741824){st:List E3}(hst:RD p st)(hlen:st.length+p.length*256<=1073741823){h:E5}(hr:FV h=true){b:List E5×List E3}(e:Tf l p st h tick=some b):
  (∀ z∈b.1,FV z=true)/\b.1.length<=256/\RD p b.2/\b.2.length<=st.length+p.length*256 :=
 cQ hl hln hp ht p (a:=([h],st)) (λ_ h=>h) (by simpa using hr) sm hst hlen e
def vf(t:FA)(p:E5):E5×Bool:=P2 (JB t p.h0) p
def PX(t:FA)(h:E5):E5×Bool:=Ka (Hq t (i64 (h.h0 - 10000))) h
def Wu(s:FB)(t:FA)(p:E5)(tick:Int):Int:=H9 (kI s t.name p tick) s.contracts
def xM(s:FB)(x:E8)(t:FA)(tick:Int)(a:List E8×List E9)(p:E5):List E8×List E9 :=
 if (vf t p).2=false then a
 else if Wu s t p tick<0 then (a.1,a.2++[⟨x.tenant,(vf t p).1,x.chain⟩])
 else match s.contracts[(Wu s t p tick).toNat]? with
  | none=>a
  | some d=>(a.1++[⟨Hn s d.dst,{ p with h0:=d.toPort },x.chain++[Wu s t p tick]⟩],a.2)
def ck(s:FB)(x:E8)(t:FA)(tick:Int)(a:List E8×List E9):List E5->List E8×List E9
 | []=>a
 | p::r=>ck s x t tick (xM s x t tick a p) r
def Ol(h:E5):Nat->List FA->List E8
 | _,[]=>[]
 | k,t::r=>if (PX t h).2=true then ⟨(k:Nat),(PX t h).1,[]⟩::Ol h (k+1) r else Ol h (k+1) r
def cGo(s:FB)(tick:Int):Nat->Nat->List E8->List (List E3)->List E9->Option (List E9×List (List E3))
 | 0,_,_,_,_=>none
 | f+1,n,q,now,out=>match q[n]? with
  | none=>some (out,now)
  | some x=>match s.tenants[x.tenant.toNat]?,now[x.tenant.toNat]? with
   | some t,some st=>match Tf s.fields (GP t).1 st x.head tick with
    | none=>none
    | some b=>if 256<(ck s x t tick (q,out) b.1).1.length then none else cGo s tick f (n+1) (ck s x t tick (q,out) b.1).1 (now.set x.tenant.toNat b.2) (ck s x t tick (q,out) b.1).2
   | _,_=>none
def Tt(s:FB)(sts:List (List E3))(h:E5)(tick:Int):Option (List E9×List (List E3)):=cGo s tick 600 0 (Ol h 0 s.tenants) sts []
def YF(sts:List (List E3)):Option (List E9×List (List E3))->AV
 | some a => .tup [.sl none (GS a.1),.sl none (G8 a.2),.int .i64 0]
 | none => .tup [.sl none [],.sl none (G8 sts),.int .i64 2]
theorem kU(sts:List (List E3))(o:Option (List E9×List (List E3))):(YF sts o).pure=true:=by
 cases o<;>simp [YF,AV.pure,FQ,VW,rU]
structure okRun (s:FB) (sts:List (List E3)) (h:E5) (tick:Int):Prop where
 bulk:FP s.c<=1048576
 fld:Iy s.fields
 ten:s.tenants.length<=256
 tick:0<=tick/\tick<=1073741824
 len:sts.length=s.tenants.length
 prg : ∀ (k:Nat) (t:FA),s.tenants[k]? =some t->okPrg s.fields (GP t).1/\(GP t).1.length<=1000
 whole : ∀ t∈s.tenants,FO AA 10 [.agg t.c] (.tup [.sl none (F7 (GP t).1),.int .i64 (GP t).2])
 st : ∀ (k:Nat) (t:FA) (st:List E3),s.tenants[k]? =some t->sts[k]? =some st->RD (GP t).1 st/\st.length<=268435456
 pred : ∀ c∈s.contracts,IE s.fields c.pred
 to : ∀ c∈s.contracts,0<=Hn s c.dst/\Hn s c.dst<(s.tenants.length:Int)
 port : ∀ c∈s.contracts,0<=c.toPort/\c.toPort<=65535
 prt : ∀ t∈s.tenants,t.ports.length<=1073741824
 ent : ∀ t∈s.tenants,(PX t h).2=true->FV (PX t h).1=true
def MA:E4:={ h6 with pc:=[46,76,91,112,122,131,143,158],fz:=[(36,[(9,none,false)])] }
@[go_sem] theorem Abo(k:Nat):MA.lv k=h6.lv k:=AH rfl rfl
@[go_sem] theorem Abq(k:Nat):MA.ct k=h6.ct k:=AH rfl rfl
@[go_sem] theorem Abp(k:Nat):MA.dn k=h6.dn k:=AH rfl rfl
@[go_sem] theorem Abr:MA.at 0=[]/\MA.at 1=[]/\MA.at 2=[]/\MA.at 3=[]/\MA.at 4=[]/\MA.at 5=[]/\MA.at 6=[]/\MA.at 7=[]/\MA.at 8=[]/\MA.at 9=[]/\MA.at 10=[]/\MA.at 11=[]/\MA.at 12=[]/\MA.at 13=[]/\MA.at 14=[]/\MA.at 15=[]/\MA.at 16=[]/\MA.at 17=[]/\MA.at 18=[]/\MA.at 19=[]/\MA.at 20=[]/\MA.at 21=[]/\MA.at 22=[]/\MA.at 23=[]/\MA.at 24=[]/\MA.at 25=[]/\MA.at 26=[]/\MA.at 27=[]/\MA.at 28=[]/\MA.at 29=[]/\MA.at 30=[]/\MA.at 31=[]/\MA.at 32=[]/\MA.at 33=[]/\MA.at 34=[]/\MA.at 35=[]/\MA.at 36=[(9,none,false)]:=⟨rfl,rfl,rfl,rfl,rfl,rfl,rfl,rfl,rfl,rfl,rfl,rfl,rfl,rfl,rfl,rfl,rfl,rfl,rfl,rfl,rfl,rfl,rfl,rfl,rfl,rfl,rfl,rfl,rfl,rfl,rfl,rfl,rfl,rfl,rfl,rfl,rfl⟩
@[go_sem] theorem Aex:MA.tk=[82,97,101,103,125,168,169,170]/\MA.mt=[]/\MA.pc=[46,76,91,112,122,131,143,158]:=⟨rfl,rfl,rfl⟩
theorem AUd:FK AA 6 f6 MA:=⟨kr,kr,func6,kr⟩
theorem AHC(l:List (List E3)):(G8 l).map borrow1=G8 l:=by
 induction l with
 | nil=>rfl
 | cons x l ih =>
  have:G8 (x::l) = .sl none (FX x)::G8 l:=rfl
  rw [this,AT,ih];rfl
theorem lW(l:List (List E3)):IV false 1 l.length (G8 l)=G8 l:=by
 have:=mg (G8 l)
 rwa [Ml] at this
structure okC6 (s:FB) (sts:List (List E3)) (h:E5) (tick:Int) (pn f n:Nat) (q:List E8) (now:List (List E3)) (out:List E9) (X:FN):Prop where
 c0:X[0]? =some (some s.c)
 c2:X[2]? =some (some [.sl (some 12) (Kv q)])
 cn:X[pn]? =some (some (G8 now))
 fuel:n+f=600
 res:Tt s sts h tick=cGo s tick f n q now out
 ql:q.length<=256/\n<=q.length/\out.length<=n*256
 itm : ∀ (i:Nat) (x:E8),q[i]? =some x->FV x.head=true/\(0<=x.tenant/\x.tenant<(s.tenants.length:Int))/\x.chain.length<=i
 nl:now.length=s.tenants.length
 st : ∀ (k:Nat) (t:FA) (st:List E3),s.tenants[k]? =some t->now[k]? =some st->RD (GP t).1 st/\st.length<=268435456+n*256000
structure okP6 (s:FB) (x:E8) (t:FA) (n pn ox:Nat) (now:List (List E3)) (q:List E8) (out:List E9) (Z:FN) (j:Nat):Prop where
 c0:Z[0]? =some (some s.c)
 c2:Z[2]? =some (some [.sl (some 12) (Kv q)])
 cn:Z[pn]? =some (some (G8 now))
 cx:Z[ox]? =some (some x.c)
 ct:Z[ox+1]? =some (some t.c)
 len:ox+2<=Z.length
 itm : ∀ (i:Nat) (y:E8),q[i]? =some y->FV y.head=true/\(0<=y.tenant/\y.tenant<(s.tenants.length:Int))/\y.chain.length<=i
 ql:n<q.length/\q.length<=256+j
 ol:out.length<=n*256+j
theorem okP6.grow{s:FB}{x:E8}{t:FA}{n pn ox:Nat}{now:List (List E3)}{q:List E8}{out:List E9}{Z:FN}{j:Nat}(h:okP6 s x t n pn ox now q out Z j)(L:FN):okP6 s x t n pn ox now q out (Z++L) (j+1) :=
 ⟨A' h.c0 _,A' h.c2 _,A' h.cn _,A' h.cx _,A' h.ct _,by rw [AE];have:=h.len;omega,h.itm,⟨h.ql.1,by have:=h.ql.2;omega⟩,by have:=h.ol;omega⟩
theorem okP6.out{s:FB}{x:E8}{t:FA}{n pn ox:Nat}{now:List (List E3)}{q:List E8}{out:List E9}{Z:FN}{j:Nat}(h:okP6 s x t n pn ox now q out Z j)(L:FN)(d:E9):okP6 s x t n pn ox now q (out++[d]) (Z++L) (j+1) :=
 ⟨A' h.c0 _,A' h.c2 _,A' h.cn _,A' h.cx _,A' h.ct _,by rw [AE];have:=h.len;omega,h.itm,⟨h.ql.1,by have:=h.ql.2;omega⟩,by rw [AE,Bs];have:=h.ol;omega⟩
theorem okP6.put{s:FB}{x:E8}{t:FA}{n pn ox:Nat}{now:List (List E3)}{q:List E8}{out:List E9}{Z:FN}{j:Nat}(h:okP6 s x t n pn ox now q out Z j)(L M:FN)(d:E8)(hp:2<pn)(hox:2<ox)(hd:FV d.head=true/\(0<=d.tenant/\d.tenant<(s.tenants.length:Int))/\d.chain.length<=n+1):
  okP6 s x t n pn ox now (q++[d]) out ((Z++L).set 2 (some [.sl (some 12) (Kv (q++[d]))])++M) (j+1):=by
 have h2:=(AD.1 h.c2).1
 have hs : ∀ (i:Nat) (v:Option (List AV)),i≠2->Z[i]? =some v->((Z++L).set 2 (some [.sl (some 12) (Kv (q++[d]))])++M)[i]? =some v:=λi v hi hv=>A' (by rw [A6 (Ne.symm hi)];exact A' hv _) _
 refine ⟨hs 0 _ FM h.c0,A' (Az (by rw [AE];omega)) _,hs pn _ FM h.cn,hs ox _ FM h.cx,hs (ox+1) _ FM h.ct,by rw [AE,An,AE];have:=h.len;omega,λi y hy=>?_,⟨by rw [AE];have:=h.ql.1;omega,by rw [AE,Bs];have:=h.ql.2;omega⟩,by have:=h.ol;omega⟩
 rw [List.getElem?_append] at hy
 split at hy
 ·exact h.itm i y hy
 ·rename_i hi
  have hql:=h.ql.1
  have:i=q.length:=by
   by_cases he:i - q.length=0
   ·omega
   ·rw [Ax (by rw [Bs];omega)] at hy
    cases hy
  subst this
  rw [AQ] at hy
  cases hy
  exact ⟨hd.1,hd.2.1,by have:=hd.2.2;omega⟩
theorem zr(l:List (List E3))(i:Nat)(e:List E3)(h:i<l.length):splice (G8 l) i [.sl none (FX e)]=G8 (l.set i e):=by
 unfold splice
 rw [C7,iP h]
 simp [G8]
theorem AGu(s:FB)(sts:List (List E3))(h:E5)(tick:Int)(hr:FV h=true)(R:okRun s sts h tick):FO AA 6 [.agg s.c,.sl none (G8 sts),.agg h.c,.int .i64 tick] (YF sts (Tt s sts h tick)):=by
 have hnt:=R.ten
 refine pB AUd rfl ?_ (hv:=kU _ _)
 simp only [f6,go_sem]
 refine Fo s.tenants (λ(_:List E8×FN) (_:List FA)=>()) (λk a=>a.1++Ol h k (s.tenants.drop k)=Ol h 0 s.tenants/\a.1.length<=k /\ ∀ x∈a.1,x.chain=[]/\FV x.head=true/\0<=x.tenant/\x.tenant<(s.tenants.length:Int))
  (λk _=>[(1,.sl none (G8 sts)),(3,.int .i64 tick),(4,.ptr 0 0),(6,.ptr 1 0),(11,.ptr 2 0),(12,.fn (.func 28) [] [.ptr 2 0]),(36,.sl none (HT s.tenants)),(37,.int .i64 s.tenants.length),(38,.int .i64 k)])
  (λ_ a=>some s.c::some h.c::some [.sl (some 12) (Kv a.1)]::a.2) ([],[]) FM ⟨rfl,sm,sm⟩ rfl rfl ?_ ?_
 ·rintro k ⟨q,J⟩ t ts hd hx ⟨i1,i2,i3⟩ _ h0 h1 hw
  dsimp only at i1 i2 i3 ⊢
  have htm:=AB hx
  have hkl:=(AD.1 hx).1
  have c1:=aH t (R.prt t htm) h
  have ht:=R.ent t htm
  rw [hd,Ol] at i1
  have hd2:s.tenants.drop (k+1)=ts:=by rw [<- A9,hd];rfl
  have eT:Ka (Hq t (i64 (h.h0 - 10000))) h=PX t h:=rfl
  rw [eT] at c1
  have gN : ∀ a b c (L:FN) z,(a::b::c::(L++[z]))[List.length (a::b::c::L)]? =some z:=λa b c L z=>by
   have:a::b::c::(L++[z])=(a::b::c::L)++[z]:=sm
   rw [this];exact Bj
  have sN : ∀ a b c (L:FN) z z2,(a::b::c::(L++[z])).set (List.length (a::b::c::L)) z2=a::b::c::(L++[z2]):=λa b c L z z2=>by
   have:a::b::c::(L++[z])=(a::b::c::L)++[z]:=sm
   rw [this];simp
  simp only [go_sem,h0,h1,Fq hx,gN,sN]
  refine pK c1 ?_
  cases he:(PX t h).2 with
  | false =>
   rw [he,iN dc] at i1
   simp only [go_sem,gN,sN,he,hw]
   exact ⟨(q,_),⟨by rw [hd2];exact i1,by dsimp only;omega,i3⟩,rfl,rfl⟩
  | true =>
   rw [he,iP rfl] at i1
   simp only [go_sem,gN,sN,he,hw]
   refine Fs.intro (yk q FM ⟨(k:Nat),(PX t h).1,[]⟩ (some 1) _ 2 rfl) λv H' hq=>?_
   obtain ⟨rfl,ext,rfl⟩:=hq
   simp only [go_sem,hw]
   refine ⟨(q++[⟨(k:Nat),(PX t h).1,[]⟩],_),⟨by rw [hd2,AF];exact i1,by rw [AE];exact Do i2,λx hx=>?_⟩,rfl,rfl⟩
   rcases Ay.1 hx with hx|hx
   ·exact i3 x hx
   ·rcases Al.1 hx with rfl
    exact ⟨rfl,ht he,by dsimp only;omega,by dsimp only;omega⟩
 ·rintro ⟨q,J⟩ ⟨i1,i2,i3⟩ _
  dsimp only at i1 i2 i3 ⊢
  have hq0:q=Ol h 0 s.tenants:=by rw [<- i1,List.drop_length,Ol,Ah]
  simp only [go_sem,AY,dF]
  refine Fs.intro (zG sts (by have:=R.len;omega) _) λv H' hq=>?_
  rcases hq with ⟨hnil,rfl,rfl⟩|⟨rfl,rfl⟩
  ·have ht0:s.tenants=[]:=List.length_eq_zero_iff.1 (by rw [<- R.len,hnil];rfl)
   have hq1:q=[]:=by rw [hq0,ht0];rfl
   have hres:Tt s sts h tick=some ([],[]):=by unfold Tt;rw [ht0,hnil];rfl
   subst hq1
   rw [hres]
   simp only [go_sem]
   refine Kj (σ:=Unit) (λ_=>[(1,.sl none (G8 sts)),(3,.int .i64 tick),(4,.ptr 0 0),(11,.ptr 2 0),(12,.fn (.func 28) [] [.ptr 2 0]),(17,.sl (some 1) []),(18,.sl (some 12) []),(19,.int .i64 0)])
    (λ_=>some s.c::some h.c::some [.sl (some 12) (Kv [])]::J) (λ_=>True) (λ_=>0) () trivial rfl rfl λ_ _=>?_
   have z0 : ¬ ((0:Int)<((0:Nat):Int)):=dc
   simp only [go_sem,z0,dF,AG]
   rfl
  ·simp only [go_sem]
   generalize hpn:List.length (some s.c::some h.c::some [AV.sl (some 12) (Kv q)]::J)+1=pn
   refine Kj (σ:=Nat×Nat×List E8×List (List E3)×List E9×FN) (λa=>[(1,.sl none (G8 sts)),(3,.int .i64 tick),(4,.ptr 0 0),(11,.ptr 2 0),(12,.fn (.func 28) [] [.ptr 2 0]),(17,.msl pn 0 sts.length 1),(18,.sl (some 12) (GS a.2.2.2.2.1)),(19,.int .i64 a.2.1)])
    (λa=>a.2.2.2.2.2) (λa=>okC6 s sts h tick pn a.1 a.2.1 a.2.2.1 a.2.2.2.1 a.2.2.2.2.1 a.2.2.2.2.2) (λa=>a.1) (600,0,q,sts,[],_) ?_ rfl rfl ?_
   ·refine ⟨rfl,rfl, ?_,rfl,by rw [hq0];rfl,⟨by dsimp only;omega,BY _,BY _⟩,λi x hx=>?_,R.len,λk t st h1 h2=>?_⟩
    ·subst hpn
     simp
    ·obtain ⟨y1,y2,y3,y4⟩:=i3 x (AB hx)
     exact ⟨y2,⟨y3,y4⟩,by rw [y1];exact BY _⟩
    ·have:=R.st k t st h1 h2
     exact ⟨this.1,by have:=this.2;dsimp only;omega⟩
   rintro ⟨f,n,q,now,out,X⟩ hI
   dsimp only at hI ⊢
   clear i1 i2 i3 hq0
   obtain ⟨x1,x2,x3,x4,x5,x6,x7,x8,x9⟩:=hI
   simp only [go_sem,x2]
   refine cS ?_ ?_<;>intro hc
   ·have hc:=of_decide_eq_true hc
    have hnl:n<q.length:=FM
    obtain ⟨x,hx⟩ : ∃ x,q[n]? =some x:=⟨_,AL hnl⟩
    obtain ⟨hxr,⟨hx0,hx1⟩,hxc⟩:=x7 n x hx
    obtain ⟨m,hm⟩ : ∃ m:Nat,x.tenant=(m:Int):=⟨x.tenant.toNat,FM⟩
    have hmT:m<s.tenants.length:=FM
    obtain ⟨t,ht⟩ : ∃ t,s.tenants[m]? =some t:=⟨_,AL hmT⟩
    obtain ⟨st,hst⟩ : ∃ st,now[m]? =some st:=⟨_,AL FM⟩
    have htm:=AB ht
    obtain ⟨p1,p2⟩:=R.prg m t ht
    obtain ⟨s1,s2⟩:=x9 m t st ht hst
    have c1:=R.whole t htm
    have hlenb:st.length+(GP t).1.length*256<=1073741823:=by have:=x6.1;have:=x6.2.1;omega
    have hfl:s.fields.length<=1073741824:=by have:=Zn (LB R.bulk);omega
    have c2:=AFc s.fields R.fld hfl (GP t).1 p1 st hlenb s1 x.head hxr tick R.tick
    have l0:=(AD.1 x1).1
    have l2:=(AD.1 x2).1
    have ln:=(AD.1 x3).1
    have gX0:=A' x1
    have gX2:=A' x2
    have gXn:=A' x3
    have gx : ∀ y L,(X++y::L)[X.length]? =some y:=λy L=>sm
    have gx1 : ∀ y z L,(X++y::z::L)[X.length+1]? =some z:=λy z L=>sm
    have sx : ∀ y z,(X++[y]).set X.length z=X++[z]:=λy z=>sm
    have sx1 : ∀ y z w,(X++[y,z]).set (X.length+1) w=X++[y,w]:=λy z w=>sm
    have hm0:(0:Int)<=(m:Int):=FM
    have hm1:(m:Int)<(s.tenants.length:Int):=FM
    have hm2:(m:Int)<(sts.length:Int):=by rw [R.len];omega
    have hxi:(Item.c x)[0]? =some (.int .i64 x.tenant):=rfl
    have h0n:(0:Int)<=(n:Int):=FM
    simp only [go_sem,h0n,hc,x1,x2,x3,gX0,gX2,gXn,gx,gx1,sx,sx1,rn hx,Fq ht,IQ hst,hm,hm0,hm1,hm2,AE,AC,AG,AX,Nat.reduceAdd]
    refine pK c1 ?_
    simp only [go_sem,x1,x2,x3,gX0,gX2,gXn,gx,gx1,sx,sx1,hxi,Fq ht,IQ hst,hm,hm0,hm1,hm2,AE,AC,AG,AX,Nat.reduceAdd]
    obtain ⟨f',rfl⟩ : ∃ f',f=f'+1:=⟨f - 1,FM⟩
    have hto:x.tenant.toNat=m:=FM
    have b2:((2:Int) !=0)=true:=rfl
    have b0:((0:Int) !=0)=false:=rfl
    cases er:Tf s.fields (GP t).1 st x.head tick with
    | none =>
     rw [er,kT] at c2
     have hres:Tt s sts h tick=none:=by rw [x5,cGo,hx];dsimp only;rw [hto,ht,hst];dsimp only;rw [er]
     rw [hres]
     refine pK c2 ?_
     simp only [go_sem,b2]
     rfl
    | some b =>
     rw [er,kT] at c2
     obtain ⟨r1,r2,r3,r4⟩:=cP R.fld hfl p1 R.tick s1 hlenb hxr er
     have e5:cGo s tick (f'+1) n q now out=if 256<(ck s x t tick (q,out) b.1).1.length then none else cGo s tick f' (n+1) (ck s x t tick (q,out) b.1).1 (now.set m b.2) (ck s x t tick (q,out) b.1).2:=by rw [cGo,hx];dsimp only;rw [hto,ht,hst];dsimp only;rw [er]
     rw [e5] at x5
     have sXn : ∀ (L:FN) y,(X++L).set pn y=X.set pn y++L:=λL y=>LK ln L
     refine pK c2 ?_
     have hml:m+1<=now.length:=FM
     have hsp:=zr now m b.2 FM
     simp only [go_sem,b0,sXn,hml,hsp,x1,x2,x3,gX0,gX2,gXn,gx,gx1,sx,sx1,hxi,Fq ht,IQ hst,hm,hm0,hm1,hm2,AE,AC,AG,AX,Nat.reduceAdd]
     have hX2:2≠pn:=by subst hpn;simp
     have hX0:0≠pn:=by subst hpn;simp
     have lsn:(X.set pn (some (G8 (now.set m b.2)))).length=X.length:=An ..
     refine Fo b.1 (λ(a:List E8×List E9×FN) (r:List E5)=>ck s x t tick (a.1,a.2.1) r) (λj a=>okP6 s x t n pn X.length (now.set m b.2) a.1 a.2.1 a.2.2 j) (λj a=>[(1,.sl none (G8 sts)),(3,.int .i64 tick),(4,.ptr 0 0),(11,.ptr 2 0),(12,.fn (.func 28) [] [.ptr 2 0]),(17,.msl pn 0 sts.length 1),(18,.sl (some 12) (GS a.2.1)),(19,.int .i64 n),(20,.ptr X.length 0),(21,.ptr (X.length+1) 0),(103,.sl none (F0 b.1)),(104,.int .i64 b.1.length),(105,.int .i64 j)])
      (λ_ a=>a.2.2) (q,out,_) FM ?_ ?_ rfl ?_ ?_
     ·have u0:(X.set pn (some (G8 (now.set m b.2))))[0]? =some (some s.c):=by rw [A6 (Ne.symm hX0)];exact x1
      have u2:(X.set pn (some (G8 (now.set m b.2))))[2]? =some (some [.sl (some 12) (Kv q)]):=by rw [A6 (Ne.symm hX2)];exact x2
      have un:(X.set pn (some (G8 (now.set m b.2))))[pn]? =some (some (G8 (now.set m b.2))):=Az ln
      refine ⟨A' u0 _,A' u2 _,A' un _, ?_, ?_, ?_,x7,⟨hnl,by dsimp only;omega⟩,by dsimp only;omega⟩
      ·dsimp only
       rw [<- lsn];simp
      ·dsimp only
       rw [<- lsn];simp
      ·dsimp only
       rw [AE,lsn];exact AU _
     ·rfl
     ·rintro j ⟨q2,out2,Z⟩ p ps hd2 hxp hI2 hF2 g0 g1 gw
      dsimp only at hI2 hF2 ⊢
      have hI3:=hI2
      obtain ⟨y0,y2,yn,yx,yt,yl,y7,y8,y9⟩:=hI2
      have hrp:=r1 p (AB hxp)
      have hjl:=(AD.1 hxp).1
      have d1:=ABd t p
      have eX:P2 (JB t p.h0) p=vf t p:=rfl
      rw [eX] at d1
      have d2:=ADi s R.fld FM (by have:=NU (IL R.bulk);omega) m t ht p hrp tick R.pred
      have d3:=zH x.chain FM
      have hxk:(Item.c x)[11]? =some (.sl none (GH x.chain)):=rfl
      have eK:H9 (kI s t.name p tick) s.contracts=Wu s t p tick:=rfl
      rw [eK] at d2
      have l0':=(AD.1 y0).1
      have l2':=(AD.1 y2).1
      have gY0:=A' y0
      have gY2:=A' y2
      have gYx:=A' yx
      have gYt:=A' yt
      have gz : ∀ y L,(Z++y::L)[Z.length]? =some y:=λy L=>sm
      have gz1 : ∀ y z L,(Z++y::z::L)[Z.length+1]? =some z:=λy z L=>sm
      have sz : ∀ y z,(Z++[y]).set Z.length z=Z++[z]:=λy z=>sm
      have sz0 : ∀ y a z,(Z++[y,a]).set Z.length z=Z++[z,a]:=λy a z=>sm
      have sz1 : ∀ y z w,(Z++[y,z]).set (Z.length+1) w=Z++[y,w]:=λy z w=>sm
      have hpk:ck s x t tick (q,out) b.1=ck s x t tick (xM s x t tick (q2,out2) p) ps:=hF2
      simp only [go_sem,g0,g1,HJ hxp,y0,y2,yx,yt,gY0,gY2,gYx,gYt,gz,gz1,sz,sz1,hm,AE,AC,AG,AX,Nat.reduceAdd]
      refine pK d1 ?_
      cases he:(vf t p).2 with
      | false =>
       simp only [go_sem,he,gz,gz1,sz,sz1,gw,AE,AC,AG,AX,Nat.reduceAdd,Av]
       have e6:xM s x t tick (q2,out2) p=(q2,out2):=by unfold xM;rw [iP he]
       exact ⟨(q2,out2,_),by rw [ck,e6],hI3.grow _,rfl,rfl⟩
      | true =>
       simp only [go_sem,he,gz,gz1,sz,sz1,y0,y2,yx,yt,gY0,gY2,gYx,gYt,hxi,hm,AE,AC,AG,AX,Nat.reduceAdd,Ar]
       refine pK d2 ?_
       simp only [go_sem,he,gz,gz1,sz,sz1,y0,y2,yx,yt,gY0,gY2,gYx,gYt,hxi,hm,AE,AC,AG,AX,Nat.reduceAdd,Ar]
       refine cS ?_ ?_<;>intro hc3
       ·have hc3:=of_decide_eq_true hc3
        have e6:xM s x t tick (q2,out2) p=(q2,out2++[⟨x.tenant,(vf t p).1,x.chain⟩]):=by unfold xM;rw [iN (by rw [he];decide),iP hc3]
        simp only [go_sem,gz,gz1,sz,sz1,y0,y2,yx,yt,gY0,gY2,gYx,gYt,hxi,hxk,hm,AE,AC,AG,AX,Nat.reduceAdd]
        refine pK d3 ?_
        simp only [go_sem,gz,gz1,sz,sz1,y0,y2,yx,yt,gY0,gY2,gYx,gYt,hxi,hxk,hm,gw,AE,AC,AG,AX,Nat.reduceAdd]
        exact ⟨FM,FM,(q2,out2++[⟨x.tenant,(vf t p).1,x.chain⟩],_),by rw [ck,e6],hI3.out _ _,by rw [hm],rfl⟩
       ·have hc3:=of_decide_eq_false hc3
        obtain ⟨ci,d,hK,hd⟩ : ∃ (ci:Nat) (d:Contract),Wu s t p tick=(ci:Int)/\s.contracts[ci]? =some d:=by
         rcases NW (kI s t.name p tick) s.contracts 0 with ⟨w1,w2⟩|⟨i,y,w1,w2,w3⟩
         ·have:Wu s t p tick = -1:=w1
          omega
         ·exact ⟨i,y,by unfold Wu H9;rw [w1,AX],w2⟩
        have hdm:=AB hd
        obtain ⟨t1,t2⟩:=R.to d hdm
        obtain ⟨t3,t4⟩:=R.port d hdm
        have hcl:=(AD.1 hd).1
        have hcn:s.contracts.length<=1048576:=NU (IL R.bulk)
        have k0:(0:Int)<=(ci:Int):=FM
        have k1:(ci:Int)<(s.contracts.length:Int):=FM
        have hkt:(Wu s t p tick).toNat=ci:=FM
        have e6:xM s x t tick (q2,out2) p=(q2++[⟨Hn s d.dst,{ p with h0:=d.toPort },x.chain++[(ci:Int)]⟩],out2):=by unfold xM;rw [iN (by rw [he];decide),iN hc3,hkt,hd,hK]
        have d4:=y6 s d.dst FM
        have d5:kH (Hn s d.dst) = .tup [.int .i64 (Hn s d.dst),.bool true]:=by unfold kH Vj;rw [decide_eq_true t1];congr;split<;>omega
        rw [d5] at d4
        simp only [go_sem,hK,k0,k1,GT hd,gz,gz1,sz,sz1,y0,y2,yx,yt,gY0,gY2,gYx,gYt,hxi,hxk,hm,AE,AC,AG,AX,Nat.reduceAdd]
        refine pK d4 ?_
        simp only [go_sem,hK,k0,k1,GT hd,gz,gz1,sz,sz0,sz1,y0,y2,yx,yt,gY0,gY2,gYx,gYt,hxi,hxk,hm,AE,AC,AG,AX,Nat.reduceAdd]
        refine pK d3 ?_
        simp only [go_sem,hK,k0,k1,GT hd,gz,gz1,sz,sz0,sz1,y0,y2,yx,yt,gY0,gY2,gYx,gYt,hxi,hxk,hm,AE,AC,AG,AX,Nat.reduceAdd]
        refine ⟨FM,FM, ?_⟩
        have hrp':FV { p with h0:=d.toPort }=true:=cR hrp t3 t4
        refine Fs.intro (yk q2 FM ⟨Hn s d.dst,{ p with h0:=d.toPort },x.chain++[(ci:Int)]⟩ (some 1) _ 2 (A' y2 _)) λv H' hq=>?_
        obtain ⟨rfl,ext,rfl⟩:=hq
        simp only [go_sem,gw]
        exact ⟨(q2++[⟨Hn s d.dst,{ p with h0:=d.toPort },x.chain++[(ci:Int)]⟩],out2,_),by rw [ck,e6],hI3.put _ _ _ (by subst hpn;simp) FM ⟨hrp',⟨t1,t2⟩,by rw [AE];exact Do hxc⟩,rfl,rfl⟩
     ·rintro ⟨q2,out2,Z⟩ hI2 hF2
      dsimp only at hI2 hF2 ⊢
      obtain ⟨y0,y2,yn,yx,yt,yl,y7,y8,y9⟩:=hI2
      have hpk:ck s x t tick (q,out) b.1=(q2,out2):=hF2
      rw [hpk] at x5
      simp only [go_sem,AY,dF,y2]
      refine cS ?_ ?_<;>intro hc3
      ·have hc3:=of_decide_eq_true hc3
       have hres:Tt s sts h tick=none:=by rw [x5];exact iP (by dsimp only;omega)
       rw [hres]
       simp only [go_sem]
       rfl
      ·have hc3:=of_decide_eq_false hc3
       have hres:Tt s sts h tick=cGo s tick f' (n+1) q2 (now.set m b.2) out2:=by rw [x5];exact iN (by dsimp only;omega)
       have hwn:IntKind.i64.wrap ((n:Int)+1)=((n+1:Nat):Int):=Mc FM
       simp only [go_sem,hwn]
       refine ⟨(f',n+1,q2,now.set m b.2,out2,Z),⟨y0,y2,yn,by dsimp only;omega,hres,⟨by dsimp only;omega,y8.1,by dsimp only;omega⟩,y7,by rw [An];exact x8,λk t2 st2 h1 h2=>?_⟩,by dsimp only;omega,rfl,rfl⟩
       dsimp only at h2 ⊢
       rw [A0] at h2
       split at h2
       ·rename_i hkm
        subst hkm
        rw [ht] at h1
        cases h1
        split at h2
        ·cases h2
         exact ⟨r3,FM⟩
        ·cases h2
       ·have:=x9 k t2 st2 h1 h2
        exact ⟨this.1,Nat.le_trans this.2 (Nat.add_le_add_left (Nat.mul_le_mul_right _ (EP n)) _)⟩
   ·have hc:=of_decide_eq_false hc
    have hq2:q[n]? =none:=Ax FM
    have hres:Tt s sts h tick=some (out,now):=by
     rw [x5]
     obtain ⟨f',rfl⟩ : ∃ f',f=f'+1:=⟨f - 1,FM⟩
     rw [cGo,hq2]
    rw [hres]
    simp only [go_sem,x3]
    have hlen2:now.length=sts.length:=by rw [x8,R.len]
    rw [iP ⟨FM,.inr trivial⟩,AHC,<- hlen2,lW]
    simp only [go_sem]
    rfl
theorem ABB{s:FB}(hR:R19 s){d:Contract}(hd:d∈s.contracts):(Hn s d.dst).toNat<s.tenants.length:=by
 have h0:=(RZ (hR.con d hd)).2
 obtain ⟨v,_,_,_,hv⟩:=Q4 h0
 omega
end Go.AI
