/- Rows of a known capacity;rows of any width that become lists. -/
import Derived.Test.YtnbekihfchfioaaGreatDoorMy
import Derived.Test.YtnbekihfchfioaaGreatDoorMp
import Derived.Test.YtnbekihfchfioaaGreatDoorMx
import Derived.Test.YtnbekihfchfioaaGreatDoorMt
set_option linter.unusedSimpArgs false
set_option linter.unusedVariables false
open Go.Proofs.Tryz
open Bool renaming not_false->Av,not_true->Ar
open Eq renaming trans->AH
open Int renaming lt_irrefl->AX,toNat_natCast->Ae
open List renaming append_assoc->AF,append_nil->Ah,cons_append->AS,drop_drop->A9,drop_left'->EL,drop_of_length_le->Dm,drop_zero->BN,ext_getElem?->A4,filter_append->Cb,filter_eq_self->DN,find?_cons->B0,getElem?_append_right->AM,getElem?_concat_length->Bj,getElem?_cons_zero->A8,getElem?_eq_getElem->AL,getElem?_eq_none->Ax,getElem?_eq_some_iff->AD,getElem?_set->A0,getElem?_set_ne->A6,getElem?_set_self->Az,getElem_mem->CY,length_append->AE,length_cons->AC,length_drop->Cf,length_map->Aq,length_nil->AG,length_set->An,length_singleton->Bs,length_take->BI,map_append->As,map_congr_left->B3,map_cons->AT,map_flatten->DL,mem_append->Ay,mem_cons->AZ,mem_cons_of_mem->B9,mem_cons_self->Cc,mem_filter->CV,mem_map->AO,mem_of_getElem?->AB,mem_singleton->Al,nil_append->AN,set_append_left->BP,set_append_right->BZ,set_eq_take_append_cons_drop->C7,set_set->BB,take_add_one->BF,take_length->BO,take_of_length_le->Br,take_succ_cons->CO,zip_cons_cons->B5
open Nat renaming le_refl->AU,min_def->DP,sub_self->AQ,sub_zero->BS,succ_le_succ->Dn,two_pow_pos->Ba,zero_add->AY,zero_le->BY,zero_mul->Bt
open Option renaming getD_none->BE
open Go.Proofs.Tryz renaming prog->AA
namespace Go.AI
section
variable {P:Program}
theorem Dx.cap{f:FuncId}{o off len sz:Nat}{vs:List AV}{H:DM}{R:AV->DM->Prop}(hcal:GP P f=true)(h : ∀ c,len<=c->c<=9223372036854775807->Dx P f (.mslc o off len sz c::vs) H R):Dx P f (.msl o off len sz::vs) H R :=
 ⟨hcal,λF G w us hc=>by
  match us,hc with
  | [],hc=>have:=hc.l.len;simp at this
  | u::us,hc =>
   obtain ⟨hv,ht,hr⟩:=hc.l.uncons
   cases hv with
   | msl _ _ _ _ b cap hb hl hm hcc =>
    refine (h cap hl (by unfold maxLen at hm;omega)).2 F G w _ ⟨.cons (.mslc o off len sz cap b hb hl hm hcc) (ET (Dc rfl rfl _) _ _ _) hr,hc.h,λx=>?_⟩
    have:=hc.cnt x
    rw [EK,Dc rfl rfl] at this ⊢
    exact this⟩
theorem kX{f:FuncId}{vs:List AV}{H:DM}{R:AV->DM->Prop}(h:Dx P f vs H λv H'=>R v H' \/ ∃ o off len sz c,v = .mslc o off len sz c/\R (.msl o off len sz) H'):Dx P f vs H R :=
 ⟨h.1,λF G w us hc=>Calls.mono (h.2 F G w us hc) λe w' he=>by
  obtain ⟨u,rfl,v',H2,G',hr,hcr,hext⟩:=he
  rcases hr with hr|⟨o,off,len,sz,c,rfl,hr⟩
  ·exact ⟨u,rfl,v',H2,G',hr,hcr,hext⟩
  ·have hv:=hcr.l.rel 0 _ _ rfl rfl
   cases hv with
   | mslc _ _ _ _ _ b hb hl hm hcc=>exact ⟨_,rfl,_,H2,G',hr,hcr.swap1 (.msl o off len sz b c hb hl hm hcc) rfl,hext⟩⟩
def AFy(n:Nat)(es:List (List AV))(v:AV)(H H':DM):Prop :=
 (es=[]/\(∃ w,v = .sl w []) /\ ∃ ext,H'=H++ext) \/ ∃ ob cs,v = .msl ob 0 es.length n/\H.length<=ob/\(∃ ext,H'=H++ext)/\H'[ob]? =some (some cs)/\(∃ r,cs=es.flatten++r)
theorem qj {f:FuncId} {vs:List AV} {H:DM} {es:List (List AV)} {n:Nat} (hn : ∀ e∈es,e.length=n) (hs : ∀ e∈es,EZ H.length e=true) (hb : ∀ e∈es,e.map borrow1=e)
  (h:Dx P f vs H λv' H'=>AFy n es v' H H'):Dx P f vs H λv' H'=>v' = .sl none (es.map .agg)/\H'=H :=
 ⟨h.1,λF G w us hc=>Calls.mono (h.2 F G w us hc) λe w' he=>by
  obtain ⟨u,rfl,v',H2,G',hr,hcr,hext⟩:=he
  rcases hr with ⟨rfl,⟨w0,rfl⟩,ext,rfl⟩|⟨ob,cs,rfl,hob,⟨ext,rfl⟩,ho,r,rfl⟩
  ·have hv:VRel G' w' (.sl none []) u:=by
    have:=hcr.l.rel 0 _ _ rfl rfl
    cases this with
    | slnil=>exact .slnil _
    | slany=>exact .slany _ _
    | sl own es sz b q cap u' hsz hown hl hm h1 h2=>exact .sl none [] sz b q cap u' hsz (λn hn=>by cases hn) hl hm h1 h2
   obtain ⟨G2,k1,k2⟩:=hc.cutExt (hcr.swap1 hv rfl) hext rfl
   exact ⟨u,rfl,_,H,G2,⟨rfl,rfl⟩,k1,k2⟩
  ·have hv:=hcr.l.rel 0 _ _ rfl rfl
   have hlen:=NZ es n hn
   obtain ⟨G2,ext2,k1,k2,k3⟩:=hcr.frzRow true ho hob hv (by rw [AE,hlen];omega) (.inl rfl)
   have e1:(es.flatten++r).map borrow1=es.flatten++r.map borrow1:=by
    rw [As,DL]
    congr 2
    exact B3 (f:=List.map borrow1) (g:=id) (λe he=>hb e he) |>.trans (List.map_id _)
   rw [e1,Ji es _ n hn] at k3
   obtain ⟨G3,k4,k5⟩:=hc.cutExt (k1.swap1 k3 rfl) (hext.trans k2) (MU hs)
   exact ⟨u,rfl,_,H,G3,⟨rfl,rfl⟩,k4,k5⟩⟩
def ASc(n:Nat)(es:List (List AV))(v:AV)(H H':DM):Prop:=AFy n es v H H'\/((∃ w,v = .sl w (es.map .agg)) /\ ∃ ext,H'=H++ext)
theorem qi {f:FuncId} {vs:List AV} {H:DM} {es:List (List AV)} {n:Nat} (hn : ∀ e∈es,e.length=n) (hs : ∀ e∈es,EZ H.length e=true) (hb : ∀ e∈es,e.map borrow1=e)
  (h:Dx P f vs H λv' H'=>ASc n es v' H H'):Dx P f vs H λv' H'=>v' = .sl none (es.map .agg)/\H'=H :=
 ⟨h.1,λF G w us hc=>Calls.mono (h.2 F G w us hc) λe w' he=>by
  obtain ⟨u,rfl,v',H2,G',hr,hcr,hext⟩:=he
  rcases hr with (⟨rfl,⟨w0,rfl⟩,ext,rfl⟩|⟨ob,cs,rfl,hob,⟨ext,rfl⟩,ho,r,rfl⟩)|⟨⟨w0,rfl⟩,ext,rfl⟩
  ·have hv:VRel G' w' (.sl none []) u:=by
    have:=hcr.l.rel 0 _ _ rfl rfl
    cases this with
    | slnil=>exact .slnil _
    | slany=>exact .slany _ _
    | sl own es sz b q cap u' hsz hown hl hm h1 h2=>exact .sl none [] sz b q cap u' hsz (λn hn=>by cases hn) hl hm h1 h2
   obtain ⟨G2,k1,k2⟩:=hc.cutExt (hcr.swap1 hv rfl) hext rfl
   exact ⟨u,rfl,_,H,G2,⟨rfl,rfl⟩,k1,k2⟩
  ·have hv:=hcr.l.rel 0 _ _ rfl rfl
   have hlen:=NZ es n hn
   obtain ⟨G2,ext2,k1,k2,k3⟩:=hcr.frzRow true ho hob hv (by rw [AE,hlen];omega) (.inl rfl)
   have e1:(es.flatten++r).map borrow1=es.flatten++r.map borrow1:=by
    rw [As,DL]
    congr 2
    exact B3 (f:=List.map borrow1) (g:=id) (λe he=>hb e he) |>.trans (List.map_id _)
   rw [e1,Ji es _ n hn] at k3
   obtain ⟨G3,k4,k5⟩:=hc.cutExt (k1.swap1 k3 rfl) (hext.trans k2) (MU hs)
   exact ⟨u,rfl,_,H,G3,⟨rfl,rfl⟩,k4,k5⟩
  ·have hv:=(hcr.l.rel 0 _ _ rfl rfl).borrow1
   obtain ⟨G2,k1,k2⟩:=hc.cutExt (hcr.swap1 hv rfl) hext (MU hs)
   exact ⟨u,rfl,_,H,G2,⟨rfl,rfl⟩,k1,k2⟩⟩
end
end Go.AI
namespace Go.AI
open Go.Proofs
set_option maxRecDepth 50000
def aj(a b:ByteArray):Int:=if S0 a b=true then -1 else if a=b then 0 else 1
def NN:List Int->List Int->Int
 | [],[]=>0
 | [],_::_ => -1
 | _::_,[]=>1
 | x::a,y::b=>if O2 x y≠0 then O2 x y else NN a b
def SU(a b:Entry):Int:=if aj a.var b.var≠0 then aj a.var b.var else NN a.key b.key
theorem AF9(a b:ByteArray):DR AA 83 [.str a,.str b] (.int .i64 (aj a b)):=by
 refine pC ATw rfl ?_
 simp only [f83,go_sem]
 repeat' (first
  | ((first|refine pK (lc a) ?_|refine pK (lc b) ?_);simp only [go_sem,By])
  | ((first|apply cS|apply gS)<;>(intro hc;simp only [go_sem,hc,By])))
 all_goals first|(simp only [aj,S0];simp_all;done)|skip
theorem AF8(a b:List Int)(ha:a.length<=1073741824):DR AA 84 [.sl none (E4 a),.sl none (E4 b)] (.int .i64 (NN a b)):=by
 have ea:(E4 a).length=a.length:=F6 a
 have eb:(E4 b).length=b.length:=F6 b
 refine pC AE3 rfl ?_
 simp only [f84,go_sem,ea,eb]
 refine EP a (λr=>NN r (b.drop (a.length - r.length))) (λk=>[(0,.sl none (E4 a)),(1,.sl none (E4 b)),(9,.sl none (E4 a)),(10,.int .i64 a.length),(11,.int .i64 k)]) DF rfl ?_ ?_
 ·intro k x xs hd hx hF h0 h1 hw
  have hk:=Eb hd
  have e1:a.length - (xs.length+1)=k:=DF
  have e2:a.length - xs.length=k+1:=DF
  simp only [AC,e1,e2,AQ,BN] at hF ⊢
  by_cases hkb:k<b.length
  ·obtain ⟨y,hy⟩ : ∃ y,b[k]? =some y:=⟨_,AL hkb⟩
   have hnb : ¬ (b.length:Int)<=(k:Int):=DF
   rw [US hy,NN] at hF
   simp only [go_sem,h0,h1,E1 hx,E1 hy,eb,hnb,decide_false]
   repeat' (first
    | (refine pK (yC x y) ?_;simp only [go_sem,hw])
    | ((first|apply cS|apply gS)<;>(intro hc;simp only [go_sem,hc,hw])))
   ·have hne:O2 x y≠0:=by simpa using hc
    rw [if_pos hne] at hF
    rw [hF]
   ·have hne : ¬ O2 x y≠0:=by simpa using hc
    rw [e1,e2,US hy,NN,if_neg hne]
  ·have hnb:(b.length:Int)<=(k:Int):=DF
   rw [List.drop_eq_nil_of_le DF,NN] at hF
   simp only [go_sem,h0,h1,E1 hx,eb,hnb,decide_true]
   rw [hF]
 ·intro hF hlt
  rw [AQ,BN] at hF
  simp only [go_sem,hlt,decide_false,ea,eb]
  cases hr:b.drop a.length with
  | nil =>
   have hlen:b.length<=a.length:=by simpa using hr
   have hnl : ¬ (a.length:Int)<(b.length:Int):=DF
   rw [AG,BS,hr,NN] at hF
   simp only [go_sem,hnl,decide_false]
   rw [hF]
  | cons y ys =>
   have hlen:a.length<b.length:=by have:=Eb hr;omega
   have hnl:(a.length:Int)<(b.length:Int):=DF
   rw [AG,BS,hr,NN] at hF
   simp only [go_sem,hnl,decide_true]
   rw [hF]
theorem AaX(l:List Int)(hl:l.length<=1073741824):DR AA 82 [.sl none (E4 l)] (.int .i64 ((l.find? λz=>z !=0).getD 0)):=by
 have el:(E4 l).length=l.length:=F6 l
 refine pC ATz rfl ?_
 simp only [f82,go_sem,el]
 refine EP l (λr=>(r.find? λz=>z !=0).getD 0) (λk=>[(3,.int .i64 0),(6,.sl none (E4 l)),(7,.int .i64 l.length),(8,.int .i64 k)]) DF rfl ?_ ?_
 ·intro k z zs hd hx hF h0 h1 hw
  simp only [go_sem,h0,h1,E1 hx]
  repeat' (first
   | ((first|apply cS|apply gS)<;>(intro hc;simp only [go_sem,hc,hw])))
  ·rw [hF,B0,hc];rfl
  ·rw [B0,hc]
 ·intro hF hlt
  simp only [go_sem,hlt,decide_false]
  rw [hF];rfl
theorem AS3(x y:Int):DR AA 82 [.sl none [.int .i64 x,.int .i64 y]] (.int .i64 (if x≠0 then x else y)):=by
 have h:=AaX [x,y] sm
 have e:(([x,y].find? λz=>z !=0).getD 0)=if x≠0 then x else y:=by
  rw [B0,B0]
  by_cases hx:x=0
  ·subst hx
   by_cases hy:y=0
   ·subst hy;rfl
   ·have:(y !=0)=true:=by simp [hy]
    rw [this];rfl
  ·have:(x !=0)=true:=by simp [hx]
   rw [this,if_pos hx];rfl
 rw [e] at h
 exact h
theorem lj(a b:Entry)(ha:a.key.length<=1073741824):DR AA 42 [.agg a.c,.agg b.c] (.int .i64 (SU a b)):=by
 refine pC AVD rfl ?_
 simp only [f42,go_sem]
 repeat' (first
  | ((first|refine pK (AF9 a.var b.var) ?_|refine pK (AF8 a.key b.key ha) ?_|refine pK (DR.weak (AS3 _ _)) ?_);simp only [go_sem])
  | ((first|apply cS|apply gS)<;>(intro hc;simp only [go_sem,hc])))
 all_goals first|rfl|skip
def ig(l:List Entry)(x:Entry):Nat->Nat->Nat->Nat
 | 0,i,_=>i
 | f+1,i,j=>if i<j then (match l[(i+j) / 2]? with
   | some y=>if SU y x<0 then ig l x f ((i+j) / 2+1) j else ig l x f i ((i+j) / 2)
   | none=>i) else i
def Xg(l:List Entry)(x:Entry):Nat:=ig l x (l.length+1) 0 l.length
def bsT(l:List Entry)(x:Entry):Bool:=match l[Xg l x]? with
 | some y=>SU y x==0
 | none=>false
theorem aw(l:List Entry)(x:Entry): ∀ (f i j:Nat),i<=j->j<=l.length->ig l x f i j<=l.length
 | 0,i,j,h1,h2=>by rw [ig];omega
 | f+1,i,j,h1,h2=>by
  rw [ig]
  split
  ·rename_i hlt
   have hm:(i+j) / 2<l.length:=DF
   rw [AL hm]
   dsimp only
   split
   ·exact aw l x f _ _ DF h2
   ·exact aw l x f _ _ DF DF
  ·omega
theorem AAu(l:List Entry)(x:Entry):Xg l x<=l.length:=aw l x _ _ _ (BY _) (AU _)
theorem AS1(l:List Entry)(hl:l.length<=4611686018427387903)(hk : ∀ y∈l,y.key.length<=1073741824)(x:Entry):DR AA 212 [.sl none (EM l),.agg x.c,.fn (.func 42) [] []] (.tup [.int .i64 (Xg l x),.bool (bsT l x)]):=by
 refine pB AKh rfl ?_
 simp only [f212,go_sem]
 refine Jn (σ:=Nat×Nat) (λs=>[(0,.sl none (EM l)),(2,.fn (.func 42) [] []),(4,.ptr 0 0),(8,.int .i64 l.length),(9,.int .i64 s.1),(10,.int .i64 s.2)]) (λ_=>[some x.c]) (λs=>s.1<=s.2/\s.2<=l.length /\ ∃ f,s.2 - s.1<f/\Xg l x=ig l x f s.1 s.2) (λs=>s.2 - s.1) (0,l.length) ⟨BY _,AU _,l.length+1,by dsimp only;omega,rfl⟩ rfl rfl ?_
 rintro ⟨i,j⟩ ⟨hij,hj,f,hf,hF⟩
 dsimp only at hij hj hf hF ⊢
 obtain ⟨f,rfl⟩ : ∃ f',f=f'+1:=⟨f - 1,DF⟩
 rw [ig] at hF
 by_cases hlt:i<j
 ·have g1:(i:Int)<(j:Int):=DF
  have g2:(0:Int)<=(((i+j) / 2:Nat):Int):=DF
  have g3:(((i+j) / 2:Nat):Int).toNat=(i+j) / 2:=DF
  have hm:(i+j) / 2<l.length:=DF
  have hw:=Ln (k:=(i+j) / 2) DF
  have hgm:=AL hm
  have a1:=Er hgm
  have c1:=lj l[(i+j) / 2] x (hk _ (CY hm))
  rw [if_pos hlt,hgm] at hF
  dsimp only at hF
  simp only [go_sem,g1,decide_true,Yw hl hj hlt,g2,g3,a1]
  repeat' (first
   | (refine pK (c1) ?_;simp only [go_sem,g1,Yw hl hj hlt,g2,g3,a1,hw])
   | ((first|apply cS|apply gS)<;>(intro hc;simp only [go_sem,hc,g1,Yw hl hj hlt,g2,g3,a1,hw])))
  ·have hc:=of_decide_eq_true hc
   rw [if_pos hc] at hF
   exact ⟨((i+j) / 2+1,j),⟨by dsimp only;omega,hj,f,by dsimp only;omega,hF⟩,by dsimp only;omega,rfl,rfl⟩
  ·have hc:=of_decide_eq_false hc
   rw [if_neg hc] at hF
   exact ⟨(i,(i+j) / 2),⟨by dsimp only;omega,by dsimp only;omega,f,by dsimp only;omega,hF⟩,by dsimp only;omega,rfl,rfl⟩
 ·have hij:i=j:=DF
  subst hij
  rw [if_neg hlt] at hF
  have g1 : ¬ (i:Int)<(i:Int):=DF
  unfold bsT
  rw [hF]
  by_cases hil:i<l.length
  ·have g3:(i:Int)<(l.length:Int):=DF
   have g4:(0:Int)<=(i:Int):=DF
   have hgi:=AL hil
   have a1:=Er hgi
   have c1:=lj l[i] x (hk _ (CY hil))
   rw [hgi]
   simp only [go_sem,g1,decide_false,g3,g4,decide_true,a1]
   repeat' (first
    | (refine pK (c1) ?_;simp only [go_sem,g1,g3,g4,a1,decide_true,Ae])
    | ((first|apply cS|apply gS)<;>(intro hc;simp only [go_sem,hc,g1,g3,g4,a1,decide_true,Ae])))
   all_goals first|rfl|skip
  ·have g3 : ¬ (i:Int)<(l.length:Int):=DF
   rw [Ax DF]
   simp only [go_sem,g1,decide_false,g3]
   repeat' (first
    | ((first|apply cS|apply gS)<;>(intro hc;simp only [go_sem,hc,g1,g3])))
   all_goals first|rfl|skip
theorem q8(l:List Entry)(hl:l.length<=4611686018427387903)(hk : ∀ y∈l,y.key.length<=1073741824)(x:Entry):DR AA 148 [.sl none (EM l),.agg x.c,.fn (.func 42) [] []] (.tup [.int .i64 (Xg l x),.bool (bsT l x)]):=by
 refine pC ANU rfl ?_
 simp only [f148,go_sem]
 repeat' (first
  | (refine pK (AS1 l hl hk x) ?_;simp only [go_sem])
  | ((first|apply cS|apply gS)<;>(intro hc;simp only [go_sem,hc])))
 all_goals first|rfl|skip
def PL(l:List Entry)(v:ByteArray)(key:List Int):Option Entry:=if bsT l ⟨v,key,0,0⟩=true then l[Xg l ⟨v,key,0,0⟩]? else none
theorem ACr(l:List Entry)(hl:l.length<=4611686018427387903)(hk : ∀ y∈l,y.key.length<=1073741824)(v:ByteArray)(key:List Int):DR AA 80 [.sl none (EM l),.str v,.sl none (E4 key)] (.tup [.agg ((PL l v key).getD Entry.z).c,.bool (PL l v key).isSome]):=by
 have c1:=q8 l hl hk ⟨v,key,0,0⟩
 refine pB AT5 rfl ?_
 unfold PL
 cases hb:bsT l ⟨v,key,0,0⟩ with
 | false =>
  rw [hb] at c1
  simp only [f80,go_sem]
  refine pK c1 ?_
  simp only [go_sem]
  first|rfl|skip
 | true =>
  rw [hb] at c1
  obtain ⟨y,hy⟩ : ∃ y,l[Xg l ⟨v,key,0,0⟩]? =some y:=by
   unfold bsT at hb
   split at hb
   ·exact ⟨_,by assumption⟩
   ·cases hb
  have hy2:=Er hy
  have h0:(0:Int)<=((Xg l ⟨v,key,0,0⟩:Nat):Int):=DF
  rw [if_pos rfl,hy]
  simp only [f80,go_sem]
  refine pK c1 ?_
  simp only [go_sem,h0,Ae,hy2]
  first|rfl|skip
def EX(l:List Entry):List AV:=(l.map Entry.c).flatten
theorem Gd(x:Entry)(l:List Entry):EX (x::l)=x.c++EX l:=rfl
theorem Gg : ∀ l:List Entry,(EX l).length=l.length*4
 | []=>rfl
 | x::l=>by
  rw [Gd,AE,Gg l,AC]
  have:x.c.length=4:=rfl
  omega
theorem SX : ∀ (l:List Entry) (r:List AV) (k:Nat) (y:Entry),l[k]? =some y->((EX l++r).drop (k*4)).take 4=y.c
 | [],_,_,_,h=>by simp at h
 | x::l,r,0,y,h=>by
  simp only [A8,Option.some.injEq] at h
  subst h
  rfl
 | x::l,r,k+1,y,h=>by
  rw [Gd,AF]
  have e:(k+1)*4=x.c.length+k*4:=by
   have:x.c.length=4:=rfl
   omega
  rw [e,<- A9,List.drop_left]
  exact SX l r k y (by simpa using h)
theorem ZD{l:List Entry}(r:List AV){k:Nat}{y:Entry}(h:l[k]? =some y):k*4+4<=(EX l++r).length:=by
 have:=(AD.1 h).1
 rw [AE,Gg]
 omega
def fu(d:Entry->Bool):Nat->List Entry->Int
 | _,[] => -1
 | k,x::r=>if d x=true then (k:Int) else fu d (k+1) r
theorem yJ(l:List Entry)(hl:l.length<=9223372036854775807)(r:List AV)(H:DM)(o:Nat)(ho:H[o]? =some (some (EX l++r)))(f:Nat)(first cap:List AV)(d:Entry->Bool)(hd : ∀ x∈l,E5 AA f (first.map AV.borrow++(.agg (Entry.c x)::cap.map AV.borrow)) H (.bool (d x))):
  E5 AA 146 [.msl o 0 l.length 4,.fn (.func f) first cap] H (.int .i64 (fu d 0 l)):=by
 refine aC nw rfl ?_
 simp only [f146,go_sem]
 refine EP l (λr=>fu d (l.length - r.length) r) (λk=>[(0,.msl o 0 l.length 4),(1,.fn (.func f) first cap),(7,.int .i64 l.length),(8,.int .i64 k)]) hl rfl ?_ ?_
 ·intro k y ys hdr hx hF h0 h1 hw
  have c1:=hd y (AB hx)
  have g1:=ZD r hx
  have g2:=SX l r k y hx
  have hk2:=Eb hdr
  have e1:l.length - (ys.length+1)=k:=DF
  have e2:l.length - ys.length=k+1:=DF
  simp only [AC,e1,AQ] at hF
  simp only [go_sem,h0,h1,ho,g1,g2,e1,e2]
  repeat' (first
   | (refine aS (c1) ?_;simp only [go_sem,h0,h1,hw,ho,g1,g2,e1,e2])
   | ((first|apply cS|apply gS)<;>(intro hc;simp only [go_sem,hc,h0,h1,hw,ho,g1,g2,e1,e2])))
  ·rw [hF,fu,if_pos hc]
  ·rw [fu,if_neg (by rw [hc];decide)]
 ·intro hF hlt
  simp only [go_sem,hlt,decide_false]
  rw [AQ] at hF
  rw [hF];rfl
theorem Ik : ∀ (l:List Entry) (r:List AV) (i:Nat),i<=l.length->(EX l++r).take (i*4)=EX (l.take i)
 | _,r,0,_=>by simp [EX]
 | [],r,i+1,h=>by simp at h
 | x::l,r,i+1,h=>by
  have e:(i+1)*4=x.c.length+i*4:=by
   have:x.c.length=4:=rfl
   omega
  rw [Gd,AF,e,List.take_length_add_append,Ik l r i (by simpa using h),CO,Gd]
theorem LO : ∀ (l:List Entry) (r:List AV) (i:Nat),i<=l.length->(EX l++r).drop (i*4)=EX (l.drop i)++r
 | _,r,0,_=>sm
 | [],r,i+1,h=>by simp at h
 | x::l,r,i+1,h=>by
  have e:(i+1)*4=x.c.length+i*4:=by
   have:x.c.length=4:=rfl
   omega
  rw [Gd,AF,e,List.drop_length_add_append,LO l r i (by simpa using h),List.drop_succ_cons]
theorem Mt(a b:List Entry):EX (a++b)=EX a++EX b:=by unfold EX;simp
theorem PD{l:List Entry}(r:List AV){i:Nat}(h:i<l.length)(x:Entry):splice (EX l++r) (i*4) x.c=EX (l.set i x)++r:=by
 have e:i*4+x.c.length=(i+1)*4:=by
  have:x.c.length=4:=rfl
  omega
 unfold splice
 rw [e,Ik l r i DF,LO l r (i+1) DF,C7,if_pos h,Mt,Gd]
 simp only [AF]
theorem Yu(d:Entry->Bool): ∀ (l:List Entry) (k:Nat),(fu d k l = -1 /\ ∀ x∈l,d x=false) \/ ∃ (i:Nat) (x:Entry),fu d k l=((k+i:Nat):Int)/\l[i]? =some x/\d x=true /\ ∀ y∈l.take i,d y=false
 | [],k => .inl ⟨rfl,sm⟩
 | x::r,k=>by
  rw [fu]
  by_cases h:d x=true
  ·rw [if_pos h]
   exact .inr ⟨0,x,rfl,rfl,h,sm⟩
  ·rw [if_neg h]
   have h:d x=false:=by simpa using h
   rcases Yu d r (k+1) with ⟨e,h2⟩|⟨i,y,e,h2,h3,h4⟩
   ·exact .inl ⟨e,by simpa [h] using h2⟩
   ·refine .inr ⟨i+1,y,by rw [e];congr 1;omega,h2,h3, ?_⟩
    rw [CO]
    intro z hz
    rcases AZ.1 hz with rfl|hz
    ·exact h
    ·exact h4 z hz
theorem dw(H:DM)(f:Nat)(first cap:List AV):E5 AA 146 [.sl none [],.fn (.func f) first cap] H (.int .i64 (-1)):=by
 refine aC nw rfl ?_
 simp only [f146,go_sem]
 refine EP ([]:List Entry) (λ_=>()) (λk=>[(0,.sl none []),(1,.fn (.func f) first cap),(7,.int .i64 ((0:Nat):Int)),(8,.int .i64 k)]) sm rfl ?_ ?_
 ·intro k y ys hd
  rw [List.drop_nil] at hd;cases hd
 ·intro _ hlt
  have z2:decide (((0:Nat):Int)<((0:Nat):Int))=false:=dc
  simp only [go_sem,z2]
theorem XB(w:Option Nat)(H:DM)(f:Nat)(first cap:List AV):Dx AA 267 [.sl w [],.fn (.func f) first cap] H λv H'=>H'=H /\ ∃ w2,v = .sl w2 []:=by
 have c1:=dw H f first cap
 have z1:((-1:Int) == -1)=true:=rfl
 refine aC zX rfl ?_
 cases w with
 | none =>
  simp only [f267,go_sem]
  repeat' (first
   | (refine aS (c1) ?_;simp only [go_sem,z1])
   | ((first|apply cS|apply gS)<;>(intro hc;simp only [go_sem,hc,z1])))
  all_goals first|exact ⟨_,rfl⟩|exact ⟨rfl,_,rfl⟩|skip
 | some w =>
  simp only [f267,go_sem]
  repeat' (first
   | (refine aS (c1) ?_;simp only [go_sem,z1])
   | ((first|apply cS|apply gS)<;>(intro hc;simp only [go_sem,hc,z1])))
  all_goals first|exact ⟨_,rfl⟩|exact ⟨rfl,_,rfl⟩|skip
theorem tH (l:List Entry) (hl:l.length<=1073741823) (r:List AV) (H:DM) (o:Nat) (ho:H[o]? =some (some (EX l++r))) (f:Nat) (first cap:List AV) (d:Entry->Bool)
  (hd : ∀ x∈l,∀ c J,E5 AA f (first.map AV.borrow++(.agg (Entry.c x)::cap.map AV.borrow)) (H.set o (some c)++J) (.bool (d x))) :
  Dx AA 267 [.msl o 0 l.length 4,.fn (.func f) first cap] H λv H' => ∃ r' J,v = .msl o 0 (l.filter λx => !d x).length 4/\H'=H.set o (some (EX (l.filter λx => !d x)++r'))++J:=by
 have hset:H.set o (some (EX l++r))=H:=by
  obtain ⟨hlt,he⟩:=AD.1 ho
  apply A4
  intro i
  rw [A0]
  split
  ·rename_i hi;subst hi;rw [ho]
  ·rfl
 have hd0 : ∀ x∈l,E5 AA f (first.map AV.borrow++(.agg (Entry.c x)::cap.map AV.borrow)) H (.bool (d x)):=λx hx=>by
  have:=hd x hx (EX l++r) []
  rw [hset,Ah] at this
  exact this
 have c1:=yJ l DF r H o ho f first cap d hd0
 refine aC zX rfl ?_
 rcases Yu d l 0 with ⟨e,hall⟩|⟨i,x,e,hx,hdx,hpre⟩
 ·rw [e] at c1
  have hf:l.filter (λx => !d x)=l:=DN.2 λx hx=>by rw [hall x hx];rfl
  simp only [f267,go_sem]
  repeat' (first
   | (refine aS (c1) ?_;simp only [go_sem,Int.reduceBEq])
   | ((first|apply cS|apply gS)<;>(intro hc;simp only [go_sem,hc,Int.reduceBEq])))
  all_goals first|exact ⟨r,[],by rw [hf],by rw [hf,hset,Ah]⟩|skip
 ·rw [e,AY] at c1
  have hn1:(((i:Nat):Int) == -1)=false:=by rw [beq_eq_false_iff_ne];omega
  have hi:=(AD.1 hx).1
  have hw0:=Ln (k:=i) DF
  simp only [f267,go_sem]
  repeat' (first
   | (refine aS (c1) ?_;simp only [go_sem,hn1,hw0])
   | ((first|apply cS|apply gS)<;>(intro hc;simp only [go_sem,hc,hn1,hw0])))
  refine Jn (σ:=Nat×Nat×List Entry×DM×Ee) (λs=>(0,.msl o 0 l.length 4)::(1,.fn (.func f) first cap)::(5,.int .i64 s.1)::(6,.int .i64 s.2.1)::s.2.2.2.2) (λs=>H.set o (some (EX s.2.2.1++r))++s.2.2.2.1)
   (λs=>s.1<s.2.1/\s.2.1<=l.length/\s.2.2.1.length=l.length/\s.2.2.1.take s.1=(l.take s.2.1).filter (λx => !d x)/\s.2.2.1.drop s.2.1=l.drop s.2.1) (λs=>l.length - s.2.1) (i,i+1,l,[],[]) ⟨by dsimp only;omega,by dsimp only;omega,rfl, ?_,rfl⟩ ?_ ?_ ?_
  ·dsimp only
   rw [BF,hx,Cb]
   have h1:(l.take i).filter (λx => !d x)=l.take i:=DN.2 λz hz=>by rw [hpre z hz];rfl
   rw [h1]
   simp [hdx]
  ·rfl
  ·dsimp only
   rw [hset,Ah]
  ·rintro ⟨i,j,row,J,rest⟩ ⟨hij,hj,hrl,htk,hdr⟩
   dsimp only at hij hj hrl htk hdr ⊢
   have hoL:=(AD.1 ho).1
   have fO : ∀ c z,(H.set o c++z)[o]? =some c:=λc z=>Dg (HG hoL c) z
   have fW : ∀ c z c',(H.set o c++z).set o c'=H.set o c'++z:=λc z c'=>by rw [BP _ _ (by simpa using hoL),BB]
   by_cases hlt:j<l.length
   ·have hy:=AL hlt
    have hry:row[j]? =some l[j]:=by
     have:=congrArg (·[0]?) hdr
     simpa [hy] using this
    have j0:(0:Int)<=(j:Int):=DF
    have j1:(j:Int)<(l.length:Int):=DF
    have k0:(0:Int)<=(i:Int):=DF
    have k1:(i:Int)<(l.length:Int):=DF
    have hwj:=Ln (k:=j) DF
    have hwi:=Ln (k:=i) DF
    have g1:=ZD r hry
    rw [AE] at g1
    have g2:=SX row r j _ hry
    have fS : ∀ c z y,(H.set o c++(J++[z])).set (H.length+J.length) y=H.set o c++(J++[y]):=λc z y=>by
     rw [<- AF,<- AF]
     simp
    have fL : ∀ c y,(H.set o c++(J++[y]))[H.length+J.length]? =some y:=λc y=>by
     rw [<- AF]
     have:H.length+J.length=(H.set o c++J).length:=sm
     rw [this];exact Bj
    have c2:=hd _ (AB hy) (EX row++r) (J++[some (Entry.c l[j])])
    have hfil:(l.take (j+1)).filter (λx => !d x)=(l.take j).filter (λx => !d x)++(if d l[j]=true then [] else [l[j]]):=by
     rw [BF,hy,Cb]
     congr 1
     cases hd2:d l[j]<;>simp [hd2]
    have hc1:(Entry.c l[j]).length=4:=rfl
    have hc2:(Entry.c l[j]).take 4=Entry.c l[j]:=rfl
    cases hdy:d l[j] with
    | false =>
     rw [hdy] at c2
     simp only [go_sem,j0,j1,k0,k1,decide_true,fO,g1,g2,fS,fL,fW,hc1,hc2,AF,AE,An]
     repeat' (first
      | (refine aS (c2) ?_;simp only [go_sem,j0,j1,k0,k1,decide_true,fO,g1,g2,fS,fL,fW,hwi,hwj,hc1,hc2,AF,AE,An])
      | ((first|apply cS|apply gS)<;>(intro hc;simp only [go_sem,hc,j0,j1,k0,k1,decide_true,fO,g1,g2,fS,fL,fW,hwi,hwj,hc1,hc2,AF,AE,An])))
     have k2:i*4+4<=(EX row).length+r.length:=by rw [Gg];omega
     rw [if_pos k2,PD r DF]
     refine ⟨(i+1,j+1,row.set i l[j],J++[some (Entry.c l[j])],[]),⟨by dsimp only;omega,by dsimp only;omega,by simpa using hrl, ?_, ?_⟩,by dsimp only;omega,rfl,rfl⟩
     ·dsimp only
      rw [hfil,hdy,if_neg dc,<- htk,PB row i l[j] DF]
     ·dsimp only
      rw [List.drop_set_of_lt DF,<- A9,hdr,A9]
    | true =>
     rw [hdy] at c2
     simp only [go_sem,j0,j1,k0,k1,decide_true,fO,g1,g2,fS,fL,fW,hc1,hc2,AF,AE,An]
     repeat' (first
      | (refine aS (c2) ?_;simp only [go_sem,j0,j1,k0,k1,decide_true,fO,g1,g2,fS,fL,fW,hwi,hwj,hc1,hc2,AF,AE,An])
      | ((first|apply cS|apply gS)<;>(intro hc;simp only [go_sem,hc,j0,j1,k0,k1,decide_true,fO,g1,g2,fS,fL,fW,hwi,hwj,hc1,hc2,AF,AE,An])))
     refine ⟨(i,j+1,row,J++[some (Entry.c l[j])],[]),⟨by dsimp only;omega,by dsimp only;omega,hrl, ?_, ?_⟩,by dsimp only;omega,rfl,rfl⟩
     ·dsimp only
      rw [hfil,hdy,if_pos rfl,Ah,htk]
     ·dsimp only
      rw [<- A9,hdr,A9]
   ·have hjl:j=l.length:=DF
    subst hjl
    simp only [go_sem,AX,decide_false]
    refine ⟨⟨DF,DF,DF⟩, ?_⟩
    simp only [go_sem,ADl,fO,fW,AE]
    rw [BO] at htk
    have hkl:(l.filter λx => !d x).length=i:=by rw [<- htk,BI];omega
    refine ⟨DF,by rw [Gg];omega,⟨DF,DF,.inl trivial⟩,FJ (AV.agg (Entry.z.cf (some 1))) (l.length - i)++(EX row++r).drop (i*4+(FJ (AV.agg (Entry.z.cf (some 1))) (l.length - i)).length),J,by rw [hkl];rfl, ?_⟩
    unfold splice
    rw [Ik row r i DF,htk,AF]
theorem pN(l:List Entry):(F4 (EM l)).map borrow1=EX l:=by
 induction l with
 | nil=>rfl
 | cons x l ih =>
  have:F4 (EM (x::l))=x.c++F4 (EM l):=rfl
  rw [this,As,ih];rfl
theorem I2(l:List Entry):(EX l).map borrow1=EX l:=by
 induction l with
 | nil=>rfl
 | cons x l ih=>rw [Gd,As,ih];rfl
theorem dz(l:List Entry)(hl:l.length<=1073741824)(H:DM):Dx AA 265 [.sl none (EM l)] H λv H'=>(l=[]/\v = .sl (some 4) []/\H'=H)\/(v = .msl (H.length+1) 0 l.length 4/\H'=H++[none,some (EX l)]):=by
 have el:(EM l).length=l.length:=Gf l
 have g1 : ∀ (x:Option (List AV)),(H++[x])[H.length]? =some x:=λx=>sm
 have g2 : ∀ (x y:Option (List AV)),(H++[x]).set H.length y=H++[y]:=λx y=>sm
 refine aC AJH rfl ?_
 cases l with
 | nil =>
  simp only [f265,go_sem,g1,g2]
  exact .inr ⟨sm,rfl⟩
 | cons x l =>
  have hcs:EM (x::l) = .agg x.c::EM l:=rfl
  have hcat:=pN (x::l)
  rw [hcs] at hcat el ⊢
  simp only [AC] at hl
  simp only [f265,go_sem,g1,g2]
  exact ⟨DF,DF,.inr ⟨sm,by rw [hcat]⟩⟩
section
variable {P:Program} {d:Tmp} {K:Kt} {ev:Ee} {H:DM}
theorem AEI {t t' el:TypeId} {kn k:IntKind} {ob off len sz c m:Nat} {cs:List AV} {z:AV} (hu:P.underlying t=some (.slice el)) (hu2:P.underlying t'=some (.int kn)) (hz:EW P el=some z) (h1:z.cells.length=sz) (h2:P.cellsOf el=sz) (h3:FS P el=true) (hp:0<sz)
  (ho:H[ob]? =some (some cs)) (h5:off+len*sz<=cs.length) (h6:0<m) (h7:c<len+m) (h8:(len+m)*P.bytesOf el<=140737488355328) (h9:len+m<=9223372036854775807)
  (hk:K ((d,.msl H.length 0 (len+m) sz)::ev) (H++[some (((cs.drop off).take (len*sz)).map borrow1++(FJ z m).map borrow1)])):AEJ P t t' true [.mslc ob off len sz c,.int k (m:Int)] d K ev H:=by
 subst h2
 unfold AEJ apz
 simp only [hu,hu2,ho,Ae]
 exact ⟨z,hz,⟨h1,h3,hp,trivial,h5,DF,DF,h8,h9⟩,hk⟩
end
theorem UT{P:Program}{H:DM}{el:TypeId}{k ob off len sz:Nat}{cs X:List AV}{b:AV}(hb:oo b=some (ob,off,len,sz,false)\/oo b=some (ob,off,len,sz,true))(ho:H[ob]? =some (some cs))(h1:off+k*sz<=cs.length)(h2:sz=P.cellsOf el)(h3:k<=len)(hX:(cs.drop off).take (k*sz)=X):iO P el H k b=some X:=by
 subst hX
 cases b<;>simp only [oo,reduceCtorEq,Option.some.injEq,Prod.mk.injEq,or_self,Bool.true_eq_false,Bool.false_eq_true,and_false,and_true,false_or,or_false] at hb
 all_goals
  obtain ⟨rfl,rfl,rfl,rfl⟩:=hb
  simp only [iO,ho]
  rw [if_pos ⟨h1,h2,h3⟩]
theorem UU {P:Program} {d:Tmp} {K:Kt} {ev:Ee} {H:DM} {t el:TypeId} {a b:AV} {ob off len sz m k:Nat} {gr:Bool} {cs X R:List AV} (hk:Nat.min m len=k) (hu:P.underlying t=some (.slice el)) (hrow:oo a=some (ob,off,len,sz,gr)) (hm:xO b=some m) (ho:H[ob]? =some (some cs)) (h1:sz=P.cellsOf el)
  (h2:(P.info? el).isSome=true) (h3:cs.map borrow1=cs) (h4:off<=cs.length) (h5:gr=true\/off+k*sz<=cs.length) (hs:iO P el H k b=some X) (hR:cs.take off++X.map borrow1++cs.drop (off+k*sz)=R)
  (hK:K ((d,.int .i64 (k:Nat))::ev) (H.set ob (some R))):ADi P t a b d K ev H:=by
 subst hk hR
 exact AAU hu hrow hm ho h1 h2 h3 h4 h5 hs hK
theorem qt{A Z E:List AV}{k:Nat}(hA:A.length=k)(m:Nat):(A++Z).take k++E++(A++Z).drop (k+m)=A++E++Z.drop m:=by
 rw [List.take_left' hA,<- A9,EL hA]
def Vj(l:List Entry)(i:Nat)(e:Entry):List Entry:=l.take i++e::l.drop i
theorem fj{l:List Entry}{i:Nat}(h:i<=l.length)(e:Entry):(Vj l i e).length=l.length+1:=by simp [Vj];omega
def AGY(l:List Entry)(i:Nat)(e:Entry)(o:Nat)(H:DM)(v:AV)(H':DM):Prop :=
 ∃ ob r,v = .msl ob 0 (l.length+1) 4/\H'[ob]? =some (some (EX (Vj l i e)++r))/\(ob=o\/H.length<=ob) /\ ∃ c ext,H'=H.set o c++ext
set_option maxHeartbeats 1000000 in
theorem tE(l:List Entry)(hl:l.length<=1073741824)(i:Nat)(hi:i<=l.length)(e:Entry)(o vo:Nat)(hov:vo≠o)(H:DM)(ho:H[o]? =some (some (EX l)))(hv:H[vo]? =some (some e.c))(c:Nat)(hc1:l.length<=c)(hc2:c<=9223372036854775807):
  Dx AA 266 [.mslc o 0 l.length 4 c,.int .i64 i,.msl vo 0 1 4] H λv H'=>AGY l i e o H v H' \/ ∃ ob off len sz cp,v = .mslc ob off len sz cp/\AGY l i e o H (.msl ob off len sz) H':=by
 have i0:(0:Int)<=(i:Int):=DF
 have hil:(i:Int)<=(l.length:Int):=DF
 have hlc:(l.length:Int)<=(c:Int):=DF
 have hcl:(EX l).length=l.length*4:=Gg l
 have z1:(((1:Nat):Int)==0)=false:=rfl
 have hw1:IntKind.i64.wrap ((l.length:Int)+((1:Nat):Int))=((l.length+1:Nat):Int):=by rw [NT DF DF];rfl
 have hw2:IntKind.i64.wrap ((i:Int)+((1:Nat):Int))=((i+1:Nat):Int):=by rw [NT DF DF];rfl
 have hw3:IntKind.i64.wrap (((l.length+1:Nat):Int) - (i:Int))=((l.length+1 - i:Nat):Int):=by rw [NT DF DF];omega
 have hzv:EW AA 119=some (.agg (Entry.z.cf (some 1))):=kr
 have hzo:FS AA 119=true:=kr
 have hby:Tryz.prog.bytesOf 119=56:=kr
 have hinf:(Tryz.prog.info? 119).isSome=true:=kr
 have hag:RF AA 119=true:=kr
 have hcz:Tryz.prog.cellsOf 119=4:=kr
 have hsrc:Sa AA 119 true H (.msl vo 0 1 4)=some [.agg e.c]:=by
  have h:=iy (P:=AA) (el:=119) hv (off:=0) (len:=1) (sz:=4) (AU 4) hcz.symm (.inl hag)
  rw [hag] at h
  exact h
 have hus:Tryz.prog.underlying 58=some (.slice 119):=kr
 have hui:Tryz.prog.underlying 3=some (.int .i64):=kr
 have hcap : ∀ (d:Tmp) (K:Kt) (ev:Ee) (H2:DM),ADo AA 58 (.mslc o 0 l.length 4 c) d K ev H2=K ((d,.int .i64 c)::ev) H2:=λd K ev H2=>by
  unfold ADo
  rw [hus]
 have h00 : ¬ ((0:Int)=(c:Int)/\(0:Int)<0):=DF
 refine aC zY rfl ?_
 by_cases hin:i=l.length
 ·subst hin
  have hee:((l.length:Int)==(l.length:Int))=true:=sm
  simp only [f266,go_sem,i0,hlc,z1,hee,hsrc,ho]
  refine ⟨DF,DF,hcl,I2 l,.inl ⟨H.length,[],rfl, ?_,.inr (AU _),none,[some (EX l++e.c)],rfl⟩⟩
  rw [AM sm]
  have:Vj l l.length e=l++[e]:=by simp [Vj]
  rw [this,Mt]
  simp [EX]
  rfl
 ·have hne:((i:Int)==(l.length:Int))=false:=by rw [beq_eq_false_iff_ne];omega
  have hic : ¬ ((i:Int)=(c:Int)/\(0:Int)<(i:Int)):=DF
  by_cases hroom:c<l.length+1
  ·have hr1:(c:Int)<((l.length+1:Nat):Int):=DF
   simp only [f266,go_sem,i0,hlc,hil,hne,z1,hw1,hr1,decide_true,hic,hcap,h00,hw3,BS,Bt,AY]
   refine ⟨DF,AEI (z:=.agg (Entry.z.cf (some 1))) hus hui hzv rfl hcz hzo dc ho DF DF  DF (by rw [hby];omega) DF ?_⟩
   have hn1:i+(l.length+1 - i)=l.length+1:=DF
   have hA:(((EX l).drop 0).take (i*4)).map borrow1=EX (l.take i):=by
    have:=Ik l [] i hi
    rw [Ah] at this
    rw [BN,this,I2]
   rw [hn1,hA]
   have hZ:((FJ (.agg (Entry.z.cf (some 1))) (l.length+1 - i)).map borrow1).length=(l.length+1 - i)*4/\((FJ (.agg (Entry.z.cf (some 1))) (l.length+1 - i)).map borrow1).map borrow1=(FJ (.agg (Entry.z.cf (some 1))) (l.length+1 - i)).map borrow1:=by
    refine ⟨by rw [Aq];simp [FJ];rfl, ?_⟩
    rw [List.map_map]
    exact B3 λa _=>by cases a<;>rfl
   generalize (FJ (.agg (Entry.z.cf (some 1))) (l.length+1 - i)).map borrow1=Z at hZ
   have hZb:Z.map borrow1=Z:=hZ.2
   replace hZ:=hZ.1
   simp only [go_sem,i0,hil,hw2,BS,Bt,AY]
   refine ⟨⟨DF,.inr DF⟩, ?_⟩
   have hAl:(EX (l.take i)).length=i*4:=by rw [Gg,BI];omega
   have hDl:(EX (l.drop i)).length=(l.length - i)*4:=by rw [Gg,Cf]
   have gv : ∀ x,(H++[x])[vo]? =some (some e.c):=λx=>Dg hv _
   have go : ∀ x,(H++[x])[o]? =some (some (EX l)):=λx=>Dg ho _
   have gn : ∀ x:Option (List AV),(H++[x])[H.length]? =some x:=λx=>sm
   have gs : ∀ x y:Option (List AV),(H++[x]).set H.length y=H++[y]:=λx y=>sm
   refine UU (k:=1) (ob:=H.length) (cs:=EX (l.take i)++Z) (X:=e.c) (R:=EX (l.take i)++e.c++Z.drop 4) (by simp [DP];omega) hus rfl rfl (gn _) hcz.symm hinf (by rw [As,I2,hZb]) (by rw [AE];omega) (.inr (by rw [AE];omega)) (UT (.inl rfl) (gv _) (AU 4) hcz.symm (AU 1) rfl) (qt hAl 4) ?_
   have hn2:l.length+1 - (i+1)=l.length - i:=DF
   simp only [go_sem,gs,hw2,i0,hil,hic,hn2,BS,Bt,AY]
   have hdr:((EX l).drop (i*4)).take ((l.length - i)*4)=EX (l.drop i):=by
    have:=LO l [] i hi
    rw [Ah,Ah] at this
    rw [this,Br DF]
   have hel:e.c.length=4:=rfl
   have heb:e.c.map borrow1=e.c:=rfl
   have hZd:(Z.drop 4).length=(l.length - i)*4:=by rw [Cf];omega
   have hset:H.set o (some (EX l))=H:=by
    apply A4
    intro j
    rw [A0]
    split
    ·rename_i hj;subst hj;rw [ho,if_pos (AD.1 ho).1]
    ·rfl
   refine ⟨⟨DF,DF,.inr DF⟩,DF,UU (k:=l.length - i) (ob:=H.length) (cs:=EX (l.take i)++e.c++Z.drop 4) (X:=EX (l.drop i)) (R:=EX (l.take i)++e.c++EX (l.drop i)) (by simp [DP]) hus rfl rfl (by rw [<- AF];exact gn _) hcz.symm hinf (by rw [As,As,I2,heb,List.map_drop,hZb]) (by simp only [AE];omega) (.inr (by simp only [AE];omega))
    (UT (.inr rfl) (go _) DF hcz.symm DF hdr) ?_ ?_⟩
   ·rw [I2,qt (A:=EX (l.take i)++e.c) (by rw [AE];omega),Dm (l:=Z.drop 4) DF,Ah]
   ·simp only [go_sem,gs]
    exact .inl ⟨H.length,[],rfl,by rw [gn,Vj,Mt,Gd,Ah],.inr (AU _),some (EX l),_,by rw [hset]⟩
  ·have hr1 : ¬ (c:Int)<((l.length+1:Nat):Int):=DF
   simp only [f266,go_sem,i0,hlc,hil,hne,z1,hw1,hw2,hr1,decide_false,hic,hcap,h00,BS,Bt,AY]
   have hno : ¬ (((i+1:Nat):Int)=(c:Int)/\(0:Int)<((i+1:Nat):Int)):=DF
   have hsub:l.length+1 - (i+1)=l.length - i:=DF
   rw [if_neg hno,hsub]
   refine ⟨⟨DF,DF⟩,⟨DF,DF,DF⟩,xK (v:=.bool false) ⟨hov,⟨f312,58,4,119,kr,kr,kr,kr,kr,hus,hinf⟩,⟨_,hv⟩,⟨_,ho⟩,DF,rfl⟩ ?_⟩
   simp only [go_sem,hw2,i0,hil,hno,hic,hsub]
   have hDl:(EX (l.drop i)).length=(l.length - i)*4:=by rw [Gg,Cf]
   have hTl:(EX (l.take (i+1))).length=(i+1)*4:=by rw [Gg,BI];congr 1;omega
   have hdr:((EX l).drop (i*4)).take ((l.length - i)*4)=EX (l.drop i):=by
    have:=LO l [] i hi
    rw [Ah,Ah] at this
    rw [this,Br DF]
   have htk:(EX l).take ((i+1)*4)=EX (l.take (i+1)):=by
    have:=Ik l [] (i+1) DF
    rwa [Ah] at this
   have htk2:(EX (l.take (i+1))++EX (l.drop i)).take (i*4)=EX (l.take i):=by
    have:=Ik (l.take (i+1)) (EX (l.drop i)) i (by rw [BI];omega)
    rw [this,List.take_take,Nat.min_eq_left DF]
   have hol:=(AD.1 ho).1
   have go2 : ∀ x:Option (List AV),(H.set o x)[o]? =some x:=λx=>Az hol
   have gv2 : ∀ x:Option (List AV),(H.set o x)[vo]? =some (some e.c):=λx=>by rw [A6 (Ne.symm hov)];exact hv
   have gs2 : ∀ x y:Option (List AV),(H.set o x).set o y=H.set o y:=λx y=>BB ..
   refine ⟨⟨DF,DF,DF⟩,⟨DF,DF⟩,UU (k:=l.length - i) (ob:=o) (cs:=EX l) (X:=EX (l.drop i)) (R:=EX (l.take (i+1))++EX (l.drop i)) (by simp [DP];omega) hus rfl rfl ho hcz.symm hinf (I2 l) DF (.inl rfl) (UT (.inr rfl) ho DF hcz.symm DF hdr)
    (by rw [htk,I2,Dm (l:=EX l) DF,Ah]) ?_⟩
   simp only [go_sem,hw2,i0,hil,hic,BS,Bt,AY]
   refine ⟨⟨DF,DF⟩,UU (k:=1) (ob:=o) (cs:=EX (l.take (i+1))++EX (l.drop i)) (X:=e.c) (R:=EX (l.take i)++e.c++EX (l.drop i)) (by simp [DP];omega) hus rfl rfl (go2 _) hcz.symm hinf (by rw [As,I2,I2]) (by rw [AE];omega) (.inl rfl) (UT (.inl rfl) (gv2 _) (AU 4) hcz.symm (AU 1) rfl)
    (by rw [htk2,show i*4+1*4=(i+1)*4 by omega,EL hTl];rfl) ?_⟩
   simp only [go_sem,gs2]
   exact .inr ⟨o,0,l.length+1,4,c,rfl,o,[],rfl,by rw [go2,Vj,Mt,Gd,Ah],.inl rfl,_,[],by rw [Ah]⟩
theorem yH(l:List Entry)(hl:l.length<=1073741824)(i:Nat)(hi:i<=l.length)(e:Entry)(o vo:Nat)(hov:vo≠o)(H:DM)(ho:H[o]? =some (some (EX l)))(hv:H[vo]? =some (some e.c)):
  Dx AA 266 [.msl o 0 l.length 4,.int .i64 i,.msl vo 0 1 4] H (AGY l i e o H) :=
 kX (Dx.cap zY.c λc h1 h2=>tE l hl i hi e o vo hov H ho hv c h1 h2)
end Go.AI
namespace Go.AI
open Go.Proofs
set_option maxRecDepth 50000
theorem tF {H:DM} (l:List Entry) (hl:l.length<=9223372036854775807) (g:FuncId) (fi ca:List AV) (p:Entry->Bool)
  (h : ∀ x∈l,E5 AA g (fi.map AV.borrow++(.agg x.c::ca.map AV.borrow)) H (.bool (p x))) :
  E5 AA 146 [.sl none (EM l),.fn (.func g) fi ca] H (.int .i64 (Gq p l)):=by
 unfold E5
 refine aC nw rfl ?_
 simp only [f146,go_sem]
 refine EP l (λr=>Fw p (l.length - r.length) r) (λk=>[(0,.sl none (EM l)),(1,.fn (.func g) fi ca),(7,.int .i64 l.length),(8,.int .i64 k)]) hl rfl ?_ ?_
 ·intro k x xs hd hx hF h0 h1 hw
  have hk2:=Eb hd
  have e1:l.length - (xs.length+1)=k:=DF
  have e2:l.length - xs.length=k+1:=DF
  simp only [AC,e1,AQ] at hF
  simp only [go_sem,h0,h1,Er hx,e1,e2]
  repeat' (first
   | (refine aS (h x (AB hx)) ?_;simp only [go_sem,h0,h1,hw,Er hx,e1,e2])
   | ((first|apply cS|apply gS)<;>(intro hc;simp only [go_sem,hc,h0,h1,hw,Er hx,e1,e2])))
  ·rw [Gq,hF,Fw,if_pos hc]
  ·rw [Fw,if_neg (by rw [hc];decide)]
 ·intro hF hlt
  simp only [go_sem,hlt,decide_false]
  rw [AQ] at hF
  rw [Gq,hF];rfl
def uV:Hint:={ I0 with mt:=[40,67],tk:=25::I0.tk }
@[go_sem] theorem AZo(k:Nat):uV.lv k=I0.lv k:=AH rfl rfl
set_option linter.defProp false in
@[go_sem] def Aar:=DV uV rfl rfl rfl
@[go_sem] theorem Aaq:uV.tk=[25,17,23,24,44,51,55,56,81,83,87,94]/\uV.mt=[40,67]/\uV.pc=[67,93]:=⟨rfl,rfl,rfl⟩
theorem AGd:FK AA 266 f266 uV:=⟨kr,kr,func266,kr⟩
theorem tD(e:Entry)(vo:Nat)(H:DM)(hv:H[vo]? =some (some e.c)):
  Dx AA 266 [.sl (some 4) [],.int .i64 ((0:Nat):Int),.msl vo 0 1 4] H λv H'=>v = .sl (some 4) [.agg e.c]/\H'=H:=by
 have z1:(((1:Nat):Int)==0)=false:=rfl
 have z0:(((0:Nat):Int)==((0:Nat):Int))=true:=rfl
 have hag:RF AA 119=true:=kr
 have hcz:Tryz.prog.cellsOf 119=4:=kr
 have hsrc:Sa AA 119 true H (.msl vo 0 1 4)=some [.agg e.c]:=by
  have h:=iy (P:=AA) (el:=119) hv (off:=0) (len:=1) (sz:=4) (AU 4) hcz.symm (.inl hag)
  rw [hag] at h
  exact h
 refine aC AGd rfl ?_
 simp only [f266,go_sem,z1,z0,hsrc]
 exact Int.le_refl _
def Pd(l:List Entry)(e:Entry):List Entry:=if bsT l e=true then l.set (Xg l e) e else Vj l (Xg l e) e
theorem VW(l:List Entry):(l.map Entry.c).map AV.agg=EM l:=by
 induction l with
 | nil=>rfl
 | cons x l ih=>rw [AT,AT,ih];rfl
set_option maxHeartbeats 1000000 in
theorem AF6(st:List Entry)(hl:st.length<=1073741823)(hk : ∀ y∈st,y.key.length<=1073741824)(e:Entry):DR AA 209 [.sl none (EM st),.agg e.c] (.sl none (EM (Pd st e))):=by
 have c1:=q8 st DF hk e
 have hle:=AAu st e
 have h0:Dx AA 209 [.sl none (EM st),.agg e.c] [] λv H'=>ASc 4 ((Pd st e).map Entry.c) v [] H':=by
  refine aN AKq rfl ?_
  simp only [f209,go_sem]
  refine pK c1 ?_
  simp only [go_sem]
  refine Eh.intro (dz st DF [some e.c]) λv H' hq=>?_
  have k0:(0:Int)<=((Xg st e:Nat):Int):=DF
  rcases hq with ⟨rfl,rfl,rfl⟩|⟨rfl,rfl⟩
  ·have hb:bsT [] e=false:=rfl
   have hp:Xg [] e=0:=rfl
   simp only [go_sem,hb]
   rw [hp]
   refine Eh.intro (tD e 1 _ rfl) λv H' hq=>?_
   obtain ⟨rfl,rfl⟩:=hq
   simp only [go_sem]
   exact .inr ⟨⟨_,rfl⟩,_,rfl⟩
  ·simp only [go_sem,AC,AG,AS,AN,AY,Nat.reduceAdd]
   cases hb:bsT st e with
   | true =>
    have hlt:Xg st e<st.length:=by
     unfold bsT at hb
     split at hb
     ·rename_i y hy;exact (AD.1 hy).1
     ·cases hb
    have k1:((Xg st e:Nat):Int)<(st.length:Int):=DF
    have k2:Xg st e*4+4<=(EX st).length:=by rw [Gg];omega
    have k3:splice (EX st) (Xg st e*4) (e.cf none)=EX (st.set (Xg st e) e):=by
     have:=PD [] hlt e
     rw [Ah,Ah] at this
     exact this
    have k4:Pd st e=st.set (Xg st e) e:=by rw [Pd,if_pos hb]
    simp only [go_sem,k0,k1,k2,k3]
    refine .inl (.inr ⟨2,EX (st.set (Xg st e) e), ?_,sm,⟨_,rfl⟩,rfl,[], ?_⟩)
    ·rw [k4,Aq,An]
    ·rw [k4,Ah];rfl
   | false =>
    have k4:Pd st e=Vj st (Xg st e) e:=by rw [Pd,if_neg (by rw [hb];decide)]
    simp only [go_sem,k0]
    refine Eh.intro (yH st DF (Xg st e) hle e 2 3 dc _ rfl rfl) λv H' hq=>?_
    obtain ⟨ob,r,rfl,ho,hob,c,ext,rfl⟩:=hq
    simp only [go_sem]
    refine .inl (.inr ⟨ob,_, ?_,sm,⟨_,rfl⟩,ho,r, ?_⟩)
    ·rw [k4,Aq,fj hle]
    ·rw [k4];rfl
 have h1:=qi (n:=4) (es:=(Pd st e).map Entry.c) (λx hx=>by obtain ⟨y,_,rfl⟩:=AO.1 hx;rfl) (λx hx=>by obtain ⟨y,_,rfl⟩:=AO.1 hx;exact y.c_bnd _) (λx hx=>by obtain ⟨y,_,rfl⟩:=AO.1 hx;rfl) h0
 rw [VW] at h1
 refine M7 (h1.mono λv H' h=>h.1) ?_ ?_
 ·simp [DY,AV.pure,Ig,RW]
 ·simp [AV.pure,Ig]
theorem s8(l:List Entry)(hl:l.length<=1073741823)(H:DM)(g:FuncId)(ca:List AV)(hca:ca.map AV.borrow=ca)(d:Entry->Bool)(hd : ∀ x∈l,∀ J,E5 AA g (.agg x.c::ca) (H++J) (.bool (d x))):
  Dx AA 210 [.sl none (EM l),.fn (.func g) [] ca] H λv H'=>v = .sl none (EM (l.filter d))/\H'=H:=by
 have h1 : ∀ x∈l,∀ J,E5 AA 268 [.agg x.c,.ptr H.length 0] (H++some [.fn (.func g) [] ca]::J) (.bool (!d x)):=by
  intro x hx J
  refine Dx.drop rfl ?_
  have c1:=hd x hx (some [.fn (.func g) [] ca]::(J++[some (Entry.c x)]))
  have e1:H++some [.fn (.func g) [] ca]::(J++[some (Entry.c x)])=H++some [.fn (.func g) [] ca]::J++[some (Entry.c x)]:=sm
  rw [e1] at c1
  refine aC AI9 rfl ?_
  have g1 : ∀ L,(H++some [AV.fn (.func g) [] ca]::L)[H.length]? =some (some [AV.fn (.func g) [] ca]):=λL=>sm
  have g2 : ∀ X y,(H++X::(J++[y]))[List.length (H++X::J)]? =some y:=λX y=>by
   have:H++X::(J++[y])=(H++X::J)++[y]:=sm
   rw [this];exact Bj
  have hc2:(Entry.c x).take 4=Entry.c x:=rfl
  have hc3:(Entry.c x).length=4:=rfl
  simp only [f268,go_sem,g1,g2,hc2,hc3,hca]
  rw [<- e1] at c1
  repeat' (first
   | (refine aS (c1) ?_;simp only [go_sem,g1,g2])
   | ((first|apply cS|apply gS)<;>(intro hc;simp only [go_sem,hc,g1,g2])))
  exact ⟨_,rfl⟩
 have h0:Dx AA 210 [.sl none (EM l),.fn (.func g) [] ca] H λv H'=>AFy 4 ((l.filter d).map Entry.c) v H H':=by
  refine aC AKn rfl ?_
  simp only [f210,go_sem]
  refine Eh.intro (dz l DF _) λv H' hq=>?_
  rcases hq with ⟨rfl,rfl,rfl⟩|⟨rfl,rfl⟩
  ·simp only [go_sem]
   refine Eh.intro (XB _ _ _ _ _) λv H' hq=>?_
   obtain ⟨rfl,w2,rfl⟩:=hq
   simp only [go_sem]
   exact .inl ⟨rfl,⟨_,rfl⟩,_,rfl⟩
  ·simp only [go_sem]
   have f2:List.filter (λx => !!d x) l=l.filter d:=sm
   have eo:List.length (H++[some [AV.fn (.func g) [] ca]])+1=H.length+2:=sm
   have eS : ∀ (c:Option (List AV)) (J:DM),(H++[some [AV.fn (.func g) [] ca],none,some (EX l)]).set (H.length+2) c++J=H++some [.fn (.func g) [] ca]::([none,c]++J):=λc J=>by
    rw [BZ _ _ DF]
    simp
   rw [eo]
   refine Eh.intro (tH l hl [] _ (H.length+2) sm _ [] [.ptr H.length 0] (λx => !d x) λx hx c J=>by rw [eS];exact h1 x hx _) λv H' hq=>?_
   obtain ⟨r,J,rfl,rfl⟩:=hq
   simp only [go_sem,f2,eS]
   refine .inr ⟨H.length+2,EX (l.filter d)++r, ?_,DF,⟨_,rfl⟩, ?_,r,rfl⟩
   ·rw [Aq]
   ·simp
 have h2:=qj (n:=4) (es:=(l.filter d).map Entry.c) (λx hx=>by obtain ⟨y,_,rfl⟩:=AO.1 hx;rfl) (λx hx=>by obtain ⟨y,_,rfl⟩:=AO.1 hx;exact y.c_bnd _) (λx hx=>by obtain ⟨y,_,rfl⟩:=AO.1 hx;rfl) h0
 rwa [VW] at h2
def XJ(st:List Entry)(v:ByteArray):List Entry:=st.filter λe=>decide (e.var=v)
theorem AEs(l:List Entry)(hl:l.length<=1073741823)(v:ByteArray):DR AA 145 [.sl none (EM l),.str v] (.sl none (EM (XJ l v))):=by
 have h1 : ∀ x∈l,∀ J,E5 AA 211 [.agg x.c,.ptr 0 0] ([some [.str v]]++J) (.bool (decide (x.var=v))):=by
  intro x hx J
  refine Dx.drop rfl ?_
  refine aC AKk rfl ?_
  simp only [f211,go_sem]
  exact ⟨by rw [By],_,rfl⟩
 refine pB ANc rfl ?_
 simp only [f145,go_sem]
 refine Eh.intro (s8 l hl _ _ _ rfl _ h1) λw H' hq=>?_
 obtain ⟨rfl,rfl⟩:=hq
 simp only [go_sem]
 rfl
def AWO(f:Fld×Bool):Prop:=f.2=true->Fr f.1
def wo(l:List Fld)(h:Head)(nm:ByteArray)(n:Int):Head:=if (EO l nm).2=true then QP (EO l nm).1 h (if JT (EO l nm).1<n then JT (EO l nm).1 else n).toNat else h
theorem Vv{l:List Fld}(hl:Hl l)(s:ByteArray):AWO (EO l s):=λh=>HU hl h
theorem OV{α:Type}{H:List α}{o:Nat}{x:α}(h:H[o]? =some x):H.set o x=H:=by
 apply A4
 intro j
 rw [A0]
 split
 ·rename_i hj;subst hj;rw [h,if_pos (AD.1 h).1]
 ·rfl
theorem KU{α:Type}{H:List α}{o:Nat}{x:α}(h:o<H.length)(L:List α):(H++L).set o x=H.set o x++L:=BP _ _ h
theorem Re{l:List Fld}(hl:Hl l){h:Head}(hr:EF h=true)(nm:ByteArray){n:Int}(hn:0<=n):EF (wo l h nm n)=true:=by
 unfold wo
 split
 ·rename_i hf
  have hg:=Vv hl nm hf
  have hm:=QY hg
  have hp:0<2^fW (EO l nm).1:=Ba _
  refine MV hg ?_ hr
  rw [hm]
  split<;>omega
 ·exact hr
theorem UK(D:Doing)(hl:Hl D.fields)(hln:D.fields.length<=9223372036854775807)(hr:EF D.head=true)(nm:ByteArray)(n:Int)(hn:0<=n)(H:DM)(od:Nat)(o0 o1 o2 o3:Option Nat)(ho:H[od]? =some (some (D.cf o0 o1 o2 o3))):
  Dx AA 144 [.ptr od 0,.str nm,.int .i64 n] H λv H'=>v = .tup [] /\ ∃ ext,H'=H.set od (some (({ D with head:=wo D.fields D.head nm n }:Doing).cf o0 o1 o2 o3))++ext:=by
 have hlt:=(AD.1 ho).1
 have c1:=Pf D.fields hln nm
 have q0:=q_0 H
 have g1:=Dg ho
 refine aC ANf rfl ?_
 cases hf:(EO D.fields nm).2 with
 | false =>
  rw [hf] at c1
  simp only [f144,go_sem,ho,g1]
  refine pK c1 ?_
  simp only [go_sem,ho,g1,q0]
  have e1:wo D.fields D.head nm n=D.head:=by unfold wo;rw [if_neg (by rw [hf];decide)]
  rw [e1,OV ho]
  exact ⟨_,rfl⟩
 | true =>
  rw [hf] at c1
  have hg:=Vv hl nm hf
  have hm:=QY hg
  have c2:=rA (EO D.fields nm).1 (by have:=hg;unfold Fr at this;omega) (by have:=hg;unfold Fr at this;omega)
  have hp:0<2^fW (EO D.fields nm).1:=Ba _
  have e1:wo D.fields D.head nm n=QP (EO D.fields nm).1 D.head (if JT (EO D.fields nm).1<n then JT (EO D.fields nm).1 else n).toNat:=by unfold wo;rw [if_pos hf]
  have e2:(((if JT (EO D.fields nm).1<n then JT (EO D.fields nm).1 else n).toNat:Nat):Int)=if JT (EO D.fields nm).1<n then JT (EO D.fields nm).1 else n:=Int.toNat_of_nonneg (by rw [hm];split<;>omega)
  have c3:=lh (EO D.fields nm).1 hg D.head hr (if JT (EO D.fields nm).1<n then JT (EO D.fields nm).1 else n).toNat (by rw [hm];split<;>omega)
  rw [e2,<- e1] at c3
  simp only [f144,go_sem,ho,g1]
  refine pK c1 ?_
  simp only [go_sem,ho,g1,q0]
  refine pK c2 ?_
  simp only [go_sem,ho,g1,q0]
  refine pK c3 ?_
  simp only [go_sem,ho,g1,q0,hlt]
  rw [KU hlt]
  exact ⟨_,rfl⟩
def Fc(D:Doing):Doing×Bool:=if D.is=false/\100<=(XJ D.st D.step.var).length then (D,false) else ({ D with st:=Pd D.st D.entry },true)
theorem JX(D:Doing):(Fc D).1.fields=D.fields/\(Fc D).1.step=D.step/\(Fc D).1.head=D.head/\(Fc D).1.entry=D.entry:=by
 unfold Fc;split<;>exact ⟨rfl,rfl,rfl,rfl⟩
def dI(od:Nat)(o0 o1 o3:Option Nat)(H:DM)(r:Doing×Bool)(v:AV)(H':DM):Prop:=v = .bool r.2 /\ ∃ o2 ext,H'=H.set od (some (r.1.cf o0 o1 o2 o3))++ext
theorem LU(D:Doing)(hst:D.st.length<=1073741823)(hk : ∀ y∈D.st,y.key.length<=1073741824)(H:DM)(od:Nat)(o0 o1 o2 o3:Option Nat)(ho:H[od]? =some (some (D.cf o0 o1 o2 o3))):
  Dx AA 143 [.ptr od 0] H (dI od o0 o1 o3 H (Fc D)):=by
 have hlt:=(AD.1 ho).1
 have c1:=AEs D.st DF D.step.var
 have c2:=AF6 D.st DF hk D.entry
 refine aC ANi rfl ?_
 cases hi:D.is with
 | true =>
  simp only [f143,go_sem,ho,hi,Ar]
  refine pK c2 ?_
  simp only [go_sem,ho,hlt]
  have e1:Fc D=({ D with st:=Pd D.st D.entry },true):=by unfold Fc;rw [if_neg (by rw [hi];simp)]
  rw [e1]
  exact ⟨rfl,none,[],sm⟩
 | false =>
  simp only [f143,go_sem,ho,hi,Av]
  refine pK c1 ?_
  simp only [go_sem,ho,hlt]
  refine cS ?_ ?_<;>intro hc
  ·have e1:Fc D=(D,false):=by unfold Fc;rw [if_pos ⟨hi,by simp at hc;omega⟩]
   simp only [go_sem,e1]
   exact ⟨rfl,o2,[],by rw [OV ho,Ah]⟩
  ·have e1:Fc D=({ D with st:=Pd D.st D.entry },true):=by unfold Fc;rw [if_neg (by simp at hc ⊢;omega)]
   simp only [go_sem,ho,hlt]
   refine pK c2 ?_
   simp only [go_sem,ho,hlt,e1]
   exact ⟨rfl,none,[],by simp [hi]⟩
theorem Ul{α:Type}{H:List α}{o:Nat}(h:o<H.length)(x:α)(L:List α):(H.set o x++L)[o]? =some x:=by
 rw [List.getElem?_append_left (by rw [An];exact h)]
 exact Az h
def AEt(D:Doing):Doing×Bool:=Fc { D with entry:={ D.entry with at_:=D.tick } }
def an(D:Doing):Doing×Bool:=(D,D.is&&decide (IntKind.i64.wrap (D.tick - D.step.n)<=D.entry.at_))
def wrD(r:Doing×Bool):Doing×Bool:=if r.2=true then ({ r.1 with head:=wo r.1.fields r.1.head r.1.step.field r.1.entry.n },true) else (r.1,false)
def VB(a b:Int):Int:=if b<a then b else a
def ou(D:Doing):Doing×Bool:=wrD (Fc { D with entry:={ D.entry with n:=VB (D.entry.n+1) 65535,at_:=D.tick } })
def gG:Hint:={ h73 with pc:=[] }
@[go_sem] theorem AZ1(k:Nat):gG.lv k=h73.lv k:=AH rfl rfl
@[go_sem] theorem AZ3(k:Nat):gG.ct k=h73.ct k:=AH rfl rfl
@[go_sem] theorem AZ4(k:Nat):gG.at k=h73.at k:=AH rfl rfl
@[go_sem] theorem AZ2(k:Nat):gG.dn k=h73.dn k:=AH rfl rfl
@[go_sem] theorem Aav:gG.tk=[]/\gG.mt=[]/\gG.pc=[]:=⟨rfl,rfl,rfl⟩
theorem AGh:FK AA 73 f73 gG:=⟨kr,kr,func73,kr⟩
def gF:Hint:={ h74 with pc:=[] }
@[go_sem] theorem AZx(k:Nat):gF.lv k=h74.lv k:=AH rfl rfl
@[go_sem] theorem AZz(k:Nat):gF.ct k=h74.ct k:=AH rfl rfl
@[go_sem] theorem AZ0(k:Nat):gF.at k=h74.at k:=AH rfl rfl
@[go_sem] theorem AZy(k:Nat):gF.dn k=h74.dn k:=AH rfl rfl
@[go_sem] theorem Aau:gF.tk=[]/\gF.mt=[]/\gF.pc=[]:=⟨rfl,rfl,rfl⟩
theorem AGg:FK AA 74 f74 gF:=⟨kr,kr,func74,kr⟩
section
variable (D:Doing) (hl:Hl D.fields) (hln:D.fields.length<=9223372036854775807) (hst:D.st.length<=1073741823) (hk : ∀ y∈D.st,y.key.length<=1073741824) (hr:EF D.head=true) (he:0<=D.entry.n/\D.entry.n<=65535)
variable (H:DM) (od:Nat) (o0 o1 o2 o3:Option Nat) (ho:H[od]? =some (some (D.cf o0 o1 o2 o3)))
include hst hk ho
theorem ACn:Dx AA 74 [.ptr od 0] H (dI od o0 o1 o3 H (AEt D)):=by
 have hlt:=(AD.1 ho).1
 refine aC AGg rfl ?_
 simp only [f74,go_sem,ho,hlt]
 refine Eh.intro (LU { D with entry:={ D.entry with at_:=D.tick } } hst hk _ od o0 o1 o2 o3 (Az hlt)) λv H' hq=>?_
 obtain ⟨rfl,w,ext,rfl⟩:=hq
 simp only [go_sem]
 exact ⟨rfl,w,ext,by rw [BB];rfl⟩
theorem yD:Dx AA 75 [.ptr od 0] H (dI od o0 o1 o3 H (an D)):=by
 have hlt:=(AD.1 ho).1
 refine aC AUB rfl ?_
 cases hi:D.is<;>simp only [f75,go_sem,ho,hi]
 ·exact ⟨by rw [an,hi];rfl,o2,[],by rw [Ah];exact (OV ho).symm⟩
 ·exact ⟨by rw [an,hi];rfl,o2,[],by rw [Ah];exact (OV ho).symm⟩
include hl hln hr he
theorem yB:Dx AA 73 [.ptr od 0] H (dI od o0 o1 o3 H (ou D)):=by
 have hlt:=(AD.1 ho).1
 have hw:IntKind.i64.wrap (D.entry.n+1)=D.entry.n+1:=NT DF DF
 refine aC AGh rfl ?_
 have gS : ∀ x,(H.set od x)[od]? =some x:=λx=>Az hlt
 have gL : ∀ x,od<(H.set od x).length:=λx=>by rw [An];exact hlt
 have sS : ∀ x y,(H.set od x).set od y=H.set od y:=λx y=>BB ..
 simp only [f73,go_sem,ho,hlt,hw,gS,gL,sS]
 refine Eh.intro (LU { D with entry:={ D.entry with n:=VB (D.entry.n+1) 65535,at_:=D.tick } } hst hk _ od o0 o1 o2 o3 (gS _)) λv H' hq=>?_
 obtain ⟨rfl,w,ext,rfl⟩:=hq
 have hD:ou D=wrD (Fc { D with entry:={ D.entry with n:=VB (D.entry.n+1) 65535,at_:=D.tick } }):=rfl
 rw [hD]
 have k1:=JX { D with entry:={ D.entry with n:=VB (D.entry.n+1) 65535,at_:=D.tick } }
 generalize Fc { D with entry:={ D.entry with n:=VB (D.entry.n+1) 65535,at_:=D.tick } }=r at k1 ⊢
 obtain ⟨D2,b⟩:=r
 obtain ⟨k2,k3,k4,k5⟩:=k1
 dsimp only at k2 k3 k4 k5
 rw [sS]
 cases b with
 | false =>
  simp only [go_sem,Av]
  exact ⟨rfl,w,ext,rfl⟩
 | true =>
  have hA:=Ul hlt (some (D2.cf o0 o1 w o3)) ext
  simp only [go_sem,Ar,hA]
  refine Eh.intro (UK D2 (by rw [k2];exact hl) (by rw [k2];exact hln) (by rw [k4];exact hr) _ _ (by rw [k5];unfold VB;split<;>simp<;>omega) _ od o0 o1 w o3 hA) λv H' hq=>?_
  obtain ⟨rfl,ext2,rfl⟩:=hq
  simp only [go_sem]
  refine ⟨rfl,w,ext++ext2, ?_⟩
  rw [KU (gL _),sS,AF]
  rfl
end
end Go.AI
namespace Go.AI
open Go.Proofs
set_option maxRecDepth 50000
theorem Y2(U:List Int)(m:Int)(h:m∈U):(U.filter λx=>decide (m+1<=x)).length<(U.filter λx=>decide (m<=x)).length:=by
 have e:U.filter (λx=>decide (m+1<=x))=(U.filter λx=>decide (m<=x)).filter λx => !decide (x=m):=by
  rw [List.filter_filter]
  congr 1
  funext x
  rw [Bool.eq_iff_iff]
  simp
  omega
 rw [e]
 exact List.length_filter_lt_length_iff_exists.2 ⟨m,by simp [h],sm⟩
def J6(U:List Int)(m:Int):Int:=if m∈U then J6 U (m+1) else m
termination_by (U.filter λx=>decide (m<=x)).length
decreasing_by exact Y2 U m (by assumption)
theorem zz{U:List Int}{m:Int}(h:m∈U):J6 U m=J6 U (m+1):=by rw [J6,if_pos h]
theorem uh{U:List Int}{m:Int}(h:m∉U):J6 U m=m:=by rw [J6,if_neg h]
theorem zy(U:List Int)(m B:Int)(hU : ∀ x∈U,x<=B)(hm:m<=B+1):m<=J6 U m/\J6 U m<=B+1:=by
 fun_induction J6 U m with
 | case1 m h ih =>
  have:=hU m h
  have:=ih DF
  omega
 | case2 m h=>omega
def LH(D:Doing):List Int:=(XJ D.st D.step.var).map (·.n)
def MS(D:Doing):Doing×Bool :=
 if D.is=true then wrD (Fc { D with entry:={ D.entry with at_:=D.tick } })
 else if D.step.m<J6 (LH D) D.step.n then ({ D with entry:={ D.entry with n:=J6 (LH D) D.step.n,at_:=D.tick } },false)
 else wrD (Fc { D with entry:={ D.entry with n:=J6 (LH D) D.step.n,at_:=D.tick } })
def gD:Hint:={ h76 with pc:=[29] }
@[go_sem] theorem AZp(k:Nat):gD.lv k=h76.lv k:=AH rfl rfl
@[go_sem] theorem AZr(k:Nat):gD.ct k=h76.ct k:=AH rfl rfl
@[go_sem] theorem AZs(k:Nat):gD.at k=h76.at k:=AH rfl rfl
@[go_sem] theorem AZq(k:Nat):gD.dn k=h76.dn k:=AH rfl rfl
@[go_sem] theorem Aas:gD.tk=[]/\gD.mt=[]/\gD.pc=[29]:=⟨rfl,rfl,rfl⟩
theorem AGe:FK AA 76 f76 gD:=⟨kr,kr,func76,kr⟩
def XT(D:Doing)(e:Entry):Bool:=decide (e.var=D.step.var)&&(e.n==(Mq (EO D.fields D.step.field).1 D.head:Nat))
def bkH(l:List Fld)(h:Head)(q:List (ByteArray×Int)):Head:=q.foldl (λh p=>wo l h p.1 p.2) h
def WK(D:Doing):Doing×Bool:=match D.st.find? (XT D) with
 | none=>(D,false)
 | some y=>({ D with head:=bkH D.fields D.head (D.step.key.zip y.key) },true)
theorem ce{α β:Type}(x:α){y:β}: ∀ {a:List α} {b:List β},b[a.length]? =some y->(a++[x]).zip b=a.zip b++[(x,y)]
 | [],[],h=>by simp at h
 | [],z::b,h=>by simp at h;subst h;rfl
 | w::a,[],h=>by simp at h
 | w::a,z::b,h=>by
  have h2:b[a.length]? =some y:=by simpa using h
  rw [AS,B5,ce x h2,B5];rfl
theorem Mj{α:Type}(p:α->Bool): ∀ (l:List α) (k:Nat),(Fw p k l = -1/\l.find? p=none) \/ ∃ (i:Nat) (y:α),Fw p k l=((k+i:Nat):Int)/\l[i]? =some y/\l.find? p=some y
 | [],k => .inl ⟨rfl,rfl⟩
 | x::l,k=>by
  rw [Fw]
  by_cases h:p x=true
  ·rw [if_pos h]
   exact .inr ⟨0,x,rfl,rfl,by rw [B0,h]⟩
  ·rw [if_neg h]
   have h2:p x=false:=by simpa using h
   rcases Mj p l (k+1) with ⟨h3,h4⟩|⟨i,y,h3,h4,h5⟩
   ·exact .inl ⟨h3,by rw [B0,h2];exact h4⟩
   ·exact .inr ⟨i+1,y,by rw [h3];congr 1;omega,h4,by rw [B0,h2];exact h5⟩
def gH:Hint:={ h77 with pc:=[19,27] }
@[go_sem] theorem AZ5(k:Nat):gH.lv k=h77.lv k:=AH rfl rfl
@[go_sem] theorem AZ7(k:Nat):gH.ct k=h77.ct k:=AH rfl rfl
@[go_sem] theorem AZ8(k:Nat):gH.at k=h77.at k:=AH rfl rfl
@[go_sem] theorem AZ6(k:Nat):gH.dn k=h77.dn k:=AH rfl rfl
@[go_sem] theorem Aaw:gH.tk=[]/\gH.mt=[]/\gH.pc=[19,27]:=⟨rfl,rfl,rfl⟩
theorem AGi:FK AA 77 f77 gH:=⟨kr,kr,func77,kr⟩
def PZ(s:Stp)(e:Entry)(is:Bool)(tick:Int):Entry:=if is=true then e else { e with n:=s.n,at_:=tick }
def Fm(s:Stp)(e:Entry)(tick:Int):Int:=(if 0<tick - e.at_ then tick - e.at_ else 0) / s.m
def PY(s:Stp)(e:Entry)(tick:Int):Entry:=if s.n<=e.n+Fm s e tick then { e with n:=s.n,at_:=tick } else { e with n:=e.n+Fm s e tick,at_:=e.at_+Fm s e tick*s.m }
def PX(e:Entry):Entry:=if 0<e.n then { e with n:=e.n - 1 } else e
theorem qo{s:Stp}{e:Entry}{tick:Int}(hm:1<=s.m):0<=Fm s e tick/\Fm s e tick*s.m<=(if 0<tick - e.at_ then tick - e.at_ else 0):=by
 unfold Fm
 have h0:0<=(if 0<tick - e.at_ then tick - e.at_ else 0):=by split<;>omega
 generalize (if 0<tick - e.at_ then tick - e.at_ else 0)=x at h0 ⊢
 exact ⟨Int.ediv_nonneg h0 DF,Int.ediv_mul_le _ DF⟩
theorem YT{s:Stp}{e:Entry}{tick:Int}(hm:1<=s.m/\s.m<=1073741824)(he:0<=e.n/\e.n<=65536)(ht:0<=tick/\tick<=1073741824)(ha:0<=e.at_/\e.at_<=1073741824):
  IntKind.i64.wrap (tick - e.at_)=tick - e.at_/\IntKind.i64.wrap ((if tick - e.at_>0 then tick - e.at_ else 0).tdiv s.m)=Fm s e tick/\IntKind.i64.wrap (e.n+Fm s e tick)=e.n+Fm s e tick/\IntKind.i64.wrap (Fm s e tick*s.m)=Fm s e tick*s.m/\IntKind.i64.wrap (e.at_+Fm s e tick*s.m)=e.at_+Fm s e tick*s.m /\
   0<=Fm s e tick/\Fm s e tick*s.m<=1073741824/\Fm s e tick<=1073741824/\0<=Fm s e tick*s.m:=by
 obtain ⟨p1,p2⟩:=qo (s:=s) (e:=e) (tick:=tick) hm.1
 have p3:(if 0<tick - e.at_ then tick - e.at_ else 0)<=1073741824:=by split<;>omega
 have p4:Fm s e tick<=Fm s e tick*s.m:=by
  have:=Int.mul_le_mul_of_nonneg_left hm.1 p1
  omega
 have p5:(if tick - e.at_>0 then tick - e.at_ else 0).tdiv s.m=Fm s e tick:=by
  unfold Fm
  rw [Int.tdiv_eq_ediv_of_nonneg (by split<;>omega)]
 rw [p5]
 exact ⟨NT DF DF,NT DF DF,NT DF DF,NT DF DF,NT DF DF,p1,DF,DF,DF⟩
def gE:Hint:={ h78 with pc:=[] }
@[go_sem] theorem AZt(k:Nat):gE.lv k=h78.lv k:=AH rfl rfl
@[go_sem] theorem AZv(k:Nat):gE.ct k=h78.ct k:=AH rfl rfl
@[go_sem] theorem AZw(k:Nat):gE.at k=h78.at k:=AH rfl rfl
@[go_sem] theorem AZu(k:Nat):gE.dn k=h78.dn k:=AH rfl rfl
@[go_sem] theorem Aat:gE.tk=[]/\gE.mt=[]/\gE.pc=[]:=⟨rfl,rfl,rfl⟩
theorem AGf:FK AA 78 f78 gE:=⟨kr,kr,func78,kr⟩
def IS(D:Doing):Doing×Bool :=
 let e2:=PY D.step (PZ D.step D.entry D.is D.tick) D.tick
 let r:=Fc { D with entry:=PX e2 }
 (r.1,r.2&&decide (0<e2.n))
section
variable (D:Doing) (hl:Hl D.fields) (hln:D.fields.length<=9223372036854775807) (hst:D.st.length<=1073741823) (hk : ∀ y∈D.st,y.key.length<=1073741824) (hr:EF D.head=true) (he:0<=D.entry.n/\D.entry.n<=65535)
variable (H:DM) (od:Nat) (o0 o1 o2 o3:Option Nat) (ho:H[od]? =some (some (D.cf o0 o1 o2 o3)))
include hst hk ho hl hln hr he
set_option maxHeartbeats 1000000 in
theorem Zj(hn:0<=D.step.n/\D.step.n<=65536)(hen : ∀ y∈D.st,y.n<=65535):Dx AA 76 [.ptr od 0] H (dI od o0 o1 o3 H (MS D)):=by
 have hlt:=(AD.1 ho).1
 have gS : ∀ x,(H.set od x)[od]? =some x:=λx=>Az hlt
 have gL : ∀ x,od<(H.set od x).length:=λx=>by rw [An];exact hlt
 have sS : ∀ x y,(H.set od x).set od y=H.set od y:=λx y=>BB ..
 have gA : ∀ x L,(H.set od x++L)[od]? =some x:=λx L=>Ul hlt x L
 have sA : ∀ x L y,(H.set od x++L).set od y=H.set od y++L:=λx L y=>by rw [KU (gL _),sS]
 refine aC AGe rfl ?_
 cases hi:D.is with
 | true =>
  have e1:MS D=wrD (Fc { D with entry:={ D.entry with at_:=D.tick },is:=true }):=by unfold MS;rw [if_pos hi,<- hi]
  rw [e1]
  simp only [f76,go_sem,ho,hlt,gS,gL,sS,hi,Ar]
  have hEnd : ∀ (x:Option (List AV)) ext,(H.set od (some (({ D with entry:={ D.entry with at_:=D.tick },is:=true }:Doing).cf o0 o1 o2 o3))).set od x++ext=H.set od x++([]++ext):=λx ext=>by rw [sS,AN]
  refine Eh.intro (LU ({ D with entry:={ D.entry with at_:=D.tick },is:=true }:Doing) hst hk _ od o0 o1 o2 o3 (gS _)) λv H' hq=>?_
  obtain ⟨rfl,w,ext,rfl⟩:=hq
  have k1:=JX ({ D with entry:={ D.entry with at_:=D.tick },is:=true }:Doing)
  have kn:0<=({ D with entry:={ D.entry with at_:=D.tick },is:=true }:Doing).entry.n:=he.1
  generalize Fc ({ D with entry:={ D.entry with at_:=D.tick },is:=true }:Doing)=r at k1 ⊢
  obtain ⟨D2,b⟩:=r
  obtain ⟨k2,k3,k4,k5⟩:=k1
  dsimp only at k2 k3 k4 k5 kn
  cases b with
  | false =>
   simp only [go_sem,Av]
   exact ⟨rfl,w,_,hEnd _ _⟩
  | true =>
   rw [hEnd]
   simp only [go_sem,Ar,gA]
   refine Eh.intro (UK D2 (by rw [k2];exact hl) (by rw [k2];exact hln) (by rw [k4];exact hr) _ _ (by rw [k5];exact kn) _ od o0 o1 w o3 (gA _ _)) λv H' hq=>?_
   obtain ⟨rfl,ext2,rfl⟩:=hq
   simp only [go_sem]
   refine ⟨rfl,w,([]:DM)++ext++ext2, ?_⟩
   rw [sA,<- AF]
   rfl
 | false =>
  simp only [f76,go_sem,ho,hlt,gS,gL,sS,gA,hi,Av]
  refine pK (AEs D.st DF D.step.var) ?_
  simp only [go_sem,gA]
  have hint:Tryz.prog.underlying 3=some (.int .i64):=by simp only [go_sem]
  have hln2:(XJ D.st D.step.var).length<=D.st.length:=List.length_filter_le _ _
  have gM : ∀ x y L,(H.set od x++y::L)[H.length]? =some y:=λx y L=>by
   rw [AM sm];simp
  have sM : ∀ x y L z,(H.set od x++y::L).set H.length z=H.set od x++z::L:=λx y L z=>by
   rw [BZ _ _ sm];simp
  have gN : ∀ x y L z,(H.set od x++y::(L++[z]))[List.length (H.set od x++y::L)]? =some z:=λx y L z=>by
   have:H.set od x++y::(L++[z])=(H.set od x++y::L)++[z]:=sm
   rw [this];exact Bj
  have sN : ∀ x y L z z2,(H.set od x++y::(L++[z])).set (List.length (H.set od x++y::L)) z2=H.set od x++y::(L++[z2]):=λx y L z z2=>by
   have:H.set od x++y::(L++[z])=(H.set od x++y::L)++[z]:=sm
   rw [this];simp
  refine Ed (XJ D.st D.step.var) (λ(_:List Int×DM) (_:List Entry)=>()) (λk s=>Q4 Il s.1 /\ ∀ x,x∈s.1↔x∈((XJ D.st D.step.var).take k).map (·.n)) (λk _=>[(0,.ptr od 0),(3,.mapr H.length),(29,.sl none (EM (XJ D.st D.step.var))),(30,.int .i64 (XJ D.st D.step.var).length),(31,.int .i64 k)])
   (λ_ s=>H.set od (some (({ D with entry:={ D.entry with at_:=D.tick },is:=false }:Doing).cf o0 o1 o2 o3))++some (It (KV Il s.1))::s.2) ([],[]) DF ⟨trivial,λx=>sm⟩ ?_ rfl ?_ ?_
  ·rw [An];rfl
  ·rintro k ⟨B,L⟩ x xs hd hx hI _ h0 h1 hw
   dsimp only at hI ⊢
   have hc2:(Entry.c x).take 4=Entry.c x:=rfl
   have hc3:(Entry.c x).length=4:=rfl
   have hc4:(Entry.c x)[2]? =some (.int .i64 x.n):=rfl
   have htk:(XJ D.st D.step.var).take (k+1)=(XJ D.st D.step.var).take k++[x]:=by rw [BF,hx];rfl
   simp only [go_sem,h0,h1,Er hx,gM,gN,sN,hc2,hc3,hc4]
   refine sU (kt:=3) (et:=4) B x.n (by first|simp only [go_sem]|kernel_rfl) (gM _ _ _) (Vb hint λa ha=>by
    rcases AZ.1 ha with rfl|ha
    ·exact ⟨_,rfl⟩
    ·obtain ⟨z,_,rfl⟩:=AO.1 ha;exact ⟨_,rfl⟩) hI.1 ?_
   simp only [go_sem,hw,sM]
   refine ⟨(if B.any (λz=>z==x.n) then B else B++[x.n],L++[some (Entry.c x)]),⟨AAT _ hI.1,λy=>?_⟩,rfl,rfl⟩
   rw [htk,As,Ay,<- hI.2 y,AT,List.map_nil,Al]
   dsimp only
   split
   ·rename_i hany
    have:x.n∈B:=by simpa using hany
    exact ⟨.inl,λh=>h.elim id λh=>h▸this⟩
   ·rw [Ay,Al]
  ·rintro ⟨B,L⟩ hI _
   dsimp only at hI ⊢
   rw [BO] at hI
   have hU : ∀ x,x∈B↔x∈LH D:=hI.2
   have hUB : ∀ x∈LH D,x<=65535:=λx hx=>by
    obtain ⟨y,hy,rfl⟩:=AO.1 hx
    exact hen y (CV.1 hy).1
   simp only [go_sem,AX,decide_false,gA,sA]
   refine Jn (σ:=Int) (λ_=>[(0,.ptr od 0),(3,.mapr H.length)])
    (λm=>H.set od (some (({ D with entry:={ D.entry with n:=m,at_:=D.tick },is:=false }:Doing).cf o0 o1 o2 o3))++some (It (KV Il B))::L) (λm=>0<=m/\m<=65536/\J6 (LH D) D.step.n=J6 (LH D) m) (λm=>((LH D).filter λx=>decide (m<=x)).length) D.step.n ⟨hn.1,hn.2,rfl⟩ rfl rfl ?_
   rintro m ⟨m0,m1,m2⟩
   have hwm:IntKind.i64.wrap (m+1)=m+1:=NT DF DF
   simp only [go_sem,gA,sA]
   refine yo (kt:=3) (et:=4) Il B (Il m) (by first|simp only [go_sem]|kernel_rfl) (by first|simp only [go_sem]|kernel_rfl) (gM _ _ _) (Vb hint λa ha=>by
    rcases AZ.1 ha with rfl|ha
    ·exact ⟨_,rfl⟩
    ·obtain ⟨z,_,rfl⟩:=AO.1 ha;exact ⟨_,rfl⟩) hI.1 ?_
   rw [rz]
   simp only [go_sem]
   refine cS ?_ ?_<;>intro hc
   ·have hm:m∈LH D:=(hU m).1 (by simpa using hc)
    have:=hUB m hm
    simp only [go_sem,gA,sA,hwm]
    exact ⟨m+1,⟨DF,DF,by rw [m2,zz hm]⟩,Y2 _ _ hm,rfl,rfl⟩
   ·have hm:m∉LH D:=λh=>by
     have:=(hU m).2 h
     simp at hc
     exact hc m this rfl
    have hf:J6 (LH D) D.step.n=m:=by rw [m2,uh hm]
    simp only [go_sem,gA,sA]
    refine cS ?_ ?_<;>intro hc2
    ·have hlt2:D.step.m<m:=by simpa using hc2
     have e1:MS D=({ D with entry:={ D.entry with n:=m,at_:=D.tick },is:=false },false):=by unfold MS;rw [if_neg (by rw [hi];decide),hf,if_pos hlt2,<- hi]
     rw [e1]
     simp only [go_sem]
     exact ⟨rfl,o2,_,rfl⟩
    ·have hlt2 : ¬ D.step.m<m:=by simpa using hc2
     have e1:MS D=wrD (Fc { D with entry:={ D.entry with n:=m,at_:=D.tick },is:=false }):=by unfold MS;rw [if_neg (by rw [hi];decide),hf,if_neg hlt2,<- hi]
     rw [e1]
     have hEnd : ∀ (x:Option (List AV)) ext,(H.set od (some (({ D with entry:={ D.entry with n:=m,at_:=D.tick },is:=false }:Doing).cf o0 o1 o2 o3))++some (It (KV Il B))::L).set od x++ext=H.set od x++((some (It (KV Il B))::L)++ext):=λx ext=>by rw [sA,AF]
     simp only [go_sem]
     refine Eh.intro (LU ({ D with entry:={ D.entry with n:=m,at_:=D.tick },is:=false }:Doing) hst hk _ od o0 o1 o2 o3 (gA _ _)) λv H' hq=>?_
     obtain ⟨rfl,w,ext,rfl⟩:=hq
     have k1:=JX ({ D with entry:={ D.entry with n:=m,at_:=D.tick },is:=false }:Doing)
     have kn:0<=({ D with entry:={ D.entry with n:=m,at_:=D.tick },is:=false }:Doing).entry.n:=m0
     generalize Fc ({ D with entry:={ D.entry with n:=m,at_:=D.tick },is:=false }:Doing)=r at k1 ⊢
     obtain ⟨D2,b⟩:=r
     obtain ⟨k2,k3,k4,k5⟩:=k1
     dsimp only at k2 k3 k4 k5 kn
     cases b with
     | false =>
      simp only [go_sem,Av]
      exact ⟨rfl,w,_,hEnd _ _⟩
     | true =>
      rw [hEnd]
      simp only [go_sem,Ar,gA]
      refine Eh.intro (UK D2 (by rw [k2];exact hl) (by rw [k2];exact hln) (by rw [k4];exact hr) _ _ (by rw [k5];exact kn) _ od o0 o1 w o3 (gA _ _)) λv H' hq=>?_
      obtain ⟨rfl,ext2,rfl⟩:=hq
      simp only [go_sem]
      refine ⟨rfl,w,(some (It (KV Il B))::L)++ext++ext2, ?_⟩
      rw [sA,<- AF]
      rfl
omit hk he in
set_option maxHeartbeats 1000000 in
theorem ACt(hf:(EO D.fields D.step.field).2=true)(hkl : ∀ y∈D.st,y.var=D.step.var->D.step.key.length<=y.key.length)(hkp : ∀ y∈D.st,∀ x∈y.key,0<=x)(hskl:D.step.key.length<=1048576):Dx AA 77 [.ptr od 0] H (dI od o0 o1 o3 H (WK D)):=by
 have hlt:=(AD.1 ho).1
 have gS : ∀ x,(H.set od x)[od]? =some x:=λx=>Az hlt
 have gL : ∀ x,od<(H.set od x).length:=λx=>by rw [An];exact hlt
 have sS : ∀ x y,(H.set od x).set od y=H.set od y:=λx y=>BB ..
 have gA : ∀ x L,(H.set od x++L)[od]? =some x:=λx L=>Ul hlt x L
 have sA : ∀ x L y,(H.set od x++L).set od y=H.set od y++L:=λx L y=>by rw [KU (gL _),sS]
 have g1:=Dg ho
 have hg:=HU hl hf
 have c1:=Pf D.fields hln D.step.field
 have c2:=li (EO D.fields D.step.field).1 hg D.head hr
 have q0:=q_0 H
 have gB : ∀ y L,(H++y::L)[H.length]? =some y:=λy L=>sm
 have gB1 : ∀ x y L,(H++x::y::L)[H.length+1]? =some y:=λx y L=>sm
 have gB2 : ∀ x y z L,(H++x::y::z::L)[H.length+2]? =some z:=λx y z L=>sm
 have gB3 : ∀ x y z a L,(H++x::y::z::a::L)[H.length+3]? =some a:=λx y z a L=>sm
 have sB1 : ∀ x y a,(H++[x,y]).set (H.length+1) a=H++[x,a]:=λx y a=>sm
 have sB2 : ∀ x y z a,(H++[x,y,z]).set (H.length+2) a=H++[x,y,a]:=λx y z a=>sm
 refine aC AGi rfl ?_
 simp only [f77,go_sem,ho,g1,gB,gB1,gB2,gB3,sB1,sB2,AE,AC,AG,AY,Nat.reduceAdd]
 refine pK c1 ?_
 simp only [go_sem,ho,g1,gB,gB1,gB2,gB3,sB1,sB2,AE,AC,AG,AY,Nat.reduceAdd]
 refine pK c2 ?_
 simp only [go_sem,ho,g1,gB,gB1,gB2,gB3,sB1,sB2,AE,AC,AG,AY,Nat.reduceAdd]
 have k1 : ∀ x∈D.st,E5 AA 147 ([].map AV.borrow++(.agg x.c::[AV.ptr H.length 0,.ptr (H.length+2) 0].map AV.borrow)) (H++[some [.ptr od 0],some (EO D.fields D.step.field).1.c,some [.int .i64 (Mq (EO D.fields D.step.field).1 D.head:Nat)]]) (.bool (XT D x)):=by
  intro x hx
  refine Dx.drop rfl ?_
  have hc3:(Entry.c x).length=4:=rfl
  have hc4:(Entry.c x)[0]? =some (.str x.var):=rfl
  have hc5:(Entry.c x)[2]? =some (.int .i64 x.n):=rfl
  refine aC ANX rfl ?_
  cases hv:decide (x.var=D.step.var) with
  | true =>
   simp only [f147,go_sem,ho,g1,gB,gB1,gB2,gB3,hc3,hc4,hc5,AE,AC,AG,AY,Nat.reduceAdd,By,hv]
   exact ⟨by rw [XT,hv,Bool.true_and],_,rfl⟩
  | false =>
   simp only [f147,go_sem,ho,g1,gB,gB1,gB2,gB3,hc3,hc4,hc5,AE,AC,AG,AY,Nat.reduceAdd,By,hv]
   exact ⟨by rw [XT,hv,Bool.false_and],_,rfl⟩
 refine aS (tF D.st DF _ [] _ (XT D) k1) ?_
 simp only [go_sem]
 rcases Mj (XT D) D.st 0 with ⟨h3,h4⟩|⟨i,y,h3,h4,h5⟩
 ·have e1:WK D=(D,false):=by unfold WK;rw [h4]
  have e2:Gq (XT D) D.st = -1:=h3
  rw [e1,e2]
  simp only [go_sem]
  exact ⟨rfl,o2,_,by rw [OV ho]⟩
 ·have e1:WK D=({ D with head:=bkH D.fields D.head (D.step.key.zip y.key) },true):=by unfold WK;rw [h5]
  have e2:Gq (XT D) D.st=(i:Int):=by rw [Gq,h3,AY]
  have hym:=AB h4
  have hyb:XT D y=true:=List.find?_some h5
  have hyv:y.var=D.step.var:=by unfold XT at hyb;rw [Bool.and_eq_true,decide_eq_true_eq] at hyb;exact hyb.1
  have hyl:=hkl y hym hyv
  have i0 : ¬ ((i:Int)<0):=DF
  have i1:(0:Int)<=(i:Int):=DF
  rw [e1,e2]
  simp only [go_sem,i0,decide_false,g1,gB,gB1,gB2]
  refine Ed D.step.key (λ(_:Head×DM) (_:List ByteArray)=>()) (λk s=>s.1=bkH D.fields D.head ((D.step.key.take k).zip y.key)/\EF s.1=true) (λk _=>[(1,.ptr H.length 0),(6,.int .i64 (i:Int)),(40,.sl none (Fq D.step.key)),(41,.int .i64 D.step.key.length),(42,.int .i64 k)])
   (λ_ s=>H.set od (some (({ D with head:=s.1 }:Doing).cf o0 o1 o2 o3))++some [.ptr od 0]::s.2) (D.head,[some (EO D.fields D.step.field).1.c,some [.int .i64 (Mq (EO D.fields D.step.field).1 D.head:Nat)]]) DF ⟨rfl,hr⟩ rfl (by rw [OV ho]) ?_ ?_
  ·rintro k ⟨h,L⟩ x xs hd hx ⟨hI,hrh⟩ _ h0 h1 hw
   dsimp only at hI hrh ⊢
   have hkl2:k<y.key.length:=DF
   have hyk:y.key[k]? =some y.key[k]:=AL hkl2
   have oH:(k:Int)<(y.key.length:Int):=DF
   have h22:(i:Int)<(D.st.length:Int):=by have:=(AD.1 h4).1;omega
   have gM : ∀ x y L,(H.set od x++y::L)[H.length]? =some y:=λx y L=>by
    rw [AM sm];simp
   simp only [go_sem,h0,h1,Ei hx,gA,gM,i1,h22,Er h4,oH,E1 hyk]
   have hn0:0<=y.key[k]:=hkp y hym _ (CY hkl2)
   refine Eh.intro (UK { D with head:=h } hl hln hrh x y.key[k] hn0 _ od o0 o1 o2 o3 (gA _ _)) λv H' hq=>?_
   obtain ⟨rfl,ext,rfl⟩:=hq
   have htk:(D.step.key.take (k+1)).zip y.key=(D.step.key.take k).zip y.key++[(x,y.key[k])]:=by
    rw [BF,hx]
    have hkk:(D.step.key.take k).length=k:=by rw [BI];omega
    exact ce x (by rw [hkk];exact hyk)
   simp only [go_sem,hw]
   refine ⟨(wo D.fields h x y.key[k],L++ext),⟨?_,Re hl hrh _ hn0⟩,rfl, ?_⟩
   ·show wo D.fields h x y.key[k]=_
    rw [htk]
    unfold bkH at hI ⊢
    rw [List.foldl_append,<- hI];rfl
   ·rw [sA];simp
  ·rintro ⟨h,L⟩ ⟨hI,hrh⟩ _
   dsimp only at hI hrh ⊢
   rw [BO] at hI
   simp only [go_sem,AX,decide_false]
   exact ⟨rfl,o2,_,by rw [hI]⟩
omit hl hln hr in
set_option maxHeartbeats 1000000 in
theorem xo(hm:1<=D.step.m/\D.step.m<=1073741824)(hn:0<=D.step.n/\D.step.n<=65536)(ht:0<=D.tick/\D.tick<=1073741824)(hat:0<=D.entry.at_/\D.entry.at_<=1073741824):Dx AA 78 [.ptr od 0] H (dI od o0 o1 o3 H (IS D)):=by
 have hlt:=(AD.1 ho).1
 have gS : ∀ x,(H.set od x)[od]? =some x:=λx=>Az hlt
 have gL : ∀ x,od<(H.set od x).length:=λx=>by rw [An];exact hlt
 have sS : ∀ x y,(H.set od x).set od y=H.set od y:=λx y=>BB ..
 have gA : ∀ x L,(H.set od x++L)[od]? =some x:=λx L=>Ul hlt x L
 have sA : ∀ x L y,(H.set od x++L).set od y=H.set od y++L:=λx L y=>by rw [KU (gL _),sS]
 have g1:=Dg ho
 have gB : ∀ y L,(H++y::L)[H.length]? =some y:=λy L=>sm
 have q0:=q_0 H
 have s1 : ∀ (L:DM) y,(H++L).set od y=H.set od y++L:=λL y=>KU hlt L
 have gM : ∀ x y L,(H.set od x++y::L)[H.length]? =some y:=λx y L=>by
  rw [AM sm];simp
 have m0 : ¬ D.step.m=0:=DF
 refine aC AGf rfl ?_
 cases hi:D.is with
 | true =>
  obtain ⟨f1,f2,f3,f4,f5,f6,f7,f8,f9⟩:=YT (s:=D.step) (e:=D.entry) (tick:=D.tick) hm DF ht hat
  simp only [f78,go_sem,ho,g1,gB,q0,hi,Ar,f1,f2,f3,m0]
  have eT:PZ D.step D.entry D.is D.tick=D.entry:=by unfold PZ;rw [if_pos hi]
  refine cS ?_ ?_<;>intro hc
  ·have hc:=of_decide_eq_true hc
   have eE:PY D.step (PZ D.step D.entry D.is D.tick) D.tick={ D.entry with n:=D.step.n,at_:=D.tick }:=by rw [eT];unfold PY;rw [if_pos hc]
   simp only [go_sem,ho,g1,gB,q0,s1,gA,sA]
   refine cS ?_ ?_<;>intro hp
   ·have hp2:0<(({ D.entry with n:=D.step.n,at_:=D.tick }:Entry)).n:=of_decide_eq_true hp
    have hwn:IntKind.i64.wrap (D.step.n - 1)=D.step.n - 1:=NT (by dsimp only at hp2;omega) DF
    have e3:PX (({ D.entry with n:=D.step.n,at_:=D.tick }:Entry))={ ({ D.entry with n:=D.step.n,at_:=D.tick }:Entry) with n:=D.step.n - 1 }:=by unfold PX;rw [if_pos hp2]
    have e4:IS D=((Fc ({ D with entry:={ ({ D.entry with n:=D.step.n,at_:=D.tick }:Entry) with n:=D.step.n - 1 },is:=D.is }:Doing)).1,(Fc ({ D with entry:={ ({ D.entry with n:=D.step.n,at_:=D.tick }:Entry) with n:=D.step.n - 1 },is:=D.is }:Doing)).2&&true):=by
     unfold IS;dsimp only;rw [eE,e3,hp]
    simp only [go_sem,ho,g1,gB,q0,s1,gA,sA,gM,hwn]
    refine Eh.intro (LU ({ D with entry:={ ({ D.entry with n:=D.step.n,at_:=D.tick }:Entry) with n:=D.step.n - 1 },is:=D.is }:Doing) hst hk _ od o0 o1 o2 o3 (gA _ _)) λv H' hq=>?_
    obtain ⟨rfl,w,ext,rfl⟩:=hq
    rw [e4]
    generalize Fc ({ D with entry:={ ({ D.entry with n:=D.step.n,at_:=D.tick }:Entry) with n:=D.step.n - 1 },is:=D.is }:Doing)=r
    obtain ⟨D2,b⟩:=r
    cases b<;>simp only [go_sem,hp]
    ·exact ⟨rfl,w,[some (D.step.cf none)]++ext,by rw [sA,AF]⟩
    ·exact ⟨rfl,w,[some (D.step.cf none)]++ext,by rw [sA,AF]⟩
   ·have hp2 : ¬ 0<(({ D.entry with n:=D.step.n,at_:=D.tick }:Entry)).n:=of_decide_eq_false hp
    have e3:PX (({ D.entry with n:=D.step.n,at_:=D.tick }:Entry))=({ D.entry with n:=D.step.n,at_:=D.tick }:Entry):=by unfold PX;rw [if_neg hp2]
    have e4:IS D=((Fc ({ D with entry:=({ D.entry with n:=D.step.n,at_:=D.tick }:Entry),is:=D.is }:Doing)).1,(Fc ({ D with entry:=({ D.entry with n:=D.step.n,at_:=D.tick }:Entry),is:=D.is }:Doing)).2&&false):=by
     unfold IS;dsimp only;rw [eE,e3,hp]
    simp only [go_sem,ho,g1,gB,q0,s1,gA,sA,gM]
    refine Eh.intro (LU ({ D with entry:=({ D.entry with n:=D.step.n,at_:=D.tick }:Entry),is:=D.is }:Doing) hst hk _ od o0 o1 o2 o3 (gA _ _)) λv H' hq=>?_
    obtain ⟨rfl,w,ext,rfl⟩:=hq
    rw [e4]
    generalize Fc ({ D with entry:=({ D.entry with n:=D.step.n,at_:=D.tick }:Entry),is:=D.is }:Doing)=r
    obtain ⟨D2,b⟩:=r
    cases b<;>simp only [go_sem,hp]
    ·exact ⟨rfl,w,[some (D.step.cf none)]++ext,by rw [sA,AF]⟩
    ·exact ⟨rfl,w,[some (D.step.cf none)]++ext,by rw [sA,AF]⟩
  ·have hc:=of_decide_eq_false hc
   have eE:PY D.step (PZ D.step D.entry D.is D.tick) D.tick={ D.entry with n:=D.entry.n+Fm D.step D.entry D.tick,at_:=D.entry.at_+Fm D.step D.entry D.tick*D.step.m }:=by rw [eT];unfold PY;rw [if_neg hc]
   rw [F7 _ _ _ (by simp only [go_sem]) rfl rfl]
   simp only [go_sem,ho,g1,gB,q0,s1,gA,sA,gM,f3,f4,f5]
   refine ⟨K1 [(some (78,1,false),some (83,1,true))] kr ?_, ?_⟩
   ·intro q hq
    rw [Al.1 hq]
    exact ⟨.inr rfl,.inl DF⟩
   simp only [go_sem,ho,g1,gB,q0,s1,gA,sA,gM,f3,f4,f5]
   refine cS ?_ ?_<;>intro hp
   ·have hp2:0<(({ D.entry with n:=D.entry.n+Fm D.step D.entry D.tick,at_:=D.entry.at_+Fm D.step D.entry D.tick*D.step.m }:Entry)).n:=of_decide_eq_true hp
    have hwn:IntKind.i64.wrap ((D.entry.n+Fm D.step D.entry D.tick) - 1)=(D.entry.n+Fm D.step D.entry D.tick) - 1:=NT (by dsimp only at hp2;omega) DF
    have e3:PX (({ D.entry with n:=D.entry.n+Fm D.step D.entry D.tick,at_:=D.entry.at_+Fm D.step D.entry D.tick*D.step.m }:Entry))={ ({ D.entry with n:=D.entry.n+Fm D.step D.entry D.tick,at_:=D.entry.at_+Fm D.step D.entry D.tick*D.step.m }:Entry) with n:=(D.entry.n+Fm D.step D.entry D.tick) - 1 }:=by unfold PX;rw [if_pos hp2]
    have e4:IS D=((Fc ({ D with entry:={ ({ D.entry with n:=D.entry.n+Fm D.step D.entry D.tick,at_:=D.entry.at_+Fm D.step D.entry D.tick*D.step.m }:Entry) with n:=(D.entry.n+Fm D.step D.entry D.tick) - 1 },is:=D.is }:Doing)).1,(Fc ({ D with entry:={ ({ D.entry with n:=D.entry.n+Fm D.step D.entry D.tick,at_:=D.entry.at_+Fm D.step D.entry D.tick*D.step.m }:Entry) with n:=(D.entry.n+Fm D.step D.entry D.tick) - 1 },is:=D.is }:Doing)).2&&true):=by
     unfold IS;dsimp only;rw [eE,e3,hp]
    simp only [go_sem,ho,g1,gB,q0,s1,gA,sA,gM,hwn]
    refine Eh.intro (LU ({ D with entry:={ ({ D.entry with n:=D.entry.n+Fm D.step D.entry D.tick,at_:=D.entry.at_+Fm D.step D.entry D.tick*D.step.m }:Entry) with n:=(D.entry.n+Fm D.step D.entry D.tick) - 1 },is:=D.is }:Doing) hst hk _ od o0 o1 o2 o3 (gA _ _)) λv H' hq=>?_
    obtain ⟨rfl,w,ext,rfl⟩:=hq
    rw [e4]
    generalize Fc ({ D with entry:={ ({ D.entry with n:=D.entry.n+Fm D.step D.entry D.tick,at_:=D.entry.at_+Fm D.step D.entry D.tick*D.step.m }:Entry) with n:=(D.entry.n+Fm D.step D.entry D.tick) - 1 },is:=D.is }:Doing)=r
    obtain ⟨D2,b⟩:=r
    cases b<;>simp only [go_sem,hp]
    ·exact ⟨rfl,w,[some (D.step.cf none)]++ext,by rw [sA,AF]⟩
    ·exact ⟨rfl,w,[some (D.step.cf none)]++ext,by rw [sA,AF]⟩
   ·have hp2 : ¬ 0<(({ D.entry with n:=D.entry.n+Fm D.step D.entry D.tick,at_:=D.entry.at_+Fm D.step D.entry D.tick*D.step.m }:Entry)).n:=of_decide_eq_false hp
    have e3:PX (({ D.entry with n:=D.entry.n+Fm D.step D.entry D.tick,at_:=D.entry.at_+Fm D.step D.entry D.tick*D.step.m }:Entry))=({ D.entry with n:=D.entry.n+Fm D.step D.entry D.tick,at_:=D.entry.at_+Fm D.step D.entry D.tick*D.step.m }:Entry):=by unfold PX;rw [if_neg hp2]
    have e4:IS D=((Fc ({ D with entry:=({ D.entry with n:=D.entry.n+Fm D.step D.entry D.tick,at_:=D.entry.at_+Fm D.step D.entry D.tick*D.step.m }:Entry),is:=D.is }:Doing)).1,(Fc ({ D with entry:=({ D.entry with n:=D.entry.n+Fm D.step D.entry D.tick,at_:=D.entry.at_+Fm D.step D.entry D.tick*D.step.m }:Entry),is:=D.is }:Doing)).2&&false):=by
     unfold IS;dsimp only;rw [eE,e3,hp]
    simp only [go_sem,ho,g1,gB,q0,s1,gA,sA,gM]
    refine Eh.intro (LU ({ D with entry:=({ D.entry with n:=D.entry.n+Fm D.step D.entry D.tick,at_:=D.entry.at_+Fm D.step D.entry D.tick*D.step.m }:Entry),is:=D.is }:Doing) hst hk _ od o0 o1 o2 o3 (gA _ _)) λv H' hq=>?_
    obtain ⟨rfl,w,ext,rfl⟩:=hq
    rw [e4]
    generalize Fc ({ D with entry:=({ D.entry with n:=D.entry.n+Fm D.step D.entry D.tick,at_:=D.entry.at_+Fm D.step D.entry D.tick*D.step.m }:Entry),is:=D.is }:Doing)=r
    obtain ⟨D2,b⟩:=r
    cases b<;>simp only [go_sem,hp]
    ·exact ⟨rfl,w,[some (D.step.cf none)]++ext,by rw [sA,AF]⟩
    ·exact ⟨rfl,w,[some (D.step.cf none)]++ext,by rw [sA,AF]⟩
 | false =>
  obtain ⟨f1,f2,f3,f4,f5,f6,f7,f8,f9⟩:=YT (s:=D.step) (e:={ D.entry with n:=D.step.n,at_:=D.tick }) (tick:=D.tick) hm (by dsimp only;omega) ht (by dsimp only;omega)
  dsimp only at f1 f2 f3 f4 f5 f6 f7 f8 f9
  have hcc:D.step.n<=D.step.n+Fm D.step { D.entry with n:=D.step.n,at_:=D.tick } D.tick:=Int.le_add_of_nonneg_right f6
  have eE:PY D.step (PZ D.step D.entry D.is D.tick) D.tick={ D.entry with n:=D.step.n,at_:=D.tick }:=by unfold PZ;rw [if_neg (by rw [hi];decide)];unfold PY;rw [if_pos hcc]
  simp only [f78,go_sem,ho,g1,gB,q0,hi,Av,s1,gA,sA,gM,f1,f2,f3,m0,hcc,decide_true]
  refine cS ?_ ?_<;>intro hp
  ·have hp2:0<(({ D.entry with n:=D.step.n,at_:=D.tick }:Entry)).n:=of_decide_eq_true hp
   have hwn:IntKind.i64.wrap (D.step.n - 1)=D.step.n - 1:=NT (by dsimp only at hp2;omega) DF
   have e3:PX (({ D.entry with n:=D.step.n,at_:=D.tick }:Entry))={ ({ D.entry with n:=D.step.n,at_:=D.tick }:Entry) with n:=D.step.n - 1 }:=by unfold PX;rw [if_pos hp2]
   have e4:IS D=((Fc ({ D with entry:={ ({ D.entry with n:=D.step.n,at_:=D.tick }:Entry) with n:=D.step.n - 1 },is:=false }:Doing)).1,(Fc ({ D with entry:={ ({ D.entry with n:=D.step.n,at_:=D.tick }:Entry) with n:=D.step.n - 1 },is:=false }:Doing)).2&&true):=by
    unfold IS;dsimp only;rw [eE,e3,hp,hi]
   simp only [go_sem,ho,g1,gB,q0,s1,gA,sA,gM,hwn]
   refine Eh.intro (LU ({ D with entry:={ ({ D.entry with n:=D.step.n,at_:=D.tick }:Entry) with n:=D.step.n - 1 },is:=false }:Doing) hst hk _ od o0 o1 o2 o3 (gA _ _)) λv H' hq=>?_
   obtain ⟨rfl,w,ext,rfl⟩:=hq
   rw [e4]
   generalize Fc ({ D with entry:={ ({ D.entry with n:=D.step.n,at_:=D.tick }:Entry) with n:=D.step.n - 1 },is:=false }:Doing)=r
   obtain ⟨D2,b⟩:=r
   cases b<;>simp only [go_sem,hp]
   ·exact ⟨rfl,w,[some (D.step.cf none)]++ext,by rw [sA,AF]⟩
   ·exact ⟨rfl,w,[some (D.step.cf none)]++ext,by rw [sA,AF]⟩
  ·have hp2 : ¬ 0<(({ D.entry with n:=D.step.n,at_:=D.tick }:Entry)).n:=of_decide_eq_false hp
   have e3:PX (({ D.entry with n:=D.step.n,at_:=D.tick }:Entry))=({ D.entry with n:=D.step.n,at_:=D.tick }:Entry):=by unfold PX;rw [if_neg hp2]
   have e4:IS D=((Fc ({ D with entry:=({ D.entry with n:=D.step.n,at_:=D.tick }:Entry),is:=false }:Doing)).1,(Fc ({ D with entry:=({ D.entry with n:=D.step.n,at_:=D.tick }:Entry),is:=false }:Doing)).2&&false):=by
    unfold IS;dsimp only;rw [eE,e3,hp,hi]
   simp only [go_sem,ho,g1,gB,q0,s1,gA,sA,gM]
   refine Eh.intro (LU ({ D with entry:=({ D.entry with n:=D.step.n,at_:=D.tick }:Entry),is:=false }:Doing) hst hk _ od o0 o1 o2 o3 (gA _ _)) λv H' hq=>?_
   obtain ⟨rfl,w,ext,rfl⟩:=hq
   rw [e4]
   generalize Fc ({ D with entry:=({ D.entry with n:=D.step.n,at_:=D.tick }:Entry),is:=false }:Doing)=r
   obtain ⟨D2,b⟩:=r
   cases b<;>simp only [go_sem,hp]
   ·exact ⟨rfl,w,[some (D.step.cf none)]++ext,by rw [sA,AF]⟩
   ·exact ⟨rfl,w,[some (D.step.cf none)]++ext,by rw [sA,AF]⟩
end
end Go.AI
namespace Go.AI
open Go.Proofs
set_option maxRecDepth 50000
def Ps(l:List Fld)(names:List ByteArray)(h:Head):List Int:=names.map λnm=>((Mq (EO l nm).1 h:Nat):Int)
theorem Vd(l:List Fld)(names:List ByteArray)(h:Head):(Ps l names h).length=names.length:=by simp [Ps]
theorem AGB(l:List Fld)(hl:Hl l)(hln:l.length<=9223372036854775807)(names:List ByteArray)(hn:names.length<=1073741824)(hf : ∀ nm∈names,(EO l nm).2=true)(h:Head)(hr:EF h=true):
  DR AA 79 [.sl none (E8 l),.sl none (Fq names),.agg h.c] (.tup [.sl none (E4 (Ps l names h)),.bool true]):=by
 refine pB AT8 rfl ?_ (hv:=by simp only [AV.pure,DY,If,Bool.and_true])
 simp only [f79,go_sem]
 have gN : ∀ x (L:DM) z,(x::(L++[z]))[List.length (x::L)]? =some z:=λx L z=>by
  have:x::(L++[z])=(x::L)++[z]:=sm
  rw [this];exact Bj
 have sN : ∀ x (L:DM) z z2,(x::(L++[z])).set (List.length (x::L)) z2=x::(L++[z2]):=λx L z z2=>by
  have:x::(L++[z])=(x::L)++[z]:=sm
  rw [this];simp
 refine Ed names (λ(_:DM) (_:List ByteArray)=>()) (λ_ _=>True) (λk _=>[(0,.sl none (E8 l)),(5,.ptr 0 0),(8,.sl (some 1) (E4 (Ps l (names.take k) h))),(13,.sl none (Fq names)),(14,.int .i64 names.length),(15,.int .i64 k)])
  (λ_ L=>some h.c::L) [] DF trivial rfl rfl ?_ ?_
 ·intro k L x xs hd hx _ _ h0 h1 hw
  have hk2:=Eb hd
  have hfx:=hf x (AB hx)
  have hg:=HU hl hfx
  have c1:=Pf l hln x
  rw [hfx] at c1
  have c2:=li (EO l x).1 hg h hr
  have hlen:(E4 (Ps l (names.take k) h)).length=k:=by rw [F6,Vd,BI];omega
  have htk:Ps l (names.take (k+1)) h=Ps l (names.take k) h++[((Mq (EO l x).1 h:Nat):Int)]:=by
   rw [BF,hx];simp [Ps]
  simp only [go_sem,h0,h1,Ei hx]
  refine pK c1 ?_
  simp only [go_sem,gN,sN]
  refine pK c2 ?_
  simp only [go_sem,hlen,hw]
  exact ⟨DF,DF,_,by rw [htk],rfl⟩
 ·intro L _ _
  simp only [go_sem,AX,decide_false,BO]
def kd(l:List Fld)(s:Stp)(st:List Entry)(h:Head)(tick:Int):Doing :=
 ⟨l,s,st,h,tick,(PL st s.var (Ps l s.key h)).getD ⟨s.var,Ps l s.key h,0,0⟩,(PL st s.var (Ps l s.key h)).isSome⟩
def doM(D:Doing):Doing×Bool :=
 if D.step.kind=1 then ou D else if D.step.kind=2 then AEt D else if D.step.kind=3 then an D else if D.step.kind=4 then MS D else if D.step.kind=5 then WK D else IS D
def kc(l:List Fld)(s:Stp)(st:List Entry)(h:Head)(tick:Int):Head×Bool×List Entry :=
 if s.kind=0 then (h,true,st) else
  let r:=doM (kd l s st h tick)
  (if r.2=true then r.1.head else h,r.2,r.1.st)
structure okStp (l:List Fld) (s:Stp):Prop where
 kind:0<=s.kind/\s.kind<=6
 klen:s.key.length<=1048576
 key:s.kind≠0 -> ∀ nm∈s.key,(EO l nm).2=true
 n:s.kind=4\/s.kind=6->0<=s.n/\s.n<=65535
 m4:s.kind=4->s.m<=65535
 m:s.kind=6->1<=s.m/\s.m<=1073741824
 back:s.kind=5->(EO l s.field).2=true
def eV(e:Entry):Prop:=(0<=e.n/\e.n<=65535)/\(0<=e.at_/\e.at_<=1073741824)/\e.key.length<=1048576 /\ ∀ x∈e.key,0<=x
def Yi(s:Stp)(e:Entry):Prop:=s.kind≠0->e.var=s.var->e.key.length=s.key.length
def UO:List AV:=[.nilf,.fn (.func 73) [] [],.fn (.func 74) [] [],.fn (.func 75) [] [],.fn (.func 76) [] [],.fn (.func 77) [] [],.fn (.func 78) [] []]
structure okDo (D:Doing):Prop where
 fs:Hl D.fields
 fl:D.fields.length<=1073741824
 sl:D.st.length<=1073741823
 st : ∀ e∈D.st,eV e
 key : ∀ e∈D.st,Yi D.step e
 step:okStp D.fields D.step
 head:EF D.head=true
 tick:0<=D.tick/\D.tick<=1073741824
 n:0<=D.entry.n/\D.entry.n<=65535
 at_:0<=D.entry.at_/\D.entry.at_<=1073741824
theorem ASz(D:Doing)(hD:okDo D)(h0:D.step.kind≠0)(H:DM)(od:Nat)(o0 o1 o2 o3:Option Nat)(ho:H[od]? =some (some (D.cf o0 o1 o2 o3)))(g:FuncId)(hg:UO[D.step.kind.toNat]? =some (.fn (.func g) [] [])):Dx AA g [.ptr od 0] H (dI od o0 o1 o3 H (doM D)):=by
 have hlk : ∀ y∈D.st,y.key.length<=1073741824:=λy hy=>by have:=(hD.st y hy).2.2.1;omega
 have hln:D.fields.length<=9223372036854775807:=by have:=hD.fl;omega
 have hs:=hD.step
 unfold doM
 have hk:D.step.kind=1\/D.step.kind=2\/D.step.kind=3\/D.step.kind=4\/D.step.kind=5\/D.step.kind=6:=by have:=hs.kind;omega
 rcases hk with e|e|e|e|e|e<;>rw [e] at hg ⊢ <;> simp only [UO,List.getElem?_cons_succ,A8,Option.some.injEq,AV.fn.injEq,Fn.func.injEq,and_true,show (1:Int).toNat=1 from rfl,show (2:Int).toNat=2 from rfl,show (3:Int).toNat=3 from rfl,show (4:Int).toNat=4 from rfl,show (5:Int).toNat=5 from rfl,show (6:Int).toNat=6 from rfl] at hg<;>subst hg
 ·rw [if_pos rfl]
  exact yB D hD.fs hln hD.sl hlk hD.head hD.n H od o0 o1 o2 o3 ho
 ·rw [if_neg dc,if_pos rfl]
  exact ACn D hD.sl hlk H od o0 o1 o2 o3 ho
 ·rw [if_neg dc,if_neg dc,if_pos rfl]
  exact yD D hD.sl hlk H od o0 o1 o2 o3 ho
 ·rw [if_neg dc,if_neg dc,if_neg dc,if_pos rfl]
  exact Zj D hD.fs hln hD.sl hlk hD.head hD.n H od o0 o1 o2 o3 ho (by have:=hs.n (.inl e);omega) λy hy=>(hD.st y hy).1.2
 ·rw [if_neg dc,if_neg dc,if_neg dc,if_neg dc,if_pos rfl]
  exact ACt D hD.fs hln hD.sl hD.head H od o0 o1 o2 o3 ho (hs.back e) (λy hy hv=>by have:=hD.key y hy h0 hv;omega) (λy hy=>(hD.st y hy).2.2.2) hs.klen
 ·rw [if_neg dc,if_neg dc,if_neg dc,if_neg dc,if_neg dc]
  exact xo D hD.sl hlk hD.n H od o0 o1 o2 o3 ho (hs.m e) (by have:=hs.n (.inr e);omega) hD.tick hD.at_
theorem SQ{l:List Entry}{v:ByteArray}{key:List Int}{y:Entry}(h:PL l v key=some y):y∈l:=by
 unfold PL at h
 split at h
 ·exact AB h
 ·cases h
theorem AAS{l:List Fld}(hl:Hl l)(hln:l.length<=1073741824){s:Stp}(hs:okStp l s){st:List Entry}(hst:st.length<=1073741823)(he : ∀ e∈st,eV e)(hk : ∀ e∈st,Yi s e){h:Head}(hr:EF h=true){tick:Int}(ht:0<=tick/\tick<=1073741824):okDo (kd l s st h tick):=by
 refine ⟨hl,hln,hst,he,hk,hs,hr,ht, ?_, ?_⟩<;>unfold kd<;>dsimp only<;>cases hf:PL st s.var (Ps l s.key h) with
 | none=>simp
 | some y=>first|exact (he y (SQ hf)).1|exact (he y (SQ hf)).2.1
set_option maxHeartbeats 2000000 in
theorem AaZ(l:List Fld)(hl:Hl l)(hln:l.length<=1073741824)(s:Stp)(hs:okStp l s)(st:List Entry)(hst:st.length<=1073741823)(he : ∀ e∈st,eV e)(hk : ∀ e∈st,Yi s e)(h:Head)(hr:EF h=true)(tick:Int)(ht:0<=tick/\tick<=1073741824):
  DR AA 38 [.sl none (E8 l),.agg s.c,.sl none (EM st),.agg h.c,.int .i64 tick] (.tup [.agg (kc l s st h tick).1.c,.bool (kc l s st h tick).2.1,.sl none (EM (kc l s st h tick).2.2)]):=by
 refine pB AVT rfl ?_
 by_cases h0:s.kind=0
 ·have e1:kc l s st h tick=(h,true,st):=by unfold kc;rw [if_pos h0]
  rw [e1]
  have h0b:(s.kind==0)=true:=by rw [h0];rfl
  simp only [f38,go_sem,h0b]
 ·have h0b:(s.kind==0)=false:=by rw [beq_eq_false_iff_ne];exact h0
  have c1:=AGB l hl DF s.key (by have:=hs.klen;omega) (hs.key h0) h hr
  have c2:=ACr st DF (λy hy=>by have:=(he y hy).2.2.1;omega) s.var (Ps l s.key h)
  have hnv:AV.nilf.isVal=true:=rfl
  simp only [f38,go_sem,h0b,hnv]
  refine pK c1 ?_
  simp only [go_sem]
  refine pK c2 ?_
  have hi0:(0:Int)<=s.kind:=hs.kind.1
  have hi1:s.kind<((7:Nat):Int):=by have:=hs.kind;omega
  have hD:=AAS hl hln hs hst he hk hr ht
  obtain ⟨g,hg⟩ : ∃ g,UO[s.kind.toNat]? =some (.fn (.func g) [] []):=by
   have hkc:s.kind=1\/s.kind=2\/s.kind=3\/s.kind=4\/s.kind=5\/s.kind=6:=DF
   rcases hkc with e|e|e|e|e|e<;>rw [e]<;>exact ⟨_,rfl⟩
  have hM:=λH od o0 o1 o2 o3 ho=>ASz (kd l s st h tick) hD h0 H od o0 o1 o2 o3 ho g hg
  unfold UO at hg
  have e1:kc l s st h tick=(if (doM (kd l s st h tick)).2=true then (doM (kd l s st h tick)).1.head else h,(doM (kd l s st h tick)).2,(doM (kd l s st h tick)).1.st):=by unfold kc;rw [if_neg h0]
  rw [e1]
  cases hfd:PL st s.var (Ps l s.key h) with
  | none =>
   simp only [go_sem,hfd,hi0,hi1,hg]
   refine Eh.intro (hM _ 4 none none none none (by unfold kd;rw [hfd];rfl)) λv H' hq=>?_
   obtain ⟨rfl,w,ext,rfl⟩:=hq
   generalize doM (kd l s st h tick)=r
   obtain ⟨D2,b⟩:=r
   cases b
   ·simp only [go_sem]
    rw [F7 _ _ _ (by simp only [go_sem]) rfl rfl]
    simp only [go_sem]
    refine ⟨K1 [(some (74,1,false),some (10,10,true))] kr ?_, ?_⟩
    ·intro q hq
     rw [Al.1 hq]
     exact ⟨.inr rfl,.inl dc⟩
    simp only [go_sem]
   ·simp only [go_sem]
    rw [F7 _ _ _ (by simp only [go_sem]) rfl rfl]
    simp only [go_sem]
    refine ⟨K1 [(some (82,1,false),some (10,10,true))] kr ?_, ?_⟩
    ·intro q hq
     rw [Al.1 hq]
     exact ⟨.inr rfl,.inl dc⟩
    simp only [go_sem]
  | some y =>
   simp only [go_sem,hfd,hi0,hi1,hg]
   refine Eh.intro (hM _ 4 none none none none (by unfold kd;rw [hfd];rfl)) λv H' hq=>?_
   obtain ⟨rfl,w,ext,rfl⟩:=hq
   generalize doM (kd l s st h tick)=r
   obtain ⟨D2,b⟩:=r
   cases b
   ·simp only [go_sem]
    rw [F7 _ _ _ (by simp only [go_sem]) rfl rfl]
    simp only [go_sem]
    refine ⟨K1 [(some (74,1,false),some (10,10,true))] kr ?_, ?_⟩
    ·intro q hq
     rw [Al.1 hq]
     exact ⟨.inr rfl,.inl dc⟩
    simp only [go_sem]
   ·simp only [go_sem]
    rw [F7 _ _ _ (by simp only [go_sem]) rfl rfl]
    simp only [go_sem]
    refine ⟨K1 [(some (82,1,false),some (10,10,true))] kr ?_, ?_⟩
    ·intro q hq
     rw [Al.1 hq]
     exact ⟨.inr rfl,.inl dc⟩
    simp only [go_sem]
structure okPrg (l:List Fld) (p:List Stage):Prop where
 stp : ∀ s∈p,okStp l s.step
 pol : ∀ s∈p,GM l s.policy
 key : ∀ s∈p,∀ t∈p,s.step.kind≠0->t.step.kind≠0->s.step.var=t.step.var->s.step.key.length=t.step.key.length
def QW(p:List Stage)(st:List Entry):Prop:=∀ e∈st,eV e /\ ∀ t∈p,Yi t.step e
theorem zN{l:List Entry}{i:Nat}{e x:Entry}(h:x∈Vj l i e):x=e\/x∈l:=by
 unfold Vj at h
 rcases Ay.1 h with h|h
 ·exact .inr (List.mem_of_mem_take h)
 ·rcases AZ.1 h with h|h
  ·exact .inl h
  ·exact .inr (List.mem_of_mem_drop h)
theorem xj{l:List Entry}{e x:Entry}(h:x∈Pd l e):x=e\/x∈l:=by
 unfold Pd at h
 split at h
 ·exact (List.mem_or_eq_of_mem_set h).symm
 ·exact zN h
theorem xk(l:List Entry)(e:Entry):(Pd l e).length<=l.length+1:=by
 unfold Pd
 split
 ·rw [An];omega
 ·rw [fj (AAu l e)];omega
def Z2(D:Doing)(r:Doing×Bool)(P:Entry->Prop):Prop:=EF r.1.head=true/\(r.1.st=D.st \/ ∃ e,P e/\r.1.st=Pd D.st e)
theorem Iy{D:Doing}(hr:EF D.head=true){P:Entry->Prop}(he:P D.entry):Z2 D (Fc D) P:=by
 unfold Fc
 split
 ·exact ⟨hr,.inl rfl⟩
 ·exact ⟨hr,.inr ⟨_,he,rfl⟩⟩
theorem PV{D:Doing}{r:Doing×Bool}{P:Entry->Prop}(hl:Hl r.1.fields)(hn:0<=r.1.entry.n)(h:Z2 D r P):Z2 D (wrD r) P:=by
 unfold wrD
 split
 ·exact ⟨Re hl h.1 _ hn,h.2⟩
 ·exact h
theorem ZH{l:List Fld}(hl:Hl l): ∀ (q:List (ByteArray×Int)) {h:Head},EF h=true->(∀ x∈q,0<=x.2)->EF (bkH l h q)=true
 | [],_,hr,_=>hr
 | x::q,h,hr,hq=>ZH hl q (Re hl hr _ (hq x (Cc ..))) λy hy=>hq y (B9 _ hy)
theorem og{D:Doing}(hD:okDo D)(h0:D.step.kind≠0):Z2 D (doM D) λe=>e.var=D.entry.var/\e.key=D.entry.key/\(0<=e.n/\e.n<=65535)/\(0<=e.at_/\e.at_<=1073741824):=by
 have hs:=hD.step
 have hn:=hD.n
 have ha:=hD.at_
 have ht:=hD.tick
 have hk:D.step.kind=1\/D.step.kind=2\/D.step.kind=3\/D.step.kind=4\/D.step.kind=5\/D.step.kind=6:=by have:=hs.kind;omega
 unfold doM
 rcases hk with e|e|e|e|e|e<;>rw [e]
 ·rw [if_pos rfl]
  have k:=JX { D with entry:={ D.entry with n:=VB (D.entry.n+1) 65535,at_:=D.tick } }
  have hm:0<=VB (D.entry.n+1) 65535/\VB (D.entry.n+1) 65535<=65535:=by unfold VB;split<;>omega
  exact PV (by rw [k.1];exact hD.fs) (by rw [k.2.2.2];exact hm.1) (Iy (D:={ D with entry:={ D.entry with n:=VB (D.entry.n+1) 65535,at_:=D.tick } }) hD.head ⟨rfl,rfl,hm,ht⟩)
 ·rw [if_neg dc,if_pos rfl]
  exact Iy (D:={ D with entry:={ D.entry with at_:=D.tick } }) hD.head ⟨rfl,rfl,hn,ht⟩
 ·rw [if_neg dc,if_neg dc,if_pos rfl]
  exact ⟨hD.head,.inl rfl⟩
 ·rw [if_neg dc,if_neg dc,if_neg dc,if_pos rfl]
  have hn4:=hs.n (.inl e)
  have hm4:=hs.m4 e
  have hU:=zy (LH D) D.step.n 65535 (λx hx=>by
   obtain ⟨y,hy,rfl⟩:=AO.1 hx
   exact (hD.st y (CV.1 hy).1).1.2) DF
  unfold MS
  split
  ·have k:=JX { D with entry:={ D.entry with at_:=D.tick } }
   exact PV (by rw [k.1];exact hD.fs) (by rw [k.2.2.2];exact hn.1) (Iy (D:={ D with entry:={ D.entry with at_:=D.tick } }) hD.head ⟨rfl,rfl,hn,ht⟩)
  ·split
   ·exact ⟨hD.head,.inl rfl⟩
   ·rename_i hlt
    have k:=JX { D with entry:={ D.entry with n:=J6 (LH D) D.step.n,at_:=D.tick } }
    exact PV (by rw [k.1];exact hD.fs) (by rw [k.2.2.2];dsimp only;omega) (Iy (D:={ D with entry:={ D.entry with n:=J6 (LH D) D.step.n,at_:=D.tick } }) hD.head ⟨rfl,rfl,by dsimp only;omega,ht⟩)
 ·rw [if_neg dc,if_neg dc,if_neg dc,if_neg dc,if_pos rfl]
  unfold WK
  split
  ·exact ⟨hD.head,.inl rfl⟩
  ·rename_i y hy
   exact ⟨ZH hD.fs _ hD.head λx hx=>(hD.st y (List.mem_of_find?_eq_some hy)).2.2.2 x.2 (List.of_mem_zip hx).2,.inl rfl⟩
 ·rw [if_neg dc,if_neg dc,if_neg dc,if_neg dc,if_neg dc]
  have hm6:=hs.m e
  have hn6:=hs.n (.inr e)
  unfold IS
  dsimp only
  have ht1:(0<=(PZ D.step D.entry D.is D.tick).n/\(PZ D.step D.entry D.is D.tick).n<=65535)/\(0<=(PZ D.step D.entry D.is D.tick).at_/\(PZ D.step D.entry D.is D.tick).at_<=1073741824)/\(PZ D.step D.entry D.is D.tick).var=D.entry.var/\(PZ D.step D.entry D.is D.tick).key=D.entry.key:=by
   unfold PZ
   split
   ·exact ⟨hn,ha,rfl,rfl⟩
   ·exact ⟨hn6,ht,rfl,rfl⟩
  generalize PZ D.step D.entry D.is D.tick=e1 at ht1 ⊢
  have ht2:(0<=(PY D.step e1 D.tick).n/\(PY D.step e1 D.tick).n<=65535)/\(0<=(PY D.step e1 D.tick).at_/\(PY D.step e1 D.tick).at_<=1073741824)/\(PY D.step e1 D.tick).var=D.entry.var/\(PY D.step e1 D.tick).key=D.entry.key:=by
   obtain ⟨p1,p2⟩:=qo (s:=D.step) (e:=e1) (tick:=D.tick) hm6.1
   have p3:e1.at_+(if 0<D.tick - e1.at_ then D.tick - e1.at_ else 0)<=1073741824:=by split<;>omega
   have p4:0<=Fm D.step e1 D.tick*D.step.m:=Int.mul_nonneg p1 DF
   unfold PY
   split
   ·exact ⟨hn6,ht,ht1.2.2.1,ht1.2.2.2⟩
   ·exact ⟨by dsimp only;omega,by dsimp only;omega,ht1.2.2.1,ht1.2.2.2⟩
  generalize PY D.step e1 D.tick=e2 at ht2 ⊢
  refine Iy (D:={ D with entry:=PX e2 }) hD.head ?_
  dsimp only
  unfold PX
  split
  ·exact ⟨ht2.2.2.1,ht2.2.2.2,by dsimp only;omega,ht2.2.1⟩
  ·exact ⟨ht2.2.2.1,ht2.2.2.2,ht2.1,ht2.2.1⟩
theorem rh{l:List Fld}(hl:Hl l)(hln:l.length<=1073741824){p:List Stage}(hp:okPrg l p){s:Stage}(hs:s∈p){st:List Entry}(hst:st.length<=1073741823)(he:QW p st){h:Head}(hr:EF h=true){tick:Int}(ht:0<=tick/\tick<=1073741824):
  EF (kc l s.step st h tick).1=true/\QW p (kc l s.step st h tick).2.2/\(kc l s.step st h tick).2.2.length<=st.length+1:=by
 unfold kc
 split
 ·exact ⟨hr,he,by dsimp only;omega⟩
 ·rename_i h0
  have hD:=AAS hl hln (hp.stp s hs) hst (λe hx=>(he e hx).1) (λe hx=>(he e hx).2 s hs) hr ht
  obtain ⟨l1,l2⟩:=og hD h0
  have hent:(∀ t∈p,Yi t.step (kd l s.step st h tick).entry)/\(kd l s.step st h tick).entry.key.length<=1048576 /\ ∀ x∈(kd l s.step st h tick).entry.key,0<=x:=by
   unfold kd
   dsimp only
   cases hf:PL st s.step.var (Ps l s.step.key h) with
   | none =>
    refine ⟨λt ht h1 h2=>?_, ?_, ?_⟩
    ·rw [BE,Vd]
     exact hp.key s hs t ht h0 h1 h2
    ·rw [BE,Vd];exact (hp.stp s hs).klen
    ·rw [BE]
     intro x hx
     obtain ⟨nm,_,rfl⟩:=AO.1 hx
     omega
   | some y =>
    have hy:=he y (SQ hf)
    exact ⟨hy.2,hy.1.2.2.1,hy.1.2.2.2⟩
  dsimp only
  refine ⟨by split<;>assumption, ?_, ?_⟩
  ·rcases l2 with l2|⟨e,⟨v1,v2,v3,v4⟩,l2⟩
   ·rw [l2];exact he
   ·rw [l2]
    intro x hx
    rcases xj hx with rfl|hx
    ·exact ⟨⟨v3,v4,by rw [v2];exact hent.2.1,by rw [v2];exact hent.2.2⟩,λt ht h1 h2=>by rw [v2];rw [v1] at h2;exact hent.1 t ht h1 h2⟩
    ·exact he x hx
  ·rcases l2 with l2|⟨e,_,l2⟩
   ·rw [l2];exact Nat.le_succ _
   ·rw [l2];exact xk _ _
def gvG(l:List Fld)(tick:Int)(x:Policy)(given:List Head):List Head->Option (List Head)
 | []=>some given
 | g::r=>match vO l tick x g with
  | none=>none
  | some some'=>if 256<(given++some').length then none else gvG l tick x (given++some') r
def doG(l:List Fld)(s:Stp)(tick:Int)(a:List Head×List Entry):List Head->List Head×List Entry
 | []=>a
 | g::r=>doG l s tick (if (kc l s a.2 g tick).2.1=true then a.1++[(kc l s a.2 g tick).1] else a.1,(kc l s a.2 g tick).2.2) r
def Up(l:List Fld)(tick:Int)(a:List Head×List Entry):List Stage->Option (List Head×List Entry)
 | []=>some a
 | s::r=>match gvG l tick s.policy [] a.1 with
  | none=>none
  | some given=>Up l tick (doG l s.step tick ([],a.2) given) r
def TS(l:List Fld)(p:List Stage)(st:List Entry)(h:Head)(tick:Int):Option (List Head×List Entry):=Up l tick ([h],st) p
def lR(st:List Entry):Option (List Head×List Entry)->AV
 | some a => .tup [.sl none (En a.1),.sl none (EM a.2),.int .i64 0]
 | none => .tup [.sl none [],.sl none (EM st),.int .i64 2]
theorem so(st:List Entry)(o:Option (List Head×List Entry)):(lR st o).pure=true:=by
 cases o<;>simp [lR,AV.pure,DY,mZ,Ig]
set_option maxHeartbeats 4000000 in
theorem AEr(l:List Fld)(hl:Hl l)(hln:l.length<=1073741824)(p:List Stage)(hp:okPrg l p)(st:List Entry)(hlen:st.length+p.length*256<=1073741823)(hs:QW p st)(h:Head)(hr:EF h=true)(tick:Int)(ht:0<=tick/\tick<=1073741824):
  DR AA 11 [.sl none (E8 l),.sl none (Es p),.sl none (EM st),.agg h.c,.int .i64 tick] (lR st (TS l p st h tick)):=by
 refine pB AWH rfl ?_ (hv:=so _ _)
 simp only [f11,go_sem]
 refine Ed p (λ(s:(List Head×List Entry)×DM) (r:List Stage)=>Up l tick s.1 r) (λk s=>QW p s.1.2/\(∀ z∈s.1.1,EF z=true)/\s.1.2.length<=st.length+k*256/\s.1.1.length<=256)
  (λk s=>[(0,.sl none (E8 l)),(2,.sl none (EM st)),(4,.int .i64 tick),(13,.sl (some 10) (En s.1.1)),(14,.sl none (EM s.1.2)),(28,.sl none (Es p)),(29,.int .i64 p.length),(30,.int .i64 k)])
  (λ_ s=>s.2) (([h],st),[some h.c]) DF ⟨hs,by simpa using hr,sm,sm⟩ ?_ rfl ?_ ?_
 ·rfl
 ·rintro k ⟨⟨pk,now⟩,Y⟩ S Ss hd hx ⟨i1,i2,i3,i4⟩ hF h0 h1 hw
  dsimp only at i1 i2 i3 i4 hF ⊢
  have hSp:=AB hx
  have hkl:=(AD.1 hx).1
  have gS : ∀ y L,(Y++y::L)[Y.length]? =some y:=λy L=>sm
  have gS0 : ∀ y,(Y++[y])[Y.length]? =some y:=λy=>sm
  have sS0 : ∀ y z,(Y++[y]).set Y.length z=Y++[z]:=λy z=>sm
  have gN : ∀ y L z,(Y++y::(L++[z]))[List.length (Y++y::L)]? =some z:=λy L z=>by
   have:Y++y::(L++[z])=(Y++y::L)++[z]:=sm
   rw [this];exact Bj
  have sN : ∀ y L z z2,(Y++y::(L++[z])).set (List.length (Y++y::L)) z2=Y++y::(L++[z2]):=λy L z z2=>by
   have:Y++y::(L++[z])=(Y++y::L)++[z]:=sm
   rw [this];simp
  have b2:((2:Int) !=0)=true:=rfl
  have b0:((0:Int) !=0)=false:=rfl
  simp only [go_sem,h0,h1,EU hx,gS,gS0,sS0]
  refine Ed pk (λ(s:List Head×DM) (r:List Head)=>gvG l tick S.policy s.1 r) (λ_ s=>(∀ z∈s.1,EF z=true)/\s.1.length<=256)
   (λj s=>[(0,.sl none (E8 l)),(2,.sl none (EM st)),(4,.int .i64 tick),(14,.sl none (EM now)),(16,.ptr Y.length 0),(17,.sl (some 10) (En s.1)),(28,.sl none (Es p)),(29,.int .i64 p.length),(30,.int .i64 k),(34,.sl (some 10) (En pk)),(35,.int .i64 pk.length),(36,.int .i64 j)])
   (λ_ s=>Y++some S.c::s.2) ([],[]) DF ⟨sm,sm⟩ ?_ rfl ?_ ?_
  ·rfl
  ·rintro j ⟨gv,L⟩ g gs hd2 hx2 ⟨j1,j2⟩ hF2 g0 g1 gw
   dsimp only at j1 j2 hF2 ⊢
   have hrg:=i2 g (AB hx2)
   have c1:=ACo l hl DF S.policy (hp.pol S hSp) tick g hrg
   have e2:=gvG.eq_2 l tick S.policy gv g gs
   simp only [go_sem,g0,g1,F0 hx2,gS,gN,sN]
   cases ev:vO l tick S.policy g with
   | none =>
    rw [ev] at c1 e2
    have hres:TS l p st h tick=none:=by rw [TS,hF,Up,hF2,e2]
    rw [hres]
    refine pK c1 ?_
    simp only [go_sem,b2]
    exact ⟨DF,DF,rfl⟩
   | some x =>
    rw [ev] at c1 e2
    have hgx:=QK l hl tick S.policy (hp.pol S hSp) g x hrg ev
    have hgl:=hgx.2.1
    refine pK c1 ?_
    simp only [go_sem,b0]
    refine ⟨DF,DF, ?_⟩
    by_cases h256:256<(gv++x).length
    ·have hres:TS l p st h tick=none:=by rw [TS,hF,Up,hF2,e2];simp only [if_pos h256]
     have h256b:(256:Int)<((gv++x).length:Int):=DF
     rw [hres]
     simp only [go_sem,h256b,decide_true]
     rfl
    ·have h256b : ¬ (256:Int)<((gv++x).length:Int):=DF
     simp only [if_neg h256] at e2
     simp only [go_sem,h256b,decide_false,gw]
     refine ⟨(gv++x,L++[some g.c]),by rw [e2],⟨λz hz=>?_,by rw [AE] at h256 ⊢;omega⟩, ?_, ?_⟩
     ·rcases Ay.1 hz with hz|hz
      ·exact j1 z hz
      ·exact hgx.2.2 z hz
     ·rfl
     ·rfl
  ·rintro ⟨gv,L⟩ ⟨j1,j2⟩ hF2
   dsimp only at j1 j2 hF2 ⊢
   have hgv:gvG l tick S.policy [] pk=some gv:=hF2
   have hF4:Up l tick ([h],st) p=Up l tick (doG l S.step tick ([],now) gv) Ss:=by rw [hF,Up,hgv]
   simp only [go_sem,AX,decide_false]
   refine Ed gv (λ(s:(List Head×List Entry)×DM) (r:List Head)=>doG l S.step tick s.1 r) (λj s=>QW p s.1.2/\(∀ z∈s.1.1,EF z=true)/\s.1.2.length<=now.length+j/\s.1.1.length<=j)
    (λj s=>[(0,.sl none (E8 l)),(2,.sl none (EM st)),(4,.int .i64 tick),(13,.sl (some 10) (En s.1.1)),(14,.sl none (EM s.1.2)),(16,.ptr Y.length 0),(28,.sl none (Es p)),(29,.int .i64 p.length),(30,.int .i64 k),(61,.sl (some 10) (En gv)),(62,.int .i64 gv.length),(63,.int .i64 j)])
    (λ_ s=>Y++some S.c::s.2) (([],now),L) DF ⟨i1,sm,sm,sm⟩ ?_ rfl ?_ ?_
   ·rfl
   ·rintro j ⟨⟨pk2,now2⟩,L2⟩ g gs hd2 hx2 ⟨q1,q2,q3,q4⟩ hF3 g0 g1 gw
    dsimp only at q1 q2 q3 q4 hF3 ⊢
    have hrg:=j1 g (AB hx2)
    have hjl:=(AD.1 hx2).1
    have c1:=AaZ l hl hln S.step (hp.stp S hSp) now2 DF (λe he=>(q1 e he).1) (λe he=>(q1 e he).2 S hSp) g hrg tick ht
    obtain ⟨d1,d2,d3⟩:=rh hl hln hp hSp (st:=now2) DF q1 hrg ht
    have e2:=doG.eq_2 l S.step tick (pk2,now2) g gs
    dsimp only at e2
    generalize kc l S.step now2 g tick=R at c1 d1 d2 d3 e2
    obtain ⟨g',b,now'⟩:=R
    dsimp only at c1 d1 d2 d3 e2
    simp only [go_sem,g0,g1,F0 hx2,gS,gN,sN]
    refine pK c1 ?_
    cases b with
    | true =>
     simp only [go_sem,gS,gN,sN,gw]
     refine ⟨DF,DF,((pk2++[g'],now'),L2++[some g'.c]),by rw [e2,if_pos rfl],⟨d2,λz hz=>?_,by dsimp only;omega,by rw [AE];exact Dn q4⟩,rfl,rfl⟩
     rcases Ay.1 hz with hz|hz
     ·exact q2 z hz
     ·rcases Al.1 hz with rfl;exact d1
    | false =>
     simp only [go_sem,gS,gN,sN,gw]
     exact ⟨((pk2,now'),L2++[some g'.c]),by rw [e2,if_neg dc],⟨d2,q2,by dsimp only;omega,by dsimp only;omega⟩,rfl,rfl⟩
   ·rintro ⟨⟨pk2,now2⟩,L2⟩ ⟨q1,q2,q3,q4⟩ hF3
    dsimp only at q1 q2 q3 q4 hF3 ⊢
    simp only [go_sem,AX,decide_false,hw]
    exact ⟨((pk2,now2),_),by rw [<- hF,hF4,hF3];rfl,⟨q1,q2,by dsimp only;omega,by dsimp only;omega⟩,rfl,rfl⟩
 ·rintro ⟨⟨pk,now⟩,Y⟩ ⟨i1,i2,i3,i4⟩ hF
  dsimp only at i1 i2 i3 i4 hF ⊢
  simp only [go_sem,AX,decide_false]
  rw [TS,hF];rfl
def Jz(l:List Item):List AV:=l.map λx => .agg x.c
@[go_sem] theorem ARw(l:List Item):(Jz l).length=l.length:=by simp [Jz]
theorem uG{l:List Item}{i:Nat}{x:Item}(h:l[i]? =some x):(Jz l)[i]? =some (.agg x.c):=by simp [Jz,h]
@[go_sem] theorem AGU(a:List Item)(x:Item):Jz a++[.agg x.c]=Jz (a++[x]):=by simp [Jz]
def FE(l:List Delivery):List AV:=l.map λx => .agg x.c
@[go_sem] theorem XQ(l:List Delivery):(FE l).length=l.length:=by simp [FE]
theorem PH{l:List Delivery}{i:Nat}{x:Delivery}(h:l[i]? =some x):(FE l)[i]? =some (.agg x.c):=by simp [FE,h]
@[go_sem] theorem zE(a:List Delivery)(x:Delivery):FE a++[.agg x.c]=FE (a++[x]):=by simp [FE]
@[go_sem] theorem VZ(l:List Delivery):DY (FE l)=true:=by
 induction l with
 | nil=>rfl
 | cons x xs ih=>simpa [FE,DY,AV.pure] using ⟨T9 x,ih⟩
def Fp(l:List (List Entry)):List AV:=l.map λx => .sl none (EM x)
@[go_sem] theorem Lw(l:List (List Entry)):(Fp l).length=l.length:=by simp [Fp]
theorem HE{l:List (List Entry)}{i:Nat}{x:List Entry}(h:l[i]? =some x):(Fp l)[i]? =some (.sl none (EM x)):=by simp [Fp,h]
@[go_sem] theorem AEw(l:List (List Entry)):(∀ x∈Fp l,x.cells.length=1)=True:=eq_true λx hx=>by
 obtain ⟨y,_,rfl⟩:=AO.1 hx;rfl
@[go_sem] theorem tp(l:List (List Entry)):DY (Fp l)=true:=by
 induction l with
 | nil=>rfl
 | cons x xs ih=>simpa [Fp,DY,AV.pure] using ⟨Ig x,ih⟩
theorem yz(l:List (List Entry)):(F4 (Fp l)).map borrow1=Fp l:=by
 induction l with
 | nil=>rfl
 | cons x l ih =>
  have:F4 (Fp (x::l)) = .sl none (EM x)::F4 (Fp l):=rfl
  rw [this,AT,ih];rfl
def gI:Hint:={ h29 with mt:=[5,7],tk:=[] }
@[go_sem] theorem AZ9(k:Nat):gI.lv k=h29.lv k:=AH rfl rfl
@[go_sem] theorem AaB(k:Nat):gI.ct k=h29.ct k:=AH rfl rfl
@[go_sem] theorem AaC(k:Nat):gI.at k=h29.at k:=AH rfl rfl
@[go_sem] theorem AaA(k:Nat):gI.dn k=h29.dn k:=AH rfl rfl
@[go_sem] theorem Aax:gI.tk=[]/\gI.mt=[5,7]/\gI.pc=[]:=⟨rfl,rfl,rfl⟩
theorem AGj:FK AA 29 f29 gI:=⟨kr,kr,func29,kr⟩
theorem yM(l:List (List Entry))(hl:l.length<=1073741824)(H:DM):Dx AA 29 [.sl none (Fp l)] H λv H'=>(l=[]/\v = .sl (some 1) []/\H'=H)\/(v = .msl (H.length+1) 0 l.length 1/\H'=H++[none,some (Fp l)]):=by
 have el:(Fp l).length=l.length:=Lw l
 have g1 : ∀ (x:Option (List AV)),(H++[x])[H.length]? =some x:=λx=>sm
 have g2 : ∀ (x y:Option (List AV)),(H++[x]).set H.length y=H++[y]:=λx y=>sm
 refine aC AGj rfl ?_
 cases l with
 | nil =>
  have e0:Fp []=[]:=rfl
  rw [e0]
  simp only [f29,go_sem,g1,g2]
  simp
 | cons x l =>
  have hcs:Fp (x::l) = .sl none (EM x)::Fp l:=rfl
  have hcat:=yz (x::l)
  rw [hcs] at hcat el ⊢
  simp only [AC] at hl
  simp only [f29,go_sem,g1,g2]
  exact ⟨DF,DF,.inr ⟨sm,by rw [hcat]⟩⟩
theorem xt(q:List Item)(hq:q.length<=1048576)(x:Item)(w:Option Nat)(H:DM)(o:Nat)(ho:H[o]? =some (some [.sl (some 12) (Jz q)])):
  Dx AA 28 [.agg (x.cf w),.ptr o 0] H λv H'=>v = .tup [] /\ ∃ ext,H'=H.set o (some [.sl (some 12) (Jz (q++[x]))])++ext:=by
 have hlt:=(AD.1 ho).1
 have g1:=Dg ho
 have gB : ∀ y L,(H++y::L)[H.length]? =some y:=λy L=>sm
 have s1 : ∀ (L:DM) y,(H++L).set o y=H.set o y++L:=λL y=>KU hlt L
 have gS : ∀ x L,(H.set o x++L)[o]? =some x:=λx L=>Ul hlt x L
 have gM : ∀ x y L,(H.set o x++y::L)[H.length]? =some y:=λx y L=>by
  rw [AM sm];simp
 have sA : ∀ x L y,(H.set o x++L).set o y=H.set o y++L:=λx L y=>by rw [KU (by rw [An];exact hlt),BB]
 refine aC AVv rfl ?_
 cases w<;>simp only [f28,go_sem,ho,g1,gB,s1,gS,sA,gM]
 ·exact ⟨DF,DF⟩
 ·exact ⟨DF,DF⟩
theorem rR{l:List Fld}(hl:Hl l){tick:Int}{x:Policy}(hx:GM l x): ∀ (pk:List Head) {gv r:List Head},(∀ z∈pk,EF z=true)->(∀ z∈gv,EF z=true)->gv.length<=256->gvG l tick x gv pk=some r->(∀ z∈r,EF z=true)/\r.length<=256
 | [],gv,r,_,hg,hn,e=>by
  rw [gvG] at e
  cases e
  exact ⟨hg,hn⟩
 | g::pk,gv,r,hp,hg,hn,e=>by
  rw [gvG] at e
  have hrg:=hp g (Cc ..)
  cases ev:vO l tick x g with
  | none=>rw [ev] at e;cases e
  | some y =>
   rw [ev] at e
   have hy:=QK l hl tick x hx g y hrg ev
   by_cases h256:256<(gv++y).length
   ·simp only [if_pos h256] at e
    cases e
   ·simp only [if_neg h256] at e
    refine rR hl hx pk (λz hz=>hp z (B9 _ hz)) (λz hz=>?_) DF e
    rcases Ay.1 hz with hz|hz
    ·exact hg z hz
    ·exact hy.2.2 z hz
theorem ri{l:List Fld}(hl:Hl l)(hln:l.length<=1073741824){p:List Stage}(hp:okPrg l p){s:Stage}(hs:s∈p){tick:Int}(ht:0<=tick/\tick<=1073741824): ∀ (gv:List Head) {pk:List Head} {st:List Entry},(∀ z∈gv,EF z=true)->(∀ z∈pk,EF z=true)->QW p st->st.length+gv.length<=1073741823 ->
  (∀ z∈(doG l s.step tick (pk,st) gv).1,EF z=true)/\QW p (doG l s.step tick (pk,st) gv).2/\(doG l s.step tick (pk,st) gv).1.length<=pk.length+gv.length/\(doG l s.step tick (pk,st) gv).2.length<=st.length+gv.length
 | [],pk,st,_,hpk,hst,_=>⟨hpk,hst,AU _,AU _⟩
 | g::gv,pk,st,hg,hpk,hst,hln2=>by
  rw [AC] at hln2
  have hrg:=hg g (Cc ..)
  obtain ⟨d1,d2,d3⟩:=rh hl hln hp hs (st:=st) DF hst hrg ht
  rw [doG]
  dsimp only
  generalize kc l s.step st g tick=R at d1 d2 d3
  obtain ⟨g',b,now'⟩:=R
  dsimp only at d1 d2 d3 ⊢
  have ih:=λpk2 hpk2=>ri hl hln hp hs ht gv (pk:=pk2) (st:=now') (λz hz=>hg z (B9 _ hz)) hpk2 d2 DF
  rw [AC]
  cases b with
  | true =>
   rw [if_pos rfl]
   obtain ⟨i1,i2,i3,i4⟩:=ih (pk++[g']) (λz hz=>by
    rcases Ay.1 hz with hz|hz
    ·exact hpk z hz
    ·rcases Al.1 hz with rfl;exact d1)
   rw [AE,Bs] at i3
   exact ⟨i1,i2,DF,DF⟩
  | false =>
   rw [if_neg dc]
   obtain ⟨i1,i2,i3,i4⟩:=ih pk hpk
   exact ⟨i1,i2,DF,DF⟩
theorem dO{l:List Fld}(hl:Hl l)(hln:l.length<=1073741824){p:List Stage}(hp:okPrg l p){tick:Int}(ht:0<=tick/\tick<=1073741824): ∀ (r:List Stage) {a b:List Head×List Entry},(∀ s∈r,s∈p)->(∀ z∈a.1,EF z=true)->a.1.length<=256->QW p a.2->a.2.length+r.length*256<=1073741823->Up l tick a r=some b ->
  (∀ z∈b.1,EF z=true)/\b.1.length<=256/\QW p b.2/\b.2.length<=a.2.length+r.length*256
 | [],a,b,_,h1,h2,h3,_,e=>by
  rw [Up] at e
  cases e
  exact ⟨h1,h2,h3,DF⟩
 | s::r,a,b,hr,h1,h2,h3,h4,e=>by
  rw [AC] at h4
  rw [Up] at e
  have hs:=hr s (Cc ..)
  cases eg:gvG l tick s.policy [] a.1 with
  | none=>rw [eg] at e;cases e
  | some gv =>
   rw [eg] at e
   dsimp only at e
   obtain ⟨g1,g2⟩:=rR hl (hp.pol s hs) a.1 h1 sm sm  eg
   obtain ⟨d1,d2,d3,d4⟩:=ri hl hln hp hs ht gv (pk:=[]) (st:=a.2) g1 sm h3 DF
   rw [AG] at d3
   obtain ⟨r1,r2,r3,r4⟩:=dO hl hln hp ht r (λz hz=>hr z (B9 _ hz)) d1 DF d2 DF e
   rw [AC]
   exact ⟨r1,r2,r3,DF⟩
theorem dN{l:List Fld}(hl:Hl l)(hln:l.length<=1073741824){p:List Stage}(hp:okPrg l p){tick:Int}(ht:0<=tick/\tick<=1073741824){st:List Entry}(hst:QW p st)(hlen:st.length+p.length*256<=1073741823){h:Head}(hr:EF h=true){b:List Head×List Entry}(e:TS l p st h tick=some b):
  (∀ z∈b.1,EF z=true)/\b.1.length<=256/\QW p b.2/\b.2.length<=st.length+p.length*256 :=
 dO hl hln hp ht p (a:=([h],st)) (λ_ h=>h) (by simpa using hr) sm hst hlen e
def uo(t:Tenant)(p:Head):Head×Bool:=PM (Hz t p.h0) p
def Om(t:Tenant)(h:Head):Head×Bool:=Je (GY t (i64 (h.h0 - 10000))) h
def W5(s:Setup)(t:Tenant)(p:Head)(tick:Int):Int:=Gq (lG s t.name p tick) s.contracts
def wU(s:Setup)(x:Item)(t:Tenant)(tick:Int)(a:List Item×List Delivery)(p:Head):List Item×List Delivery :=
 if (uo t p).2=false then a
 else if W5 s t p tick<0 then (a.1,a.2++[⟨x.tenant,(uo t p).1,x.chain⟩])
 else match s.contracts[(W5 s t p tick).toNat]? with
  | none=>a
  | some d=>(a.1++[⟨GV s d.dst,{ p with h0:=d.toPort },x.chain++[W5 s t p tick]⟩],a.2)
def dg(s:Setup)(x:Item)(t:Tenant)(tick:Int)(a:List Item×List Delivery):List Head->List Item×List Delivery
 | []=>a
 | p::r=>dg s x t tick (wU s x t tick a p) r
def N1(h:Head):Nat->List Tenant->List Item
 | _,[]=>[]
 | k,t::r=>if (Om t h).2=true then ⟨(k:Nat),(Om t h).1,[]⟩::N1 h (k+1) r else N1 h (k+1) r
def cGo(s:Setup)(tick:Int):Nat->Nat->List Item->List (List Entry)->List Delivery->Option (List Delivery×List (List Entry))
 | 0,_,_,_,_=>none
 | f+1,n,q,now,out=>match q[n]? with
  | none=>some (out,now)
  | some x=>match s.tenants[x.tenant.toNat]?,now[x.tenant.toNat]? with
   | some t,some st=>match TS s.fields (FC t).1 st x.head tick with
    | none=>none
    | some b=>if 256<(dg s x t tick (q,out) b.1).1.length then none else cGo s tick f (n+1) (dg s x t tick (q,out) b.1).1 (now.set x.tenant.toNat b.2) (dg s x t tick (q,out) b.1).2
   | _,_=>none
def Tt(s:Setup)(sts:List (List Entry))(h:Head)(tick:Int):Option (List Delivery×List (List Entry)):=cGo s tick 600 0 (N1 h 0 s.tenants) sts []
def YZ(sts:List (List Entry)):Option (List Delivery×List (List Entry))->AV
 | some a => .tup [.sl none (FE a.1),.sl none (Fp a.2),.int .i64 0]
 | none => .tup [.sl none [],.sl none (Fp sts),.int .i64 2]
theorem lS(sts:List (List Entry))(o:Option (List Delivery×List (List Entry))):(YZ sts o).pure=true:=by
 cases o<;>simp [YZ,AV.pure,DY,VZ,tp]
structure okRun (s:Setup) (sts:List (List Entry)) (h:Head) (tick:Int):Prop where
 bulk:DT s.c<=1048576
 fld:Hl s.fields
 ten:s.tenants.length<=256
 tick:0<=tick/\tick<=1073741824
 len:sts.length=s.tenants.length
 prg : ∀ (k:Nat) (t:Tenant),s.tenants[k]? =some t->okPrg s.fields (FC t).1/\(FC t).1.length<=1000
 whole : ∀ t∈s.tenants,DR AA 10 [.agg t.c] (.tup [.sl none (Es (FC t).1),.int .i64 (FC t).2])
 st : ∀ (k:Nat) (t:Tenant) (st:List Entry),s.tenants[k]? =some t->sts[k]? =some st->QW (FC t).1 st/\st.length<=268435456
 pred : ∀ c∈s.contracts,Gw s.fields c.pred
 to : ∀ c∈s.contracts,0<=GV s c.dst/\GV s c.dst<(s.tenants.length:Int)
 port : ∀ c∈s.contracts,0<=c.toPort/\c.toPort<=65535
 prt : ∀ t∈s.tenants,t.ports.length<=1073741824
 ent : ∀ t∈s.tenants,(Om t h).2=true->EF (Om t h).1=true
def LM:Hint:={ h6 with pc:=[46,76,91,112,122,131,143,158],fz:=[(36,[(9,none,false)])] }
@[go_sem] theorem Aak(k:Nat):LM.lv k=h6.lv k:=AH rfl rfl
@[go_sem] theorem Aam(k:Nat):LM.ct k=h6.ct k:=AH rfl rfl
@[go_sem] theorem Aal(k:Nat):LM.dn k=h6.dn k:=AH rfl rfl
@[go_sem] theorem Aan:LM.at 0=[]/\LM.at 1=[]/\LM.at 2=[]/\LM.at 3=[]/\LM.at 4=[]/\LM.at 5=[]/\LM.at 6=[]/\LM.at 7=[]/\LM.at 8=[]/\LM.at 9=[]/\LM.at 10=[]/\LM.at 11=[]/\LM.at 12=[]/\LM.at 13=[]/\LM.at 14=[]/\LM.at 15=[]/\LM.at 16=[]/\LM.at 17=[]/\LM.at 18=[]/\LM.at 19=[]/\LM.at 20=[]/\LM.at 21=[]/\LM.at 22=[]/\LM.at 23=[]/\LM.at 24=[]/\LM.at 25=[]/\LM.at 26=[]/\LM.at 27=[]/\LM.at 28=[]/\LM.at 29=[]/\LM.at 30=[]/\LM.at 31=[]/\LM.at 32=[]/\LM.at 33=[]/\LM.at 34=[]/\LM.at 35=[]/\LM.at 36=[(9,none,false)]:=⟨rfl,rfl,rfl,rfl,rfl,rfl,rfl,rfl,rfl,rfl,rfl,rfl,rfl,rfl,rfl,rfl,rfl,rfl,rfl,rfl,rfl,rfl,rfl,rfl,rfl,rfl,rfl,rfl,rfl,rfl,rfl,rfl,rfl,rfl,rfl,rfl,rfl⟩
@[go_sem] theorem AbR:LM.tk=[82,97,101,103,125,168,169,170]/\LM.mt=[]/\LM.pc=[46,76,91,112,122,131,143,158]:=⟨rfl,rfl,rfl⟩
theorem ATF:FK AA 6 f6 LM:=⟨kr,kr,func6,kr⟩
theorem AGS(l:List (List Entry)):(Fp l).map borrow1=Fp l:=by
 induction l with
 | nil=>rfl
 | cons x l ih =>
  have:Fp (x::l) = .sl none (EM x)::Fp l:=rfl
  rw [this,AT,ih];rfl
theorem mO(l:List (List Entry)):HK false 1 l.length (Fp l)=Fp l:=by
 have:=pA (Fp l)
 rwa [Lw] at this
structure okC6 (s:Setup) (sts:List (List Entry)) (h:Head) (tick:Int) (pn f n:Nat) (q:List Item) (now:List (List Entry)) (out:List Delivery) (X:DM):Prop where
 c0:X[0]? =some (some s.c)
 c2:X[2]? =some (some [.sl (some 12) (Jz q)])
 cn:X[pn]? =some (some (Fp now))
 fuel:n+f=600
 res:Tt s sts h tick=cGo s tick f n q now out
 ql:q.length<=256/\n<=q.length/\out.length<=n*256
 itm : ∀ (i:Nat) (x:Item),q[i]? =some x->EF x.head=true/\(0<=x.tenant/\x.tenant<(s.tenants.length:Int))/\x.chain.length<=i
 nl:now.length=s.tenants.length
 st : ∀ (k:Nat) (t:Tenant) (st:List Entry),s.tenants[k]? =some t->now[k]? =some st->QW (FC t).1 st/\st.length<=268435456+n*256000
structure okP6 (s:Setup) (x:Item) (t:Tenant) (n pn ox:Nat) (now:List (List Entry)) (q:List Item) (out:List Delivery) (Z:DM) (j:Nat):Prop where
 c0:Z[0]? =some (some s.c)
 c2:Z[2]? =some (some [.sl (some 12) (Jz q)])
 cn:Z[pn]? =some (some (Fp now))
 cx:Z[ox]? =some (some x.c)
 ct:Z[ox+1]? =some (some t.c)
 len:ox+2<=Z.length
 itm : ∀ (i:Nat) (y:Item),q[i]? =some y->EF y.head=true/\(0<=y.tenant/\y.tenant<(s.tenants.length:Int))/\y.chain.length<=i
 ql:n<q.length/\q.length<=256+j
 ol:out.length<=n*256+j
theorem okP6.grow{s:Setup}{x:Item}{t:Tenant}{n pn ox:Nat}{now:List (List Entry)}{q:List Item}{out:List Delivery}{Z:DM}{j:Nat}(h:okP6 s x t n pn ox now q out Z j)(L:DM):okP6 s x t n pn ox now q out (Z++L) (j+1) :=
 ⟨Dg h.c0 _,Dg h.c2 _,Dg h.cn _,Dg h.cx _,Dg h.ct _,by rw [AE];have:=h.len;omega,h.itm,⟨h.ql.1,by have:=h.ql.2;omega⟩,by have:=h.ol;omega⟩
theorem okP6.out{s:Setup}{x:Item}{t:Tenant}{n pn ox:Nat}{now:List (List Entry)}{q:List Item}{out:List Delivery}{Z:DM}{j:Nat}(h:okP6 s x t n pn ox now q out Z j)(L:DM)(d:Delivery):okP6 s x t n pn ox now q (out++[d]) (Z++L) (j+1) :=
 ⟨Dg h.c0 _,Dg h.c2 _,Dg h.cn _,Dg h.cx _,Dg h.ct _,by rw [AE];have:=h.len;omega,h.itm,⟨h.ql.1,by have:=h.ql.2;omega⟩,by rw [AE,Bs];have:=h.ol;omega⟩
theorem okP6.put{s:Setup}{x:Item}{t:Tenant}{n pn ox:Nat}{now:List (List Entry)}{q:List Item}{out:List Delivery}{Z:DM}{j:Nat}(h:okP6 s x t n pn ox now q out Z j)(L M:DM)(d:Item)(hp:2<pn)(hox:2<ox)(hd:EF d.head=true/\(0<=d.tenant/\d.tenant<(s.tenants.length:Int))/\d.chain.length<=n+1):
  okP6 s x t n pn ox now (q++[d]) out ((Z++L).set 2 (some [.sl (some 12) (Jz (q++[d]))])++M) (j+1):=by
 have h2:=(AD.1 h.c2).1
 have hs : ∀ (i:Nat) (v:Option (List AV)),i≠2->Z[i]? =some v->((Z++L).set 2 (some [.sl (some 12) (Jz (q++[d]))])++M)[i]? =some v:=λi v hi hv=>Dg (by rw [A6 (Ne.symm hi)];exact Dg hv _) _
 refine ⟨hs 0 _ DF h.c0,Dg (Az (by rw [AE];omega)) _,hs pn _ DF h.cn,hs ox _ DF h.cx,hs (ox+1) _ DF h.ct,by rw [AE,An,AE];have:=h.len;omega,λi y hy=>?_,⟨by rw [AE];have:=h.ql.1;omega,by rw [AE,Bs];have:=h.ql.2;omega⟩,by have:=h.ol;omega⟩
 rw [List.getElem?_append] at hy
 split at hy
 ·exact h.itm i y hy
 ·rename_i hi
  have hql:=h.ql.1
  have:i=q.length:=by
   by_cases he:i - q.length=0
   ·omega
   ·rw [Ax (by rw [Bs];omega)] at hy
    cases hy
  subst this
  rw [AQ] at hy
  cases hy
  exact ⟨hd.1,hd.2.1,by have:=hd.2.2;omega⟩
theorem yy(l:List (List Entry))(i:Nat)(e:List Entry)(h:i<l.length):splice (Fp l) i [.sl none (EM e)]=Fp (l.set i e):=by
 unfold splice
 rw [C7,if_pos h]
 simp [Fp]
set_option maxHeartbeats 4000000 in
theorem AGA(s:Setup)(sts:List (List Entry))(h:Head)(tick:Int)(hr:EF h=true)(R:okRun s sts h tick):DR AA 6 [.agg s.c,.sl none (Fp sts),.agg h.c,.int .i64 tick] (YZ sts (Tt s sts h tick)):=by
 have hnt:=R.ten
 refine pB ATF rfl ?_ (hv:=lS _ _)
 simp only [f6,go_sem]
 refine Ed s.tenants (λ(_:List Item×DM) (_:List Tenant)=>()) (λk a=>a.1++N1 h k (s.tenants.drop k)=N1 h 0 s.tenants/\a.1.length<=k /\ ∀ x∈a.1,x.chain=[]/\EF x.head=true/\0<=x.tenant/\x.tenant<(s.tenants.length:Int))
  (λk _=>[(1,.sl none (Fp sts)),(3,.int .i64 tick),(4,.ptr 0 0),(6,.ptr 1 0),(11,.ptr 2 0),(12,.fn (.func 28) [] [.ptr 2 0]),(36,.sl none (GA s.tenants)),(37,.int .i64 s.tenants.length),(38,.int .i64 k)])
  (λ_ a=>some s.c::some h.c::some [.sl (some 12) (Jz a.1)]::a.2) ([],[]) DF ⟨rfl,sm,sm⟩ rfl rfl ?_ ?_
 ·rintro k ⟨q,J⟩ t ts hd hx ⟨i1,i2,i3⟩ _ h0 h1 hw
  dsimp only at i1 i2 i3 ⊢
  have htm:=AB hx
  have hkl:=(AD.1 hx).1
  have c1:=au t (R.prt t htm) h
  have ht:=R.ent t htm
  rw [hd,N1] at i1
  have hd2:s.tenants.drop (k+1)=ts:=by rw [<- A9,hd];rfl
  have eT:Je (GY t (i64 (h.h0 - 10000))) h=Om t h:=rfl
  rw [eT] at c1
  have gN : ∀ a b c (L:DM) z,(a::b::c::(L++[z]))[List.length (a::b::c::L)]? =some z:=λa b c L z=>by
   have:a::b::c::(L++[z])=(a::b::c::L)++[z]:=sm
   rw [this];exact Bj
  have sN : ∀ a b c (L:DM) z z2,(a::b::c::(L++[z])).set (List.length (a::b::c::L)) z2=a::b::c::(L++[z2]):=λa b c L z z2=>by
   have:a::b::c::(L++[z])=(a::b::c::L)++[z]:=sm
   rw [this];simp
  simp only [go_sem,h0,h1,Ef hx,gN,sN]
  refine pK c1 ?_
  cases he:(Om t h).2 with
  | false =>
   rw [he,if_neg dc] at i1
   simp only [go_sem,gN,sN,he,hw]
   exact ⟨(q,_),⟨by rw [hd2];exact i1,by dsimp only;omega,i3⟩,rfl,rfl⟩
  | true =>
   rw [he,if_pos rfl] at i1
   simp only [go_sem,gN,sN,he,hw]
   refine Eh.intro (xt q DF ⟨(k:Nat),(Om t h).1,[]⟩ (some 1) _ 2 rfl) λv H' hq=>?_
   obtain ⟨rfl,ext,rfl⟩:=hq
   simp only [go_sem,hw]
   refine ⟨(q++[⟨(k:Nat),(Om t h).1,[]⟩],_),⟨by rw [hd2,AF];exact i1,by rw [AE];exact Dn i2,λx hx=>?_⟩,rfl,rfl⟩
   rcases Ay.1 hx with hx|hx
   ·exact i3 x hx
   ·rcases Al.1 hx with rfl
    exact ⟨rfl,ht he,by dsimp only;omega,by dsimp only;omega⟩
 ·rintro ⟨q,J⟩ ⟨i1,i2,i3⟩ _
  dsimp only at i1 i2 i3 ⊢
  have hq0:q=N1 h 0 s.tenants:=by rw [<- i1,List.drop_length,N1,Ah]
  simp only [go_sem,AX,decide_false]
  refine Eh.intro (yM sts (by have:=R.len;omega) _) λv H' hq=>?_
  rcases hq with ⟨hnil,rfl,rfl⟩|⟨rfl,rfl⟩
  ·have ht0:s.tenants=[]:=List.length_eq_zero_iff.1 (by rw [<- R.len,hnil];rfl)
   have hq1:q=[]:=by rw [hq0,ht0];rfl
   have hres:Tt s sts h tick=some ([],[]):=by unfold Tt;rw [ht0,hnil];rfl
   subst hq1
   rw [hres]
   simp only [go_sem]
   refine Jn (σ:=Unit) (λ_=>[(1,.sl none (Fp sts)),(3,.int .i64 tick),(4,.ptr 0 0),(11,.ptr 2 0),(12,.fn (.func 28) [] [.ptr 2 0]),(17,.sl (some 1) []),(18,.sl (some 12) []),(19,.int .i64 0)])
    (λ_=>some s.c::some h.c::some [.sl (some 12) (Jz [])]::J) (λ_=>True) (λ_=>0) () trivial rfl rfl λ_ _=>?_
   have z0 : ¬ ((0:Int)<((0:Nat):Int)):=dc
   simp only [go_sem,z0,decide_false,AG]
   rfl
  ·simp only [go_sem]
   generalize hpn:List.length (some s.c::some h.c::some [AV.sl (some 12) (Jz q)]::J)+1=pn
   refine Jn (σ:=Nat×Nat×List Item×List (List Entry)×List Delivery×DM) (λa=>[(1,.sl none (Fp sts)),(3,.int .i64 tick),(4,.ptr 0 0),(11,.ptr 2 0),(12,.fn (.func 28) [] [.ptr 2 0]),(17,.msl pn 0 sts.length 1),(18,.sl (some 12) (FE a.2.2.2.2.1)),(19,.int .i64 a.2.1)])
    (λa=>a.2.2.2.2.2) (λa=>okC6 s sts h tick pn a.1 a.2.1 a.2.2.1 a.2.2.2.1 a.2.2.2.2.1 a.2.2.2.2.2) (λa=>a.1) (600,0,q,sts,[],_) ?_ rfl rfl ?_
   ·refine ⟨rfl,rfl, ?_,rfl,by rw [hq0];rfl,⟨by dsimp only;omega,BY _,BY _⟩,λi x hx=>?_,R.len,λk t st h1 h2=>?_⟩
    ·subst hpn
     simp
    ·obtain ⟨y1,y2,y3,y4⟩:=i3 x (AB hx)
     exact ⟨y2,⟨y3,y4⟩,by rw [y1];exact BY _⟩
    ·have:=R.st k t st h1 h2
     exact ⟨this.1,by have:=this.2;dsimp only;omega⟩
   rintro ⟨f,n,q,now,out,X⟩ hI
   dsimp only at hI ⊢
   clear i1 i2 i3 hq0
   obtain ⟨x1,x2,x3,x4,x5,x6,x7,x8,x9⟩:=hI
   simp only [go_sem,x2]
   refine cS ?_ ?_<;>intro hc
   ·have hc:=of_decide_eq_true hc
    have hnl:n<q.length:=DF
    obtain ⟨x,hx⟩ : ∃ x,q[n]? =some x:=⟨_,AL hnl⟩
    obtain ⟨hxr,⟨hx0,hx1⟩,hxc⟩:=x7 n x hx
    obtain ⟨m,hm⟩ : ∃ m:Nat,x.tenant=(m:Int):=⟨x.tenant.toNat,DF⟩
    have hmT:m<s.tenants.length:=DF
    obtain ⟨t,ht⟩ : ∃ t,s.tenants[m]? =some t:=⟨_,AL hmT⟩
    obtain ⟨st,hst⟩ : ∃ st,now[m]? =some st:=⟨_,AL DF⟩
    have htm:=AB ht
    obtain ⟨p1,p2⟩:=R.prg m t ht
    obtain ⟨s1,s2⟩:=x9 m t st ht hst
    have c1:=R.whole t htm
    have hlenb:st.length+(FC t).1.length*256<=1073741823:=by have:=x6.1;have:=x6.2.1;omega
    have hfl:s.fields.length<=1073741824:=by have:=aA (KL R.bulk);omega
    have c2:=AEr s.fields R.fld hfl (FC t).1 p1 st hlenb s1 x.head hxr tick R.tick
    have l0:=(AD.1 x1).1
    have l2:=(AD.1 x2).1
    have ln:=(AD.1 x3).1
    have gX0:=Dg x1
    have gX2:=Dg x2
    have gXn:=Dg x3
    have gx : ∀ y L,(X++y::L)[X.length]? =some y:=λy L=>sm
    have gx1 : ∀ y z L,(X++y::z::L)[X.length+1]? =some z:=λy z L=>sm
    have sx : ∀ y z,(X++[y]).set X.length z=X++[z]:=λy z=>sm
    have sx1 : ∀ y z w,(X++[y,z]).set (X.length+1) w=X++[y,w]:=λy z w=>sm
    have hm0:(0:Int)<=(m:Int):=DF
    have hm1:(m:Int)<(s.tenants.length:Int):=DF
    have hm2:(m:Int)<(sts.length:Int):=by rw [R.len];omega
    have hxi:(Item.c x)[0]? =some (.int .i64 x.tenant):=rfl
    have h0n:(0:Int)<=(n:Int):=DF
    simp only [go_sem,h0n,hc,x1,x2,x3,gX0,gX2,gXn,gx,gx1,sx,sx1,uG hx,Ef ht,HE hst,hm,hm0,hm1,hm2,AE,AC,AG,AY,Nat.reduceAdd]
    refine pK c1 ?_
    simp only [go_sem,x1,x2,x3,gX0,gX2,gXn,gx,gx1,sx,sx1,hxi,Ef ht,HE hst,hm,hm0,hm1,hm2,AE,AC,AG,AY,Nat.reduceAdd]
    obtain ⟨f',rfl⟩ : ∃ f',f=f'+1:=⟨f - 1,DF⟩
    have hto:x.tenant.toNat=m:=DF
    have b2:((2:Int) !=0)=true:=rfl
    have b0:((0:Int) !=0)=false:=rfl
    cases er:TS s.fields (FC t).1 st x.head tick with
    | none =>
     rw [er,lR] at c2
     have hres:Tt s sts h tick=none:=by rw [x5,cGo,hx];dsimp only;rw [hto,ht,hst];dsimp only;rw [er]
     rw [hres]
     refine pK c2 ?_
     simp only [go_sem,b2]
     rfl
    | some b =>
     rw [er,lR] at c2
     obtain ⟨r1,r2,r3,r4⟩:=dN R.fld hfl p1 R.tick s1 hlenb hxr er
     have e5:cGo s tick (f'+1) n q now out=if 256<(dg s x t tick (q,out) b.1).1.length then none else cGo s tick f' (n+1) (dg s x t tick (q,out) b.1).1 (now.set m b.2) (dg s x t tick (q,out) b.1).2:=by rw [cGo,hx];dsimp only;rw [hto,ht,hst];dsimp only;rw [er]
     rw [e5] at x5
     have sXn : ∀ (L:DM) y,(X++L).set pn y=X.set pn y++L:=λL y=>KU ln L
     refine pK c2 ?_
     have hml:m+1<=now.length:=DF
     have hsp:=yy now m b.2 DF
     simp only [go_sem,b0,sXn,hml,hsp,x1,x2,x3,gX0,gX2,gXn,gx,gx1,sx,sx1,hxi,Ef ht,HE hst,hm,hm0,hm1,hm2,AE,AC,AG,AY,Nat.reduceAdd]
     have hX2:2≠pn:=by subst hpn;simp
     have hX0:0≠pn:=by subst hpn;simp
     have lsn:(X.set pn (some (Fp (now.set m b.2)))).length=X.length:=An ..
     refine Ed b.1 (λ(a:List Item×List Delivery×DM) (r:List Head)=>dg s x t tick (a.1,a.2.1) r) (λj a=>okP6 s x t n pn X.length (now.set m b.2) a.1 a.2.1 a.2.2 j) (λj a=>[(1,.sl none (Fp sts)),(3,.int .i64 tick),(4,.ptr 0 0),(11,.ptr 2 0),(12,.fn (.func 28) [] [.ptr 2 0]),(17,.msl pn 0 sts.length 1),(18,.sl (some 12) (FE a.2.1)),(19,.int .i64 n),(20,.ptr X.length 0),(21,.ptr (X.length+1) 0),(103,.sl none (En b.1)),(104,.int .i64 b.1.length),(105,.int .i64 j)])
      (λ_ a=>a.2.2) (q,out,_) DF ?_ ?_ rfl ?_ ?_
     ·have u0:(X.set pn (some (Fp (now.set m b.2))))[0]? =some (some s.c):=by rw [A6 (Ne.symm hX0)];exact x1
      have u2:(X.set pn (some (Fp (now.set m b.2))))[2]? =some (some [.sl (some 12) (Jz q)]):=by rw [A6 (Ne.symm hX2)];exact x2
      have un:(X.set pn (some (Fp (now.set m b.2))))[pn]? =some (some (Fp (now.set m b.2))):=Az ln
      refine ⟨Dg u0 _,Dg u2 _,Dg un _, ?_, ?_, ?_,x7,⟨hnl,by dsimp only;omega⟩,by dsimp only;omega⟩
      ·dsimp only
       rw [<- lsn];simp
      ·dsimp only
       rw [<- lsn];simp
      ·dsimp only
       rw [AE,lsn];exact AU _
     ·rfl
     ·rintro j ⟨q2,out2,Z⟩ p ps hd2 hxp hI2 hF2 g0 g1 gw
      dsimp only at hI2 hF2 ⊢
      have hI3:=hI2
      obtain ⟨y0,y2,yn,yx,yt,yl,y7,y8,y9⟩:=hI2
      have hrp:=r1 p (AB hxp)
      have hjl:=(AD.1 hxp).1
      have d1:=AAs t p
      have eX:PM (Hz t p.h0) p=uo t p:=rfl
      rw [eX] at d1
      have d2:=ACx s R.fld DF (by have:=Mh (G9 R.bulk);omega) m t ht p hrp tick R.pred
      have d3:=yN x.chain DF
      have hxk:(Item.c x)[11]? =some (.sl none (E4 x.chain)):=rfl
      have eK:Gq (lG s t.name p tick) s.contracts=W5 s t p tick:=rfl
      rw [eK] at d2
      have l0':=(AD.1 y0).1
      have l2':=(AD.1 y2).1
      have gY0:=Dg y0
      have gY2:=Dg y2
      have gYx:=Dg yx
      have gYt:=Dg yt
      have gz : ∀ y L,(Z++y::L)[Z.length]? =some y:=λy L=>sm
      have gz1 : ∀ y z L,(Z++y::z::L)[Z.length+1]? =some z:=λy z L=>sm
      have sz : ∀ y z,(Z++[y]).set Z.length z=Z++[z]:=λy z=>sm
      have sz0 : ∀ y a z,(Z++[y,a]).set Z.length z=Z++[z,a]:=λy a z=>sm
      have sz1 : ∀ y z w,(Z++[y,z]).set (Z.length+1) w=Z++[y,w]:=λy z w=>sm
      have hpk:dg s x t tick (q,out) b.1=dg s x t tick (wU s x t tick (q2,out2) p) ps:=hF2
      simp only [go_sem,g0,g1,F0 hxp,y0,y2,yx,yt,gY0,gY2,gYx,gYt,gz,gz1,sz,sz1,hm,AE,AC,AG,AY,Nat.reduceAdd]
      refine pK d1 ?_
      cases he:(uo t p).2 with
      | false =>
       simp only [go_sem,he,gz,gz1,sz,sz1,gw,AE,AC,AG,AY,Nat.reduceAdd,Av]
       have e6:wU s x t tick (q2,out2) p=(q2,out2):=by unfold wU;rw [if_pos he]
       exact ⟨(q2,out2,_),by rw [dg,e6],hI3.grow _,rfl,rfl⟩
      | true =>
       simp only [go_sem,he,gz,gz1,sz,sz1,y0,y2,yx,yt,gY0,gY2,gYx,gYt,hxi,hm,AE,AC,AG,AY,Nat.reduceAdd,Ar]
       refine pK d2 ?_
       simp only [go_sem,he,gz,gz1,sz,sz1,y0,y2,yx,yt,gY0,gY2,gYx,gYt,hxi,hm,AE,AC,AG,AY,Nat.reduceAdd,Ar]
       refine cS ?_ ?_<;>intro hc3
       ·have hc3:=of_decide_eq_true hc3
        have e6:wU s x t tick (q2,out2) p=(q2,out2++[⟨x.tenant,(uo t p).1,x.chain⟩]):=by unfold wU;rw [if_neg (by rw [he];decide),if_pos hc3]
        simp only [go_sem,gz,gz1,sz,sz1,y0,y2,yx,yt,gY0,gY2,gYx,gYt,hxi,hxk,hm,AE,AC,AG,AY,Nat.reduceAdd]
        refine pK d3 ?_
        simp only [go_sem,gz,gz1,sz,sz1,y0,y2,yx,yt,gY0,gY2,gYx,gYt,hxi,hxk,hm,gw,AE,AC,AG,AY,Nat.reduceAdd]
        exact ⟨DF,DF,(q2,out2++[⟨x.tenant,(uo t p).1,x.chain⟩],_),by rw [dg,e6],hI3.out _ _,by rw [hm],rfl⟩
       ·have hc3:=of_decide_eq_false hc3
        obtain ⟨ci,d,hK,hd⟩ : ∃ (ci:Nat) (d:Contract),W5 s t p tick=(ci:Int)/\s.contracts[ci]? =some d:=by
         rcases Mj (lG s t.name p tick) s.contracts 0 with ⟨w1,w2⟩|⟨i,y,w1,w2,w3⟩
         ·have:W5 s t p tick = -1:=w1
          omega
         ·exact ⟨i,y,by unfold W5 Gq;rw [w1,AY],w2⟩
        have hdm:=AB hd
        obtain ⟨t1,t2⟩:=R.to d hdm
        obtain ⟨t3,t4⟩:=R.port d hdm
        have hcl:=(AD.1 hd).1
        have hcn:s.contracts.length<=1048576:=Mh (G9 R.bulk)
        have k0:(0:Int)<=(ci:Int):=DF
        have k1:(ci:Int)<(s.contracts.length:Int):=DF
        have hkt:(W5 s t p tick).toNat=ci:=DF
        have e6:wU s x t tick (q2,out2) p=(q2++[⟨GV s d.dst,{ p with h0:=d.toPort },x.chain++[(ci:Int)]⟩],out2):=by unfold wU;rw [if_neg (by rw [he];decide),if_neg hc3,hkt,hd,hK]
        have d4:=yF s d.dst DF
        have d5:lF (GV s d.dst) = .tup [.int .i64 (GV s d.dst),.bool true]:=by unfold lF Vm;rw [decide_eq_true t1];congr;split<;>omega
        rw [d5] at d4
        simp only [go_sem,hK,k0,k1,FF hd,gz,gz1,sz,sz1,y0,y2,yx,yt,gY0,gY2,gYx,gYt,hxi,hxk,hm,AE,AC,AG,AY,Nat.reduceAdd]
        refine pK d4 ?_
        simp only [go_sem,hK,k0,k1,FF hd,gz,gz1,sz,sz0,sz1,y0,y2,yx,yt,gY0,gY2,gYx,gYt,hxi,hxk,hm,AE,AC,AG,AY,Nat.reduceAdd]
        refine pK d3 ?_
        simp only [go_sem,hK,k0,k1,FF hd,gz,gz1,sz,sz0,sz1,y0,y2,yx,yt,gY0,gY2,gYx,gYt,hxi,hxk,hm,AE,AC,AG,AY,Nat.reduceAdd]
        refine ⟨DF,DF, ?_⟩
        have hrp':EF { p with h0:=d.toPort }=true:=dP hrp t3 t4
        refine Eh.intro (xt q2 DF ⟨GV s d.dst,{ p with h0:=d.toPort },x.chain++[(ci:Int)]⟩ (some 1) _ 2 (Dg y2 _)) λv H' hq=>?_
        obtain ⟨rfl,ext,rfl⟩:=hq
        simp only [go_sem,gw]
        exact ⟨(q2++[⟨GV s d.dst,{ p with h0:=d.toPort },x.chain++[(ci:Int)]⟩],out2,_),by rw [dg,e6],hI3.put _ _ _ (by subst hpn;simp) DF ⟨hrp',⟨t1,t2⟩,by rw [AE];exact Dn hxc⟩,rfl,rfl⟩
     ·rintro ⟨q2,out2,Z⟩ hI2 hF2
      dsimp only at hI2 hF2 ⊢
      obtain ⟨y0,y2,yn,yx,yt,yl,y7,y8,y9⟩:=hI2
      have hpk:dg s x t tick (q,out) b.1=(q2,out2):=hF2
      rw [hpk] at x5
      simp only [go_sem,AX,decide_false,y2]
      refine cS ?_ ?_<;>intro hc3
      ·have hc3:=of_decide_eq_true hc3
       have hres:Tt s sts h tick=none:=by rw [x5];exact if_pos (by dsimp only;omega)
       rw [hres]
       simp only [go_sem]
       rfl
      ·have hc3:=of_decide_eq_false hc3
       have hres:Tt s sts h tick=cGo s tick f' (n+1) q2 (now.set m b.2) out2:=by rw [x5];exact if_neg (by dsimp only;omega)
       have hwn:IntKind.i64.wrap ((n:Int)+1)=((n+1:Nat):Int):=Ln DF
       simp only [go_sem,hwn]
       refine ⟨(f',n+1,q2,now.set m b.2,out2,Z),⟨y0,y2,yn,by dsimp only;omega,hres,⟨by dsimp only;omega,y8.1,by dsimp only;omega⟩,y7,by rw [An];exact x8,λk t2 st2 h1 h2=>?_⟩,by dsimp only;omega,rfl,rfl⟩
       dsimp only at h2 ⊢
       rw [A0] at h2
       split at h2
       ·rename_i hkm
        subst hkm
        rw [ht] at h1
        cases h1
        split at h2
        ·cases h2
         exact ⟨r3,DF⟩
        ·cases h2
       ·have:=x9 k t2 st2 h1 h2
        exact ⟨this.1,Nat.le_trans this.2 (Nat.add_le_add_left (Nat.mul_le_mul_right _ (Nat.le_succ n)) _)⟩
   ·have hc:=of_decide_eq_false hc
    have hq2:q[n]? =none:=Ax DF
    have hres:Tt s sts h tick=some (out,now):=by
     rw [x5]
     obtain ⟨f',rfl⟩ : ∃ f',f=f'+1:=⟨f - 1,DF⟩
     rw [cGo,hq2]
    rw [hres]
    simp only [go_sem,x3]
    have hlen2:now.length=sts.length:=by rw [x8,R.len]
    rw [if_pos ⟨DF,.inr trivial⟩,AGS,<- hlen2,mO]
    simp only [go_sem]
    rfl
theorem AAQ{s:Setup}(hR:R19 s){d:Contract}(hd:d∈s.contracts):(GV s d.dst).toNat<s.tenants.length:=by
 have h0:=(Q7 (hR.con d hd)).2
 obtain ⟨v,_,_,_,hv⟩:=QM h0
 omega
end Go.AI
