/- Rows of a known capacity;rows of any width that become lists. -/
import Derived.Test.YtebladleneahcaaGreatDoorMx
set_option linter.unusedSimpArgs false
set_option linter.unusedVariables false
set_option maxHeartbeats 4000000
open Go.Proofs.Tryz
open Go.AI renaming Entry->E6,Hint->E7,Head->E8,Doing->E9,Stage->FA,Item->FB,Tenant->FC,Setup->FD,Delivery->FE,Contract->FF
open Bool renaming and_eq_true->AQ,not_false->Aw,not_true->Av
open Eq renaming trans->AG
open Int renaming lt_irrefl->AX,toNat_natCast->Af
open List renaming append_assoc->AE,append_nil->Ag,cons_append->AS,drop_drop->A8,drop_left'->Dl,drop_of_length_le->Cx,drop_zero->BN,ext_getElem?->A4,filter_append->Ce,filter_eq_self->DR,find?_cons->Bz,find?_some->Du,getElem?_append_right->AM,getElem?_concat_length->BX,getElem?_cons_zero->A7,getElem?_eq_getElem->AL,getElem?_eq_none->Az,getElem?_eq_some_iff->AC,getElem?_set->Au,getElem?_set_ne->A5,getElem?_set_self->A3,getElem_mem->Cb,length_append->AF,length_cons->AD,length_drop->Ch,length_filter_le->Cw,length_map->Aq,length_nil->AH,length_set->An,length_singleton->Bm,length_take->BD,map_append->Ap,map_congr_left->B3,map_cons->AR,map_flatten->DP,map_id->DQ,mem_append->Ar,mem_cons->AW,mem_cons_of_mem->B0,mem_cons_self->CR,mem_filter->CY,mem_map->AN,mem_of_getElem?->AB,mem_singleton->Ab,nil_append->AO,set_append_left->BO,set_append_right->BR,set_eq_take_append_cons_drop->DD,set_set->BE,take_add_one->BF,take_length->BI,take_of_length_le->Bf,take_succ_cons->CO,zip_cons_cons->B5
open Nat renaming le_refl->AU,le_succ->DU,min_def->Dt,sub_self->AP,sub_zero->Bo,succ_le_succ->Dv,two_pow_pos->BY,zero_add->AY,zero_le->BW,zero_mul->CM
open Option renaming getD_none->BH
open Go.Proofs.Tryz renaming prog->AA
namespace Go.AI
section
variable {P:Program}
theorem FZ.cap{f:FuncId}{o off len sz:Nat}{vs:List AV}{H:FR}{R:AV->FR->Prop}(hcal:HS P f=true)(h : ∀ c,len<=c->c<=9223372036854775807->FZ P f (.mslc o off len sz c::vs) H R):FZ P f (.msl o off len sz::vs) H R :=
 ⟨hcal,λF G w us hc=>by
  match us,hc with
  | [],hc=>have:=hc.l.len;simp at this
  | u::us,hc =>
   obtain ⟨hv,ht,hr⟩:=hc.l.uncons
   cases hv with
   | msl _ _ _ _ b cap hb hl hm hcc =>
    refine (h cap hl (by unfold maxLen at hm;omega)).2 F G w _ ⟨.cons (.mslc o off len sz cap b hb hl hm hcc) (Fh (FW rfl rfl _) _ _ _) hr,hc.h,λx=>?_⟩
    have:=hc.cnt x
    rw [Fb,FW rfl rfl] at this ⊢
    exact this⟩
theorem lO{f:FuncId}{vs:List AV}{H:FR}{R:AV->FR->Prop}(h:FZ P f vs H λv H'=>R v H' \/ ∃ o off len sz c,v = .mslc o off len sz c/\R (.msl o off len sz) H'):FZ P f vs H R :=
 ⟨h.1,λF G w us hc=>Calls.mono (h.2 F G w us hc) λe w' he=>by
  obtain ⟨u,rfl,v',H2,G',hr,hcr,hext⟩:=he
  rcases hr with hr|⟨o,off,len,sz,c,rfl,hr⟩
  ·exact ⟨u,rfl,v',H2,G',hr,hcr,hext⟩
  ·have hv:=hcr.l.rel 0 _ _ rfl rfl
   cases hv with
   | mslc _ _ _ _ _ b hb hl hm hcc=>exact ⟨_,rfl,_,H2,G',hr,hcr.swap1 (.msl o off len sz b c hb hl hm hcc) rfl,hext⟩⟩
def AIY(n:Nat)(es:List (List AV))(v:AV)(H H':FR):Prop :=
 (es=[]/\(∃ w,v = .sl w []) /\ ∃ ext,H'=H++ext) \/ ∃ ob cs,v = .msl ob 0 es.length n/\H.length<=ob/\(∃ ext,H'=H++ext)/\H'[ob]? =some (some cs)/\(∃ r,cs=es.flatten++r)
theorem qZ {f:FuncId} {vs:List AV} {H:FR} {es:List (List AV)} {n:Nat} (hn : ∀ e∈es,e.length=n) (hs : ∀ e∈es,Fl H.length e=true) (hb : ∀ e∈es,e.map borrow1=e)
  (h:FZ P f vs H λv' H'=>AIY n es v' H H'):FZ P f vs H λv' H'=>v' = .sl none (es.map .agg)/\H'=H :=
 ⟨h.1,λF G w us hc=>Calls.mono (h.2 F G w us hc) λe w' he=>by
  obtain ⟨u,rfl,v',H2,G',hr,hcr,hext⟩:=he
  rcases hr with ⟨rfl,⟨w0,rfl⟩,ext,rfl⟩|⟨ob,cs,rfl,hob,⟨ext,rfl⟩,ho,r,rfl⟩
  ·have hv:VRel G' w' (.sl none []) u:=by
    have:=hcr.l.rel 0 _ _ rfl rfl
    cases this with
    | slnil=>exact .slnil _
    | slany=>exact .slany _ _
    | sl own es sz b q cap u' hsz hown hl hm h1 h2=>exact .sl none [] sz b q cap u' hsz (λn hn=>by cases hn) hl hm h1 h2
   obtain ⟨G2,k1,k2⟩:=hc.cutExt (hcr.swap1 hv rfl) hext rfl
   exact ⟨u,rfl,_,H,G2,⟨rfl,rfl⟩,k1,k2⟩
  ·have hv:=hcr.l.rel 0 _ _ rfl rfl
   have hlen:=OW es n hn
   obtain ⟨G2,ext2,k1,k2,k3⟩:=hcr.frzRow true ho hob hv (by rw [AF,hlen];omega) (.inl rfl)
   have e1:(es.flatten++r).map borrow1=es.flatten++r.map borrow1:=by
    rw [Ap,DP]
    congr 2
    exact B3 (f:=List.map borrow1) (g:=id) (λe he=>hb e he) |>.trans (DQ _)
   rw [e1,Kh es _ n hn] at k3
   obtain ⟨G3,k4,k5⟩:=hc.cutExt (k1.swap1 k3 rfl) (hext.trans k2) (NS hs)
   exact ⟨u,rfl,_,H,G3,⟨rfl,rfl⟩,k4,k5⟩⟩
def AWM(n:Nat)(es:List (List AV))(v:AV)(H H':FR):Prop:=AIY n es v H H'\/((∃ w,v = .sl w (es.map .agg)) /\ ∃ ext,H'=H++ext)
theorem qY {f:FuncId} {vs:List AV} {H:FR} {es:List (List AV)} {n:Nat} (hn : ∀ e∈es,e.length=n) (hs : ∀ e∈es,Fl H.length e=true) (hb : ∀ e∈es,e.map borrow1=e)
  (h:FZ P f vs H λv' H'=>AWM n es v' H H'):FZ P f vs H λv' H'=>v' = .sl none (es.map .agg)/\H'=H :=
 ⟨h.1,λF G w us hc=>Calls.mono (h.2 F G w us hc) λe w' he=>by
  obtain ⟨u,rfl,v',H2,G',hr,hcr,hext⟩:=he
  rcases hr with (⟨rfl,⟨w0,rfl⟩,ext,rfl⟩|⟨ob,cs,rfl,hob,⟨ext,rfl⟩,ho,r,rfl⟩)|⟨⟨w0,rfl⟩,ext,rfl⟩
  ·have hv:VRel G' w' (.sl none []) u:=by
    have:=hcr.l.rel 0 _ _ rfl rfl
    cases this with
    | slnil=>exact .slnil _
    | slany=>exact .slany _ _
    | sl own es sz b q cap u' hsz hown hl hm h1 h2=>exact .sl none [] sz b q cap u' hsz (λn hn=>by cases hn) hl hm h1 h2
   obtain ⟨G2,k1,k2⟩:=hc.cutExt (hcr.swap1 hv rfl) hext rfl
   exact ⟨u,rfl,_,H,G2,⟨rfl,rfl⟩,k1,k2⟩
  ·have hv:=hcr.l.rel 0 _ _ rfl rfl
   have hlen:=OW es n hn
   obtain ⟨G2,ext2,k1,k2,k3⟩:=hcr.frzRow true ho hob hv (by rw [AF,hlen];omega) (.inl rfl)
   have e1:(es.flatten++r).map borrow1=es.flatten++r.map borrow1:=by
    rw [Ap,DP]
    congr 2
    exact B3 (f:=List.map borrow1) (g:=id) (λe he=>hb e he) |>.trans (DQ _)
   rw [e1,Kh es _ n hn] at k3
   obtain ⟨G3,k4,k5⟩:=hc.cutExt (k1.swap1 k3 rfl) (hext.trans k2) (NS hs)
   exact ⟨u,rfl,_,H,G3,⟨rfl,rfl⟩,k4,k5⟩
  ·have hv:=(hcr.l.rel 0 _ _ rfl rfl).borrow1
   obtain ⟨G2,k1,k2⟩:=hc.cutExt (hcr.swap1 hv rfl) hext (NS hs)
   exact ⟨u,rfl,_,H,G2,⟨rfl,rfl⟩,k1,k2⟩⟩
end
end Go.AI
namespace Go.AI
open Go.Proofs
set_option maxRecDepth 50000
def oL(a b:ByteArray):Int:=if Tr a b=true then -1 else if a=b then 0 else 1
def OK:List Int->List Int->Int
 | [],[]=>0
 | [],_::_ => -1
 | _::_,[]=>1
 | x::a,y::b=>if Py x y≠0 then Py x y else OK a b
def Wk(a b:E6):Int:=if oL a.var b.var≠0 then oL a.var b.var else OK a.key b.key
theorem AIk(a b:ByteArray):A' AA 289 [.str a,.str b] (.int .i64 (oL a b)):=by
 refine pC ALP rfl ?_
 simp only [f289,go_sem]
 repeat' (first|((first|refine pK (mL a) ?_|refine pK (mL b) ?_);simp only [go_sem])|(first|apply cS|apply gS)<;>intro hc<;>simp only [go_sem,hc,FU])
 all_goals first|(simp only [oL,Tr];simp_all;done)|skip
theorem AIj(a b:List Int)(ha:a.length<=1073741824):A' AA 290 [.sl none (GC a),.sl none (GC b)] (.int .i64 (OK a b)):=by
 have ea:(GC a).length=a.length:=HK a
 have eb:(GC b).length=b.length:=HK b
 refine pC ACB rfl ?_
 simp only [f290,go_sem,ea]
 refine Fd a (λr=>OK r (b.drop (a.length - r.length))) (λk=>[(0,.sl none (GC a)),(1,.sl none (GC b)),(9,.sl none (GC a)),(10,.int .i64 a.length),(11,.int .i64 k)]) FQ rfl ?_ ?_
 ·intro k x xs hd hx hF h0 h1 hw
  have hk:=Fo hd
  have e1:a.length - (xs.length+1)=k:=FQ
  have e2:a.length - xs.length=k+1:=FQ
  simp only [AD,e1,AP,BN] at hF ⊢
  by_cases hkb:k<b.length
  ·obtain ⟨y,hy⟩ : ∃ y,b[k]? =some y:=⟨_,AL hkb⟩
   have hnb : ¬ (b.length:Int)<=(k:Int):=FQ
   rw [U6 hy,OK] at hF
   simp only [go_sem,h0,h1,Gk hx,Gk hy,eb,hnb,dF]
   repeat' (first|(refine pK (AAz x y) ?_;simp only [go_sem])|(first|apply cS|apply gS)<;>intro hc<;>simp only [go_sem,hc,hw])
   ·have hne:Py x y≠0:=by simpa using hc
    rw [iP hne] at hF
    rw [hF]
   ·have hne : ¬ Py x y≠0:=by simpa using hc
    rw [e1,e2,U6 hy,OK,iN hne]
  ·have hnb:(b.length:Int)<=(k:Int):=FQ
   rw [List.drop_eq_nil_of_le FQ,OK] at hF
   simp only [go_sem,h0,h1,Gk hx,eb,hnb,dT]
   rw [hF]
 ·intro hF hlt
  rw [AP,BN] at hF
  simp only [go_sem,hlt,dF,ea,eb]
  cases hr:b.drop a.length with
  | nil =>
   have hlen:b.length<=a.length:=by simpa using hr
   have hnl : ¬ (a.length:Int)<(b.length:Int):=FQ
   rw [AH,Bo,hr,OK] at hF
   simp only [go_sem,hnl,dF]
   rw [hF]
  | cons y ys =>
   have hlen:a.length<b.length:=by have:=Fo hr;omega
   have hnl:(a.length:Int)<(b.length:Int):=FQ
   rw [AH,Bo,hr,OK] at hF
   simp only [go_sem,hnl,dT]
   rw [hF]
theorem AdS(l:List Int)(hl:l.length<=1073741824):A' AA 288 [.sl none (GC l)] (.int .i64 ((l.find? λz=>z !=0).getD 0)):=by
 have el:(GC l).length=l.length:=HK l
 refine pC ALS rfl ?_
 simp only [f288,go_sem,el]
 refine Fd l (λr=>(r.find? λz=>z !=0).getD 0) (λk=>[(3,.int .i64 0),(6,.sl none (GC l)),(7,.int .i64 l.length),(8,.int .i64 k)]) FQ rfl ?_ ?_
 ·intro k z zs hd hx hF h0 h1 hw
  simp only [go_sem,h0,h1,Gk hx]
  repeat' (first|(first|apply cS|apply gS)<;>intro hc<;>simp only [go_sem,hc,hw])
  ·rw [hF,Bz,hc];rfl
  ·rw [Bz,hc]
 ·intro hF hlt
  simp only [go_sem,hlt,dF]
  rw [hF];rfl
theorem AWo(x y:Int):A' AA 288 [.sl none [.int .i64 x,.int .i64 y]] (.int .i64 (if x≠0 then x else y)):=by
 have h:=AdS [x,y] sm
 have e:(([x,y].find? λz=>z !=0).getD 0)=if x≠0 then x else y:=by
  rw [Bz,Bz]
  by_cases hx:x=0
  ·subst hx
   by_cases hy:y=0
   ·subst hy;rfl
   ·have:(y !=0)=true:=by simp [hy]
    rw [this];rfl
  ·have:(x !=0)=true:=by simp [hx]
   rw [this,iP hx];rfl
 rw [e] at h
 exact h
theorem AA0(a b:E6)(ha:a.key.length<=1073741824):A' AA 230 [.agg a.c,.agg b.c] (.int .i64 (Wk a b)):=by
 refine pC ANU rfl ?_
 simp only [f230,go_sem]
 repeat' (first|((first|refine pK (AIk a.var b.var) ?_|refine pK (AIj a.key b.key ha) ?_|refine pK (A'.weak (AWo _ _)) ?_);simp only [go_sem])|(first|apply cS|apply gS)<;>intro hc<;>simp only [go_sem,hc])
 all_goals first|rfl|skip
def jW(l:List E6)(x:E6):Nat->Nat->Nat->Nat
 | 0,i,_=>i
 | f+1,i,j=>if i<j then (match l[(i+j) / 2]? with
   | some y=>if Wk y x<0 then jW l x f ((i+j) / 2+1) j else jW l x f i ((i+j) / 2)
   | none=>i) else i
def YI(l:List E6)(x:E6):Nat:=jW l x (l.length+1) 0 l.length
def bsT(l:List E6)(x:E6):Bool:=match l[YI l x]? with
 | some y=>Wk y x==0
 | none=>false
theorem bX(l:List E6)(x:E6): ∀ (f i j:Nat),i<=j->j<=l.length->jW l x f i j<=l.length
 | 0,i,j,h1,h2=>by rw [jW];omega
 | f+1,i,j,h1,h2=>by
  rw [jW]
  split
  ·rename_i hlt
   have hm:(i+j) / 2<l.length:=FQ
   rw [AL hm]
   dsimp only
   split
   ·exact bX l x f _ _ FQ h2
   ·exact bX l x f _ _ FQ FQ
  ·omega
theorem ADI(l:List E6)(x:E6):YI l x<=l.length:=bX l x _ _ _ (BW _) (AU _)
theorem AWl(l:List E6)(hl:l.length<=4611686018427387903)(hk : ∀ y∈l,y.key.length<=1073741824)(x:E6):A' AA 287 [.sl none (Fe l),.agg x.c,.fn (.func 230) [] []] (.tup [.int .i64 (YI l x),.bool (bsT l x)]):=by
 refine pB ALV rfl ?_
 simp only [f287,go_sem]
 refine Km (σ:=Nat×Nat) (λs=>[(0,.sl none (Fe l)),(2,.fn (.func 230) [] []),(4,.ptr 0 0),(8,.int .i64 l.length),(9,.int .i64 s.1),(10,.int .i64 s.2)]) (λ_=>[some x.c]) (λs=>s.1<=s.2/\s.2<=l.length /\ ∃ f,s.2 - s.1<f/\YI l x=jW l x f s.1 s.2) (λs=>s.2 - s.1) (0,l.length) ⟨BW _,AU _,l.length+1,by dsimp only;omega,rfl⟩ rfl rfl ?_
 rintro ⟨i,j⟩ ⟨hij,hj,f,hf,hF⟩
 dsimp only at hij hj hf hF ⊢
 obtain ⟨f,rfl⟩ : ∃ f',f=f'+1:=⟨f - 1,FQ⟩
 rw [jW] at hF
 by_cases hlt:i<j
 ·have g1:(i:Int)<(j:Int):=FQ
  have g2:(0:Int)<=(((i+j) / 2:Nat):Int):=FQ
  have g3:(((i+j) / 2:Nat):Int).toNat=(i+j) / 2:=FQ
  have hm:(i+j) / 2<l.length:=FQ
  have hw:=Mj (k:=(i+j) / 2) FQ
  have hgm:=AL hm
  have a1:=Gn hgm
  have c1:=AA0 l[(i+j) / 2] x (hk _ (Cb hm))
  rw [iP hlt,hgm] at hF
  dsimp only at hF
  simp only [go_sem,g1,dT,AHY hl hj hlt,g2,g3,a1]
  repeat' (first|(refine pK (c1) ?_;simp only [go_sem])|(first|apply cS|apply gS)<;>intro hc<;>simp only [go_sem,hc,hw])
  ·have hc:=of_decide_eq_true hc
   rw [iP hc] at hF
   exact ⟨((i+j) / 2+1,j),⟨by dsimp only;omega,hj,f,by dsimp only;omega,hF⟩,by dsimp only;omega,rfl,rfl⟩
  ·have hc:=of_decide_eq_false hc
   rw [iN hc] at hF
   exact ⟨(i,(i+j) / 2),⟨by dsimp only;omega,by dsimp only;omega,f,by dsimp only;omega,hF⟩,by dsimp only;omega,rfl,rfl⟩
 ·have hij:i=j:=FQ
  subst hij
  rw [iN hlt] at hF
  have g1 : ¬ (i:Int)<(i:Int):=FQ
  unfold bsT
  rw [hF]
  by_cases hil:i<l.length
  ·have g3:(i:Int)<(l.length:Int):=FQ
   have g4:(0:Int)<=(i:Int):=FQ
   have hgi:=AL hil
   have a1:=Gn hgi
   have c1:=AA0 l[i] x (hk _ (Cb hil))
   rw [hgi]
   simp only [go_sem,g1,dF,g3,g4,dT,a1]
   repeat' (first|(refine pK (c1) ?_;simp only [go_sem])|(first|apply cS|apply gS)<;>intro hc<;>simp only [go_sem,hc,g1,g3,g4,a1,dT,Af])
   all_goals first|rfl|skip
  ·have g3 : ¬ (i:Int)<(l.length:Int):=FQ
   rw [Az FQ]
   simp only [go_sem,g1,dF,g3]
   repeat' (first|(first|apply cS|apply gS)<;>intro hc<;>simp only [go_sem,hc,g1,g3])
   all_goals first|rfl|skip
theorem qv(l:List E6)(hl:l.length<=4611686018427387903)(hk : ∀ y∈l,y.key.length<=1073741824)(x:E6):A' AA 229 [.sl none (Fe l),.agg x.c,.fn (.func 230) [] []] (.tup [.int .i64 (YI l x),.bool (bsT l x)]):=by
 refine pC ANX rfl ?_
 simp only [f229,go_sem]
 repeat' (first|(refine pK (AWl l hl hk x) ?_;simp only [go_sem])|(first|apply cS|apply gS)<;>intro hc<;>simp only [go_sem,hc])
 all_goals first|rfl|skip
def QI(l:List E6)(v:ByteArray)(key:List Int):Option E6:=if bsT l ⟨v,key,0,0⟩=true then l[YI l ⟨v,key,0,0⟩]? else none
theorem AFK(l:List E6)(hl:l.length<=4611686018427387903)(hk : ∀ y∈l,y.key.length<=1073741824)(v:ByteArray)(key:List Int):A' AA 153 [.sl none (Fe l),.str v,.sl none (GC key)] (.tup [.agg ((QI l v key).getD Entry.z).c,.bool (QI l v key).isSome]):=by
 have c1:=qv l hl hk ⟨v,key,0,0⟩
 refine pB AP8 rfl ?_
 unfold QI
 cases hb:bsT l ⟨v,key,0,0⟩ with
 | false =>
  rw [hb] at c1
  simp only [f153,go_sem]
  refine pK c1 ?_
  simp only [go_sem]
  first|rfl|skip
 | true =>
  rw [hb] at c1
  obtain ⟨y,hy⟩ : ∃ y,l[YI l ⟨v,key,0,0⟩]? =some y:=by
   unfold bsT at hb
   split at hb
   ·exact ⟨_,by assumption⟩
   ·cases hb
  have hy2:=Gn hy
  have h0:(0:Int)<=((YI l ⟨v,key,0,0⟩:Nat):Int):=FQ
  rw [iP rfl,hy]
  simp only [f153,go_sem]
  refine pK c1 ?_
  simp only [go_sem,h0,Af,hy2]
  first|rfl|skip
def Fk(l:List E6):List AV:=(l.map Entry.c).flatten
theorem Hz(x:E6)(l:List E6):Fk (x::l)=x.c++Fk l:=rfl
theorem H8 : ∀ l:List E6,(Fk l).length=l.length*4
 | []=>rfl
 | x::l=>by
  rw [Hz,AF,H8 l,AD]
  have:x.c.length=4:=rfl
  omega
theorem TM : ∀ (l:List E6) (r:List AV) (k:Nat) (y:E6),l[k]? =some y->((Fk l++r).drop (k*4)).take 4=y.c
 | [],_,_,_,h=>by simp at h
 | x::l,r,0,y,h=>by
  simp only [A7,Option.some.injEq] at h
  subst h
  rfl
 | x::l,r,k+1,y,h=>by
  rw [Hz,AE]
  have e:(k+1)*4=x.c.length+k*4:=by
   have:x.c.length=4:=rfl
   omega
  rw [e,<- A8,List.drop_left]
  exact TM l r k y (by simpa using h)
theorem Zj{l:List E6}(r:List AV){k:Nat}{y:E6}(h:l[k]? =some y):k*4+4<=(Fk l++r).length:=by
 have:=(AC.1 h).1
 rw [AF,H8]
 omega
def iG(d:E6->Bool):Nat->List E6->Int
 | _,[] => -1
 | k,x::r=>if d x=true then (k:Int) else iG d (k+1) r
theorem AA8(l:List E6)(hl:l.length<=9223372036854775807)(r:List AV)(H:FR)(o:Nat)(ho:H[o]? =some (some (Fk l++r)))(f:Nat)(first cap:List AV)(d:E6->Bool)(hd : ∀ x∈l,GJ AA f (first.map AV.borrow++(.agg (Entry.c x)::cap.map AV.borrow)) H (.bool (d x))):
  GJ AA 227 [.msl o 0 l.length 4,.fn (.func f) first cap] H (.int .i64 (iG d 0 l)):=by
 refine aC ng rfl ?_
 simp only [f227,go_sem]
 refine Fd l (λr=>iG d (l.length - r.length) r) (λk=>[(0,.msl o 0 l.length 4),(1,.fn (.func f) first cap),(7,.int .i64 l.length),(8,.int .i64 k)]) hl rfl ?_ ?_
 ·intro k y ys hdr hx hF h0 h1 hw
  have c1:=hd y (AB hx)
  have g1:=Zj r hx
  have g2:=TM l r k y hx
  have hk2:=Fo hdr
  have e1:l.length - (ys.length+1)=k:=FQ
  have e2:l.length - ys.length=k+1:=FQ
  simp only [AD,e1,AP] at hF
  simp only [go_sem,h0,h1,ho,g1,g2]
  repeat' (first|(refine aS (c1) ?_;simp only [go_sem])|(first|apply cS|apply gS)<;>intro hc<;>simp only [go_sem,hc,hw,e1,e2])
  ·rw [hF,iG,iP hc]
  ·rw [iG,iN (by rw [hc];decide)]
 ·intro hF hlt
  simp only [go_sem,hlt,dF]
  rw [AP] at hF
  rw [hF];rfl
theorem Jn : ∀ (l:List E6) (r:List AV) (i:Nat),i<=l.length->(Fk l++r).take (i*4)=Fk (l.take i)
 | _,r,0,_=>by simp [Fk]
 | [],r,i+1,h=>by simp at h
 | x::l,r,i+1,h=>by
  have e:(i+1)*4=x.c.length+i*4:=by
   have:x.c.length=4:=rfl
   omega
  rw [Hz,AE,e,List.take_length_add_append,Jn l r i (by simpa using h),CO,Hz]
theorem ML : ∀ (l:List E6) (r:List AV) (i:Nat),i<=l.length->(Fk l++r).drop (i*4)=Fk (l.drop i)++r
 | _,r,0,_=>sm
 | [],r,i+1,h=>by simp at h
 | x::l,r,i+1,h=>by
  have e:(i+1)*4=x.c.length+i*4:=by
   have:x.c.length=4:=rfl
   omega
  rw [Hz,AE,e,List.drop_length_add_append,ML l r i (by simpa using h),List.drop_succ_cons]
theorem Np(a b:List E6):Fk (a++b)=Fk a++Fk b:=by unfold Fk;simp
theorem P8{l:List E6}(r:List AV){i:Nat}(h:i<l.length)(x:E6):splice (Fk l++r) (i*4) x.c=Fk (l.set i x)++r:=by
 have e:i*4+x.c.length=(i+1)*4:=by
  have:x.c.length=4:=rfl
  omega
 unfold splice
 rw [e,Jn l r i FQ,ML l r (i+1) FQ,DD,iP h,Np,Hz]
 simp only [AE]
theorem ZT(d:E6->Bool): ∀ (l:List E6) (k:Nat),(iG d k l = -1 /\ ∀ x∈l,d x=false) \/ ∃ (i:Nat) (x:E6),iG d k l=((k+i:Nat):Int)/\l[i]? =some x/\d x=true /\ ∀ y∈l.take i,d y=false
 | [],k => .inl ⟨rfl,sm⟩
 | x::r,k=>by
  rw [iG]
  by_cases h:d x=true
  ·rw [iP h]
   exact .inr ⟨0,x,rfl,rfl,h,sm⟩
  ·rw [iN h]
   have h:d x=false:=by simpa using h
   rcases ZT d r (k+1) with ⟨e,h2⟩|⟨i,y,e,h2,h3,h4⟩
   ·exact .inl ⟨e,by simpa [h] using h2⟩
   ·refine .inr ⟨i+1,y,by rw [e];congr 1;omega,h2,h3, ?_⟩
    rw [CO]
    intro z hz
    rcases AW.1 hz with rfl|hz
    ·exact h
    ·exact h4 z hz
theorem fF(H:FR)(f:Nat)(first cap:List AV):GJ AA 227 [.sl none [],.fn (.func f) first cap] H (.int .i64 (-1)):=by
 refine aC ng rfl ?_
 simp only [f227,go_sem]
 refine Fd ([]:List E6) (λ_=>()) (λk=>[(0,.sl none []),(1,.fn (.func f) first cap),(7,.int .i64 ((0:Nat):Int)),(8,.int .i64 k)]) sm rfl ?_ ?_
 ·intro k y ys hd
  rw [List.drop_nil] at hd;cases hd
 ·intro _ hlt
  have z2:decide (((0:Nat):Int)<((0:Nat):Int))=false:=dc
  simp only [go_sem,z2]
theorem Xp(w:Option Nat)(H:FR)(f:Nat)(first cap:List AV):FZ AA 322 [.sl w [],.fn (.func f) first cap] H λv H'=>H'=H /\ ∃ w2,v = .sl w2 []:=by
 have c1:=fF H f first cap
 have z1:((-1:Int) == -1)=true:=rfl
 refine aC AB6 rfl ?_
 cases w with
 | none =>
  simp only [f322,go_sem]
  repeat' (first|(refine aS (c1) ?_;simp only [go_sem,z1])|(first|apply cS|apply gS)<;>intro hc<;>simp only [go_sem,hc,z1])
  all_goals first|exact ⟨_,rfl⟩|exact ⟨rfl,_,rfl⟩|skip
 | some w =>
  simp only [f322,go_sem]
  repeat' (first|(refine aS (c1) ?_;simp only [go_sem,z1])|(first|apply cS|apply gS)<;>intro hc<;>simp only [go_sem,hc,z1])
  all_goals first|exact ⟨_,rfl⟩|exact ⟨rfl,_,rfl⟩|skip
theorem tD (l:List E6) (hl:l.length<=1073741823) (r:List AV) (H:FR) (o:Nat) (ho:H[o]? =some (some (Fk l++r))) (f:Nat) (first cap:List AV) (d:E6->Bool)
  (hd : ∀ x∈l,∀ c J,GJ AA f (first.map AV.borrow++(.agg (Entry.c x)::cap.map AV.borrow)) (H.set o (some c)++J) (.bool (d x))) :
  FZ AA 322 [.msl o 0 l.length 4,.fn (.func f) first cap] H λv H' => ∃ r' J,v = .msl o 0 (l.filter λx => !d x).length 4/\H'=H.set o (some (Fk (l.filter λx => !d x)++r'))++J:=by
 have hset:H.set o (some (Fk l++r))=H:=by
  obtain ⟨hlt,he⟩:=AC.1 ho
  apply A4
  intro i
  rw [Au]
  split
  ·rename_i hi;subst hi;rw [ho]
  ·rfl
 have hd0 : ∀ x∈l,GJ AA f (first.map AV.borrow++(.agg (Entry.c x)::cap.map AV.borrow)) H (.bool (d x)):=λx hx=>by
  have:=hd x hx (Fk l++r) []
  rw [hset,Ag] at this
  exact this
 have c1:=AA8 l FQ r H o ho f first cap d hd0
 refine aC AB6 rfl ?_
 rcases ZT d l 0 with ⟨e,hall⟩|⟨i,x,e,hx,hdx,hpre⟩
 ·rw [e] at c1
  have hf:l.filter (λx => !d x)=l:=DR.2 λx hx=>by rw [hall x hx];rfl
  simp only [f322,go_sem]
  repeat' (first|(refine aS (c1) ?_;simp only [go_sem,Int.reduceBEq])|(first|apply cS|apply gS)<;>intro hc<;>simp only [go_sem,hc,Int.reduceBEq])
  all_goals first|exact ⟨r,[],by rw [hf],by rw [hf,hset,Ag]⟩|skip
 ·rw [e,AY] at c1
  have hn1:(((i:Nat):Int) == -1)=false:=by rw [beq_eq_false_iff_ne];omega
  have hi:=(AC.1 hx).1
  have hw0:=Mj (k:=i) FQ
  simp only [f322,go_sem]
  repeat' (first|(refine aS (c1) ?_;simp only [go_sem,hn1,hw0])|(first|apply cS|apply gS)<;>intro hc<;>simp only [go_sem,hc,hn1,hw0])
  refine Km (σ:=Nat×Nat×List E6×FR×Ft) (λs=>(0,.msl o 0 l.length 4)::(1,.fn (.func f) first cap)::(5,.int .i64 s.1)::(6,.int .i64 s.2.1)::s.2.2.2.2) (λs=>H.set o (some (Fk s.2.2.1++r))++s.2.2.2.1)
   (λs=>s.1<s.2.1/\s.2.1<=l.length/\s.2.2.1.length=l.length/\s.2.2.1.take s.1=(l.take s.2.1).filter (λx => !d x)/\s.2.2.1.drop s.2.1=l.drop s.2.1) (λs=>l.length - s.2.1) (i,i+1,l,[],[]) ⟨by dsimp only;omega,by dsimp only;omega,rfl, ?_,rfl⟩ ?_ ?_ ?_
  ·dsimp only
   rw [BF,hx,Ce]
   have h1:(l.take i).filter (λx => !d x)=l.take i:=DR.2 λz hz=>by rw [hpre z hz];rfl
   rw [h1]
   simp [hdx]
  ·rfl
  ·dsimp only
   rw [hset,Ag]
  ·rintro ⟨i,j,row,J,rest⟩ ⟨hij,hj,hrl,htk,hdr⟩
   dsimp only at hij hj hrl htk hdr ⊢
   have hoL:=(AC.1 ho).1
   have fO : ∀ c z,(H.set o c++z)[o]? =some c:=λc z=>FY (IW hoL c) z
   have fW : ∀ c z c',(H.set o c++z).set o c'=H.set o c'++z:=λc z c'=>by rw [BO _ _ (by simpa using hoL),BE]
   by_cases hlt:j<l.length
   ·have hy:=AL hlt
    have hry:row[j]? =some l[j]:=by
     have:=congrArg (·[0]?) hdr
     simpa [hy] using this
    have j0:(0:Int)<=(j:Int):=FQ
    have j1:(j:Int)<(l.length:Int):=FQ
    have k0:(0:Int)<=(i:Int):=FQ
    have k1:(i:Int)<(l.length:Int):=FQ
    have hwj:=Mj (k:=j) FQ
    have hwi:=Mj (k:=i) FQ
    have g1:=Zj r hry
    rw [AF] at g1
    have g2:=TM row r j _ hry
    have fS : ∀ c z y,(H.set o c++(J++[z])).set (H.length+J.length) y=H.set o c++(J++[y]):=λc z y=>by
     rw [<- AE,<- AE]
     simp
    have fL : ∀ c y,(H.set o c++(J++[y]))[H.length+J.length]? =some y:=λc y=>by
     rw [<- AE]
     have:H.length+J.length=(H.set o c++J).length:=sm
     rw [this];exact BX
    have c2:=hd _ (AB hy) (Fk row++r) (J++[some (Entry.c l[j])])
    have hfil:(l.take (j+1)).filter (λx => !d x)=(l.take j).filter (λx => !d x)++(if d l[j]=true then [] else [l[j]]):=by
     rw [BF,hy,Ce]
     congr 1
     cases hd2:d l[j]<;>simp [hd2]
    have hc1:(Entry.c l[j]).length=4:=rfl
    have hc2:(Entry.c l[j]).take 4=Entry.c l[j]:=rfl
    cases hdy:d l[j] with
    | false =>
     rw [hdy] at c2
     simp only [go_sem,j0,j1,dT,fO,g1,g2,fS,fL,hc1,hc2,AE,AF,An]
     repeat' (first|(refine aS (c2) ?_;simp only [go_sem,k0,k1,fO,fL,fW,hwi,hwj,hc1,hc2,AF])|(first|apply cS|apply gS)<;>intro hc<;>simp only [go_sem,hc,j0,j1,k0,k1,dT,fO,g1,g2,fS,fL,fW,hwi,hwj,hc1,hc2,AE,AF,An])
     have k2:i*4+4<=(Fk row).length+r.length:=by rw [H8];omega
     rw [iP k2,P8 r FQ]
     refine ⟨(i+1,j+1,row.set i l[j],J++[some (Entry.c l[j])],[]),⟨by dsimp only;omega,by dsimp only;omega,by simpa using hrl, ?_, ?_⟩,by dsimp only;omega,rfl,rfl⟩
     ·dsimp only
      rw [hfil,hdy,iN dc,<- htk,P6 row i l[j] FQ]
     ·dsimp only
      rw [List.drop_set_of_lt FQ,<- A8,hdr,A8]
    | true =>
     rw [hdy] at c2
     simp only [go_sem,j0,j1,dT,fO,g1,g2,fS,fL,hc1,hc2,AE,AF,An]
     repeat' (first|(refine aS (c2) ?_;simp only [go_sem,hwj])|(first|apply cS|apply gS)<;>intro hc<;>simp only [go_sem,hc,j0,j1,k0,k1,dT,fO,g1,g2,fS,fL,fW,hwi,hwj,hc1,hc2,AE,AF,An])
     refine ⟨(i,j+1,row,J++[some (Entry.c l[j])],[]),⟨by dsimp only;omega,by dsimp only;omega,hrl, ?_, ?_⟩,by dsimp only;omega,rfl,rfl⟩
     ·dsimp only
      rw [hfil,hdy,iP rfl,Ag,htk]
     ·dsimp only
      rw [<- A8,hdr,A8]
   ·have hjl:j=l.length:=FQ
    subst hjl
    simp only [go_sem,AX,dF]
    refine ⟨⟨FQ,FQ,FQ⟩, ?_⟩
    simp only [go_sem,AGF,fO,fW,AF]
    rw [BI] at htk
    have hkl:(l.filter λx => !d x).length=i:=by rw [<- htk,BD];omega
    refine ⟨FQ,by rw [H8];omega,⟨FQ,FQ,.inl trivial⟩,Ga (AV.agg (Entry.z.cf (some 1))) (l.length - i)++(Fk row++r).drop (i*4+(Ga (AV.agg (Entry.z.cf (some 1))) (l.length - i)).length),J,by rw [hkl];rfl, ?_⟩
    unfold splice
    rw [Jn row r i FQ,htk,AE]
theorem ou(l:List E6):(HQ (Fe l)).map borrow1=Fk l:=by
 induction l with
 | nil=>rfl
 | cons x l ih =>
  have:HQ (Fe (x::l))=x.c++HQ (Fe l):=rfl
  rw [this,Ap,ih];rfl
theorem J7(l:List E6):(Fk l).map borrow1=Fk l:=by
 induction l with
 | nil=>rfl
 | cons x l ih=>rw [Hz,Ap,ih];rfl
theorem fJ(l:List E6)(hl:l.length<=1073741824)(H:FR):FZ AA 320 [.sl none (Fe l)] H λv H'=>(l=[]/\v = .sl (some 4) []/\H'=H)\/(v = .msl (H.length+1) 0 l.length 4/\H'=H++[none,some (Fk l)]):=by
 have el:(Fe l).length=l.length:=IP l
 have g1 : ∀ (x:Option (List AV)),(H++[x])[H.length]? =some x:=λx=>sm
 have g2 : ∀ (x y:Option (List AV)),(H++[x]).set H.length y=H++[y]:=λx y=>sm
 refine aC AKR rfl ?_
 cases l with
 | nil =>
  simp only [f320,go_sem,g1,g2]
  exact .inr ⟨sm,rfl⟩
 | cons x l =>
  have hcs:Fe (x::l) = .agg x.c::Fe l:=rfl
  have hcat:=ou (x::l)
  rw [hcs] at hcat el ⊢
  simp only [AD] at hl
  simp only [f320,go_sem,g1,g2]
  exact ⟨FQ,FQ,.inr ⟨sm,by rw [hcat]⟩⟩
section
variable {P:Program} {d:Tmp} {K:Kt} {ev:Ft} {H:FR}
theorem AGp {t t' el:TypeId} {kn k:IntKind} {ob off len sz c m:Nat} {cs:List AV} {z:AV} (hu:P.underlying t=some (.slice el)) (hu2:P.underlying t'=some (.int kn)) (hz:Fi P el=some z) (h1:z.cells.length=sz) (h2:P.cellsOf el=sz) (h3:Gb P el=true) (hp:0<sz)
  (ho:H[ob]? =some (some cs)) (h5:off+len*sz<=cs.length) (h6:0<m) (h7:c<len+m) (h8:(len+m)*P.bytesOf el<=140737488355328) (h9:len+m<=9223372036854775807)
  (hk:K ((d,.msl H.length 0 (len+m) sz)::ev) (H++[some (((cs.drop off).take (len*sz)).map borrow1++(Ga z m).map borrow1)])):AGq P t t' true [.mslc ob off len sz c,.int k (m:Int)] d K ev H:=by
 subst h2
 unfold AGq apz
 simp only [hu,hu2,ho,Af]
 exact ⟨z,hz,⟨h1,h3,hp,trivial,h5,FQ,FQ,h8,h9⟩,hk⟩
end
theorem U7{P:Program}{H:FR}{el:TypeId}{k ob off len sz:Nat}{cs X:List AV}{b:AV}(hb:oH b=some (ob,off,len,sz,false)\/oH b=some (ob,off,len,sz,true))(ho:H[ob]? =some (some cs))(h1:off+k*sz<=cs.length)(h2:sz=P.cellsOf el)(h3:k<=len)(hX:(cs.drop off).take (k*sz)=X):jE P el H k b=some X:=by
 subst hX
 cases b<;>simp only [oH,reduceCtorEq,Option.some.injEq,Prod.mk.injEq,or_self,Bool.true_eq_false,Bool.false_eq_true,and_false,and_true,false_or,or_false] at hb
 all_goals
  obtain ⟨rfl,rfl,rfl,rfl⟩:=hb
  simp only [jE,ho]
  rw [iP ⟨h1,h2,h3⟩]
theorem U8 {P:Program} {d:Tmp} {K:Kt} {ev:Ft} {H:FR} {t el:TypeId} {a b:AV} {ob off len sz m k:Nat} {gr:Bool} {cs X R:List AV} (hk:Nat.min m len=k) (hu:P.underlying t=some (.slice el)) (hrow:oH a=some (ob,off,len,sz,gr)) (hm:AAK b=some m) (ho:H[ob]? =some (some cs)) (h1:sz=P.cellsOf el)
  (h2:(P.info? el).isSome=true) (h3:cs.map borrow1=cs) (h4:off<=cs.length) (h5:gr=true\/off+k*sz<=cs.length) (hs:jE P el H k b=some X) (hR:cs.take off++X.map borrow1++cs.drop (off+k*sz)=R)
  (hK:K ((d,.int .i64 (k:Nat))::ev) (H.set ob (some R))):AGC P t a b d K ev H:=by
 subst hk hR
 exact ACt hu hrow hm ho h1 h2 h3 h4 h5 hs hK
theorem qi{A Z E:List AV}{k:Nat}(hA:A.length=k)(m:Nat):(A++Z).take k++E++(A++Z).drop (k+m)=A++E++Z.drop m:=by
 rw [List.take_left' hA,<- A8,Dl hA]
def WP(l:List E6)(i:Nat)(e:E6):List E6:=l.take i++e::l.drop i
theorem iB{l:List E6}{i:Nat}(h:i<=l.length)(e:E6):(WP l i e).length=l.length+1:=by simp [WP];omega
def AI7(l:List E6)(i:Nat)(e:E6)(o:Nat)(H:FR)(v:AV)(H':FR):Prop :=
 ∃ ob r,v = .msl ob 0 (l.length+1) 4/\H'[ob]? =some (some (Fk (WP l i e)++r))/\(ob=o\/H.length<=ob) /\ ∃ c ext,H'=H.set o c++ext
theorem s8(l:List E6)(hl:l.length<=1073741824)(i:Nat)(hi:i<=l.length)(e:E6)(o vo:Nat)(hov:vo≠o)(H:FR)(ho:H[o]? =some (some (Fk l)))(hv:H[vo]? =some (some e.c))(c:Nat)(hc1:l.length<=c)(hc2:c<=9223372036854775807):
  FZ AA 321 [.mslc o 0 l.length 4 c,.int .i64 i,.msl vo 0 1 4] H λv H'=>AI7 l i e o H v H' \/ ∃ ob off len sz cp,v = .mslc ob off len sz cp/\AI7 l i e o H (.msl ob off len sz) H':=by
 have i0:(0:Int)<=(i:Int):=FQ
 have hil:(i:Int)<=(l.length:Int):=FQ
 have hlc:(l.length:Int)<=(c:Int):=FQ
 have hcl:(Fk l).length=l.length*4:=H8 l
 have z1:(((1:Nat):Int)==0)=false:=rfl
 have hw1:IntKind.i64.wrap ((l.length:Int)+((1:Nat):Int))=((l.length+1:Nat):Int):=by rw [OQ FQ FQ];rfl
 have hw2:IntKind.i64.wrap ((i:Int)+((1:Nat):Int))=((i+1:Nat):Int):=by rw [OQ FQ FQ];rfl
 have hw3:IntKind.i64.wrap (((l.length+1:Nat):Int) - (i:Int))=((l.length+1 - i:Nat):Int):=by rw [OQ FQ FQ];omega
 have hzv:Fi AA 139=some (.agg (Entry.z.cf (some 1))):=kr
 have hzo:Gb AA 139=true:=kr
 have hby:AA.bytesOf 139=56:=kr
 have hinf:(AA.info? 139).isSome=true:=kr
 have hag:SG AA 139=true:=kr
 have hcz:AA.cellsOf 139=4:=kr
 have hsrc:TS AA 139 true H (.msl vo 0 1 4)=some [.agg e.c]:=by
  have h:=ji (P:=AA) (el:=139) hv (off:=0) (len:=1) (sz:=4) (AU 4) hcz.symm (.inl hag)
  rw [hag] at h
  exact h
 have hus:AA.underlying 94=some (.slice 139):=kr
 have hui:AA.underlying 3=some (.int .i64):=kr
 have hcap : ∀ (d:Tmp) (K:Kt) (ev:Ft) (H2:FR),AGK AA 94 (.mslc o 0 l.length 4 c) d K ev H2=K ((d,.int .i64 c)::ev) H2:=λd K ev H2=>by
  unfold AGK
  rw [hus]
 have h00 : ¬ ((0:Int)=(c:Int)/\(0:Int)<0):=FQ
 refine aC AB7 rfl ?_
 by_cases hin:i=l.length
 ·subst hin
  have hee:((l.length:Int)==(l.length:Int))=true:=sm
  simp only [f321,go_sem,i0,hlc,z1,hee,hsrc,ho]
  refine ⟨FQ,FQ,hcl,J7 l,.inl ⟨H.length,[],rfl, ?_,.inr (AU _),none,[some (Fk l++e.c)],rfl⟩⟩
  rw [AM sm]
  have:WP l l.length e=l++[e]:=by simp [WP]
  rw [this,Np]
  simp [Fk]
  rfl
 ·have hne:((i:Int)==(l.length:Int))=false:=by rw [beq_eq_false_iff_ne];omega
  have hic : ¬ ((i:Int)=(c:Int)/\(0:Int)<(i:Int)):=FQ
  by_cases hroom:c<l.length+1
  ·have hr1:(c:Int)<((l.length+1:Nat):Int):=FQ
   simp only [f321,go_sem,i0,hlc,hil,hne,z1,hw1,hr1,dT,hic,hcap,hw3,Bo,CM,AY]
   refine ⟨FQ,AGp (z:=.agg (Entry.z.cf (some 1))) hus hui hzv rfl hcz hzo dc ho FQ FQ  FQ (by rw [hby];omega) FQ ?_⟩
   have hn1:i+(l.length+1 - i)=l.length+1:=FQ
   have hA:(((Fk l).drop 0).take (i*4)).map borrow1=Fk (l.take i):=by
    have:=Jn l [] i hi
    rw [Ag] at this
    rw [BN,this,J7]
   rw [hn1,hA]
   have hZ:((Ga (.agg (Entry.z.cf (some 1))) (l.length+1 - i)).map borrow1).length=(l.length+1 - i)*4/\((Ga (.agg (Entry.z.cf (some 1))) (l.length+1 - i)).map borrow1).map borrow1=(Ga (.agg (Entry.z.cf (some 1))) (l.length+1 - i)).map borrow1:=by
    refine ⟨by rw [Aq];simp [Ga];rfl, ?_⟩
    rw [List.map_map]
    exact B3 λa _=>by cases a<;>rfl
   generalize (Ga (.agg (Entry.z.cf (some 1))) (l.length+1 - i)).map borrow1=Z at hZ
   have hZb:Z.map borrow1=Z:=hZ.2
   replace hZ:=hZ.1
   simp only [go_sem,i0,AY]
   refine ⟨⟨FQ,.inr FQ⟩, ?_⟩
   have hAl:(Fk (l.take i)).length=i*4:=by rw [H8,BD];omega
   have hDl:(Fk (l.drop i)).length=(l.length - i)*4:=by rw [H8,Ch]
   have gv : ∀ x,(H++[x])[vo]? =some (some e.c):=λx=>FY hv _
   have go : ∀ x,(H++[x])[o]? =some (some (Fk l)):=λx=>FY ho _
   have gn : ∀ x:Option (List AV),(H++[x])[H.length]? =some x:=λx=>sm
   have gs : ∀ x y:Option (List AV),(H++[x]).set H.length y=H++[y]:=λx y=>sm
   refine U8 (k:=1) (ob:=H.length) (cs:=Fk (l.take i)++Z) (X:=e.c) (R:=Fk (l.take i)++e.c++Z.drop 4) (by simp [Dt];omega) hus rfl rfl (gn _) hcz.symm hinf (by rw [Ap,J7,hZb]) (by rw [AF];omega) (.inr (by rw [AF];omega)) (U7 (.inl rfl) (gv _) (AU 4) hcz.symm (AU 1) rfl) (qi hAl 4) ?_
   have hn2:l.length+1 - (i+1)=l.length - i:=FQ
   simp only [go_sem,gs,hw2,i0,hil,hic,hn2,AY]
   have hdr:((Fk l).drop (i*4)).take ((l.length - i)*4)=Fk (l.drop i):=by
    have:=ML l [] i hi
    rw [Ag,Ag] at this
    rw [this,Bf FQ]
   have hel:e.c.length=4:=rfl
   have heb:e.c.map borrow1=e.c:=rfl
   have hZd:(Z.drop 4).length=(l.length - i)*4:=by rw [Ch];omega
   have hset:H.set o (some (Fk l))=H:=by
    apply A4
    intro j
    rw [Au]
    split
    ·rename_i hj;subst hj;rw [ho,iP (AC.1 ho).1]
    ·rfl
   refine ⟨⟨FQ,FQ,.inr FQ⟩,FQ,U8 (k:=l.length - i) (ob:=H.length) (cs:=Fk (l.take i)++e.c++Z.drop 4) (X:=Fk (l.drop i)) (R:=Fk (l.take i)++e.c++Fk (l.drop i)) (by simp []) hus rfl rfl (by rw [<- AE];exact gn _) hcz.symm hinf (by rw [Ap,Ap,J7,heb,List.map_drop,hZb]) (by simp only [AF];omega) (.inr (by simp only [AF];omega))
    (U7 (.inr rfl) (go _) FQ hcz.symm FQ hdr) ?_ ?_⟩
   ·rw [J7,qi (A:=Fk (l.take i)++e.c) (by rw [AF];omega),Cx (l:=Z.drop 4) FQ,Ag]
   ·simp only [go_sem,gs]
    exact .inl ⟨H.length,[],rfl,by rw [gn,WP,Np,Hz,Ag],.inr (AU _),some (Fk l),_,by rw [hset]⟩
  ·have hr1 : ¬ (c:Int)<((l.length+1:Nat):Int):=FQ
   simp only [f321,go_sem,i0,hlc,hil,hne,z1,hw1,hw2,hr1,dF,hic,hcap,Bo,CM,AY]
   have hno : ¬ (((i+1:Nat):Int)=(c:Int)/\(0:Int)<((i+1:Nat):Int)):=FQ
   have hsub:l.length+1 - (i+1)=l.length - i:=FQ
   rw [iN hno,hsub]
   refine ⟨⟨FQ,FQ⟩,⟨FQ,FQ,FQ⟩,xK (v:=.bool false) ⟨hov,⟨f339,94,4,139,kr,kr,kr,kr,kr,hus,hinf⟩,⟨_,hv⟩,⟨_,ho⟩,FQ,rfl⟩ ?_⟩
   simp only [go_sem,hw2,i0,hno,hic,hsub]
   have hDl:(Fk (l.drop i)).length=(l.length - i)*4:=by rw [H8,Ch]
   have hTl:(Fk (l.take (i+1))).length=(i+1)*4:=by rw [H8,BD];congr 1;omega
   have hdr:((Fk l).drop (i*4)).take ((l.length - i)*4)=Fk (l.drop i):=by
    have:=ML l [] i hi
    rw [Ag,Ag] at this
    rw [this,Bf FQ]
   have htk:(Fk l).take ((i+1)*4)=Fk (l.take (i+1)):=by
    have:=Jn l [] (i+1) FQ
    rwa [Ag] at this
   have htk2:(Fk (l.take (i+1))++Fk (l.drop i)).take (i*4)=Fk (l.take i):=by
    have:=Jn (l.take (i+1)) (Fk (l.drop i)) i (by rw [BD];omega)
    rw [this,List.take_take,Nat.min_eq_left FQ]
   have hol:=(AC.1 ho).1
   have go2 : ∀ x:Option (List AV),(H.set o x)[o]? =some x:=λx=>A3 hol
   have gv2 : ∀ x:Option (List AV),(H.set o x)[vo]? =some (some e.c):=λx=>by rw [A5 (Ne.symm hov)];exact hv
   have gs2 : ∀ x y:Option (List AV),(H.set o x).set o y=H.set o y:=λx y=>BE ..
   refine ⟨⟨FQ,FQ,FQ⟩,⟨FQ,FQ⟩,U8 (k:=l.length - i) (ob:=o) (cs:=Fk l) (X:=Fk (l.drop i)) (R:=Fk (l.take (i+1))++Fk (l.drop i)) (by simp [Dt];omega) hus rfl rfl ho hcz.symm hinf (J7 l) FQ (.inl rfl) (U7 (.inr rfl) ho FQ hcz.symm FQ hdr)
    (by rw [htk,J7,Cx (l:=Fk l) FQ,Ag]) ?_⟩
   simp only [go_sem,i0,hic,AY]
   refine ⟨⟨FQ,FQ⟩,U8 (k:=1) (ob:=o) (cs:=Fk (l.take (i+1))++Fk (l.drop i)) (X:=e.c) (R:=Fk (l.take i)++e.c++Fk (l.drop i)) (by simp [Dt];omega) hus rfl rfl (go2 _) hcz.symm hinf (by rw [Ap,J7,J7]) (by rw [AF];omega) (.inl rfl) (U7 (.inl rfl) (gv2 _) (AU 4) hcz.symm (AU 1) rfl)
    (by rw [htk2,show i*4+1*4=(i+1)*4 by omega,Dl hTl];rfl) ?_⟩
   simp only [go_sem,gs2]
   exact .inr ⟨o,0,l.length+1,4,c,rfl,o,[],rfl,by rw [go2,WP,Np,Hz,Ag],.inl rfl,_,[],by rw [Ag]⟩
theorem AA6(l:List E6)(hl:l.length<=1073741824)(i:Nat)(hi:i<=l.length)(e:E6)(o vo:Nat)(hov:vo≠o)(H:FR)(ho:H[o]? =some (some (Fk l)))(hv:H[vo]? =some (some e.c)):
  FZ AA 321 [.msl o 0 l.length 4,.int .i64 i,.msl vo 0 1 4] H (AI7 l i e o H) :=
 lO (FZ.cap AB7.c λc h1 h2=>s8 l hl i hi e o vo hov H ho hv c h1 h2)
end Go.AI
namespace Go.AI
open Go.Proofs
set_option maxRecDepth 50000
theorem s9 {H:FR} (l:List E6) (hl:l.length<=9223372036854775807) (g:FuncId) (fi ca:List AV) (p:E6->Bool)
  (h : ∀ x∈l,GJ AA g (fi.map AV.borrow++(.agg x.c::ca.map AV.borrow)) H (.bool (p x))) :
  GJ AA 227 [.sl none (Fe l),.fn (.func g) fi ca] H (.int .i64 (H7 p l)):=by
 unfold GJ
 refine aC ng rfl ?_
 simp only [f227,go_sem]
 refine Fd l (λr=>HL p (l.length - r.length) r) (λk=>[(0,.sl none (Fe l)),(1,.fn (.func g) fi ca),(7,.int .i64 l.length),(8,.int .i64 k)]) hl rfl ?_ ?_
 ·intro k x xs hd hx hF h0 h1 hw
  have hk2:=Fo hd
  have e1:l.length - (xs.length+1)=k:=FQ
  have e2:l.length - xs.length=k+1:=FQ
  simp only [AD,e1,AP] at hF
  simp only [go_sem,h0,h1,Gn hx]
  repeat' (first|(refine aS (h x (AB hx)) ?_;simp only [go_sem])|(first|apply cS|apply gS)<;>intro hc<;>simp only [go_sem,hc,hw,e1,e2])
  ·rw [H7,hF,HL,iP hc]
  ·rw [HL,iN (by rw [hc];decide)]
 ·intro hF hlt
  simp only [go_sem,hlt,dF]
  rw [AP] at hF
  rw [H7,hF];rfl
def uU:E7:={ bF with mt:=[40,67],tk:=25::bF.tk }
@[go_sem] theorem Ac5(k:Nat):uU.lv k=bF.lv k:=AG rfl rfl
set_option linter.defProp false in
@[go_sem] def Adn:=na uU rfl rfl rfl
@[go_sem] theorem Adm:uU.tk=[25,17,23,24,44,51,55,56,81,83,87,94]/\uU.mt=[40,67]/\uU.pc=[67,93]:=⟨rfl,rfl,rfl⟩
theorem AJB:FK AA 321 f321 uU:=⟨kr,kr,func321,kr⟩
theorem s7(e:E6)(vo:Nat)(H:FR)(hv:H[vo]? =some (some e.c)):
  FZ AA 321 [.sl (some 4) [],.int .i64 ((0:Nat):Int),.msl vo 0 1 4] H λv H'=>v = .sl (some 4) [.agg e.c]/\H'=H:=by
 have z1:(((1:Nat):Int)==0)=false:=rfl
 have z0:(((0:Nat):Int)==((0:Nat):Int))=true:=rfl
 have hag:SG AA 139=true:=kr
 have hcz:AA.cellsOf 139=4:=kr
 have hsrc:TS AA 139 true H (.msl vo 0 1 4)=some [.agg e.c]:=by
  have h:=ji (P:=AA) (el:=139) hv (off:=0) (len:=1) (sz:=4) (AU 4) hcz.symm (.inl hag)
  rw [hag] at h
  exact h
 refine aC AJB rfl ?_
 simp only [f321,go_sem,z1,z0,hsrc]
 exact Int.le_refl _
def Qa(l:List E6)(e:E6):List E6:=if bsT l e=true then l.set (YI l e) e else WP l (YI l e) e
theorem WC(l:List E6):(l.map Entry.c).map AV.agg=Fe l:=by
 induction l with
 | nil=>rfl
 | cons x l ih=>rw [AR,AR,ih];rfl
theorem AIh(st:List E6)(hl:st.length<=1073741823)(hk : ∀ y∈st,y.key.length<=1073741824)(e:E6):A' AA 284 [.sl none (Fe st),.agg e.c] (.sl none (Fe (Qa st e))):=by
 have c1:=qv st FQ hk e
 have hle:=ADI st e
 have h0:FZ AA 284 [.sl none (Fe st),.agg e.c] [] λv H'=>AWM 4 ((Qa st e).map Entry.c) v [] H':=by
  refine aN ALe rfl ?_
  simp only [f284,go_sem]
  refine pK c1 ?_
  simp only [go_sem]
  refine Fr.intro (fJ st FQ [some e.c]) λv H' hq=>?_
  have k0:(0:Int)<=((YI st e:Nat):Int):=FQ
  rcases hq with ⟨rfl,rfl,rfl⟩|⟨rfl,rfl⟩
  ·have hb:bsT [] e=false:=rfl
   have hp:YI [] e=0:=rfl
   simp only [go_sem,hb]
   rw [hp]
   refine Fr.intro (s7 e 1 _ rfl) λv H' hq=>?_
   obtain ⟨rfl,rfl⟩:=hq
   simp only [go_sem]
   exact .inr ⟨⟨_,rfl⟩,_,rfl⟩
  ·simp only [go_sem,AD,AH,AS,AO,AY,Nat.reduceAdd]
   cases hb:bsT st e with
   | true =>
    have hlt:YI st e<st.length:=by
     unfold bsT at hb
     split at hb
     ·rename_i y hy;exact (AC.1 hy).1
     ·cases hb
    have k1:((YI st e:Nat):Int)<(st.length:Int):=FQ
    have k2:YI st e*4+4<=(Fk st).length:=by rw [H8];omega
    have k3:splice (Fk st) (YI st e*4) (e.cf none)=Fk (st.set (YI st e) e):=by
     have:=P8 [] hlt e
     rw [Ag,Ag] at this
     exact this
    have k4:Qa st e=st.set (YI st e) e:=by rw [Qa,iP hb]
    simp only [go_sem,k0,k1,k2,k3]
    refine .inl (.inr ⟨2,Fk (st.set (YI st e) e), ?_,sm,⟨_,rfl⟩,rfl,[], ?_⟩)
    ·rw [k4,Aq,An]
    ·rw [k4,Ag];rfl
   | false =>
    have k4:Qa st e=WP st (YI st e) e:=by rw [Qa,iN (by rw [hb];decide)]
    simp only [go_sem]
    refine Fr.intro (AA6 st FQ (YI st e) hle e 2 3 dc _ rfl rfl) λv H' hq=>?_
    obtain ⟨ob,r,rfl,ho,hob,c,ext,rfl⟩:=hq
    simp only [go_sem]
    refine .inl (.inr ⟨ob,_, ?_,sm,⟨_,rfl⟩,ho,r, ?_⟩)
    ·rw [k4,Aq,iB hle]
    ·rw [k4];rfl
 have h1:=qY (n:=4) (es:=(Qa st e).map Entry.c) (λx hx=>by obtain ⟨y,_,rfl⟩:=AN.1 hx;rfl) (λx hx=>by obtain ⟨y,_,rfl⟩:=AN.1 hx;exact y.c_bnd _) (λx hx=>by obtain ⟨y,_,rfl⟩:=AN.1 hx;rfl) h0
 rw [WC] at h1
 refine N2 (h1.mono λv H' h=>h.1) ?_ ?_
 ·simp [FV,AV.pure,Ji,SW]
 ·simp [AV.pure,Ji]
theorem sy(l:List E6)(hl:l.length<=1073741823)(H:FR)(g:FuncId)(ca:List AV)(hca:ca.map AV.borrow=ca)(d:E6->Bool)(hd : ∀ x∈l,∀ J,GJ AA g (.agg x.c::ca) (H++J) (.bool (d x))):
  FZ AA 285 [.sl none (Fe l),.fn (.func g) [] ca] H λv H'=>v = .sl none (Fe (l.filter d))/\H'=H:=by
 have h1 : ∀ x∈l,∀ J,GJ AA 323 [.agg x.c,.ptr H.length 0] (H++some [.fn (.func g) [] ca]::J) (.bool (!d x)):=by
  intro x hx J
  refine FZ.drop rfl ?_
  have c1:=hd x hx (some [.fn (.func g) [] ca]::(J++[some (Entry.c x)]))
  have e1:H++some [.fn (.func g) [] ca]::(J++[some (Entry.c x)])=H++some [.fn (.func g) [] ca]::J++[some (Entry.c x)]:=sm
  rw [e1] at c1
  refine aC AKK rfl ?_
  have g1 : ∀ L,(H++some [AV.fn (.func g) [] ca]::L)[H.length]? =some (some [AV.fn (.func g) [] ca]):=λL=>sm
  have g2 : ∀ X y,(H++X::(J++[y]))[List.length (H++X::J)]? =some y:=λX y=>by
   have:H++X::(J++[y])=(H++X::J)++[y]:=sm
   rw [this];exact BX
  have hc2:(Entry.c x).take 4=Entry.c x:=rfl
  have hc3:(Entry.c x).length=4:=rfl
  simp only [f323,go_sem,g1,g2,hc2,hc3,hca]
  rw [<- e1] at c1
  repeat' (first|(refine aS (c1) ?_;simp only [go_sem])|(first|apply cS|apply gS)<;>intro hc<;>simp only [go_sem,hc,g1,g2])
  exact ⟨_,rfl⟩
 have h0:FZ AA 285 [.sl none (Fe l),.fn (.func g) [] ca] H λv H'=>AIY 4 ((l.filter d).map Entry.c) v H H':=by
  refine aC ALb rfl ?_
  simp only [f285,go_sem]
  refine Fr.intro (fJ l FQ _) λv H' hq=>?_
  rcases hq with ⟨rfl,rfl,rfl⟩|⟨rfl,rfl⟩
  ·simp only [go_sem]
   refine Fr.intro (Xp _ _ _ _ _) λv H' hq=>?_
   obtain ⟨rfl,w2,rfl⟩:=hq
   simp only [go_sem]
   exact .inl ⟨rfl,⟨_,rfl⟩,_,rfl⟩
  ·simp only [go_sem]
   have f2:List.filter (λx => !!d x) l=l.filter d:=sm
   have eo:List.length (H++[some [AV.fn (.func g) [] ca]])+1=H.length+2:=sm
   have eS : ∀ (c:Option (List AV)) (J:FR),(H++[some [AV.fn (.func g) [] ca],none,some (Fk l)]).set (H.length+2) c++J=H++some [.fn (.func g) [] ca]::([none,c]++J):=λc J=>by
    rw [BR _ _ FQ]
    simp
   rw [eo]
   refine Fr.intro (tD l hl [] _ (H.length+2) sm _ [] [.ptr H.length 0] (λx => !d x) λx hx c J=>by rw [eS];exact h1 x hx _) λv H' hq=>?_
   obtain ⟨r,J,rfl,rfl⟩:=hq
   simp only [go_sem,f2,eS]
   refine .inr ⟨H.length+2,Fk (l.filter d)++r, ?_,FQ,⟨_,rfl⟩, ?_,r,rfl⟩
   ·rw [Aq]
   ·simp
 have h2:=qZ (n:=4) (es:=(l.filter d).map Entry.c) (λx hx=>by obtain ⟨y,_,rfl⟩:=AN.1 hx;rfl) (λx hx=>by obtain ⟨y,_,rfl⟩:=AN.1 hx;exact y.c_bnd _) (λx hx=>by obtain ⟨y,_,rfl⟩:=AN.1 hx;rfl) h0
 rwa [WC] at h2
def Xx(st:List E6)(v:ByteArray):List E6:=st.filter λe=>decide (e.var=v)
theorem AHO(l:List E6)(hl:l.length<=1073741823)(v:ByteArray):A' AA 226 [.sl none (Fe l),.str v] (.sl none (Fe (Xx l v))):=by
 have h1 : ∀ x∈l,∀ J,GJ AA 286 [.agg x.c,.ptr 0 0] ([some [.str v]]++J) (.bool (decide (x.var=v))):=by
  intro x hx J
  refine FZ.drop rfl ?_
  refine aC ALY rfl ?_
  simp only [f286,go_sem]
  exact ⟨by rw [FU],_,rfl⟩
 refine pB ANf rfl ?_
 simp only [f226,go_sem]
 refine Fr.intro (sy l hl _ _ _ rfl _ h1) λw H' hq=>?_
 obtain ⟨rfl,rfl⟩:=hq
 simp only [go_sem]
 rfl
def AZl(f:Fld×Bool):Prop:=f.2=true->HB f.1
def zj(l:List Fld)(h:E8)(nm:ByteArray)(n:Int):E8:=if (Fc l nm).2=true then RY (Fc l nm).1 h (if KU (Fc l nm).1<n then KU (Fc l nm).1 else n).toNat else h
theorem WX{l:List Fld}(hl:I0 l)(s:ByteArray):AZl (Fc l s):=λh=>Ij hl h
theorem PV{α:Type}{H:List α}{o:Nat}{x:α}(h:H[o]? =some x):H.set o x=H:=by
 apply A4
 intro j
 rw [Au]
 split
 ·rename_i hj;subst hj;rw [h,iP (AC.1 h).1]
 ·rfl
theorem LN{α:Type}{H:List α}{o:Nat}{x:α}(h:o<H.length)(L:List α):(H++L).set o x=H.set o x++L:=BO _ _ h
theorem Sd{l:List Fld}(hl:I0 l){h:E8}(hr:FX h=true)(nm:ByteArray){n:Int}(hn:0<=n):FX (zj l h nm n)=true:=by
 unfold zj
 split
 ·rename_i hf
  have hg:=WX hl nm hf
  have hm:=Rl hg
  have hp:0<2^fW (Fc l nm).1:=BY _
  refine NT hg ?_ hr
  rw [hm]
  split<;>omega
 ·exact hr
theorem Uy(D:E9)(hl:I0 D.fields)(hln:D.fields.length<=9223372036854775807)(hr:FX D.head=true)(nm:ByteArray)(n:Int)(hn:0<=n)(H:FR)(od:Nat)(o0 o1 o2 o3:Option Nat)(ho:H[od]? =some (some (D.cf o0 o1 o2 o3))):
  FZ AA 225 [.ptr od 0,.str nm,.int .i64 n] H λv H'=>v = .tup [] /\ ∃ ext,H'=H.set od (some (({ D with head:=zj D.fields D.head nm n }:E9).cf o0 o1 o2 o3))++ext:=by
 have hlt:=(AC.1 ho).1
 have c1:=Qd D.fields hln nm
 have q0:=q_0 H
 have g1:=FY ho
 refine aC ANi rfl ?_
 cases hf:(Fc D.fields nm).2 with
 | false =>
  rw [hf] at c1
  simp only [f225,go_sem,ho]
  refine pK c1 ?_
  simp only [go_sem,q0]
  have e1:zj D.fields D.head nm n=D.head:=by unfold zj;rw [iN (by rw [hf];decide)]
  rw [e1,PV ho]
  exact ⟨_,rfl⟩
 | true =>
  rw [hf] at c1
  have hg:=WX hl nm hf
  have hm:=Rl hg
  have c2:=qw (Fc D.fields nm).1 (by have:=hg;unfold HB at this;omega) (by have:=hg;unfold HB at this;omega)
  have hp:0<2^fW (Fc D.fields nm).1:=BY _
  have e1:zj D.fields D.head nm n=RY (Fc D.fields nm).1 D.head (if KU (Fc D.fields nm).1<n then KU (Fc D.fields nm).1 else n).toNat:=by unfold zj;rw [iP hf]
  have e2:(((if KU (Fc D.fields nm).1<n then KU (Fc D.fields nm).1 else n).toNat:Nat):Int)=if KU (Fc D.fields nm).1<n then KU (Fc D.fields nm).1 else n:=Int.toNat_of_nonneg (by rw [hm];split<;>omega)
  have c3:=mO (Fc D.fields nm).1 hg D.head hr (if KU (Fc D.fields nm).1<n then KU (Fc D.fields nm).1 else n).toNat (by rw [hm];split<;>omega)
  rw [e2,<- e1] at c3
  simp only [f225,go_sem,ho]
  refine pK c1 ?_
  simp only [go_sem,g1,q0]
  refine pK c2 ?_
  simp only [go_sem]
  refine pK c3 ?_
  simp only [go_sem,g1]
  rw [LN hlt]
  exact ⟨_,rfl⟩
def Gt(D:E9):E9×Bool:=if D.is=false/\100<=(Xx D.st D.step.var).length then (D,false) else ({ D with st:=Qa D.st D.entry },true)
theorem KX(D:E9):(Gt D).1.fields=D.fields/\(Gt D).1.step=D.step/\(Gt D).1.head=D.head/\(Gt D).1.entry=D.entry:=by
 unfold Gt;split<;>exact ⟨rfl,rfl,rfl,rfl⟩
def d7(od:Nat)(o0 o1 o3:Option Nat)(H:FR)(r:E9×Bool)(v:AV)(H':FR):Prop:=v = .bool r.2 /\ ∃ o2 ext,H'=H.set od (some (r.1.cf o0 o1 o2 o3))++ext
theorem MR(D:E9)(hst:D.st.length<=1073741823)(hk : ∀ y∈D.st,y.key.length<=1073741824)(H:FR)(od:Nat)(o0 o1 o2 o3:Option Nat)(ho:H[od]? =some (some (D.cf o0 o1 o2 o3))):
  FZ AA 224 [.ptr od 0] H (d7 od o0 o1 o3 H (Gt D)):=by
 have hlt:=(AC.1 ho).1
 have c1:=AHO D.st FQ D.step.var
 have c2:=AIh D.st FQ hk D.entry
 refine aC ANl rfl ?_
 cases hi:D.is with
 | true =>
  simp only [f224,go_sem,ho,hi,Av]
  refine pK c2 ?_
  simp only [go_sem,ho]
  have e1:Gt D=({ D with st:=Qa D.st D.entry },true):=by unfold Gt;rw [iN (by rw [hi];simp)]
  rw [e1]
  exact ⟨rfl,none,[],sm⟩
 | false =>
  simp only [f224,go_sem,ho,hi,Aw]
  refine pK c1 ?_
  simp only [go_sem]
  refine cS ?_ ?_<;>intro hc
  ·have e1:Gt D=(D,false):=by unfold Gt;rw [iP ⟨hi,by simp at hc;omega⟩]
   simp only [go_sem,e1]
   exact ⟨rfl,o2,[],by rw [PV ho,Ag]⟩
  ·have e1:Gt D=({ D with st:=Qa D.st D.entry },true):=by unfold Gt;rw [iN (by simp at hc ⊢;omega)]
   simp only [go_sem,ho]
   refine pK c2 ?_
   simp only [go_sem,ho,e1]
   exact ⟨rfl,none,[],by simp [hi]⟩
theorem VT{α:Type}{H:List α}{o:Nat}(h:o<H.length)(x:α)(L:List α):(H.set o x++L)[o]? =some x:=by
 rw [List.getElem?_append_left (by rw [An];exact h)]
 exact A3 h
def AHP(D:E9):E9×Bool:=Gt { D with entry:={ D.entry with at_:=D.tick } }
def bT(D:E9):E9×Bool:=(D,D.is&&decide (IntKind.i64.wrap (D.tick - D.step.n)<=D.entry.at_))
def wrD(r:E9×Bool):E9×Bool:=if r.2=true then ({ r.1 with head:=zj r.1.fields r.1.head r.1.step.field r.1.entry.n },true) else (r.1,false)
def Vv(a b:Int):Int:=if b<a then b else a
def oJ(D:E9):E9×Bool:=wrD (Gt { D with entry:={ D.entry with n:=Vv (D.entry.n+1) 65535,at_:=D.tick } })
def iQ:E7:={ np with pc:=[] }
@[go_sem] theorem Ac9(k:Nat):iQ.lv k=np.lv k/\iQ.ct k=np.ct k/\iQ.at k=np.at k/\iQ.dn k=np.dn k:=⟨AG rfl rfl,AG rfl rfl,AG rfl rfl,AG rfl rfl⟩
@[go_sem] theorem Adr:iQ.tk=[]/\iQ.mt=[]/\iQ.pc=[]:=⟨rfl,rfl,rfl⟩
theorem AJF:FK AA 146 f146 iQ:=⟨kr,kr,func146,kr⟩
def iO:E7:={ no with pc:=[] }
@[go_sem] theorem Ac8(k:Nat):iO.lv k=no.lv k/\iO.ct k=no.ct k/\iO.at k=no.at k/\iO.dn k=no.dn k:=⟨AG rfl rfl,AG rfl rfl,AG rfl rfl,AG rfl rfl⟩
@[go_sem] theorem Adq:iO.tk=[]/\iO.mt=[]/\iO.pc=[]:=⟨rfl,rfl,rfl⟩
theorem AJE:FK AA 147 f147 iO:=⟨kr,kr,func147,kr⟩
section
variable (D:E9) (hl:I0 D.fields) (hln:D.fields.length<=9223372036854775807) (hst:D.st.length<=1073741823) (hk : ∀ y∈D.st,y.key.length<=1073741824) (hr:FX D.head=true) (he:0<=D.entry.n/\D.entry.n<=65535)
variable (H:FR) (od:Nat) (o0 o1 o2 o3:Option Nat) (ho:H[od]? =some (some (D.cf o0 o1 o2 o3)))
include hst hk ho
theorem AFG:FZ AA 147 [.ptr od 0] H (d7 od o0 o1 o3 H (AHP D)):=by
 have hlt:=(AC.1 ho).1
 refine aC AJE rfl ?_
 simp only [f147,go_sem,ho]
 refine Fr.intro (MR { D with entry:={ D.entry with at_:=D.tick } } hst hk _ od o0 o1 o2 o3 (A3 hlt)) λv H' hq=>?_
 obtain ⟨rfl,w,ext,rfl⟩:=hq
 simp only [go_sem]
 exact ⟨rfl,w,ext,by rw [BE];rfl⟩
theorem AA1:FZ AA 148 [.ptr od 0] H (d7 od o0 o1 o3 H (bT D)):=by
 have:=hst
 have:=hk
 have hlt:=(AC.1 ho).1
 refine aC AQK rfl ?_
 cases hi:D.is<;>simp only [f148,go_sem,ho,hi]
 ·exact ⟨by rw [bT,hi];rfl,o2,[],by rw [Ag];exact (PV ho).symm⟩
 ·exact ⟨by rw [bT,hi];rfl,o2,[],by rw [Ag];exact (PV ho).symm⟩
include hl hln hr he
theorem AAy:FZ AA 146 [.ptr od 0] H (d7 od o0 o1 o3 H (oJ D)):=by
 have hlt:=(AC.1 ho).1
 have hw:IntKind.i64.wrap (D.entry.n+1)=D.entry.n+1:=OQ FQ FQ
 refine aC AJF rfl ?_
 have gS : ∀ x,(H.set od x)[od]? =some x:=λx=>A3 hlt
 have gL : ∀ x,od<(H.set od x).length:=λx=>by rw [An];exact hlt
 have sS : ∀ x y,(H.set od x).set od y=H.set od y:=λx y=>BE ..
 simp only [f146,go_sem,ho,hw,gS,sS]
 refine Fr.intro (MR { D with entry:={ D.entry with n:=Vv (D.entry.n+1) 65535,at_:=D.tick } } hst hk _ od o0 o1 o2 o3 (gS _)) λv H' hq=>?_
 obtain ⟨rfl,w,ext,rfl⟩:=hq
 have hD:oJ D=wrD (Gt { D with entry:={ D.entry with n:=Vv (D.entry.n+1) 65535,at_:=D.tick } }):=rfl
 rw [hD]
 have k1:=KX { D with entry:={ D.entry with n:=Vv (D.entry.n+1) 65535,at_:=D.tick } }
 generalize Gt { D with entry:={ D.entry with n:=Vv (D.entry.n+1) 65535,at_:=D.tick } }=r at k1 ⊢
 obtain ⟨D2,b⟩:=r
 obtain ⟨k2,k3,k4,k5⟩:=k1
 dsimp only at k2 k3 k4 k5
 rw [sS]
 cases b with
 | false =>
  simp only [go_sem,Aw]
  exact ⟨rfl,w,ext,rfl⟩
 | true =>
  have hA:=VT hlt (some (D2.cf o0 o1 w o3)) ext
  simp only [go_sem,Av,hA]
  refine Fr.intro (Uy D2 (by rw [k2];exact hl) (by rw [k2];exact hln) (by rw [k4];exact hr) _ _ (by rw [k5];unfold Vv;split<;>simp<;>omega) _ od o0 o1 w o3 hA) λv H' hq=>?_
  obtain ⟨rfl,ext2,rfl⟩:=hq
  simp only [go_sem]
  refine ⟨rfl,w,ext++ext2, ?_⟩
  rw [LN (gL _),sS,AE]
  rfl
end
end Go.AI
namespace Go.AI
open Go.Proofs
set_option maxRecDepth 50000
theorem ZY(U:List Int)(m:Int)(h:m∈U):(U.filter λx=>decide (m+1<=x)).length<(U.filter λx=>decide (m<=x)).length:=by
 have e:U.filter (λx=>decide (m+1<=x))=(U.filter λx=>decide (m<=x)).filter λx => !decide (x=m):=by
  rw [List.filter_filter]
  congr 1
  funext x
  rw [Bool.eq_iff_iff]
  simp
  omega
 rw [e]
 exact List.length_filter_lt_length_iff_exists.2 ⟨m,by simp [h],sm⟩
def K4(U:List Int)(m:Int):Int:=if m∈U then K4 U (m+1) else m
termination_by (U.filter λx=>decide (m<=x)).length
decreasing_by exact ZY U m (by assumption)
theorem ACW{U:List Int}{m:Int}(h:m∈U):K4 U m=K4 U (m+1):=by rw [K4,iP h]
theorem xh{U:List Int}{m:Int}(h:m∉U):K4 U m=m:=by rw [K4,iN h]
theorem ACV(U:List Int)(m B:Int)(hU : ∀ x∈U,x<=B)(hm:m<=B+1):m<=K4 U m/\K4 U m<=B+1:=by
 fun_induction K4 U m with
 | case1 m h ih =>
  have:=hU m h
  have:=ih FQ
  omega
 | case2 m h=>omega
def MD(D:E9):List Int:=(Xx D.st D.step.var).map (·.n)
def NO(D:E9):E9×Bool :=
 if D.is=true then wrD (Gt { D with entry:={ D.entry with at_:=D.tick } })
 else if D.step.m<K4 (MD D) D.step.n then ({ D with entry:={ D.entry with n:=K4 (MD D) D.step.n,at_:=D.tick } },false)
 else wrD (Gt { D with entry:={ D.entry with n:=K4 (MD D) D.step.n,at_:=D.tick } })
def iL:E7:={ nk with pc:=[29] }
@[go_sem] theorem Ac6(k:Nat):iL.lv k=nk.lv k/\iL.ct k=nk.ct k/\iL.at k=nk.at k/\iL.dn k=nk.dn k:=⟨AG rfl rfl,AG rfl rfl,AG rfl rfl,AG rfl rfl⟩
@[go_sem] theorem Ado:iL.tk=[]/\iL.mt=[]/\iL.pc=[29]:=⟨rfl,rfl,rfl⟩
theorem AJC:FK AA 149 f149 iL:=⟨kr,kr,func149,kr⟩
def YC(D:E9)(e:E6):Bool:=decide (e.var=D.step.var)&&(e.n==(Nm (Fc D.fields D.step.field).1 D.head:Nat))
def bkH(l:List Fld)(h:E8)(q:List (ByteArray×Int)):E8:=q.foldl (λh p=>zj l h p.1 p.2) h
def Wy(D:E9):E9×Bool:=match D.st.find? (YC D) with
 | none=>(D,false)
 | some y=>({ D with head:=bkH D.fields D.head (D.step.key.zip y.key) },true)
theorem dV{α β:Type}(x:α){y:β}: ∀ {a:List α} {b:List β},b[a.length]? =some y->(a++[x]).zip b=a.zip b++[(x,y)]
 | [],[],h=>by simp at h
 | [],z::b,h=>by simp at h;subst h;rfl
 | w::a,[],h=>by simp at h
 | w::a,z::b,h=>by
  have h2:b[a.length]? =some y:=by simpa using h
  rw [AS,B5,dV x h2,B5];rfl
theorem Ls{α:Type}(p:α->Bool): ∀ (l:List α) (k:Nat),(HL p k l = -1/\l.find? p=none) \/ ∃ (i:Nat) (y:α),HL p k l=((k+i:Nat):Int)/\l[i]? =some y/\l.find? p=some y
 | [],k => .inl ⟨rfl,rfl⟩
 | x::l,k=>by
  rw [HL]
  by_cases h:p x=true
  ·rw [iP h]
   exact .inr ⟨0,x,rfl,rfl,by rw [Bz,h]⟩
  ·rw [iN h]
   have h2:p x=false:=by simpa using h
   rcases Ls p l (k+1) with ⟨h3,h4⟩|⟨i,y,h3,h4,h5⟩
   ·exact .inl ⟨h3,by rw [Bz,h2];exact h4⟩
   ·exact .inr ⟨i+1,y,by rw [h3];congr 1;omega,h4,by rw [Bz,h2];exact h5⟩
def iR:E7:={ nj with pc:=[19,27] }
@[go_sem] theorem AdA(k:Nat):iR.lv k=nj.lv k/\iR.ct k=nj.ct k/\iR.at k=nj.at k/\iR.dn k=nj.dn k:=⟨AG rfl rfl,AG rfl rfl,AG rfl rfl,AG rfl rfl⟩
@[go_sem] theorem Ads:iR.tk=[]/\iR.mt=[]/\iR.pc=[19,27]:=⟨rfl,rfl,rfl⟩
theorem AJG:FK AA 150 f150 iR:=⟨kr,kr,func150,kr⟩
def QW(s:Stp)(e:E6)(is:Bool)(tick:Int):E6:=if is=true then e else { e with n:=s.n,at_:=tick }
def G8(s:Stp)(e:E6)(tick:Int):Int:=(if 0<tick - e.at_ then tick - e.at_ else 0) / s.m
def QV(s:Stp)(e:E6)(tick:Int):E6:=if s.n<=e.n+G8 s e tick then { e with n:=s.n,at_:=tick } else { e with n:=e.n+G8 s e tick,at_:=e.at_+G8 s e tick*s.m }
def QU(e:E6):E6:=if 0<e.n then { e with n:=e.n - 1 } else e
theorem qd{s:Stp}{e:E6}{tick:Int}(hm:1<=s.m):0<=G8 s e tick/\G8 s e tick*s.m<=(if 0<tick - e.at_ then tick - e.at_ else 0):=by
 unfold G8
 have h0:0<=(if 0<tick - e.at_ then tick - e.at_ else 0):=by split<;>omega
 generalize (if 0<tick - e.at_ then tick - e.at_ else 0)=x at h0 ⊢
 exact ⟨Int.ediv_nonneg h0 FQ,Int.ediv_mul_le _ FQ⟩
theorem Yy{s:Stp}{e:E6}{tick:Int}(hm:1<=s.m/\s.m<=1073741824)(he:0<=e.n/\e.n<=65536)(ht:0<=tick/\tick<=1073741824)(ha:0<=e.at_/\e.at_<=1073741824):
  IntKind.i64.wrap (tick - e.at_)=tick - e.at_/\IntKind.i64.wrap ((if tick - e.at_>0 then tick - e.at_ else 0).tdiv s.m)=G8 s e tick/\IntKind.i64.wrap (e.n+G8 s e tick)=e.n+G8 s e tick/\IntKind.i64.wrap (G8 s e tick*s.m)=G8 s e tick*s.m/\IntKind.i64.wrap (e.at_+G8 s e tick*s.m)=e.at_+G8 s e tick*s.m /\
   0<=G8 s e tick/\G8 s e tick*s.m<=1073741824/\G8 s e tick<=1073741824/\0<=G8 s e tick*s.m:=by
 obtain ⟨p1,p2⟩:=qd (s:=s) (e:=e) (tick:=tick) hm.1
 have p3:(if 0<tick - e.at_ then tick - e.at_ else 0)<=1073741824:=by split<;>omega
 have p4:G8 s e tick<=G8 s e tick*s.m:=by
  have:=Int.mul_le_mul_of_nonneg_left hm.1 p1
  omega
 have p5:(if tick - e.at_>0 then tick - e.at_ else 0).tdiv s.m=G8 s e tick:=by
  unfold G8
  rw [Int.tdiv_eq_ediv_of_nonneg (by split<;>omega)]
 rw [p5]
 exact ⟨OQ FQ FQ,OQ FQ FQ,OQ FQ FQ,OQ FQ FQ,OQ FQ FQ,p1,FQ,FQ,FQ⟩
def iM:E7:={ M1 with pc:=[] }
@[go_sem] theorem Ac7(k:Nat):iM.lv k=M1.lv k/\iM.ct k=M1.ct k/\iM.at k=M1.at k/\iM.dn k=M1.dn k:=⟨AG rfl rfl,AG rfl rfl,AG rfl rfl,AG rfl rfl⟩
@[go_sem] theorem Adp:iM.tk=[]/\iM.mt=[]/\iM.pc=[]:=⟨rfl,rfl,rfl⟩
theorem AJD:FK AA 151 f151 iM:=⟨kr,kr,func151,kr⟩
def JT(D:E9):E9×Bool :=
 let e2:=QV D.step (QW D.step D.entry D.is D.tick) D.tick
 let r:=Gt { D with entry:=QU e2 }
 (r.1,r.2&&decide (0<e2.n))
section
variable (D:E9) (hl:I0 D.fields) (hln:D.fields.length<=9223372036854775807) (hst:D.st.length<=1073741823) (hk : ∀ y∈D.st,y.key.length<=1073741824) (hr:FX D.head=true) (he:0<=D.entry.n/\D.entry.n<=65535)
variable (H:FR) (od:Nat) (o0 o1 o2 o3:Option Nat) (ho:H[od]? =some (some (D.cf o0 o1 o2 o3)))
include hst hk ho hl hln hr he
theorem aK(hn:0<=D.step.n/\D.step.n<=65536)(hen : ∀ y∈D.st,y.n<=65535):FZ AA 149 [.ptr od 0] H (d7 od o0 o1 o3 H (NO D)):=by
 have hlt:=(AC.1 ho).1
 have gS : ∀ x,(H.set od x)[od]? =some x:=λx=>A3 hlt
 have gL : ∀ x,od<(H.set od x).length:=λx=>by rw [An];exact hlt
 have sS : ∀ x y,(H.set od x).set od y=H.set od y:=λx y=>BE ..
 have gA : ∀ x L,(H.set od x++L)[od]? =some x:=λx L=>VT hlt x L
 have sA : ∀ x L y,(H.set od x++L).set od y=H.set od y++L:=λx L y=>by rw [LN (gL _),sS]
 refine aC AJC rfl ?_
 cases hi:D.is with
 | true =>
  have e1:NO D=wrD (Gt { D with entry:={ D.entry with at_:=D.tick },is:=true }):=by unfold NO;rw [iP hi,<- hi]
  rw [e1]
  simp only [f149,go_sem,ho,gS,hi,Av]
  have hEnd : ∀ (x:Option (List AV)) ext,(H.set od (some (({ D with entry:={ D.entry with at_:=D.tick },is:=true }:E9).cf o0 o1 o2 o3))).set od x++ext=H.set od x++([]++ext):=λx ext=>by rw [sS,AO]
  refine Fr.intro (MR ({ D with entry:={ D.entry with at_:=D.tick },is:=true }:E9) hst hk _ od o0 o1 o2 o3 (gS _)) λv H' hq=>?_
  obtain ⟨rfl,w,ext,rfl⟩:=hq
  have k1:=KX ({ D with entry:={ D.entry with at_:=D.tick },is:=true }:E9)
  have kn:0<=({ D with entry:={ D.entry with at_:=D.tick },is:=true }:E9).entry.n:=he.1
  generalize Gt ({ D with entry:={ D.entry with at_:=D.tick },is:=true }:E9)=r at k1 ⊢
  obtain ⟨D2,b⟩:=r
  obtain ⟨k2,k3,k4,k5⟩:=k1
  dsimp only at k2 k3 k4 k5 kn
  cases b with
  | false =>
   simp only [go_sem,Aw]
   exact ⟨rfl,w,_,hEnd _ _⟩
  | true =>
   rw [hEnd]
   simp only [go_sem,Av,gA]
   refine Fr.intro (Uy D2 (by rw [k2];exact hl) (by rw [k2];exact hln) (by rw [k4];exact hr) _ _ (by rw [k5];exact kn) _ od o0 o1 w o3 (gA _ _)) λv H' hq=>?_
   obtain ⟨rfl,ext2,rfl⟩:=hq
   simp only [go_sem]
   refine ⟨rfl,w,([]:FR)++ext++ext2, ?_⟩
   rw [sA,<- AE]
   rfl
 | false =>
  simp only [f149,go_sem,ho,gS,gA,hi,Aw]
  refine pK (AHO D.st FQ D.step.var) ?_
  simp only [go_sem]
  have hint:AA.underlying 3=some (.int .i64):=by simp only [go_sem]
  have hln2:(Xx D.st D.step.var).length<=D.st.length:=Cw _ _
  have gM : ∀ x y L,(H.set od x++y::L)[H.length]? =some y:=λx y L=>by
   rw [AM sm];simp
  have sM : ∀ x y L z,(H.set od x++y::L).set H.length z=H.set od x++z::L:=λx y L z=>by
   rw [BR _ _ sm];simp
  have gN : ∀ x y L z,(H.set od x++y::(L++[z]))[List.length (H.set od x++y::L)]? =some z:=λx y L z=>by
   have:H.set od x++y::(L++[z])=(H.set od x++y::L)++[z]:=sm
   rw [this];exact BX
  have sN : ∀ x y L z z2,(H.set od x++y::(L++[z])).set (List.length (H.set od x++y::L)) z2=H.set od x++y::(L++[z2]):=λx y L z z2=>by
   have:H.set od x++y::(L++[z])=(H.set od x++y::L)++[z]:=sm
   rw [this];simp
  refine Fq (Xx D.st D.step.var) (λ(_:List Int×FR) (_:List E6)=>()) (λk s=>R6 Jq s.1 /\ ∀ x,x∈s.1↔x∈((Xx D.st D.step.var).take k).map (·.n)) (λk _=>[(0,.ptr od 0),(3,.mapr H.length),(29,.sl none (Fe (Xx D.st D.step.var))),(30,.int .i64 (Xx D.st D.step.var).length),(31,.int .i64 k)])
   (λ_ s=>H.set od (some (({ D with entry:={ D.entry with at_:=D.tick },is:=false }:E9).cf o0 o1 o2 o3))++some (J0 (LO Jq s.1))::s.2) ([],[]) FQ ⟨trivial,λx=>sm⟩ ?_ rfl ?_ ?_
  ·rw [An];rfl
  ·rintro k ⟨B,L⟩ x xs hd hx hI _ h0 h1 hw
   dsimp only at hI ⊢
   have hc2:(Entry.c x).take 4=Entry.c x:=rfl
   have hc3:(Entry.c x).length=4:=rfl
   have hc4:(Entry.c x)[2]? =some (.int .i64 x.n):=rfl
   have htk:(Xx D.st D.step.var).take (k+1)=(Xx D.st D.step.var).take k++[x]:=by rw [BF,hx];rfl
   simp only [go_sem,h0,h1,Gn hx,gN,sN,hc2,hc3,hc4]
   refine sO (kt:=3) (et:=4) B x.n (by first|simp only [go_sem]|kernel_rfl) (gM _ _ _) (WH hint λa ha=>by
    rcases AW.1 ha with rfl|ha
    ·exact ⟨_,rfl⟩
    ·obtain ⟨z,_,rfl⟩:=AN.1 ha;exact ⟨_,rfl⟩) hI.1 ?_
   simp only [go_sem,hw,sM]
   refine ⟨(if B.any (λz=>z==x.n) then B else B++[x.n],L++[some (Entry.c x)]),⟨ACs _ hI.1,λy=>?_⟩,rfl,rfl⟩
   rw [htk,Ap,Ar,<- hI.2 y,AR,List.map_nil,Ab]
   dsimp only
   split
   ·rename_i hany
    have:x.n∈B:=by simpa using hany
    exact ⟨.inl,λh=>h.elim id λh=>h▸this⟩
   ·rw [Ar,Ab]
  ·rintro ⟨B,L⟩ hI _
   dsimp only at hI ⊢
   rw [BI] at hI
   have hU : ∀ x,x∈B↔x∈MD D:=hI.2
   have hUB : ∀ x∈MD D,x<=65535:=λx hx=>by
    obtain ⟨y,hy,rfl⟩:=AN.1 hx
    exact hen y (CY.1 hy).1
   simp only [go_sem,AX,dF,gA,sA]
   refine Km (σ:=Int) (λ_=>[(0,.ptr od 0),(3,.mapr H.length)])
    (λm=>H.set od (some (({ D with entry:={ D.entry with n:=m,at_:=D.tick },is:=false }:E9).cf o0 o1 o2 o3))++some (J0 (LO Jq B))::L) (λm=>0<=m/\m<=65536/\K4 (MD D) D.step.n=K4 (MD D) m) (λm=>((MD D).filter λx=>decide (m<=x)).length) D.step.n ⟨hn.1,hn.2,rfl⟩ rfl rfl ?_
   rintro m ⟨m0,m1,m2⟩
   have hwm:IntKind.i64.wrap (m+1)=m+1:=OQ FQ FQ
   simp only [go_sem,gA]
   refine ABZ (kt:=3) (et:=4) Jq B (Jq m) (by first|simp only [go_sem]|kernel_rfl) (by first|simp only [go_sem]|kernel_rfl) (gM _ _ _) (WH hint λa ha=>by
    rcases AW.1 ha with rfl|ha
    ·exact ⟨_,rfl⟩
    ·obtain ⟨z,_,rfl⟩:=AN.1 ha;exact ⟨_,rfl⟩) hI.1 ?_
   rw [rn]
   simp only [go_sem]
   refine cS ?_ ?_<;>intro hc
   ·have hm:m∈MD D:=(hU m).1 (by simpa using hc)
    have:=hUB m hm
    simp only [go_sem,gA,sA,hwm]
    exact ⟨m+1,⟨FQ,FQ,by rw [m2,ACW hm]⟩,ZY _ _ hm,rfl,rfl⟩
   ·have hm:m∉MD D:=λh=>by
     have:=(hU m).2 h
     simp at hc
     exact hc m this rfl
    have hf:K4 (MD D) D.step.n=m:=by rw [m2,xh hm]
    simp only [go_sem,gA]
    refine cS ?_ ?_<;>intro hc2
    ·have hlt2:D.step.m<m:=by simpa using hc2
     have e1:NO D=({ D with entry:={ D.entry with n:=m,at_:=D.tick },is:=false },false):=by unfold NO;rw [iN (by rw [hi];decide),hf,iP hlt2,<- hi]
     rw [e1]
     simp only [go_sem]
     exact ⟨rfl,o2,_,rfl⟩
    ·have hlt2 : ¬ D.step.m<m:=by simpa using hc2
     have e1:NO D=wrD (Gt { D with entry:={ D.entry with n:=m,at_:=D.tick },is:=false }):=by unfold NO;rw [iN (by rw [hi];decide),hf,iN hlt2,<- hi]
     rw [e1]
     have hEnd : ∀ (x:Option (List AV)) ext,(H.set od (some (({ D with entry:={ D.entry with n:=m,at_:=D.tick },is:=false }:E9).cf o0 o1 o2 o3))++some (J0 (LO Jq B))::L).set od x++ext=H.set od x++((some (J0 (LO Jq B))::L)++ext):=λx ext=>by rw [sA,AE]
     simp only [go_sem]
     refine Fr.intro (MR ({ D with entry:={ D.entry with n:=m,at_:=D.tick },is:=false }:E9) hst hk _ od o0 o1 o2 o3 (gA _ _)) λv H' hq=>?_
     obtain ⟨rfl,w,ext,rfl⟩:=hq
     have k1:=KX ({ D with entry:={ D.entry with n:=m,at_:=D.tick },is:=false }:E9)
     have kn:0<=({ D with entry:={ D.entry with n:=m,at_:=D.tick },is:=false }:E9).entry.n:=m0
     generalize Gt ({ D with entry:={ D.entry with n:=m,at_:=D.tick },is:=false }:E9)=r at k1 ⊢
     obtain ⟨D2,b⟩:=r
     obtain ⟨k2,k3,k4,k5⟩:=k1
     dsimp only at k2 k3 k4 k5 kn
     cases b with
     | false =>
      simp only [go_sem,Aw]
      exact ⟨rfl,w,_,hEnd _ _⟩
     | true =>
      rw [hEnd]
      simp only [go_sem,Av,gA]
      refine Fr.intro (Uy D2 (by rw [k2];exact hl) (by rw [k2];exact hln) (by rw [k4];exact hr) _ _ (by rw [k5];exact kn) _ od o0 o1 w o3 (gA _ _)) λv H' hq=>?_
      obtain ⟨rfl,ext2,rfl⟩:=hq
      simp only [go_sem]
      refine ⟨rfl,w,(some (J0 (LO Jq B))::L)++ext++ext2, ?_⟩
      rw [sA,<- AE]
      rfl
omit hk he in
theorem AFM(hf:(Fc D.fields D.step.field).2=true)(hkl : ∀ y∈D.st,y.var=D.step.var->D.step.key.length<=y.key.length)(hkp : ∀ y∈D.st,∀ x∈y.key,0<=x)(hskl:D.step.key.length<=1048576):FZ AA 150 [.ptr od 0] H (d7 od o0 o1 o3 H (Wy D)):=by
 have hlt:=(AC.1 ho).1
 have gS : ∀ x,(H.set od x)[od]? =some x:=λx=>A3 hlt
 have gL : ∀ x,od<(H.set od x).length:=λx=>by rw [An];exact hlt
 have sS : ∀ x y,(H.set od x).set od y=H.set od y:=λx y=>BE ..
 have gA : ∀ x L,(H.set od x++L)[od]? =some x:=λx L=>VT hlt x L
 have sA : ∀ x L y,(H.set od x++L).set od y=H.set od y++L:=λx L y=>by rw [LN (gL _),sS]
 have g1:=FY ho
 have hg:=Ij hl hf
 have c1:=Qd D.fields hln D.step.field
 have c2:=mP (Fc D.fields D.step.field).1 hg D.head hr
 have q0:=q_0 H
 have gB : ∀ y L,(H++y::L)[H.length]? =some y:=λy L=>sm
 have gB1 : ∀ x y L,(H++x::y::L)[H.length+1]? =some y:=λx y L=>sm
 have gB2 : ∀ x y z L,(H++x::y::z::L)[H.length+2]? =some z:=λx y z L=>sm
 have gB3 : ∀ x y z a L,(H++x::y::z::a::L)[H.length+3]? =some a:=λx y z a L=>sm
 have sB1 : ∀ x y a,(H++[x,y]).set (H.length+1) a=H++[x,a]:=λx y a=>sm
 have sB2 : ∀ x y z a,(H++[x,y,z]).set (H.length+2) a=H++[x,y,a]:=λx y z a=>sm
 refine aC AJG rfl ?_
 simp only [f150,go_sem,g1,gB,AY,Nat.reduceAdd]
 refine pK c1 ?_
 simp only [go_sem,g1,gB,gB1,sB1,AF,AD,AH,AY,Nat.reduceAdd]
 refine pK c2 ?_
 simp only [go_sem,g1,gB,gB2,sB2,AF,AD,AH,AY,Nat.reduceAdd]
 have k1 : ∀ x∈D.st,GJ AA 228 ([].map AV.borrow++(.agg x.c::[AV.ptr H.length 0,.ptr (H.length+2) 0].map AV.borrow)) (H++[some [.ptr od 0],some (Fc D.fields D.step.field).1.c,some [.int .i64 (Nm (Fc D.fields D.step.field).1 D.head:Nat)]]) (.bool (YC D x)):=by
  intro x hx
  refine FZ.drop rfl ?_
  have hc3:(Entry.c x).length=4:=rfl
  have hc4:(Entry.c x)[0]? =some (.str x.var):=rfl
  have hc5:(Entry.c x)[2]? =some (.int .i64 x.n):=rfl
  refine aC ANa rfl ?_
  cases hv:decide (x.var=D.step.var) with
  | true =>
   simp only [f228,go_sem,g1,gB,gB2,gB3,hc4,hc5,AF,AD,AH,AY,Nat.reduceAdd,FU,hv]
   exact ⟨by rw [YC,hv,Bool.true_and],_,rfl⟩
  | false =>
   simp only [f228,go_sem,g1,gB,gB3,hc4,AF,AD,AH,AY,Nat.reduceAdd,FU,hv]
   exact ⟨by rw [YC,hv,Bool.false_and],_,rfl⟩
 refine aS (s9 D.st FQ _ [] _ (YC D) k1) ?_
 simp only [go_sem]
 rcases Ls (YC D) D.st 0 with ⟨h3,h4⟩|⟨i,y,h3,h4,h5⟩
 ·have e1:Wy D=(D,false):=by unfold Wy;rw [h4]
  have e2:H7 (YC D) D.st = -1:=h3
  rw [e1,e2]
  simp only [go_sem]
  exact ⟨rfl,o2,_,by rw [PV ho]⟩
 ·have e1:Wy D=({ D with head:=bkH D.fields D.head (D.step.key.zip y.key) },true):=by unfold Wy;rw [h5]
  have e2:H7 (YC D) D.st=(i:Int):=by rw [H7,h3,AY]
  have hym:=AB h4
  have hyb:YC D y=true:=Du h5
  have hyv:y.var=D.step.var:=by unfold YC at hyb;rw [AQ,decide_eq_true_eq] at hyb;exact hyb.1
  have hyl:=hkl y hym hyv
  have i0 : ¬ ((i:Int)<0):=FQ
  have i1:(0:Int)<=(i:Int):=FQ
  rw [e1,e2]
  simp only [go_sem,i0,dF,g1,gB]
  refine Fq D.step.key (λ(_:E8×FR) (_:List ByteArray)=>()) (λk s=>s.1=bkH D.fields D.head ((D.step.key.take k).zip y.key)/\FX s.1=true) (λk _=>[(1,.ptr H.length 0),(6,.int .i64 (i:Int)),(40,.sl none (HA D.step.key)),(41,.int .i64 D.step.key.length),(42,.int .i64 k)])
   (λ_ s=>H.set od (some (({ D with head:=s.1 }:E9).cf o0 o1 o2 o3))++some [.ptr od 0]::s.2) (D.head,[some (Fc D.fields D.step.field).1.c,some [.int .i64 (Nm (Fc D.fields D.step.field).1 D.head:Nat)]]) FQ ⟨rfl,hr⟩ rfl (by rw [PV ho]) ?_ ?_
  ·rintro k ⟨h,L⟩ x xs hd hx ⟨hI,hrh⟩ _ h0 h1 hw
   dsimp only at hI hrh ⊢
   have hkl2:k<y.key.length:=FQ
   have hyk:y.key[k]? =some y.key[k]:=AL hkl2
   have h12:(k:Int)<(y.key.length:Int):=FQ
   have h22:(i:Int)<(D.st.length:Int):=by have:=(AC.1 h4).1;omega
   have gM : ∀ x y L,(H.set od x++y::L)[H.length]? =some y:=λx y L=>by
    rw [AM sm];simp
   simp only [go_sem,h0,h1,Gj hx,gA,gM,i1,Gn h4,Gk hyk]
   have hn0:0<=y.key[k]:=hkp y hym _ (Cb hkl2)
   refine Fr.intro (Uy { D with head:=h } hl hln hrh x y.key[k] hn0 _ od o0 o1 o2 o3 (gA _ _)) λv H' hq=>?_
   obtain ⟨rfl,ext,rfl⟩:=hq
   have htk:(D.step.key.take (k+1)).zip y.key=(D.step.key.take k).zip y.key++[(x,y.key[k])]:=by
    rw [BF,hx]
    have hkk:(D.step.key.take k).length=k:=by rw [BD];omega
    exact dV x (by rw [hkk];exact hyk)
   simp only [go_sem,hw]
   refine ⟨(zj D.fields h x y.key[k],L++ext),⟨?_,Sd hl hrh _ hn0⟩,rfl, ?_⟩
   ·show zj D.fields h x y.key[k]=_
    rw [htk]
    unfold bkH at hI ⊢
    rw [List.foldl_append,<- hI];rfl
   ·rw [sA];simp
  ·rintro ⟨h,L⟩ ⟨hI,hrh⟩ _
   dsimp only at hI hrh ⊢
   rw [BI] at hI
   simp only [go_sem,AX,dF]
   exact ⟨rfl,o2,_,by rw [hI]⟩
omit hl hln hr in
theorem AAm(hm:1<=D.step.m/\D.step.m<=1073741824)(hn:0<=D.step.n/\D.step.n<=65536)(ht:0<=D.tick/\D.tick<=1073741824)(hat:0<=D.entry.at_/\D.entry.at_<=1073741824):FZ AA 151 [.ptr od 0] H (d7 od o0 o1 o3 H (JT D)):=by
 have hlt:=(AC.1 ho).1
 have gS : ∀ x,(H.set od x)[od]? =some x:=λx=>A3 hlt
 have gL : ∀ x,od<(H.set od x).length:=λx=>by rw [An];exact hlt
 have sS : ∀ x y,(H.set od x).set od y=H.set od y:=λx y=>BE ..
 have gA : ∀ x L,(H.set od x++L)[od]? =some x:=λx L=>VT hlt x L
 have sA : ∀ x L y,(H.set od x++L).set od y=H.set od y++L:=λx L y=>by rw [LN (gL _),sS]
 have g1:=FY ho
 have gB : ∀ y L,(H++y::L)[H.length]? =some y:=λy L=>sm
 have q0:=q_0 H
 have s1 : ∀ (L:FR) y,(H++L).set od y=H.set od y++L:=λL y=>LN hlt L
 have gM : ∀ x y L,(H.set od x++y::L)[H.length]? =some y:=λx y L=>by
  rw [AM sm];simp
 have m0 : ¬ D.step.m=0:=FQ
 refine aC AJD rfl ?_
 cases hi:D.is with
 | true =>
  obtain ⟨f1,f2,f3,f4,f5,f6,f7,f8,f9⟩:=Yy (s:=D.step) (e:=D.entry) (tick:=D.tick) hm FQ ht hat
  simp only [f151,go_sem,ho,g1,gB,hi,Av,f1,f2,f3,m0]
  have eT:QW D.step D.entry D.is D.tick=D.entry:=by unfold QW;rw [iP hi]
  refine cS ?_ ?_<;>intro hc
  ·have hc:=of_decide_eq_true hc
   have eE:QV D.step (QW D.step D.entry D.is D.tick) D.tick={ D.entry with n:=D.step.n,at_:=D.tick }:=by rw [eT];unfold QV;rw [iP hc]
   simp only [go_sem,g1,gB,s1,gA,sA]
   refine cS ?_ ?_<;>intro hp
   ·have hp2:0<(({ D.entry with n:=D.step.n,at_:=D.tick }:E6)).n:=of_decide_eq_true hp
    have hwn:IntKind.i64.wrap (D.step.n - 1)=D.step.n - 1:=OQ (by dsimp only at hp2;omega) FQ
    have e3:QU (({ D.entry with n:=D.step.n,at_:=D.tick }:E6))={ ({ D.entry with n:=D.step.n,at_:=D.tick }:E6) with n:=D.step.n - 1 }:=by unfold QU;rw [iP hp2]
    have e4:JT D=((Gt ({ D with entry:={ ({ D.entry with n:=D.step.n,at_:=D.tick }:E6) with n:=D.step.n - 1 },is:=D.is }:E9)).1,(Gt ({ D with entry:={ ({ D.entry with n:=D.step.n,at_:=D.tick }:E6) with n:=D.step.n - 1 },is:=D.is }:E9)).2&&true):=by
     unfold JT;dsimp only;rw [eE,e3,hp]
    simp only [go_sem,gA,sA,hwn]
    refine Fr.intro (MR ({ D with entry:={ ({ D.entry with n:=D.step.n,at_:=D.tick }:E6) with n:=D.step.n - 1 },is:=D.is }:E9) hst hk _ od o0 o1 o2 o3 (gA _ _)) λv H' hq=>?_
    obtain ⟨rfl,w,ext,rfl⟩:=hq
    rw [e4]
    generalize Gt ({ D with entry:={ ({ D.entry with n:=D.step.n,at_:=D.tick }:E6) with n:=D.step.n - 1 },is:=D.is }:E9)=r
    obtain ⟨D2,b⟩:=r
    cases b<;>simp only [go_sem,hp]
    ·exact ⟨rfl,w,[some (D.step.cf none)]++ext,by rw [sA,AE]⟩
    ·exact ⟨rfl,w,[some (D.step.cf none)]++ext,by rw [sA,AE]⟩
   ·have hp2 : ¬ 0<(({ D.entry with n:=D.step.n,at_:=D.tick }:E6)).n:=of_decide_eq_false hp
    have e3:QU (({ D.entry with n:=D.step.n,at_:=D.tick }:E6))=({ D.entry with n:=D.step.n,at_:=D.tick }:E6):=by unfold QU;rw [iN hp2]
    have e4:JT D=((Gt ({ D with entry:=({ D.entry with n:=D.step.n,at_:=D.tick }:E6),is:=D.is }:E9)).1,(Gt ({ D with entry:=({ D.entry with n:=D.step.n,at_:=D.tick }:E6),is:=D.is }:E9)).2&&false):=by
     unfold JT;dsimp only;rw [eE,e3,hp]
    simp only [go_sem]
    refine Fr.intro (MR ({ D with entry:=({ D.entry with n:=D.step.n,at_:=D.tick }:E6),is:=D.is }:E9) hst hk _ od o0 o1 o2 o3 (gA _ _)) λv H' hq=>?_
    obtain ⟨rfl,w,ext,rfl⟩:=hq
    rw [e4]
    generalize Gt ({ D with entry:=({ D.entry with n:=D.step.n,at_:=D.tick }:E6),is:=D.is }:E9)=r
    obtain ⟨D2,b⟩:=r
    cases b<;>simp only [go_sem,hp]
    ·exact ⟨rfl,w,[some (D.step.cf none)]++ext,by rw [sA,AE]⟩
    ·exact ⟨rfl,w,[some (D.step.cf none)]++ext,by rw [sA,AE]⟩
  ·have hc:=of_decide_eq_false hc
   have eE:QV D.step (QW D.step D.entry D.is D.tick) D.tick={ D.entry with n:=D.entry.n+G8 D.step D.entry D.tick,at_:=D.entry.at_+G8 D.step D.entry D.tick*D.step.m }:=by rw [eT];unfold QV;rw [iN hc]
   rw [HT _ _ _ (by simp only [go_sem]) rfl rfl]
   simp only [go_sem,g1,gB,s1,gA,sA,f3,f4,f5]
   refine ⟨Lw [(some (78,1,false),some (83,1,true))] kr ?_, ?_⟩
   ·intro q hq
    rw [Ab.1 hq]
    exact ⟨.inr rfl,.inl FQ⟩
   simp only [go_sem,gA]
   refine cS ?_ ?_<;>intro hp
   ·have hp2:0<(({ D.entry with n:=D.entry.n+G8 D.step D.entry D.tick,at_:=D.entry.at_+G8 D.step D.entry D.tick*D.step.m }:E6)).n:=of_decide_eq_true hp
    have hwn:IntKind.i64.wrap ((D.entry.n+G8 D.step D.entry D.tick) - 1)=(D.entry.n+G8 D.step D.entry D.tick) - 1:=OQ (by dsimp only at hp2;omega) FQ
    have e3:QU (({ D.entry with n:=D.entry.n+G8 D.step D.entry D.tick,at_:=D.entry.at_+G8 D.step D.entry D.tick*D.step.m }:E6))={ ({ D.entry with n:=D.entry.n+G8 D.step D.entry D.tick,at_:=D.entry.at_+G8 D.step D.entry D.tick*D.step.m }:E6) with n:=(D.entry.n+G8 D.step D.entry D.tick) - 1 }:=by unfold QU;rw [iP hp2]
    have e4:JT D=((Gt ({ D with entry:={ ({ D.entry with n:=D.entry.n+G8 D.step D.entry D.tick,at_:=D.entry.at_+G8 D.step D.entry D.tick*D.step.m }:E6) with n:=(D.entry.n+G8 D.step D.entry D.tick) - 1 },is:=D.is }:E9)).1,(Gt ({ D with entry:={ ({ D.entry with n:=D.entry.n+G8 D.step D.entry D.tick,at_:=D.entry.at_+G8 D.step D.entry D.tick*D.step.m }:E6) with n:=(D.entry.n+G8 D.step D.entry D.tick) - 1 },is:=D.is }:E9)).2&&true):=by
     unfold JT;dsimp only;rw [eE,e3,hp]
    simp only [go_sem,gA,sA,hwn]
    refine Fr.intro (MR ({ D with entry:={ ({ D.entry with n:=D.entry.n+G8 D.step D.entry D.tick,at_:=D.entry.at_+G8 D.step D.entry D.tick*D.step.m }:E6) with n:=(D.entry.n+G8 D.step D.entry D.tick) - 1 },is:=D.is }:E9) hst hk _ od o0 o1 o2 o3 (gA _ _)) λv H' hq=>?_
    obtain ⟨rfl,w,ext,rfl⟩:=hq
    rw [e4]
    generalize Gt ({ D with entry:={ ({ D.entry with n:=D.entry.n+G8 D.step D.entry D.tick,at_:=D.entry.at_+G8 D.step D.entry D.tick*D.step.m }:E6) with n:=(D.entry.n+G8 D.step D.entry D.tick) - 1 },is:=D.is }:E9)=r
    obtain ⟨D2,b⟩:=r
    cases b<;>simp only [go_sem,hp]
    ·exact ⟨rfl,w,[some (D.step.cf none)]++ext,by rw [sA,AE]⟩
    ·exact ⟨rfl,w,[some (D.step.cf none)]++ext,by rw [sA,AE]⟩
   ·have hp2 : ¬ 0<(({ D.entry with n:=D.entry.n+G8 D.step D.entry D.tick,at_:=D.entry.at_+G8 D.step D.entry D.tick*D.step.m }:E6)).n:=of_decide_eq_false hp
    have e3:QU (({ D.entry with n:=D.entry.n+G8 D.step D.entry D.tick,at_:=D.entry.at_+G8 D.step D.entry D.tick*D.step.m }:E6))=({ D.entry with n:=D.entry.n+G8 D.step D.entry D.tick,at_:=D.entry.at_+G8 D.step D.entry D.tick*D.step.m }:E6):=by unfold QU;rw [iN hp2]
    have e4:JT D=((Gt ({ D with entry:=({ D.entry with n:=D.entry.n+G8 D.step D.entry D.tick,at_:=D.entry.at_+G8 D.step D.entry D.tick*D.step.m }:E6),is:=D.is }:E9)).1,(Gt ({ D with entry:=({ D.entry with n:=D.entry.n+G8 D.step D.entry D.tick,at_:=D.entry.at_+G8 D.step D.entry D.tick*D.step.m }:E6),is:=D.is }:E9)).2&&false):=by
     unfold JT;dsimp only;rw [eE,e3,hp]
    simp only [go_sem]
    refine Fr.intro (MR ({ D with entry:=({ D.entry with n:=D.entry.n+G8 D.step D.entry D.tick,at_:=D.entry.at_+G8 D.step D.entry D.tick*D.step.m }:E6),is:=D.is }:E9) hst hk _ od o0 o1 o2 o3 (gA _ _)) λv H' hq=>?_
    obtain ⟨rfl,w,ext,rfl⟩:=hq
    rw [e4]
    generalize Gt ({ D with entry:=({ D.entry with n:=D.entry.n+G8 D.step D.entry D.tick,at_:=D.entry.at_+G8 D.step D.entry D.tick*D.step.m }:E6),is:=D.is }:E9)=r
    obtain ⟨D2,b⟩:=r
    cases b<;>simp only [go_sem,hp]
    ·exact ⟨rfl,w,[some (D.step.cf none)]++ext,by rw [sA,AE]⟩
    ·exact ⟨rfl,w,[some (D.step.cf none)]++ext,by rw [sA,AE]⟩
 | false =>
  obtain ⟨f1,f2,f3,f4,f5,f6,f7,f8,f9⟩:=Yy (s:=D.step) (e:={ D.entry with n:=D.step.n,at_:=D.tick }) (tick:=D.tick) hm (by dsimp only;omega) ht (by dsimp only;omega)
  dsimp only at f1 f2 f3 f4 f5 f6 f7 f8 f9
  have hcc:D.step.n<=D.step.n+G8 D.step { D.entry with n:=D.step.n,at_:=D.tick } D.tick:=Int.le_add_of_nonneg_right f6
  have eE:QV D.step (QW D.step D.entry D.is D.tick) D.tick={ D.entry with n:=D.step.n,at_:=D.tick }:=by unfold QW;rw [iN (by rw [hi];decide)];unfold QV;rw [iP hcc]
  simp only [f151,go_sem,ho,g1,gB,hi,Aw,s1,gA,sA,gM,f1,f2,f3,m0,hcc,dT]
  refine cS ?_ ?_<;>intro hp
  ·have hp2:0<(({ D.entry with n:=D.step.n,at_:=D.tick }:E6)).n:=of_decide_eq_true hp
   have hwn:IntKind.i64.wrap (D.step.n - 1)=D.step.n - 1:=OQ (by dsimp only at hp2;omega) FQ
   have e3:QU (({ D.entry with n:=D.step.n,at_:=D.tick }:E6))={ ({ D.entry with n:=D.step.n,at_:=D.tick }:E6) with n:=D.step.n - 1 }:=by unfold QU;rw [iP hp2]
   have e4:JT D=((Gt ({ D with entry:={ ({ D.entry with n:=D.step.n,at_:=D.tick }:E6) with n:=D.step.n - 1 },is:=false }:E9)).1,(Gt ({ D with entry:={ ({ D.entry with n:=D.step.n,at_:=D.tick }:E6) with n:=D.step.n - 1 },is:=false }:E9)).2&&true):=by
    unfold JT;dsimp only;rw [eE,e3,hp,hi]
   simp only [go_sem,gA,sA,hwn]
   refine Fr.intro (MR ({ D with entry:={ ({ D.entry with n:=D.step.n,at_:=D.tick }:E6) with n:=D.step.n - 1 },is:=false }:E9) hst hk _ od o0 o1 o2 o3 (gA _ _)) λv H' hq=>?_
   obtain ⟨rfl,w,ext,rfl⟩:=hq
   rw [e4]
   generalize Gt ({ D with entry:={ ({ D.entry with n:=D.step.n,at_:=D.tick }:E6) with n:=D.step.n - 1 },is:=false }:E9)=r
   obtain ⟨D2,b⟩:=r
   cases b<;>simp only [go_sem,hp]
   ·exact ⟨rfl,w,[some (D.step.cf none)]++ext,by rw [sA,AE]⟩
   ·exact ⟨rfl,w,[some (D.step.cf none)]++ext,by rw [sA,AE]⟩
  ·have hp2 : ¬ 0<(({ D.entry with n:=D.step.n,at_:=D.tick }:E6)).n:=of_decide_eq_false hp
   have e3:QU (({ D.entry with n:=D.step.n,at_:=D.tick }:E6))=({ D.entry with n:=D.step.n,at_:=D.tick }:E6):=by unfold QU;rw [iN hp2]
   have e4:JT D=((Gt ({ D with entry:=({ D.entry with n:=D.step.n,at_:=D.tick }:E6),is:=false }:E9)).1,(Gt ({ D with entry:=({ D.entry with n:=D.step.n,at_:=D.tick }:E6),is:=false }:E9)).2&&false):=by
    unfold JT;dsimp only;rw [eE,e3,hp,hi]
   simp only [go_sem]
   refine Fr.intro (MR ({ D with entry:=({ D.entry with n:=D.step.n,at_:=D.tick }:E6),is:=false }:E9) hst hk _ od o0 o1 o2 o3 (gA _ _)) λv H' hq=>?_
   obtain ⟨rfl,w,ext,rfl⟩:=hq
   rw [e4]
   generalize Gt ({ D with entry:=({ D.entry with n:=D.step.n,at_:=D.tick }:E6),is:=false }:E9)=r
   obtain ⟨D2,b⟩:=r
   cases b<;>simp only [go_sem,hp]
   ·exact ⟨rfl,w,[some (D.step.cf none)]++ext,by rw [sA,AE]⟩
   ·exact ⟨rfl,w,[some (D.step.cf none)]++ext,by rw [sA,AE]⟩
end
end Go.AI
namespace Go.AI
open Go.Proofs
set_option maxRecDepth 50000
def Qt(l:List Fld)(names:List ByteArray)(h:E8):List Int:=names.map λnm=>((Nm (Fc l nm).1 h:Nat):Int)
theorem WJ(l:List Fld)(names:List ByteArray)(h:E8):(Qt l names h).length=names.length:=by simp [Qt]
theorem AIm(l:List Fld)(hl:I0 l)(hln:l.length<=9223372036854775807)(names:List ByteArray)(hn:names.length<=1073741824)(hf : ∀ nm∈names,(Fc l nm).2=true)(h:E8)(hr:FX h=true):
  A' AA 152 [.sl none (GN l),.sl none (HA names),.agg h.c] (.tup [.sl none (GC (Qt l names h)),.bool true]):=by
 refine pB AQB rfl ?_ (hv:=by simp only [AV.pure,FV,Jh,Bool.and_true])
 simp only [f152,go_sem]
 have gN : ∀ x (L:FR) z,(x::(L++[z]))[List.length (x::L)]? =some z:=λx L z=>by
  have:x::(L++[z])=(x::L)++[z]:=sm
  rw [this];exact BX
 have sN : ∀ x (L:FR) z z2,(x::(L++[z])).set (List.length (x::L)) z2=x::(L++[z2]):=λx L z z2=>by
  have:x::(L++[z])=(x::L)++[z]:=sm
  rw [this];simp
 refine Fq names (λ(_:FR) (_:List ByteArray)=>()) (λ_ _=>True) (λk _=>[(0,.sl none (GN l)),(5,.ptr 0 0),(8,.sl (some 1) (GC (Qt l (names.take k) h))),(13,.sl none (HA names)),(14,.int .i64 names.length),(15,.int .i64 k)])
  (λ_ L=>some h.c::L) [] FQ trivial rfl rfl ?_ ?_
 ·intro k L x xs hd hx _ _ h0 h1 hw
  have hk2:=Fo hd
  have hfx:=hf x (AB hx)
  have hg:=Ij hl hfx
  have c1:=Qd l hln x
  rw [hfx] at c1
  have c2:=mP (Fc l x).1 hg h hr
  have hlen:(GC (Qt l (names.take k) h)).length=k:=by rw [HK,WJ,BD];omega
  have htk:Qt l (names.take (k+1)) h=Qt l (names.take k) h++[((Nm (Fc l x).1 h:Nat):Int)]:=by
   rw [BF,hx];simp [Qt]
  simp only [go_sem,h0,h1,Gj hx]
  refine pK c1 ?_
  simp only [go_sem]
  refine pK c2 ?_
  simp only [go_sem,hlen,hw]
  exact ⟨FQ,FQ,_,by rw [htk],rfl⟩
 ·intro L _ _
  simp only [go_sem,AX,dF,BI]
def lU(l:List Fld)(s:Stp)(st:List E6)(h:E8)(tick:Int):E9 :=
 ⟨l,s,st,h,tick,(QI st s.var (Qt l s.key h)).getD ⟨s.var,Qt l s.key h,0,0⟩,(QI st s.var (Qt l s.key h)).isSome⟩
def doM(D:E9):E9×Bool :=
 if D.step.kind=1 then oJ D else if D.step.kind=2 then AHP D else if D.step.kind=3 then bT D else if D.step.kind=4 then NO D else if D.step.kind=5 then Wy D else JT D
def lT(l:List Fld)(s:Stp)(st:List E6)(h:E8)(tick:Int):E8×Bool×List E6 :=
 if s.kind=0 then (h,true,st) else
  let r:=doM (lU l s st h tick)
  (if r.2=true then r.1.head else h,r.2,r.1.st)
structure okStp (l:List Fld) (s:Stp):Prop where
 kind:0<=s.kind/\s.kind<=6
 klen:s.key.length<=1048576
 key:s.kind≠0 -> ∀ nm∈s.key,(Fc l nm).2=true
 n:s.kind=4\/s.kind=6->0<=s.n/\s.n<=65535
 m4:s.kind=4->s.m<=65535
 m:s.kind=6->1<=s.m/\s.m<=1073741824
 back:s.kind=5->(Fc l s.field).2=true
def fk(e:E6):Prop:=(0<=e.n/\e.n<=65535)/\(0<=e.at_/\e.at_<=1073741824)/\e.key.length<=1048576 /\ ∀ x∈e.key,0<=x
def ZI(s:Stp)(e:E6):Prop:=s.kind≠0->e.var=s.var->e.key.length=s.key.length
def U2:List AV:=[.nilf,.fn (.func 146) [] [],.fn (.func 147) [] [],.fn (.func 148) [] [],.fn (.func 149) [] [],.fn (.func 150) [] [],.fn (.func 151) [] []]
structure okDo (D:E9):Prop where
 fs:I0 D.fields
 fl:D.fields.length<=1073741824
 sl:D.st.length<=1073741823
 st : ∀ e∈D.st,fk e
 key : ∀ e∈D.st,ZI D.step e
 step:okStp D.fields D.step
 head:FX D.head=true
 tick:0<=D.tick/\D.tick<=1073741824
 n:0<=D.entry.n/\D.entry.n<=65535
 at_:0<=D.entry.at_/\D.entry.at_<=1073741824
theorem AWj(D:E9)(hD:okDo D)(h0:D.step.kind≠0)(H:FR)(od:Nat)(o0 o1 o2 o3:Option Nat)(ho:H[od]? =some (some (D.cf o0 o1 o2 o3)))(g:FuncId)(hg:U2[D.step.kind.toNat]? =some (.fn (.func g) [] [])):FZ AA g [.ptr od 0] H (d7 od o0 o1 o3 H (doM D)):=by
 have hlk : ∀ y∈D.st,y.key.length<=1073741824:=λy hy=>by have:=(hD.st y hy).2.2.1;omega
 have hln:D.fields.length<=9223372036854775807:=by have:=hD.fl;omega
 have hs:=hD.step
 unfold doM
 have hk:D.step.kind=1\/D.step.kind=2\/D.step.kind=3\/D.step.kind=4\/D.step.kind=5\/D.step.kind=6:=by have:=hs.kind;omega
 rcases hk with e|e|e|e|e|e<;>rw [e] at hg ⊢ <;> simp only [U2,List.getElem?_cons_succ,A7,Option.some.injEq,AV.fn.injEq,Fn.func.injEq,and_true,show (1:Int).toNat=1 from rfl,show (2:Int).toNat=2 from rfl,show (3:Int).toNat=3 from rfl,show (4:Int).toNat=4 from rfl,show (5:Int).toNat=5 from rfl,show (6:Int).toNat=6 from rfl] at hg<;>subst hg
 ·rw [iP rfl]
  exact AAy D hD.fs hln hD.sl hlk hD.head hD.n H od o0 o1 o2 o3 ho
 ·rw [iN dc,iP rfl]
  exact AFG D hD.sl hlk H od o0 o1 o2 o3 ho
 ·rw [iN dc,iN dc,iP rfl]
  exact AA1 D hD.sl hlk H od o0 o1 o2 o3 ho
 ·rw [iN dc,iN dc,iN dc,iP rfl]
  exact aK D hD.fs hln hD.sl hlk hD.head hD.n H od o0 o1 o2 o3 ho (by have:=hs.n (.inl e);omega) λy hy=>(hD.st y hy).1.2
 ·rw [iN dc,iN dc,iN dc,iN dc,iP rfl]
  exact AFM D hD.fs hln hD.sl hD.head H od o0 o1 o2 o3 ho (hs.back e) (λy hy hv=>by have:=hD.key y hy h0 hv;omega) (λy hy=>(hD.st y hy).2.2.2) hs.klen
 ·rw [iN dc,iN dc,iN dc,iN dc,iN dc]
  exact AAm D hD.sl hlk hD.n H od o0 o1 o2 o3 ho (hs.m e) (by have:=hs.n (.inr e);omega) hD.tick hD.at_
theorem TH{l:List E6}{v:ByteArray}{key:List Int}{y:E6}(h:QI l v key=some y):y∈l:=by
 unfold QI at h
 split at h
 ·exact AB h
 ·cases h
theorem ACr{l:List Fld}(hl:I0 l)(hln:l.length<=1073741824){s:Stp}(hs:okStp l s){st:List E6}(hst:st.length<=1073741823)(he : ∀ e∈st,fk e)(hk : ∀ e∈st,ZI s e){h:E8}(hr:FX h=true){tick:Int}(ht:0<=tick/\tick<=1073741824):okDo (lU l s st h tick):=by
 refine ⟨hl,hln,hst,he,hk,hs,hr,ht, ?_, ?_⟩<;>unfold lU<;>dsimp only<;>cases hf:QI st s.var (Qt l s.key h) with
 | none=>simp
 | some y=>first|exact (he y (TH hf)).1|exact (he y (TH hf)).2.1
theorem AdU(l:List Fld)(hl:I0 l)(hln:l.length<=1073741824)(s:Stp)(hs:okStp l s)(st:List E6)(hst:st.length<=1073741823)(he : ∀ e∈st,fk e)(hk : ∀ e∈st,ZI s e)(h:E8)(hr:FX h=true)(tick:Int)(ht:0<=tick/\tick<=1073741824):
  A' AA 85 [.sl none (GN l),.agg s.c,.sl none (Fe st),.agg h.c,.int .i64 tick] (.tup [.agg (lT l s st h tick).1.c,.bool (lT l s st h tick).2.1,.sl none (Fe (lT l s st h tick).2.2)]):=by
 refine pB AXm rfl ?_
 by_cases h0:s.kind=0
 ·have e1:lT l s st h tick=(h,true,st):=by unfold lT;rw [iP h0]
  rw [e1]
  have h0b:(s.kind==0)=true:=by rw [h0];rfl
  simp only [f85,go_sem,h0b]
 ·have h0b:(s.kind==0)=false:=by rw [beq_eq_false_iff_ne];exact h0
  have c1:=AIm l hl FQ s.key (by have:=hs.klen;omega) (hs.key h0) h hr
  have c2:=AFK st FQ (λy hy=>by have:=(he y hy).2.2.1;omega) s.var (Qt l s.key h)
  have hnv:AV.nilf.isVal=true:=rfl
  simp only [f85,go_sem,h0b,hnv]
  refine pK c1 ?_
  simp only [go_sem]
  refine pK c2 ?_
  have hi0:(0:Int)<=s.kind:=hs.kind.1
  have hi1:s.kind<((7:Nat):Int):=by have:=hs.kind;omega
  have hD:=ACr hl hln hs hst he hk hr ht
  obtain ⟨g,hg⟩ : ∃ g,U2[s.kind.toNat]? =some (.fn (.func g) [] []):=by
   have hkc:s.kind=1\/s.kind=2\/s.kind=3\/s.kind=4\/s.kind=5\/s.kind=6:=FQ
   rcases hkc with e|e|e|e|e|e<;>rw [e]<;>exact ⟨_,rfl⟩
  have hM:=λH od o0 o1 o2 o3 ho=>AWj (lU l s st h tick) hD h0 H od o0 o1 o2 o3 ho g hg
  unfold U2 at hg
  have e1:lT l s st h tick=(if (doM (lU l s st h tick)).2=true then (doM (lU l s st h tick)).1.head else h,(doM (lU l s st h tick)).2,(doM (lU l s st h tick)).1.st):=by unfold lT;rw [iN h0]
  rw [e1]
  cases hfd:QI st s.var (Qt l s.key h) with
  | none =>
   simp only [go_sem,hi0,hi1,hg]
   refine Fr.intro (hM _ 4 none none none none (by unfold lU;rw [hfd];rfl)) λv H' hq=>?_
   obtain ⟨rfl,w,ext,rfl⟩:=hq
   generalize doM (lU l s st h tick)=r
   obtain ⟨D2,b⟩:=r
   cases b
   ·simp only [go_sem]
    rw [HT _ _ _ (by simp only [go_sem]) rfl rfl]
    simp only [go_sem]
    refine ⟨Lw [(some (74,1,false),some (10,10,true))] kr ?_, ?_⟩
    ·intro q hq
     rw [Ab.1 hq]
     exact ⟨.inr rfl,.inl dc⟩
    simp only [go_sem]
   ·simp only [go_sem]
    rw [HT _ _ _ (by simp only [go_sem]) rfl rfl]
    simp only [go_sem]
    refine ⟨Lw [(some (82,1,false),some (10,10,true))] kr ?_, ?_⟩
    ·intro q hq
     rw [Ab.1 hq]
     exact ⟨.inr rfl,.inl dc⟩
    simp only [go_sem]
  | some y =>
   simp only [go_sem,hi0,hi1,hg]
   refine Fr.intro (hM _ 4 none none none none (by unfold lU;rw [hfd];rfl)) λv H' hq=>?_
   obtain ⟨rfl,w,ext,rfl⟩:=hq
   generalize doM (lU l s st h tick)=r
   obtain ⟨D2,b⟩:=r
   cases b
   ·simp only [go_sem]
    rw [HT _ _ _ (by simp only [go_sem]) rfl rfl]
    simp only [go_sem]
    refine ⟨Lw [(some (74,1,false),some (10,10,true))] kr ?_, ?_⟩
    ·intro q hq
     rw [Ab.1 hq]
     exact ⟨.inr rfl,.inl dc⟩
    simp only [go_sem]
   ·simp only [go_sem]
    rw [HT _ _ _ (by simp only [go_sem]) rfl rfl]
    simp only [go_sem]
    refine ⟨Lw [(some (82,1,false),some (10,10,true))] kr ?_, ?_⟩
    ·intro q hq
     rw [Ab.1 hq]
     exact ⟨.inr rfl,.inl dc⟩
    simp only [go_sem]
structure okPrg (l:List Fld) (p:List FA):Prop where
 stp : ∀ s∈p,okStp l s.step
 pol : ∀ s∈p,Hk l s.policy
 key : ∀ s∈p,∀ t∈p,s.step.kind≠0->t.step.kind≠0->s.step.var=t.step.var->s.step.key.length=t.step.key.length
def Pv(p:List FA)(st:List E6):Prop:=∀ e∈st,fk e /\ ∀ t∈p,ZI t.step e
theorem AB2{l:List E6}{i:Nat}{e x:E6}(h:x∈WP l i e):x=e\/x∈l:=by
 unfold WP at h
 rcases Ar.1 h with h|h
 ·exact .inr (List.mem_of_mem_take h)
 ·rcases AW.1 h with h|h
  ·exact .inl h
  ·exact .inr (List.mem_of_mem_drop h)
theorem AAh{l:List E6}{e x:E6}(h:x∈Qa l e):x=e\/x∈l:=by
 unfold Qa at h
 split at h
 ·exact (List.mem_or_eq_of_mem_set h).symm
 ·exact AB2 h
theorem AAi(l:List E6)(e:E6):(Qa l e).length<=l.length+1:=by
 unfold Qa
 split
 ·rw [An];omega
 ·rw [iB (ADI l e)];omega
def ai(D:E9)(r:E9×Bool)(P:E6->Prop):Prop:=FX r.1.head=true/\(r.1.st=D.st \/ ∃ e,P e/\r.1.st=Qa D.st e)
theorem J4{D:E9}(hr:FX D.head=true){P:E6->Prop}(he:P D.entry):ai D (Gt D) P:=by
 unfold Gt
 split
 ·exact ⟨hr,.inl rfl⟩
 ·exact ⟨hr,.inr ⟨_,he,rfl⟩⟩
theorem QS{D:E9}{r:E9×Bool}{P:E6->Prop}(hl:I0 r.1.fields)(hn:0<=r.1.entry.n)(h:ai D r P):ai D (wrD r) P:=by
 unfold wrD
 split
 ·exact ⟨Sd hl h.1 _ hn,h.2⟩
 ·exact h
theorem Zq{l:List Fld}(hl:I0 l): ∀ (q:List (ByteArray×Int)) {h:E8},FX h=true->(∀ x∈q,0<=x.2)->FX (bkH l h q)=true
 | [],_,hr,_=>hr
 | x::q,h,hr,hq=>Zq hl q (Sd hl hr _ (hq x (CR ..))) λy hy=>hq y (B0 _ hy)
theorem oG{D:E9}(hD:okDo D)(h0:D.step.kind≠0):ai D (doM D) λe=>e.var=D.entry.var/\e.key=D.entry.key/\(0<=e.n/\e.n<=65535)/\(0<=e.at_/\e.at_<=1073741824):=by
 have hs:=hD.step
 have hn:=hD.n
 have ha:=hD.at_
 have ht:=hD.tick
 have hk:D.step.kind=1\/D.step.kind=2\/D.step.kind=3\/D.step.kind=4\/D.step.kind=5\/D.step.kind=6:=by have:=hs.kind;omega
 unfold doM
 rcases hk with e|e|e|e|e|e<;>rw [e]
 ·rw [iP rfl]
  have k:=KX { D with entry:={ D.entry with n:=Vv (D.entry.n+1) 65535,at_:=D.tick } }
  have hm:0<=Vv (D.entry.n+1) 65535/\Vv (D.entry.n+1) 65535<=65535:=by unfold Vv;split<;>omega
  exact QS (by rw [k.1];exact hD.fs) (by rw [k.2.2.2];exact hm.1) (J4 (D:={ D with entry:={ D.entry with n:=Vv (D.entry.n+1) 65535,at_:=D.tick } }) hD.head ⟨rfl,rfl,hm,ht⟩)
 ·rw [iN dc,iP rfl]
  exact J4 (D:={ D with entry:={ D.entry with at_:=D.tick } }) hD.head ⟨rfl,rfl,hn,ht⟩
 ·rw [iN dc,iN dc,iP rfl]
  exact ⟨hD.head,.inl rfl⟩
 ·rw [iN dc,iN dc,iN dc,iP rfl]
  have hn4:=hs.n (.inl e)
  have hm4:=hs.m4 e
  have hU:=ACV (MD D) D.step.n 65535 (λx hx=>by
   obtain ⟨y,hy,rfl⟩:=AN.1 hx
   exact (hD.st y (CY.1 hy).1).1.2) FQ
  unfold NO
  split
  ·have k:=KX { D with entry:={ D.entry with at_:=D.tick } }
   exact QS (by rw [k.1];exact hD.fs) (by rw [k.2.2.2];exact hn.1) (J4 (D:={ D with entry:={ D.entry with at_:=D.tick } }) hD.head ⟨rfl,rfl,hn,ht⟩)
  ·split
   ·exact ⟨hD.head,.inl rfl⟩
   ·rename_i hlt
    have k:=KX { D with entry:={ D.entry with n:=K4 (MD D) D.step.n,at_:=D.tick } }
    exact QS (by rw [k.1];exact hD.fs) (by rw [k.2.2.2];dsimp only;omega) (J4 (D:={ D with entry:={ D.entry with n:=K4 (MD D) D.step.n,at_:=D.tick } }) hD.head ⟨rfl,rfl,by dsimp only;omega,ht⟩)
 ·rw [iN dc,iN dc,iN dc,iN dc,iP rfl]
  unfold Wy
  split
  ·exact ⟨hD.head,.inl rfl⟩
  ·rename_i y hy
   exact ⟨Zq hD.fs _ hD.head λx hx=>(hD.st y (List.mem_of_find?_eq_some hy)).2.2.2 x.2 (List.of_mem_zip hx).2,.inl rfl⟩
 ·rw [iN dc,iN dc,iN dc,iN dc,iN dc]
  have hm6:=hs.m e
  have hn6:=hs.n (.inr e)
  unfold JT
  dsimp only
  have ht1:(0<=(QW D.step D.entry D.is D.tick).n/\(QW D.step D.entry D.is D.tick).n<=65535)/\(0<=(QW D.step D.entry D.is D.tick).at_/\(QW D.step D.entry D.is D.tick).at_<=1073741824)/\(QW D.step D.entry D.is D.tick).var=D.entry.var/\(QW D.step D.entry D.is D.tick).key=D.entry.key:=by
   unfold QW
   split
   ·exact ⟨hn,ha,rfl,rfl⟩
   ·exact ⟨hn6,ht,rfl,rfl⟩
  generalize QW D.step D.entry D.is D.tick=e1 at ht1 ⊢
  have ht2:(0<=(QV D.step e1 D.tick).n/\(QV D.step e1 D.tick).n<=65535)/\(0<=(QV D.step e1 D.tick).at_/\(QV D.step e1 D.tick).at_<=1073741824)/\(QV D.step e1 D.tick).var=D.entry.var/\(QV D.step e1 D.tick).key=D.entry.key:=by
   obtain ⟨p1,p2⟩:=qd (s:=D.step) (e:=e1) (tick:=D.tick) hm6.1
   have p3:e1.at_+(if 0<D.tick - e1.at_ then D.tick - e1.at_ else 0)<=1073741824:=by split<;>omega
   have p4:0<=G8 D.step e1 D.tick*D.step.m:=Int.mul_nonneg p1 FQ
   unfold QV
   split
   ·exact ⟨hn6,ht,ht1.2.2.1,ht1.2.2.2⟩
   ·exact ⟨by dsimp only;omega,by dsimp only;omega,ht1.2.2.1,ht1.2.2.2⟩
  generalize QV D.step e1 D.tick=e2 at ht2 ⊢
  refine J4 (D:={ D with entry:=QU e2 }) hD.head ?_
  dsimp only
  unfold QU
  split
  ·exact ⟨ht2.2.2.1,ht2.2.2.2,by dsimp only;omega,ht2.2.1⟩
  ·exact ⟨ht2.2.2.1,ht2.2.2.2,ht2.1,ht2.2.1⟩
theorem rP{l:List Fld}(hl:I0 l)(hln:l.length<=1073741824){p:List FA}(hp:okPrg l p){s:FA}(hs:s∈p){st:List E6}(hst:st.length<=1073741823)(he:Pv p st){h:E8}(hr:FX h=true){tick:Int}(ht:0<=tick/\tick<=1073741824):
  FX (lT l s.step st h tick).1=true/\Pv p (lT l s.step st h tick).2.2/\(lT l s.step st h tick).2.2.length<=st.length+1:=by
 unfold lT
 split
 ·exact ⟨hr,he,by dsimp only;omega⟩
 ·rename_i h0
  have hD:=ACr hl hln (hp.stp s hs) hst (λe hx=>(he e hx).1) (λe hx=>(he e hx).2 s hs) hr ht
  obtain ⟨l1,l2⟩:=oG hD h0
  have hent:(∀ t∈p,ZI t.step (lU l s.step st h tick).entry)/\(lU l s.step st h tick).entry.key.length<=1048576 /\ ∀ x∈(lU l s.step st h tick).entry.key,0<=x:=by
   unfold lU
   dsimp only
   cases hf:QI st s.step.var (Qt l s.step.key h) with
   | none =>
    refine ⟨λt ht h1 h2=>?_, ?_, ?_⟩
    ·rw [BH,WJ]
     exact hp.key s hs t ht h0 h1 h2
    ·rw [BH,WJ];exact (hp.stp s hs).klen
    ·rw [BH]
     intro x hx
     obtain ⟨nm,_,rfl⟩:=AN.1 hx
     omega
   | some y =>
    have hy:=he y (TH hf)
    exact ⟨hy.2,hy.1.2.2.1,hy.1.2.2.2⟩
  dsimp only
  refine ⟨by split<;>assumption, ?_, ?_⟩
  ·rcases l2 with l2|⟨e,⟨v1,v2,v3,v4⟩,l2⟩
   ·rw [l2];exact he
   ·rw [l2]
    intro x hx
    rcases AAh hx with rfl|hx
    ·exact ⟨⟨v3,v4,by rw [v2];exact hent.2.1,by rw [v2];exact hent.2.2⟩,λt ht h1 h2=>by rw [v2];rw [v1] at h2;exact hent.1 t ht h1 h2⟩
    ·exact he x hx
  ·rcases l2 with l2|⟨e,_,l2⟩
   ·rw [l2];exact DU _
   ·rw [l2];exact AAi _ _
def xb(l:List Fld)(tick:Int)(x:Policy)(given:List E8):List E8->Option (List E8)
 | []=>some given
 | g::r=>match vO l tick x g with
  | none=>none
  | some some'=>if 256<(given++some').length then none else xb l tick x (given++some') r
def zU(l:List Fld)(s:Stp)(tick:Int)(a:List E8×List E6):List E8->List E8×List E6
 | []=>a
 | g::r=>zU l s tick (if (lT l s a.2 g tick).2.1=true then a.1++[(lT l s a.2 g tick).1] else a.1,(lT l s a.2 g tick).2.2) r
def RZ(l:List Fld)(tick:Int)(a:List E8×List E6):List FA->Option (List E8×List E6)
 | []=>some a
 | s::r=>match xb l tick s.policy [] a.1 with
  | none=>none
  | some given=>RZ l tick (zU l s.step tick ([],a.2) given) r
def Sk(l:List Fld)(p:List FA)(st:List E6)(h:E8)(tick:Int):Option (List E8×List E6):=RZ l tick ([h],st) p
def AAZ(st:List E6):Option (List E8×List E6)->AV
 | some a => .tup [.sl none (F3 a.1),.sl none (Fe a.2),.int .i64 0]
 | none => .tup [.sl none [],.sl none (Fe st),.int .i64 2]
theorem sd(st:List E6)(o:Option (List E8×List E6)):(AAZ st o).pure=true:=by
 cases o<;>simp [AAZ,AV.pure,FV,nN,Ji]
theorem AWn(l:List Fld)(hl:I0 l)(hln:l.length<=1073741824)(p:List FA)(hp:okPrg l p)(st:List E6)(hlen:st.length+p.length*256<=1073741823)(hs:Pv p st)(h:E8)(hr:FX h=true)(tick:Int)(ht:0<=tick/\tick<=1073741824):
  A' AA 43 [.sl none (GN l),.sl none (F9 p),.sl none (Fe st),.agg h.c,.int .i64 tick] (AAZ st (Sk l p st h tick)):=by
 refine pB AYy rfl ?_ (hv:=sd _ _)
 simp only [f43,go_sem]
 refine Fq p (λ(s:(List E8×List E6)×FR) (r:List FA)=>RZ l tick s.1 r) (λk s=>Pv p s.1.2/\(∀ z∈s.1.1,FX z=true)/\s.1.2.length<=st.length+k*256/\s.1.1.length<=256)
  (λk s=>[(0,.sl none (GN l)),(2,.sl none (Fe st)),(4,.int .i64 tick),(13,.sl (some 10) (F3 s.1.1)),(14,.sl none (Fe s.1.2)),(28,.sl none (F9 p)),(29,.int .i64 p.length),(30,.int .i64 k)])
  (λ_ s=>s.2) (([h],st),[some h.c]) FQ ⟨hs,by simpa using hr,sm,sm⟩ ?_ rfl ?_ ?_
 ·rfl
 ·rintro k ⟨⟨pk,now⟩,Y⟩ S Ss hd hx ⟨i1,i2,i3,i4⟩ hF h0 h1 hw
  dsimp only at i1 i2 i3 i4 hF ⊢
  have hSp:=AB hx
  have hkl:=(AC.1 hx).1
  have gS : ∀ y L,(Y++y::L)[Y.length]? =some y:=λy L=>sm
  have gS0 : ∀ y,(Y++[y])[Y.length]? =some y:=λy=>sm
  have sS0 : ∀ y z,(Y++[y]).set Y.length z=Y++[z]:=λy z=>sm
  have gN : ∀ y L z,(Y++y::(L++[z]))[List.length (Y++y::L)]? =some z:=λy L z=>by
   have:Y++y::(L++[z])=(Y++y::L)++[z]:=sm
   rw [this];exact BX
  have sN : ∀ y L z z2,(Y++y::(L++[z])).set (List.length (Y++y::L)) z2=Y++y::(L++[z2]):=λy L z z2=>by
   have:Y++y::(L++[z])=(Y++y::L)++[z]:=sm
   rw [this];simp
  have b2:((2:Int) !=0)=true:=rfl
  have b0:((0:Int) !=0)=false:=rfl
  simp only [go_sem,h0,h1,GH hx,gS,sS0]
  refine Fq pk (λ(s:List E8×FR) (r:List E8)=>xb l tick S.policy s.1 r) (λ_ s=>(∀ z∈s.1,FX z=true)/\s.1.length<=256)
   (λj s=>[(0,.sl none (GN l)),(2,.sl none (Fe st)),(4,.int .i64 tick),(14,.sl none (Fe now)),(16,.ptr Y.length 0),(17,.sl (some 10) (F3 s.1)),(28,.sl none (F9 p)),(29,.int .i64 p.length),(30,.int .i64 k),(34,.sl (some 10) (F3 pk)),(35,.int .i64 pk.length),(36,.int .i64 j)])
   (λ_ s=>Y++some S.c::s.2) ([],[]) FQ ⟨sm,sm⟩ ?_ rfl ?_ ?_
  ·rfl
  ·rintro j ⟨gv,L⟩ g gs hd2 hx2 ⟨j1,j2⟩ hF2 g0 g1 gw
   dsimp only at j1 j2 hF2 ⊢
   have hrg:=i2 g (AB hx2)
   have c1:=AFH l hl FQ S.policy (hp.pol S hSp) tick g hrg
   have e2:=xb.eq_2 l tick S.policy gv g gs
   simp only [go_sem,g0,g1,IH hx2,gS,gN,sN]
   cases ev:vO l tick S.policy g with
   | none =>
    rw [ev] at c1 e2
    have hres:Sk l p st h tick=none:=by rw [Sk,hF,RZ,hF2,e2]
    rw [hres]
    refine pK c1 ?_
    simp only [go_sem,b2]
    exact ⟨FQ,FQ,rfl⟩
   | some x =>
    rw [ev] at c1 e2
    have hgx:=RS l hl tick S.policy (hp.pol S hSp) g x hrg ev
    have hgl:=hgx.2.1
    refine pK c1 ?_
    simp only [go_sem,b0]
    refine ⟨FQ,FQ, ?_⟩
    by_cases h256:256<(gv++x).length
    ·have hres:Sk l p st h tick=none:=by rw [Sk,hF,RZ,hF2,e2];simp only [iP h256]
     have h256b:(256:Int)<((gv++x).length:Int):=FQ
     rw [hres]
     simp only [go_sem,h256b,dT]
     rfl
    ·have h256b : ¬ (256:Int)<((gv++x).length:Int):=FQ
     simp only [iN h256] at e2
     simp only [go_sem,h256b,dF,gw]
     refine ⟨(gv++x,L++[some g.c]),by rw [e2],⟨λz hz=>?_,by rw [AF] at h256 ⊢;omega⟩, ?_, ?_⟩
     ·rcases Ar.1 hz with hz|hz
      ·exact j1 z hz
      ·exact hgx.2.2 z hz
     ·rfl
     ·rfl
  ·rintro ⟨gv,L⟩ ⟨j1,j2⟩ hF2
   dsimp only at j1 j2 hF2 ⊢
   have hgv:xb l tick S.policy [] pk=some gv:=hF2
   have hF4:RZ l tick ([h],st) p=RZ l tick (zU l S.step tick ([],now) gv) Ss:=by rw [hF,RZ,hgv]
   simp only [go_sem,AX,dF]
   refine Fq gv (λ(s:(List E8×List E6)×FR) (r:List E8)=>zU l S.step tick s.1 r) (λj s=>Pv p s.1.2/\(∀ z∈s.1.1,FX z=true)/\s.1.2.length<=now.length+j/\s.1.1.length<=j)
    (λj s=>[(0,.sl none (GN l)),(2,.sl none (Fe st)),(4,.int .i64 tick),(13,.sl (some 10) (F3 s.1.1)),(14,.sl none (Fe s.1.2)),(16,.ptr Y.length 0),(28,.sl none (F9 p)),(29,.int .i64 p.length),(30,.int .i64 k),(61,.sl (some 10) (F3 gv)),(62,.int .i64 gv.length),(63,.int .i64 j)])
    (λ_ s=>Y++some S.c::s.2) (([],now),L) FQ ⟨i1,sm,sm,sm⟩ ?_ rfl ?_ ?_
   ·rfl
   ·rintro j ⟨⟨pk2,now2⟩,L2⟩ g gs hd2 hx2 ⟨q1,q2,q3,q4⟩ hF3 g0 g1 gw
    dsimp only at q1 q2 q3 q4 hF3 ⊢
    have hrg:=j1 g (AB hx2)
    have hjl:=(AC.1 hx2).1
    have c1:=AdU l hl hln S.step (hp.stp S hSp) now2 FQ (λe he=>(q1 e he).1) (λe he=>(q1 e he).2 S hSp) g hrg tick ht
    obtain ⟨d1,d2,d3⟩:=rP hl hln hp hSp (st:=now2) FQ q1 hrg ht
    have e2:=zU.eq_2 l S.step tick (pk2,now2) g gs
    dsimp only at e2
    generalize lT l S.step now2 g tick=R at c1 d1 d2 d3 e2
    obtain ⟨g',b,now'⟩:=R
    dsimp only at c1 d1 d2 d3 e2
    simp only [go_sem,g0,g1,IH hx2,gS,gN,sN]
    refine pK c1 ?_
    cases b with
    | true =>
     simp only [go_sem,gN,sN,gw]
     refine ⟨FQ,FQ,((pk2++[g'],now'),L2++[some g'.c]),by rw [e2,iP rfl],⟨d2,λz hz=>?_,by dsimp only;omega,by rw [AF];exact Dv q4⟩,rfl,rfl⟩
     rcases Ar.1 hz with hz|hz
     ·exact q2 z hz
     ·rcases Ab.1 hz with rfl;exact d1
    | false =>
     simp only [go_sem,gN,sN,gw]
     exact ⟨((pk2,now'),L2++[some g'.c]),by rw [e2,iN dc],⟨d2,q2,by dsimp only;omega,by dsimp only;omega⟩,rfl,rfl⟩
   ·rintro ⟨⟨pk2,now2⟩,L2⟩ ⟨q1,q2,q3,q4⟩ hF3
    dsimp only at q1 q2 q3 q4 hF3 ⊢
    simp only [go_sem,AX,dF,hw]
    exact ⟨((pk2,now2),_),by rw [<- hF,hF4,hF3];rfl,⟨q1,q2,by dsimp only;omega,by dsimp only;omega⟩,rfl,rfl⟩
 ·rintro ⟨⟨pk,now⟩,Y⟩ ⟨i1,i2,i3,i4⟩ hF
  dsimp only at i1 i2 i3 i4 hF ⊢
  simp only [go_sem,AX,dF]
  rw [Sk,hF];rfl
def K0(l:List FB):List AV:=l.map λx => .agg x.c
@[go_sem] theorem AU7(l:List FB):(K0 l).length=l.length:=by simp [K0]
theorem uF{l:List FB}{i:Nat}{x:FB}(h:l[i]? =some x):(K0 l)[i]? =some (.agg x.c):=by simp [K0,h]
@[go_sem] theorem AI3(a:List FB)(x:FB):K0 a++[.agg x.c]=K0 (a++[x]):=by simp [K0]
def HE(l:List (List E6)):List AV:=l.map λx => .sl none (Fe x)
@[go_sem] theorem Rr(l:List (List E6)):(HE l).length=l.length:=by simp [HE]
theorem Rs{l:List (List E6)}{i:Nat}{x:List E6}(h:l[i]? =some x):(HE l)[i]? =some (.sl none (Fe x)):=by simp [HE,h]
@[go_sem] theorem AHU(l:List (List E6)):(∀ x∈HE l,x.cells.length=1)=True:=eq_true λx hx=>by
 obtain ⟨y,_,rfl⟩:=AN.1 hx;rfl
@[go_sem] theorem ti(l:List (List E6)):FV (HE l)=true:=by
 induction l with
 | nil=>rfl
 | cons x xs ih=>simpa [HE,FV,AV.pure] using ⟨Ji x,ih⟩
theorem ABi(l:List (List E6)):(HQ (HE l)).map borrow1=HE l:=by
 induction l with
 | nil=>rfl
 | cons x l ih =>
  have:HQ (HE (x::l)) = .sl none (Fe x)::HQ (HE l):=rfl
  rw [this,AR,ih];rfl
def iS:E7:={ h41 with mt:=[5,7],tk:=[] }
@[go_sem] theorem AdB(k:Nat):iS.lv k=h41.lv k/\iS.ct k=h41.ct k/\iS.at k=h41.at k/\iS.dn k=h41.dn k:=⟨AG rfl rfl,AG rfl rfl,AG rfl rfl,AG rfl rfl⟩
@[go_sem] theorem Adt:iS.tk=[]/\iS.mt=[5,7]/\iS.pc=[]:=⟨rfl,rfl,rfl⟩
theorem AJH:FK AA 41 f41 iS:=⟨kr,kr,func41,kr⟩
theorem ABA(l:List (List E6))(hl:l.length<=1073741824)(H:FR):FZ AA 41 [.sl none (HE l)] H λv H'=>(l=[]/\v = .sl (some 1) []/\H'=H)\/(v = .msl (H.length+1) 0 l.length 1/\H'=H++[none,some (HE l)]):=by
 have el:(HE l).length=l.length:=Rr l
 have g1 : ∀ (x:Option (List AV)),(H++[x])[H.length]? =some x:=λx=>sm
 have g2 : ∀ (x y:Option (List AV)),(H++[x]).set H.length y=H++[y]:=λx y=>sm
 refine aC AJH rfl ?_
 cases l with
 | nil =>
  have e0:HE []=[]:=rfl
  rw [e0]
  simp only [f41,go_sem,g1,g2]
  simp
 | cons x l =>
  have hcs:HE (x::l) = .sl none (Fe x)::HE l:=rfl
  have hcat:=ABi (x::l)
  rw [hcs] at hcat el ⊢
  simp only [AD] at hl
  simp only [f41,go_sem,g1,g2]
  exact ⟨FQ,FQ,.inr ⟨sm,by rw [hcat]⟩⟩
theorem AAq(q:List FB)(hq:q.length<=1048576)(x:FB)(w:Option Nat)(H:FR)(o:Nat)(ho:H[o]? =some (some [.sl (some 12) (K0 q)])):
  FZ AA 40 [.agg (x.cf w),.ptr o 0] H λv H'=>v = .tup [] /\ ∃ ext,H'=H.set o (some [.sl (some 12) (K0 (q++[x]))])++ext:=by
 have hlt:=(AC.1 ho).1
 have g1:=FY ho
 have gB : ∀ y L,(H++y::L)[H.length]? =some y:=λy L=>sm
 have s1 : ∀ (L:FR) y,(H++L).set o y=H.set o y++L:=λL y=>LN hlt L
 have gS : ∀ x L,(H.set o x++L)[o]? =some x:=λx L=>VT hlt x L
 have gM : ∀ x y L,(H.set o x++y::L)[H.length]? =some y:=λx y L=>by
  rw [AM sm];simp
 have sA : ∀ x L y,(H.set o x++L).set o y=H.set o y++L:=λx L y=>by rw [LN (by rw [An];exact hlt),BE]
 refine aC AY8 rfl ?_
 cases w<;>simp only [f40,go_sem,g1,s1,gS,sA,gM]
 ·exact ⟨FQ,FQ⟩
 ·exact ⟨FQ,FQ⟩
theorem rF{l:List Fld}(hl:I0 l){tick:Int}{x:Policy}(hx:Hk l x): ∀ (pk:List E8) {gv r:List E8},(∀ z∈pk,FX z=true)->(∀ z∈gv,FX z=true)->gv.length<=256->xb l tick x gv pk=some r->(∀ z∈r,FX z=true)/\r.length<=256
 | [],gv,r,_,hg,hn,e=>by
  rw [xb] at e
  cases e
  exact ⟨hg,hn⟩
 | g::pk,gv,r,hp,hg,hn,e=>by
  rw [xb] at e
  have hrg:=hp g (CR ..)
  cases ev:vO l tick x g with
  | none=>rw [ev] at e;cases e
  | some y =>
   rw [ev] at e
   have hy:=RS l hl tick x hx g y hrg ev
   by_cases h256:256<(gv++y).length
   ·simp only [iP h256] at e
    cases e
   ·simp only [iN h256] at e
    refine rF hl hx pk (λz hz=>hp z (B0 _ hz)) (λz hz=>?_) FQ e
    rcases Ar.1 hz with hz|hz
    ·exact hg z hz
    ·exact hy.2.2 z hz
theorem rR{l:List Fld}(hl:I0 l)(hln:l.length<=1073741824){p:List FA}(hp:okPrg l p){s:FA}(hs:s∈p){tick:Int}(ht:0<=tick/\tick<=1073741824): ∀ (gv:List E8) {pk:List E8} {st:List E6},(∀ z∈gv,FX z=true)->(∀ z∈pk,FX z=true)->Pv p st->st.length+gv.length<=1073741823 ->
  (∀ z∈(zU l s.step tick (pk,st) gv).1,FX z=true)/\Pv p (zU l s.step tick (pk,st) gv).2/\(zU l s.step tick (pk,st) gv).1.length<=pk.length+gv.length/\(zU l s.step tick (pk,st) gv).2.length<=st.length+gv.length
 | [],pk,st,_,hpk,hst,_=>⟨hpk,hst,AU _,AU _⟩
 | g::gv,pk,st,hg,hpk,hst,hln2=>by
  rw [AD] at hln2
  have hrg:=hg g (CR ..)
  obtain ⟨d1,d2,d3⟩:=rP hl hln hp hs (st:=st) FQ hst hrg ht
  rw [zU]
  dsimp only
  generalize lT l s.step st g tick=R at d1 d2 d3
  obtain ⟨g',b,now'⟩:=R
  dsimp only at d1 d2 d3 ⊢
  have ih:=λpk2 hpk2=>rR hl hln hp hs ht gv (pk:=pk2) (st:=now') (λz hz=>hg z (B0 _ hz)) hpk2 d2 FQ
  rw [AD]
  cases b with
  | true =>
   rw [iP rfl]
   obtain ⟨i1,i2,i3,i4⟩:=ih (pk++[g']) (λz hz=>by
    rcases Ar.1 hz with hz|hz
    ·exact hpk z hz
    ·rcases Ab.1 hz with rfl;exact d1)
   rw [AF,Bm] at i3
   exact ⟨i1,i2,FQ,FQ⟩
  | false =>
   rw [iN dc]
   obtain ⟨i1,i2,i3,i4⟩:=ih pk hpk
   exact ⟨i1,i2,FQ,FQ⟩
theorem eH{l:List Fld}(hl:I0 l)(hln:l.length<=1073741824){p:List FA}(hp:okPrg l p){tick:Int}(ht:0<=tick/\tick<=1073741824): ∀ (r:List FA) {a b:List E8×List E6},(∀ s∈r,s∈p)->(∀ z∈a.1,FX z=true)->a.1.length<=256->Pv p a.2->a.2.length+r.length*256<=1073741823->RZ l tick a r=some b ->
  (∀ z∈b.1,FX z=true)/\b.1.length<=256/\Pv p b.2/\b.2.length<=a.2.length+r.length*256
 | [],a,b,_,h1,h2,h3,_,e=>by
  rw [RZ] at e
  cases e
  exact ⟨h1,h2,h3,FQ⟩
 | s::r,a,b,hr,h1,h2,h3,h4,e=>by
  rw [AD] at h4
  rw [RZ] at e
  have hs:=hr s (CR ..)
  cases eg:xb l tick s.policy [] a.1 with
  | none=>rw [eg] at e;cases e
  | some gv =>
   rw [eg] at e
   dsimp only at e
   obtain ⟨g1,g2⟩:=rF hl (hp.pol s hs) a.1 h1 sm sm  eg
   obtain ⟨d1,d2,d3,d4⟩:=rR hl hln hp hs ht gv (pk:=[]) (st:=a.2) g1 sm h3 FQ
   rw [AH] at d3
   obtain ⟨r1,r2,r3,r4⟩:=eH hl hln hp ht r (λz hz=>hr z (B0 _ hz)) d1 FQ d2 FQ e
   rw [AD]
   exact ⟨r1,r2,r3,FQ⟩
theorem eD{l:List Fld}(hl:I0 l)(hln:l.length<=1073741824){p:List FA}(hp:okPrg l p){tick:Int}(ht:0<=tick/\tick<=1073741824){st:List E6}(hst:Pv p st)(hlen:st.length+p.length*256<=1073741823){h:E8}(hr:FX h=true){b:List E8×List E6}(e:Sk l p st h tick=some b):
  (∀ z∈b.1,FX z=true)/\b.1.length<=256/\Pv p b.2/\b.2.length<=st.length+p.length*256 :=
 eH hl hln hp ht p (a:=([h],st)) (λ_ h=>h) (by simpa using hr) sm hst hlen e
def exT(t:FC)(p:E8):E8×Bool:=R3 (JZ t p.h0) p
def O1(t:FC)(h:E8):E8×Bool:=LE (IA t (i64 (h.h0 - 10000))) h
def RX(s:FD)(t:FC)(p:E8)(tick:Int):Int:=H7 (VN s t.name p tick) s.contracts
def lS(s:FD)(x:FB)(t:FC)(tick:Int)(a:List FB×List FE)(p:E8):List FB×List FE :=
 if (exT t p).2=false then a
 else if RX s t p tick<0 then (a.1,a.2++[⟨x.tenant,(exT t p).1,x.chain⟩])
 else match s.contracts[(RX s t p tick).toNat]? with
  | none=>a
  | some d=>(a.1++[⟨GP s d.dst,{ p with h0:=d.toPort },x.chain++[RX s t p tick]⟩],a.2)
def Xm(s:FD)(x:FB)(t:FC)(tick:Int)(a:List FB×List FE):List E8->List FB×List FE
 | []=>a
 | p::r=>Xm s x t tick (lS s x t tick a p) r
def OI(h:E8):Nat->List FC->List FB
 | _,[]=>[]
 | k,t::r=>if (O1 t h).2=true then ⟨(k:Nat),(O1 t h).1,[]⟩::OI h (k+1) r else OI h (k+1) r
def TP(s:FD)(tick:Int):Nat->Nat->List FB->List (List E6)->List FE->Option (List FE×List (List E6))
 | 0,_,_,_,_=>none
 | f+1,n,q,now,out=>match q[n]? with
  | none=>some (out,now)
  | some x=>match s.tenants[x.tenant.toNat]?,now[x.tenant.toNat]? with
   | some t,some st=>match Sk s.fields (GO t).1 st x.head tick with
    | none=>none
    | some b=>if 256<(Xm s x t tick (q,out) b.1).1.length then none else TP s tick f (n+1) (Xm s x t tick (q,out) b.1).1 (now.set x.tenant.toNat b.2) (Xm s x t tick (q,out) b.1).2
   | _,_=>none
def NC(s:FD)(sts:List (List E6))(h:E8)(tick:Int):Option (List FE×List (List E6)):=TP s tick 600 0 (OI h 0 s.tenants) sts []
def qn(sts:List (List E6)):Option (List FE×List (List E6))->AV
 | some a => .tup [.sl none (F5 a.1),.sl none (HE a.2),.int .i64 0]
 | none => .tup [.sl none [],.sl none (HE sts),.int .i64 2]
theorem mD(sts:List (List E6))(o:Option (List FE×List (List E6))):(qn sts o).pure=true:=by
 cases o<;>simp [qn,AV.pure,FV,Lq,ti]
structure okRun (s:FD) (sts:List (List E6)) (h:E8) (tick:Int):Prop where
 bulk:FT s.c<=1048576
 fld:I0 s.fields
 ten:s.tenants.length<=256
 tick:0<=tick/\tick<=1073741824
 len:sts.length=s.tenants.length
 prg : ∀ (k:Nat) (t:FC),s.tenants[k]? =some t->okPrg s.fields (GO t).1/\(GO t).1.length<=1000
 whole : ∀ t∈s.tenants,A' AA 42 [.agg t.c] (.tup [.sl none (F9 (GO t).1),.int .i64 (GO t).2])
 st : ∀ (k:Nat) (t:FC) (st:List E6),s.tenants[k]? =some t->sts[k]? =some st->Pv (GO t).1 st/\st.length<=268435456
 pred : ∀ c∈s.contracts,IM s.fields c.pred
 to : ∀ c∈s.contracts,0<=GP s c.dst/\GP s c.dst<(s.tenants.length:Int)
 port : ∀ c∈s.contracts,0<=c.toPort/\c.toPort<=65535
 prt : ∀ t∈s.tenants,t.ports.length<=1073741824
 ent : ∀ t∈s.tenants,(O1 t h).2=true->FX (O1 t h).1=true
def MJ:E7:={ h17 with pc:=[46,76,91,112,122,131,143,158],fz:=[(36,[(9,none,false)])] }
@[go_sem] theorem Adc(k:Nat):MJ.lv k=h17.lv k:=AG rfl rfl
@[go_sem] theorem Ade(k:Nat):MJ.ct k=h17.ct k:=AG rfl rfl
@[go_sem] theorem Add(k:Nat):MJ.dn k=h17.dn k:=AG rfl rfl
@[go_sem] theorem Adf:MJ.at 0=[]/\MJ.at 1=[]/\MJ.at 2=[]/\MJ.at 3=[]/\MJ.at 4=[]/\MJ.at 5=[]/\MJ.at 6=[]/\MJ.at 7=[]/\MJ.at 8=[]/\MJ.at 9=[]/\MJ.at 10=[]/\MJ.at 11=[]/\MJ.at 12=[]/\MJ.at 13=[]/\MJ.at 14=[]/\MJ.at 15=[]/\MJ.at 16=[]/\MJ.at 17=[]/\MJ.at 18=[]/\MJ.at 19=[]/\MJ.at 20=[]/\MJ.at 21=[]/\MJ.at 22=[]/\MJ.at 23=[]/\MJ.at 24=[]/\MJ.at 25=[]/\MJ.at 26=[]/\MJ.at 27=[]/\MJ.at 28=[]/\MJ.at 29=[]/\MJ.at 30=[]/\MJ.at 31=[]/\MJ.at 32=[]/\MJ.at 33=[]/\MJ.at 34=[]/\MJ.at 35=[]/\MJ.at 36=[(9,none,false)]:=⟨rfl,rfl,rfl,rfl,rfl,rfl,rfl,rfl,rfl,rfl,rfl,rfl,rfl,rfl,rfl,rfl,rfl,rfl,rfl,rfl,rfl,rfl,rfl,rfl,rfl,rfl,rfl,rfl,rfl,rfl,rfl,rfl,rfl,rfl,rfl,rfl,rfl⟩
@[go_sem] theorem Agx:MJ.tk=[82,97,101,103,125,168,169,170]/\MJ.mt=[]/\MJ.pc=[46,76,91,112,122,131,143,158]:=⟨rfl,rfl,rfl⟩
theorem AWz:FK AA 17 f17 MJ:=⟨kr,kr,func17,kr⟩
theorem AI0(l:List (List E6)):(HE l).map borrow1=HE l:=by
 induction l with
 | nil=>rfl
 | cons x l ih =>
  have:HE (x::l) = .sl none (Fe x)::HE l:=rfl
  rw [this,AR,ih];rfl
theorem nC(l:List (List E6)):Hy false 1 l.length (HE l)=HE l:=by
 have:=oP (HE l)
 rwa [Rr] at this
structure okC6 (s:FD) (sts:List (List E6)) (h:E8) (tick:Int) (pn f n:Nat) (q:List FB) (now:List (List E6)) (out:List FE) (X:FR):Prop where
 c0:X[0]? =some (some s.c)
 c2:X[2]? =some (some [.sl (some 12) (K0 q)])
 cn:X[pn]? =some (some (HE now))
 fuel:n+f=600
 res:NC s sts h tick=TP s tick f n q now out
 ql:q.length<=256/\n<=q.length/\out.length<=n*256
 itm : ∀ (i:Nat) (x:FB),q[i]? =some x->FX x.head=true/\(0<=x.tenant/\x.tenant<(s.tenants.length:Int))/\x.chain.length<=i
 nl:now.length=s.tenants.length
 st : ∀ (k:Nat) (t:FC) (st:List E6),s.tenants[k]? =some t->now[k]? =some st->Pv (GO t).1 st/\st.length<=268435456+n*256000
structure okP6 (s:FD) (x:FB) (t:FC) (n pn ox:Nat) (now:List (List E6)) (q:List FB) (out:List FE) (Z:FR) (j:Nat):Prop where
 c0:Z[0]? =some (some s.c)
 c2:Z[2]? =some (some [.sl (some 12) (K0 q)])
 cn:Z[pn]? =some (some (HE now))
 cx:Z[ox]? =some (some x.c)
 ct:Z[ox+1]? =some (some t.c)
 len:ox+2<=Z.length
 itm : ∀ (i:Nat) (y:FB),q[i]? =some y->FX y.head=true/\(0<=y.tenant/\y.tenant<(s.tenants.length:Int))/\y.chain.length<=i
 ql:n<q.length/\q.length<=256+j
 ol:out.length<=n*256+j
theorem okP6.grow{s:FD}{x:FB}{t:FC}{n pn ox:Nat}{now:List (List E6)}{q:List FB}{out:List FE}{Z:FR}{j:Nat}(h:okP6 s x t n pn ox now q out Z j)(L:FR):okP6 s x t n pn ox now q out (Z++L) (j+1) :=
 ⟨FY h.c0 _,FY h.c2 _,FY h.cn _,FY h.cx _,FY h.ct _,by rw [AF];have:=h.len;omega,h.itm,⟨h.ql.1,by have:=h.ql.2;omega⟩,by have:=h.ol;omega⟩
theorem okP6.out{s:FD}{x:FB}{t:FC}{n pn ox:Nat}{now:List (List E6)}{q:List FB}{out:List FE}{Z:FR}{j:Nat}(h:okP6 s x t n pn ox now q out Z j)(L:FR)(d:FE):okP6 s x t n pn ox now q (out++[d]) (Z++L) (j+1) :=
 ⟨FY h.c0 _,FY h.c2 _,FY h.cn _,FY h.cx _,FY h.ct _,by rw [AF];have:=h.len;omega,h.itm,⟨h.ql.1,by have:=h.ql.2;omega⟩,by rw [AF,Bm];have:=h.ol;omega⟩
theorem okP6.put{s:FD}{x:FB}{t:FC}{n pn ox:Nat}{now:List (List E6)}{q:List FB}{out:List FE}{Z:FR}{j:Nat}(h:okP6 s x t n pn ox now q out Z j)(L M:FR)(d:FB)(hp:2<pn)(hox:2<ox)(hd:FX d.head=true/\(0<=d.tenant/\d.tenant<(s.tenants.length:Int))/\d.chain.length<=n+1):
  okP6 s x t n pn ox now (q++[d]) out ((Z++L).set 2 (some [.sl (some 12) (K0 (q++[d]))])++M) (j+1):=by
 have h2:=(AC.1 h.c2).1
 have hs : ∀ (i:Nat) (v:Option (List AV)),i≠2->Z[i]? =some v->((Z++L).set 2 (some [.sl (some 12) (K0 (q++[d]))])++M)[i]? =some v:=λi v hi hv=>FY (by rw [A5 (Ne.symm hi)];exact FY hv _) _
 refine ⟨hs 0 _ FQ h.c0,FY (A3 (by rw [AF];omega)) _,hs pn _ FQ h.cn,hs ox _ FQ h.cx,hs (ox+1) _ FQ h.ct,by rw [AF,An,AF];have:=h.len;omega,λi y hy=>?_,⟨by rw [AF];have:=h.ql.1;omega,by rw [AF,Bm];have:=h.ql.2;omega⟩,by have:=h.ol;omega⟩
 rw [List.getElem?_append] at hy
 split at hy
 ·exact h.itm i y hy
 ·rename_i hi
  have hql:=h.ql.1
  have:i=q.length:=by
   by_cases he:i - q.length=0
   ·omega
   ·rw [Az (by rw [Bm];omega)] at hy
    cases hy
  subst this
  rw [AP] at hy
  cases hy
  exact ⟨hd.1,hd.2.1,by have:=hd.2.2;omega⟩
theorem ABh(l:List (List E6))(i:Nat)(e:List E6)(h:i<l.length):splice (HE l) i [.sl none (Fe e)]=HE (l.set i e):=by
 unfold splice
 rw [DD,iP h]
 simp [HE]
theorem AIl(s:FD)(sts:List (List E6))(h:E8)(tick:Int)(hr:FX h=true)(R:okRun s sts h tick):A' AA 17 [.agg s.c,.sl none (HE sts),.agg h.c,.int .i64 tick] (qn sts (NC s sts h tick)):=by
 have hnt:=R.ten
 refine pB AWz rfl ?_ (hv:=mD _ _)
 simp only [f17,go_sem]
 refine Fq s.tenants (λ(_:List FB×FR) (_:List FC)=>()) (λk a=>a.1++OI h k (s.tenants.drop k)=OI h 0 s.tenants/\a.1.length<=k /\ ∀ x∈a.1,x.chain=[]/\FX x.head=true/\0<=x.tenant/\x.tenant<(s.tenants.length:Int))
  (λk _=>[(1,.sl none (HE sts)),(3,.int .i64 tick),(4,.ptr 0 0),(6,.ptr 1 0),(11,.ptr 2 0),(12,.fn (.func 40) [] [.ptr 2 0]),(36,.sl none (HW s.tenants)),(37,.int .i64 s.tenants.length),(38,.int .i64 k)])
  (λ_ a=>some s.c::some h.c::some [.sl (some 12) (K0 a.1)]::a.2) ([],[]) FQ ⟨rfl,sm,sm⟩ rfl rfl ?_ ?_
 ·rintro k ⟨q,J⟩ t ts hd hx ⟨i1,i2,i3⟩ _ h0 h1 hw
  dsimp only at i1 i2 i3 ⊢
  have htm:=AB hx
  have hkl:=(AC.1 hx).1
  have c1:=re t (R.prt t htm) h
  have ht:=R.ent t htm
  rw [hd,OI] at i1
  have hd2:s.tenants.drop (k+1)=ts:=by rw [<- A8,hd];rfl
  have eT:LE (IA t (i64 (h.h0 - 10000))) h=O1 t h:=rfl
  rw [eT] at c1
  have gN : ∀ a b c (L:FR) z,(a::b::c::(L++[z]))[List.length (a::b::c::L)]? =some z:=λa b c L z=>by
   have:a::b::c::(L++[z])=(a::b::c::L)++[z]:=sm
   rw [this];exact BX
  have sN : ∀ a b c (L:FR) z z2,(a::b::c::(L++[z])).set (List.length (a::b::c::L)) z2=a::b::c::(L++[z2]):=λa b c L z z2=>by
   have:a::b::c::(L++[z])=(a::b::c::L)++[z]:=sm
   rw [this];simp
  simp only [go_sem,h0,h1,GV hx]
  refine pK c1 ?_
  cases he:(O1 t h).2 with
  | false =>
   rw [he,iN dc] at i1
   simp only [go_sem,hw]
   exact ⟨(q,_),⟨by rw [hd2];exact i1,by dsimp only;omega,i3⟩,rfl,rfl⟩
  | true =>
   rw [he,iP rfl] at i1
   simp only [go_sem]
   refine Fr.intro (AAq q FQ ⟨(k:Nat),(O1 t h).1,[]⟩ (some 1) _ 2 rfl) λv H' hq=>?_
   obtain ⟨rfl,ext,rfl⟩:=hq
   simp only [go_sem,hw]
   refine ⟨(q++[⟨(k:Nat),(O1 t h).1,[]⟩],_),⟨by rw [hd2,AE];exact i1,by rw [AF];exact Dv i2,λx hx=>?_⟩,rfl,rfl⟩
   rcases Ar.1 hx with hx|hx
   ·exact i3 x hx
   ·rcases Ab.1 hx with rfl
    exact ⟨rfl,ht he,by dsimp only;omega,by dsimp only;omega⟩
 ·rintro ⟨q,J⟩ ⟨i1,i2,i3⟩ _
  dsimp only at i1 i2 i3 ⊢
  have hq0:q=OI h 0 s.tenants:=by rw [<- i1,List.drop_length,OI,Ag]
  simp only [go_sem,AX,dF]
  refine Fr.intro (ABA sts (by have:=R.len;omega) _) λv H' hq=>?_
  rcases hq with ⟨hnil,rfl,rfl⟩|⟨rfl,rfl⟩
  ·have ht0:s.tenants=[]:=List.length_eq_zero_iff.1 (by rw [<- R.len,hnil];rfl)
   have hq1:q=[]:=by rw [hq0,ht0];rfl
   have hres:NC s sts h tick=some ([],[]):=by unfold NC;rw [ht0,hnil];rfl
   subst hq1
   rw [hres]
   simp only [go_sem]
   refine Km (σ:=Unit) (λ_=>[(1,.sl none (HE sts)),(3,.int .i64 tick),(4,.ptr 0 0),(11,.ptr 2 0),(12,.fn (.func 40) [] [.ptr 2 0]),(17,.sl (some 1) []),(18,.sl (some 12) []),(19,.int .i64 0)])
    (λ_=>some s.c::some h.c::some [.sl (some 12) (K0 [])]::J) (λ_=>True) (λ_=>0) () trivial rfl rfl λ_ _=>?_
   have z0 : ¬ ((0:Int)<((0:Nat):Int)):=dc
   simp only [go_sem,z0,dF,AH]
   rfl
  ·simp only [go_sem]
   generalize hpn:List.length (some s.c::some h.c::some [AV.sl (some 12) (K0 q)]::J)+1=pn
   refine Km (σ:=Nat×Nat×List FB×List (List E6)×List FE×FR) (λa=>[(1,.sl none (HE sts)),(3,.int .i64 tick),(4,.ptr 0 0),(11,.ptr 2 0),(12,.fn (.func 40) [] [.ptr 2 0]),(17,.msl pn 0 sts.length 1),(18,.sl (some 12) (F5 a.2.2.2.2.1)),(19,.int .i64 a.2.1)])
    (λa=>a.2.2.2.2.2) (λa=>okC6 s sts h tick pn a.1 a.2.1 a.2.2.1 a.2.2.2.1 a.2.2.2.2.1 a.2.2.2.2.2) (λa=>a.1) (600,0,q,sts,[],_) ?_ rfl rfl ?_
   ·refine ⟨rfl,rfl, ?_,rfl,by rw [hq0];rfl,⟨by dsimp only;omega,BW _,BW _⟩,λi x hx=>?_,R.len,λk t st h1 h2=>?_⟩
    ·subst hpn
     simp
    ·obtain ⟨y1,y2,y3,y4⟩:=i3 x (AB hx)
     exact ⟨y2,⟨y3,y4⟩,by rw [y1];exact BW _⟩
    ·have:=R.st k t st h1 h2
     exact ⟨this.1,by have:=this.2;dsimp only;omega⟩
   rintro ⟨f,n,q,now,out,X⟩ hI
   dsimp only at hI ⊢
   clear i1 i2 i3 hq0
   obtain ⟨x1,x2,x3,x4,x5,x6,x7,x8,x9⟩:=hI
   simp only [go_sem,x2]
   refine cS ?_ ?_<;>intro hc
   ·have hc:=of_decide_eq_true hc
    have hnl:n<q.length:=FQ
    obtain ⟨x,hx⟩ : ∃ x,q[n]? =some x:=⟨_,AL hnl⟩
    obtain ⟨hxr,⟨hx0,hx1⟩,hxc⟩:=x7 n x hx
    obtain ⟨m,hm⟩ : ∃ m:Nat,x.tenant=(m:Int):=⟨x.tenant.toNat,FQ⟩
    have hmT:m<s.tenants.length:=FQ
    obtain ⟨t,ht⟩ : ∃ t,s.tenants[m]? =some t:=⟨_,AL hmT⟩
    obtain ⟨st,hst⟩ : ∃ st,now[m]? =some st:=⟨_,AL FQ⟩
    have htm:=AB ht
    obtain ⟨p1,p2⟩:=R.prg m t ht
    obtain ⟨s1,s2⟩:=x9 m t st ht hst
    have c1:=R.whole t htm
    have hlenb:st.length+(GO t).1.length*256<=1073741823:=by have:=x6.1;have:=x6.2.1;omega
    have hfl:s.fields.length<=1073741824:=by have:=ap (LG R.bulk);omega
    have c2:=AWn s.fields R.fld hfl (GO t).1 p1 st hlenb s1 x.head hxr tick R.tick
    have l0:=(AC.1 x1).1
    have l2:=(AC.1 x2).1
    have ln:=(AC.1 x3).1
    have gX0:=FY x1
    have gX2:=FY x2
    have gXn:=FY x3
    have gx : ∀ y L,(X++y::L)[X.length]? =some y:=λy L=>sm
    have gx1 : ∀ y z L,(X++y::z::L)[X.length+1]? =some z:=λy z L=>sm
    have sx : ∀ y z,(X++[y]).set X.length z=X++[z]:=λy z=>sm
    have sx1 : ∀ y z w,(X++[y,z]).set (X.length+1) w=X++[y,w]:=λy z w=>sm
    have hm0:(0:Int)<=(m:Int):=FQ
    have hm1:(m:Int)<(s.tenants.length:Int):=FQ
    have hm2:(m:Int)<(sts.length:Int):=by rw [R.len];omega
    have hxi:(Item.c x)[0]? =some (.int .i64 x.tenant):=rfl
    have h0n:(0:Int)<=(n:Int):=FQ
    simp only [go_sem,h0n,hc,x2,gX0,gx,gx1,sx,sx1,uF hx,GV ht,hm,hm0,AF,AD,AH,AY]
    refine pK c1 ?_
    simp only [go_sem,gX0,gXn,gx,hxi,Rs hst,hm,hm0,hm2,AY,Nat.reduceAdd]
    obtain ⟨f',rfl⟩ : ∃ f',f=f'+1:=⟨f - 1,FQ⟩
    have hto:x.tenant.toNat=m:=FQ
    have b2:((2:Int) !=0)=true:=rfl
    have b0:((0:Int) !=0)=false:=rfl
    cases er:Sk s.fields (GO t).1 st x.head tick with
    | none =>
     rw [er,AAZ] at c2
     have hres:NC s sts h tick=none:=by rw [x5,TP,hx];dsimp only;rw [hto,ht,hst];dsimp only;rw [er]
     rw [hres]
     refine pK c2 ?_
     simp only [go_sem,b2]
     rfl
    | some b =>
     rw [er,AAZ] at c2
     obtain ⟨r1,r2,r3,r4⟩:=eD R.fld hfl p1 R.tick s1 hlenb hxr er
     have e5:TP s tick (f'+1) n q now out=if 256<(Xm s x t tick (q,out) b.1).1.length then none else TP s tick f' (n+1) (Xm s x t tick (q,out) b.1).1 (now.set m b.2) (Xm s x t tick (q,out) b.1).2:=by rw [TP,hx];dsimp only;rw [hto,ht,hst];dsimp only;rw [er]
     rw [e5] at x5
     have sXn : ∀ (L:FR) y,(X++L).set pn y=X.set pn y++L:=λL y=>LN ln L
     refine pK c2 ?_
     have hml:m+1<=now.length:=FQ
     have hsp:=ABh now m b.2 FQ
     simp only [go_sem,b0,sXn,hml,hsp,gXn,gx,hxi,hm,hm0,hm2,AD,AH,AY]
     have hX2:2≠pn:=by subst hpn;simp
     have hX0:0≠pn:=by subst hpn;simp
     have lsn:(X.set pn (some (HE (now.set m b.2)))).length=X.length:=An ..
     refine Fq b.1 (λ(a:List FB×List FE×FR) (r:List E8)=>Xm s x t tick (a.1,a.2.1) r) (λj a=>okP6 s x t n pn X.length (now.set m b.2) a.1 a.2.1 a.2.2 j) (λj a=>[(1,.sl none (HE sts)),(3,.int .i64 tick),(4,.ptr 0 0),(11,.ptr 2 0),(12,.fn (.func 40) [] [.ptr 2 0]),(17,.msl pn 0 sts.length 1),(18,.sl (some 12) (F5 a.2.1)),(19,.int .i64 n),(20,.ptr X.length 0),(21,.ptr (X.length+1) 0),(103,.sl none (F3 b.1)),(104,.int .i64 b.1.length),(105,.int .i64 j)])
      (λ_ a=>a.2.2) (q,out,_) FQ ?_ ?_ rfl ?_ ?_
     ·have u0:(X.set pn (some (HE (now.set m b.2))))[0]? =some (some s.c):=by rw [A5 (Ne.symm hX0)];exact x1
      have u2:(X.set pn (some (HE (now.set m b.2))))[2]? =some (some [.sl (some 12) (K0 q)]):=by rw [A5 (Ne.symm hX2)];exact x2
      have un:(X.set pn (some (HE (now.set m b.2))))[pn]? =some (some (HE (now.set m b.2))):=A3 ln
      refine ⟨FY u0 _,FY u2 _,FY un _, ?_, ?_, ?_,x7,⟨hnl,by dsimp only;omega⟩,by dsimp only;omega⟩
      ·dsimp only
       rw [<- lsn];simp
      ·dsimp only
       rw [<- lsn];simp
      ·dsimp only
       rw [AF,lsn];exact AU _
     ·rfl
     ·rintro j ⟨q2,out2,Z⟩ p ps hd2 hxp hI2 hF2 g0 g1 gw
      dsimp only at hI2 hF2 ⊢
      have hI3:=hI2
      obtain ⟨y0,y2,yn,yx,yt,yl,y7,y8,y9⟩:=hI2
      have hrp:=r1 p (AB hxp)
      have hjl:=(AC.1 hxp).1
      have d1:=AUF t p
      have eX:R3 (JZ t p.h0) p=exT t p:=rfl
      rw [eX] at d1
      have d2:=AFQ s R.fld FQ (by have:=LR (Hm R.bulk);omega) m t ht p hrp tick R.pred
      have d3:=fI x.chain FQ
      have hxk:(Item.c x)[11]? =some (.sl none (GC x.chain)):=rfl
      have eK:H7 (VN s t.name p tick) s.contracts=RX s t p tick:=rfl
      rw [eK] at d2
      have l0':=(AC.1 y0).1
      have l2':=(AC.1 y2).1
      have gY0:=FY y0
      have gY2:=FY y2
      have gYx:=FY yx
      have gYt:=FY yt
      have gz : ∀ y L,(Z++y::L)[Z.length]? =some y:=λy L=>sm
      have gz1 : ∀ y z L,(Z++y::z::L)[Z.length+1]? =some z:=λy z L=>sm
      have sz : ∀ y z,(Z++[y]).set Z.length z=Z++[z]:=λy z=>sm
      have sz0 : ∀ y a z,(Z++[y,a]).set Z.length z=Z++[z,a]:=λy a z=>sm
      have sz1 : ∀ y z w,(Z++[y,z]).set (Z.length+1) w=Z++[y,w]:=λy z w=>sm
      have hpk:Xm s x t tick (q,out) b.1=Xm s x t tick (lS s x t tick (q2,out2) p) ps:=hF2
      simp only [go_sem,g0,g1,IH hxp,gYt,gz,sz,AY]
      refine pK d1 ?_
      cases he:(exT t p).2 with
      | false =>
       simp only [go_sem,gz1,sz1,gw,AF,AD,AH,AY,Aw]
       have e6:lS s x t tick (q2,out2) p=(q2,out2):=by unfold lS;rw [iP he]
       exact ⟨(q2,out2,_),by rw [Xm,e6],hI3.grow _,rfl,rfl⟩
      | true =>
       simp only [go_sem,gz,gz1,sz1,gY0,gYx,hxi,hm,AF,AD,AH,AY,Av]
       refine pK d2 ?_
       simp only [go_sem]
       refine cS ?_ ?_<;>intro hc3
       ·have hc3:=of_decide_eq_true hc3
        have e6:lS s x t tick (q2,out2) p=(q2,out2++[⟨x.tenant,(exT t p).1,x.chain⟩]):=by unfold lS;rw [iN (by rw [he];decide),iP hc3]
        simp only [go_sem,gz1,gYx,hxi,hxk,hm,AY]
        refine pK d3 ?_
        simp only [go_sem,gw,AD,AH,AY,Nat.reduceAdd]
        exact ⟨FQ,FQ,(q2,out2++[⟨x.tenant,(exT t p).1,x.chain⟩],_),by rw [Xm,e6],hI3.out _ _,by rw [hm],rfl⟩
       ·have hc3:=of_decide_eq_false hc3
        obtain ⟨ci,d,hK,hd⟩ : ∃ (ci:Nat) (d:FF),RX s t p tick=(ci:Int)/\s.contracts[ci]? =some d:=by
         rcases Ls (VN s t.name p tick) s.contracts 0 with ⟨w1,w2⟩|⟨i,y,w1,w2,w3⟩
         ·have:RX s t p tick = -1:=w1
          omega
         ·exact ⟨i,y,by unfold RX H7;rw [w1,AY],w2⟩
        have hdm:=AB hd
        obtain ⟨t1,t2⟩:=R.to d hdm
        obtain ⟨t3,t4⟩:=R.port d hdm
        have hcl:=(AC.1 hd).1
        have hcn:s.contracts.length<=1048576:=LR (Hm R.bulk)
        have k0:(0:Int)<=(ci:Int):=FQ
        have k1:(ci:Int)<(s.contracts.length:Int):=FQ
        have hkt:(RX s t p tick).toNat=ci:=FQ
        have e6:lS s x t tick (q2,out2) p=(q2++[⟨GP s d.dst,{ p with h0:=d.toPort },x.chain++[(ci:Int)]⟩],out2):=by unfold lS;rw [iN (by rw [he];decide),iN hc3,hkt,hd,hK]
        have d4:=fC s d.dst FQ
        have d5:dZ (GP s d.dst) = .tup [.int .i64 (GP s d.dst),.bool true]:=by unfold dZ Qv;rw [decide_eq_true t1];congr;split<;>omega
        rw [d5] at d4
        simp only [go_sem,hK,k0,H6 hd,gY0,AY]
        refine pK d4 ?_
        simp only [go_sem,k0,H6 hd,gz,sz0,gY0,gYx,hxk,AD,AH,AY]
        refine pK d3 ?_
        simp only [go_sem,AD,AH,AY,Nat.reduceAdd]
        refine ⟨FQ,FQ, ?_⟩
        have hrp':FX { p with h0:=d.toPort }=true:=VX hrp t3 t4
        refine Fr.intro (AAq q2 FQ ⟨GP s d.dst,{ p with h0:=d.toPort },x.chain++[(ci:Int)]⟩ (some 1) _ 2 (FY y2 _)) λv H' hq=>?_
        obtain ⟨rfl,ext,rfl⟩:=hq
        simp only [go_sem,gw]
        exact ⟨(q2++[⟨GP s d.dst,{ p with h0:=d.toPort },x.chain++[(ci:Int)]⟩],out2,_),by rw [Xm,e6],hI3.put _ _ _ (by subst hpn;simp) FQ ⟨hrp',⟨t1,t2⟩,by rw [AF];exact Dv hxc⟩,rfl,rfl⟩
     ·rintro ⟨q2,out2,Z⟩ hI2 hF2
      dsimp only at hI2 hF2 ⊢
      obtain ⟨y0,y2,yn,yx,yt,yl,y7,y8,y9⟩:=hI2
      have hpk:Xm s x t tick (q,out) b.1=(q2,out2):=hF2
      rw [hpk] at x5
      simp only [go_sem,AX,dF,y2]
      refine cS ?_ ?_<;>intro hc3
      ·have hc3:=of_decide_eq_true hc3
       have hres:NC s sts h tick=none:=by rw [x5];exact iP (by dsimp only;omega)
       rw [hres]
       simp only [go_sem]
       rfl
      ·have hc3:=of_decide_eq_false hc3
       have hres:NC s sts h tick=TP s tick f' (n+1) q2 (now.set m b.2) out2:=by rw [x5];exact iN (by dsimp only;omega)
       have hwn:IntKind.i64.wrap ((n:Int)+1)=((n+1:Nat):Int):=Mj FQ
       simp only [go_sem,hwn]
       refine ⟨(f',n+1,q2,now.set m b.2,out2,Z),⟨y0,y2,yn,by dsimp only;omega,hres,⟨by dsimp only;omega,y8.1,by dsimp only;omega⟩,y7,by rw [An];exact x8,λk t2 st2 h1 h2=>?_⟩,by dsimp only;omega,rfl,rfl⟩
       dsimp only at h2 ⊢
       rw [Au] at h2
       split at h2
       ·rename_i hkm
        subst hkm
        rw [ht] at h1
        cases h1
        split at h2
        ·cases h2
         exact ⟨r3,FQ⟩
        ·cases h2
       ·have:=x9 k t2 st2 h1 h2
        exact ⟨this.1,Nat.le_trans this.2 (Nat.add_le_add_left (Nat.mul_le_mul_right _ (DU n)) _)⟩
   ·have hc:=of_decide_eq_false hc
    have hq2:q[n]? =none:=Az FQ
    have hres:NC s sts h tick=some (out,now):=by
     rw [x5]
     obtain ⟨f',rfl⟩ : ∃ f',f=f'+1:=⟨f - 1,FQ⟩
     rw [TP,hq2]
    rw [hres]
    simp only [go_sem,x3]
    have hlen2:now.length=sts.length:=by rw [x8,R.len]
    rw [iP ⟨FQ,.inr trivial⟩,AI0,<- hlen2,nC]
    simp only [go_sem]
    rfl
def Qb(s:FD):Nat->List Int->Nat->Prop
 | a,[],k=>a=k
 | a,x::r,k => ∃ d,0<=x/\s.contracts[x.toNat]? =some d/\d.src=(HJ s (a:Int)).name/\Qb s (GP s d.dst).toNat r k
theorem ZB{s:FD}{x:Int}{d:FF}(h0:0<=x)(hd:s.contracts[x.toNat]? =some d): ∀ {c:List Int} {a k:Nat},Qb s a c k->d.src=(HJ s (k:Int)).name->Qb s a (c++[x]) (GP s d.dst).toNat
 | [],a,k,h,hs=>by
  have:a=k:=h
  subst this
  exact ⟨d,h0,hd,hs,rfl⟩
 | y::c,a,k,h,hs=>by
  obtain ⟨e,e0,e1,e2,e3⟩:=h
  exact ⟨e,e0,e1,e2,ZB h0 hd e3 hs⟩
theorem Q7{s:FD}(hR:R19 s){d:FF}(hd:d∈s.contracts):(GP s d.dst).toNat<s.tenants.length:=by
 have h0:=(Lz (hR.con d hd)).2
 obtain ⟨v,_,_,_,hv⟩:=Kv h0
 omega
theorem ZC{s:FD}(hR:R19 s): ∀ {c:List Int} {a k:Nat},a<s.tenants.length->Qb s a c k->(c=[]/\a=k)\/zR s k<zR s a
 | [],a,k,_,h => .inl ⟨rfl,h⟩
 | x::c,a,k,ha,h=>by
  obtain ⟨d,_,e1,e2,e3⟩:=h
  have hdm:=AB e1
  have h1:=hR.rank ha hdm e2
  rcases ZC hR (Q7 hR hdm) e3 with ⟨_,h2⟩|h2
  ·right;rw [<- h2];exact h1
  ·right;omega
theorem rV{s:FD}(hR:R19 s)(k:Nat): ∀ (c:List Int) (f a:Nat) (ch:List Int),a<s.tenants.length->zR s a<f->Qb s a c k->ch++c∈Sc s k f a ch
 | c,0,a,ch,_,hf,_=>FQ
 | [],f+1,a,ch,_,_,h=>by
  have:a=k:=h
  subst this
  rw [oR,Ag]
  exact Ab.2 rfl
 | x::c,f+1,a,ch,ha,hf,h=>by
  have hne:a≠k:=by
   rcases ZC hR ha h with ⟨h1,_⟩|h1
   ·cases h1
   ·intro he;subst he;omega
  obtain ⟨d,e0,e1,e2,e3⟩:=h
  have hdm:=AB e1
  have hrk:=hR.rank ha hdm e2
  rw [Sc,iN hne]
  refine List.mem_flatMap.2 ⟨(d,x.toNat),List.mem_zipIdx_iff_getElem?.2 e1, ?_⟩
  dsimp only
  rw [iP e2]
  have hx:((x.toNat:Nat):Int)=x:=FQ
  rw [hx]
  have ih:=rV hR k c f (GP s d.dst).toNat (ch++[x]) (Q7 hR hdm) FQ e3
  rwa [AE] at ih
theorem ACu : ∀ l:List Bool,OJ l<=l.length:=by
 intro l
 unfold OJ
 first|exact List.countP_le_length|exact Cw _ _
theorem AAS{s:FD}(k:Nat):zR s k<s.tenants.length+1:=by
 unfold zR
 have:=ACu (lQ s k)
 rw [Ra] at this
 omega
theorem T6{s:FD}(hR:R19 s){a k:Nat}(ha:a<s.tenants.length){c:List Int}(h:Qb s a c k):c∈Sc s k (s.tenants.length+1) a []:=by
 have:=rV hR k c (s.tenants.length+1) a [] ha (AAS a) h
 rwa [AO] at this
def itP(s:FD)(a:Nat)(q:List FB):Prop:=∀ x∈q,0<=x.tenant/\x.tenant<(s.tenants.length:Int)/\Qb s a x.chain x.tenant.toNat
def dlP(s:FD)(a:Nat)(out:List FE):Prop:=∀ d∈out,∃ (k:Nat) (t:FC) (p:E8),d.tenant=(k:Int)/\s.tenants[k]? =some t/\(exT t p).2=true/\d.head=(exT t p).1/\Qb s a d.chain k
theorem AAA{s:FD}{t:FC}{p:E8}{tick:Int}(h : ¬ RX s t p tick<0): ∃ d,s.contracts[(RX s t p tick).toNat]? =some d/\VN s t.name p tick d=true:=by
 rcases Ls (VN s t.name p tick) s.contracts 0 with ⟨w1,_⟩|⟨i,y,w1,w2,w3⟩
 ·exact absurd (show RX s t p tick<0 by unfold RX H7;rw [w1];decide) h
 ·refine ⟨y, ?_,Du w3⟩
  have:RX s t p tick=((i:Nat):Int):=by unfold RX H7;rw [w1,AY]
  rw [this];exact w2
theorem AAB{s:FD}{nm:ByteArray}{p:E8}{tick:Int}{d:FF}(h:VN s nm p tick d=true):d.src=nm:=by
 unfold VN at h
 simp only [AQ,decide_eq_true_eq] at h
 first|exact h.1.1|exact h.1
theorem AFD{s:FD}(hR:R19 s){a m:Nat}{x:FB}{t:FC}(ht:s.tenants[m]? =some t)(hx:x.tenant=(m:Int))(hp:Qb s a x.chain m){tick:Int}{b:List FB×List FE}(h1:itP s a b.1)(h2:dlP s a b.2)(p:E8):itP s a (lS s x t tick b p).1/\dlP s a (lS s x t tick b p).2:=by
 have hta:HJ s (m:Int)=t:=by unfold HJ;rw [Af,ht];rfl
 unfold lS
 split
 ·exact ⟨h1,h2⟩
 ·rename_i he
  have he:(exT t p).2=true:=by simpa using he
  split
  ·refine ⟨h1,λd hd=>?_⟩
   rcases Ar.1 hd with hd|hd
   ·exact h2 d hd
   ·rcases Ab.1 hd with rfl
    exact ⟨m,t,p,hx,ht,he,rfl,hp⟩
  ·rename_i hc
   obtain ⟨d,hd,hb⟩:=AAA hc
   have hdm:=AB hd
   rw [hd]
   refine ⟨λy hy=>?_,h2⟩
   rcases Ar.1 hy with hy|hy
   ·exact h1 y hy
   ·rcases Ab.1 hy with rfl
    have h0:=(Lz (hR.con d hdm)).2
    have hl:=Q7 hR hdm
    exact ⟨h0,by dsimp only;omega,ZB FQ hd hp (by rw [hta];exact AAB hb)⟩
theorem aJ{s:FD}(hR:R19 s){a m:Nat}{x:FB}{t:FC}(ht:s.tenants[m]? =some t)(hx:x.tenant=(m:Int))(hp:Qb s a x.chain m){tick:Int}: ∀ (r:List E8) {b:List FB×List FE},itP s a b.1->dlP s a b.2->itP s a (Xm s x t tick b r).1/\dlP s a (Xm s x t tick b r).2
 | [],_,h1,h2=>⟨h1,h2⟩
 | p::r,b,h1,h2=>by
  rw [Xm]
  obtain ⟨g1,g2⟩:=AFD hR ht hx hp (tick:=tick) h1 h2 p
  exact aJ hR ht hx hp r g1 g2
theorem ri{s:FD}(hR:R19 s){a:Nat}{tick:Int}: ∀ (f n:Nat) {q:List FB} {now:List (List E6)} {out:List FE} {r:List FE×List (List E6)},itP s a q->dlP s a out->TP s tick f n q now out=some r ->
  dlP s a r.1/\r.2.length=now.length /\ ∀ k,(∀ c,¬ Qb s a c k)->r.2[k]? =now[k]?
 | 0,n,q,now,out,r,_,_,e=>by rw [TP] at e;cases e
 | f+1,n,q,now,out,r,h1,h2,e=>by
  rw [TP] at e
  cases hx:q[n]? with
  | none =>
   rw [hx] at e
   cases e
   exact ⟨h2,rfl,λ_ _=>rfl⟩
  | some x =>
   rw [hx] at e
   dsimp only at e
   obtain ⟨x0,x1,x2⟩:=h1 x (AB hx)
   cases ht:s.tenants[x.tenant.toNat]? with
   | none=>rw [ht] at e;cases e
   | some t =>
    rw [ht] at e
    cases hs:now[x.tenant.toNat]? with
    | none=>rw [hs] at e;cases e
    | some st =>
     rw [hs] at e
     dsimp only at e
     cases er:Sk s.fields (GO t).1 st x.head tick with
     | none=>rw [er] at e;cases e
     | some b =>
      rw [er] at e
      dsimp only at e
      obtain ⟨g1,g2⟩:=aJ hR ht (x:=x) FQ x2 (tick:=tick) b.1 (b:=(q,out)) h1 h2
      split at e
      ·cases e
      ·obtain ⟨i1,i2,i3⟩:=ri hR f (n+1) g1 g2 e
       refine ⟨i1,by rw [i2,An],λk hk=>?_⟩
       rw [i3 k hk,A5]
       intro he
       subst he
       exact hk _ x2
end Go.AI
