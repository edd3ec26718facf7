/- A part. -/
import Derived.Test.YtmejnbhofjcibaaGreatDoorMg
import Derived.Sort.Walk0
set_option linter.unusedSimpArgs false
set_option linter.unusedVariables false
set_option linter.defProp false
open Go.Proofs.Tryz
open Go.AI renaming Pred->Er,Policy->Es,Sizes->Et,Stage->Eu,Tenant->Ev,Head->Ew
open Bool renaming and_eq_true->AM,and_false->Dg,and_true->Bp,eq_iff_iff->A',false_or->Bn,not_eq_true->Dd,not_false->Aw,not_true->As,or_eq_false_iff->CC,or_eq_true->CF,true_and->Be,true_or->BT
open Int renaming fdiv_eq_ediv_of_nonneg->Dn,lt_irrefl->AQ,toNat_natCast->Ag,toNat_one->EI
open Go.IntKind renaming bits->DI,signed->Dm,wrap->Dl
open List renaming all_cons->Al,all_eq_true->Am,any_cons->Au,any_eq_false->Bh,any_eq_true->CW,drop_eq_getElem_cons->BG,drop_zero->BC,ext_getElem?->A3,find?_cons->Bz,foldl_cons->CB,getD_eq_getElem?_getD->Cv,getElem?_append_left->AX,getElem?_append_right->AN,getElem?_eq_getElem->AH,getElem?_eq_none->Av,getElem?_eq_some_iff->AC,getElem?_map->Aa,getElem?_set->Ax,length_append->AF,length_cons->AD,length_map->Ap,map_map->By,mem_append->Ar,mem_append_left->Co,mem_append_right->DM,mem_cons->AY,mem_cons_of_mem->B0,mem_map->AO,mem_of_getElem?->AB,mem_range->Br,mem_singleton->Ab,pairwise_cons->Bf,range->Ak,takeWhile->EH,take_add_one->BD,take_length->BI
open Nat renaming add_comm->Bk,and_le_left->DJ,and_lt_two_pow->Do,and_two_pow_sub_one_eq_mod->EP,eq_of_testBit_eq->EN,le_refl->AT,le_trans->AL,lt_of_le_of_lt->CU,lt_of_lt_of_le->BP,lt_or_ge->BM,min_eq_left->B6,mod_eq_of_lt->Bw,mul_lt_mul_of_pos_right->EK,or_lt_two_pow->EJ,pow_add->EL,pow_le_pow_right->BX,shiftLeft_eq->Dp,sub_self->AP,succ_mul->DU,testBit_and->Cw,testBit_div_two_pow->Cx,testBit_lt_two_pow->EO,testBit_shiftLeft->DK,testBit_two_pow_sub_one->EM,testBit_xor->Dq,two_pow_pos->BW,xor_lt_two_pow->CX
open Go.Proofs.Tryz renaming prog->AA
namespace Go.AI
open Go.Proofs
set_option maxRecDepth 50000
@[go_sem] def AW2{P:Program}{t:TypeId}{x y:ByteArray}{d:Tmp}{K:Kt}{e:Fs}{H:cj}:IC P .lss t (.str x) (.str y) d K e H=K ((d,.bool (Op.bytesLess x.toList y.toList))::e) H:=by rw[PH];simp[KJ]
@[go_sem] def Agx{P:Program}{o:Option TypeId}{e:Fs}:G6 P o e (.global 0) = .cptr (HJ.map AV.str) 0:=rfl
def pz{P:Program}{f:FuncId}{vs:List AV}{d:Option Tmp}{K:Kt}{e:Fs}{H:cj}{v:AV}(h:FT P f vs v)(hk:K (put d v e) H):Fu P f vs d K e H :=
 (h H).mono λv' H' hr=>by obtain⟨rfl,rfl⟩:=hr;exact hk
def GM(P:Program)(f:FuncId)(vs:List AV)(H:cj)(v:AV):Prop:=Fa P f vs H λv' H'=>v'=v/\H'=H
def pw{P:Program}{f:FuncId}{vs:List AV}{d:Option Tmp}{K:Kt}{e:Fs}{H:cj}{v:AV}(h:GM P f vs H v)(hk:K (put d v e) H):Fu P f vs d K e H :=
 h.mono λv' H' hr=>by obtain⟨rfl,rfl⟩:=hr;exact hk
def aP{P:Program}{f:FuncId}{vs:List AV}{d:Option Tmp}{K:Kt}{e:Fs}{H:cj}{v:AV}(h:FT P f vs v)(hk:K (put d v e) H):Fu P f vs d K e H:=pz h hk
def aS{P:Program}{f:FuncId}{vs:List AV}{d:Option Tmp}{K:Kt}{e:Fs}{H:cj}{v:AV}(h:GM P f vs H v)(hk:K (put d v e) H):Fu P f vs d K e H:=pw h hk
def TY(a b:ByteArray):Bool:=Op.bytesLess a.toList b.toList
def aG(a:ByteArray):TY a a=false:=by
 unfold TY;rw[Go.Proofs.bytesLess_eq];simp[List.lt_irrefl]
def AA7{a b c:ByteArray}(h1:TY a b=true)(h2:TY b c=true):TY a c=true:=by
 unfold TY at *;rw[Go.Proofs.bytesLess_eq,decide_eq_true_eq]at *;exact List.lt_trans h1 h2
def Yo(c lo hi:Int):FT AA 341 [.int .u8 c,.int .u8 lo,.int .u8 hi] (.bool (decide (lo<=c)&&decide (c<=hi))):=by
 refine pC AJb rfl ?_
 simp only[f341,go_sem]
 repeat' (first|apply cg<;>intro hc<;>simp only[go_sem,hc])
 all_goals grind
def VH(c:UInt8):FT AA 315 [.int .u8 c.toNat] (.bool (loB c)):=by
 refine pC AKP rfl ?_
 simp only[f315,go_sem]
 repeat' (first|(apply pK (Yo _ _ _);simp only[go_sem])|apply cg<;>intro hc<;>simp only[go_sem,hc])
 all_goals first|rfl|(simp only[loB,bz])
def sR(c:UInt8):FT AA 344 [.int .u8 c.toNat] (.bool (dgB c)):=by
 refine pC AJP rfl ?_
 simp only[f344,go_sem]
 repeat' (first|(apply pK (Yo _ _ _);simp only[go_sem])|apply cg<;>intro hc<;>simp only[go_sem,hc])
 all_goals first|rfl|(simp only[dgB,bz])
def Z2(c:UInt8):FT AA 319 [.int .u8 c.toNat] (.bool (wdB c)):=by
 refine pC AJ' rfl ?_
 simp only[f319,go_sem]
 repeat' (first|((first|apply pK (VH _)|apply pK (sR _));simp only[go_sem])|apply cg<;>intro hc<;>simp only[go_sem,hc])
 all_goals (simp only[wdB,bz];grind)
def l7(s:ByteArray):FT AA 123 [.str s] (.bool false):=by
 refine pC ATA rfl ?_
 simp only[f123,go_sem,beq_self_eq_true,As]
def AAS(s:ByteArray):FT AA 343 [.str s] (.bool false):=by
 refine pC AJT rfl ?_
 simp only[f343,go_sem,beq_self_eq_true,As]
def AIE(a b:ByteArray):FT AA 342 [.str a,.str b] (.bool (TY a b)):=by
 refine pC AJX rfl ?_
 simp only[f342,go_sem]
 repeat' (first|(apply pK (l7 _);simp only[go_sem])|apply cg<;>intro hc<;>simp only[go_sem,hc])
 all_goals rfl
def bsI(s:ByteArray):Nat:=(HJ.takeWhile λw=>TY w s).length
def Nb:∀i j:Nat,i<j->j<49->TY (HJ.getD i ⟨#[]⟩) (HJ.getD j ⟨#[]⟩)=true:=by
 have h:((Ak 49).all λj=>(Ak j).all λi=>TY (HJ.getD i ⟨#[]⟩) (HJ.getD j ⟨#[]⟩))=true:=kr
 intro i j hi hj
 have h1:=Am.1 h j (Br.2 hj)
 exact Am.1 h1 i (Br.2 hi)
def M2:HJ.length=49:=rfl
def QE{α:Type}{p:α->Bool}: ∀(l:List α) (n:Nat),n<=l.length->(∀k x,l[k]? =some x->k<n->p x=true)->(∀x,l[n]? =some x->p x=false)->(l.takeWhile p).length=n
 |[],n,hn,_,_=>by simp at hn;subst hn;rfl
 |y::l,0,_,_,h2=>by
  have:=h2 y rfl
  simp[EH,this]
 |y::l,n+1,hn,h1,h2=>by
  have hy:=h1 0 y rfl FR
  simp only[EH,hy,AD]
  rw[QE l n (by simp at hn;omega) (λk x hk hl=>h1 (k+1) x (by simpa using hk) FR) (λx hx=>h2 x (by simpa using hx))]
def zH{s:ByteArray}{i:Nat}(hi:i<=49)(h1 : ∀ k,k<i->TY (HJ.getD k ⟨#[]⟩) s=true)(h2 : ∀ k,i<=k->k<49->TY (HJ.getD k ⟨#[]⟩) s=false):
  TM s=(decide (i<49)&&decide (HJ.getD i ⟨#[]⟩=s)):=by
 rw[A',AM,decide_eq_true_eq,decide_eq_true_eq,TM,CW]
 constructor
 ·rintro ⟨w,hw,he⟩
  have he:w=s:=by simpa using he
  subst he
  obtain⟨m,hm⟩:=List.getElem?_of_mem hw
  have hml:m<49:=by have:=(AC.1 hm).1;rw[M2]at this;exact this
  have hmg:HJ.getD m ⟨#[]⟩=w:=by rw[Cv,hm];rfl
  rcases BM m i with h|h
  ·have:=h1 m h;rw[hmg,aG]at this;cases this
  ·rcases BM i m with h'|h'
   ·have:=Nb i m h' hml
    rw[hmg]at this
    rw[h2 i (AT _) FR]at this;cases this
   ·have:i=m:=FR
    subst this
    exact⟨hml,hmg⟩
 ·rintro ⟨hl,he⟩
  have hm:HJ.getD i ⟨#[]⟩∈HJ:=by
   have:=AH (l:=HJ) (i:=i) (by rw[M2];exact hl)
   rw[Cv,this]
   exact List.getElem_mem _
  exact⟨_,hm,decide_eq_true he⟩
def Us{k:Nat}(h:k<49):(HJ.map AV.str)[k]? =some (.str (HJ.getD k ⟨#[]⟩)):=by
 rw[Aa,Cv,AH (by rw[M2];exact h)];rfl
@[go_sem] def AGn:FW (HJ.map AV.str)=true:=kr
@[go_sem] def AHw:(HJ.map AV.str).length=49:=rfl
@[go_sem] def AW4{P:Program}{t:TypeId}{x:Int}{d:Tmp}{K:Kt}{e:Fs}{H:cj}:IC P .shr t (.int .u64 x) (.int .u64 1) d K e H=K ((d,.int .u64 (x.fdiv 2))::e) H:=by
 rw[HL];simp[KJ,DI]
def AgC{i j:Nat}(hj:j<=49)(hi:i<j):IntKind.i64.wrap ((IntKind.u64.wrap (IntKind.i64.wrap ((i:Int)+(j:Int)))).fdiv 2)=(((i+j) / 2:Nat):Int):=by
 have e1:IntKind.i64.wrap ((i:Int)+(j:Int))=((i+j:Nat):Int):=OY FR FR
 rw[e1]
 have e2:IntKind.u64.wrap ((i+j:Nat):Int)=((i+j:Nat):Int):=by
  simp[Dl,Dm,DI];omega
 rw[e2]
 have e3:((i+j:Nat):Int).fdiv 2=(((i+j) / 2:Nat):Int):=by
  rw[Dn _ dc];omega
 rw[e3]
 exact OY FR FR
set_option maxHeartbeats 2000000 in
def AAN(s:ByteArray):FT AA 316 [.sl none (HJ.map AV.str),.str s] (.tup [.int .i64 (bsI s),.bool (TM s)]):=by
 refine pB AKL rfl ?_
 simp only[f316,go_sem]
 refine Ku (σ:=Nat×Nat) (λs2=>[(0,.sl none (HJ.map AV.str)),(1,.str s),(6,.int .i64 49),(7,.int .i64 s2.1),(8,.int .i64 s2.2)]) (λ_=>[]) (λs2=>s2.1<=s2.2/\s2.2<=49/\(∀k,k<s2.1->TY (HJ.getD k ⟨#[]⟩) s=true)/\(∀k,s2.2<=k->k<49->TY (HJ.getD k ⟨#[]⟩) s=false)) (λs2=>s2.2 - s2.1) (0,49) ⟨FR,FR,λk hk=>FR,λk h1 h2=>FR⟩ rfl rfl ?_
 rintro ⟨i,j⟩ ⟨hij,hj,h1,h2⟩
 by_cases hlt:i<j
 ·have g1:(i:Int)<(j:Int):=FR
  have g2:(0:Int)<=(((i+j) / 2:Nat):Int):=FR
  have g3:(((i+j) / 2:Nat):Int).toNat=(i+j) / 2:=FR
  have hm:(i+j) / 2<49:=FR
  have hw:=Mg (k:=(i+j) / 2) FR
  simp only[go_sem,g1,dT,AgC hj hlt,g2,g3,Us hm]
  repeat' (first|(apply pK (AIE _ _);simp only[go_sem])|apply cg<;>intro hc<;>simp only[go_sem,hc,hw])
  ·exact⟨((i+j) / 2+1,j),⟨FR,hj,λk hk=>by
    rcases BM k ((i+j) / 2)with h|h
    ·exact AA7 (Nb _ _ h hm) hc
    ·have:k=(i+j) / 2:=FR
     subst this;exact hc,h2⟩,FR,rfl,rfl⟩
  ·exact⟨(i,(i+j) / 2),⟨FR,FR,h1,λk hk hk9=>by
    rcases BM ((i+j) / 2) k with h|h
    ·cases hq:TY (HJ.getD k ⟨#[]⟩) s with
     |false=>rfl
     |true=>rw[AA7 (Nb _ _ h hk9) hq]at hc;cases hc
    ·have:k=(i+j) / 2:=FR
     subst this;exact hc⟩,FR,rfl,rfl⟩
 ·have hij:i=j:=FR
  subst hij
  have g1:¬(i:Int)<(i:Int):=FR
  have hwb:TM s=(decide (i<49)&&decide (HJ.getD i ⟨#[]⟩=s)):=zH hj h1 h2
  have hbs:bsI s=i:=QE HJ i (by rw[M2];exact hj) (λk x hk hl=>by
   have:=h1 k hl;rw[Cv,hk]at this;exact this) (λx hx=>by
   have:=h2 i (AT _) (by have:=(AC.1 hx).1;rw[M2]at this;exact this)
   rw[Cv,hx]at this;exact this)
  by_cases h49:i<49
  ·have g3:(i:Int)<49:=FR
   have g4:(0:Int)<=(i:Int):=FR
   simp only[go_sem,g1,dF,g3,g4,dT,Us h49,FV]
   repeat' (first|(apply pK (AAS _);simp only[go_sem])|apply cg<;>intro hc<;>simp only[go_sem,hc,g4,Us h49,Ag])
   all_goals (rw[hbs,hwb,hc];simp only[h49,dT,Dg,Aw,Bp])
  ·have g3:¬(i:Int)<49:=FR
   simp only[go_sem,g1,dF,g3]
   repeat' (first|(apply pK (AAS _);simp only[go_sem,g1,g3])|apply cg<;>intro hc<;>simp only[go_sem,hc,g1,g3])
   all_goals (rw[hbs,hwb];simp[h49])
def ACF(s:ByteArray){k:Nat}(h:k<=s.size):(s.extract k s.size).size=s.size - k:=by simp[ByteArray.size_extract]
def AFZ(s:ByteArray){k:Nat}(h:k<s.size):((s.extract k s.size).data[0]?).getD 0=(s.data[k]?).getD 0:=by
 have:(s.extract k s.size).data=s.data.extract k s.size:=by simp[ByteArray.data_extract]
 have h2:s.size=s.data.size:=rfl
 rw[this,Array.getElem?_extract]
 have h3:0<s.size - k:=FR
 simp[<- h2,h,h3]
def AE1(s:ByteArray)(h:0<s.size):FT AA 318 [.str s] (.bool (wdB ((s.data[0]?).getD 0))):=by
 have h0:(0:Int)<(s.size:Int):=FR
 refine pC AKD rfl ?_
 simp only[f318,go_sem,h0]
 repeat' (first|(apply pK (Z2 _);simp only[go_sem])|apply cg<;>intro hc<;>simp only[go_sem,hc,h0])
def AAP(s:ByteArray)(hs:s.size<=1073741824):FT AA 317 [.str s,.fn (.func 318) [] []] (.str (s.extract 0 (Mj s.data.toList))):=by
 refine pC AKH rfl ?_
 simp only[f317,go_sem]
 refine Wc s (λl=>s.size - l.length+Mj l) (λk=>[(0,.str s),(1,.fn (.func 318) [] []),(5,.int .i64 k)]) FR rfl ?_ ?_
 ·intro k x xs hd hx hF h0 h1 hw hl
  rw[S9]at hF
  simp only[AD,Mj]at hF
  have hk:k<s.size:=FR
  have hk2:(k:Int)<=(s.size:Int):=FR
  have hp:0<(s.extract k s.size).size:=by rw[ACF s FR];omega
  simp only[go_sem,h0,h1,hk2]
  repeat' (first|(refine aP (AE1 _ hp) ?_;simp only[go_sem,AFZ s hk,hx])|apply cg<;>intro hc<;>simp only[go_sem,hc,hw])
  ·rw[Mj,iP hc];omega
  ·rw[iN (by rw[hc];decide)]at hF
   have:Mj s.data.toList=k:=FR
   exact⟨FR,FR,by rw[this]⟩
 ·intro hF hlt
  simp only[go_sem,hlt,dF]
  rw[S9]at hF
  have:Mj s.data.toList=s.size:=by simp only[Mj,List.length_nil]at hF;omega
  exact⟨FR,by rw[this]⟩
def AFa{s:ByteArray}{n:Nat}(h:n<=s.size):(s.extract 0 n=s)↔n=s.size:=by
 constructor
 ·intro he
  have:=congrArg ByteArray.size he
  rw[ByteArray.size_extract]at this
  omega
 ·rintro rfl
  exact ByteArray.extract_zero_size
def qK:∀l:List UInt8,Mj l<=l.length
 |[]=>by simp[Mj]
 |c::l=>by have:=qK l;unfold Mj;split<;>simp<;>omega
def sQ(s:ByteArray)(hs:s.size<=1073741824):FT AA 267 [.str s] (.bool (tnB s)) := by
  have hr:Mj s.data.toList<=s.size := by have := qK s.data.toList;rw[S9]at this;exact this
  have hx:decide (s.extract 0 (Mj s.data.toList)=s)=((Mj s.data.toList:Int)==(s.size:Int)) := by
    rw[A',decide_eq_true_eq,AFa hr,beq_iff_eq];omega
  refine pC AMC rfl ?_
  by_cases hz:s=⟨#[]⟩
  · subst hz
    simp only[f267,go_sem,FV,dT]
    rfl
  · have h0:(0:Int)<(s.size:Int) := by
      have:s.size≠0 := λh=>hz (ByteArray.size_eq_zero_iff.1 h)
      omega
    simp only[f267,go_sem,FV,hz,dF]
    repeat' (first|((first|apply pK (VH _)|apply pK (AAN _)|apply pK (AAP _ hs));simp only[go_sem,FV,hx])|apply cg<;>intro hc<;>simp only[go_sem,hc,h0])
    all_goals first
      |rfl
      | (obtain ⟨x,xs,hx2⟩ : ∃ x xs,s.data.toList=x::xs := by
          cases h:s.data.toList with
          |nil=>rw[<- S9,h]at h0;simp at h0
          |cons x xs=>exact⟨x,xs,rfl⟩
         have hx0:(s.data[0]?).getD 0=x := by rw[<- Array.getElem?_toList,hx2];rfl
         simp only[hx0]at *
         simp only[tnB,hx2]
         simp only[hx2]at *
         grind)
      |skip
def AE0(s:ByteArray)(hs:s.size<=1073741824):FT AA 206 [.str s] (.bool (tnB s)):=by
 refine pC AOS rfl ?_
 simp only[f206,go_sem]
 repeat' (first|(apply pK (sQ _ hs);simp only[go_sem])|apply cg<;>intro hc<;>simp only[go_sem,hc])
def Im(s:ByteArray)(hs:s.size<=1073741824):FT AA 135 [.str s] (.bool (Uk s)):=by
 refine pC ASP rfl ?_
 simp only[f135,go_sem,FV]
 repeat' (first|(apply pK (AE0 _ hs);simp only[go_sem])|apply cg<;>intro hc<;>simp only[go_sem,hc])
 all_goals first
  |rfl
  |(simp only[Uk,GI];rfl)
  |grind[FV,Uk,GI,Bn,BT,Aw]
  |(simp only[Uk,GI];grind)
  |(simp[FV,Uk,GI,hc,Bn,BT,Aw, *];done)
  |(simp_all[FV,Uk,GI,hc,Bn,BT,Aw];done)
  |skip
def Il(n:Int):FT AA 136 [.int .i64 n] (.bool (RM n)):=by
 refine pC ASL rfl ?_
 simp only[f136,go_sem]
 repeat' (first|apply cg<;>intro hc<;>simp only[go_sem,hc])
 all_goals first
  |rfl
  |(simp only[RM];rfl)
  |grind[RM]
  |(simp only[RM];grind)
  |(simp[RM, *];done)
  |(simp_all[RM];done)
  |skip
def Uy(n:Int):Bool:=decide (0<=n)&&decide (n<=1073741824)
def Nl(n:Int):FT AA 204 [.int .i64 n] (.bool (Uy n)):=by
 refine pC AOa rfl ?_
 simp only[f204,go_sem]
 repeat' (first|apply cg<;>intro hc<;>simp only[go_sem,hc])
 all_goals first
  |rfl
  |(simp only[Uy];rfl)
  |grind[Uy]
  |(simp only[Uy];grind)
  |(simp[Uy, *];done)
  |(simp_all[Uy];done)
  |skip
def AAJ{cs:List AV}{l:List AV}(h:HU (.agg cs::l)):HU cs:=h.1
def G9{α:Type}(p:α->Bool):Nat->List α->Int
 |_,[] => -1
 |i,x::l=>if p x then(i:Int)else G9 p (i+1) l
def H8{α:Type}(p:α->Bool)(l:List α):Int:=G9 p 0 l
def Pj{α:Type}(p:α->Bool): ∀(l:List α) (i:Nat),decide (0<=G9 p i l)=l.any p
 |[],i=>rfl
 |x::l,i=>by
  rw[G9,Au]
  cases h:p x with
  |true=>simp
  |false=>simp[Pj p l (i+1)]
def rO{α:Type}(p:α->Bool)(l:List α):(!(l.any λx => !p x))=l.all p:=by
 induction l with
 |nil=>rfl
 |cons x l ih=>simp only[Au,Al,Bool.not_or,Bool.not_not,ih]
@[go_sem] def Afs{α:Type}(l:List α)(x:α):(l++[x])[l.length]? =some x:=sm
def ee{H:cj}(l:List Er)(hl:l.length<=9223372036854775807)(g:FuncId)(fi ca:List AV)(p:Er->Bool)
  (h:∀x∈l,GM AA g (fi.map AV.borrow++(.agg x.c::ca.map AV.borrow)) H (.bool (p x))):
  GM AA 314 [.sl none (GH l),.fn (.func g) fi ca] H (.int .i64 (H8 p l)):=by
 unfold GM
 refine aC AKT rfl ?_
 simp only[f314,go_sem]
 refine Fe l (λr=>G9 p (l.length - r.length) r) (λk=>[(0,.sl none (GH l)),(1,.fn (.func g) fi ca),(7,.int .i64 l.length),(8,.int .i64 k)]) hl rfl ?_ ?_
 ·intro k x xs hd hx hF h0 h1 hw
  have hk2:=Fq hd
  have e1:l.length - (xs.length+1)=k:=FR
  have e2:l.length - xs.length=k+1:=FR
  simp only[AD,e1,AP]at hF
  simp only[go_sem,h0,h1,GQ hx]
  repeat' (first|(refine aS (h x (AB hx)) ?_;simp only[go_sem])|apply cg<;>intro hc<;>simp only[go_sem,hc,hw,e1,e2])
  ·rw[H8,hF,G9,iP hc]
  ·rw[G9,iN (by rw[hc];decide)]
 ·intro hF hlt
  simp only[go_sem,hlt,dF]
  rw[AP]at hF
  rw[H8,hF];rfl
def VM{H:cj}(l:List Er)(hl:l.length<=9223372036854775807)(g:FuncId)(fi ca:List AV)(p:Er->Bool)
  (h:∀x∈l,GM AA g (fi.map AV.borrow++(.agg x.c::ca.map AV.borrow)) H (.bool (p x))):
  GM AA 265 [.sl none (GH l),.fn (.func g) fi ca] H (.bool (l.any p)):=by
 unfold GM
 refine aC AMK rfl ?_
 simp only[f265,go_sem]
 repeat' (first|(refine aS (ee l hl g fi ca p h) ?_;simp only[go_sem])|apply cg<;>intro hc<;>simp only[go_sem,hc])
 rw[H8,Pj]
def H6(l:List Er)(hl:l.length<=9223372036854775807)(n:Int)(g:FuncId)(p:Er->Bool)(h:∀x∈l,FT AA g [.agg x.c] (.bool (p x))):
  FT AA 205 [.sl none (GH l),.int .i64 n,.fn (.func g) [] []] (.bool (((l.length:Int)==n)&&l.all p)):=by
 refine pC AOW rfl ?_
 simp only[f205,go_sem]
 have h1:∀x∈l,GM AA 266 [.agg x.c,.ptr 0 0] [some [.fn (.func g) [] []]] (.bool (!p x)):=by
  intro x hx
  refine Fa.drop rfl ?_
  refine aC AMG rfl ?_
  simp only[f266,go_sem]
  repeat' (first|(refine aP (h x hx) ?_;simp only[go_sem])|apply cg<;>intro hc<;>simp only[go_sem,hc])
  exact⟨_,rfl⟩
 repeat' (first|(refine aS (VM l hl 266 [] [.ptr 0 0] (λx => !p x) h1) ?_;simp only[go_sem,rO])|apply cg<;>intro hc<;>simp only[go_sem,hc])
def XK{H:cj}(l:List Es)(hl:l.length<=9223372036854775807)(g:FuncId)(fi ca:List AV)(p:Es->Bool)
  (h:∀x∈l,GM AA g (fi.map AV.borrow++(.agg x.c::ca.map AV.borrow)) H (.bool (p x))):
  GM AA 268 [.sl none (F6 l),.fn (.func g) fi ca] H (.int .i64 (H8 p l)):=by
 unfold GM
 refine aC AL_ rfl ?_
 simp only[f268,go_sem]
 refine Fe l (λr=>G9 p (l.length - r.length) r) (λk=>[(0,.sl none (F6 l)),(1,.fn (.func g) fi ca),(7,.int .i64 l.length),(8,.int .i64 k)]) hl rfl ?_ ?_
 ·intro k x xs hd hx hF h0 h1 hw
  have hk2:=Fq hd
  have e1:l.length - (xs.length+1)=k:=FR
  have e2:l.length - xs.length=k+1:=FR
  simp only[AD,e1,AP]at hF
  simp only[go_sem,h0,h1,Ft hx]
  repeat' (first|(refine aS (h x (AB hx)) ?_;simp only[go_sem])|apply cg<;>intro hc<;>simp only[go_sem,hc,hw,e1,e2])
  ·rw[H8,hF,G9,iP hc]
  ·rw[G9,iN (by rw[hc];decide)]
 ·intro hF hlt
  simp only[go_sem,hlt,dF]
  rw[AP]at hF
  rw[H8,hF];rfl
def Sk{H:cj}(l:List Es)(hl:l.length<=9223372036854775807)(g:FuncId)(fi ca:List AV)(p:Es->Bool)
  (h:∀x∈l,GM AA g (fi.map AV.borrow++(.agg x.c::ca.map AV.borrow)) H (.bool (p x))):
  GM AA 207 [.sl none (F6 l),.fn (.func g) fi ca] H (.bool (l.any p)):=by
 unfold GM
 refine aC AOO rfl ?_
 simp only[f207,go_sem]
 repeat' (first|(refine aS (XK l hl g fi ca p h) ?_;simp only[go_sem])|apply cg<;>intro hc<;>simp only[go_sem,hc])
 rw[H8,Pj]
def JR(l:List Es)(hl:l.length<=9223372036854775807)(n:Int)(g:FuncId)(p:Es->Bool)(h:∀x∈l,FT AA g [.agg x.c] (.bool (p x))):
  FT AA 137 [.sl none (F6 l),.int .i64 n,.fn (.func g) [] []] (.bool (((l.length:Int)==n)&&l.all p)):=by
 refine pC ASH rfl ?_
 simp only[f137,go_sem]
 have h1:∀x∈l,GM AA 208 [.agg x.c,.ptr 0 0] [some [.fn (.func g) [] []]] (.bool (!p x)):=by
  intro x hx
  refine Fa.drop rfl ?_
  refine aC AOK rfl ?_
  simp only[f208,go_sem]
  repeat' (first|(refine aP (h x hx) ?_;simp only[go_sem])|apply cg<;>intro hc<;>simp only[go_sem,hc])
  exact⟨_,rfl⟩
 repeat' (first|(refine aS (Sk l hl 208 [] [.ptr 0 0] (λx => !p x) h1) ?_;simp only[go_sem,rO])|apply cg<;>intro hc<;>simp only[go_sem,hc])
def lz(a b:Et):FT AA 130 [.agg a.c,.agg b.c] (.agg (a.more b).c):=by
 refine pB ASg rfl ?_
 simp only[f130,go_sem]
 rfl
def sV(l:List Er)(hl:l.length<=9223372036854775807)(h:∀x∈l,FT AA 131 [.agg x.c] (.agg (lY x).c)):
  FT AA 202 [.sl none (GH l),.fn (.func 131) [] []] (.agg (U0 l ⟨1,1⟩).c):=by
 refine pB AOl rfl ?_
 simp only[f202,go_sem]
 refine Fg l (λo l=>U0 l o) (λ_ _=>True) (λk o=>[(1,.fn (.func 131) [] []),(4,.ptr 0 0),(5,.ptr 1 0),(9,.sl none (GH l)),(10,.int .i64 l.length),(11,.int .i64 k)]) (λk o=>[some Sizes.z.c,some o.c]) ⟨1,1⟩ hl trivial rfl rfl ?_ ?_
 ·intro k o y ys hd hx _ hF h0 h1 hw
  simp only[go_sem,h0,h1,GQ hx]
  repeat' (first|((first|apply pK (h _ (AB hx))|apply pK (lz _ _));simp only[go_sem,hw])|apply cg<;>intro hc<;>simp only[go_sem,hc,h0,h1,hw,GQ hx])
  exact⟨_,Ya _ _ _,rfl,rfl⟩
 ·intro o _ hF
  simp only[go_sem,AQ,dF]
  rw[hF,dP]
def eh(a b:List Er)(ha:a.length<=9223372036854775807)(h : ∀ x∈a,∀ y,FT AA 133 [.agg x.c,.agg y.c] (.bool (ZD x y))):
  FT AA 203 [.sl none (GH a),.sl none (GH b),.fn (.func 133) [] []] (.bool (((a.length:Int)==(b.length:Int))&&S3 a b)):=by
 refine pC AOf rfl ?_
 simp only[f203,go_sem]
 repeat' (first|apply cg<;>intro hc<;>simp only[go_sem,hc])
 ·simp at hc;simp[hc]
 ·have hlen:a.length=b.length:=by simp at hc;omega
  refine Fg a (λ(_:Unit) r=>S3 r (b.drop (a.length - r.length))) (λ_ _=>True) (λk _=>[(1,.sl none (GH b)),(2,.fn (.func 133) [] []),(15,.sl none (GH a)),(16,.int .i64 a.length),(17,.int .i64 k)]) (λk _=>[]) () ha trivial rfl rfl ?_ ?_
  ·intro k _ x xs hd hx _ hF h0 h1 hw
   have hk2:=Fq hd
   obtain⟨y,hy⟩:∃y,b[k]? =some y:=⟨_,AH FR⟩
   have e1:a.length - (xs.length+1)=k:=FR
   have e2:a.length - xs.length=k+1:=FR
   have hbd:b.drop k=y::b.drop (k+1):=by
    obtain⟨hlt,rfl⟩:=AC.1 hy
    exact BG hlt
   simp only[AD,e1,AP,BC,hbd,I9]at hF
   simp only[go_sem,h0,h1,GQ hx,GQ hy]
   repeat' (first|(refine aP (h _ (AB hx) y) ?_;simp only[go_sem])|apply cg<;>intro hc<;>simp only[go_sem,hc,hw])
   ·simp only[Bool.not_eq_true']at hc
    rw[hF,hc,Bool.false_and,Dg]
   ·simp only[Bool.not_eq_false']at hc
    exact⟨(),by rw[e1,e2,hbd,I9,hc,Be]⟩
  ·intro _ _ hF
   simp only[go_sem,AQ,dF]
   rw[AP,BC,MD]at hF
   rw[hF,hlen];simp
def eZ(l:List Es)(hl:l.length<=9223372036854775807)(h:∀x∈l,FT AA 73 [.agg x.c] (.agg (lZ x).c)):
  FT AA 129 [.sl none (F6 l),.fn (.func 73) [] []] (.agg (P0 l ⟨1,1⟩).c):=by
 refine pB ASl rfl ?_
 simp only[f129,go_sem]
 refine Fg l (λo l=>P0 l o) (λ_ _=>True) (λk o=>[(1,.fn (.func 73) [] []),(4,.ptr 0 0),(5,.ptr 1 0),(9,.sl none (F6 l)),(10,.int .i64 l.length),(11,.int .i64 k)]) (λk o=>[some Sizes.z.c,some o.c]) ⟨1,1⟩ hl trivial rfl rfl ?_ ?_
 ·intro k o y ys hd hx _ hF h0 h1 hw
  simp only[go_sem,h0,h1,Ft hx]
  repeat' (first|((first|apply pK (h _ (AB hx))|apply pK (lz _ _));simp only[go_sem,hw])|apply cg<;>intro hc<;>simp only[go_sem,hc,h0,h1,hw,Ft hx])
  exact⟨_,M3 _ _ _,rfl,rfl⟩
 ·intro o _ hF
  simp only[go_sem,AQ,dF]
  rw[hF,Oa]
def l6:∀x:Er,FT AA 131 [.agg x.c] (.agg (lY x).c):=by
 refine I2 _ λx ih=>?_
 refine FT.fit ABy.c λhf=>?_
 have hl:=K1 (AAJ hf)
 refine pB ABy rfl ?_
 simp only[f131,go_sem]
 repeat' (first|(apply pK (sV _ hl (λy hy=>ih y hy));simp only[go_sem])|apply cg<;>intro hc<;>simp only[go_sem,hc])
 rw[zb]
def qm(a b:Int):i64 (i64 a+b)=i64 (a+b):=by
 simp only[i64,Dl,Dm,DI]
 simp
 split<;>split<;>split<;>omega
def tD(a b c:Et):(a.more b).more c=(a.more c).more b:=by
 unfold Sizes.more Qx
 simp only[Sizes.mk.injEq]
 refine⟨?_, ?_⟩
 ·rw[qm,qm];congr 1;omega
 ·grind
def Yb(z:Et): ∀(l:List Es) (o:Et),P0 l (o.more z)=(P0 l o).more z
 |[],o=>by rw[Oa,Oa]
 |x::l,o=>by rw[M3,M3,tD,Yb z l]
def Z0:∀x:Es,FT AA 73 [.agg x.c] (.agg (lZ x).c):=by
 refine HM _ λx ih=>?_
 refine FT.fit AG8.c λhf=>?_
 have hl:=Ic (AAJ hf)
 refine pB AG8 rfl ?_
 simp only[f73,go_sem]
 repeat' (first|((first|apply pK (eZ _ hl (λy hy=>ih y hy))|apply pK (l6 _)|apply pK (lz _ _));simp only[go_sem])|apply cg<;>intro hc<;>simp only[go_sem,hc])
 ·rw[Zk,iP (by simpa using hc),Yb]
 ·rw[Zk,iN (by simpa using hc)]
def AEq(z:Et):FT AA 132 [.agg z.c] (.int .i64 (Qn z)):=by
 refine pC ASZ rfl ?_
 simp only[f132,go_sem]
 repeat' (first|apply cg<;>intro hc<;>simp only[go_sem,hc])
 all_goals first
  |rfl
  |(simp only[Qn];rfl)
  |grind[Qn]
  |(simp only[Qn];grind)
  |(simp[Qn, *];done)
  |(simp_all[Qn];done)
  |skip
def AEt{H:cj}(z:Et)(g:FuncId)(ca:List AV)(b:Bool)(h:GM AA g (ca.map AV.borrow) (H++[some z.c]) (.bool b)):
  GM AA 74 [.agg z.c,.fn (.func g) [] ca] H (.int .i64 (qt z b)):=by
 refine Fa.drop rfl ?_
 refine aC AZd rfl ?_
 simp only[f74,go_sem]
 repeat' (first|((first|apply pK (AEq _)|refine aS (h) ?_);simp only[go_sem])|apply cg<;>intro hc<;>simp only[go_sem,hc])
 all_goals simp_all[qt]
def AgB(a b:Nat):((a:Int)==(b:Int))=(a==b):=by
 rw[A'];simp;omega
def KU:∀x y:Er,FT AA 133 [.agg x.c,.agg y.c] (.bool (ZD x y)):=by
 refine I2 _ λx ih=>λy=>?_
 refine FT.fit ABx.c λhf=>?_
 have hl:=K1 (AAJ hf)
 refine pC ABx rfl ?_
 simp only[f133,go_sem]
 repeat' (first|(apply pK (eh _ _ hl (λy hy z=>ih y hy z));simp only[go_sem])|apply cg<;>intro hc<;>simp only[go_sem,hc,FV])
 all_goals (rw[Ih];simp_all[AgB])
def JV:∀l:List Er,V8 l=l.all Na
 |[]=>by rw[NI];rfl
 |x::l=>by rw[Kg,Al,JV l]
def NK:∀l:List Es,V9 l=l.all Rr
 |[]=>by rw[NJ];rfl
 |x::l=>by rw[Kh,Al,NK l]
def XV{α:Type}(l:List α):((l.length:Int)==0)=l.isEmpty:=by
 cases l<;>simp;omega
def KA{a b:Int}(h:a≠b):(a==b)=false:=by simp[h]
def AXi
(field:ByteArray) (n m:Int) (args:List Er) (hl:args.length<=9223372036854775807) (hfs:field.size<=1073741824) (hev:∀y∈args,FT AA 134 [.agg y.c] (.bool (Na y))):FT AA 134 [.agg (Pred.c ⟨1,field,n,m,args⟩)] (.bool (Na ⟨1,field,n,m,args⟩)):=by
 refine pC Mt rfl ?_
 simp only[f134,go_sem,FV]
 repeat' (first|((first|apply pK (Im _ hfs)|apply pK (Il _)|apply pK (Nl _)|apply pK (H6 _ hl _ _ Na hev));simp only[go_sem,FV,Int.reduceBEq,XV])|apply cg<;>intro hc<;>simp only[go_sem,hc,Int.reduceBEq,XV])
 all_goals (rw[Hn];cases args<;>(simp_all[So,K5,JV]<;>first|omega|grind|skip))
def AXh
(field:ByteArray) (n m:Int) (args:List Er) (hl:args.length<=9223372036854775807) (hfs:field.size<=1073741824) (hev:∀y∈args,FT AA 134 [.agg y.c] (.bool (Na y))):FT AA 134 [.agg (Pred.c ⟨2,field,n,m,args⟩)] (.bool (Na ⟨2,field,n,m,args⟩)):=by
 refine pC Mt rfl ?_
 simp only[f134,go_sem,FV]
 repeat' (first|((first|apply pK (Im _ hfs)|apply pK (Il _)|apply pK (Nl _)|apply pK (H6 _ hl _ _ Na hev));simp only[go_sem,FV,Int.reduceBEq,XV])|apply cg<;>intro hc<;>simp only[go_sem,hc,Int.reduceBEq,XV])
 all_goals (rw[Hn];cases args<;>(simp_all[So,K5,JV]<;>first|omega|grind|skip))
def AXg
(field:ByteArray) (n m:Int) (args:List Er) (hl:args.length<=9223372036854775807) (hfs:field.size<=1073741824) (hev:∀y∈args,FT AA 134 [.agg y.c] (.bool (Na y))):FT AA 134 [.agg (Pred.c ⟨3,field,n,m,args⟩)] (.bool (Na ⟨3,field,n,m,args⟩)):=by
 refine pC Mt rfl ?_
 simp only[f134,go_sem,FV]
 repeat' (first|((first|apply pK (Im _ hfs)|apply pK (Il _)|apply pK (Nl _)|apply pK (H6 _ hl _ _ Na hev));simp only[go_sem])|apply cg<;>intro hc<;>simp only[go_sem,hc,Int.reduceBEq,XV])
 all_goals (rw[Hn];cases args<;>(simp_all[So,RM,JV]<;>first|omega|grind|skip))
def AXf
(field:ByteArray) (n m:Int) (args:List Er) (hl:args.length<=9223372036854775807) (hfs:field.size<=1073741824) (hev:∀y∈args,FT AA 134 [.agg y.c] (.bool (Na y))):FT AA 134 [.agg (Pred.c ⟨4,field,n,m,args⟩)] (.bool (Na ⟨4,field,n,m,args⟩)):=by
 refine pC Mt rfl ?_
 simp only[f134,go_sem,FV]
 repeat' (first|((first|apply pK (Im _ hfs)|apply pK (Il _)|apply pK (Nl _)|apply pK (H6 _ hl _ _ Na hev));simp only[go_sem])|apply cg<;>intro hc<;>simp only[go_sem,hc,Int.reduceBEq,XV])
 all_goals (rw[Hn];cases args<;>(simp_all[So,RM,JV]<;>first|omega|grind|skip))
def AXe
(field:ByteArray) (n m:Int) (args:List Er) (hl:args.length<=9223372036854775807) (hfs:field.size<=1073741824) (hev:∀y∈args,FT AA 134 [.agg y.c] (.bool (Na y))):FT AA 134 [.agg (Pred.c ⟨5,field,n,m,args⟩)] (.bool (Na ⟨5,field,n,m,args⟩)):=by
 refine pC Mt rfl ?_
 simp only[f134,go_sem,FV]
 repeat' (first|((first|apply pK (Im _ hfs)|apply pK (Il _)|apply pK (Nl _)|apply pK (H6 _ hl _ _ Na hev));simp only[go_sem])|apply cg<;>intro hc<;>simp only[go_sem,hc,Int.reduceBEq,XV])
 all_goals (rw[Hn];cases args<;>(simp_all[So,RM,JV]<;>first|omega|grind|skip))
def AXd
(field:ByteArray) (n m:Int) (args:List Er) (hl:args.length<=9223372036854775807) (hfs:field.size<=1073741824) (hev:∀y∈args,FT AA 134 [.agg y.c] (.bool (Na y))):FT AA 134 [.agg (Pred.c ⟨6,field,n,m,args⟩)] (.bool (Na ⟨6,field,n,m,args⟩)):=by
 refine pC Mt rfl ?_
 simp only[f134,go_sem,FV]
 repeat' (first|((first|apply pK (Im _ hfs)|apply pK (Il _)|apply pK (Nl _)|apply pK (H6 _ hl _ _ Na hev));simp only[go_sem])|apply cg<;>intro hc<;>simp only[go_sem,hc,Int.reduceBEq])
 all_goals (rw[Hn];cases args<;>(simp_all[So,K5,JV]<;>first|omega|grind|skip))
def AXc
(field:ByteArray) (n m:Int) (args:List Er) (hl:args.length<=9223372036854775807) (hfs:field.size<=1073741824) (hev:∀y∈args,FT AA 134 [.agg y.c] (.bool (Na y))):FT AA 134 [.agg (Pred.c ⟨7,field,n,m,args⟩)] (.bool (Na ⟨7,field,n,m,args⟩)):=by
 refine pC Mt rfl ?_
 simp only[f134,go_sem,FV]
 repeat' (first|((first|apply pK (Im _ hfs)|apply pK (Il _)|apply pK (Nl _)|apply pK (H6 _ hl _ _ Na hev));simp only[go_sem])|apply cg<;>intro hc<;>simp only[go_sem,hc,Int.reduceBEq])
 all_goals (rw[Hn];cases args<;>(simp_all[So,K5,JV]<;>first|omega|grind|skip))
def AXb
(field:ByteArray) (n m:Int) (args:List Er) (hl:args.length<=9223372036854775807) (hfs:field.size<=1073741824) (hev:∀y∈args,FT AA 134 [.agg y.c] (.bool (Na y))):FT AA 134 [.agg (Pred.c ⟨8,field,n,m,args⟩)] (.bool (Na ⟨8,field,n,m,args⟩)):=by
 refine pC Mt rfl ?_
 simp only[f134,go_sem,FV]
 repeat' (first|((first|apply pK (Im _ hfs)|apply pK (Il _)|apply pK (Nl _)|apply pK (H6 _ hl _ _ Na hev));simp only[go_sem])|apply cg<;>intro hc<;>simp only[go_sem,hc,Int.reduceBEq])
 all_goals (rw[Hn];cases args<;>(simp_all[So,K5,JV]<;>first|omega|grind|skip))
def AXa
(field:ByteArray) (n m:Int) (args:List Er) (hl:args.length<=9223372036854775807) (hfs:field.size<=1073741824) (hev:∀y∈args,FT AA 134 [.agg y.c] (.bool (Na y))):FT AA 134 [.agg (Pred.c ⟨9,field,n,m,args⟩)] (.bool (Na ⟨9,field,n,m,args⟩)):=by
 refine pC Mt rfl ?_
 simp only[f134,go_sem,FV]
 repeat' (first|((first|apply pK (Im _ hfs)|apply pK (Il _)|apply pK (Nl _)|apply pK (H6 _ hl _ _ Na hev));simp only[go_sem])|apply cg<;>intro hc<;>simp only[go_sem,hc,FV,Int.reduceBEq,XV])
 all_goals (rw[Hn];cases args<;>(simp_all[So,Uy,JV]<;>first|omega|grind|skip))
def AXj(kind:Int)(h1:kind≠1)(h2:kind≠2)(h3:kind≠3)(h4:kind≠4)(h5:kind≠5)(h6:kind≠6)(h7:kind≠7)(h8:kind≠8)(h9:kind≠9)
  (field:ByteArray)(n m:Int)(args:List Er):FT AA 134 [.agg (Pred.c ⟨kind,field,n,m,args⟩)] (.bool (Na ⟨kind,field,n,m,args⟩)):=by
 refine pC Mt rfl ?_
 simp only[f134,go_sem,FV]
 repeat' (first|apply cg<;>intro hc<;>simp only[go_sem,hc,KA h1,KA h2,KA h3,KA h4,KA h5,KA h6,KA h7,KA h8,KA h9])
 all_goals (rw[Hn];simp[So, *])
def J3:∀x:Er,FU x.c<=1073741824->FT AA 134 [.agg x.c] (.bool (Na x)):=by
 refine I2 _ λx ih=>λhb=>?_
 have hl:x.args.length<=9223372036854775807:=AL (Vh (JB hb)) dc
 have hfs:=QU hb
 have hev:∀y∈x.args,FT AA 134 [.agg y.c] (.bool (Na y)):=λy hm =>
  ih y hm (by have:=Vi (JB hb) hm;simpa only[AV.bulk]using this)
 obtain⟨kind,field,n,m,args⟩:=x
 by_cases h1:kind=1
 ·subst h1;exact AXi field n m args hl hfs hev
 by_cases h2:kind=2
 ·subst h2;exact AXh field n m args hl hfs hev
 by_cases h3:kind=3
 ·subst h3;exact AXg field n m args hl hfs hev
 by_cases h4:kind=4
 ·subst h4;exact AXf field n m args hl hfs hev
 by_cases h5:kind=5
 ·subst h5;exact AXe field n m args hl hfs hev
 by_cases h6:kind=6
 ·subst h6;exact AXd field n m args hl hfs hev
 by_cases h7:kind=7
 ·subst h7;exact AXc field n m args hl hfs hev
 by_cases h8:kind=8
 ·subst h8;exact AXb field n m args hl hfs hev
 by_cases h9:kind=9
 ·subst h9;exact AXa field n m args hl hfs hev
 exact AXj kind h1 h2 h3 h4 h5 h6 h7 h8 h9 field n m args
def AXo
(pred:Er) (field:ByteArray) (n:Int) (args:List Es) (hl:args.length<=9223372036854775807) (hfs:field.size<=1073741824) (hp:FU pred.c<=1073741824) (hev:∀y∈args,FT AA 76 [.agg y.c] (.bool (Rr y))):FT AA 76 [.agg (Policy.c ⟨1,pred,field,n,args⟩)] (.bool (Rr ⟨1,pred,field,n,args⟩)):=by
 refine pC Y5 rfl ?_
 simp only[f76,go_sem]
 repeat' (first|((first|apply pK (FT.lend (KU pred Pred.z))|apply pK (Im _ hfs)|apply pK (Il _)|apply pK (J3 _ hp)|apply pK (JR _ hl _ _ Rr hev));simp only[go_sem,FV])|apply cg<;>intro hc<;>simp only[go_sem,hc,Int.reduceBEq,XV])
 all_goals (rw[IT];cases args<;>(simp_all[VR,NK]<;>first|omega|grind|skip))
def AXn
(pred:Er) (field:ByteArray) (n:Int) (args:List Es) (hl:args.length<=9223372036854775807) (hfs:field.size<=1073741824) (hp:FU pred.c<=1073741824) (hev:∀y∈args,FT AA 76 [.agg y.c] (.bool (Rr y))):FT AA 76 [.agg (Policy.c ⟨2,pred,field,n,args⟩)] (.bool (Rr ⟨2,pred,field,n,args⟩)):=by
 refine pC Y5 rfl ?_
 simp only[f76,go_sem]
 repeat' (first|((first|apply pK (FT.lend (KU pred Pred.z))|apply pK (Im _ hfs)|apply pK (Il _)|apply pK (J3 _ hp)|apply pK (JR _ hl _ _ Rr hev));simp only[go_sem,FV])|apply cg<;>intro hc<;>simp only[go_sem,hc,Int.reduceBEq,XV])
 all_goals (rw[IT];cases args<;>(simp_all[VR,RM,NK]<;>first|omega|grind|skip))
def AXm
(pred:Er) (field:ByteArray) (n:Int) (args:List Es) (hl:args.length<=9223372036854775807) (hfs:field.size<=1073741824) (hp:FU pred.c<=1073741824) (hev:∀y∈args,FT AA 76 [.agg y.c] (.bool (Rr y))):FT AA 76 [.agg (Policy.c ⟨3,pred,field,n,args⟩)] (.bool (Rr ⟨3,pred,field,n,args⟩)):=by
 refine pC Y5 rfl ?_
 simp only[f76,go_sem]
 repeat' (first|((first|apply pK (FT.lend (KU pred Pred.z))|apply pK (Im _ hfs)|apply pK (Il _)|apply pK (J3 _ hp)|apply pK (JR _ hl _ _ Rr hev));simp only[go_sem,FV])|apply cg<;>intro hc<;>simp only[go_sem,hc,Int.reduceBEq])
 all_goals (rw[IT];cases args<;>(simp_all[VR,NK]<;>first|omega|grind|skip))
def AXl
(pred:Er) (field:ByteArray) (n:Int) (args:List Es) (hl:args.length<=9223372036854775807) (hfs:field.size<=1073741824) (hp:FU pred.c<=1073741824) (hev:∀y∈args,FT AA 76 [.agg y.c] (.bool (Rr y))):FT AA 76 [.agg (Policy.c ⟨4,pred,field,n,args⟩)] (.bool (Rr ⟨4,pred,field,n,args⟩)):=by
 refine pC Y5 rfl ?_
 simp only[f76,go_sem]
 repeat' (first|((first|apply pK (FT.lend (KU pred Pred.z))|apply pK (Im _ hfs)|apply pK (Il _)|apply pK (J3 _ hp)|apply pK (JR _ hl _ _ Rr hev));simp only[go_sem,FV])|apply cg<;>intro hc<;>simp only[go_sem,hc,Int.reduceBEq])
 all_goals (rw[IT];cases args<;>(simp_all[VR,NK]<;>first|omega|grind|skip))
def AXk
(pred:Er) (field:ByteArray) (n:Int) (args:List Es) (hl:args.length<=9223372036854775807) (hfs:field.size<=1073741824) (hp:FU pred.c<=1073741824) (hev:∀y∈args,FT AA 76 [.agg y.c] (.bool (Rr y))):FT AA 76 [.agg (Policy.c ⟨5,pred,field,n,args⟩)] (.bool (Rr ⟨5,pred,field,n,args⟩)):=by
 refine pC Y5 rfl ?_
 simp only[f76,go_sem]
 repeat' (first|((first|apply pK (FT.lend (KU pred Pred.z))|apply pK (Im _ hfs)|apply pK (Il _)|apply pK (J3 _ hp)|apply pK (JR _ hl _ _ Rr hev));simp only[go_sem,FV])|apply cg<;>intro hc<;>simp only[go_sem,hc,Int.reduceBEq])
 all_goals (rw[IT];cases args<;>(simp_all[VR,NK]<;>first|omega|grind|skip))
def AXp(kind:Int)(h1:kind≠1)(h2:kind≠2)(h3:kind≠3)(h4:kind≠4)(h5:kind≠5)
  (pred:Er)(field:ByteArray)(n:Int)(args:List Es):FT AA 76 [.agg (Policy.c ⟨kind,pred,field,n,args⟩)] (.bool (Rr ⟨kind,pred,field,n,args⟩)):=by
 refine pC Y5 rfl ?_
 simp only[f76,go_sem]
 repeat' (first|(apply pK (FT.lend (KU pred Pred.z));simp only[go_sem,FV])|apply cg<;>intro hc<;>simp only[go_sem,hc,KA h1,KA h2,KA h3,KA h4,KA h5])
 all_goals (rw[IT];simp[VR, *])
def VJ:∀x:Es,FU x.c<=1073741824->FT AA 76 [.agg x.c] (.bool (Rr x)):=by
 refine HM _ λx ih=>λhb=>?_
 have hl:x.args.length<=9223372036854775807:=AL (Qp (IL hb)) dc
 have hfs:=OI hb
 have hp:=MS hb
 have hev:∀y∈x.args,FT AA 76 [.agg y.c] (.bool (Rr y)):=λy hm =>
  ih y hm (by have:=Qq (IL hb) hm;simpa only[AV.bulk]using this)
 obtain⟨kind,pred,field,n,args⟩:=x
 by_cases h1:kind=1
 ·subst h1;exact AXo pred field n args hl hfs hp hev
 by_cases h2:kind=2
 ·subst h2;exact AXn pred field n args hl hfs hp hev
 by_cases h3:kind=3
 ·subst h3;exact AXm pred field n args hl hfs hp hev
 by_cases h4:kind=4
 ·subst h4;exact AXl pred field n args hl hfs hp hev
 by_cases h5:kind=5
 ·subst h5;exact AXk pred field n args hl hfs hp hev
 exact AXp kind h1 h2 h3 h4 h5 pred field n args
def AIJ{H:cj}(x:Es)(hb:FU x.c<=1073741824)(o:Nat)(ho:H[o]? =some (some x.c)):GM AA 75 [.ptr o 0] H (.bool (Rr x)):=by
 refine Fa.drop rfl ?_
 refine aC AZZ rfl ?_
 simp only[f75,go_sem,ho]
 repeat' (first|(apply pK (VJ _ hb);simp only[go_sem])|apply cg<;>intro hc<;>simp only[go_sem,hc,ho])
def XM(x:Es)(hb:FU x.c<=1073741824):FT AA 38 [.agg x.c] (.int .i64 (Up x)):=by
 refine pC AbN rfl ?_
 simp only[f38,go_sem]
 repeat' (first|((first|apply pK (Z0 _)|refine aS (AEt (lZ x) 75 [.ptr 0 0] (Rr x) (AIJ x hb 0 rfl)) ?_);simp only[go_sem])|apply cg<;>intro hc<;>simp only[go_sem,hc])
 all_goals rfl
@[go_sem] def AV6(o:Option Nat)(x:Er):AV.sl o [AV.agg (x.cf none)]=AV.sl o (GH [x]):=by rw[He];rfl
@[go_sem] def AV5(o:Option Nat)(x y:Er):AV.sl o [AV.agg (x.cf none),AV.agg (y.cf none)]=AV.sl o (GH [x,y]):=by rw[He];rfl
@[go_sem] def AG3(o:Option Nat)(x:Es):AV.sl o [AV.agg (x.cf none none)]=AV.sl o (F6 [x]):=by rw[Gf];rfl
@[go_sem] def AG2(o:Option Nat)(x y:Es):AV.sl o [AV.agg (x.cf none none),AV.agg (y.cf none none)]=AV.sl o (F6 [x,y]):=by rw[Gf];rfl
@[go_sem] def AIY(o:Option Nat)(x:Eu):AV.sl o [AV.agg (x.cf none none none)]=AV.sl o (F4 [x]):=rfl
def ZU(n:Int):Er:=⟨3,GI,n,0,[]⟩
def Jl:Er:=⟨2,⟨#[]⟩,0,0,[]⟩
def rM(x y:Er):Er:=⟨8,⟨#[]⟩,0,0,[x,y]⟩
def bN(x:Er):Er:=⟨6,⟨#[]⟩,0,0,[x]⟩
def IE(x:Er):Es:=⟨1,x,⟨#[]⟩,0,[]⟩
def Xq(s:ByteArray)(n:Int):Es:=⟨2,Pred.z,s,n,[]⟩
def Ks(x y:Es):Es:=⟨3,Pred.z,⟨#[]⟩,0,[x,y]⟩
def UD(x y:Es):Es:=⟨4,Pred.z,⟨#[]⟩,0,[x,y]⟩
def R3(x:Es):Es:=⟨5,Pred.z,⟨#[]⟩,0,[x]⟩
def LS{α:Type}(z:α)(two:α->α->α):List α->α
 |[]=>z
 |x::l=>l.foldl two x
def Pw(l:List Er):Er:=LS Jl rM l
def PI(t:Ev):Er:=Pw (t.wires.map λw=>ZU w.src)
def PJ(w:Wire):Es:=UD (IE (ZU w.src)) (Xq GI w.dst)
def Mx(t:Ev):Es:=LS (IE Jl) Ks (t.wires.map PJ)
def HI(t:Ev)(p:Es):Es :=
 if t.wires=[]then p else UD (UD p (R3 (UD (Mx t) p))) (IE (bN (PI t)))
def AXt(n:Int):FT AA 125 [.int .i64 n] (.agg (ZU n).c):=by
 refine pB AS4 rfl ?_
 simp only[f125,go_sem]
 rfl
def AXW(n:Int):FT AA 325 [.int .i64 n] (.agg (ZU n).c):=by
 refine pB AJv rfl ?_
 simp only[f325,go_sem]
 rfl
def VK(x:Er):FT AA 71 [.agg x.c] (.agg (IE x).c):=by
 refine pB AZq rfl ?_
 simp only[f71,go_sem]
 rfl
def VB(x:Er):FT AA 287 [.agg x.c] (.agg (IE x).c):=by
 refine pB AKz rfl ?_
 simp only[f287,go_sem]
 rfl
def qX(x y:Es):FT AA 69 [.agg x.c,.agg y.c] (.agg (UD x y).c):=by
 refine pB AZ0 rfl ?_
 simp only[f69,go_sem]
 rfl
def AGt(x y:Es):FT AA 285 [.agg x.c,.agg y.c] (.agg (UD x y).c):=by
 refine pB AK9 rfl ?_
 simp only[f285,go_sem]
 rfl
def AEi(x y:Es):FT AA 327 [.agg x.c,.agg y.c] (.agg (Ks x y).c):=by
 refine pB AJn rfl ?_
 simp only[f327,go_sem]
 rfl
def AIB(x:Es):FT AA 284 [.agg x.c] (.agg (R3 x).c):=by
 refine pB ALB rfl ?_
 simp only[f284,go_sem]
 rfl
def AXX(s:ByteArray)(n:Int):FT AA 326 [.str s,.int .i64 n] (.agg (Xq s n).c):=by
 refine pB AJr rfl ?_
 simp only[f326,go_sem]
 rfl
def sT(x y:Er):FT AA 201 [.agg x.c,.agg y.c] (.agg (rM x y).c):=by
 refine pB AOq rfl ?_
 simp only[f201,go_sem]
 rfl
def AAZ(x y:Es):FT AA 127 [.agg x.c,.agg y.c] (.agg (Ks x y).c):=by
 refine pB ASu rfl ?_
 simp only[f127,go_sem]
 rfl
def l9(l:List Er)(hl:l.length<=1073741824)(z:Er):FT AA 200 [.sl none (GH l),.agg z.c,.fn (.func 201) [] []] (.agg (LS z rM l).c):=by
 refine pB AOv rfl ?_
 simp only[f200,go_sem]
 cases l with
 |nil =>
  have g0:(((0:Nat):Int)==0)=true:=rfl
  simp only[go_sem,g0]
  rfl
 | cons x r =>
  have g0:(((r.length+1:Nat):Int)==0)=false:=Hy
  have g1:(1:Int)<=((r.length+1:Nat):Int):=FR
  have g2:(0:Int)<((r.length+1:Nat):Int):=FR
  have hx:(x::r)[0]? =some x:=rfl
  have hd:List.drop 1 (x::r)=r:=rfl
  simp only[go_sem,g0,g1,GQ hx,EI,hd,Ag,BI]
  repeat' (first|apply cg<;>intro hc<;>simp only[go_sem,hc,g0,g1,g2,GQ hx,hd])
  refine Fg r (λo l=>l.foldl rM o) (λ_ _=>True) (λk o=>[(2,.fn (.func 201) [] []),(6,.ptr 1 0),(7,.ptr 2 0),(18,.sl none (GH r)),(19,.int .i64 r.length),(20,.int .i64 k)]) (λk o=>[some z.c,some (Pred.z.cf (some 5)),some o.c]) x (by simp at hl;omega) trivial rfl rfl ?_ ?_
  ·intro k o y ys hd hx _ hF h0 h1 hw
   simp only[go_sem,h0,h1,GQ hx]
   repeat' (first|(refine aP (sT _ _) ?_;simp only[go_sem,hw])|apply cg<;>intro hc<;>simp only[go_sem,hc,h0,h1,hw,GQ hx])
   exact⟨_,by rw[CB],rfl,rfl⟩
  ·intro o _ hF
   simp only[go_sem,AQ,dF]
   rw[LS,hF];rfl
def Z1(l:List Es)(hl:l.length<=1073741824)(z:Es):FT AA 126 [.sl none (F6 l),.agg z.c,.fn (.func 127) [] []] (.agg (LS z Ks l).c):=by
 refine pB ASz rfl ?_
 simp only[f126,go_sem]
 cases l with
 |nil =>
  have g0:(((0:Nat):Int)==0)=true:=rfl
  simp only[go_sem,g0]
  rfl
 | cons x r =>
  have g0:(((r.length+1:Nat):Int)==0)=false:=Hy
  have g1:(1:Int)<=((r.length+1:Nat):Int):=FR
  have g2:(0:Int)<((r.length+1:Nat):Int):=FR
  have hx:(x::r)[0]? =some x:=rfl
  have hd:List.drop 1 (x::r)=r:=rfl
  simp only[go_sem,g0,g1,Ft hx,EI,hd,Ag,BI]
  repeat' (first|apply cg<;>intro hc<;>simp only[go_sem,hc,g0,g1,g2,Ft hx,hd])
  refine Fg r (λo l=>l.foldl Ks o) (λ_ _=>True) (λk o=>[(2,.fn (.func 127) [] []),(6,.ptr 1 0),(7,.ptr 2 0),(18,.sl none (F6 r)),(19,.int .i64 r.length),(20,.int .i64 k)]) (λk o=>[some z.c,some (Policy.z.cf (some 5) (some 9)),some o.c]) x (by simp at hl;omega) trivial rfl rfl ?_ ?_
  ·intro k o y ys hd hx _ hF h0 h1 hw
   simp only[go_sem,h0,h1,Ft hx]
   repeat' (first|(refine aP (AAZ _ _) ?_;simp only[go_sem,hw])|apply cg<;>intro hc<;>simp only[go_sem,hc,h0,h1,hw,Ft hx])
   exact⟨_,by rw[CB],rfl,rfl⟩
  ·intro o _ hF
   simp only[go_sem,AQ,dF]
   rw[LS,hF];rfl
def z_(l:List Er)(hl:l.length<=1073741824):FT AA 328 [.sl none (GH l)] (.agg (Pw l).c):=by
 refine pB AJj rfl ?_
 simp only[f328,go_sem]
 cases l with
 |nil =>
  have g0:(((0:Nat):Int)==0)=true:=rfl
  simp only[go_sem,g0]
  rfl
 | cons x r =>
  have g0:(((r.length+1:Nat):Int)==0)=false:=Hy
  have g2:(0:Int)<((r.length+1:Nat):Int):=FR
  have hx:(x::r)[0]? =some x:=rfl
  simp only[go_sem,g0,GQ hx]
  repeat' (first|apply cg<;>intro hc<;>simp only[go_sem,hc,g0,g2,GQ hx])
  refine Fg r (λ(o:Er×Option Nat) l=>l.foldl rM o.1) (λ_ _=>True) (λk o=>[(0,.sl none (GH (x::r))),(2,.ptr 0 0),(3,.ptr 1 0),(4,.int .i64 ((k+1:Nat):Int))]) (λk o=>[some (Pred.z.cf (some 5)),some (o.1.cf o.2)]) (x,none) (by simp at hl;omega) trivial rfl rfl ?_ ?_
  ·intro k o y ys hd hy _ hF h0 h1 hw
   have hy2:(x::r)[k+1]? =some y:=by simpa using hy
   have h2:(((k+1:Nat):Int)<((r.length+1:Nat):Int)):=FR
   have h3:(0:Int)<=((k+1:Nat):Int):=FR
   have hw2:=Mg (k:=k+1) (by simp at hl;omega)
   simp only[go_sem,h2,h3,dT,GQ hy2,Ag,hw2]
   exact⟨(rM o.1 y,some 5),by rw[CB],rfl,rfl⟩
  ·intro o _ hF
   simp only[go_sem,AQ,dF]
   rw[Pw,LS,hF];rfl
def AAV(l:List Int)(hl:l.length<=1073741824):FT AA 128 [.sl none (GK l)] (.agg (Pw (l.map ZU)).c):=by
 refine pB ASq rfl ?_
 simp only[f128,go_sem]
 refine Fg l (λo r=>o++r.map ZU) (λk o=>o.length=k) (λk o=>[(2,.ptr 0 0),(3,.sl (some 5) (GH o)),(6,.sl none (GK l)),(7,.int .i64 l.length),(8,.int .i64 k)]) (λk o=>[some (Pred.z.cf (some 5))]) [] FR rfl rfl rfl ?_ ?_
 ·intro k o y ys hd hy hI hF h0 h1 hw
  have hk2:=Fq hd
  simp only[go_sem,h0,h1,Gl hy]
  repeat' (first|(apply pK (AXt _);simp only[go_sem,hw])|apply cg<;>intro hc<;>simp only[go_sem,hc,h0,h1,hw,Gl hy])
  exact⟨FR,FR,o++[ZU y],sm,by simp[hI],rfl,rfl⟩
 ·intro o hI hF
  have hF:o=l.map ZU:=by simpa using hF.symm
  simp only[go_sem,AQ,dF]
  repeat' (first|(apply pK (FT.lend (l9 o FR Jl));simp only[go_sem])|apply cg<;>intro hc<;>simp only[go_sem,hc])
  rw[hF];rfl
def AEg(t:Ev)(hl:t.wires.length<=1073741824):FT AA 288 [.agg t.c] (.agg (PI t).c):=by
 refine pB AKv rfl ?_
 simp only[f288,go_sem]
 refine Fg t.wires (λo r=>o++r.map λw=>ZU w.src) (λk o=>o.length=k) (λk o=>[(1,.ptr 0 0),(2,.ptr 1 0),(3,.sl (some 5) (GH o)),(4,.int .i64 k)]) (λk o=>[some t.c,some (Pred.z.cf (some 5))]) [] FR rfl rfl rfl ?_ ?_
 ·intro k o y ys hd hy hI hF h0 h1 hw
  have hk2:=Fq hd
  simp only[go_sem,h0,h1,HW hy]
  repeat' (first|(apply pK (AXW _);simp only[go_sem,hw])|apply cg<;>intro hc<;>simp only[go_sem,hc,h0,h1,hw,HW hy])
  exact⟨FR,FR,o++[ZU y.src],sm,by simp[hI],rfl,rfl⟩
 ·intro o hI hF
  have hF:o=t.wires.map λw=>ZU w.src:=by simpa using hF.symm
  simp only[go_sem,AQ,dF]
  repeat' (first|(apply pK (FT.lend (z_ o FR));simp only[go_sem])|apply cg<;>intro hc<;>simp only[go_sem,hc])
  rw[hF];rfl
def AEw(t:Ev)(hl:t.wires.length<=1073741824):FT AA 72 [.agg t.c] (.agg (PI t).c):=by
 refine pB AZl rfl ?_
 simp only[f72,go_sem]
 refine Fg t.wires (λo r=>o++r.map (·.src)) (λk o=>o.length=k) (λk o=>[(2,.ptr 1 0),(3,.sl (some 1) (GK o)),(7,.sl none (Ma t.wires)),(8,.int .i64 t.wires.length),(9,.int .i64 k)]) (λk o=>[some t.c,some (Pred.z.cf (some 5))]) [] FR rfl rfl rfl ?_ ?_
 ·intro k o y ys hd hy hI hF h0 h1 hw
  have hk2:=Fq hd
  simp only[go_sem,h0,h1,hw,HW hy]
  repeat' (first|apply cg<;>intro hc<;>simp only[go_sem,hc,h0,h1,hw,HW hy])
  exact⟨FR,FR,o++[y.src],sm,by simp[hI],rfl,rfl⟩
 ·intro o hI hF
  have hF:o=t.wires.map (·.src):=by simpa using hF.symm
  simp only[go_sem,AQ,dF]
  repeat' (first|(apply pK (FT.lend (AAV o FR));simp only[go_sem])|apply cg<;>intro hc<;>simp only[go_sem,hc])
  rw[hF,By];rfl
def nF{α:Type}{z:α}{two:α->α->α}(x:α): ∀{l:List α},l≠[]->LS z two (l++[x])=two (LS z two l) x
 |[],h=>absurd rfl h
 |y::l,_=>by simp[LS]
def AEf(t:Ev)(hl:t.wires.length<=1073741824):FT AA 286 [.agg t.c] (.agg (Mx t).c):=by
 refine pB AK4 rfl ?_
 simp only[f286,go_sem]
 repeat' (first|(apply pK (FT.lend (VB Jl));simp only[go_sem])|apply cg<;>intro hc<;>simp only[go_sem,hc])
 refine Fg t.wires (λ(_:Es) (_:List Wire)=>()) (λk o=>o=LS (IE Jl) Ks ((t.wires.take k).map PJ)) (λk o=>[(1,.ptr 0 0),(2,.ptr 1 0),(3,.ptr 2 0),(4,.int .i64 k)]) (λk o=>[some t.c,some (Policy.z.cf (some 5) (some 9)),some o.c]) (IE Jl) FR rfl rfl rfl ?_ ?_
 ·intro k o y ys hd hy hI hF h0 h1 hw
  have hk2:=Fq hd
  have ht:t.wires.take (k+1)=t.wires.take k++[y]:=by rw[BD,hy];rfl
  simp only[go_sem,h0,h1,HW hy]
  repeat' (first|((first|apply pK (AXW _)|apply pK (VB _)|apply pK (AXX _ _)|apply pK (AGt _ _));simp only[go_sem,h0,HW hy])|apply cg<;>intro hc<;>simp only[go_sem,hc,hw])
  ·have hk:k=0:=by simp at hc;omega
   subst hk
   refine⟨PJ y, ?_,rfl,rfl⟩
   rw[ht];rfl
  ·have hk:k≠0:=by simp at hc;omega
   refine Wu.intro (AEi _ _) ?_
   simp only[go_sem,hw]
   refine⟨Ks o (PJ y), ?_,rfl,rfl⟩
   rw[ht,List.map_append,hI]
   exact(nF _ (by simp;constructor;omega;intro h;rw[h]at hk2;simp at hk2)).symm
 ·intro o hI hF
  simp only[go_sem,AQ,dF]
  rw[Mx,hI,BI]
def AEv(t:Ev)(hl:t.wires.length<=1073741824):FT AA 70 [.agg t.c] (.agg (Mx t).c):=by
 refine pB AZv rfl ?_
 simp only[f70,go_sem]
 refine Fg t.wires (λo r=>o++r.map PJ) (λk o=>o.length=k) (λk o=>[(2,.ptr 1 0),(3,.sl (some 9) (F6 o)),(7,.sl none (Ma t.wires)),(8,.int .i64 t.wires.length),(9,.int .i64 k)]) (λk o=>[some t.c,some (Policy.z.cf (some 5) (some 9))]) [] FR rfl rfl rfl ?_ ?_
 ·intro k o y ys hd hy hI hF h0 h1 hw
  have hk2:=Fq hd
  simp only[go_sem,h0,h1,HW hy]
  repeat' (first|((first|apply pK (AXt _)|apply pK (VK _)|apply pK (FT.lend (qX (IE (ZU y.src)) (Xq GI y.dst))));simp only[go_sem,hw])|apply cg<;>intro hc<;>simp only[go_sem,hc,h0,h1,hw,HW hy])
  exact⟨FR,FR,o++[PJ y],sm,by simp[hI],rfl,rfl⟩
 ·intro o hI hF
  have hF:o=t.wires.map PJ:=by simpa using hF.symm
  simp only[go_sem,AQ,dF]
  repeat' (first|((first|apply pK (FT.lend (VK Jl))|apply pK (FT.lend (Z1 o FR (IE Jl))));simp only[go_sem])|apply cg<;>intro hc<;>simp only[go_sem,hc])
  rw[hF];rfl
def Rg{α:Type}{l:List α}:((l.length:Int)==0)=true↔l=[]:=by
 cases l<;>simp;omega
def AAB(t:Ev)(hl:t.wires.length<=1073741824)(p:Es):FT AA 230 [.agg t.c,.agg p.c] (.agg (HI t p).c):=by
 refine pB AM0 rfl ?_
 simp only[f230,go_sem]
 repeat' (first|((first|apply pK (AEf t hl)|apply pK (AEg t hl)|apply pK (AGt _ _)|apply pK (AIB _)|apply pK (FT.lend (VB (bN (PI t)))));simp only[go_sem])|apply cg<;>intro hc<;>simp only[go_sem,hc])
 ·rw[HI,iP (Rg.1 hc)]
 ·rw[HI,iN (λh=>by rw[Rg.2 h]at hc;cases hc)]
def AAj(t:Ev)(hl:t.wires.length<=1073741824)(p:Es):FT AA 37 [.agg t.c,.agg p.c] (.agg (HI t p).c):=by
 refine pB AbR rfl ?_
 simp only[f37,go_sem]
 repeat' (first|((first|apply pK (AEv t hl)|apply pK (AEw t hl)|apply pK (FT.lend (qX (UD p (R3 (UD (Mx t) p))) (IE (bN (PI t)))))|apply pK (FT.lend (qX p (R3 (UD (Mx t) p))))|apply pK (qX (Mx t) p)|apply pK (FT.lend (VK (bN (PI t)))));simp only[go_sem])|apply cg<;>intro hc<;>simp only[go_sem,hc])
 ·rw[HI,iP (Rg.1 hc)]
 ·rw[HI,iN (λh=>by rw[Rg.2 h]at hc;cases hc)]
def HV(t:Ev):List Eu->List Eu->List Eu×Int
 |o,[]=>(o,0)
 |o,x::r=>if Up (HI t x.policy)=2 then([],2)else HV t (o++[{ x with policy:=HI t x.policy }]) r
def GE(t:Ev):List Eu×Int:=HV t [] t.program
def AEx(t:Ev)(hl:t.wires.length<=1073741824)(hp:t.program.length<=1073741824)(hb:∀x∈t.program,FU (HI t x.policy).c<=1073741824):
  FT AA 11 [.agg t.c] (.tup [.sl none (F4 (GE t).1),.int .i64 (GE t).2]):=by
 refine pB AcV rfl ?_
 simp only[f11,go_sem]
 refine Fg t.program (λo r=>HV t o r) (λk o=>o.length=k) (λk o=>[(1,.ptr 0 0),(4,.sl (some 15) (F4 o)),(8,.sl none (F4 t.program)),(9,.int .i64 t.program.length),(10,.int .i64 k)]) (λk o=>[some t.c]) [] FR rfl rfl rfl ?_ ?_
 ·intro k o y ys hd hy hI hF h0 h1 hw
  have hk2:=Fq hd
  simp only[go_sem,h0,h1,F7 hy]
  repeat' (first|((first|apply pK (AAj t hl _)|apply pK (XM _ (hb y (AB hy))));simp only[go_sem])|apply cg<;>intro hc<;>simp only[go_sem,hc,hw])
  ·have h2:HV t [] t.program=([],2):=by rw[hF,HV,iP (by simpa using hc)]
   rw[GE,h2];rfl
  ·refine⟨FR,FR,o++[{ y with policy:=HI t y.policy }], ?_,by simp[hI],rfl,rfl⟩
   rw[HV,iN (by simpa using hc)]
 ·intro o hI hF
  simp only[go_sem,AQ,dF]
  rw[GE,hF];rfl
def AfG(x y:Er):FU (GH [x,y])=FU x.c+FU y.c:=by rw[He];simp[FU,AV.bulk]
def AfH(x:Er):FU (GH [x])=FU x.c:=by rw[He];simp[FU,AV.bulk]
def AC1:FU (GH [])=0:=by rw[He];rfl
def AHS(x y:Es):FU (F6 [x,y])=FU x.c+FU y.c:=by rw[Gf];simp[FU,AV.bulk]
def AfJ(x:Es):FU (F6 [x])=FU x.c:=by rw[Gf];simp[FU,AV.bulk]
def AHT:FU (F6 [])=0:=by rw[Gf];rfl
def AHU(n:Int):FU (ZU n).c=9:=by rw[Kr];simp only[ZU,AC1];rfl
def jQ:FU Jl.c=5:=by rw[Kr];simp only[Jl,AC1];rfl
def AfI(x y:Er):FU (rM x y).c=5+FU x.c+FU y.c:=by rw[Kr];simp only[rM,AfG];show 0+5+_=_;omega
def AVL(x:Er):FU (bN x).c=5+FU x.c:=by rw[Kr];simp only[bN,AfH];show 0+5+_=_;omega
def rL:FU Pred.z.c=5:=by rw[Kr];show _+5+FU (GH [])=5;rw[AC1];rfl
def S_(x:Er):FU (IE x).c=FU x.c+4:=by rw[Iz];simp only[IE,AHT];show _+0+4+0=_;omega
def AVK(n:Int):FU (Xq GI n).c=13:=by rw[Iz];simp only[Xq,AHT,rL];rfl
def AC0(x y:Es):FU (Ks x y).c=9+FU x.c+FU y.c:=by rw[Iz];simp only[Ks,AHS,rL];show 5+0+4+_=_;omega
def bM(x y:Es):FU (UD x y).c=9+FU x.c+FU y.c:=by rw[Iz];simp only[UD,AHS,rL];show 5+0+4+_=_;omega
def AGC(x:Es):FU (R3 x).c=9+FU x.c:=by rw[Iz];simp only[R3,AfJ,rL];show 5+0+4+_=_;omega
def AC2:∀(l:List Er) (x:Er) (B:Nat),(∀y∈l,FU y.c<=B)->FU (l.foldl rM x).c<=FU x.c+l.length*(B+5)
 |[],x,B,_=>sm
 |y::l,x,B,h=>by
  rw[CB]
  have h1:=AC2 l (rM x y) B λz hz=>h z (by simp[hz])
  have h2:=h y sm
  rw[AfI]at h1
  rw[AD,DU]
  omega
def ZR:∀(l:List Es) (x:Es) (B:Nat),(∀y∈l,FU y.c<=B)->FU (l.foldl Ks x).c<=FU x.c+l.length*(B+9)
 |[],x,B,_=>sm
 |y::l,x,B,h=>by
  rw[CB]
  have h1:=ZR l (Ks x y) B λz hz=>h z (by simp[hz])
  have h2:=h y sm
  rw[AC0]at h1
  rw[AD,DU]
  omega
def xu(l:List Er)(h:∀y∈l,FU y.c<=9):FU (Pw l).c<=9+l.length*14:=by
 unfold Pw
 cases l with
 |nil=>rw[LS,jQ];omega
 |cons x l =>
  have h1:=AC2 l x 9 λy hy=>h y (by simp[hy])
  have h2:=h x sm
  rw[LS,AD]
  omega
def ACz(t:Ev):FU (PI t).c<=9+t.wires.length*14:=by
 have:=xu (t.wires.map λw=>ZU w.src) (λy hy=>by obtain⟨w,_,rfl⟩:=AO.1 hy;rw[AHU];omega)
 rwa [Ap]at this
def ACy(t:Ev):FU (Mx t).c<=35+t.wires.length*44:=by
 unfold Mx
 have hw:∀y∈t.wires.map PJ,FU y.c<=35:=λy hy=>by
  obtain⟨w,_,rfl⟩:=AO.1 hy
  rw[PJ,bM,S_,AHU,AVK];omega
 have hl:(t.wires.map PJ).length=t.wires.length:=Ap _
 rw[<- hl]
 generalize t.wires.map PJ=l at hw
 cases l with
 |nil=>rw[LS,S_,jQ];omega
 |cons x l =>
  have h1:=ZR l x 35 λy hy=>hw y (by simp[hy])
  have h2:=hw x sm
  rw[LS,AD]
  omega
def ZS{t:Ev}{p:Es}(hp:FU p.c<=1048576)(hw:t.wires.length<=1048576):FU (HI t p).c<=1073741824:=by
 unfold HI
 split
 ·omega
 ·have h1:=ACz t
  have h2:=ACy t
  rw[bM,bM,AGC,bM,S_,AVL]
  omega
def ACP:∀x:Er,ZD x x=true:=by
 refine I2 _ λx ih=>?_
 rw[Ih]
 have:∀l:List Er,(∀y∈l,ZD y y=true)->S3 l l=true:=by
  intro l
  induction l with
  |nil=>intro _;rw[MD]
  |cons y l ihl=>intro h;rw[I9,h y sm,ihl λz hz=>h z (by simp[hz])];rfl
 rw[this x.args ih];simp
def zb1:Agw.lv=Fv [[2,3],[2,3,5],[2,3,44],[4],[2,3,6],[2,3,6,49],[2,3,6],[2,3,6,7],[2,3,6,64],[4],[4]]:=Fz rfl dk
def zb2:=F9 Agw
def zb3:Agw.tk=[]/\Agw.mt=[]/\Agw.pc=[12,62]:=⟨rfl,rfl,rfl⟩
attribute [go_sem] zb1 zb2 zb3
def Ae_:∀x y:Es,FT AA 121 [.agg x.c,.agg y.c] (.bool (eqO x y)):=by
 refine HM _ λx ih=>λy=>?_
 refine FT.fit AB0.c λhf=>?_
 have hl:=Ic (P4 hf)
 refine pC AB0 rfl ?_
 simp only[f121,go_sem]
 repeat' (first|(apply pK (rH _ _);simp only[go_sem])|apply cg<;>intro hc<;>simp only[go_sem,hc,FV])
 all_goals first
  |rfl
  |(simp only[JJ];rfl)
  |grind[JJ]
  |(simp only[JJ];grind)
  |(simp[JJ, *];done)
  |(simp_all[JJ];done)
  |skip
 have hll:x.args.length=y.args.length:=by grind
 refine Fe x.args (λr=>Xl r (y.args.drop (x.args.length - r.length))) (λk=>[(2,.ptr 0 0),(3,.ptr 1 0),(6,.int .i64 k)]) hl rfl ?_ ?_
 ·intro k z zs hd hx hF h0 h1 hw
  have hk:=Fq hd
  obtain⟨w,hy⟩:∃w,y.args[k]? =some w:=⟨_,AH FR⟩
  have e1:x.args.length - (z::zs).length=k:=Hy
  have e2:x.args.length - zs.length=k+1:=FR
  have e3:y.args.drop k=w::y.args.drop (k+1):=by rw[BG FR];congr 1;grind
  have h2:(k:Int)<(y.args.length:Int):=FR
  rw[e1,e3,AP,BC,Lq]at hF
  have hm:=AB hx
  simp only[go_sem,h0,h1,Ft hx,Ft hy]
  repeat' (first|(apply pK (ih _ hm _);simp only[go_sem])|apply cg<;>intro hc<;>simp only[go_sem,hc,hw,e2])
  all_goals first
   |rfl
   |(simp only[JJ,hF];rfl)
   |grind[JJ,Lq]
   |(simp only[JJ,Lq,hF];grind)
   |(simp[JJ,Lq,hF, *];done)
   |(simp_all[JJ,Lq,hF];done)
   |skip
 ·intro hF hlt
  simp only[go_sem,hlt,dF]
  all_goals first
   |rfl
   |(simp only[JJ];rfl)
   |grind[JJ,O8]
   |(simp only[JJ,O8];grind)
   |(simp[JJ,O8, *];done)
   |(simp_all[JJ,O8];done)
   |skip
def AEh(t:Ev)(hl:t.wires.length<=1073741824)(hp:t.program.length<=1073741824)(hb:∀x∈t.program,FU (HI t x.policy).c<=1073741824):
  FT AA 170 [.agg t.c] (.tup [.sl none (F4 (GE t).1),.int .i64 (GE t).2]):=by
 refine pB AQD rfl ?_
 simp only[f170,go_sem]
 refine Fg t.program (λo r=>HV t o r) (λk o=>o.length=k) (λk o=>[(1,.ptr 0 0),(4,.sl (some 15) (F4 o)),(5,.int .i64 k)]) (λk o=>[some t.c]) [] FR rfl rfl rfl ?_ ?_
 ·intro k o y ys hd hy hI hF h0 h1 hw
  have hk2:=Fq hd
  simp only[go_sem,h0,h1,F7 hy]
  repeat' (first|((first|apply pK (AAB t hl _)|apply pK (ACn _ (hb y (AB hy))));simp only[go_sem])|apply cg<;>intro hc<;>simp only[go_sem,hc,h0,hw,F7 hy])
  ·have h2:HV t [] t.program=([],2):=by rw[hF,HV,iP (by simpa using hc)]
   rw[GE,h2];rfl
  ·refine⟨FR,FR,o++[{ y with policy:=HI t y.policy }], ?_,by simp[hI],rfl,rfl⟩
   rw[HV,iN (by simpa using hc)]
 ·intro o hI hF
  simp only[go_sem,AQ,dF]
  rw[GE,hF];rfl
section
variable{P:Program}{K:Kt}{e:Fs}{H:cj}{d:Tmp}{t kt et:TypeId}{o:Nat}{α:Type}
def AA'(f:α->AV)(l:List α)(k:AV)(hu:P.underlying t=some (.map kt et))(hz:Fk P et=some (.bool false))(hm:H[o]? =some (some (J6 (LY f l))))(hk:Mq P kt (k::l.map f))(hd:Rw f l)
  (h:K ((d,.bool (l.any λx=>Hr (f x) k))::e) H):AIT P t false (.mapr o) k d K e H:=by
 unfold AIT
 rw[hu]
 dsimp only
 rw[fg hm]
 dsimp only
 refine⟨by rw[de];exact hk,WG f hd,_,hz, ?_⟩
 rw[AIU];exact h
end
@[go_sem] def AfE(o n:Nat):(AV.mapr o).bnd n=decide (o<n):=rfl
end Go.AI
namespace Go.AI
open Go.Proofs
set_option maxRecDepth 50000
def mC{H:cj}(l:List Fld)(hl:l.length<=9223372036854775807)(g:FuncId)(fi ca:List AV)(p:Fld->Bool)
  (h:∀x∈l,GM AA g (fi.map AV.borrow++(.agg x.c::ca.map AV.borrow)) H (.bool (p x))):
  GM AA 189 [.sl none (GL l),.fn (.func g) fi ca] H (.int .i64 (H8 p l)):=by
 unfold GM
 refine aC AO5 rfl ?_
 simp only[f189,go_sem]
 refine Fe l (λr=>G9 p (l.length - r.length) r) (λk=>[(0,.sl none (GL l)),(1,.fn (.func g) fi ca),(7,.int .i64 l.length),(8,.int .i64 k)]) hl rfl ?_ ?_
 ·intro k x xs hd hx hF h0 h1 hw
  have hk2:=Fq hd
  have e1:l.length - (xs.length+1)=k:=FR
  have e2:l.length - xs.length=k+1:=FR
  simp only[AD,e1,AP]at hF
  simp only[go_sem,h0,h1,II hx]
  repeat' (first|(refine aS (h x (AB hx)) ?_;simp only[go_sem])|apply cg<;>intro hc<;>simp only[go_sem,hc,hw,e1,e2])
  ·rw[H8,hF,G9,iP hc]
  ·rw[G9,iN (by rw[hc];decide)]
 ·intro hF hlt
  simp only[go_sem,hlt,dF]
  rw[AP]at hF
  rw[H8,hF];rfl
@[go_sem] def AWz(o:Nat):(AV.it o).borrow = .it o:=rfl
@[go_sem] def AXY(H:cj)(x y:Option (List AV)):(H++[x]).set H.length y=H++[y]:=sm
def Iv(Pre:Nat->cj->Prop)(n:Nat)(g:cj)(k:Nat)(H:cj):Prop:=∃pre g',H=pre++(g++g')/\pre.length=n/\Pre k pre
def Iv.grow{Pre:Nat->cj->Prop}{n k:Nat}{g H:cj}(h:Iv Pre n g k H)(x:cj):Iv Pre n g k (H++x):=by
 obtain⟨pre,g',rfl,h1,h2⟩:=h
 exact⟨pre,g'++x,sm,h1,h2⟩
def Iv.at{Pre:Nat->cj->Prop}{n k i:Nat}{g H:cj}(h:Iv Pre n g k H){c:Option (List AV)}(hi:g[i]? =some c):H[n+i]? =some c:=by
 obtain⟨pre,g',rfl,h1,h2⟩:=h
 have hlt:=(AC.1 hi).1
 rw[AN FR,h1,Nat.add_sub_cancel_left,AX hlt,hi]
def AAQ:FT AA 110 [] (.agg JZ.c):=by
 have h:FT AA 110 [] (.agg JZ.c):=FT.run ACN 100 rfl kr kr
 exact h
def AE2{H:cj}(f:Fld)(s:ByteArray)(o:Nat)(ho:H[o]? =some (some [.str s])):GM AA 209 [.agg f.c,.ptr o 0] H (.bool (decide (f.name=s))):=by
 refine Fa.drop rfl ?_
 refine aC AOG rfl ?_
 have ho':∀z,(H++z)[o]? =some (some [.str s]):=λz=>by
  have:=(AC.1 ho).1
  rw[AX this];exact ho
 simp only[f209,go_sem,ho',FV]
def gY{α:Type}(p:α->Bool): ∀ (l:List α) (i:Nat),match l.find? p with
  |some x => ∃k,G9 p i l=(i+k:Nat)/\l[k]? =some x
  |none=>G9 p i l = -1
 |[],i=>rfl
 | y::l,i=>by
  rw[Bz,G9]
  cases h:p y with
  |true=>exact⟨0,sm,rfl⟩
  | false =>
   have:=gY p l (i+1)
   cases hf:l.find? p with
   |none=>rw[hf]at this;simpa using this
   |some x =>
    rw[hf]at this
    obtain⟨k,h1,h2⟩:=this
    exact⟨k+1,by simp only[Bool.false_eq_true,if_false];rw[h1];congr 1;omega,by simpa using h2⟩
def Qi(l:List Fld)(hl:l.length<=9223372036854775807)(s:ByteArray):FT AA 140 [.sl none (GL l),.str s] (.tup [.agg (Ff l s).1.c,.bool (Ff l s).2]):=by
 have hi:=gY (λf:Fld=>decide (f.name=s)) l 0
 have hport:(JZ.name:ByteArray)=GI:=rfl
 have hidx:=mC (H:=[some [.str s],some Fld.z.c]) l hl 209 [] [.ptr 0 0] (λf=>decide (f.name=s)) (λx _=>AE2 x s 0 rfl)
 refine pB AR8 rfl ?_
 cases hf:l.find? (λf:Fld=>decide (f.name=s))with
 | none =>
  rw[hf]at hi
  have hi:H8 (λf:Fld=>decide (f.name=s)) l = -1:=hi
  rw[hi]at hidx
  simp only[f140,go_sem]
  repeat' (first|((first|apply pK AAQ|refine aS (hidx) ?_);simp only[go_sem,FV])|apply cg<;>intro hc<;>simp only[go_sem,hc])
  ·have h5:s=GI:=by rw[<- hport];exact of_decide_eq_true hc
   rw[Ff,iP h5]
  ·have h5:¬s=GI:=by rw[<- hport];exact of_decide_eq_false hc
   rw[Ff,iN h5,hf]
 | some x =>
  rw[hf]at hi
  obtain⟨k,hk,hx⟩:=hi
  have hk:H8 (λf:Fld=>decide (f.name=s)) l=((0+k:Nat):Int):=hk
  rw[hk,Nat.zero_add]at hidx
  have g1:¬((k:Int)<0):=FR
  have g2:(0:Int)<=(k:Int):=FR
  simp only[f140,go_sem]
  repeat' (first|((first|apply pK AAQ|refine aS (hidx) ?_);simp only[go_sem,FV,g1,g2,II hx,dF])|apply cg<;>intro hc<;>simp only[go_sem,hc])
  ·have h5:s=GI:=by rw[<- hport];exact of_decide_eq_true hc
   rw[Ff,iP h5]
  ·have h5:¬s=GI:=by rw[<- hport];exact of_decide_eq_false hc
   rw[Ff,iN h5,hf]
@[go_sem] def AW5{P:Program}{t:TypeId}{k k':IntKind}{x y:Int}{d:Tmp}{K:Kt}{e:Fs}{H:cj}:IC P .shl t (.int k x) (.int k' y) d K e H=(0<=y/\K ((d,.int k (k.wrap (x*2^(min y.toNat k.bits))))::e) H):=by
 rw[HL];simp[KJ]
def tF:∀n:Nat,n<17->IntKind.i64.wrap (IntKind.i64.wrap (1*2^(min n IntKind.i64.bits)) - 1)=i64 (XH n - 1):=by
 decide
def qb(f:Fld)(h0:0<=f.width)(h1:f.width<=16):FT AA 210 [.agg f.c] (.int .i64 (KY f)):=by
 have hm:=tF f.width.toNat FR
 refine pC AOC rfl ?_
 simp only[f210,go_sem,h0]
 rw[KY,<- hm];rfl
@[go_sem] def AfX{α:Type}(G:List α)(a b:α):(G++[a,b])[(G++[a]).length]? =some b:=by
 rw[AF,AN sm];simp
@[go_sem] def AfZ{α:Type}(G:List α)(a b:α):(G++[a,b])[G.length]? =some a:=by
 rw[AN (AT _)];simp
@[go_sem] def AfY{α:Type}(G:List α)(a b z:α):(G++[a,b]).set (G++[a]).length z=G++[a,z]:=by
 rw[AF,List.set_append_right _ _ sm];simp
@[go_sem] def Afz:Fk AA 144=some .nilm/\AA.underlying 144=some (.map 3 4):=⟨kr,kr⟩
abbrev Jy(n:Int):AV:=.int .i64 n
def ZX{k:AV}: ∀{es:List (AV×AV)} {i j:Nat} {v:AV},JG k es i=some (j,v)->i<=j /\ ∃p,es[j - i]? =some p/\Hr p.1 k=true/\p.2=v
 |[],_,_,_,h=>by cases h
 | p::es,i,j,v,h=>by
  rw[JG]at h
  by_cases hk:Hr p.1 k=true
  ·rw[iP hk]at h
   cases h
   exact⟨AT _,p,sm,hk,rfl⟩
  ·rw[iN hk]at h
   obtain⟨h1,q,h2,h3,h4⟩:=ZX h
   refine⟨FR,q, ?_,h3,h4⟩
   have:j - i=(j - (i+1))+1:=FR
   rw[this];simpa using h2
def qj(z n:Int):Hr (Jy z) (Jy n)=(z==n):=by
 rw[A'];simp[Hr,Nu]
def rP(l:List Int)(n:Int):(l.any λy=>Hr (Jy y) (Jy n))=l.any λz=>z==n:=by
 simp only[qj]
def zU(l:List Int)(n:Int):Mn (LY Jy l) (Jy n) (.bool true)=LY Jy (if l.any (λz=>z==n) then l else l++[n]):=by
 by_cases h:(l.any λz=>z==n)=true
 ·rw [iP h]
  have h2:=Px Jy (Jy n) l 0
  rw[rP,iP h]at h2
  unfold Mn
  cases ha:JG (Jy n) (LY Jy l) 0 with
  |none=>rw[ha]at h2;cases h2
  | some q =>
   obtain⟨j,v⟩:=q
   obtain⟨_,p,hp,hk,hv⟩:=ZX ha
   dsimp only
   rw[Nat.sub_zero]at hp
   have hp2:=hp
   rw[LY,Aa]at hp2
   cases hl:l[j]? with
   |none=>rw[hl]at hp2;cases hp2
   | some z =>
    rw[hl]at hp2
    cases hp2
    rw[qj]at hk
    have hz:z=n:=by simpa using hk
    subst hz
    apply A3
    intro m
    rw[Ax]
    split
    ·rename_i hjm
     subst hjm
     rw[hp]
     have:=(AC.1 hp).1
     rw[iP this]
    ·rfl
 ·rw[iN h]
  exact AEY Jy n l (by rw[rP];exact(Dd _).mp h)
def rr{P:Program}{K:Kt}{e:Fs}{H:cj}{t kt et:TypeId}{o:Nat}(l:List Int)(n:Int)(hu:P.underlying t=some (.map kt et))(hm:H[o]? =some (some (J6 (LY Jy l))))(hk:Mq P kt (Jy n::l.map Jy))(hd:Rw Jy l)
  (h:K e (H.set o (some (J6 (LY Jy (if l.any (λz=>z==n)then l else l++[n])))))):AH0 P t (.mapr o) (Jy n) (.bool true) K e H:=by
 unfold AH0
 dsimp only
 rw[hu]
 dsimp only
 rw[fg hm]
 dsimp only
 refine⟨by rw[de];exact hk,WG Jy hd,rfl, ?_⟩
 rw[zU];exact h
def ACV{l:List Int}(n:Int)(hd:Rw Jy l):Rw Jy (if l.any (λz=>z==n)then l else l++[n]):=by
 split
 ·exact hd
 ·rename_i h
  exact WH Jy n hd (by rw[rP];exact(Dd _).mp h)
structure VE where
 v:Variable
 b:Bool
def XE(l:List Fld)(s:Stp):Variable:=⟨s.var,Lc s.kind,I3 l s.key,if L3 s then s.n else 0,if L3 s then s.m else 0⟩
def OG(E:List VE)(nm:ByteArray):Option VE:=E.find? λe=>decide (e.v.name=nm)
def rj:List VE->VE->List VE
 |[],x=>[x]
 |e::E,x=>if e.v.name=x.v.name then x::E else e::rj E x
def lT(l:List Fld)(e:VE)(s:Stp):Bool:=e.v.family !=Lc s.kind||(!Xm e.v.widths (I3 l s.key)||(L3 s&&(e.b&&(e.v.n !=s.n||e.v.m !=s.m))))
def TO(l:List Fld)(E:List VE)(s:Stp):Option (List VE) :=
 if s.kind=0 then some E else match OG E s.var with
  |none=>some (rj E ⟨XE l s,L3 s⟩)
  |some e=>if lT l e s then none else if L3 s then some (rj E ⟨XE l s,true⟩)else some E
def vGo(l:List Fld):List VE->List Eu->Option (List VE)
 |E,[]=>some E
 |E,x::r=>match TO l E x.step with
  |none=>none
  |some E'=>vGo l E' r
def KP(x:VE)(nm:ByteArray): ∀ E:List VE,OG (rj E x) nm=if x.v.name=nm then some x else OG E nm
 |[]=>by
  unfold rj OG
  by_cases h:x.v.name=nm<;>simp[h]
 | e::E=>by
  have ih:=KP x nm E
  unfold rj
  by_cases h:e.v.name=x.v.name
  ·rw[iP h]
   unfold OG
   by_cases h2:x.v.name=nm
   ·simp[h2]
   ·simp[h2,h]
  ·rw[iN h]
   unfold OG at ih ⊢
   rw[Bz,Bz]
   by_cases h2:e.v.name=nm
   ·have:¬x.v.name=nm:=λh3=>h (h2.trans h3.symm)
    simp[h2,this]
   ·simp only[h2,dF]
    exact ih
structure VInv (l:List Fld) (E:List VE) (p:List Eu):Prop where
 src:∀nm e,OG E nm=some e -> ∃x∈p,x.step.kind≠0/\x.step.var=nm
 fits:∀x∈p,x.step.kind≠0 -> ∃e,OG E x.step.var=some e/\e.v.family=Lc x.step.kind/\e.v.widths=I3 l x.step.key/\(L3 x.step=true->e.b=true/\e.v.n=x.step.n/\e.v.m=x.step.m)
 num:∀nm e,OG E nm=some e->e.b=true -> ∃x∈p,x.step.kind≠0/\x.step.var=nm/\L3 x.step=true
def VInv.nil(l:List Fld):VInv l [] []:=⟨λ_ _ h=>(by cases h),λ_ h=>(by cases h),λ_ _ h=>(by cases h)⟩
def zT{l:List Fld}{E:List VE}{p:List Eu}(h:VInv l E p){s:Stp}(hk:s.kind≠0):
  p.any (λy=>LT l y.step s)=match OG E s.var with|none=>false|some e=>lT l e s:=by
 cases hf:OG E s.var with
 |none =>
  dsimp only
  rw[Bh]
  intro y hy hc
  unfold LT at hc
  simp only[AM,bne_iff_ne,ne_eq,decide_eq_true_eq]at hc
  obtain⟨e,he,_⟩:=h.fits y hy hc.1.1
  rw[hc.2.1,hf]at he
  cases he
 | some e =>
  dsimp only
  rw[A',CW]
  constructor
  ·rintro ⟨y,hy,hc⟩
   unfold LT UE at hc
   simp only[AM,bne_iff_ne,ne_eq,decide_eq_true_eq]at hc
   obtain⟨⟨k1,k2⟩,hv,ha⟩:=hc
   obtain⟨e',he,h1,h2,h3⟩:=h.fits y hy k1
   rw[hv,hf]at he
   cases he
   have ha':(L3 y.step=true/\L3 s=true/\(y.step.n≠s.n\/y.step.m≠s.m))\/Xm (I3 l y.step.key) (I3 l s.key)=false\/Lc y.step.kind≠Lc s.kind:=by
    generalize Xm (I3 l y.step.key) (I3 l s.key)=B at ha ⊢
    generalize Lc y.step.kind=f1 at ha ⊢
    generalize Lc s.kind=f2 at ha ⊢
    generalize L3 y.step=c1 at ha ⊢
    generalize L3 s=c2 at ha ⊢
    cases B<;>cases c1<;>cases c2<;>simp at ha ⊢
    all_goals first|exact ha|(rcases ha with ha|ha<;>grind)|grind
   unfold lT
   rw[h1,h2]
   rcases ha' with⟨a1,a2,a3⟩|a|a
   ·obtain⟨g1,g2,g3⟩:=h3 a1
    rw[g1,g2,g3,a2]
    rcases a3 with a3|a3<;>simp[a3]
   ·simp[a]
   ·simp[a]
  ·intro hb
   unfold lT at hb
   by_cases hn:L3 s=true/\e.b=true/\(e.v.n !=s.n||e.v.m !=s.m)=true
   ·obtain⟨n1,n2,n3⟩:=hn
    obtain⟨y,hy,k1,k2,k3⟩:=h.num _ e hf n2
    obtain⟨e',he,h1,h2,h3⟩:=h.fits y hy k1
    rw[k2,hf]at he
    cases he
    obtain⟨g1,g2,g3⟩:=h3 k3
    refine⟨y,hy, ?_⟩
    unfold LT UE
    rw[n1,k3,<- g2,<- g3,n3]
    simp[k1,hk,k2]
   ·obtain⟨y,hy,k1,k2⟩:=h.src _ e hf
    obtain⟨e',he,h1,h2,h3⟩:=h.fits y hy k1
    rw[k2,hf]at he
    cases he
    refine⟨y,hy, ?_⟩
    unfold LT UE
    rw[<- h1,<- h2]
    have hb2:(e.v.family !=Lc s.kind || !Xm e.v.widths (I3 l s.key))=true:=by
     rw[CF]at hb ⊢
     rcases hb with hb|hb
     ·exact .inl hb
     ·rw[CF]at hb
      rcases hb with hb|hb
      ·exact .inr hb
      ·exfalso
       apply hn
       simp only[AM]at hb
       exact⟨hb.1,hb.2.1,hb.2.2⟩
    have hb3:(Xm e.v.widths (I3 l s.key)&&e.v.family==Lc s.kind)=false:=by
     generalize Xm e.v.widths (I3 l s.key)=B at hb2 ⊢
     cases B
     ·rfl
     ·simp only[As,Bool.or_false]at hb2
      simpa using hb2
    rw[hb3]
    simp[k1,hk,k2]
def VInv.step{l:List Fld}{E:List VE}{p:List Eu}(h:VInv l E p){x:Eu}{E':List VE}(hs:TO l E x.step=some E'):VInv l E' (p++[x]):=by
 unfold TO at hs
 split at hs
 ·rename_i hk
  cases hs
  exact⟨λnm e he=>by obtain⟨y,hy,h1⟩:=h.src nm e he;exact⟨y,by simp[hy],h1⟩,
   λy hy hk2=>by
    rcases Ar.1 hy with hy|hy
    ·exact h.fits y hy hk2
    ·rw[Ab.1 hy]at hk2;exact absurd hk hk2,
   λnm e he hb=>by obtain⟨y,hy,h1⟩:=h.num nm e he hb;exact⟨y,by simp[hy],h1⟩⟩
 ·rename_i hk
  split at hs
  ·rename_i hf
   cases hs
   refine⟨λnm e he=>?_,λy hy hk2=>?_,λnm e he hb=>?_⟩
   ·rw[KP]at he
    split at he
    ·rename_i hn
     exact⟨x,sm,hk,hn⟩
    ·obtain⟨y,hy,h1⟩:=h.src nm e he;exact⟨y,by simp[hy],h1⟩
   ·rw[KP]
    rcases Ar.1 hy with hy|hy
    ·obtain⟨e,he,h1⟩:=h.fits y hy hk2
     have hne:¬(XE l x.step).name=y.step.var:=λhn=>by
      have hn:x.step.var=y.step.var:=hn
      rw[<- hn,hf]at he;cases he
     exact⟨e,by rw[iN hne];exact he,h1⟩
    ·rcases Ab.1 hy with rfl
     refine⟨_,iP rfl,rfl,rfl,λhn=>⟨hn, ?_, ?_⟩⟩
     ·simp[XE,hn]
     ·simp[XE,hn]
   ·rw[KP]at he
    split at he
    ·rename_i hn
     cases he
     exact⟨x,sm,hk,hn,hb⟩
    ·obtain⟨y,hy,h1⟩:=h.num nm e he hb;exact⟨y,by simp[hy],h1⟩
  ·rename_i e0 hf
   split at hs
   ·cases hs
   ·rename_i hb0
    have hb0:lT l e0 x.step=false:=by simpa using hb0
    unfold lT at hb0
    rw[CC,CC]at hb0
    obtain⟨b1,b2,b3⟩:=hb0
    have b1:e0.v.family=Lc x.step.kind:=by simpa using b1
    have b2:e0.v.widths=I3 l x.step.key:=by simpa [Xm]using b2
    split at hs
    ·rename_i hnum
     cases hs
     refine⟨λnm e he=>?_,λy hy hk2=>?_,λnm e he hb=>?_⟩
     ·rw[KP]at he
      split at he
      ·rename_i hn
       exact⟨x,sm,hk,hn⟩
      ·obtain⟨y,hy,h1⟩:=h.src nm e he;exact⟨y,by simp[hy],h1⟩
     ·rw [KP]
      rcases Ar.1 hy with hy|hy
      ·obtain⟨e,he,h1,h2,h3⟩:=h.fits y hy hk2
       by_cases hn:(XE l x.step).name=y.step.var
       ·have hn2:x.step.var=y.step.var:=hn
        rw[<- hn2,hf]at he
        cases he
        refine⟨_,iP hn, ?_, ?_,λhny=>?_⟩
        ·show Lc x.step.kind=_
         rw[<- b1,h1]
        ·show I3 l x.step.key=_
         rw[<- b2,h2]
        ·obtain⟨g1,g2,g3⟩:=h3 hny
         rw[hnum,g1,g2,g3]at b3
         simp only[Be,CC,bne_eq_false_iff_eq]at b3
         refine⟨rfl, ?_, ?_⟩
         ·simp[XE,hnum,b3.1]
         ·simp[XE,hnum,b3.2]
       ·exact⟨e,by rw[iN hn];exact he,h1,h2,h3⟩
      ·rcases Ab.1 hy with rfl
       refine⟨_,iP rfl,rfl,rfl,λhn=>⟨rfl, ?_, ?_⟩⟩
       ·simp[XE,hn]
       ·simp[XE,hn]
     ·rw[KP]at he
      split at he
      ·rename_i hn
       exact⟨x,sm,hk,hn,hnum⟩
      ·obtain⟨y,hy,h1⟩:=h.num nm e he hb;exact⟨y,by simp[hy],h1⟩
    ·rename_i hnum
     cases hs
     refine⟨λnm e he=>?_,λy hy hk2=>?_,λnm e he hb=>?_⟩
     ·obtain⟨y,hy,h1⟩:=h.src nm e he;exact⟨y,by simp[hy],h1⟩
     ·rcases Ar.1 hy with hy|hy
      ·exact h.fits y hy hk2
      ·rcases Ab.1 hy with rfl
       exact⟨e0,hf,b1,b2,λhn=>absurd hn hnum⟩
     ·obtain⟨y,hy,h1⟩:=h.num nm e he hb;exact⟨y,by simp[hy],h1⟩
def lR{l:List Fld}{E:List VE}{p:List Eu}(h:VInv l E p)(s:Stp):(TO l E s).isSome = !p.any (λy=>LT l y.step s):=by
 by_cases hk:s.kind=0
 ·unfold TO
  rw[iP hk]
  have:p.any (λy=>LT l y.step s)=false:=by
   rw[Bh];intro y _;simp[LT,hk]
  rw[this];rfl
 ·rw[zT h hk]
  unfold TO
  rw[iN hk]
  cases OG E s.var with
  |none=>rfl
  |some e =>
   dsimp only
   cases lT l e s
   ·cases L3 s<;>rfl
   ·rfl
def YX(l:List Fld)(p:List Eu): ∀(n i:Nat) (E:List VE),p.length - i=n->VInv l E (p.take i)->(vGo l E (p.drop i)).isSome=LP l p i (p.drop i)
 | 0,i,E,hn,_=>by
  rw[List.drop_eq_nil_of_le FR];rfl
 | n+1,i,E,hn,h=>by
  have hlt:i<p.length:=FR
  rw[BG hlt,vGo,LP]
  have h1:=lR h p[i].step
  cases hs:TO l E p[i].step with
  |none =>
   rw[hs]at h1
   rw[<- h1];rfl
  |some E' =>
   rw[hs]at h1
   rw[<- h1]
   have ht:p.take (i+1)=p.take i++[p[i]]:=by rw[BD,AH hlt];rfl
   have:=YX l p n (i+1) E' FR (by rw[ht];exact h.step hs)
   simpa using this
def qE(l:List Fld)(p:List Eu):(vGo l [] p).isSome=LP l p 0 p:=by
 have:=YX l p p.length 0 [] FR (by simpa using VInv.nil l)
 simpa using this
def Zd(t:Ev):Prop:=∀w∈t.wires,(0<=w.src/\w.src<=65535)/\(0<=w.dst/\w.dst<=65535)
def Sf(l:List Fld): ∀r:List Es,L0 l r=0 ↔ ∀x∈r,RZ l x=0
 |[]=>by simp[L0]
 |x::r=>by
  rw[L0]
  by_cases h:RZ l x=0
  ·rw[iP h,Sf l r];simp[h]
  ·rw[iN h];simp[h]
def Po(l:List Fld): ∀r:List Er,MB l r=0 ↔ ∀x∈r,P3 l x=0
 |[]=>by simp[MB]
 |x::r=>by
  rw[MB]
  by_cases h:P3 l x=0
  ·rw[iP h,Po l r];simp[h]
  ·rw[iN h];simp[h]
def IP(l:List Fld)(x:Er):Prop:=Na x=true /\ ∀y∈Se x,P3 l y=0
def Hm(l:List Fld)(x:Es):Prop:=Rr x=true /\ ∀y∈M8 x,RZ l y=0
def fc:KY JZ=65535:=dk
def ZC(l:List Fld):Ff l GI=(JZ,true):=by unfold Ff;rw[iP rfl]
def iT:Uk GI=true:=by unfold Uk;simp
def qq(l:List Fld){n:Int}(h1:0<=n)(h2:n<=65535):IP l (ZU n):=by
 constructor
 ·rw[Hn]
  unfold So ZU
  rw[NI]
  simp[iT,RM,h1,h2]
 ·intro y hy
  rw[LZ]at hy
  have:y=ZU n:=by simpa [ZU,Lk]using hy
  subst this
  have:¬(KY JZ<n):=by rw[fc];omega
  simp[P3,ZU,ZC,this]
def V6(l:List Fld):IP l Jl:=by
 constructor
 ·rw[Hn]
  unfold So Jl K5
  rw[NI];simp
 ·intro y hy
  rw[LZ]at hy
  have:y=Jl:=by simpa [Jl,Lk]using hy
  subst this
  simp[P3,Jl]
def AFS{l:List Fld}{x y:Er}(hx:IP l x)(hy:IP l y):IP l (rM x y):=by
 constructor
 ·rw[Hn]
  unfold So rM K5
  dsimp only
  rw[Kg,Kg,NI,hx.1,hy.1];simp
 ·intro z hz
  rw[LZ]at hz
  rcases AY.1 hz with rfl|hz
  ·simp[P3,rM]
  ·have hz:z∈M7 [x,y]:=hz
   rw[Jf,Jf,Lk]at hz
   rcases Ar.1 hz with hz|hz
   ·exact hx.2 z hz
   ·exact hy.2 z (by simpa using hz)
def AB4{l:List Fld}{x:Er}(hx:IP l x):IP l (bN x):=by
 constructor
 ·rw[Hn]
  unfold So bN K5
  dsimp only
  rw[Kg,NI,hx.1];simp
 ·intro z hz
  rw[LZ]at hz
  rcases AY.1 hz with rfl|hz
  ·simp[P3,bN]
  ·have hz:z∈M7 [x]:=hz
   rw[Jf,Lk]at hz
   exact hx.2 z (by simpa using hz)
def O5{l:List Fld}{x:Er}(hx:IP l x):Hm l (IE x):=by
 constructor
 ·rw[IT]
  unfold VR IE
  dsimp only
  rw[NJ,hx.1];simp
 ·intro z hz
  rw[Kv]at hz
  have:z=IE x:=by simpa [IE,KT]using hz
  subst this
  show(if(1:Int)=1 then Rs l x else _)=0
  rw[iP rfl]
  exact(Po l _).2 hx.2
def Q6:ZD Pred.z Pr=true:=ACP _
def AB3(l:List Fld){n:Int}(h1:0<=n)(h2:n<=65535):Hm l (Xq GI n):=by
 constructor
 ·rw[IT]
  unfold VR Xq
  dsimp only
  rw[NJ,Q6];simp[iT,RM,h1,h2]
 ·intro z hz
  rw[Kv]at hz
  have:z=Xq GI n:=by simpa [Xq,KT]using hz
  subst this
  have:¬(KY JZ<n):=by rw[fc];omega
  simp[RZ,Xq,ZC,this]
def iC{l:List Fld}{x y:Es}(hx:Hm l x)(hy:Hm l y){k:Int}(hk:k=3\/k=4):Hm l ⟨k,Pred.z,⟨#[]⟩,0,[x,y]⟩:=by
 constructor
 ·rw[IT]
  unfold VR
  dsimp only
  rw[Kh,Kh,NJ,hx.1,hy.1,Q6]
  rcases hk with rfl|rfl<;>simp
 ·intro z hz
  rw[Kv]at hz
  rcases AY.1 hz with rfl|hz
  ·rcases hk with rfl|rfl<;>simp[RZ]
  ·have hz:z∈MZ [x,y]:=hz
   rw[Ip,Ip,KT]at hz
   rcases Ar.1 hz with hz|hz
   ·exact hx.2 z hz
   ·exact hy.2 z (by simpa using hz)
def nV{l:List Fld}{x y:Es}(hx:Hm l x)(hy:Hm l y):Hm l (Ks x y):=iC hx hy (.inl rfl)
def Rq{l:List Fld}{x y:Es}(hx:Hm l x)(hy:Hm l y):Hm l (UD x y):=iC hx hy (.inr rfl)
def w7{l:List Fld}{x:Es}(hx:Hm l x):Hm l (R3 x):=by
 constructor
 ·rw[IT]
  unfold VR R3
  dsimp only
  rw[Kh,NJ,hx.1,Q6];simp
 ·intro z hz
  rw[Kv]at hz
  rcases AY.1 hz with rfl|hz
  ·simp[RZ,R3]
  ·have hz:z∈MZ [x]:=hz
   rw[Ip,KT]at hz
   exact hx.2 z (by simpa using hz)
def Y7{α:Type}{p:α->Prop}{two:α->α->α}(h2:∀x y,p x->p y->p (two x y)): ∀(l:List α) (x:α),p x->(∀y∈l,p y)->p (l.foldl two x)
 |[],x,hx,_=>hx
 |y::l,x,hx,h=>Y7 h2 l (two x y) (h2 x y hx (h y sm)) λz hz=>h z (by simp[hz])
def Y6{α:Type}{p:α->Prop}{two:α->α->α}{z:α}(h2:∀x y,p x->p y->p (two x y))(hz:p z){l:List α}(h:∀y∈l,p y):p (LS z two l):=by
 cases l with
 |nil=>exact hz
 |cons x l=>exact Y7 h2 l x (h x sm) λy hy=>h y (by simp[hy])
def iD{l:List Fld}{t:Ev}{p:Es}(hw:Zd t)(hp:Hm l p):Hm l (HI t p):=by
 unfold HI
 split
 ·exact hp
 ·have h1:IP l (PI t):=Y6 (p:=IP l) (two:=rM) (λ_ _=>AFS) (V6 l) λy hy=>by
   obtain⟨w,hm,rfl⟩:=AO.1 hy
   exact qq l (hw w hm).1.1 (hw w hm).1.2
  have h2:Hm l (Mx t):=Y6 (p:=Hm l) (two:=Ks) (λ_ _=>nV) (O5 (V6 l)) λy hy=>by
   obtain⟨w,hm,rfl⟩:=AO.1 hy
   exact Rq (O5 (qq l (hw w hm).1.1 (hw w hm).1.2)) (AB3 l (hw w hm).2.1 (hw w hm).2.2)
  exact Rq (Rq hp (w7 (Rq h2 hp))) (O5 (AB4 h1))
def S6{l:List Fld}{x:Es}(h:Km l x=0):Up x=0/\Hm l x:=by
 unfold Km at h
 split at h
 ·rename_i h0
  refine⟨h0, ?_,(Sf l _).1 h⟩
  unfold Up qt at h0
  split at h0
  ·split at h0
   ·assumption
   ·cases h0
  ·rename_i hl;exact absurd h0 hl
 ·rename_i hn;exact absurd h hn
def bB{l:List Fld}{x:Es}(hn:Up x≠2)(h:Hm l x):Km l x=0:=by
 have h0:Up x=0:=by
  unfold Up qt Qn at hn ⊢
  rw[h.1]at hn ⊢
  by_cases hz:(lZ x).nodes>200\/(lZ x).depth>20
  ·rw[iP hz]at hn;exact absurd rfl hn
  ·rw[iN hz];rfl
 rw[Km,iP h0]
 exact(Sf l _).2 h.2
def YY(l:List Fld): ∀(p q:List Eu) (E:List VE),p.map (·.step)=q.map (·.step)->vGo l E p=vGo l E q
 |[],[],_,_=>rfl
 |[],_::_,_,h=>by cases h
 |_::_,[],_,h=>by cases h
 |x::p,y::q,E,h=>by
  simp only[List.map_cons,List.cons.injEq]at h
  rw[vGo,vGo,h.1]
  cases TO l E y.step with
  |none=>rfl
  |some E'=>exact YY l p q E' h.2
def U3(l:List Fld): ∀r:List Eu,Ng l r=0 ↔ ∀x∈r,Km l x.policy=0/\MU l x.step=0
 |[]=>by simp[Ng]
 | x::r=>by
  rw[Ng]
  by_cases h:Km l x.policy=0
  ·rw[iP h]
   by_cases h2:MU l x.step=0
   ·rw[iP h2,U3 l r];simp[h,h2]
   ·rw[iN h2];simp[h2]
  ·rw[iN h];simp[h]
def WO:∀r:List Eu,Q7 r=0 ↔ ∀x∈r,Up x.policy=0/\dB x.step=0
 |[]=>by simp[Q7]
 | x::r=>by
  rw[Q7]
  by_cases h:Up x.policy=0
  ·rw[iP h]
   by_cases h2:dB x.step=0
   ·rw[iP h2,WO r];simp[h,h2]
   ·rw[iN h2];simp[h2]
  ·rw[iN h];simp[h]
def rC{l:List Fld}{p:List Eu}(h:QN l p=0):p.length<=8/\(∀ x∈p,Up x.policy=0/\dB x.step=0)/\(∀ x∈p,Km l x.policy=0/\MU l x.step=0)/\(vGo l [] p).isSome=true:=by
 unfold QN at h
 split at h
 ·rename_i hn;exact absurd h hn
 ·rename_i h1
  split at h
  ·rename_i hn;exact absurd h hn
  ·rename_i h2
   split at h
   ·rename_i h3
    have h1:XC p=0:=by simpa using h1
    have h2:Ng l p=0:=by simpa using h2
    unfold XC at h1
    split at h1
    ·cases h1
    ·rename_i hl
     exact⟨FR,(WO p).1 h1,(U3 l p).1 h2,by rw[qE];exact h3⟩
   ·cases h
def AUy{l:List Fld}{p:List Eu}(h1:p.length<=8)(h2:∀x∈p,Up x.policy=0/\dB x.step=0)(h3:∀x∈p,Km l x.policy=0/\MU l x.step=0)(h4:(vGo l [] p).isSome=true):QN l p=0:=by
 rw[qE]at h4
 have g1:XC p=0:=by unfold XC;rw[iN FR];exact(WO p).2 h2
 have g2:Ng l p=0:=(U3 l p).2 h3
 unfold QN
 rw[iN (by simp[g1]),iN (by simp[g2]),iP h4]
def RN(t:Ev): ∀ (r o:List Eu),(HV t o r).2=2/\(HV t o r).1=[] \/
  (HV t o r).2=0/\(HV t o r).1=o++r.map (λx=>{ x with policy:=HI t x.policy }) /\ ∀x∈r,Up (HI t x.policy)≠2
 |[],o => .inr ⟨rfl,by simp[HV],λ_ h=>by cases h⟩
 | x::r,o=>by
  rw[HV]
  split
  ·exact .inl ⟨rfl,rfl⟩
  ·rename_i hn
   rcases RN t r (o++[{ x with policy:=HI t x.policy }])with h|⟨h1,h2,h3⟩
   ·exact .inl h
   ·refine .inr ⟨h1,by rw[h2];simp,λy hy=>?_⟩
    rcases AY.1 hy with rfl|hy
    ·exact hn
    ·exact h3 y hy
def lO{l:List Fld}{t:Ev}(hw:Zd t)(h:QN l t.program=0):
  ((GE t).2=2/\(GE t).1=[]/\t.wires≠[])\/((GE t).2=0/\QN l (GE t).1=0/\(GE t).1.map (·.step)=t.program.map (·.step)):=by
 obtain⟨h1,h2,h3,h4⟩:=rC h
 rcases RN t t.program []with⟨g1,g2⟩|⟨g1,g2,g3⟩
 ·refine .inl ⟨g1,g2,λhe=>?_⟩
  have:∀(r o:List Eu),(∀x∈r,Up x.policy=0)->(HV t o r).2=0:=by
   intro r
   induction r with
   |nil=>intro o _;rfl
   |cons x r ih =>
    intro o hx
    rw[HV]
    have e:HI t x.policy=x.policy:=by unfold HI;rw[iP he]
    rw[e,iN (by rw[hx x sm];decide)]
    exact ih _ λy hy=>hx y (by simp[hy])
  rw[this t.program [] λx hx=>(h2 x hx).1]at g1
  cases g1
 ·have hst:(GE t).1.map (·.step)=t.program.map (·.step):=by
   show(HV t [] t.program).1.map _=_
   rw[g2];simp[By,Function.comp_def]
  refine .inr ⟨g1, ?_,hst⟩
  have hm:∀x∈(GE t).1,Km l x.policy=0/\Up x.policy=0/\dB x.step=0/\MU l x.step=0:=by
   intro x hx
   have hx:x∈(HV t [] t.program).1:=hx
   rw[g2,List.nil_append]at hx
   obtain⟨y,hy,rfl⟩:=AO.1 hx
   have hg:=bB (g3 y hy) (iD hw (S6 (h3 y hy).1).2)
   exact⟨hg,(S6 hg).1,(h2 y hy).2,(h3 y hy).2⟩
  refine AUy ?_ (λx hx=>⟨(hm x hx).2.1,(hm x hx).2.2.1⟩) (λx hx=>⟨(hm x hx).1,(hm x hx).2.2.2⟩) ?_
  ·have:=congrArg List.length hst
   simp only[Ap]at this
   omega
  ·rw[YY l _ _ [] hst];exact h4
def Wz{a b:Ew}(h:a.l=b.l):a=b:=by
 cases a;cases b
 simp only[Head.l,List.cons.injEq,and_true]at h
 simp[h]
def Le:List Int->List Int->Int
 |[],[]=>0
 |[],_::_ => -1
 |_::_,[]=>1
 |x::a,y::b=>if x<y then -1 else if y<x then 1 else Le a b
def Ix(a b:Ew):Int:=Le a.l b.l
def ZK:∀a:List Int,Le a a=0
 |[]=>rfl
 |x::a=>by rw[Le,iN FR,iN FR,ZK a]
def rB : ∀ {a b:List Int},Le a b=0->a=b
 |[],[],_=>rfl
 |[],_::_,h=>by simp[Le]at h
 |_::_,[],h=>by simp[Le]at h
 | x::a,y::b,h=>by
  rw[Le]at h
  split at h
  ·cases h
  ·split at h
   ·cases h
   ·have:x=y:=FR
    rw[this,rB h]
def iv:∀a b:List Int,Le a b = - Le b a
 |[],[]=>rfl
 |[],_::_=>rfl
 |_::_,[]=>rfl
 | x::a,y::b=>by
  rw[Le,Le]
  by_cases h1:x<y
  ·rw[iP h1,iN FR,iP h1]
  ·by_cases h2:y<x
   ·rw[iN h1,iP h2,iP h2];rfl
   ·rw[iN h1,iN h2,iN h2,iN h1,iv a b]
def WK : ∀ {a b c:List Int},Le a b<0->Le b c<0->Le a c<0
 |[],[],_,h,_=>by simp[Le]at h
 |[],_::_,[],_,h=>by simp[Le]at h
 |[],_::_,_::_,_,_=>by simp[Le]
 |_::_,[],_,h,_=>by simp[Le]at h
 |_::_,_::_,[],_,h=>by simp[Le]at h
 | x::a,y::b,z::c,h1,h2=>by
  rw[Le]at h1 h2 ⊢
  by_cases hxy:x<y
  ·by_cases hyz:y<z
   ·rw[iP FR];decide
   ·rw[iN hyz]at h2
    by_cases hzy:z<y
    ·rw[iP hzy]at h2;simp at h2
    ·rw[iP FR];decide
  ·rw [iN hxy] at h1
   by_cases hyx:y<x
   ·rw[iP hyx]at h1;simp at h1
   ·rw[iN hyx]at h1
    have:x=y:=FR
    subst this
    by_cases hyz:x<z
    ·rw[iP hyz];decide
    ·rw[iN hyz]at h2 ⊢
     by_cases hzy:z<x
     ·rw[iP hzy]at h2;simp at h2
     ·rw[iN hzy]at h2 ⊢
      exact WK h1 h2
def Pt(a:Ew):Ix a a=0:=ZK _
def Rz{a b:Ew}(h:Ix a b=0):a=b:=Wz (rB h)
def WL(a b:Ew):Ix a b = - Ix b a:=iv _ _
def MJ{a b c:Ew}(h1:Ix a b<0)(h2:Ix b c<0):Ix a c<0:=WK h1 h2
def LW(l:List Ew):Prop:=l.Pairwise λa b=>Ix a b<0
def zg:LW []:=.nil
def dS(h:Ew):LW [h]:=List.pairwise_singleton _ _
def qI : ∀ {a b:List Ew},LW a->LW b->(∀ x,x∈a↔x∈b)->a=b
 |[],[],_,_,_=>rfl
 |[],y::b,_,_,h=>by have:=(h y).2 sm ; cases this
 |x::a,[],_,_,h=>by have:=(h x).1 sm ; cases this
 | x::a,y::b,h1,h2,h=>by
  obtain⟨g1,g2⟩:=Bf.1 h1
  obtain⟨g3,g4⟩:=Bf.1 h2
  have hxy:x=y:=by
   rcases AY.1 ((h x).1 sm)with e|e
   ·exact e
   ·rcases AY.1 ((h y).2 sm)with e2|e2
    ·exact e2.symm
    ·have h3:=g3 x e
     have h4:=g1 y e2
     have:=WL x y
     omega
  subst hxy
  congr 1
  refine qI g2 g4 λz=>⟨λhz=>?_,λhz=>?_⟩
  ·rcases AY.1 ((h z).1 (by simp[hz]))with e|e
   ·subst e;have:=g1 z hz;rw[Pt]at this;omega
   ·exact e
  ·rcases AY.1 ((h z).2 (by simp[hz]))with e|e
   ·subst e;have:=g3 z hz;rw[Pt]at this;omega
   ·exact e
def OM(h:Ew):List Ew->List Ew
 |[]=>[h]
 |x::r=>if Ix x h<0 then x::OM h r else if x=h then x::r else h::x::r
def Gt(a b:List Ew):List Ew:=b.foldl (λo x=>OM x o) a
def VY(h z:Ew): ∀ l:List Ew,z∈OM h l↔z=h\/z∈l
 |[]=>by simp[OM]
 | x::r=>by
  rw[OM]
  split
  ·rw[AY,VY h z r,AY]
   constructor
   ·rintro (e|e|e)
    ·exact .inr (.inl e)
    ·exact .inl e
    ·exact .inr (.inr e)
   ·rintro (e|e|e)
    ·exact .inr (.inl e)
    ·exact .inl e
    ·exact .inr (.inr e)
  ·split
   ·rename_i e
    subst e
    simp
   ·simp
def dR(h:Ew): ∀ {l:List Ew},LW l->LW (OM h l)
 |[],_=>dS h
 | x::r,hs=>by
  obtain⟨g1,g2⟩:=Bf.1 hs
  rw[OM]
  split
  ·rename_i hlt
   refine Bf.2 ⟨λz hz=>?_,dR h g2⟩
   rcases(VY h z r).1 hz with e|e
   ·rw[e];exact hlt
   ·exact g1 z e
  ·rename_i hlt
   split
   ·exact hs
   ·rename_i hne
    have hx:Ix h x<0:=by
     have h1:=WL h x
     have:Ix x h≠0:=λe=>hne (Rz e)
     omega
    refine Bf.2 ⟨λz hz=>?_,hs⟩
    rcases AY.1 hz with e|e
    ·rw[e];exact hx
    ·exact MJ hx (g1 z e)
def eC(h:Ew): ∀l:List Ew,l.length<=(OM h l).length/\(OM h l).length<=l.length+1
 |[]=>by simp[OM]
 |x::r=>by
  have:=eC h r
  rw[OM]
  split
  ·simp only[AD];omega
  ·split<;>simp
def Ql(z:Ew): ∀(b a:List Ew),z∈Gt a b↔z∈a\/z∈b
 |[],a=>by simp[Gt]
 | x::b,a=>by
  have:=Ql z b (OM x a)
  unfold Gt at this ⊢
  rw[CB,this,VY,AY]
  constructor
  ·rintro ((e|e)|e)
   ·exact .inr (.inl e)
   ·exact .inl e
   ·exact .inr (.inr e)
  ·rintro (e|e|e)
   ·exact .inl (.inr e)
   ·exact .inl (.inl e)
   ·exact .inr e
def Qe:∀(b:List Ew) {a:List Ew},LW a->LW (Gt a b)
 |[],_,h=>h
 |x::b,a,h=>Qe b (a:=OM x a) (dR x h)
def VX:∀(b a:List Ew),a.length<=(Gt a b).length/\(Gt a b).length<=a.length+b.length
 |[],a=>by simp[Gt]
 |x::b,a=>by
  have h1:=VX b (OM x a)
  have h2:=eC x a
  unfold Gt at h1 ⊢
  rw[CB,AD]
  omega
def JC:Nat->List Ew->List Ew->List Ew
 | 0,_,_=>[]
 |_+1,[],b=>b
 |_+1,a,[]=>a
 |n+1,x::a,y::b=>if Ix x y<0 then x::JC n a (y::b)else if Ix x y=0 then y::JC n a b else y::JC n (x::a) b
def H7(a b:List Ew):List Ew:=JC (a.length+b.length+1) a b
def KX(z:Ew): ∀ (n:Nat) (a b:List Ew),a.length+b.length<n->(z∈JC n a b↔z∈a\/z∈b)
 | 0,a,b,h=>FR
 |n+1,[],b,_=>by simp[JC]
 |n+1,x::a,[],_=>by simp[JC]
 | n+1,x::a,y::b,h=>by
  simp only[AD]at h
  rw[JC]
  split
  ·rw[AY,KX z n a (y::b) Hy,AY (l:=a)]
   constructor
   ·rintro (e|e|e)
    ·exact .inl (.inl e)
    ·exact .inl (.inr e)
    ·exact .inr e
   ·rintro ((e|e)|e)
    ·exact .inl e
    ·exact .inr (.inl e)
    ·exact .inr (.inr e)
  ·split
   ·rename_i he
    have hxy:=Rz he
    subst hxy
    rw[AY,KX z n a b FR,AY,AY]
    constructor
    ·rintro (e|e|e)
     ·exact .inl (.inl e)
     ·exact .inl (.inr e)
     ·exact .inr (.inr e)
    ·rintro ((e|e)|(e|e))
     ·exact .inl e
     ·exact .inr (.inl e)
     ·exact .inl e
     ·exact .inr (.inr e)
   ·rw[AY,KX z n (x::a) b Hy,AY (l:=b)]
    constructor
    ·rintro (e|e|e)
     ·exact .inr (.inl e)
     ·exact .inl e
     ·exact .inr (.inr e)
    ·rintro (e|e|e)
     ·exact .inr (.inl e)
     ·exact .inl e
     ·exact .inr (.inr e)
def PY : ∀ (n:Nat) (a b:List Ew),a.length+b.length<n->LW a->LW b->LW (JC n a b)
 | 0,a,b,h,_,_=>FR
 |n+1,[],b,_,_,hb=>by simpa [JC]using hb
 |n+1,x::a,[],_,ha,_=>by simpa [JC]using ha
 | n+1,x::a,y::b,h,ha,hb=>by
  simp only[AD]at h
  obtain⟨g1,g2⟩:=Bf.1 ha
  obtain⟨g3,g4⟩:=Bf.1 hb
  rw[JC]
  split
  ·rename_i hlt
   refine Bf.2 ⟨λz hz=>?_,PY n a (y::b) Hy g2 hb⟩
   rcases(KX z n a (y::b) Hy).1 hz with e|e
   ·exact g1 z e
   ·rcases AY.1 e with e|e
    ·rw[e];exact hlt
    ·exact MJ hlt (g3 z e)
  ·rename_i hlt
   split
   ·rename_i he
    have hxy:=Rz he
    subst hxy
    refine Bf.2 ⟨λz hz=>?_,PY n a b FR g2 g4⟩
    rcases(KX z n a b FR).1 hz with e|e
    ·exact g1 z e
    ·exact g3 z e
   ·rename_i hne
    have hyx:Ix y x<0:=by have:=WL x y;omega
    refine Bf.2 ⟨λz hz=>?_,PY n (x::a) b Hy ha g4⟩
    rcases(KX z n (x::a) b Hy).1 hz with e|e
    ·rcases AY.1 e with e|e
     ·rw[e];exact hyx
     ·exact MJ hyx (g1 z e)
    ·exact g3 z e
def Pc{a b:List Ew}(ha:LW a)(hb:LW b):H7 a b=Gt a b :=
 qI (PY _ a b FR ha hb) (Qe b ha) λz=>by rw[H7,KX z _ a b FR,Ql]
def JT(f:Ew->Option (List Ew)):List Ew->List Ew->Option (List Ew)
 |o,[]=>some o
 |o,x::r=>match f x with
  |none=>none
  |some a=>if 256<(Gt o a).length then none else JT f (Gt o a) r
def IZ(o n:List Ew):List Ew:=n.filter λx => !o.any λy=>decide (y=x)
def LE(f:Ew->Option (List Ew)):Nat->List Ew->List Ew->Option (List Ew)
 | 0,_,_=>none
 |k+1,o,n=>if n=[]then some o else match JT f [] n with
  |none=>none
  |some m=>if 256<(Gt o (IZ o m)).length then none else LE f k (Gt o (IZ o m)) (IZ o m)
def Fp(h:Ew)(k:Nat):Int:=(h.l[k]?).getD 0
def r9(h:Ew)(k:Nat)(v:Int):Ew :=
 ⟨if k=0 then v else h.h0,if k=1 then v else h.h1,if k=2 then v else h.h2,if k=3 then v else h.h3,if k=4 then v else h.h4,if k=5 then v else h.h5,if k=6 then v else h.h6,if k=7 then v else h.h7,if k=8 then v else h.h8,if k=9 then v else h.h9⟩
def HC(f:Fld):Prop:=1<=f.width/\f.width<=16/\0<=f.at_/\f.at_<=143/\f.at_ % 16+f.width<=16
def fK(f:Fld):Nat:=(f.at_ / 16).toNat
def fS(f:Fld):Nat:=(16 - f.at_ % 16 - f.width).toNat
def fW(f:Fld):Nat:=f.width.toNat
def Nx(f:Fld)(h:Ew):Nat:=(Fp h (fK f)).toNat / 2^fS f % 2^fW f
def RR(f:Fld)(h:Ew)(n:Nat):Ew:=r9 h (fK f) ((((Fp h (fK f)).toNat ^^^ ((Fp h (fK f)).toNat &&& ((2^fW f - 1) <<< fS f))) ||| (n <<< fS f):Nat):Int)
def Jg{f:Fld}(h:HC f):fK f<=8/\fS f+fW f<=16/\1<=fW f:=by
 unfold HC at h
 unfold fK fS fW
 omega
def Hi{h:Ew}(hr:FZ h=true)(k:Nat):0<=Fp h k/\Fp h k<=65535:=by
 unfold FZ at hr
 unfold Fp
 cases hk:h.l[k]? with
 |none=>simp
 |some v =>
  have:=Am.1 hr v (AB hk)
  simpa [MV]using this
def ABF(h:Ew)(k:Nat)(v:Int):(r9 h k v).l=h.l.set k v:=by
 match k with
 | 0=>rfl
 | 1=>rfl
 | 2=>rfl
 | 3=>rfl
 | 4=>rfl
 | 5=>rfl
 | 6=>rfl
 | 7=>rfl
 | 8=>rfl
 | 9=>rfl
 |n+10=>rfl
def TU{h:Ew}(hr:FZ h=true)(k:Nat){v:Int}(h0:0<=v)(h1:v<=65535):FZ (r9 h k v)=true:=by
 unfold FZ at hr ⊢
 rw[ABF,Am]
 intro x hx
 rcases List.mem_or_eq_of_mem_set hx with hx|rfl
 ·exact Am.1 hr x hx
 ·simp[MV,h0,h1]
def jR{W M:Nat}(hW:W<65536)(hM:M<65536):W ^^^ (W &&& M)<65536:=CX (n:=16) hW (Do _ hM)
def AH6{W s w n:Nat}(hW:W<65536)(hn:n<2^w)(hsw:s+w<=16):(W ^^^ (W &&& ((2^w - 1) <<< s))) ||| (n <<< s)<65536:=by
 refine EJ (n:=16) (CX (n:=16) hW (CU DJ hW)) ?_
 rw[Dp]
 calc n*2^s<2^w*2^s:=EK hn (BW s)
  _=2^(s+w):=by rw[Bk,EL]
  _<=2^16:=BX dc hsw
def TN(h:Ew)(k j:Nat)(v:Int)(hk:k<10):Fp (r9 h k v) j=if j=k then v else Fp h j:=by
 unfold Fp
 rw[ABF,Ax]
 by_cases e:k=j
 ·subst e
  rw[iP rfl,iP (by simpa [Head.l]using hk),iP rfl];rfl
 ·rw[iN e,iN (λc=>e c.symm)]
def dH(j:Nat):Fp Head.z j=0:=by
 match j with
 | 0|1|2|3|4|5|6|7|8|9=>rfl
 |n+10=>rfl
def ABe{a b:Ew}(h:∀k,k<10->Fp a k=Fp b k):a=b:=by
 apply Wz
 apply A3
 intro k
 by_cases hk:k<10
 ·have:=h k hk
  unfold Fp at this
  have la:a.l.length=10:=rfl
  have lb:b.l.length=10:=rfl
  rw[AH FR,AH FR]at this ⊢
  simpa using this
 ·rw[Av (by show 10<=k;omega),Av (by show 10<=k;omega)]
def LR(w m:Nat):Nat:=(2^w - 1) ^^^ ((2^w - 1) &&& (2^(w - m) - 1))
def Yt(w m j:Nat):(LR w m).testBit j=(decide (w - m<=j)&&decide (j<w)):=by
 unfold LR
 rw[Dq,Cw,EM,EM]
 by_cases h1:j<w<;>by_cases h2:j<w - m<;>simp[h1,h2]<;>omega
def fe(w m:Nat):LR w m<2^w:=by
 have:0<2^w:=BW w
 exact CX FR (CU DJ FR)
def md(w:Nat):LR w w=2^w - 1:=by
 unfold LR
 rw[AP];simp
def VF(f:Fld)(n m:Nat):Pat:=⟨RR f Head.z (LR (fW f) m),RR f Head.z (n &&& LR (fW f) m)⟩
def mc(p:Pat)(h:Ew):Bool:=(Ak 10).all λi=>(((Fp p.bits i).toNat ^^^ (Fp h i).toNat) &&& (Fp p.mask i).toNat)==0
def I1(p:Pat)(h:Ew)(i:Nat):Int:=((((Fp h i).toNat ^^^ ((Fp h i).toNat &&& (Fp p.mask i).toNat)) ||| (Fp p.bits i).toNat:Nat):Int)
def bU(p:Pat)(h:Ew):Ew:=⟨I1 p h 0,I1 p h 1,I1 p h 2,I1 p h 3,I1 p h 4,I1 p h 5,I1 p h 6,I1 p h 7,I1 p h 8,I1 p h 9⟩
def SV(f:Fld)(hf:HC f)(v j:Nat):Fp (RR f Head.z v) j=if j=fK f then((v <<< fS f:Nat):Int)else 0:=by
 have hd:=Jg hf
 unfold RR
 rw[TN _ _ _ _ FR,dH,dH]
 split<;>simp
def ij{a b w k:Nat}(ha:a<2^w)(hb:b<2^w):a / 2^k=b / 2^k ↔ ∀j,k<=j->j<w->a.testBit j=b.testBit j:=by
 constructor
 ·intro h j h1 _
  have e:j=(j - k)+k:=FR
  rw[e,<- Cx,<- Cx,h]
 ·intro h
  apply EN
  intro i
  rw[Cx,Cx]
  by_cases hw:i+k<w
  ·exact h _ FR hw
  ·rw[EO (BP ha (BX dc FR)),EO (BP hb (BX dc FR))]
def iE(f:Fld)(h:Ew)(j:Nat)(hj:j<fW f):(Nx f h).testBit j=(Fp h (fK f)).toNat.testBit (fS f+j):=by
 unfold Nx
 rw[Nat.testBit_mod_two_pow,Cx,Bk]
 simp[hj]
def AFU(f:Fld)(h:Ew):Nx f h<2^fW f:=Nat.mod_lt _ (BW _)
def Ys{f:Fld}(hf:HC f){n m:Nat}(hn:n<2^fW f)(hm:m<=fW f)(h:Ew):mc (VF f n m) h=decide (Nx f h / 2^(fW f - m)=n / 2^(fW f - m)):=by
 have hd:=Jg hf
 rw[A',decide_eq_true_eq,ij (AFU f h) hn]
 unfold mc VF
 rw[Am]
 constructor
 ·intro hall j h1 h2
  have:=hall (fK f) (by rw[Br];omega)
  rw[SV f hf,SV f hf,iP rfl,iP rfl,beq_iff_eq,Ag,Ag]at this
  have hb:((((n &&& LR (fW f) m) <<< fS f) ^^^ (Fp h (fK f)).toNat) &&& (LR (fW f) m <<< fS f)).testBit (fS f+j)=false:=by rw[this];simp
  rw[Cw,Dq,DK,DK,Cw]at hb
  have e1:decide (fS f<=fS f+j)=true:=sm
  have e2:fS f+j - fS f=j:=FR
  have e3:(LR (fW f) m).testBit j=true:=by rw[Yt];simp;omega
  rw[e1,e2,e3]at hb
  rw[iE f h j h2]
  simp only[Bp,Be,bne_eq_false_iff_eq]at hb
  exact hb.symm
 ·intro hbits i hi
  rw[SV f hf,SV f hf]
  by_cases e:i=fK f
  ·subst e
   rw[iP rfl,iP rfl,beq_iff_eq,Ag,Ag]
   apply EN
   intro i
   rw[Cw,Dq,DK,DK,Cw,Yt]
   by_cases g0:fS f<=i
   ·by_cases g1:fW f - m<=i - fS f/\i - fS f<fW f
    ·have hb:=hbits (i - fS f) g1.1 g1.2
     rw[iE f h _ g1.2,show fS f+(i - fS f)=i by omega]at hb
     have e1:decide (fS f<=i)=true:=by simpa using g0
     have e2:(decide (fW f - m<=i - fS f)&&decide (i - fS f<fW f))=true:=Hy
     rw[hb,e1,e2]
     simp
    ·have:(decide (fW f - m<=i - fS f)&&decide (i - fS f<fW f))=false:=Hy
     rw[this];simp
   ·simp[g0]
  ·rw[iN e,iN e];simp
def yC{f:Fld}(hf:HC f){n:Nat}(hn:n<2^fW f){h:Ew}(hr:FZ h=true):bU (VF f n (fW f)) h=RR f h n:=by
 have hd:=Jg hf
 apply ABe
 intro k hk
 have e1:Fp (bU (VF f n (fW f)) h) k=I1 (VF f n (fW f)) h k:=by
  match k,hk with
  | 0,_|1,_|2,_|3,_|4,_|5,_|6,_|7,_|8,_|9,_=>rfl
 rw[e1]
 unfold I1 VF
 rw[SV f hf,SV f hf,md]
 have hand:n &&& (2^fW f - 1)=n:=by rw[EP,Bw hn]
 rw[hand]
 unfold RR
 rw[TN _ _ _ _ FR]
 by_cases e:k=fK f
 ·subst e
  rw[iP rfl,iP rfl,iP rfl,Ag,Ag]
 ·rw[iN e,iN e,iN e]
  have:=(Hi hr k).1
  simp;omega
def Ni{f:Fld}(hf:HC f){n:Nat}(hn:n<2^fW f){h:Ew}(hr:FZ h=true):FZ (RR f h n)=true:=by
 have hd:=Jg hf
 have hw:=Hi hr (fK f)
 have hlt:=AH6 (W:=(Fp h (fK f)).toNat) (s:=fS f) (w:=fW f) (n:=n) FR hn FR
 unfold RR
 refine TU hr _ FR ?_
 omega
def yT(x y:Int):Int:=IntKind.i64.wrap (BitVec.ofInt 64 x &&& BitVec.ofInt 64 y).toNat
def orI(x y:Int):Int:=IntKind.i64.wrap (BitVec.ofInt 64 x ||| BitVec.ofInt 64 y).toNat
def AEJ(x y:Int):Int:=IntKind.i64.wrap (BitVec.ofInt 64 x ^^^ BitVec.ofInt 64 y).toNat
def xP(x y:Int):Int:=IntKind.i64.wrap (BitVec.ofInt 64 x &&& ~~~ BitVec.ofInt 64 y).toNat
section
variable{P:Program}{t:TypeId}{k:IntKind}{x y:Int}{d:Tmp}{K:Kt}{e:Fs}{H:cj}
@[go_sem] def AW9:IC P .and t (.int .i64 x) (.int .i64 y) d K e H=K ((d,.int .i64 (yT x y))::e) H:=by
 rw[HL];exact propext ⟨λh=>h.2,λh=>⟨rfl,h⟩⟩
@[go_sem] def AfL:IC P .or t (.int .i64 x) (.int .i64 y) d K e H=K ((d,.int .i64 (orI x y))::e) H:=by
 rw[HL];exact propext ⟨λh=>h.2,λh=>⟨rfl,h⟩⟩
@[go_sem] def AW1:IC P .xor t (.int .i64 x) (.int .i64 y) d K e H=K ((d,.int .i64 (AEJ x y))::e) H:=by
 rw[HL];exact propext ⟨λh=>h.2,λh=>⟨rfl,h⟩⟩
@[go_sem] def AW8:IC P .andNot t (.int .i64 x) (.int .i64 y) d K e H=K ((d,.int .i64 (xP x y))::e) H:=by
 rw[HL];exact propext ⟨λh=>h.2,λh=>⟨rfl,h⟩⟩
@[go_sem] def AW3:IC P .shr t (.int .i64 x) (.int k y) d K e H=(0<=y/\K ((d,.int .i64 (x.fdiv (2^(min y.toNat 64))))::e) H):=by
 rw[HL];rfl
end
def Jo(a:Nat):BitVec.ofInt 64 (a:Int)=BitVec.ofNat 64 a:=by
 apply BitVec.eq_of_toInt_eq;simp
def Wg{a b:Nat}(ha:a<9223372036854775808)(hb:b<9223372036854775808):yT a b=((a &&& b:Nat):Int):=by
 have h1:a &&& b<2^63:=Do _ FR
 unfold yT
 rw[Jo,Jo,BitVec.toNat_and,BitVec.toNat_ofNat,BitVec.toNat_ofNat,Bw FR,Bw FR]
 exact OY FR FR
def qe{a b:Nat}(ha:a<9223372036854775808)(hb:b<9223372036854775808):orI a b=((a ||| b:Nat):Int):=by
 have h1:a ||| b<2^63:=EJ FR FR
 unfold orI
 rw[Jo,Jo,BitVec.toNat_or,BitVec.toNat_ofNat,BitVec.toNat_ofNat,Bw FR,Bw FR]
 exact OY FR FR
def zC{a b:Nat}(ha:a<9223372036854775808)(hb:b<9223372036854775808):AEJ a b=((a ^^^ b:Nat):Int):=by
 have h1:a ^^^ b<2^63:=CX FR FR
 unfold AEJ
 rw[Jo,Jo,BitVec.toNat_xor,BitVec.toNat_ofNat,BitVec.toNat_ofNat,Bw FR,Bw FR]
 exact OY FR FR
def WN{a b:Nat}(ha:a<9223372036854775808)(hb:b<9223372036854775808):xP a b=((a ^^^ (a &&& b):Nat):Int):=by
 have h1:a ^^^ (a &&& b)<2^63:=CX FR (Do _ FR)
 have e:(BitVec.ofNat 64 a &&& ~~~ BitVec.ofNat 64 b)=BitVec.ofNat 64 a ^^^ (BitVec.ofNat 64 a &&& BitVec.ofNat 64 b):=by
  generalize BitVec.ofNat 64 a=u
  generalize BitVec.ofNat 64 b=v
  ext i hi
  simp only[BitVec.getElem_and,BitVec.getElem_not,BitVec.getElem_xor]
  cases u[i]<;>cases v[i]<;>rfl
 unfold xP
 rw[Jo,Jo,e,BitVec.toNat_xor,BitVec.toNat_and,BitVec.toNat_ofNat,BitVec.toNat_ofNat,Bw FR,Bw FR]
 exact OY FR FR
def AEZ{a s:Nat}(hs:s<=64):(a:Int).fdiv (2^min s 64)=((a / 2^s:Nat):Int):=by
 rw[B6 hs,Dn _ (Int.pow_nonneg dc)]
 push_cast;rfl
def Lr(h:Ew){k:Nat}(hk:k<10):h.c[k]? =some (.int .i64 (Fp h k)):=by
 match k,hk with
 | 0,_|1,_|2,_|3,_|4,_|5,_|6,_|7,_|8,_|9,_=>rfl
def W2(h:Ew){k:Nat}(hk:k<10)(v:Int):splice h.c k [.int .i64 v]=(r9 h k v).c:=by
 match k,hk with
 | 0,_|1,_|2,_|3,_|4,_|5,_|6,_|7,_|8,_|9,_=>rfl
def ACD{f:Fld}(hf:HC f):IntKind.i64.wrap (f.at_.tdiv 16)=(fK f:Int)/\f.at_.tmod 16=f.at_ % 16/\IntKind.i64.wrap (IntKind.i64.wrap (16 - f.at_ % 16) - f.width)=(fS f:Int):=by
 have h:=hf
 unfold HC at h
 have e1:f.at_.tdiv 16=f.at_ / 16:=Int.tdiv_eq_ediv_of_nonneg FR
 have e2:f.at_.tmod 16=f.at_ % 16:=Int.tmod_eq_emod_of_nonneg FR
 refine⟨?_,e2, ?_⟩
 ·rw[e1,OY FR FR];unfold fK;omega
 ·rw[OY (n:=16 - f.at_ % 16) FR FR,OY FR FR];unfold fS;omega
def qW(f:Fld)(hf:HC f):FT AA 212 [.agg f.c] (.int .i64 (fS f)):=by
 obtain⟨d1,d2,d3⟩:=ACD hf
 have g16:¬((16:Int)=0):=dc
 refine pC AN6 rfl ?_
 simp only[f212,go_sem,d2,d3,g16]
def Rc{f:Fld}(hf:HC f):KY f=((2^fW f - 1:Nat):Int):=by
 have h:=hf
 unfold HC at h
 have hp:∀n:Nat,n<=16->XH n=((2^n:Nat):Int):=by
  intro n
  induction n with
  |zero=>intro _;rfl
  |succ n ih =>
   intro hn
   rw[XH,ih FR]
   have:2^n<=2^16:=BX dc FR
   unfold i64
   rw[Nat.pow_succ]
   generalize 2^n=z at this ⊢
   rw[OY FR FR]
   exact(Int.natCast_mul _ _).symm
 unfold KY
 rw[hp _ FR]
 have h1:2^f.width.toNat<=2^16:=BX dc FR
 have h2:0<2^f.width.toNat:=BW _
 unfold i64 fW
 rw[OY FR FR]
 omega
def mA(f:Fld)(hf:HC f)(h:Ew)(hr:FZ h=true):FT AA 144 [.agg f.c,.agg h.c] (.int .i64 (Nx f h)):=by
 obtain⟨d1,d2,d3⟩:=ACD hf
 have hd:=Jg hf
 have hw:=Hi hr (fK f)
 have i0:(0:Int)<=(fK f:Int):=FR
 have i1:(fK f:Int)<((10:Nat):Int):=FR
 have i2:=Lr h (show fK f<10 by omega)
 obtain⟨W,hW⟩:∃W:Nat,Fp h (fK f)=(W:Int):=⟨(Fp h (fK f)).toNat,FR⟩
 have hM:2^fW f<=2^16:=BX dc FR
 have hD:W / 2^fS f<=W:=Nat.div_le_self _ _
 have g16:¬((16:Int)=0):=dc
 have g0:(0:Int)<=(fS f:Int):=FR
 have c1:=qW f hf
 have c2:=qb f (by have:=hf;unfold HC at this;omega) (by have:=hf;unfold HC at this;omega)
 have e1:(W:Int).fdiv (2^min (fS f) 64)=((W / 2^fS f:Nat):Int):=AEZ FR
 have e2:yT ((W / 2^fS f:Nat):Int) ((2^fW f - 1:Nat):Int)=(Nx f h:Nat):=by
  rw[Wg FR FR,EP]
  unfold Nx;rw[hW,Ag]
 rw[Rc hf]at c2
 rw[hW]at i2
 refine pC ARs rfl ?_
 simp only[f144,go_sem,d1,i0,i1,i2,g16,Ag]
 repeat' (first|((first|apply pK c1|apply pK c2);simp only[go_sem,g0,e1,e2,Ag])|apply cg<;>intro hc<;>simp only[go_sem,hc,d1,d2,d3,i0,i1,i2,g16,g0,e1,e2,Ag])
def l_(f:Fld)(hf:HC f)(h:Ew)(hr:FZ h=true)(n:Nat)(hn:n<2^fW f):FT AA 211 [.agg f.c,.agg h.c,.int .i64 n] (.agg (RR f h n).c):=by
 obtain⟨d1,d2,d3⟩:=ACD hf
 have hd:=Jg hf
 have hw:=Hi hr (fK f)
 have i0:(0:Int)<=(fK f:Int):=FR
 have i1:(fK f:Int)<((10:Nat):Int):=FR
 have i2:=Lr h (show fK f<10 by omega)
 obtain⟨W,hW⟩:∃W:Nat,Fp h (fK f)=(W:Int):=⟨(Fp h (fK f)).toNat,FR⟩
 have hM:2^fW f<=2^16:=BX dc FR
 have g16:¬((16:Int)=0):=dc
 have g0:(0:Int)<=(fS f:Int):=FR
 have c1:=qW f hf
 have c2:=qb f (by have:=hf;unfold HC at this;omega) (by have:=hf;unfold HC at this;omega)
 have hsh:∀x,x<2^fW f->x <<< fS f<65536:=by
  intro x hx
  rw[Dp]
  calc x*2^fS f<2^fW f*2^fS f:=EK hx (BW _)
   _=2^(fS f+fW f):=by rw[Bk,EL]
   _<=2^16:=BX dc FR
 have hp:0<2^fW f:=BW _
 have hk9:fK f<=9:=FR
 have s1:=hsh (2^fW f - 1) FR
 have s2:=hsh n hn
 have hshl:∀x:Nat,x <<< fS f<65536->IntKind.i64.wrap ((x:Int)*2^(min (fS f) 64))=((x <<< fS f:Nat):Int):=by
  intro x hx
  have e:min (fS f) 64=fS f:=B6 FR
  have e2:(x:Int)*2^(min (fS f) 64)=((x <<< fS f:Nat):Int):=by
   rw[e,Dp];push_cast;rfl
  rw[e2]
  generalize x <<< fS f=z at hx ⊢
  exact OY FR FR
 have e1:=hshl _ s1
 have e2:=hshl _ s2
 have e3:xP (W:Int) (((2^fW f - 1) <<< fS f:Nat):Int)=((W ^^^ (W &&& ((2^fW f - 1) <<< fS f)):Nat):Int):=WN FR FR
 have hlow:W ^^^ (W &&& ((2^fW f - 1) <<< fS f))<2^16:=jR FR FR
 have e4:orI ((W ^^^ (W &&& ((2^fW f - 1) <<< fS f)):Nat):Int) ((n <<< fS f:Nat):Int)=(((W ^^^ (W &&& ((2^fW f - 1) <<< fS f))) ||| (n <<< fS f):Nat):Int):=qe FR FR
 have e5:splice h.c (fK f) [.int .i64 (((W ^^^ (W &&& ((2^fW f - 1) <<< fS f))) ||| (n <<< fS f):Nat):Int)]=(RR f h n).c:=by
  rw[W2 h FR];unfold RR;rw[hW,Ag]
 rw[Rc hf]at c2
 rw[hW]at i2
 refine pC AN_ rfl ?_
 simp only[f211,go_sem,d1,i0,i1,i2,g16,Ag]
 repeat' (first|((first|apply pK c1|apply pK c2);simp only[go_sem,g0,e1,e2,e3,e4,e5,hk9,Ag])|apply cg<;>intro hc<;>simp only[go_sem,hc,d1,d2,d3,i0,i1,i2,g16,g0,e1,e2,e3,e4,e5,hk9,Ag])
end Go.AI
namespace Go.AI
open Go.Proofs
set_option maxRecDepth 50000
def ed(f:Fld)(hf:HC f)(n m:Nat)(hn:n<2^fW f)(hm:m<=fW f):FT AA 143 [.agg f.c,.int .i64 n,.int .i64 m] (.agg (VF f n m).c):=by
 have h:=hf
 unfold HC at h
 have hw:f.width=(fW f:Int):=by unfold fW;omega
 have hd:=Jg hf
 have hz:FZ Head.z=true:=dc
 have hM:2^fW f<=2^16:=BX dc FR
 have hM2:2^(fW f - m)<=2^16:=BX dc FR
 have hp:0<2^(fW f - m):=BW _
 have hmk:=fe (fW f) m
 have hnm:n &&& LR (fW f) m<2^fW f:=CU DJ hn
 have c1:=qb f FR FR
 rw[Rc hf]at c1
 have c2:=l_ f hf Head.z hz (LR (fW f) m) hmk
 have c3:=l_ f hf Head.z hz (n &&& LR (fW f) m) hnm
 have g0:(0:Int)<=((fW f - m:Nat):Int):=FR
 have e1:IntKind.i64.wrap (f.width - (m:Int))=((fW f - m:Nat):Int):=by rw[OY FR FR];omega
 have e2:IntKind.i64.wrap (1*2^(min (fW f - m) 64))=((2^(fW f - m):Nat):Int):=by
  rw[B6 FR]
  have:(1:Int)*2^(fW f - m)=((2^(fW f - m):Nat):Int):=by rw[Int.one_mul];push_cast;rfl
  rw[this]
  generalize 2^(fW f - m)=z at hM2 ⊢
  exact OY FR FR
 have e3:IntKind.i64.wrap (((2^(fW f - m):Nat):Int) - 1)=((2^(fW f - m) - 1:Nat):Int):=by
  generalize 2^(fW f - m)=z at hM2 hp ⊢
  rw[OY FR FR];omega
 have e4:xP ((2^fW f - 1:Nat):Int) ((2^(fW f - m) - 1:Nat):Int)=(LR (fW f) m:Nat):=by
  rw[WN FR FR];rfl
 have e5:yT (n:Int) ((LR (fW f) m:Nat):Int)=((n &&& LR (fW f) m:Nat):Int):=Wg FR FR
 refine pC ARw rfl ?_
 simp only[f143,go_sem]
 repeat' (first|((first|apply pK c1|apply pK c2|apply pK c3);simp only[go_sem,e1,e2,e3,e4,e5,g0,Ag])|apply cg<;>intro hc<;>simp only[go_sem,hc,e1,e2,e3,e4,e5,g0,Ag])
 rfl
def qd(f:Fld)(hf:HC f)(n:Nat)(hn:n<2^fW f):FT AA 142 [.agg f.c,.int .i64 n] (.agg (VF f n (fW f)).c):=by
 have h:=hf
 unfold HC at h
 have hw:f.width=(fW f:Int):=by unfold fW;omega
 have c1:=ed f hf n (fW f) hn (AT _)
 refine pC AR0 rfl ?_
 simp only[f142,go_sem,hw]
 repeat' (first|(apply pK c1;simp only[go_sem])|apply cg<;>intro hc<;>simp only[go_sem,hc,hw])
def AXv(f:Fld)(hf:HC f)(n:Nat)(hn:n<2^fW f):FT AA 147 [.agg f.c,.int .i64 n] (.agg (VF f n (fW f)).c):=by
 have c1:=qd f hf n hn
 refine pC ARh rfl ?_
 simp only[f147,go_sem]
 repeat' (first|(apply pK c1;simp only[go_sem])|apply cg<;>intro hc<;>simp only[go_sem,hc])
def Ts(p:Pat){k:Nat}(hk:k<10):p.c[k]? =some (.int .i64 (Fp p.mask k)):=by
 match k,hk with
 | 0,_|1,_|2,_|3,_|4,_|5,_|6,_|7,_|8,_|9,_=>rfl
def Tt(p:Pat){k:Nat}(hk:k<10):p.c[10+k]? =some (.int .i64 (Fp p.bits k)):=by
 match k,hk with
 | 0,_|1,_|2,_|3,_|4,_|5,_|6,_|7,_|8,_|9,_=>rfl
def qc(p:Pat)(hm:FZ p.mask=true)(hb:FZ p.bits=true)(h:Ew)(hr:FZ h=true):FT AA 141 [.agg p.c,.agg h.c] (.bool (mc p h)):=by
 refine pC AR4 rfl ?_
 simp only[f141,go_sem]
 refine Fe (Ak 10) (λr=>r.all λi=>(((Fp p.bits i).toNat ^^^ (Fp h i).toNat) &&& (Fp p.mask i).toNat)==0) (λk=>[(2,.ptr 0 0),(3,.ptr 1 0),(6,.int .i64 k)]) dc rfl ?_ ?_
 ·intro k y ys hd hx hF h0 h1 hw
  have hk:k<10:=by
   have:=(AC.1 hx).1
   simpa using this
  have hy:y=k:=by
   have:=hx
   rw[List.getElem?_range hk]at this
   exact(Option.some.inj this).symm
  subst hy
  have i0:(0:Int)<=(y:Int):=FR
  have i1:(y:Int)<((10:Nat):Int):=FR
  have a1:=Ts p hk
  have a2:=Tt p hk
  have a3:=Lr h hk
  have w1:=Hi hm y
  have w2:=Hi hb y
  have w3:=Hi hr y
  obtain⟨A,hA⟩:∃W:Nat,Fp p.mask y=(W:Int):=⟨(Fp p.mask y).toNat,FR⟩
  obtain⟨B,hB⟩:∃W:Nat,Fp p.bits y=(W:Int):=⟨(Fp p.bits y).toNat,FR⟩
  obtain⟨C,hC⟩:∃W:Nat,Fp h y=(W:Int):=⟨(Fp h y).toNat,FR⟩
  rw[hA]at a1 w1
  rw[hB]at a2 w2
  rw[hC]at a3 w3
  have hx1:B ^^^ C<2^16:=CX FR FR
  have e1:AEJ (B:Int) (C:Int)=((B ^^^ C:Nat):Int):=zC FR FR
  have e2:yT ((B ^^^ C:Nat):Int) (A:Int)=(((B ^^^ C) &&& A:Nat):Int):=Wg FR FR
  have i2:(y:Int)<10:=FR
  have eq:((((Fp p.bits y).toNat ^^^ (Fp h y).toNat) &&& (Fp p.mask y).toNat)==0) = !(((((B ^^^ C) &&& A:Nat):Int)) !=0):=by
   rw[hA,hB,hC,Ag,Ag,Ag]
   generalize (B ^^^ C) &&& A=z
   cases z<;>rfl
  rw[Al,eq]at hF
  simp only[go_sem,h0,i1,i2,dT,Ag,a1,a2,a3,e1,e2]
  repeat' (first|apply cg<;>intro hc<;>simp only[go_sem,hc,hw])
  ·rw[hc]at hF
   exact congrArg AV.bool (hF.trans rfl).symm
  ·rw[Al,eq,hc];rfl
 ·intro hF hlt
  have g:decide (((10:Nat):Int)<10)=false:=dc
  simp only[go_sem,g]
  exact congrArg AV.bool (hF.trans rfl).symm
def N8(p:Pat)(h:Ew)(n:Nat):Ew :=
 let w:=λk=>if k<n then I1 p h k else Fp h k
 ⟨w 0,w 1,w 2,w 3,w 4,w 5,w 6,w 7,w 8,w 9⟩
def o9(p:Pat)(h:Ew):N8 p h 10=bU p h:=rfl
def yE(p:Pat)(h:Ew){k:Nat}(hk:k<10):r9 (N8 p h k) k (I1 p h k)=N8 p h (k+1):=by
 match k,hk with
 | 0,_|1,_|2,_|3,_|4,_|5,_|6,_|7,_|8,_|9,_=>rfl
def yD(p:Pat)(h:Ew){k:Nat}(hk:k<10):Fp (N8 p h k) k=Fp h k:=by
 match k,hk with
 | 0,_|1,_|2,_|3,_|4,_|5,_|6,_|7,_|8,_|9,_=>rfl
def AE3(p:Pat)(hm:FZ p.mask=true)(hb:FZ p.bits=true)(h:Ew)(hr:FZ h=true):FT AA 146 [.agg p.c,.agg h.c] (.agg (bU p h).c):=by
 refine pC ARl rfl ?_
 simp only[f146,go_sem]
 refine bO 10 (λk=>[(2,.ptr 0 0),(3,.ptr 1 0),(4,.ptr 2 0),(6,.int .i64 k)]) (λk=>[some p.c,some (N8 p h k).c,some Head.z.c]) rfl rfl ?_
 intro y hy
 by_cases hk:y<10
 ·have i0:(0:Int)<=(y:Int):=FR
  have i1:(y:Int)<((10:Nat):Int):=FR
  have i2:(y:Int)<10:=FR
  have a1:=Ts p hk
  have a2:=Tt p hk
  have a3:=Lr (N8 p h y) hk
  rw[yD p h hk]at a3
  have hw:=Mg (k:=y) FR
  have w1:=Hi hm y
  have w2:=Hi hb y
  have w3:=Hi hr y
  have st:=W2 (N8 p h y) hk (I1 p h y)
  rw[yE p h hk]at st
  have hap:I1 p h y=((((Fp h y).toNat ^^^ ((Fp h y).toNat &&& (Fp p.mask y).toNat)) ||| (Fp p.bits y).toNat:Nat):Int):=rfl
  obtain⟨A,hA⟩:∃W:Nat,Fp p.mask y=(W:Int):=⟨(Fp p.mask y).toNat,FR⟩
  obtain⟨B,hB⟩:∃W:Nat,Fp p.bits y=(W:Int):=⟨(Fp p.bits y).toNat,FR⟩
  obtain⟨C,hC⟩:∃W:Nat,Fp h y=(W:Int):=⟨(Fp h y).toNat,FR⟩
  rw[hA,hB,hC,Ag,Ag,Ag]at hap
  rw[hA]at a1 w1
  rw[hB]at a2 w2
  rw[hC]at a3 w3
  have hl:=jR (W:=C) (M:=A) FR FR
  have e1:xP (C:Int) (A:Int)=((C ^^^ (C &&& A):Nat):Int):=WN FR FR
  have e2:orI ((C ^^^ (C &&& A):Nat):Int) (B:Int)=I1 p h y:=by rw[hap];exact qe FR FR
  have hk9:y<=9:=FR
  simp only[go_sem,i0,i1,i2,dT,Ag,a1,a2,a3,e1,e2,st,hw,hk9]
  exact hk
 ·have:y=10:=FR
  subst this
  have g:decide (((10:Nat):Int)<10)=false:=dc
  simp only[go_sem,g,o9]
def nu(a b:Ew): ∀k,k<=10->Le (a.l.drop k) (b.l.drop k)=if k<10 then(if Fp a k<Fp b k then -1 else if Fp b k<Fp a k then 1 else Le (a.l.drop (k+1)) (b.l.drop (k+1)))else 0:=by
 intro k hk
 match k,hk with
 | 0,_|1,_|2,_|3,_|4,_|5,_|6,_|7,_|8,_|9,_=>rfl
 | 10,_=>rfl
def Q4(fs:List (Ew->Bool))(k:Nat)(h:Ew):Bool:=((fs[k]?).map λf=>f h).getD false
def ON(fs:List (Ew->Option (List Ew)))(k:Nat)(h:Ew):Option (List Ew):=((fs[k]?).map λf=>f h).getD none
def AGs(l:List Fld)(t k:Int)(f:ByteArray)(n m:Int)(fs:List (Ew->Bool))(h:Ew):Bool :=
 if k=1 then true else if k=2 then false else if k=9 then decide (n<=t)&&decide (t<m)
 else if k=6 then !Q4 fs 0 h else if k=7 then Q4 fs 0 h&&Q4 fs 1 h else if k=8 then Q4 fs 0 h||Q4 fs 1 h
 else if k=3 then decide ((Nx (Ff l f).1 h:Int)=n)
 else if k=4 then decide (Nx (Ff l f).1 h / 2^(fW (Ff l f).1 - m.toNat)=n.toNat / 2^(fW (Ff l f).1 - m.toNat))
 else decide (n<=Nx (Ff l f).1 h)&&decide ((Nx (Ff l f).1 h:Int)<=m)
mutual
def hP(l:List Fld)(t:Int):Er->Ew->Bool
 |⟨k,f,n,m,xs⟩=>AGs l t k f n m (nN l t xs)
def nN(l:List Fld)(t:Int):List Er->List (Ew->Bool)
 |[]=>[]
 |x::r=>hP l t x::nN l t r
end
def AX7(l:List Fld)(t:Int)(x:Er):hP l t x=AGs l t x.kind x.field x.n x.m (nN l t x.args):=by cases x;rw[hP]
def ABg(l:List Fld)(t:Int): ∀r:List Er,nN l t r=r.map (hP l t)
 |[]=>by rw[nN];rfl
 |x::r=>by rw[nN,ABg l t r];rfl
def nM(l:List Fld)(t:Int){r:List Er}{k:Nat}{x:Er}(hx:r[k]? =some x)(h:Ew):Q4 (nN l t r) k h=hP l t x h:=by
 rw[ABg,Q4,Aa,hx];rfl
def WY(r:List Ew):Option (List Ew):=if 256<r.length then none else some r
def U1(l:List Fld)(t k:Int)(p:Er)(f:ByteArray)(n:Int)(fs:List (Ew->Option (List Ew)))(h:Ew):Option (List Ew) :=
 if k=1 then some (if hP l t p h then[h]else[])
 else if k=2 then some [RR (Ff l f).1 h n.toNat]
 else if k=3 then match ON fs 0 h,ON fs 1 h with
  |some a,some b=>WY (Gt a b)
  |_,_=>none
 else if k=4 then match ON fs 0 h with
  |some a=>JT (ON fs 1) [] a
  |none=>none
 else LE (ON fs 0) 300 [h] [h]
mutual
def vO(l:List Fld)(t:Int):Es->Ew->Option (List Ew)
 |⟨k,p,f,n,xs⟩=>U1 l t k p f n (XA l t xs)
def XA(l:List Fld)(t:Int):List Es->List (Ew->Option (List Ew))
 |[]=>[]
 |x::r=>vO l t x::XA l t r
end
def AGo(l:List Fld)(t:Int)(x:Es):vO l t x=U1 l t x.kind x.pred x.field x.n (XA l t x.args):=by cases x;rw[vO]
def zP(l:List Fld)(t:Int): ∀r:List Es,XA l t r=r.map (vO l t)
 |[]=>by rw[XA];rfl
 |x::r=>by rw[XA,zP l t r];rfl
def SR(l:List Fld)(t:Int){r:List Es}{k:Nat}{x:Es}(hx:r[k]? =some x):ON (XA l t r) k=vO l t x:=by
 funext h
 rw[zP,ON,Aa,hx];rfl
def JD(r:List Ew):Prop:=LW r/\r.length<=256 /\ ∀z∈r,FZ z=true
def Lp:JD []:=⟨zg,dc,sm⟩
def Pl{h:Ew}(hr:FZ h=true):JD [h]:=⟨dS h,sm,by simpa using hr⟩
def Iu{a b:List Ew}(ha:JD a)(hb:∀z∈b,FZ z=true)(hl:¬256<(Gt a b).length):JD (Gt a b):=by
 refine⟨Qe b ha.1,FR,λz hz=>?_⟩
 rcases(Ql z b a).1 hz with h|h
 ·exact ha.2.2 z h
 ·exact hb z h
def Pm{f:Ew->Option (List Ew)}(hf : ∀ h r,FZ h=true->f h=some r->JD r): ∀ (xs o r:List Ew),JD o->(∀ z∈xs,FZ z=true)->JT f o xs=some r->JD r
 |[],o,r,ho,_,e=>by
  rw[JT]at e
  cases e;exact ho
 | x::xs,o,r,ho,hx,e=>by
  rw[JT]at e
  cases hfx:f x with
  |none=>rw[hfx]at e;cases e
  | some a =>
   rw[hfx]at e
   dsimp only at e
   have ga:=hf x a (hx x sm) hfx
   by_cases hl:256<(Gt o a).length
   ·rw[iP hl]at e;cases e
   ·rw[iN hl]at e
    exact Pm hf xs _ r (Iu ho ga.2.2 hl) (λz hz=>hx z (by simp[hz])) e
def VT{o n:List Ew}{z:Ew}:z∈IZ o n↔z∈n/\z∉o:=by
 unfold IZ
 rw[List.mem_filter]
 constructor
 ·rintro ⟨h1,h2⟩
  refine⟨h1,λhc=>?_⟩
  have:(o.any λy=>decide (y=z))=true:=CW.2 ⟨z,hc,sm⟩
  rw[this]at h2;cases h2
 ·rintro ⟨h1,h2⟩
  refine⟨h1, ?_⟩
  have:(o.any λy=>decide (y=z))=false:=by
   rw[Bh]
   intro y hy
   simp
   intro e;subst e;exact h2 hy
  rw[this];rfl
def Y8{f:Ew->Option (List Ew)}(hf : ∀ h r,FZ h=true->f h=some r->JD r): ∀ (k:Nat) (o n r:List Ew),JD o->(∀ z∈n,FZ z=true)->LE f k o n=some r->JD r
 | 0,o,n,r,_,_,e=>by rw[LE]at e;cases e
 | k+1,o,n,r,ho,hn,e=>by
  rw[LE]at e
  by_cases h0:n=[]
  ·rw[iP h0]at e;cases e;exact ho
  ·rw[iN h0]at e
   cases hi:JT f [] n with
   |none=>rw[hi]at e;cases e
   | some m =>
    rw[hi]at e
    dsimp only at e
    have gm:=Pm hf n [] m Lp hn hi
    have gn:∀z∈IZ o m,FZ z=true:=λz hz=>gm.2.2 z (VT.1 hz).1
    by_cases hl:256<(Gt o (IZ o m)).length
    ·rw[iP hl]at e;cases e
    ·rw[iN hl]at e
     exact Y8 hf k _ _ r (Iu ho gn hl) gn e
def d'(h:Ew): ∀{l:List Ew},h∉l->(OM h l).length=l.length+1
 |[],_=>rfl
 |x::r,hn=>by
  rw[OM]
  have h1:¬x=h:=λe=>hn (by simp[e])
  have h2:h∉r:=λe=>hn (by simp[e])
  split
  ·rw[AD,d' h h2];rfl
  ·rfl
def tE{o n:List Ew}(h:IZ o n≠[]):o.length<(Gt o (IZ o n)).length:=by
 cases hc:IZ o n with
 |nil=>exact absurd hc h
 |cons x r =>
  have hx:x∉o:=(VT.1 (by rw[hc];simp:x∈IZ o n)).2
  have e:Gt o (x::r)=Gt (OM x o) r:=rfl
  have:=(VX r (OM x o)).1
  rw[d' x hx]at this
  rw[e];omega
def Iq(l:List Fld):Prop:=∀f∈l,HC f
def mX:HC JZ:=by unfold HC JZ;decide
def Ir{l:List Fld}(hl:Iq l){s:ByteArray}(h:(Ff l s).2=true):HC (Ff l s).1:=by
 unfold Ff at h ⊢
 split
 ·exact mX
 ·rename_i hs
  rw[iN hs]at h
  cases hf:l.find? (λf=>decide (f.name=s))with
  |none=>rw[hf]at h;cases h
  |some f=>exact hl f (List.mem_of_find?_eq_some hf)
def w8{l:List Fld}{x y:Er}(hx:IP l x)(hy:y∈x.args):IP l y:=by
 obtain⟨h1,h2⟩:=hx
 rw[Hn,AM]at h1
 have hf:∀r:List Er,V8 r=true -> ∀z∈r,Na z=true:=by
  intro r
  induction r with
  |nil=>intro _ z hz;cases hz
  |cons a r ih =>
   intro h z hz
   rw[Kg,AM]at h
   rcases AY.1 hz with rfl|hz
   ·exact h.1
   ·exact ih h.2 z hz
 refine⟨hf _ h1.2 y hy,λz hz=>h2 z ?_⟩
 have hs:∀r:List Er,y∈r->z∈M7 r:=by
  intro r
  induction r with
  |nil=>intro h;cases h
  |cons a r ih =>
   intro h
   rw[Jf]
   rcases AY.1 h with rfl|h
   ·exact Co _ hz
   ·exact DM _ (ih h)
 rw[LZ]
 exact B0 _ (hs _ hy)
def Acd(l:List Fld)(x:Er):Prop:=(Ff l x.field).2=true/\HC (Ff l x.field).1/\0<=x.n/\x.n.toNat<2^fW (Ff l x.field).1
def Rb{f:Fld}(hf:HC f):KY f=((2^fW f - 1:Nat):Int):=by
 have h:=hf
 unfold HC at h
 have:∀k:Nat,k<17->i64 (XH k - 1)=((2^k - 1:Nat):Int):=dc
 exact this _ FR
def nW{l:List Fld}(hl:Iq l){x:Er}(hx:IP l x):
  (x.kind=1)\/(x.kind=2)\/(x.kind=9)\/(x.kind=6 /\ ∃a,x.args=[a]/\IP l a)\/((x.kind=7\/x.kind=8) /\ ∃a b,x.args=[a,b]/\IP l a/\IP l b) \/
  (x.kind=3/\Acd l x)\/(x.kind=4/\Acd l x/\0<=x.m/\x.m.toNat<=fW (Ff l x.field).1)\/(x.kind=5/\(Ff l x.field).2=true/\HC (Ff l x.field).1/\0<=x.n/\x.n<=x.m/\x.m.toNat<2^fW (Ff l x.field).1):=by
 have hfit:=hx.2 x (by rw[LZ];simp)
 have harg:=λy hy=>w8 (y:=y) hx hy
 have hfm:=hx.1
 rw[Hn,AM,AM,beq_iff_eq]at hfm
 obtain⟨⟨hok,hlen⟩,_⟩:=hfm
 unfold So at hok hlen
 unfold P3 at hfit
 by_cases k1:x.kind=1
 ·exact .inl k1
 by_cases k2:x.kind=2
 ·exact .inr (.inl k2)
 rw[iN (by simp[k1,k2])]at hok hlen
 by_cases k3:x.kind=3
 ·rw[iP k3]at hok
  rw[iN (by simp[k3])]at hfit
  by_cases hf:(Ff l x.field).2=false
  ·rw[iP hf]at hfit;cases hfit
  ·rw[iN hf,iN (by omega:¬x.kind=5)]at hfit
   have hft:(Ff l x.field).2=true:=by simpa using hf
   have hfo:=Ir hl hft
   rw[Rb hfo]at hfit
   have hp:=BW (fW (Ff l x.field).1)
   simp[RM]at hok
   refine .inr (.inr (.inr (.inr (.inr (.inl ⟨k3,hft,hfo,hok.2.1.1, ?_⟩)))))
   split at hfit
   ·cases hfit
   ·omega
 rw[iN k3]at hok hlen
 by_cases k4:x.kind=4
 ·rw[iP k4]at hok
  rw[iN (by simp[k4])]at hfit
  by_cases hf:(Ff l x.field).2=false
  ·rw[iP hf]at hfit;cases hfit
  ·rw[iN hf,iN (by omega:¬x.kind=5)]at hfit
   have hft:(Ff l x.field).2=true:=by simpa using hf
   have hfo:=Ir hl hft
   have hfo':=hfo
   unfold HC at hfo'
   rw[Rb hfo]at hfit
   have hp:=BW (fW (Ff l x.field).1)
   have hW:fW (Ff l x.field).1=(Ff l x.field).1.width.toNat:=rfl
   simp[RM]at hok
   refine .inr (.inr (.inr (.inr (.inr (.inr (.inl ⟨k4,⟨hft,hfo,hok.2.1.1, ?_⟩,hok.2.2.1, ?_⟩))))))
   ·split at hfit
    ·cases hfit
    ·omega
   ·split at hfit
    ·cases hfit
    ·omega
 rw[iN k4]at hok hlen
 by_cases k5:x.kind=5
 ·rw[iP k5]at hok
  rw[iN (by simp[k5])]at hfit
  by_cases hf:(Ff l x.field).2=false
  ·rw[iP hf]at hfit;cases hfit
  ·rw[iN hf,iP k5]at hfit
   have hft:(Ff l x.field).2=true:=by simpa using hf
   have hfo:=Ir hl hft
   rw[Rb hfo]at hfit
   have hp:=BW (fW (Ff l x.field).1)
   simp at hok
   refine .inr (.inr (.inr (.inr (.inr (.inr (.inr ⟨k5,hft,hfo,hok.2.1,hok.2.2.1, ?_⟩))))))
   split at hfit
   ·cases hfit
   ·omega
 rw[iN k5]at hok hlen
 by_cases k6:x.kind=6
 ·rw[iP k6]at hlen
  refine .inr (.inr (.inr (.inl ⟨k6, ?_⟩)))
  match hxa:x.args,hlen with
  |[a],_=>exact⟨a,rfl,harg a (by rw[hxa];simp)⟩
 rw[iN k6]at hok hlen
 by_cases k7:x.kind=7\/x.kind=8
 ·rw[iP k7]at hlen
  refine .inr (.inr (.inr (.inr (.inl ⟨k7, ?_⟩))))
  match hxa:x.args,hlen with
  |[a,b],_=>exact⟨a,b,rfl,harg a (by rw[hxa];simp),harg b (by rw[hxa];simp)⟩
 rw[iN k7]at hok hlen
 by_cases k9:x.kind=9
 ·exact .inr (.inr (.inl k9))
 rw[iN k9]at hok
 cases hok
def sI:Option (List Ew)->AV
 |some r => .tup [.sl none (F2 r),.int .i64 0]
 |none => .tup [.sl none [],.int .i64 2]
@[go_sem] def AVt(o:Option (List Ew)):(sI o).pure=true:=by
 cases o<;>simp[sI,AV.pure,FW,go_sem]
@[go_sem] def AVs(r:List Ew):sI (some r) = .tup [.sl none (F2 r),.int .i64 0]:=rfl
@[go_sem] def AVu:sI none = .tup [.sl none [],.int .i64 2]:=rfl
def AA3(o n:List Ew):(IZ o n).length<=n.length:=List.length_filter_le _ _
def w9{l:List Fld}{x y:Es}(hx:Hm l x)(hy:y∈x.args):Hm l y:=by
 obtain⟨h1,h2⟩:=hx
 rw[IT,AM]at h1
 have hf:∀r:List Es,V9 r=true -> ∀z∈r,Rr z=true:=by
  intro r
  induction r with
  |nil=>intro _ z hz;cases hz
  |cons a r ih =>
   intro h z hz
   rw[Kh,AM]at h
   rcases AY.1 hz with rfl|hz
   ·exact h.1
   ·exact ih h.2 z hz
 refine⟨hf _ h1.2 y hy,λz hz=>h2 z ?_⟩
 have hs:∀r:List Es,y∈r->z∈MZ r:=by
  intro r
  induction r with
  |nil=>intro h;cases h
  |cons a r ih =>
   intro h
   rw[Ip]
   rcases AY.1 h with rfl|h
   ·exact Co _ hz
   ·exact DM _ (ih h)
 rw[Kv]
 exact B0 _ (hs _ hy)
def V7{l:List Fld}(hl:Iq l){x:Es}(hx:Hm l x):
  (x.kind=1/\IP l x.pred)\/(x.kind=2/\HC (Ff l x.field).1/\(Ff l x.field).2=true/\0<=x.n/\x.n.toNat<2^fW (Ff l x.field).1) \/
  ((x.kind=3\/x.kind=4) /\ ∃a b,x.args=[a,b]/\Hm l a/\Hm l b)\/(x.kind=5 /\ ∃a,x.args=[a]/\Hm l a):=by
 have hfit:=hx.2 x (by rw[Kv];simp)
 have harg:=λy hy=>w9 (y:=y) hx hy
 have hfm:=hx.1
 rw[IT,AM,AM,beq_iff_eq]at hfm
 obtain⟨⟨hok,hlen⟩,_⟩:=hfm
 unfold VR at hok hlen
 unfold RZ at hfit
 by_cases k1:x.kind=1
 ·rw[iP k1]at hok hfit
  rw[AM]at hok
  exact .inl ⟨k1,hok.1,(Po l _).1 hfit⟩
 rw[iN k1]at hok hlen hfit
 by_cases k2:x.kind=2
 ·rw[iP k2]at hok hfit
  by_cases hf:(Ff l x.field).2=false
  ·rw[iP hf]at hfit;cases hfit
  ·rw[iN hf]at hfit
   have hft:(Ff l x.field).2=true:=by simpa using hf
   have hfo:=Ir hl hft
   rw[Rb hfo]at hfit
   have hp:=BW (fW (Ff l x.field).1)
   simp[RM]at hok
   refine .inr (.inl ⟨k2,hfo,hft,hok.2.2.1, ?_⟩)
   split at hfit
   ·cases hfit
   ·omega
 rw[iN k2]at hok hlen
 by_cases k3:x.kind=3\/x.kind=4
 ·rw[iP k3]at hlen
  refine .inr (.inr (.inl ⟨k3, ?_⟩))
  match hxa:x.args,hlen with
  |[a,b],_=>exact⟨a,b,rfl,harg a (by rw[hxa];simp),harg b (by rw[hxa];simp)⟩
 rw[iN k3]at hok hlen
 by_cases k5:x.kind=5
 ·rw[iP k5]at hlen
  refine .inr (.inr (.inr ⟨k5, ?_⟩))
  match hxa:x.args,hlen with
  |[a],_=>exact⟨a,rfl,harg a (by rw[hxa];simp)⟩
 rw[iN k5]at hok
 cases hok
def RO(l:List Fld)(hl:Iq l)(t:Int): ∀ x:Es,Hm l x -> ∀ h r,FZ h=true->vO l t x h=some r->JD r:=by
 refine HM _ λx ih=>λhx h r hr e=>?_
 rw[AGo]at e
 unfold U1 at e
 rcases V7 hl hx with⟨k,gp⟩|⟨k,hfo,hft,hn,hn2⟩|⟨k,a,b,ha,ga,gb⟩|⟨k,a,ha,ga⟩
 ·rw[iP k]at e
  have e2:=Option.some.inj e
  by_cases hb:hP l t x.pred h=true
  ·rw[iP hb]at e2;rw[<- e2];exact Pl hr
  ·rw[iN hb]at e2;rw[<- e2];exact Lp
 ·rw[iN FR,iP k]at e
  cases e
  exact Pl (Ni hfo hn2 hr)
 ·have e0:ON (XA l t x.args) 0=vO l t a:=SR l t (by rw[ha];rfl)
  have e1:ON (XA l t x.args) 1=vO l t b:=SR l t (by rw[ha];rfl)
  rw[e0,e1]at e
  have ih0:=ih a (by rw[ha];simp) ga
  have ih1:=ih b (by rw[ha];simp) gb
  rcases k with k|k
  ·rw [iN FR,iN FR,iP k] at e
   cases hva:vO l t a h with
   |none=>rw[hva]at e;cases e
   | some u =>
    cases hvb:vO l t b h with
    |none=>rw[hva,hvb]at e;cases e
    | some v =>
     rw[hva,hvb]at e
     dsimp only[WY]at e
     by_cases hc:256<(Gt u v).length
     ·rw[iP hc]at e;cases e
     ·rw[iN hc]at e;cases e
      exact Iu (ih0 h u hr hva) (ih1 h v hr hvb).2.2 hc
  ·rw[iN FR,iN FR,iN FR,iP k]at e
   cases hva:vO l t a h with
   |none=>rw[hva]at e;cases e
   |some u =>
    rw[hva]at e
    exact Pm ih1 u [] r Lp (ih0 h u hr hva).2.2 e
 ·have e0:ON (XA l t x.args) 0=vO l t a:=SR l t (by rw[ha];rfl)
  rw[iN FR,iN FR,iN FR,iN FR,e0]at e
  exact Y8 (ih a (by rw[ha];simp) ga) 300 [h] [h] r (Pl hr) (by simpa using hr) e
inductive RchH (f:Ew->Option (List Ew)) (x:Ew):Ew->Prop
 |refl:RchH f x x
 |step {y z:Ew} {b:List Ew}:RchH f x y->f y=some b->z∈b->RchH f x z
def RchH.trans{f:Ew->Option (List Ew)}{x y z:Ew}(h1:RchH f x y)(h2:RchH f y z):RchH f x z:=by
 induction h2 with
 |refl=>exact h1
 |step _ h3 h4 ih=>exact ih.step h3 h4
def RchH.closed{f:Ew->Option (List Ew)}{S:Ew->Prop}(hS:∀x,S x -> ∀b,f x=some b -> ∀z∈b,S z){x z:Ew}(hx:S x)(h:RchH f x z):S z:=by
 induction h with
 |refl=>exact hx
 |step _ h3 h4 ih=>exact hS _ ih _ h3 _ h4
def U9{h:Ew}(hr:FZ h=true){n:Int}(h0:0<=n)(h1:n<=65535):FZ { h with h0:=n }=true :=
 TU hr 0 h0 h1
end Go.AI
