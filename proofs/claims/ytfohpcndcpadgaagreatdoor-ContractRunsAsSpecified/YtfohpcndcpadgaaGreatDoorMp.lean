/- Contracts of the program's names and sizes. -/
import Derived.Test.YtfohpcndcpadgaaGreatDoorMg
import Derived.Sort.Walk0
set_option linter.unusedSimpArgs false
set_option linter.unusedVariables false
set_option linter.defProp false
open Go.Proofs.Tryz
open Go.AI renaming Pred->E5,Policy->E6,Sizes->E7,Stage->E8,Tenant->E9,Head->E_
open Bool renaming and_eq_true->AQ,and_false->Dr,and_true->Bo,eq_iff_iff->A9,false_or->BC,not_eq_true->Do,not_false->Ay,not_true->Ax,or_eq_false_iff->CF,or_eq_true->CI,true_and->Ba,true_or->BJ
open Int renaming add_zero->CT,fdiv_eq_ediv_of_nonneg->Dx,lt_irrefl->AR,mul_comm->Dk,ofNat_tdiv->EY,toNat_natCast->AZ,toNat_of_nonneg->CK,toNat_one->ET
open Go.IntKind renaming bits->DQ,signed->Dw,wrap->Dv
open List renaming all_cons->Am,all_eq_true->Ao,any_cons->Av,any_eq_false->Bp,any_eq_true->CR,append_assoc->AF,append_nil->Ai,drop_eq_getElem_cons->BI,drop_eq_nil_of_le->Cz,drop_zero->BE,ext_getElem?->A6,find?_cons->BN,foldl_cons->CC,getD_eq_getElem?_getD->Cy,getElem?_append_left->Aa,getElem?_append_right->AO,getElem?_eq_getElem->AL,getElem?_eq_none->A0,getElem?_eq_some_iff->AD,getElem?_map->Ac,getElem?_set->Az,length_append->AE,length_cons->AC,length_eq_zero_iff->Cr,length_map->Ap,length_nil->AG,length_pos_iff->CD,map_map->Bs,mem_append->Ar,mem_append_left->Ct,mem_append_right->DW,mem_cons->AY,mem_cons_of_mem->BX,mem_map->AN,mem_of_getElem?->AB,mem_range->Bt,mem_singleton->Ag,nil_append->AM,pairwise_cons->BM,range->An,takeWhile->ES,take_add_one->BF,take_length->BL
open Nat renaming add_comm->CB,and_le_left->DU,and_lt_two_pow->Dy,and_two_pow_sub_one_eq_mod->EX,div_le_self->D5,eq_of_testBit_eq->D1,le_refl->AS,le_trans->AJ,lt_of_le_of_lt->Cc,lt_of_lt_of_le->BV,lt_or_ge->BW,min_eq_left->Bw,mod_eq_of_lt->Bz,mod_lt->CY,mul_lt_mul_of_pos_right->EW,or_lt_two_pow->EV,pow_add->DS,pow_le_pow_right->BO,shiftLeft_eq->D4,sub_self->AP,succ_mul->De,testBit_and->Cg,testBit_div_two_pow->C1,testBit_lt_two_pow->D3,testBit_shiftLeft->Cf,testBit_two_pow_mul_add->EU,testBit_two_pow_sub_one->Dz,testBit_xor->DT,two_pow_pos->A',xor_lt_two_pow->Ce
open Go.Proofs.Tryz renaming prog->AA
namespace Go.AI
open Go.Proofs
set_option maxRecDepth 50000
@[go_sem] def AcE{P:Program}{t:TypeId}{x y:ByteArray}{d:Tmp}{K:Kt}{e:GO}{H:Fl}:JA P .lss t (.str x) (.str y) d K e H=K ((d,.bool (Op.bytesLess x.toList y.toList))::e) H:=by rw[QJ];simp[K5]
@[go_sem] def Alw{P:Program}{o:Option TypeId}{e:GO}:Hh P o e (.global 0) = .cptr (Hu.map AV.str) 0:=rfl
def sa{P:Program}{f:FuncId}{g:List AV}{d:Option Tmp}{K:Kt}{e:GO}{H:Fl}{v:AV}(h:Fm P f g v)(i:K (put d v e) H):GQ P f g d K e H :=
 (h H).mono λo p j=>by obtain⟨rfl,rfl⟩:=j;exact i
def Gq(P:Program)(f:FuncId)(g:List AV)(H:Fl)(v:AV):Prop:=Fw P f g H λi j=>i=v/\j=H
def sZ{P:Program}{f:FuncId}{g:List AV}{d:Option Tmp}{K:Kt}{e:GO}{H:Fl}{v:AV}(h:Gq P f g H v)(i:K (put d v e) H):GQ P f g d K e H :=
 h.mono λo p j=>by obtain⟨rfl,rfl⟩:=j;exact i
def aP{P:Program}{f:FuncId}{g:List AV}{d:Option Tmp}{K:Kt}{e:GO}{H:Fl}{v:AV}(h:Fm P f g v)(i:K (put d v e) H):GQ P f g d K e H:=sa h i
def aS{P:Program}{f:FuncId}{g:List AV}{d:Option Tmp}{K:Kt}{e:GO}{H:Fl}{v:AV}(h:Gq P f g H v)(i:K (put d v e) H):GQ P f g d K e H:=sZ h i
def PB(a b:ByteArray):Bool:=Op.bytesLess a.toList b.toList
def Og(a:ByteArray):PB a a=false:=by
 unfold PB;rw[Go.Proofs.bytesLess_eq];simp[List.lt_irrefl]
def cc{a b c:ByteArray}(g:PB a b=true)(i:PB b c=true):PB a c=true:=by
 unfold PB at *;rw[Go.Proofs.bytesLess_eq,decide_eq_true_eq]at *;exact List.lt_trans g i
def ai(c g i:Int):Fm AA 374 [.int .u8 c,.int .u8 g,.int .u8 i] (.bool (decide (g<=c)&&decide (c<=i))):=by
 refine pC AMN rfl ?_;simp only[f374,go_sem];repeat' (first|apply Pz<;>intro j<;>simp only[go_sem,j])
 all_goals grind
def W0(c:UInt8):Fm AA 357 [.int .u8 c.toNat] (.bool (loB c)):=by
 refine pC AMx rfl ?_;simp only[f357,go_sem];repeat' (first|(apply pK (ai _ _ _);simp only[go_sem])|apply Pz<;>intro g<;>simp only[go_sem,g])
 all_goals first|rfl|(simp only[loB,bz])
def vL(c:UInt8):Fm AA 377 [.int .u8 c.toNat] (.bool (dgB c)):=by
 refine pC AMB rfl ?_;simp only[f377,go_sem];repeat' (first|(apply pK (ai _ _ _);simp only[go_sem])|apply Pz<;>intro g<;>simp only[go_sem,g])
 all_goals first|rfl|(simp only[dgB,bz])
def cL(c:UInt8):Fm AA 361 [.int .u8 c.toNat] (.bool (wdB c)):=by
 refine pC AMh rfl ?_;simp only[f361,go_sem];repeat' (first|((first|apply pK (W0 _)|apply pK (vL _));simp only[go_sem])|apply Pz<;>intro g<;>simp only[go_sem,g])
 all_goals (simp only[wdB,bz];grind)
def oV(s:ByteArray):Fm AA 340 [.str s] (.bool false):=by
 refine pC ANI rfl ?_;simp only[f340,go_sem,beq_self_eq_true,Ax]
def AC'(s:ByteArray):Fm AA 376 [.str s] (.bool false):=by
 refine pC AMF rfl ?_;simp only[f376,go_sem,beq_self_eq_true,Ax]
def ALN(a b:ByteArray):Fm AA 375 [.str a,.str b] (.bool (PB a b)):=by
 refine pC AMJ rfl ?_;simp only[f375,go_sem];repeat' (first|(apply pK (oV _);simp only[go_sem])|apply Pz<;>intro g<;>simp only[go_sem,g])
 all_goals rfl
def bsI(s:ByteArray):Nat:=(Hu.takeWhile λw=>PB w s).length
def OS:∀i j:Nat,i<j->j<49->PB (Hu.getD i ⟨#[]⟩) (Hu.getD j ⟨#[]⟩)=true:=by
 have h:((An 49).all λj=>(An j).all λi=>PB (Hu.getD i ⟨#[]⟩) (Hu.getD j ⟨#[]⟩))=true:=kr;intro i j g o;have p:=Ao.1 h j (Bt.2 o);exact Ao.1 p i (Bt.2 g)
def Nd:Hu.length=49:=rfl
def RN{α:Type}{p:α->Bool}: ∀(l:List α) (n:Nat),n<=l.length->(∀k x,l[k]? =some x->k<n->p x=true)->(∀x,l[n]? =some x->p x=false)->(l.takeWhile p).length=n
 |[],n,g,_,_=>by simp at g;subst g;rfl
 |y::l,0,_,_,i=>by
  have:=i y rfl;simp[ES,this]
 |y::l,n+1,g,j,i=>by
  have o:=j 0 y rfl Fj;simp only[ES,o,AC];rw[RN l n (by simp at g;omega) (λk x r t=>j (k+1) x (by simpa using r) Fj) (λx hx=>i x (by simpa using hx))]
def AB4{s:ByteArray}{i:Nat}(J:i<=49)(r : ∀ k,k<i->PB (Hu.getD k ⟨#[]⟩) s=true)(t : ∀ k,i<=k->k<49->PB (Hu.getD k ⟨#[]⟩) s=false):
  U3 s=(decide (i<49)&&decide (Hu.getD i ⟨#[]⟩=s)):=by
 rw[A9,AQ,decide_eq_true_eq,decide_eq_true_eq,U3,CR];constructor
 ·rintro ⟨w,C,j⟩;have j:w=s:=by simpa using j
  subst j;obtain⟨m,hm⟩:=List.getElem?_of_mem C;have o:m<49:=by have:=(AD.1 hm).1;rw[Nd]at this;exact this
  have g:Hu.getD m ⟨#[]⟩=w:=by rw[Cy,hm];rfl
  rcases BW m i with h|h
  ·have:=r m h;rw[g,Og]at this;cases this
  ·rcases BW i m with p|p
   ·have:=OS i m p o;rw[g]at this;rw[t i (AS _) Fj]at this;cases this
   ·have:i=m:=Fj;subst this;exact⟨o,g⟩
 ·rintro ⟨I,j⟩;have hm:Hu.getD i ⟨#[]⟩∈Hu:=by
   have:=AL (l:=Hu) (i:=i) (by rw[Nd];exact I);rw[Cy,this];exact List.getElem_mem _
  exact⟨_,hm,decide_eq_true j⟩
def Nf{k:Nat}(h:k<49):(Hu.map AV.str)[k]? =some (.str (Hu.getD k ⟨#[]⟩)):=by
 rw[Ac,Cy,AL (by rw[Nd];exact h)];rfl
@[go_sem] def AJp:Fq (Hu.map AV.str)=true:=kr
@[go_sem] def AK3:(Hu.map AV.str).length=49:=rfl
@[go_sem] def AcG{P:Program}{t:TypeId}{x:Int}{d:Tmp}{K:Kt}{e:GO}{H:Fl}:JA P .shr t (.int .u64 x) (.int .u64 1) d K e H=K ((d,.int .u64 (x.fdiv 2))::e) H:=by
 rw[Hw];simp[K5,DQ]
def ALm{i j:Nat}(r:j<=49)(t:i<j):IntKind.i64.wrap ((IntKind.u64.wrap (IntKind.i64.wrap ((i:Int)+(j:Int)))).fdiv 2)=(((i+j) / 2:Nat):Int):=by
 have g:IntKind.i64.wrap ((i:Int)+(j:Int))=((i+j:Nat):Int):=Mg Fj Fj;rw[g];have o:IntKind.u64.wrap ((i+j:Nat):Int)=((i+j:Nat):Int):=by
  simp[Dv,Dw,DQ];omega
 rw[o];have p:((i+j:Nat):Int).fdiv 2=(((i+j) / 2:Nat):Int):=by
  rw[Dx _ dc];omega
 rw[p];exact Mg Fj Fj
set_option maxHeartbeats 2000000 in
def AC6(s:ByteArray):Fm AA 358 [.sl none (Hu.map AV.str),.str s] (.tup [.int .i64 (bsI s),.bool (U3 s)]):=by
 refine pB AMt rfl ?_;simp only[f358,go_sem];refine JB (σ:=Nat×Nat) (λg=>[(0,.sl none (Hu.map AV.str)),(1,.str s),(6,.int .i64 49),(7,.int .i64 g.1),(8,.int .i64 g.2)]) (λ_=>[]) (λg=>g.1<=g.2/\g.2<=49/\(∀k,k<g.1->PB (Hu.getD k ⟨#[]⟩) s=true)/\(∀k,g.2<=k->k<49->PB (Hu.getD k ⟨#[]⟩) s=false)) (λg=>g.2 - g.1) (0,49) ⟨Fj,Fj,λk P=>Fj,λk R T=>Fj⟩ rfl rfl ?_;rintro ⟨i,j⟩ ⟨I,C,R,T⟩;by_cases t:i<j
 ·have r:(i:Int)<(j:Int):=Fj;have U:(0:Int)<=(((i+j) / 2:Nat):Int):=Fj;have o:(((i+j) / 2:Nat):Int).toNat=(i+j) / 2:=Fj;have hm:(i+j) / 2<49:=Fj;have hw:=K_ (k:=(i+j) / 2) Fj;simp only[go_sem,r,dT,ALm C t,U,o,Nf hm];repeat' (first|(apply pK (ALN _ _);simp only[go_sem,r,ALm C t,U,o,Nf hm,hw])|apply Pz<;>intro p<;>simp only[go_sem,p,r,ALm C t,U,o,Nf hm,hw])
  ·exact⟨((i+j) / 2+1,j),⟨Fj,C,λk P=>by
    rcases BW k ((i+j) / 2)with h|h
    ·exact cc (OS _ _ h hm) p
    ·have:k=(i+j) / 2:=Fj;subst this;exact p,T⟩,Fj,rfl,rfl⟩
  ·exact⟨(i,(i+j) / 2),⟨Fj,Fj,R,λk P V=>by
    rcases BW ((i+j) / 2) k with h|h
    ·cases hq:PB (Hu.getD k ⟨#[]⟩) s with
     |false=>rfl
     |true=>rw[cc (OS _ _ h V) hq]at p;cases p
    ·have:k=(i+j) / 2:=Fj;subst this;exact p⟩,Fj,rfl,rfl⟩
 ·have I:i=j:=Fj;subst I;have r:¬(i:Int)<(i:Int):=Fj;have J:U3 s=(decide (i<49)&&decide (Hu.getD i ⟨#[]⟩=s)):=AB4 C R T;have O:bsI s=i:=RN Hu i (by rw[Nd];exact C) (λk x P hl=>by
   have:=R k hl;rw[Cy,P]at this;exact this) (λx hx=>by
   have:=T i (AS _) (by have:=(AD.1 hx).1;rw[Nd]at this;exact this);rw[Cy,hx]at this;exact this)
  by_cases h49:i<49
  ·have o:(i:Int)<49:=Fj;have g4:(0:Int)<=(i:Int):=Fj;simp only[go_sem,r,dF,o,g4,dT,Nf h49,Fk];repeat' (first|(apply pK (AC' _);simp only[go_sem,r,o,g4,Nf h49,Fk,AZ])|apply Pz<;>intro p<;>simp only[go_sem,p,r,o,g4,Nf h49,Fk,AZ])
   all_goals (rw[O,J,p];simp only[h49,dT,Dr,Ay,Bo])
  ·have o:¬(i:Int)<49:=Fj;simp only[go_sem,r,dF,o];repeat' (first|(apply pK (AC' _);simp only[go_sem,r,o])|apply Pz<;>intro p<;>simp only[go_sem,p,r,o])
   all_goals (rw[O,J];simp[h49])
def AEv(s:ByteArray){k:Nat}(h:k<=s.size):(s.extract k s.size).size=s.size - k:=by simp[ByteArray.size_extract]
def th(s:ByteArray){k:Nat}(h:k<s.size):((s.extract k s.size).data[0]?).getD 0=(s.data[k]?).getD 0:=by
 have:(s.extract k s.size).data=s.data.extract k s.size:=by simp[ByteArray.data_extract]
 have g:s.size=s.data.size:=rfl;rw[this,Array.getElem?_extract];have h3:0<s.size - k:=Fj;simp[<- g,h,h3]
def AHn(s:ByteArray)(h:0<s.size):Fm AA 360 [.str s] (.bool (wdB ((s.data[0]?).getD 0))):=by
 have g:(0:Int)<(s.size:Int):=Fj;refine pC AMl rfl ?_;simp only[f360,go_sem,g];repeat' (first|(apply pK (cL _);simp only[go_sem,g])|apply Pz<;>intro i<;>simp only[go_sem,i,g])
def AC8(s:ByteArray)(J:s.size<=1073741824):Fm AA 359 [.str s,.fn (.func 360) [] []] (.str (s.extract 0 (NK s.data.toList))):=by
 refine pC AMp rfl ?_;simp only[f359,go_sem];refine YN s (λl=>s.size - l.length+NK l) (λk=>[(0,.str s),(1,.fn (.func 360) [] []),(5,.int .i64 k)]) Fj rfl ?_ ?_
 ·intro k x O P hx g t C p R;rw[Uj]at g;simp only[AC,NK]at g;have r:k<s.size:=Fj;have i:(k:Int)<=(s.size:Int):=Fj;have I:0<(s.extract k s.size).size:=by rw[AEv s Fj];omega
  simp only[go_sem,t,C,i];repeat' (first|(refine aP (AHn _ I) ?_;simp only[go_sem,p,th s r,hx])|apply Pz<;>intro j<;>simp only[go_sem,j,p,th s r,hx])
  ·rw[NK,iP j];omega
  ·rw[iN (by rw[j];decide)]at g;have:NK s.data.toList=k:=Fj;exact⟨Fj,Fj,by rw[this]⟩
 ·intro g o;simp only[go_sem,o,dF];rw[Uj]at g;have:NK s.data.toList=s.size:=by simp only[NK,AG]at g;omega
  exact⟨Fj,by rw[this]⟩
def AIP{s:ByteArray}{n:Nat}(h:n<=s.size):(s.extract 0 n=s)↔n=s.size:=by
 constructor
 ·intro g;have:=congrArg ByteArray.size g;rw[ByteArray.size_extract]at this;omega
 ·rintro rfl;exact ByteArray.extract_zero_size
def sr:∀l:List UInt8,NK l<=l.length
 |[]=>by simp[NK]
 |c::l=>by have:=sr l;unfold NK;split<;>simp<;>omega
def vJ(s:ByteArray)(r:s.size<=1073741824):Fm AA 334 [.str s] (.bool (tnB s)) := by
  have t:NK s.data.toList<=s.size := by have := sr s.data.toList;rw[Uj]at this;exact this
  have hx:decide (s.extract 0 (NK s.data.toList)=s)=((NK s.data.toList:Int)==(s.size:Int)) := by
    rw[A9,decide_eq_true_eq,AIP t,beq_iff_eq];omega
  refine pC ANe rfl ?_;by_cases i:s=⟨#[]⟩
  · subst i
    simp only[f334,go_sem,Fk,dT];rfl
  · have j:(0:Int)<(s.size:Int) := by
      have:s.size≠0 := λh=>i (ByteArray.size_eq_zero_iff.1 h);omega
    simp only[f334,go_sem,Fk,i,dF,j];repeat' (first|((first|apply pK (W0 _)|apply pK (AC6 _)|apply pK (AC8 _ r));simp only[go_sem,Fk,i,dF,j,hx])|apply Pz<;>intro C<;>simp only[go_sem,C,Fk,i,dF,j,hx])
    all_goals first
      |rfl
      | (obtain ⟨x,o,g⟩ : ∃ x o,s.data.toList=x::o := by
          cases h:s.data.toList with
          |nil=>rw[<- Uj,h]at j;simp at j
          |cons x o=>exact⟨x,o,rfl⟩
         have p:(s.data[0]?).getD 0=x := by rw[<- Array.getElem?_toList,g];rfl
         simp only[p]at *;simp only[tnB,g];simp only[g]at *;grind)
      |skip
def AHm(s:ByteArray)(g:s.size<=1073741824):Fm AA 291 [.str s] (.bool (tnB s)):=by
 refine pC APC rfl ?_;simp only[f291,go_sem];repeat' (first|(apply pK (vJ _ g);simp only[go_sem])|apply Pz<;>intro i<;>simp only[go_sem,i])
def JS(s:ByteArray)(i:s.size<=1073741824):Fm AA 216 [.str s] (.bool (WO s)):=by
 refine pC ASM rfl ?_;simp only[f216,go_sem,Fk];repeat' (first|(apply pK (AHm _ i);simp only[go_sem,Fk])|apply Pz<;>intro g<;>simp only[go_sem,g,Fk])
 all_goals first
  |rfl
  |(simp only[Fk,WO,Gd,g,BC,BJ,Ay];rfl)
  |grind[Fk,WO,Gd,BC,BJ,Ay]
  |(simp only[Fk,WO,Gd,g,BC,BJ,Ay];grind)
  |(simp[Fk,WO,Gd,g,BC,BJ,Ay, *];done)
  |(simp_all[Fk,WO,Gd,g,BC,BJ,Ay];done)
  |skip
def JR(n:Int):Fm AA 217 [.int .i64 n] (.bool (OQ n)):=by
 refine pC ASI rfl ?_;simp only[f217,go_sem];repeat' (first|apply Pz<;>intro g<;>simp only[go_sem,g])
 all_goals first
  |rfl
  |(simp only[OQ];rfl)
  |grind[OQ]
  |(simp only[OQ];grind)
  |(simp[OQ, *];done)
  |(simp_all[OQ];done)
  |skip
def Mj(n:Int):Bool:=decide (0<=n)&&decide (n<=1073741824)
def Ob(n:Int):Fm AA 289 [.int .i64 n] (.bool (Mj n)):=by
 refine pC APK rfl ?_;simp only[f289,go_sem];repeat' (first|apply Pz<;>intro g<;>simp only[go_sem,g])
 all_goals first
  |rfl
  |(simp only[Mj];rfl)
  |grind[Mj]
  |(simp only[Mj];grind)
  |(simp[Mj, *];done)
  |(simp_all[Mj];done)
  |skip
def AC2{g:List AV}{l:List AV}(h:HL (.agg g::l)):HL g:=h.1
def Hb{α:Type}(p:α->Bool):Nat->List α->Int
 |_,[] => -1
 |i,x::l=>if p x then(i:Int)else Hb p (i+1) l
def IS{α:Type}(p:α->Bool)(l:List α):Int:=Hb p 0 l
def Qq{α:Type}(p:α->Bool): ∀(l:List α) (i:Nat),decide (0<=Hb p i l)=l.any p
 |[],i=>rfl
 |x::l,i=>by
  rw[Hb,Av];cases h:p x with
  |true=>simp
  |false=>simp[Qq p l (i+1)]
def WY{α:Type}(p:α->Bool)(l:List α):(!(l.any λx => !p x))=l.all p:=by
 induction l with
 |nil=>rfl
 |cons x l g=>simp only[Av,Am,Bool.not_or,Bool.not_not,g]
@[go_sem] def Akh{α:Type}(l:List α)(x:α):(l++[x])[l.length]? =some x:=F3
def iy{H:Fl}(l:List E5)(U:l.length<=9223372036854775807)(g:FuncId)(o t:List AV)(p:E5->Bool)
  (h:∀x∈l,Gq AA g (o.map AV.borrow++(.agg x.c::t.map AV.borrow)) H (.bool (p x))):
  Gq AA 356 [.sl none (Gn l),.fn (.func g) o t] H (.int .i64 (IS p l)):=by
 unfold Gq;refine aC AM1 rfl ?_;simp only[f356,go_sem];refine F0 l (λr=>Hb p (l.length - r.length) r) (λk=>[(0,.sl none (Gn l)),(1,.fn (.func g) o t),(7,.int .i64 l.length),(8,.int .i64 k)]) U rfl ?_ ?_
 ·intro k x R V hx i C I T;have hk2:=GI V;have j:l.length - (R.length+1)=k:=Fj;have J:l.length - R.length=k+1:=Fj;simp only[AC,j,AP]at i;simp only[go_sem,C,I,GF hx,j,J];repeat' (first|(refine aS (h x (AB hx)) ?_;simp only[go_sem,C,I,T,GF hx,j,J])|apply Pz<;>intro O<;>simp only[go_sem,O,C,I,T,GF hx,j,J])
  ·rw[IS,i,Hb,iP O]
  ·rw[Hb,iN (by rw[O];decide)]
 ·intro i P;simp only[go_sem,P,dF];rw[AP]at i;rw[IS,i];rfl
def W5{H:Fl}(l:List E5)(o:l.length<=9223372036854775807)(g:FuncId)(i j:List AV)(p:E5->Bool)
  (h:∀x∈l,Gq AA g (i.map AV.borrow++(.agg x.c::j.map AV.borrow)) H (.bool (p x))):
  Gq AA 332 [.sl none (Gn l),.fn (.func g) i j] H (.bool (l.any p)):=by
 unfold Gq;refine aC ANm rfl ?_;simp only[f332,go_sem];repeat' (first|(refine aS (iy l o g i j p h) ?_;simp only[go_sem])|apply Pz<;>intro r<;>simp only[go_sem,r])
 rw[IS,Qq]
def Ih(l:List E5)(j:l.length<=9223372036854775807)(n:Int)(g:FuncId)(p:E5->Bool)(h:∀x∈l,Fm AA g [.agg x.c] (.bool (p x))):
  Fm AA 290 [.sl none (Gn l),.int .i64 n,.fn (.func g) [] []] (.bool (((l.length:Int)==n)&&l.all p)):=by
 refine pC APG rfl ?_;simp only[f290,go_sem];have o:∀x∈l,Gq AA 333 [.agg x.c,.ptr 0 0] [some [.fn (.func g) [] []]] (.bool (!p x)):=by
  intro x hx;refine Fw.drop rfl ?_;refine aC ANi rfl ?_;simp only[f333,go_sem];repeat' (first|(refine aP (h x hx) ?_;simp only[go_sem])|apply Pz<;>intro i<;>simp only[go_sem,i])
  exact⟨_,rfl⟩
 repeat' (first|(refine aS (W5 l j 333 [] [.ptr 0 0] (λx => !p x) o) ?_;simp only[go_sem,WY])|apply Pz<;>intro i<;>simp only[go_sem,i,WY])
def ZC{H:Fl}(l:List E6)(U:l.length<=9223372036854775807)(g:FuncId)(o t:List AV)(p:E6->Bool)
  (h:∀x∈l,Gq AA g (o.map AV.borrow++(.agg x.c::t.map AV.borrow)) H (.bool (p x))):
  Gq AA 335 [.sl none (GX l),.fn (.func g) o t] H (.int .i64 (IS p l)):=by
 unfold Gq;refine aC ANa rfl ?_;simp only[f335,go_sem];refine F0 l (λr=>Hb p (l.length - r.length) r) (λk=>[(0,.sl none (GX l)),(1,.fn (.func g) o t),(7,.int .i64 l.length),(8,.int .i64 k)]) U rfl ?_ ?_
 ·intro k x R V hx i C I T;have hk2:=GI V;have j:l.length - (R.length+1)=k:=Fj;have J:l.length - R.length=k+1:=Fj;simp only[AC,j,AP]at i;simp only[go_sem,C,I,Fy hx,j,J];repeat' (first|(refine aS (h x (AB hx)) ?_;simp only[go_sem,C,I,T,Fy hx,j,J])|apply Pz<;>intro O<;>simp only[go_sem,O,C,I,T,Fy hx,j,J])
  ·rw[IS,i,Hb,iP O]
  ·rw[Hb,iN (by rw[O];decide)]
 ·intro i P;simp only[go_sem,P,dF];rw[AP]at i;rw[IS,i];rfl
def UB{H:Fl}(l:List E6)(o:l.length<=9223372036854775807)(g:FuncId)(i j:List AV)(p:E6->Bool)
  (h:∀x∈l,Gq AA g (i.map AV.borrow++(.agg x.c::j.map AV.borrow)) H (.bool (p x))):
  Gq AA 292 [.sl none (GX l),.fn (.func g) i j] H (.bool (l.any p)):=by
 unfold Gq;refine aC AO_ rfl ?_;simp only[f292,go_sem];repeat' (first|(refine aS (ZC l o g i j p h) ?_;simp only[go_sem])|apply Pz<;>intro r<;>simp only[go_sem,r])
 rw[IS,Qq]
def J7(l:List E6)(j:l.length<=9223372036854775807)(n:Int)(g:FuncId)(p:E6->Bool)(h:∀x∈l,Fm AA g [.agg x.c] (.bool (p x))):
  Fm AA 218 [.sl none (GX l),.int .i64 n,.fn (.func g) [] []] (.bool (((l.length:Int)==n)&&l.all p)):=by
 refine pC ASE rfl ?_;simp only[f218,go_sem];have o:∀x∈l,Gq AA 293 [.agg x.c,.ptr 0 0] [some [.fn (.func g) [] []]] (.bool (!p x)):=by
  intro x hx;refine Fw.drop rfl ?_;refine aC AO6 rfl ?_;simp only[f293,go_sem];repeat' (first|(refine aP (h x hx) ?_;simp only[go_sem])|apply Pz<;>intro i<;>simp only[go_sem,i])
  exact⟨_,rfl⟩
 repeat' (first|(refine aS (UB l j 293 [] [.ptr 0 0] (λx => !p x) o) ?_;simp only[go_sem,WY])|apply Pz<;>intro i<;>simp only[go_sem,i,WY])
def oT(a b:E7):Fm AA 211 [.agg a.c,.agg b.c] (.agg (a.more b).c):=by
 refine pB ASd rfl ?_;simp only[f211,go_sem];rfl
def vR(l:List E5)(r:l.length<=9223372036854775807)(h:∀x∈l,Fm AA 212 [.agg x.c] (.agg (oA x).c)):
  Fm AA 287 [.sl none (Gn l),.fn (.func 212) [] []] (.agg (Wh l ⟨1,1⟩).c):=by
 refine pB APV rfl ?_;simp only[f287,go_sem];refine F6 l (λo l=>Wh l o) (λ_ _=>True) (λk o=>[(1,.fn (.func 212) [] []),(4,.ptr 0 0),(5,.ptr 1 0),(9,.sl none (Gn l)),(10,.int .i64 l.length),(11,.int .i64 k)]) (λk o=>[some Sizes.z.c,some o.c]) ⟨1,1⟩ r trivial rfl rfl ?_ ?_
 ·intro k o y C I hx _ j g i p;simp only[go_sem,g,i,GF hx];repeat' (first|((first|apply pK (h _ (AB hx))|apply pK (oT _ _));simp only[go_sem,g,i,p,GF hx])|apply Pz<;>intro t<;>simp only[go_sem,t,g,i,p,GF hx])
  exact⟨_,aM _ _ _,rfl,rfl⟩
 ·intro o _ j;simp only[go_sem,AR,dF];rw[j,gj]
def i_(a b:List E5)(R:a.length<=9223372036854775807)(h : ∀ x∈a,∀ y,Fm AA 214 [.agg x.c,.agg y.c] (.bool (tj x y))):
  Fm AA 288 [.sl none (Gn a),.sl none (Gn b),.fn (.func 214) [] []] (.bool (((a.length:Int)==(b.length:Int))&&Vm a b)):=by
 refine pC APP rfl ?_;simp only[f288,go_sem];repeat' (first|apply Pz<;>intro g<;>simp only[go_sem,g])
 ·simp at g;simp[g]
 ·have i:a.length=b.length:=by simp at g;omega
  refine F6 a (λ(_:Unit) r=>Vm r (b.drop (a.length - r.length))) (λ_ _=>True) (λk _=>[(1,.sl none (Gn b)),(2,.fn (.func 214) [] []),(15,.sl none (Gn a)),(16,.int .i64 a.length),(17,.int .i64 k)]) (λk _=>[]) () R trivial rfl rfl ?_ ?_
  ·intro k _ x J T hx _ j t C O;have U:=GI T;obtain⟨y,p⟩:∃y,b[k]? =some y:=⟨_,AL Fj⟩;have P:a.length - (J.length+1)=k:=Fj;have V:a.length - J.length=k+1:=Fj;have o:b.drop k=y::b.drop (k+1):=by
    obtain⟨I,rfl⟩:=AD.1 p;exact BI I
   simp only[AC,P,AP,BE,o,Jq]at j;simp only[go_sem,t,C,GF hx,GF p];repeat' (first|(refine aP (h _ (AB hx) y) ?_;simp only[go_sem,t,C,O,GF hx,GF p])|apply Pz<;>intro g<;>simp only[go_sem,g,t,C,O,GF hx,GF p])
   ·simp only[Bool.not_eq_true']at g;rw[j,g,Bool.false_and,Dr]
   ·simp only[Bool.not_eq_false']at g;exact⟨(),by rw[P,V,o,Jq,g,Ba]⟩
  ·intro _ _ j;simp only[go_sem,AR,dF];rw[AP,BE,My]at j;rw[j,i];simp
def iw(l:List E6)(r:l.length<=9223372036854775807)(h:∀x∈l,Fm AA 116 [.agg x.c] (.agg (oB x).c)):
  Fm AA 210 [.sl none (GX l),.fn (.func 116) [] []] (.agg (Q6 l ⟨1,1⟩).c):=by
 refine pB ASi rfl ?_;simp only[f210,go_sem];refine F6 l (λo l=>Q6 l o) (λ_ _=>True) (λk o=>[(1,.fn (.func 116) [] []),(4,.ptr 0 0),(5,.ptr 1 0),(9,.sl none (GX l)),(10,.int .i64 l.length),(11,.int .i64 k)]) (λk o=>[some Sizes.z.c,some o.c]) ⟨1,1⟩ r trivial rfl rfl ?_ ?_
 ·intro k o y C I hx _ j g i p;simp only[go_sem,g,i,Fy hx];repeat' (first|((first|apply pK (h _ (AB hx))|apply pK (oT _ _));simp only[go_sem,g,i,p,Fy hx])|apply Pz<;>intro t<;>simp only[go_sem,t,g,i,p,Fy hx])
  exact⟨_,Nh _ _ _,rfl,rfl⟩
 ·intro o _ j;simp only[go_sem,AR,dF];rw[j,Pe]
def oU:∀x:E5,Fm AA 212 [.agg x.c] (.agg (oA x).c):=by
 refine Jk _ λx g=>?_;refine Fm.fit AEa.c λi=>?_;have j:=Lj (AC2 i);refine pB AEa rfl ?_;simp only[f212,go_sem];repeat' (first|(apply pK (vR _ j (λy o=>g y o));simp only[go_sem])|apply Pz<;>intro p<;>simp only[go_sem,p])
 rw[ACO]
def tX(a b:Int):i64 (i64 a+b)=i64 (a+b):=by
 simp only[i64,Dv,Dw,DQ];simp;split<;>split<;>split<;>omega
def vx(a b c:E7):(a.more b).more c=(a.more c).more b:=by
 unfold Sizes.more Q_;simp only[Sizes.mk.injEq];refine⟨?_, ?_⟩
 ·rw[tX,tX];congr 1;omega
 ·grind
def aO(z:E7): ∀(l:List E6) (o:E7),Q6 l (o.more z)=(Q6 l o).more z
 |[],o=>by rw[Pe,Pe]
 |x::l,o=>by rw[Nh,Nh,vx,aO z l]
def cJ:∀x:E6,Fm AA 116 [.agg x.c] (.agg (oB x).c):=by
 refine IM _ λx i=>?_;refine Fm.fit AEg.c λj=>?_;have o:=KH (AC2 j);refine pB AEg rfl ?_;simp only[f116,go_sem];repeat' (first|((first|apply pK (iw _ o (λy p=>i y p))|apply pK (oU _)|apply pK (oT _ _));simp only[go_sem])|apply Pz<;>intro g<;>simp only[go_sem,g])
 ·rw[b6,iP (by simpa using g),aO]
 ·rw[b6,iN (by simpa using g)]
def AHd(z:E7):Fm AA 213 [.agg z.c] (.int .i64 (Rz z)):=by
 refine pC ASW rfl ?_;simp only[f213,go_sem];repeat' (first|apply Pz<;>intro g<;>simp only[go_sem,g])
 all_goals first
  |rfl
  |(simp only[Rz];rfl)
  |grind[Rz]
  |(simp only[Rz];grind)
  |(simp[Rz, *];done)
  |(simp_all[Rz];done)
  |skip
def AHg{H:Fl}(z:E7)(g:FuncId)(i:List AV)(b:Bool)(h:Gq AA g (i.map AV.borrow) (H++[some z.c]) (.bool b)):
  Gq AA 117 [.agg z.c,.fn (.func g) [] i] H (.int .i64 (tf z b)):=by
 refine Fw.drop rfl ?_;refine aC AXo rfl ?_;simp only[f117,go_sem];repeat' (first|((first|apply pK (AHd _)|refine aS (h) ?_);simp only[go_sem])|apply Pz<;>intro j<;>simp only[go_sem,j])
 all_goals simp_all[tf]
def Ak2(a b:Nat):((a:Int)==(b:Int))=(a==b):=by
 rw[A9];simp;omega
def LF:∀x y:E5,Fm AA 214 [.agg x.c,.agg y.c] (.bool (tj x y)):=by
 refine Jk _ λx g=>λy=>?_;refine Fm.fit AEZ.c λi=>?_;have j:=Lj (AC2 i);refine pC AEZ rfl ?_;simp only[f214,go_sem,Fk];repeat' (first|(apply pK (i_ _ _ j (λy o z=>g y o z));simp only[go_sem,Fk])|apply Pz<;>intro p<;>simp only[go_sem,p,Fk])
 all_goals (rw[Je];simp_all[Ak2])
def KA:∀l:List E5,Xm l=l.all OR
 |[]=>by rw[Ib];rfl
 |x::l=>by rw[LQ,Am,KA l]
def N_:∀l:List E6,Xn l=l.all S'
 |[]=>by rw[Jc];rfl
 |x::l=>by rw[LR,Am,N_ l]
def Ia{α:Type}(l:List α):((l.length:Int)==0)=l.isEmpty:=by
 cases l<;>simp;omega
def HR{a b:Int}(h:a≠b):(a==b)=false:=by simp[h]
def Ac1
(g:ByteArray) (n m:Int) (args:List E5) (o:args.length<=9223372036854775807) (i:g.size<=1073741824) (j:∀y∈args,Fm AA 215 [.agg y.c] (.bool (OR y))):Fm AA 215 [.agg (Pred.c ⟨1,g,n,m,args⟩)] (.bool (OR ⟨1,g,n,m,args⟩)):=by
 refine pC NU rfl ?_;simp only[f215,go_sem,Fk,Int.reduceBEq,Ia];repeat' (first|((first|apply pK (JS _ i)|apply pK (JR _)|apply pK (Ob _)|apply pK (Ih _ o _ _ OR j));simp only[go_sem,Fk,Int.reduceBEq,Ia])|apply Pz<;>intro p<;>simp only[go_sem,p,Fk,Int.reduceBEq,Ia])
 all_goals (rw[Ic];cases args<;>(simp_all[UG,J8,OQ,Mj,KA,Ib]<;>first|omega|grind|skip))
def Ac0
(g:ByteArray) (n m:Int) (args:List E5) (o:args.length<=9223372036854775807) (i:g.size<=1073741824) (j:∀y∈args,Fm AA 215 [.agg y.c] (.bool (OR y))):Fm AA 215 [.agg (Pred.c ⟨2,g,n,m,args⟩)] (.bool (OR ⟨2,g,n,m,args⟩)):=by
 refine pC NU rfl ?_;simp only[f215,go_sem,Fk,Int.reduceBEq,Ia];repeat' (first|((first|apply pK (JS _ i)|apply pK (JR _)|apply pK (Ob _)|apply pK (Ih _ o _ _ OR j));simp only[go_sem,Fk,Int.reduceBEq,Ia])|apply Pz<;>intro p<;>simp only[go_sem,p,Fk,Int.reduceBEq,Ia])
 all_goals (rw[Ic];cases args<;>(simp_all[UG,J8,OQ,Mj,KA,Ib]<;>first|omega|grind|skip))
def Acz
(g:ByteArray) (n m:Int) (args:List E5) (o:args.length<=9223372036854775807) (i:g.size<=1073741824) (j:∀y∈args,Fm AA 215 [.agg y.c] (.bool (OR y))):Fm AA 215 [.agg (Pred.c ⟨3,g,n,m,args⟩)] (.bool (OR ⟨3,g,n,m,args⟩)):=by
 refine pC NU rfl ?_;simp only[f215,go_sem,Fk,Int.reduceBEq,Ia];repeat' (first|((first|apply pK (JS _ i)|apply pK (JR _)|apply pK (Ob _)|apply pK (Ih _ o _ _ OR j));simp only[go_sem,Fk,Int.reduceBEq,Ia])|apply Pz<;>intro p<;>simp only[go_sem,p,Fk,Int.reduceBEq,Ia])
 all_goals (rw[Ic];cases args<;>(simp_all[UG,J8,OQ,Mj,KA,Ib]<;>first|omega|grind|skip))
def Acy
(g:ByteArray) (n m:Int) (args:List E5) (o:args.length<=9223372036854775807) (i:g.size<=1073741824) (j:∀y∈args,Fm AA 215 [.agg y.c] (.bool (OR y))):Fm AA 215 [.agg (Pred.c ⟨4,g,n,m,args⟩)] (.bool (OR ⟨4,g,n,m,args⟩)):=by
 refine pC NU rfl ?_;simp only[f215,go_sem,Fk,Int.reduceBEq,Ia];repeat' (first|((first|apply pK (JS _ i)|apply pK (JR _)|apply pK (Ob _)|apply pK (Ih _ o _ _ OR j));simp only[go_sem,Fk,Int.reduceBEq,Ia])|apply Pz<;>intro p<;>simp only[go_sem,p,Fk,Int.reduceBEq,Ia])
 all_goals (rw[Ic];cases args<;>(simp_all[UG,J8,OQ,Mj,KA,Ib]<;>first|omega|grind|skip))
def Acx
(g:ByteArray) (n m:Int) (args:List E5) (o:args.length<=9223372036854775807) (i:g.size<=1073741824) (j:∀y∈args,Fm AA 215 [.agg y.c] (.bool (OR y))):Fm AA 215 [.agg (Pred.c ⟨5,g,n,m,args⟩)] (.bool (OR ⟨5,g,n,m,args⟩)):=by
 refine pC NU rfl ?_;simp only[f215,go_sem,Fk,Int.reduceBEq,Ia];repeat' (first|((first|apply pK (JS _ i)|apply pK (JR _)|apply pK (Ob _)|apply pK (Ih _ o _ _ OR j));simp only[go_sem,Fk,Int.reduceBEq,Ia])|apply Pz<;>intro p<;>simp only[go_sem,p,Fk,Int.reduceBEq,Ia])
 all_goals (rw[Ic];cases args<;>(simp_all[UG,J8,OQ,Mj,KA,Ib]<;>first|omega|grind|skip))
def Acw
(g:ByteArray) (n m:Int) (args:List E5) (o:args.length<=9223372036854775807) (i:g.size<=1073741824) (j:∀y∈args,Fm AA 215 [.agg y.c] (.bool (OR y))):Fm AA 215 [.agg (Pred.c ⟨6,g,n,m,args⟩)] (.bool (OR ⟨6,g,n,m,args⟩)):=by
 refine pC NU rfl ?_;simp only[f215,go_sem,Fk,Int.reduceBEq,Ia];repeat' (first|((first|apply pK (JS _ i)|apply pK (JR _)|apply pK (Ob _)|apply pK (Ih _ o _ _ OR j));simp only[go_sem,Fk,Int.reduceBEq,Ia])|apply Pz<;>intro p<;>simp only[go_sem,p,Fk,Int.reduceBEq,Ia])
 all_goals (rw[Ic];cases args<;>(simp_all[UG,J8,OQ,Mj,KA,Ib]<;>first|omega|grind|skip))
def Acv
(g:ByteArray) (n m:Int) (args:List E5) (o:args.length<=9223372036854775807) (i:g.size<=1073741824) (j:∀y∈args,Fm AA 215 [.agg y.c] (.bool (OR y))):Fm AA 215 [.agg (Pred.c ⟨7,g,n,m,args⟩)] (.bool (OR ⟨7,g,n,m,args⟩)):=by
 refine pC NU rfl ?_;simp only[f215,go_sem,Fk,Int.reduceBEq,Ia];repeat' (first|((first|apply pK (JS _ i)|apply pK (JR _)|apply pK (Ob _)|apply pK (Ih _ o _ _ OR j));simp only[go_sem,Fk,Int.reduceBEq,Ia])|apply Pz<;>intro p<;>simp only[go_sem,p,Fk,Int.reduceBEq,Ia])
 all_goals (rw[Ic];cases args<;>(simp_all[UG,J8,OQ,Mj,KA,Ib]<;>first|omega|grind|skip))
def Acu
(g:ByteArray) (n m:Int) (args:List E5) (o:args.length<=9223372036854775807) (i:g.size<=1073741824) (j:∀y∈args,Fm AA 215 [.agg y.c] (.bool (OR y))):Fm AA 215 [.agg (Pred.c ⟨8,g,n,m,args⟩)] (.bool (OR ⟨8,g,n,m,args⟩)):=by
 refine pC NU rfl ?_;simp only[f215,go_sem,Fk,Int.reduceBEq,Ia];repeat' (first|((first|apply pK (JS _ i)|apply pK (JR _)|apply pK (Ob _)|apply pK (Ih _ o _ _ OR j));simp only[go_sem,Fk,Int.reduceBEq,Ia])|apply Pz<;>intro p<;>simp only[go_sem,p,Fk,Int.reduceBEq,Ia])
 all_goals (rw[Ic];cases args<;>(simp_all[UG,J8,OQ,Mj,KA,Ib]<;>first|omega|grind|skip))
def Acs
(g:ByteArray) (n m:Int) (args:List E5) (o:args.length<=9223372036854775807) (i:g.size<=1073741824) (j:∀y∈args,Fm AA 215 [.agg y.c] (.bool (OR y))):Fm AA 215 [.agg (Pred.c ⟨9,g,n,m,args⟩)] (.bool (OR ⟨9,g,n,m,args⟩)):=by
 refine pC NU rfl ?_;simp only[f215,go_sem,Fk,Int.reduceBEq,Ia];repeat' (first|((first|apply pK (JS _ i)|apply pK (JR _)|apply pK (Ob _)|apply pK (Ih _ o _ _ OR j));simp only[go_sem,Fk,Int.reduceBEq,Ia])|apply Pz<;>intro p<;>simp only[go_sem,p,Fk,Int.reduceBEq,Ia])
 all_goals (rw[Ic];cases args<;>(simp_all[UG,J8,OQ,Mj,KA,Ib]<;>first|omega|grind|skip))
def Ac2(g:Int)(j:g≠1)(o:g≠2)(h3:g≠3)(h4:g≠4)(h5:g≠5)(h6:g≠6)(h7:g≠7)(h8:g≠8)(h9:g≠9)
  (i:ByteArray)(n m:Int)(args:List E5):Fm AA 215 [.agg (Pred.c ⟨g,i,n,m,args⟩)] (.bool (OR ⟨g,i,n,m,args⟩)):=by
 refine pC NU rfl ?_;simp only[f215,go_sem,Fk,Ia,HR j,HR o,HR h3,HR h4,HR h5,HR h6,HR h7,HR h8,HR h9];repeat' (first|apply Pz<;>intro p<;>simp only[go_sem,p,Fk,Ia,HR j,HR o,HR h3,HR h4,HR h5,HR h6,HR h7,HR h8,HR h9])
 all_goals (rw[Ic];simp[UG, *])
def Kl:∀x:E5,Fo x.c<=1073741824->Fm AA 215 [.agg x.c] (.bool (OR x)):=by
 refine Jk _ λx I=>λr=>?_;have p:x.args.length<=9223372036854775807:=AJ (XQ (Jt r)) dc;have j:=Rg r;have o:∀y∈x.args,Fm AA 215 [.agg y.c] (.bool (OR y)):=λy hm =>
  I y hm (by have:=XR (Jt r) hm;simpa only[AV.bulk]using this)
 obtain⟨i,g,n,m,args⟩:=x;by_cases t:i=1
 ·subst t;exact Ac1 g n m args p j o
 by_cases C:i=2
 ·subst C;exact Ac0 g n m args p j o
 by_cases h3:i=3
 ·subst h3;exact Acz g n m args p j o
 by_cases h4:i=4
 ·subst h4;exact Acy g n m args p j o
 by_cases h5:i=5
 ·subst h5;exact Acx g n m args p j o
 by_cases h6:i=6
 ·subst h6;exact Acw g n m args p j o
 by_cases h7:i=7
 ·subst h7;exact Acv g n m args p j o
 by_cases h8:i=8
 ·subst h8;exact Acu g n m args p j o
 by_cases h9:i=9
 ·subst h9;exact Acs g n m args p j o
 exact Ac2 i t C h3 h4 h5 h6 h7 h8 h9 g n m args
def Ac7
(pred:E5) (g:ByteArray) (n:Int) (args:List E6) (o:args.length<=9223372036854775807) (i:g.size<=1073741824) (p:Fo pred.c<=1073741824) (j:∀y∈args,Fm AA 119 [.agg y.c] (.bool (S' y))):Fm AA 119 [.agg (Policy.c ⟨1,pred,g,n,args⟩)] (.bool (S' ⟨1,pred,g,n,args⟩)):=by
 refine pC UW rfl ?_;simp only[f119,go_sem,Fk,Int.reduceBEq,Ia];repeat' (first|((first|apply pK (Fm.lend (LF pred Pred.z))|apply pK (JS _ i)|apply pK (JR _)|apply pK (Kl _ p)|apply pK (J7 _ o _ _ S' j));simp only[go_sem,Fk,Int.reduceBEq,Ia])|apply Pz<;>intro r<;>simp only[go_sem,r,Fk,Int.reduceBEq,Ia])
 all_goals (rw[I9];cases args<;>(simp_all[W_,OQ,N_,Jc]<;>first|omega|grind|skip))
def Ac6
(pred:E5) (g:ByteArray) (n:Int) (args:List E6) (o:args.length<=9223372036854775807) (i:g.size<=1073741824) (p:Fo pred.c<=1073741824) (j:∀y∈args,Fm AA 119 [.agg y.c] (.bool (S' y))):Fm AA 119 [.agg (Policy.c ⟨2,pred,g,n,args⟩)] (.bool (S' ⟨2,pred,g,n,args⟩)):=by
 refine pC UW rfl ?_;simp only[f119,go_sem,Fk,Int.reduceBEq,Ia];repeat' (first|((first|apply pK (Fm.lend (LF pred Pred.z))|apply pK (JS _ i)|apply pK (JR _)|apply pK (Kl _ p)|apply pK (J7 _ o _ _ S' j));simp only[go_sem,Fk,Int.reduceBEq,Ia])|apply Pz<;>intro r<;>simp only[go_sem,r,Fk,Int.reduceBEq,Ia])
 all_goals (rw[I9];cases args<;>(simp_all[W_,OQ,N_,Jc]<;>first|omega|grind|skip))
def Ac5
(pred:E5) (g:ByteArray) (n:Int) (args:List E6) (o:args.length<=9223372036854775807) (i:g.size<=1073741824) (p:Fo pred.c<=1073741824) (j:∀y∈args,Fm AA 119 [.agg y.c] (.bool (S' y))):Fm AA 119 [.agg (Policy.c ⟨3,pred,g,n,args⟩)] (.bool (S' ⟨3,pred,g,n,args⟩)):=by
 refine pC UW rfl ?_;simp only[f119,go_sem,Fk,Int.reduceBEq,Ia];repeat' (first|((first|apply pK (Fm.lend (LF pred Pred.z))|apply pK (JS _ i)|apply pK (JR _)|apply pK (Kl _ p)|apply pK (J7 _ o _ _ S' j));simp only[go_sem,Fk,Int.reduceBEq,Ia])|apply Pz<;>intro r<;>simp only[go_sem,r,Fk,Int.reduceBEq,Ia])
 all_goals (rw[I9];cases args<;>(simp_all[W_,OQ,N_,Jc]<;>first|omega|grind|skip))
def Ac4
(pred:E5) (g:ByteArray) (n:Int) (args:List E6) (o:args.length<=9223372036854775807) (i:g.size<=1073741824) (p:Fo pred.c<=1073741824) (j:∀y∈args,Fm AA 119 [.agg y.c] (.bool (S' y))):Fm AA 119 [.agg (Policy.c ⟨4,pred,g,n,args⟩)] (.bool (S' ⟨4,pred,g,n,args⟩)):=by
 refine pC UW rfl ?_;simp only[f119,go_sem,Fk,Int.reduceBEq,Ia];repeat' (first|((first|apply pK (Fm.lend (LF pred Pred.z))|apply pK (JS _ i)|apply pK (JR _)|apply pK (Kl _ p)|apply pK (J7 _ o _ _ S' j));simp only[go_sem,Fk,Int.reduceBEq,Ia])|apply Pz<;>intro r<;>simp only[go_sem,r,Fk,Int.reduceBEq,Ia])
 all_goals (rw[I9];cases args<;>(simp_all[W_,OQ,N_,Jc]<;>first|omega|grind|skip))
def Ac3
(pred:E5) (g:ByteArray) (n:Int) (args:List E6) (o:args.length<=9223372036854775807) (i:g.size<=1073741824) (p:Fo pred.c<=1073741824) (j:∀y∈args,Fm AA 119 [.agg y.c] (.bool (S' y))):Fm AA 119 [.agg (Policy.c ⟨5,pred,g,n,args⟩)] (.bool (S' ⟨5,pred,g,n,args⟩)):=by
 refine pC UW rfl ?_;simp only[f119,go_sem,Fk,Int.reduceBEq,Ia];repeat' (first|((first|apply pK (Fm.lend (LF pred Pred.z))|apply pK (JS _ i)|apply pK (JR _)|apply pK (Kl _ p)|apply pK (J7 _ o _ _ S' j));simp only[go_sem,Fk,Int.reduceBEq,Ia])|apply Pz<;>intro r<;>simp only[go_sem,r,Fk,Int.reduceBEq,Ia])
 all_goals (rw[I9];cases args<;>(simp_all[W_,OQ,N_,Jc]<;>first|omega|grind|skip))
def Ac8(g:Int)(j:g≠1)(o:g≠2)(h3:g≠3)(h4:g≠4)(h5:g≠5)
  (pred:E5)(i:ByteArray)(n:Int)(args:List E6):Fm AA 119 [.agg (Policy.c ⟨g,pred,i,n,args⟩)] (.bool (S' ⟨g,pred,i,n,args⟩)):=by
 refine pC UW rfl ?_;simp only[f119,go_sem,Fk,Ia,HR j,HR o,HR h3,HR h4,HR h5];repeat' (first|(apply pK (Fm.lend (LF pred Pred.z));simp only[go_sem,Fk,Ia,HR j,HR o,HR h3,HR h4,HR h5])|apply Pz<;>intro p<;>simp only[go_sem,p,Fk,Ia,HR j,HR o,HR h3,HR h4,HR h5])
 all_goals (rw[I9];simp[W_, *])
def W2:∀x:E6,Fo x.c<=1073741824->Fm AA 119 [.agg x.c] (.bool (S' x)):=by
 refine IM _ λx J=>λt=>?_;have p:x.args.length<=9223372036854775807:=AJ (R2 (I2 t)) dc;have j:=PH t;have r:=M8 t;have o:∀y∈x.args,Fm AA 119 [.agg y.c] (.bool (S' y)):=λy hm =>
  J y hm (by have:=R3 (I2 t) hm;simpa only[AV.bulk]using this)
 obtain⟨i,pred,g,n,args⟩:=x;by_cases C:i=1
 ·subst C;exact Ac7 pred g n args p j r o
 by_cases I:i=2
 ·subst I;exact Ac6 pred g n args p j r o
 by_cases h3:i=3
 ·subst h3;exact Ac5 pred g n args p j r o
 by_cases h4:i=4
 ·subst h4;exact Ac4 pred g n args p j r o
 by_cases h5:i=5
 ·subst h5;exact Ac3 pred g n args p j r o
 exact Ac8 i C I h3 h4 h5 pred g n args
def ALT{H:Fl}(x:E6)(i:Fo x.c<=1073741824)(o:Nat)(g:H[o]? =some (some x.c)):Gq AA 118 [.ptr o 0] H (.bool (S' x)):=by
 refine Fw.drop rfl ?_;refine aC AXk rfl ?_;simp only[f118,go_sem,g];repeat' (first|(apply pK (W2 _ i);simp only[go_sem,g])|apply Pz<;>intro j<;>simp only[go_sem,j,g])
def ZE(x:E6)(g:Fo x.c<=1073741824):Fm AA 63 [.agg x.c] (.int .i64 (WT x)):=by
 refine pC AfC rfl ?_;simp only[f63,go_sem];repeat' (first|((first|apply pK (cJ _)|refine aS (AHg (oB x) 118 [.ptr 0 0] (S' x) (ALT x g 0 rfl)) ?_);simp only[go_sem])|apply Pz<;>intro i<;>simp only[go_sem,i])
 all_goals rfl
@[go_sem] def AbQ(o:Option Nat)(x:E5):AV.sl o [AV.agg (x.cf none)]=AV.sl o (Gn [x]):=by rw[IP];rfl
@[go_sem] def AbP(o:Option Nat)(x y:E5):AV.sl o [AV.agg (x.cf none),AV.agg (y.cf none)]=AV.sl o (Gn [x,y]):=by rw[IP];rfl
@[go_sem] def AJ3(o:Option Nat)(x:E6):AV.sl o [AV.agg (x.cf none none)]=AV.sl o (GX [x]):=by rw[HI];rfl
@[go_sem] def AJ2(o:Option Nat)(x y:E6):AV.sl o [AV.agg (x.cf none none),AV.agg (y.cf none none)]=AV.sl o (GX [x,y]):=by rw[HI];rfl
@[go_sem] def ALh(o:Option Nat)(x:E8):AV.sl o [AV.agg (x.cf none none none)]=AV.sl o (GV [x]):=rfl
def be(n:Int):E5:=⟨3,Gd,n,0,[]⟩
def KT:E5:=⟨2,⟨#[]⟩,0,0,[]⟩
def uO(x y:E5):E5:=⟨8,⟨#[]⟩,0,0,[x,y]⟩
def dx(x:E5):E5:=⟨6,⟨#[]⟩,0,0,[x]⟩
def Iu(x:E5):E6:=⟨1,x,⟨#[]⟩,0,[]⟩
def ZZ(s:ByteArray)(n:Int):E6:=⟨2,Pred.z,s,n,[]⟩
def Lc(x y:E6):E6:=⟨3,Pred.z,⟨#[]⟩,0,[x,y]⟩
def Vq(x y:E6):E6:=⟨4,Pred.z,⟨#[]⟩,0,[x,y]⟩
def TO(x:E6):E6:=⟨5,Pred.z,⟨#[]⟩,0,[x]⟩
def MF{α:Type}(z:α)(g:α->α->α):List α->α
 |[]=>z
 |x::l=>l.foldl g x
def Q3(l:List E5):E5:=MF KT uO l
def QK(t:E9):E5:=Q3 (t.wires.map λw=>be w.src)
def QL(w:Wire):E6:=Vq (Iu (be w.src)) (ZZ Gd w.dst)
def NY(t:E9):E6:=MF (Iu KT) Lc (t.wires.map QL)
def Ht(t:E9)(p:E6):E6 :=
 if t.wires=[]then p else Vq (Vq p (TO (Vq (NY t) p))) (Iu (dx (QK t)))
def AdA(n:Int):Fm AA 206 [.int .i64 n] (.agg (be n).c):=by
 refine pB AS1 rfl ?_;simp only[f206,go_sem];rfl
def Acn(n:Int):Fm AA 226 [.int .i64 n] (.agg (be n).c):=by
 refine pB ARl rfl ?_;simp only[f226,go_sem];rfl
def W3(x:E5):Fm AA 114 [.agg x.c] (.agg (Iu x).c):=by
 refine pB AX1 rfl ?_;simp only[f114,go_sem];rfl
def Wu(x:E5):Fm AA 133 [.agg x.c] (.agg (Iu x).c):=by
 refine pB AWv rfl ?_;simp only[f133,go_sem];rfl
def tE(x y:E6):Fm AA 112 [.agg x.c,.agg y.c] (.agg (Vq x y).c):=by
 refine pB AX' rfl ?_;simp only[f112,go_sem];rfl
def AJu(x y:E6):Fm AA 131 [.agg x.c,.agg y.c] (.agg (Vq x y).c):=by
 refine pB AW5 rfl ?_;simp only[f131,go_sem];rfl
def AHV(x y:E6):Fm AA 228 [.agg x.c,.agg y.c] (.agg (Lc x y).c):=by
 refine pB ARd rfl ?_;simp only[f228,go_sem];rfl
def ALK(x:E6):Fm AA 130 [.agg x.c] (.agg (TO x).c):=by
 refine pB AW9 rfl ?_;simp only[f130,go_sem];rfl
def Aco(s:ByteArray)(n:Int):Fm AA 227 [.str s,.int .i64 n] (.agg (ZZ s n).c):=by
 refine pB ARh rfl ?_;simp only[f227,go_sem];rfl
def vM(x y:E5):Fm AA 286 [.agg x.c,.agg y.c] (.agg (uO x y).c):=by
 refine pB APa rfl ?_;simp only[f286,go_sem];rfl
def ADI(x y:E6):Fm AA 208 [.agg x.c,.agg y.c] (.agg (Lc x y).c):=by
 refine pB ASr rfl ?_;simp only[f208,go_sem];rfl
def oX(l:List E5)(P:l.length<=1073741824)(z:E5):Fm AA 285 [.sl none (Gn l),.agg z.c,.fn (.func 286) [] []] (.agg (MF z uO l).c):=by
 refine pB APf rfl ?_;simp only[f285,go_sem];cases l with
 |nil =>
  have g:(((0:Nat):Int)==0)=true:=rfl;simp only[go_sem,g];rfl
 | cons x r =>
  have g:(((r.length+1:Nat):Int)==0)=false:=IG;have C:(1:Int)<=((r.length+1:Nat):Int):=Fj;have I:(0:Int)<((r.length+1:Nat):Int):=Fj;have hx:(x::r)[0]? =some x:=rfl;have i:List.drop 1 (x::r)=r:=rfl;simp only[go_sem,g,C,I,GF hx,ET,i,AZ,BL];repeat' (first|apply Pz<;>intro j<;>simp only[go_sem,j,g,C,I,GF hx,i])
  refine F6 r (λo l=>l.foldl uO o) (λ_ _=>True) (λk o=>[(2,.fn (.func 286) [] []),(6,.ptr 1 0),(7,.ptr 2 0),(18,.sl none (Gn r)),(19,.int .i64 r.length),(20,.int .i64 k)]) (λk o=>[some z.c,some (Pred.z.cf (some 5)),some o.c]) x (by simp at P;omega) trivial rfl rfl ?_ ?_
  ·intro k o y R i hx _ J p t O;simp only[go_sem,p,t,GF hx];repeat' (first|(refine aP (vM _ _) ?_;simp only[go_sem,p,t,O,GF hx])|apply Pz<;>intro j<;>simp only[go_sem,j,p,t,O,GF hx])
   exact⟨_,by rw[CC],rfl,rfl⟩
  ·intro o _ J;simp only[go_sem,AR,dF];rw[MF,J];rfl
def cK(l:List E6)(P:l.length<=1073741824)(z:E6):Fm AA 207 [.sl none (GX l),.agg z.c,.fn (.func 208) [] []] (.agg (MF z Lc l).c):=by
 refine pB ASw rfl ?_;simp only[f207,go_sem];cases l with
 |nil =>
  have g:(((0:Nat):Int)==0)=true:=rfl;simp only[go_sem,g];rfl
 | cons x r =>
  have g:(((r.length+1:Nat):Int)==0)=false:=IG;have C:(1:Int)<=((r.length+1:Nat):Int):=Fj;have I:(0:Int)<((r.length+1:Nat):Int):=Fj;have hx:(x::r)[0]? =some x:=rfl;have i:List.drop 1 (x::r)=r:=rfl;simp only[go_sem,g,C,I,Fy hx,ET,i,AZ,BL];repeat' (first|apply Pz<;>intro j<;>simp only[go_sem,j,g,C,I,Fy hx,i])
  refine F6 r (λo l=>l.foldl Lc o) (λ_ _=>True) (λk o=>[(2,.fn (.func 208) [] []),(6,.ptr 1 0),(7,.ptr 2 0),(18,.sl none (GX r)),(19,.int .i64 r.length),(20,.int .i64 k)]) (λk o=>[some z.c,some (Policy.z.cf (some 5) (some 9)),some o.c]) x (by simp at P;omega) trivial rfl rfl ?_ ?_
  ·intro k o y R i hx _ J p t O;simp only[go_sem,p,t,Fy hx];repeat' (first|(refine aP (ADI _ _) ?_;simp only[go_sem,p,t,O,Fy hx])|apply Pz<;>intro j<;>simp only[go_sem,j,p,t,O,Fy hx])
   exact⟨_,by rw[CC],rfl,rfl⟩
  ·intro o _ J;simp only[go_sem,AR,dF];rw[MF,J];rfl
def ACr(l:List E5)(p:l.length<=1073741824):Fm AA 229 [.sl none (Gn l)] (.agg (Q3 l).c):=by
 refine pB ARZ rfl ?_;simp only[f229,go_sem];cases l with
 |nil =>
  have g:(((0:Nat):Int)==0)=true:=rfl;simp only[go_sem,g];rfl
 | cons x r =>
  have g:(((r.length+1:Nat):Int)==0)=false:=IG;have t:(0:Int)<((r.length+1:Nat):Int):=Fj;have hx:(x::r)[0]? =some x:=rfl;simp only[go_sem,g,t,GF hx];repeat' (first|apply Pz<;>intro I<;>simp only[go_sem,I,g,t,GF hx])
  refine F6 r (λ(o:E5×Option Nat) l=>l.foldl uO o.1) (λ_ _=>True) (λk o=>[(0,.sl none (Gn (x::r))),(2,.ptr 0 0),(3,.ptr 1 0),(4,.int .i64 ((k+1:Nat):Int))]) (λk o=>[some (Pred.z.cf (some 5)),some (o.1.cf o.2)]) (x,none) (by simp at p;omega) trivial rfl rfl ?_ ?_
  ·intro k o y P R J _ C T U V;have i:(x::r)[k+1]? =some y:=by simpa using J
   have O:(((k+1:Nat):Int)<((r.length+1:Nat):Int)):=Fj;have h3:(0:Int)<=((k+1:Nat):Int):=Fj;have j:=K_ (k:=k+1) (by simp at p;omega);simp only[go_sem,O,h3,dT,GF i,AZ,j];exact⟨(uO o.1 y,some 5),by rw[CC],rfl,rfl⟩
  ·intro o _ C;simp only[go_sem,AR,dF];rw[Q3,MF,C];rfl
def ADC(l:List Int)(P:l.length<=1073741824):Fm AA 209 [.sl none (Gi l)] (.agg (Q3 (l.map be)).c):=by
 refine pB ASn rfl ?_;simp only[f209,go_sem];refine F6 l (λo r=>o++r.map be) (λk o=>o.length=k) (λk o=>[(2,.ptr 0 0),(3,.sl (some 5) (Gn o)),(6,.sl none (Gi l)),(7,.int .i64 l.length),(8,.int .i64 k)]) (λk o=>[some (Pred.z.cf (some 5))]) [] Fj rfl rfl rfl ?_ ?_
 ·intro k o y R J i C g j p I;have O:=GI J;simp only[go_sem,j,p,Gj i];repeat' (first|(apply pK (AdA _);simp only[go_sem,j,p,I,Gj i])|apply Pz<;>intro t<;>simp only[go_sem,t,j,p,I,Gj i])
  exact⟨Fj,Fj,o++[be y],F3,by simp[C],rfl,rfl⟩
 ·intro o C g;have g:o=l.map be:=by simpa using g.symm
  simp only[go_sem,AR,dF];repeat' (first|(apply pK (Fm.lend (oX o Fj KT));simp only[go_sem])|apply Pz<;>intro t<;>simp only[go_sem,t])
  rw[g];rfl
def AHU(t:E9)(R:t.wires.length<=1073741824):Fm AA 134 [.agg t.c] (.agg (QK t).c):=by
 refine pB AWr rfl ?_;simp only[f134,go_sem];refine F6 t.wires (λo r=>o++r.map λw=>be w.src) (λk o=>o.length=k) (λk o=>[(1,.ptr 0 0),(2,.ptr 1 0),(3,.sl (some 5) (Gn o)),(4,.int .i64 k)]) (λk o=>[some t.c,some (Pred.z.cf (some 5))]) [] Fj rfl rfl rfl ?_ ?_
 ·intro k o y T O i J g j p C;have P:=GI O;simp only[go_sem,j,p,C,HX i];repeat' (first|(apply pK (Acn _);simp only[go_sem,j,p,C,HX i])|apply Pz<;>intro I<;>simp only[go_sem,I,j,p,C,HX i])
  exact⟨Fj,Fj,o++[be y.src],F3,by simp[J],rfl,rfl⟩
 ·intro o J g;have g:o=t.wires.map λw=>be w.src:=by simpa using g.symm
  simp only[go_sem,AR,dF];repeat' (first|(apply pK (Fm.lend (ACr o Fj));simp only[go_sem])|apply Pz<;>intro I<;>simp only[go_sem,I])
  rw[g];rfl
def AHj(t:E9)(R:t.wires.length<=1073741824):Fm AA 115 [.agg t.c] (.agg (QK t).c):=by
 refine pB AXw rfl ?_;simp only[f115,go_sem];refine F6 t.wires (λo r=>o++r.map (·.src)) (λk o=>o.length=k) (λk o=>[(2,.ptr 1 0),(3,.sl (some 1) (Gi o)),(7,.sl none (NC t.wires)),(8,.int .i64 t.wires.length),(9,.int .i64 k)]) (λk o=>[some t.c,some (Pred.z.cf (some 5))]) [] Fj rfl rfl rfl ?_ ?_
 ·intro k o y T O j p g C I J;have P:=GI O;simp only[go_sem,C,I,J,HX j];repeat' (first|apply Pz<;>intro i<;>simp only[go_sem,i,C,I,J,HX j])
  exact⟨Fj,Fj,o++[y.src],F3,by simp[p],rfl,rfl⟩
 ·intro o p g;have g:o=t.wires.map (·.src):=by simpa using g.symm
  simp only[go_sem,AR,dF];repeat' (first|(apply pK (Fm.lend (ADC o Fj));simp only[go_sem])|apply Pz<;>intro i<;>simp only[go_sem,i])
  rw[g,Bs];rfl
def pv{α:Type}{z:α}{g:α->α->α}(x:α): ∀{l:List α},l≠[]->MF z g (l++[x])=g (MF z g l) x
 |[],h=>absurd rfl h
 |y::l,_=>by simp[MF]
def AHT(t:E9)(T:t.wires.length<=1073741824):Fm AA 132 [.agg t.c] (.agg (NY t).c):=by
 refine pB AW0 rfl ?_;simp only[f132,go_sem];repeat' (first|(apply pK (Fm.lend (Wu KT));simp only[go_sem])|apply Pz<;>intro g<;>simp only[go_sem,g])
 refine F6 t.wires (λ(_:E6) (_:List Wire)=>()) (λk o=>o=MF (Iu KT) Lc ((t.wires.take k).map QL)) (λk o=>[(1,.ptr 0 0),(2,.ptr 1 0),(3,.ptr 2 0),(4,.int .i64 k)]) (λk o=>[some t.c,some (Policy.z.cf (some 5) (some 9)),some o.c]) (Iu KT) Fj rfl rfl rfl ?_ ?_
 ·intro k o y U P j r R C I p;have i:=GI P;have J:t.wires.take (k+1)=t.wires.take k++[y]:=by rw[BF,j];rfl
  simp only[go_sem,C,I,p,HX j];repeat' (first|((first|apply pK (Acn _)|apply pK (Wu _)|apply pK (Aco _ _)|apply pK (AJu _ _));simp only[go_sem,C,I,p,HX j])|apply Pz<;>intro g<;>simp only[go_sem,g,C,I,p,HX j])
  ·have O:k=0:=by simp at g;omega
   subst O;refine⟨QL y, ?_,rfl,rfl⟩;rw[J];rfl
  ·have O:k≠0:=by simp at g;omega
   refine Ye.intro (AHV _ _) ?_;simp only[go_sem,p];refine⟨Lc o (QL y), ?_,rfl,rfl⟩;rw[J,List.map_append,r];exact(pv _ (by simp;constructor;omega;intro h;rw[h]at i;simp at i)).symm
 ·intro o r R;simp only[go_sem,AR,dF];rw[NY,r,BL]
def AHi(t:E9)(R:t.wires.length<=1073741824):Fm AA 113 [.agg t.c] (.agg (NY t).c):=by
 refine pB AX6 rfl ?_;simp only[f113,go_sem];refine F6 t.wires (λo r=>o++r.map QL) (λk o=>o.length=k) (λk o=>[(2,.ptr 1 0),(3,.sl (some 9) (GX o)),(7,.sl none (NC t.wires)),(8,.int .i64 t.wires.length),(9,.int .i64 k)]) (λk o=>[some t.c,some (Policy.z.cf (some 5) (some 9))]) [] Fj rfl rfl rfl ?_ ?_
 ·intro k o y T O i J g j p C;have P:=GI O;simp only[go_sem,j,p,C,HX i];repeat' (first|((first|apply pK (AdA _)|apply pK (W3 _)|apply pK (Fm.lend (tE (Iu (be y.src)) (ZZ Gd y.dst))));simp only[go_sem,j,p,C,HX i])|apply Pz<;>intro I<;>simp only[go_sem,I,j,p,C,HX i])
  exact⟨Fj,Fj,o++[QL y],F3,by simp[J],rfl,rfl⟩
 ·intro o J g;have g:o=t.wires.map QL:=by simpa using g.symm
  simp only[go_sem,AR,dF];repeat' (first|((first|apply pK (Fm.lend (W3 KT))|apply pK (Fm.lend (cK o Fj (Iu KT))));simp only[go_sem])|apply Pz<;>intro I<;>simp only[go_sem,I])
  rw[g];rfl
def Su{α:Type}{l:List α}:((l.length:Int)==0)=true↔l=[]:=by
 cases l<;>simp;omega
def ACt(t:E9)(i:t.wires.length<=1073741824)(p:E6):Fm AA 70 [.agg t.c,.agg p.c] (.agg (Ht t p).c):=by
 refine pB Ael rfl ?_;simp only[f70,go_sem];repeat' (first|((first|apply pK (AHT t i)|apply pK (AHU t i)|apply pK (AJu _ _)|apply pK (ALK _)|apply pK (Fm.lend (Wu (dx (QK t)))));simp only[go_sem])|apply Pz<;>intro g<;>simp only[go_sem,g])
 ·rw[Ht,iP (Su.1 g)]
 ·rw[Ht,iN (λh=>by rw[Su.2 h]at g;cases g)]
def ADR(t:E9)(i:t.wires.length<=1073741824)(p:E6):Fm AA 62 [.agg t.c,.agg p.c] (.agg (Ht t p).c):=by
 refine pB AfG rfl ?_;simp only[f62,go_sem];repeat' (first|((first|apply pK (AHi t i)|apply pK (AHj t i)|apply pK (Fm.lend (tE (Vq p (TO (Vq (NY t) p))) (Iu (dx (QK t)))))|apply pK (Fm.lend (tE p (TO (Vq (NY t) p))))|apply pK (tE (NY t) p)|apply pK (Fm.lend (W3 (dx (QK t)))));simp only[go_sem])|apply Pz<;>intro g<;>simp only[go_sem,g])
 ·rw[Ht,iP (Su.1 g)]
 ·rw[Ht,iN (λh=>by rw[Su.2 h]at g;cases g)]
def ID(t:E9):List E8->List E8->List E8×Int
 |o,[]=>(o,0)
 |o,x::r=>if WT (Ht t x.policy)=2 then([],2)else ID t (o++[{ x with policy:=Ht t x.policy }]) r
def Gc(t:E9):List E8×Int:=ID t [] t.program
def AHk(t:E9)(O:t.wires.length<=1073741824)(V:t.program.length<=1073741824)(P:∀x∈t.program,Fo (Ht t x.policy).c<=1073741824):
  Fm AA 32 [.agg t.c] (.tup [.sl none (GV (Gc t).1),.int .i64 (Gc t).2]):=by
 refine pB Agb rfl ?_;simp only[f32,go_sem];refine F6 t.program (λo r=>ID t o r) (λk o=>o.length=k) (λk o=>[(1,.ptr 0 0),(4,.sl (some 15) (GV o)),(8,.sl none (GV t.program)),(9,.int .i64 t.program.length),(10,.int .i64 k)]) (λk o=>[some t.c]) [] Fj rfl rfl rfl ?_ ?_
 ·intro k o y ys R g J i j p C;have T:=GI R;simp only[go_sem,j,p,C,F9 g];repeat' (first|((first|apply pK (ADR t O _)|apply pK (ZE _ (P y (AB g))));simp only[go_sem,j,p,C,F9 g])|apply Pz<;>intro I<;>simp only[go_sem,I,j,p,C,F9 g])
  ·have U:ID t [] t.program=([],2):=by rw[i,ID,iP (by simpa using I)]
   rw[Gc,U];rfl
  ·refine⟨Fj,Fj,o++[{ y with policy:=Ht t y.policy }], ?_,by simp[J],rfl,rfl⟩;rw[ID,iN (by simpa using I)]
 ·intro o J i;simp only[go_sem,AR,dF];rw[Gc,i];rfl
def Aj5(x y:E5):Fo (Gn [x,y])=Fo x.c+Fo y.c:=by rw[IP];simp[Fo,AV.bulk]
def Aj6(x:E5):Fo (Gn [x])=Fo x.c:=by rw[IP];simp[Fo,AV.bulk]
def AFm:Fo (Gn [])=0:=by rw[IP];rfl
def AKP(x y:E6):Fo (GX [x,y])=Fo x.c+Fo y.c:=by rw[HI];simp[Fo,AV.bulk]
def Aj8(x:E6):Fo (GX [x])=Fo x.c:=by rw[HI];simp[Fo,AV.bulk]
def AKQ:Fo (GX [])=0:=by rw[HI];rfl
def AKR(n:Int):Fo (be n).c=9:=by rw[Lb];simp only[be,AFm];rfl
def lw:Fo KT.c=5:=by rw[Lb];simp only[KT,AFm];rfl
def Aj7(x y:E5):Fo (uO x y).c=5+Fo x.c+Fo y.c:=by rw[Lb];simp only[uO,Aj5];show 0+5+_=_;omega
def AaU(x:E5):Fo (dx x).c=5+Fo x.c:=by rw[Lb];simp only[dx,Aj6];show 0+5+_=_;omega
def uN:Fo Pred.z.c=5:=by rw[Lb];show _+5+Fo (Gn [])=5;rw[AFm];rfl
def Uk(x:E5):Fo (Iu x).c=Fo x.c+4:=by rw[Jg];simp only[Iu,AKQ];show _+0+4+0=_;omega
def AaT(n:Int):Fo (ZZ Gd n).c=13:=by rw[Jg];simp only[ZZ,AKQ,uN];rfl
def AFl(x y:E6):Fo (Lc x y).c=9+Fo x.c+Fo y.c:=by rw[Jg];simp only[Lc,AKP,uN];show 5+0+4+_=_;omega
def dw(x y:E6):Fo (Vq x y).c=9+Fo x.c+Fo y.c:=by rw[Jg];simp only[Vq,AKP,uN];show 5+0+4+_=_;omega
def AI6(x:E6):Fo (TO x).c=9+Fo x.c:=by rw[Jg];simp only[TO,Aj8,uN];show 5+0+4+_=_;omega
def AFn:∀(l:List E5) (x:E5) (B:Nat),(∀y∈l,Fo y.c<=B)->Fo (l.foldl uO x).c<=Fo x.c+l.length*(B+5)
 |[],x,B,_=>F3
 |y::l,x,B,h=>by
  rw[CC];have g:=AFn l (uO x y) B λz i=>h z (by simp[i]);have j:=h y F3;rw[Aj7]at g;rw[AC,De];omega
def bc:∀(l:List E6) (x:E6) (B:Nat),(∀y∈l,Fo y.c<=B)->Fo (l.foldl Lc x).c<=Fo x.c+l.length*(B+9)
 |[],x,B,_=>F3
 |y::l,x,B,h=>by
  rw[CC];have g:=bc l (Lc x y) B λz i=>h z (by simp[i]);have j:=h y F3;rw[AFl]at g;rw[AC,De];omega
def AA5(l:List E5)(h:∀y∈l,Fo y.c<=9):Fo (Q3 l).c<=9+l.length*14:=by
 unfold Q3;cases l with
 |nil=>rw[MF,lw];omega
 |cons x l =>
  have i:=AFn l x 9 λy g=>h y (by simp[g]);have j:=h x F3;rw[MF,AC];omega
def AFk(t:E9):Fo (QK t).c<=9+t.wires.length*14:=by
 have:=AA5 (t.wires.map λw=>be w.src) (λy g=>by obtain⟨w,_,rfl⟩:=AN.1 g;rw[AKR];omega)
 rwa [Ap]at this
def AFj(t:E9):Fo (NY t).c<=35+t.wires.length*44:=by
 unfold NY;have g:∀y∈t.wires.map QL,Fo y.c<=35:=λy i=>by
  obtain⟨w,_,rfl⟩:=AN.1 i;rw[QL,dw,Uk,AKR,AaT];omega
 have j:(t.wires.map QL).length=t.wires.length:=Ap _;rw[<- j];generalize t.wires.map QL=l at g;cases l with
 |nil=>rw[MF,Uk,lw];omega
 |cons x l =>
  have o:=bc l x 35 λy i=>g y (by simp[i]);have p:=g x F3;rw[MF,AC];omega
def Ul{t:E9}{p:E6}(g:Fo p.c<=1048576)(i:t.wires.length<=1048576):Fo (Ht t p).c<=1073741824:=by
 unfold Ht;split
 ·omega
 ·have j:=AFk t;have o:=AFj t;rw[dw,dw,AI6,dw,Uk,AaU];omega
def AE5:∀x:E5,tj x x=true:=by
 refine Jk _ λx i=>?_;rw[Je];have:∀l:List E5,(∀y∈l,tj y y=true)->Vm l l=true:=by
  intro l;induction l with
  |nil=>intro _;rw[My]
  |cons y l g=>intro h;rw[Jq,h y F3,g λz j=>h z (by simp[j])];rfl
 rw[this x.args i];simp
def s7(t:E9)(O:t.wires.length<=1073741824)(V:t.program.length<=1073741824)(P:∀x∈t.program,Fo (Ht t x.policy).c<=1073741824):
  Fm AA 39 [.agg t.c] (.tup [.sl none (GV (Gc t).1),.int .i64 (Gc t).2]):=by
 refine pB Af9 rfl ?_;simp only[f39,go_sem];refine F6 t.program (λo r=>ID t o r) (λk o=>o.length=k) (λk o=>[(1,.ptr 0 0),(4,.sl (some 15) (GV o)),(5,.int .i64 k)]) (λk o=>[some t.c]) [] Fj rfl rfl rfl ?_ ?_
 ·intro k o y ys R g J i j p C;have T:=GI R;simp only[go_sem,j,p,C,F9 g];repeat' (first|((first|apply pK (ACt t O _)|apply pK (AFU _ (P y (AB g))));simp only[go_sem,j,p,C,F9 g])|apply Pz<;>intro I<;>simp only[go_sem,I,j,p,C,F9 g])
  ·have U:ID t [] t.program=([],2):=by rw[i,ID,iP (by simpa using I)]
   rw[Gc,U];rfl
  ·refine⟨Fj,Fj,o++[{ y with policy:=Ht t y.policy }], ?_,by simp[J],rfl,rfl⟩;rw[ID,iN (by simpa using I)]
 ·intro o J i;simp only[go_sem,AR,dF];rw[Gc,i];rfl
section
variable{P:Program}{K:Kt}{e:GO}{H:Fl}{d:Tmp}{t kt et:TypeId}{o:Nat}{α:Type}
def ADr(f:α->AV)(l:List α)(k:AV)(g:P.underlying t=some (.map kt et))(i:F8 P et=some (.bool false))(hm:H[o]? =some (some (Kn (MN f l))))(j:NS P kt (k::l.map f))(p:TF f l)
  (h:K ((d,.bool (l.any λx=>If (f x) k))::e) H):ALd P t false (.mapr o) k d K e H:=by
 unfold ALd;rw[g];dsimp only;rw[jc hm];dsimp only;refine⟨by rw[iG];exact j,Xv f p,_,i, ?_⟩;rw[ALe];exact h
end
@[go_sem] def Aj3(o n:Nat):(AV.mapr o).bnd n=decide (o<n):=rfl
end Go.AI
namespace Go.AI
open Go.Proofs
set_option maxRecDepth 50000
def oe{H:Fl}(l:List Fld)(U:l.length<=9223372036854775807)(g:FuncId)(o t:List AV)(p:Fld->Bool)
  (h:∀x∈l,Gq AA g (o.map AV.borrow++(.agg x.c::t.map AV.borrow)) H (.bool (p x))):
  Gq AA 195 [.sl none (Gf l),.fn (.func g) o t] H (.int .i64 (IS p l)):=by
 unfold Gq;refine aC AS9 rfl ?_;simp only[f195,go_sem];refine F0 l (λr=>Hb p (l.length - r.length) r) (λk=>[(0,.sl none (Gf l)),(1,.fn (.func g) o t),(7,.int .i64 l.length),(8,.int .i64 k)]) U rfl ?_ ?_
 ·intro k x R V hx i C I T;have hk2:=GI V;have j:l.length - (R.length+1)=k:=Fj;have J:l.length - R.length=k+1:=Fj;simp only[AC,j,AP]at i;simp only[go_sem,C,I,HJ hx,j,J];repeat' (first|(refine aS (h x (AB hx)) ?_;simp only[go_sem,C,I,T,HJ hx,j,J])|apply Pz<;>intro O<;>simp only[go_sem,O,C,I,T,HJ hx,j,J])
  ·rw[IS,i,Hb,iP O]
  ·rw[Hb,iN (by rw[O];decide)]
 ·intro i P;simp only[go_sem,P,dF];rw[AP]at i;rw[IS,i];rfl
@[go_sem] def AcC(o:Nat):(AV.it o).borrow = .it o:=rfl
@[go_sem] def Acp(H:Fl)(x y:Option (List AV)):(H++[x]).set H.length y=H++[y]:=F3
def Iv(i:Nat->Fl->Prop)(n:Nat)(g:Fl)(k:Nat)(H:Fl):Prop:=∃pre j,H=pre++(g++j)/\pre.length=n/\i k pre
def Iv.grow{i:Nat->Fl->Prop}{n k:Nat}{g H:Fl}(h:Iv i n g k H)(x:Fl):Iv i n g k (H++x):=by
 obtain⟨pre,j,rfl,o,p⟩:=h;exact⟨pre,j++x,F3,o,p⟩
def Iv.at{j:Nat->Fl->Prop}{n k i:Nat}{g H:Fl}(h:Iv j n g k H){c:Option (List AV)}(p:g[i]? =some c):H[n+i]? =some c:=by
 obtain⟨pre,t,rfl,r,C⟩:=h;have o:=(AD.1 p).1;rw[AO Fj,r,Nat.add_sub_cancel_left,Aa o,p]
def AC9:Fm AA 100 [] (.agg KE.c):=by
 have h:Fm AA 100 [] (.agg KE.c):=Fm.run AE3 100 rfl kr kr;exact h
def AHo{H:Fl}(f:Fld)(s:ByteArray)(o:Nat)(i:H[o]? =some (some [.str s])):Gq AA 239 [.agg f.c,.ptr o 0] H (.bool (decide (f.name=s))):=by
 refine Fw.drop rfl ?_;refine aC AQ1 rfl ?_;have g:∀z,(H++z)[o]? =some (some [.str s]):=λz=>by
  have:=(AD.1 i).1;rw[Aa this];exact i
 simp only[f239,go_sem,g,Fk]
def kJ{α:Type}(p:α->Bool): ∀ (l:List α) (i:Nat),match l.find? p with
  |some x => ∃k,Hb p i l=(i+k:Nat)/\l[k]? =some x
  |none=>Hb p i l = -1
 |[],i=>rfl
 | y::l,i=>by
  rw[BN,Hb];cases h:p y with
  |true=>exact⟨0,F3,rfl⟩
  | false =>
   have:=kJ p l (i+1);cases g:l.find? p with
   |none=>rw[g]at this;simpa using this
   |some x =>
    rw[g]at this;obtain⟨k,j,o⟩:=this;exact⟨k+1,by simp only[Bool.false_eq_true,if_false];rw[j];congr 1;omega,by simpa using o⟩
def Ru(l:List Fld)(I:l.length<=9223372036854775807)(s:ByteArray):Fm AA 153 [.sl none (Gf l),.str s] (.tup [.agg (Ft l s).1.c,.bool (Ft l s).2]):=by
 have o:=kJ (λf:Fld=>decide (f.name=s)) l 0;have g:(KE.name:ByteArray)=Gd:=rfl;have i:=oe (H:=[some [.str s],some Fld.z.c]) l I 239 [] [.ptr 0 0] (λf=>decide (f.name=s)) (λx _=>AHo x s 0 rfl);refine pB AVh rfl ?_;cases p:l.find? (λf:Fld=>decide (f.name=s))with
 | none =>
  rw[p]at o;have o:IS (λf:Fld=>decide (f.name=s)) l = -1:=o;rw[o]at i;simp only[f153,go_sem,Fk];repeat' (first|((first|apply pK AC9|refine aS (i) ?_);simp only[go_sem,Fk])|apply Pz<;>intro j<;>simp only[go_sem,j,Fk])
  ·have h5:s=Gd:=by rw[<- g];exact of_decide_eq_true j
   rw[Ft,iP h5]
  ·have h5:¬s=Gd:=by rw[<- g];exact of_decide_eq_false j
   rw[Ft,iN h5,p]
 | some x =>
  rw[p]at o;obtain⟨k,r,hx⟩:=o;have r:IS (λf:Fld=>decide (f.name=s)) l=((0+k:Nat):Int):=r;rw[r,Nat.zero_add]at i;have t:¬((k:Int)<0):=Fj;have C:(0:Int)<=(k:Int):=Fj;simp only[f153,go_sem,Fk];repeat' (first|((first|apply pK AC9|refine aS (i) ?_);simp only[go_sem,Fk,t,C,HJ hx,dF])|apply Pz<;>intro j<;>simp only[go_sem,j,Fk,t,C,HJ hx,dF])
  ·have h5:s=Gd:=by rw[<- g];exact of_decide_eq_true j
   rw[Ft,iP h5]
  ·have h5:¬s=Gd:=by rw[<- g];exact of_decide_eq_false j
   rw[Ft,iN h5,p]
@[go_sem] def AcH{P:Program}{t:TypeId}{k g:IntKind}{x y:Int}{d:Tmp}{K:Kt}{e:GO}{H:Fl}:JA P .shl t (.int k x) (.int g y) d K e H=(0<=y/\K ((d,.int k (k.wrap (x*2^(min y.toNat k.bits))))::e) H):=by
 rw[Hw];simp[K5]
def vy:∀n:Nat,n<17->IntKind.i64.wrap (IntKind.i64.wrap (1*2^(min n IntKind.i64.bits)) - 1)=i64 (Q7 n - 1):=by
 decide
def tI(f:Fld)(g:0<=f.width)(i:f.width<=16):Fm AA 240 [.agg f.c] (.int .i64 (JY f)):=by
 have hm:=vy f.width.toNat Fj;refine pC AQx rfl ?_;simp only[f240,go_sem,g];rw[JY,<- hm];rfl
@[go_sem] def AkN{α:Type}(G:List α)(a b:α):(G++[a,b])[(G++[a]).length]? =some b:=by
 rw[AE,AO F3];simp
@[go_sem] def AkP{α:Type}(G:List α)(a b:α):(G++[a,b])[G.length]? =some a:=by
 rw[AO (AS _)];simp
@[go_sem] def AkO{α:Type}(G:List α)(a b z:α):(G++[a,b]).set (G++[a]).length z=G++[a,z]:=by
 rw[AE,List.set_append_right _ _ F3];simp
@[go_sem] def Akp:F8 AA 138=some .nilm/\AA.underlying 138=some (.map 3 4):=⟨kr,kr⟩
abbrev Kf(n:Int):AV:=.int .i64 n
def bi{k:AV}: ∀{es:List (AV×AV)} {i j:Nat} {v:AV},Jx k es i=some (j,v)->i<=j /\ ∃p,es[j - i]? =some p/\If p.1 k=true/\p.2=v
 |[],_,_,_,h=>by cases h
 | p::es,i,j,v,h=>by
  rw[Jx]at h;by_cases g:If p.1 k=true
  ·rw[iP g]at h;cases h;exact⟨AS _,p,F3,g,rfl⟩
  ·rw[iN g]at h;obtain⟨r,q,o,h3,h4⟩:=bi h;refine⟨Fj,q, ?_,h3,h4⟩;have:j - i=(j - (i+1))+1:=Fj;rw[this];simpa using o
def tQ(z n:Int):If (Kf z) (Kf n)=(z==n):=by
 rw[A9];simp[If,Om]
def uQ(l:List Int)(n:Int):(l.any λy=>If (Kf y) (Kf n))=l.any λz=>z==n:=by
 simp only[tQ]
def ACE(l:List Int)(n:Int):NO (MN Kf l) (Kf n) (.bool true)=MN Kf (if l.any (λz=>z==n) then l else l++[n]):=by
 by_cases h:(l.any λz=>z==n)=true
 ·rw [iP h]
  have o:=Q4 Kf (Kf n) l 0;rw[uQ,iP h]at o;unfold NO;cases t:Jx (Kf n) (MN Kf l) 0 with
  |none=>rw[t]at o;cases o
  | some q =>
   obtain⟨j,v⟩:=q;obtain⟨_,p,i,C,O⟩:=bi t;dsimp only;rw[Nat.sub_zero]at i;have g:=i;rw[MN,Ac]at g;cases I:l[j]? with
   |none=>rw[I]at g;cases g
   | some z =>
    rw[I]at g;cases g;rw[tQ]at C;have J:z=n:=by simpa using C
    subst J;apply A6;intro m;rw[Az];split
    ·rename_i r;subst r;rw[i];have:=(AD.1 i).1;rw[iP this]
    ·rfl
 ·rw[iN h];exact AHI Kf n l (by rw[uQ];exact(Do _).mp h)
def ur{P:Program}{K:Kt}{e:GO}{H:Fl}{t kt et:TypeId}{o:Nat}(l:List Int)(n:Int)(g:P.underlying t=some (.map kt et))(hm:H[o]? =some (some (Kn (MN Kf l))))(i:NS P kt (Kf n::l.map Kf))(j:TF Kf l)
  (h:K e (H.set o (some (Kn (MN Kf (if l.any (λz=>z==n)then l else l++[n])))))):AK5 P t (.mapr o) (Kf n) (.bool true) K e H:=by
 unfold AK5;dsimp only;rw[g];dsimp only;rw[jc hm];dsimp only;refine⟨by rw[iG];exact i,Xv Kf j,rfl, ?_⟩;rw[ACE];exact h
def AE'{l:List Int}(n:Int)(g:TF Kf l):TF Kf (if l.any (λz=>z==n)then l else l++[n]):=by
 split
 ·exact g
 ·rename_i h;exact Xw Kf n g (by rw[uQ];exact(Do _).mp h)
structure VE where
 v:Variable
 b:Bool
def Y9(l:List Fld)(s:Stp):Variable:=⟨s.var,MS s.kind,Jl l s.key,if Mo s then s.n else 0,if Mo s then s.m else 0⟩
def PA(E:List VE)(g:ByteArray):Option VE:=E.find? λe=>decide (e.v.name=g)
def ui:List VE->VE->List VE
 |[],x=>[x]
 |e::E,x=>if e.v.name=x.v.name then x::E else e::ui E x
def nz(l:List Fld)(e:VE)(s:Stp):Bool:=e.v.family !=MS s.kind||(!ZX e.v.widths (Jl l s.key)||(Mo s&&(e.b&&(e.v.n !=s.n||e.v.m !=s.m))))
def U5(l:List Fld)(E:List VE)(s:Stp):Option (List VE) :=
 if s.kind=0 then some E else match PA E s.var with
  |none=>some (ui E ⟨Y9 l s,Mo s⟩)
  |some e=>if nz l e s then none else if Mo s then some (ui E ⟨Y9 l s,true⟩)else some E
def vGo(l:List Fld):List VE->List E8->Option (List VE)
 |E,[]=>some E
 |E,x::r=>match U5 l E x.step with
  |none=>none
  |some g=>vGo l g r
def LA(x:VE)(g:ByteArray): ∀ E:List VE,PA (ui E x) g=if x.v.name=g then some x else PA E g
 |[]=>by
  unfold ui PA;by_cases h:x.v.name=g<;>simp[h]
 | e::E=>by
  have j:=LA x g E;unfold ui;by_cases h:e.v.name=x.v.name
  ·rw[iP h];unfold PA;by_cases i:x.v.name=g
   ·simp[i]
   ·simp[i,h]
  ·rw[iN h];unfold PA at j ⊢;rw[BN,BN];by_cases i:e.v.name=g
   ·have:¬x.v.name=g:=λh3=>h (i.trans h3.symm);simp[i,this]
   ·simp only[i,dF];exact j
structure VInv (l:List Fld) (E:List VE) (p:List E8):Prop where
 src:∀nm e,PA E nm=some e -> ∃x∈p,x.step.kind≠0/\x.step.var=nm
 fits:∀x∈p,x.step.kind≠0 -> ∃e,PA E x.step.var=some e/\e.v.family=MS x.step.kind/\e.v.widths=Jl l x.step.key/\(Mo x.step=true->e.b=true/\e.v.n=x.step.n/\e.v.m=x.step.m)
 num:∀nm e,PA E nm=some e->e.b=true -> ∃x∈p,x.step.kind≠0/\x.step.var=nm/\Mo x.step=true
def VInv.nil(l:List Fld):VInv l [] []:=⟨λ_ _ h=>(by cases h),λ_ h=>(by cases h),λ_ _ h=>(by cases h)⟩
def ACD{l:List Fld}{E:List VE}{p:List E8}(h:VInv l E p){s:Stp}(hk:s.kind≠0):
  p.any (λy=>MH l y.step s)=match PA E s.var with|none=>false|some e=>nz l e s:=by
 cases I:PA E s.var with
 |none =>
  dsimp only;rw[Bp];intro y o r;unfold MH at r;simp only[AQ,bne_iff_ne,ne_eq,decide_eq_true_eq]at r;obtain⟨e,i,_⟩:=h.fits y o r.1.1;rw[r.2.1,I]at i;cases i
 | some e =>
  dsimp only;rw[A9,CR];constructor
  ·rintro ⟨y,o,r⟩;unfold MH Vr at r;simp only[AQ,bne_iff_ne,ne_eq,decide_eq_true_eq]at r;obtain⟨⟨t,J⟩,hv,j⟩:=r;obtain⟨e',i,O,P,h3⟩:=h.fits y o t;rw[hv,I]at i;cases i;have T:(Mo y.step=true/\Mo s=true/\(y.step.n≠s.n\/y.step.m≠s.m))\/ZX (Jl l y.step.key) (Jl l s.key)=false\/MS y.step.kind≠MS s.kind:=by
    generalize ZX (Jl l y.step.key) (Jl l s.key)=B at j ⊢;generalize MS y.step.kind=f1 at j ⊢;generalize MS s.kind=f2 at j ⊢;generalize Mo y.step=c1 at j ⊢;generalize Mo s=c2 at j ⊢;cases B<;>cases c1<;>cases c2<;>simp at j ⊢;all_goals first|exact j|(rcases j with j|j<;>grind)|grind
   unfold nz;rw[O,P];rcases T with⟨a1,a2,R⟩|a|a
   ·obtain⟨g1,U,V⟩:=h3 a1;rw[g1,U,V,a2];rcases R with R|R<;>simp[R]
   ·simp[a]
   ·simp[a]
  ·intro g;unfold nz at g;by_cases hn:Mo s=true/\e.b=true/\(e.v.n !=s.n||e.v.m !=s.m)=true
   ·obtain⟨n1,n2,n3⟩:=hn;obtain⟨y,o,t,J,k3⟩:=h.num _ e I n2;obtain⟨e',i,O,P,h3⟩:=h.fits y o t;rw[J,I]at i;cases i;obtain⟨g1,U,V⟩:=h3 k3;refine⟨y,o, ?_⟩;unfold MH Vr;rw[n1,k3,<- U,<- V,n3];simp[t,hk,J]
   ·obtain⟨y,o,t,J⟩:=h.src _ e I;obtain⟨e',i,O,P,h3⟩:=h.fits y o t;rw[J,I]at i;cases i;refine⟨y,o, ?_⟩;unfold MH Vr;rw[<- O,<- P];have C:(e.v.family !=MS s.kind || !ZX e.v.widths (Jl l s.key))=true:=by
     rw[CI]at g ⊢;rcases g with g|g
     ·exact .inl g
     ·rw[CI]at g;rcases g with g|g
      ·exact .inr g
      ·exfalso;apply hn;simp only[AQ]at g;exact⟨g.1,g.2.1,g.2.2⟩
    have hb3:(ZX e.v.widths (Jl l s.key)&&e.v.family==MS s.kind)=false:=by
     generalize ZX e.v.widths (Jl l s.key)=B at C ⊢;cases B
     ·rfl
     ·simp only[Ax,Bool.or_false]at C;simpa using C
    rw[hb3];simp[t,hk,J]
def VInv.step{l:List Fld}{E:List VE}{p:List E8}(h:VInv l E p){x:E8}{E':List VE}(J:U5 l E x.step=some E'):VInv l E' (p++[x]):=by
 unfold U5 at J;split at J
 ·rename_i P;cases J;exact⟨λC e i=>by obtain⟨y,g,o⟩:=h.src C e i;exact⟨y,by simp[g],o⟩,
   λy g t=>by
    rcases Ar.1 g with g|g
    ·exact h.fits y g t
    ·rw[Ag.1 g]at t;exact absurd P t,
   λC e i O=>by obtain⟨y,g,o⟩:=h.num C e i O;exact⟨y,by simp[g],o⟩⟩
 ·rename_i P;split at J
  ·rename_i R;cases J;refine⟨λC e i=>?_,λy g t=>?_,λC e i O=>?_⟩
   ·rw[LA]at i;split at i
    ·rename_i j;exact⟨x,F3,P,j⟩
    ·obtain⟨y,g,o⟩:=h.src C e i;exact⟨y,by simp[g],o⟩
   ·rw[LA];rcases Ar.1 g with g|g
    ·obtain⟨e,i,o⟩:=h.fits y g t;have hne:¬(Y9 l x.step).name=y.step.var:=λj=>by
      have j:x.step.var=y.step.var:=j;rw[<- j,R]at i;cases i
     exact⟨e,by rw[iN hne];exact i,o⟩
    ·rcases Ag.1 g with rfl;refine⟨_,iP rfl,rfl,rfl,λj=>⟨j, ?_, ?_⟩⟩
     ·simp[Y9,j]
     ·simp[Y9,j]
   ·rw[LA]at i;split at i
    ·rename_i j;cases i;exact⟨x,F3,P,j,O⟩
    ·obtain⟨y,g,o⟩:=h.num C e i O;exact⟨y,by simp[g],o⟩
  ·rename_i T R;split at J
   ·cases J
   ·rename_i I;have I:nz l T x.step=false:=by simpa using I
    unfold nz at I;rw[CF,CF]at I;obtain⟨U,V,b3⟩:=I;have U:T.v.family=MS x.step.kind:=by simpa using U
    have V:T.v.widths=Jl l x.step.key:=by simpa [ZX]using V
    split at J
    ·rename_i r;cases J;refine⟨λC e i=>?_,λy g t=>?_,λC e i O=>?_⟩
     ·rw[LA]at i;split at i
      ·rename_i j;exact⟨x,F3,P,j⟩
      ·obtain⟨y,g,o⟩:=h.src C e i;exact⟨y,by simp[g],o⟩
     ·rw [LA]
      rcases Ar.1 g with g|g
      ·obtain⟨e,i,o,h2,h3⟩:=h.fits y g t;by_cases j:(Y9 l x.step).name=y.step.var
       ·have hn2:x.step.var=y.step.var:=j;rw[<- hn2,R]at i;cases i;refine⟨_,iP j, ?_, ?_,λhny=>?_⟩
        ·show MS x.step.kind=_;rw[<- U,o]
        ·show Jl l x.step.key=_;rw[<- V,h2]
        ·obtain⟨g1,g2,g3⟩:=h3 hny;rw[r,g1,g2,g3]at b3;simp only[Ba,CF,bne_eq_false_iff_eq]at b3;refine⟨rfl, ?_, ?_⟩
         ·simp[Y9,r,b3.1]
         ·simp[Y9,r,b3.2]
       ·exact⟨e,by rw[iN j];exact i,o,h2,h3⟩
      ·rcases Ag.1 g with rfl;refine⟨_,iP rfl,rfl,rfl,λj=>⟨rfl, ?_, ?_⟩⟩
       ·simp[Y9,j]
       ·simp[Y9,j]
     ·rw[LA]at i;split at i
      ·rename_i j;exact⟨x,F3,P,j,r⟩
      ·obtain⟨y,g,o⟩:=h.num C e i O;exact⟨y,by simp[g],o⟩
    ·rename_i r;cases J;refine⟨λC e i=>?_,λy g t=>?_,λC e i O=>?_⟩
     ·obtain⟨y,g,o⟩:=h.src C e i;exact⟨y,by simp[g],o⟩
     ·rcases Ar.1 g with g|g
      ·exact h.fits y g t
      ·rcases Ag.1 g with rfl;exact⟨T,R,U,V,λj=>absurd j r⟩
     ·obtain⟨y,g,o⟩:=h.num C e i O;exact⟨y,by simp[g],o⟩
def nw{l:List Fld}{E:List VE}{p:List E8}(h:VInv l E p)(s:Stp):(U5 l E s).isSome = !p.any (λy=>MH l y.step s):=by
 by_cases g:s.kind=0
 ·unfold U5;rw[iP g];have:p.any (λy=>MH l y.step s)=false:=by
   rw[Bp];intro y _;simp[MH,g]
  rw[this];rfl
 ·rw[ACD h g];unfold U5;rw[iN g];cases PA E s.var with
  |none=>rfl
  |some e =>
   dsimp only;cases nz l e s
   ·cases Mo s<;>rfl
   ·rfl
def aK(l:List Fld)(p:List E8): ∀(n i:Nat) (E:List VE),p.length - i=n->VInv l E (p.take i)->(vGo l E (p.drop i)).isSome=Lk l p i (p.drop i)
 | 0,i,E,r,_=>by
  rw[Cz Fj];rfl
 | n+1,i,E,r,h=>by
  have g:i<p.length:=Fj;rw[BI g,vGo,Lk];have j:=nw h p[i].step;cases o:U5 l E p[i].step with
  |none =>
   rw[o]at j;rw[<- j];rfl
  |some t =>
   rw[o]at j;rw[<- j];have C:p.take (i+1)=p.take i++[p[i]]:=by rw[BF,AL g];rfl
   have:=aK l p n (i+1) t Fj (by rw[C];exact h.step o);simpa using this
def sg(l:List Fld)(p:List E8):(vGo l [] p).isSome=Lk l p 0 p:=by
 have:=aK l p p.length 0 [] Fj (by simpa using VInv.nil l);simpa using this
def bq(t:E9):Prop:=∀w∈t.wires,(0<=w.src/\w.src<=65535)/\(0<=w.dst/\w.dst<=65535)
def T6(l:List Fld): ∀r:List E6,MC l r=0 ↔ ∀x∈r,So l x=0
 |[]=>by simp[MC]
 |x::r=>by
  rw[MC];by_cases h:So l x=0
  ·rw[iP h,T6 l r];simp[h]
  ·rw[iN h];simp[h]
def Qt(l:List Fld): ∀r:List E5,MG l r=0 ↔ ∀x∈r,RB l x=0
 |[]=>by simp[MG]
 |x::r=>by
  rw[MG];by_cases h:RB l x=0
  ·rw[iP h,Qt l r];simp[h]
  ·rw[iN h];simp[h]
def Iq(l:List Fld)(x:E5):Prop:=OR x=true /\ ∀y∈T5 x,RB l y=0
def IW(l:List Fld)(x:E6):Prop:=S' x=true /\ ∀y∈No x,So l y=0
def jZ:JY KE=65535:=dk
def bJ(l:List Fld):Ft l Gd=(KE,true):=by unfold Ft;rw[iP rfl]
def lB:WO Gd=true:=by unfold WO;simp
def td(l:List Fld){n:Int}(i:0<=n)(j:n<=65535):Iq l (be n):=by
 constructor
 ·rw[Ic];unfold UG be;rw[Ib];simp[lB,OQ,i,j]
 ·intro y g;rw[MO]at g;have:y=be n:=by simpa [be,MZ]using g
  subst this;have:¬(JY KE<n):=by rw[jZ];omega
  simp[RB,be,bJ,this]
def Xk(l:List Fld):Iq l KT:=by
 constructor
 ·rw[Ic];unfold UG KT J8;rw[Ib];simp
 ·intro y g;rw[MO]at g;have:y=KT:=by simpa [KT,MZ]using g
  subst this;simp[RB,KT]
def AIJ{l:List Fld}{x y:E5}(hx:Iq l x)(i:Iq l y):Iq l (uO x y):=by
 constructor
 ·rw[Ic];unfold UG uO J8;dsimp only;rw[LQ,LQ,Ib,hx.1,i.1];simp
 ·intro z g;rw[MO]at g;rcases AY.1 g with rfl|g
  ·simp[RB,uO]
  ·have g:z∈Nn [x,y]:=g;rw[KN,KN,MZ]at g;rcases Ar.1 g with g|g
   ·exact hx.2 z g
   ·exact i.2 z (by simpa using g)
def AEk{l:List Fld}{x:E5}(hx:Iq l x):Iq l (dx x):=by
 constructor
 ·rw[Ic];unfold UG dx J8;dsimp only;rw[LQ,Ib,hx.1];simp
 ·intro z g;rw[MO]at g;rcases AY.1 g with rfl|g
  ·simp[RB,dx]
  ·have g:z∈Nn [x]:=g;rw[KN,MZ]at g;exact hx.2 z (by simpa using g)
def P_{l:List Fld}{x:E5}(hx:Iq l x):IW l (Iu x):=by
 constructor
 ·rw[I9];unfold W_ Iu;dsimp only;rw[Jc,hx.1];simp
 ·intro z g;rw[Ld]at g;have:z=Iu x:=by simpa [Iu,LE]using g
  subst this;show(if(1:Int)=1 then TA l x else _)=0;rw[iP rfl];exact(Qt l _).2 hx.2
def SK:tj Pred.z Qw=true:=AE5 _
def AEj(l:List Fld){n:Int}(i:0<=n)(j:n<=65535):IW l (ZZ Gd n):=by
 constructor
 ·rw[I9];unfold W_ ZZ;dsimp only;rw[Jc,SK];simp[lB,OQ,i,j]
 ·intro z g;rw[Ld]at g;have:z=ZZ Gd n:=by simpa [ZZ,LE]using g
  subst this;have:¬(JY KE<n):=by rw[jZ];omega
  simp[So,ZZ,bJ,this]
def kb{l:List Fld}{x y:E6}(hx:IW l x)(i:IW l y){k:Int}(j:k=3\/k=4):IW l ⟨k,Pred.z,⟨#[]⟩,0,[x,y]⟩:=by
 constructor
 ·rw[I9];unfold W_;dsimp only;rw[LR,LR,Jc,hx.1,i.1,SK];rcases j with rfl|rfl<;>simp
 ·intro z g;rw[Ld]at g;rcases AY.1 g with rfl|g
  ·rcases j with rfl|rfl<;>simp[So]
  ·have g:z∈NB [x,y]:=g;rw[JX,JX,LE]at g;rcases Ar.1 g with g|g
   ·exact hx.2 z g
   ·exact i.2 z (by simpa using g)
def qP{l:List Fld}{x y:E6}(hx:IW l x)(g:IW l y):IW l (Lc x y):=kb hx g (.inl rfl)
def S8{l:List Fld}{x y:E6}(hx:IW l x)(g:IW l y):IW l (Vq x y):=kb hx g (.inr rfl)
def AAI{l:List Fld}{x:E6}(hx:IW l x):IW l (TO x):=by
 constructor
 ·rw[I9];unfold W_ TO;dsimp only;rw[LR,Jc,hx.1,SK];simp
 ·intro z g;rw[Ld]at g;rcases AY.1 g with rfl|g
  ·simp[So,TO]
  ·have g:z∈NB [x]:=g;rw[JX,LE]at g;exact hx.2 z (by simpa using g)
def bD{α:Type}{p:α->Prop}{g:α->α->α}(i:∀x y,p x->p y->p (g x y)): ∀(l:List α) (x:α),p x->(∀y∈l,p y)->p (l.foldl g x)
 |[],x,hx,_=>hx
 |y::l,x,hx,h=>bD i l (g x y) (i x y hx (h y F3)) λz j=>h z (by simp[j])
def bC{α:Type}{p:α->Prop}{two:α->α->α}{z:α}(g:∀x y,p x->p y->p (two x y))(i:p z){l:List α}(h:∀y∈l,p y):p (MF z two l):=by
 cases l with
 |nil=>exact i
 |cons x l=>exact bD g l x (h x F3) λy j=>h y (by simp[j])
def kc{l:List Fld}{t:E9}{p:E6}(g:bq t)(i:IW l p):IW l (Ht t p):=by
 unfold Ht;split
 ·exact i
 ·have o:Iq l (QK t):=bC (p:=Iq l) (two:=uO) (λ_ _=>AIJ) (Xk l) λy j=>by
   obtain⟨w,hm,rfl⟩:=AN.1 j;exact td l (g w hm).1.1 (g w hm).1.2
  have r:IW l (NY t):=bC (p:=IW l) (two:=Lc) (λ_ _=>qP) (P_ (Xk l)) λy j=>by
   obtain⟨w,hm,rfl⟩:=AN.1 j;exact S8 (P_ (td l (g w hm).1.1 (g w hm).1.2)) (AEj l (g w hm).2.1 (g w hm).2.2)
  exact S8 (S8 i (AAI (S8 r i))) (P_ (AEk o))
def Uc{l:List Fld}{x:E6}(h:LX l x=0):WT x=0/\IW l x:=by
 unfold LX at h;split at h
 ·rename_i g;refine⟨g, ?_,(T6 l _).1 h⟩;unfold WT tf at g;split at g
  ·split at g
   ·assumption
   ·cases g
  ·rename_i i;exact absurd g i
 ·rename_i j;exact absurd h j
def di{l:List Fld}{x:E6}(g:WT x≠2)(h:IW l x):LX l x=0:=by
 have j:WT x=0:=by
  unfold WT tf Rz at g ⊢;rw[h.1]at g ⊢;by_cases i:(oB x).nodes>200\/(oB x).depth>20
  ·rw[iP i]at g;exact absurd rfl g
  ·rw[iN i];rfl
 rw[LX,iP j];exact(T6 l _).2 h.2
def aL(l:List Fld): ∀(p q:List E8) (E:List VE),p.map (·.step)=q.map (·.step)->vGo l E p=vGo l E q
 |[],[],_,_=>rfl
 |[],_::_,_,h=>by cases h
 |_::_,[],_,h=>by cases h
 |x::p,y::q,E,h=>by
  simp only[List.map_cons,List.cons.injEq]at h;rw[vGo,vGo,h.1];cases U5 l E y.step with
  |none=>rfl
  |some g=>exact aL l p q g h.2
def Wj(l:List Fld): ∀r:List E8,Nj l r=0 ↔ ∀x∈r,LX l x.policy=0/\M_ l x.step=0
 |[]=>by simp[Nj]
 | x::r=>by
  rw[Nj];by_cases h:LX l x.policy=0
  ·rw[iP h];by_cases g:M_ l x.step=0
   ·rw[iP g,Wj l r];simp[h,g]
   ·rw[iN g];simp[g]
  ·rw[iN h];simp[h]
def X_:∀r:List E8,RC r=0 ↔ ∀x∈r,WT x.policy=0/\gY x.step=0
 |[]=>by simp[RC]
 | x::r=>by
  rw[RC];by_cases h:WT x.policy=0
  ·rw[iP h];by_cases g:gY x.step=0
   ·rw[iP g,X_ r];simp[h,g]
   ·rw[iN g];simp[g]
  ·rw[iN h];simp[h]
def uA{l:List Fld}{p:List E8}(h:RZ l p=0):p.length<=8/\(∀ x∈p,WT x.policy=0/\gY x.step=0)/\(∀ x∈p,LX l x.policy=0/\M_ l x.step=0)/\(vGo l [] p).isSome=true:=by
 unfold RZ at h;split at h
 ·rename_i i;exact absurd h i
 ·rename_i g;split at h
  ·rename_i i;exact absurd h i
  ·rename_i j;split at h
   ·rename_i h3;have g:Y6 p=0:=by simpa using g
    have j:Nj l p=0:=by simpa using j
    unfold Y6 at g;split at g
    ·cases g
    ·rename_i o;exact⟨Fj,(X_ p).1 g,(Wj l p).1 j,by rw[sg];exact h3⟩
   ·cases h
def AZ3{l:List Fld}{p:List E8}(o:p.length<=8)(g:∀x∈p,WT x.policy=0/\gY x.step=0)(h3:∀x∈p,LX l x.policy=0/\M_ l x.step=0)(h4:(vGo l [] p).isSome=true):RZ l p=0:=by
 rw[sg]at h4;have i:Y6 p=0:=by unfold Y6;rw[iN Fj];exact(X_ p).2 g
 have j:Nj l p=0:=(Wj l p).2 h3;unfold RZ;rw[iN (by simp[i]),iN (by simp[j]),iP h4]
def Sf(t:E9): ∀ (r o:List E8),(ID t o r).2=2/\(ID t o r).1=[] \/
  (ID t o r).2=0/\(ID t o r).1=o++r.map (λx=>{ x with policy:=Ht t x.policy }) /\ ∀x∈r,WT (Ht t x.policy)≠2
 |[],o => .inr ⟨rfl,by simp[ID],λ_ h=>by cases h⟩
 | x::r,o=>by
  rw[ID];split
  ·exact .inl ⟨rfl,rfl⟩
  ·rename_i i;rcases Sf t r (o++[{ x with policy:=Ht t x.policy }])with h|⟨j,p,h3⟩
   ·exact .inl h
   ·refine .inr ⟨j,by rw[p];simp,λy g=>?_⟩;rcases AY.1 g with rfl|g
    ·exact i
    ·exact h3 y g
def ns{l:List Fld}{t:E9}(J:bq t)(h:RZ l t.program=0):
  ((Gc t).2=2/\(Gc t).1=[]/\t.wires≠[])\/((Gc t).2=0/\RZ l (Gc t).1=0/\(Gc t).1.map (·.step)=t.program.map (·.step)):=by
 obtain⟨T,C,h3,h4⟩:=uA h;rcases Sf t t.program []with⟨j,p⟩|⟨j,p,O⟩
 ·refine .inl ⟨j,p,λP=>?_⟩;have:∀(r o:List E8),(∀x∈r,WT x.policy=0)->(ID t o r).2=0:=by
   intro r;induction r with
   |nil=>intro o _;rfl
   |cons x r R =>
    intro o hx;rw[ID];have e:Ht t x.policy=x.policy:=by unfold Ht;rw[iP P]
    rw[e,iN (by rw[hx x F3];decide)];exact R _ λy i=>hx y (by simp[i])
  rw[this t.program [] λx hx=>(C x hx).1]at j;cases j
 ·have g:(Gc t).1.map (·.step)=t.program.map (·.step):=by
   show(ID t [] t.program).1.map _=_;rw[p];simp[Bs,Function.comp_def]
  refine .inr ⟨j, ?_,g⟩;have hm:∀x∈(Gc t).1,LX l x.policy=0/\WT x.policy=0/\gY x.step=0/\M_ l x.step=0:=by
   intro x hx;have hx:x∈(ID t [] t.program).1:=hx;rw[p,AM]at hx;obtain⟨y,i,rfl⟩:=AN.1 hx;have I:=di (O y i) (kc J (Uc (h3 y i).1).2);exact⟨I,(Uc I).1,(C y i).2,(h3 y i).2⟩
  refine AZ3 ?_ (λx hx=>⟨(hm x hx).2.1,(hm x hx).2.2.1⟩) (λx hx=>⟨(hm x hx).1,(hm x hx).2.2.2⟩) ?_
  ·have:=congrArg List.length g;simp only[Ap]at this;omega
  ·rw[aL l _ _ [] g];exact h4
def Yq{a b:E_}(h:a.l=b.l):a=b:=by
 cases a;cases b;simp only[Head.l,List.cons.injEq,and_true]at h;simp[h]
def KR:List Int->List Int->Int
 |[],[]=>0
 |[],_::_ => -1
 |_::_,[]=>1
 |x::a,y::b=>if x<y then -1 else if y<x then 1 else KR a b
def JP(a b:E_):Int:=KR a.l b.l
def bQ:∀a:List Int,KR a a=0
 |[]=>rfl
 |x::a=>by rw[KR,iN Fj,iN Fj,bQ a]
def t_ : ∀ {a b:List Int},KR a b=0->a=b
 |[],[],_=>rfl
 |[],_::_,h=>by simp[KR]at h
 |_::_,[],h=>by simp[KR]at h
 | x::a,y::b,h=>by
  rw[KR]at h;split at h
  ·cases h
  ·split at h
   ·cases h
   ·have:x=y:=Fj;rw[this,t_ h]
def X5:∀a b:List Int,KR a b = - KR b a
 |[],[]=>rfl
 |[],_::_=>rfl
 |_::_,[]=>rfl
 | x::a,y::b=>by
  rw[KR,KR];by_cases g:x<y
  ·rw[iP g,iN Fj,iP g]
  ·by_cases i:y<x
   ·rw[iN g,iP i,iP i];rfl
   ·rw[iN g,iN i,iN i,iN g,X5 a b]
def SM : ∀ {a b c:List Int},KR a b<0->KR b c<0->KR a c<0
 |[],[],_,h,_=>by simp[KR]at h
 |[],_::_,[],_,h=>by simp[KR]at h
 |[],_::_,_::_,_,_=>by simp[KR]
 |_::_,[],_,h,_=>by simp[KR]at h
 |_::_,_::_,[],_,h=>by simp[KR]at h
 | x::a,y::b,z::c,o,g=>by
  rw[KR]at o g ⊢;by_cases r:x<y
  ·by_cases i:y<z
   ·rw[iP Fj];decide
   ·rw[iN i]at g;by_cases j:z<y
    ·rw[iP j]at g;simp at g
    ·rw[iP Fj];decide
  ·rw [iN r] at o
   by_cases p:y<x
   ·rw[iP p]at o;simp at o
   ·rw[iN p]at o;have:x=y:=Fj;subst this;by_cases i:x<z
    ·rw[iP i];decide
    ·rw[iN i]at g ⊢;by_cases j:z<x
     ·rw[iP j]at g;simp at g
     ·rw[iN j]at g ⊢;exact SM o g
def Qz(a:E_):JP a a=0:=bQ _
def TI{a b:E_}(h:JP a b=0):a=b:=Yq (t_ h)
def X6(a b:E_):JP a b = - JP b a:=X5 _ _
def M1{a b c:E_}(g:JP a b<0)(i:JP b c<0):JP a c<0:=SM g i
def MM(l:List E_):Prop:=l.Pairwise λa b=>JP a b<0
def ACT:MM []:=.nil
def g_(h:E_):MM [h]:=List.pairwise_singleton _ _
def sk : ∀ {a b:List E_},MM a->MM b->(∀ x,x∈a↔x∈b)->a=b
 |[],[],_,_,_=>rfl
 |[],y::b,_,_,h=>by have:=(h y).2 F3 ; cases this
 |x::a,[],_,_,h=>by have:=(h x).1 F3 ; cases this
 | x::a,y::b,r,t,h=>by
  obtain⟨o,C⟩:=BM.1 r;obtain⟨p,I⟩:=BM.1 t;have i:x=y:=by
   rcases AY.1 ((h x).1 F3)with e|e
   ·exact e
   ·rcases AY.1 ((h y).2 F3)with j|j
    ·exact j.symm
    ·have h3:=p x e;have h4:=o y j;have:=X6 x y;omega
  subst i;congr 1;refine sk C I λz=>⟨λg=>?_,λg=>?_⟩
  ·rcases AY.1 ((h z).1 (by simp[g]))with e|e
   ·subst e;have:=o z g;rw[Qz]at this;omega
   ·exact e
  ·rcases AY.1 ((h z).2 (by simp[g]))with e|e
   ·subst e;have:=p z g;rw[Qz]at this;omega
   ·exact e
def L8(h:E_):List E_->List E_
 |[]=>[h]
 |x::r=>if JP x h<0 then x::L8 h r else if x=h then x::r else h::x::r
def GW(a b:List E_):List E_:=b.foldl (λo x=>L8 x o) a
def XG(h z:E_): ∀ l:List E_,z∈L8 h l↔z=h\/z∈l
 |[]=>by simp[L8]
 | x::r=>by
  rw[L8];split
  ·rw[AY,XG h z r,AY];constructor
   ·rintro (e|e|e)
    ·exact .inr (.inl e)
    ·exact .inl e
    ·exact .inr (.inr e)
   ·rintro (e|e|e)
    ·exact .inr (.inl e)
    ·exact .inl e
    ·exact .inr (.inr e)
  ·split
   ·rename_i e;subst e;simp
   ·simp
def gt(h:E_): ∀ {l:List E_},MM l->MM (L8 h l)
 |[],_=>g_ h
 | x::r,i=>by
  obtain⟨p,t⟩:=BM.1 i;rw[L8];split
  ·rename_i g;refine BM.2 ⟨λz j=>?_,gt h t⟩;rcases(XG h z r).1 j with e|e
   ·rw[e];exact g
   ·exact p z e
  ·rename_i g;split
   ·exact i
   ·rename_i o;have hx:JP h x<0:=by
     have C:=X6 h x;have:JP x h≠0:=λe=>o (TI e);omega
    refine BM.2 ⟨λz j=>?_,i⟩;rcases AY.1 j with e|e
    ·rw[e];exact hx
    ·exact M1 hx (p z e)
def Wv(h:E_): ∀l:List E_,l.length<=(L8 h l).length/\(L8 h l).length<=l.length+1
 |[]=>by simp[L8]
 |x::r=>by
  have:=Wv h r;rw[L8];split
  ·simp only[AC];omega
  ·split<;>simp
def Rx(z:E_): ∀(b a:List E_),z∈GW a b↔z∈a\/z∈b
 |[],a=>by simp[GW]
 | x::b,a=>by
  have:=Rx z b (L8 x a);unfold GW at this ⊢;rw[CC,this,XG,AY];constructor
  ·rintro ((e|e)|e)
   ·exact .inr (.inl e)
   ·exact .inl e
   ·exact .inr (.inr e)
  ·rintro (e|e|e)
   ·exact .inl (.inr e)
   ·exact .inl (.inl e)
   ·exact .inr e
def Ro:∀(b:List E_) {a:List E_},MM a->MM (GW a b)
 |[],_,h=>h
 |x::b,a,h=>Ro b (a:=L8 x a) (gt x h)
def XF:∀(b a:List E_),a.length<=(GW a b).length/\(GW a b).length<=a.length+b.length
 |[],a=>by simp[GW]
 |x::b,a=>by
  have g:=XF b (L8 x a);have i:=Wv x a;unfold GW at g ⊢;rw[CC,AC];omega
def Ju:Nat->List E_->List E_->List E_
 | 0,_,_=>[]
 |_+1,[],b=>b
 |_+1,a,[]=>a
 |n+1,x::a,y::b=>if JP x y<0 then x::Ju n a (y::b)else if JP x y=0 then y::Ju n a b else y::Ju n (x::a) b
def Ii(a b:List E_):List E_:=Ju (a.length+b.length+1) a b
def LI(z:E_): ∀ (n:Nat) (a b:List E_),a.length+b.length<n->(z∈Ju n a b↔z∈a\/z∈b)
 | 0,a,b,h=>Fj
 |n+1,[],b,_=>by simp[Ju]
 |n+1,x::a,[],_=>by simp[Ju]
 | n+1,x::a,y::b,h=>by
  simp only[AC]at h;rw[Ju];split
  ·rw[AY,LI z n a (y::b) IG,AY (l:=a)];constructor
   ·rintro (e|e|e)
    ·exact .inl (.inl e)
    ·exact .inl (.inr e)
    ·exact .inr e
   ·rintro ((e|e)|e)
    ·exact .inl e
    ·exact .inr (.inl e)
    ·exact .inr (.inr e)
  ·split
   ·rename_i i;have g:=TI i;subst g;rw[AY,LI z n a b Fj,AY,AY];constructor
    ·rintro (e|e|e)
     ·exact .inl (.inl e)
     ·exact .inl (.inr e)
     ·exact .inr (.inr e)
    ·rintro ((e|e)|(e|e))
     ·exact .inl e
     ·exact .inr (.inl e)
     ·exact .inl e
     ·exact .inr (.inr e)
   ·rw[AY,LI z n (x::a) b IG,AY (l:=b)];constructor
    ·rintro (e|e|e)
     ·exact .inr (.inl e)
     ·exact .inl e
     ·exact .inr (.inr e)
    ·rintro (e|e|e)
     ·exact .inr (.inl e)
     ·exact .inl e
     ·exact .inr (.inr e)
def Qe : ∀ (n:Nat) (a b:List E_),a.length+b.length<n->MM a->MM b->MM (Ju n a b)
 | 0,a,b,h,_,_=>Fj
 |n+1,[],b,_,_,o=>by simpa [Ju]using o
 |n+1,x::a,[],_,p,_=>by simpa [Ju]using p
 | n+1,x::a,y::b,h,p,o=>by
  simp only[AC]at h;obtain⟨r,I⟩:=BM.1 p;obtain⟨t,J⟩:=BM.1 o;rw[Ju];split
  ·rename_i g;refine BM.2 ⟨λz i=>?_,Qe n a (y::b) IG I o⟩;rcases(LI z n a (y::b) IG).1 i with e|e
   ·exact r z e
   ·rcases AY.1 e with e|e
    ·rw[e];exact g
    ·exact M1 g (t z e)
  ·rename_i g;split
   ·rename_i O;have C:=TI O;subst C;refine BM.2 ⟨λz i=>?_,Qe n a b Fj I J⟩;rcases(LI z n a b Fj).1 i with e|e
    ·exact r z e
    ·exact t z e
   ·rename_i P;have j:JP y x<0:=by have:=X6 x y;omega
    refine BM.2 ⟨λz i=>?_,Qe n (x::a) b IG p J⟩;rcases(LI z n (x::a) b IG).1 i with e|e
    ·rcases AY.1 e with e|e
     ·rw[e];exact j
     ·exact M1 j (r z e)
    ·exact t z e
def Qi{a b:List E_}(g:MM a)(i:MM b):Ii a b=GW a b :=
 sk (Qe _ a b Fj g i) (Ro b g) λz=>by rw[Ii,LI z _ a b Fj,Rx]
def IV(f:E_->Option (List E_)):List E_->List E_->Option (List E_)
 |o,[]=>some o
 |o,x::r=>match f x with
  |none=>none
  |some a=>if 256<(GW o a).length then none else IV f (GW o a) r
def HN(o n:List E_):List E_:=n.filter λx => !o.any λy=>decide (y=x)
def JH(f:E_->Option (List E_)):Nat->List E_->List E_->Option (List E_)
 | 0,_,_=>none
 |k+1,o,n=>if n=[]then some o else match IV f [] n with
  |none=>none
  |some m=>if 256<(GW o (HN o m)).length then none else JH f k (GW o (HN o m)) (HN o m)
def GD(h:E_)(k:Nat):Int:=(h.l[k]?).getD 0
def u9(h:E_)(k:Nat)(v:Int):E_ :=
 ⟨if k=0 then v else h.h0,if k=1 then v else h.h1,if k=2 then v else h.h2,if k=3 then v else h.h3,if k=4 then v else h.h4,if k=5 then v else h.h5,if k=6 then v else h.h6,if k=7 then v else h.h7,if k=8 then v else h.h8,if k=9 then v else h.h9⟩
def HP(f:Fld):Prop:=1<=f.width/\f.width<=16/\0<=f.at_/\f.at_<=143/\f.at_ % 16+f.width<=16
def fK(f:Fld):Nat:=(f.at_ / 16).toNat
def fS(f:Fld):Nat:=(16 - f.at_ % 16 - f.width).toNat
def fW(f:Fld):Nat:=f.width.toNat
def It(f:Fld)(h:E_):Nat:=(GD h (fK f)).toNat / 2^fS f % 2^fW f
def PK(f:Fld)(h:E_)(n:Nat):E_:=u9 h (fK f) ((((GD h (fK f)).toNat ^^^ ((GD h (fK f)).toNat &&& ((2^fW f - 1) <<< fS f))) ||| (n <<< fS f):Nat):Int)
def II{f:Fld}(h:HP f):fK f<=8/\fS f+fW f<=16/\1<=fW f:=by
 unfold HP at h;unfold fK fS fW;omega
def HT{h:E_}(g:Fr h=true)(k:Nat):0<=GD h k/\GD h k<=65535:=by
 unfold Fr at g;unfold GD;cases i:h.l[k]? with
 |none=>simp
 |some v =>
  have:=Ao.1 g v (AB i);simpa [MK]using this
def ADx(h:E_)(k:Nat)(v:Int):(u9 h k v).l=h.l.set k v:=by
 match k with
 | 0=>rfl
 | 1=>rfl
 | 2=>rfl
 | 3=>rfl
 | 4=>rfl
 | 5=>rfl
 | 6=>rfl
 | 7=>rfl
 | 8=>rfl
 | 9=>rfl
 |n+10=>rfl
def U'{h:E_}(g:Fr h=true)(k:Nat){v:Int}(i:0<=v)(j:v<=65535):Fr (u9 h k v)=true:=by
 unfold Fr at g ⊢;rw[ADx,Ao];intro x hx;rcases List.mem_or_eq_of_mem_set hx with hx|rfl
 ·exact Ao.1 g x hx
 ·simp[MK,i,j]
def lx{W M:Nat}(g:W<65536)(i:M<65536):W ^^^ (W &&& M)<65536:=Ce (n:=16) g (Dy _ i)
def sj{s w o n g:Nat}(p:g<2^s)(r:n<2^w)(i:Nat):(2^(s+w)*o+(2^s*n+g)).testBit i=if i<s then g.testBit i else if i<s+w then n.testBit (i - s)else o.testBit (i - (s+w)):=by
 have t:2^s*n+g<2^(s+w):=by
  have:2^s*n+2^s<=2^s*2^w:=by rw[<- Nat.mul_succ];exact Nat.mul_le_mul_left _ r
  rw[DS];omega
 rw[EU _ t,EU _ p];by_cases j:i<s
 ·rw[iP Fj,iP j,iP j]
 ·rw[iN j,iN j]
def AHJ(s w i:Nat):((2^w - 1) <<< s).testBit i=(decide (s<=i)&&decide (i - s<w)):=by
 rw[Cf,Dz]
def Wa(W s w:Nat):W=2^(s+w)*(W / 2^(s+w))+(2^s*(W / 2^s % 2^w)+W % 2^s):=by
 have g:=Nat.div_add_mod W (2^(s+w));have i:W % 2^(s+w)=2^s*(W / 2^s % 2^w)+W % 2^s:=by
  rw[DS,Nat.mod_mul];omega
 omega
def u7{W s w n:Nat}(C:n<2^w):(W ^^^ (W &&& ((2^w - 1) <<< s))) ||| (n <<< s)=2^(s+w)*(W / 2^(s+w))+(2^s*n+W % 2^s):=by
 apply D1;intro i;have g:W % 2^s<2^s:=CY _ (A' s);have j:W / 2^s % 2^w<2^w:=CY _ (A' w);have r:W.testBit i=if i<s then(W % 2^s).testBit i else if i<s+w then(W / 2^s % 2^w).testBit (i - s)else(W / 2^(s+w)).testBit (i - (s+w)):=by
  rw[<- sj g j i,<- Wa W s w]
 rw[sj g C,Nat.testBit_or,DT,Cg,AHJ,Cf,r];by_cases o:i<s
 ·rw[iP o,iP o];have:¬s<=i:=Fj;simp[this]
 ·rw[iN o,iN o];by_cases p:i<s+w
  ·rw[iP p,iP p];have I:decide (s<=i)=true:=IG;have t:decide (i - s<w)=true:=IG;rw[I,t];simp
  ·rw[iN p,iN p];have t:decide (i - s<w)=false:=IG;have J:n.testBit (i - s)=false:=D3 (BV C (BO dc Fj));rw[t,J];simp
def AHM{W s w n:Nat}(g:n<2^w):((W:Int)+((n:Int) - ((W / 2^s % 2^w:Nat):Int))*((2^s:Nat):Int))=(((W ^^^ (W &&& ((2^w - 1) <<< s))) ||| (n <<< s):Nat):Int):=by
 rw[u7 g];have h:=Wa W s w;generalize W / 2^s % 2^w=m at h ⊢;generalize W / 2^(s+w)=i at h ⊢;generalize j:W % 2^s=o at h ⊢;have p:(W:Int)=((2^(s+w)*i+(2^s*m+o):Nat):Int):=by rw[<- h]
 rw[p];generalize 2^(s+w)=A;generalize 2^s=B
 push_cast
 have:((n:Int) - (m:Int))*(B:Int)=(B:Int)*(n:Int) - (B:Int)*(m:Int):=by rw[Int.sub_mul,Dk,Dk (m:Int)]
 omega
def ACb{W s w n:Nat}(i:W<65536)(j:n<2^w)(g:s+w<=16):(W ^^^ (W &&& ((2^w - 1) <<< s))) ||| (n <<< s)<65536:=by
 refine EV (n:=16) (Ce (n:=16) i (Cc DU i)) ?_;rw[D4]
 calc n*2^s<2^w*2^s:=EW j (A' s)
  _=2^(s+w):=by rw[CB,DS]
  _<=2^16:=BO dc g
def U4(h:E_)(k j:Nat)(v:Int)(g:k<10):GD (u9 h k v) j=if j=k then v else GD h j:=by
 unfold GD;rw[ADx,Az];by_cases e:k=j
 ·subst e;rw[iP rfl,iP (by simpa [Head.l]using g),iP rfl];rfl
 ·rw[iN e,iN (λc=>e c.symm)]
def gf(j:Nat):GD Head.z j=0:=by
 match j with
 | 0|1|2|3|4|5|6|7|8|9=>rfl
 |n+10=>rfl
def AEJ{a b:E_}(h:∀k,k<10->GD a k=GD b k):a=b:=by
 apply Yq;apply A6;intro k;by_cases g:k<10
 ·have:=h k g;unfold GD at this;have i:a.l.length=10:=rfl;have j:b.l.length=10:=rfl;rw[AL Fj,AL Fj]at this ⊢;simpa using this
 ·rw[A0 (by show 10<=k;omega),A0 (by show 10<=k;omega)]
def ME(w m:Nat):Nat:=(2^w - 1) ^^^ ((2^w - 1) &&& (2^(w - m) - 1))
def ao(w m j:Nat):(ME w m).testBit j=(decide (w - m<=j)&&decide (j<w)):=by
 unfold ME;rw[DT,Cg,Dz,Dz];by_cases g:j<w<;>by_cases i:j<w - m<;>simp[g,i]<;>omega
def ja(w m:Nat):ME w m<2^w:=by
 have:0<2^w:=A' w;exact Ce Fj (Cc DU Fj)
def pR(w:Nat):ME w w=2^w - 1:=by
 unfold ME;rw[AP];simp
def Wy(f:Fld)(n m:Nat):Pat:=⟨PK f Head.z (ME (fW f) m),PK f Head.z (n &&& ME (fW f) m)⟩
def pQ(p:Pat)(h:E_):Bool:=(An 10).all λi=>(((GD p.bits i).toNat ^^^ (GD h i).toNat) &&& (GD p.mask i).toNat)==0
def Jj(p:Pat)(h:E_)(i:Nat):Int:=((((GD h i).toNat ^^^ ((GD h i).toNat &&& (GD p.mask i).toNat)) ||| (GD p.bits i).toNat:Nat):Int)
def d_(p:Pat)(h:E_):E_:=⟨Jj p h 0,Jj p h 1,Jj p h 2,Jj p h 3,Jj p h 4,Jj p h 5,Jj p h 6,Jj p h 7,Jj p h 8,Jj p h 9⟩
def Tv(f:Fld)(g:HP f)(v j:Nat):GD (PK f Head.z v) j=if j=fK f then((v <<< fS f:Nat):Int)else 0:=by
 have i:=II g;unfold PK;rw[U4 _ _ _ _ Fj,gf,gf];split<;>simp
def lM{a b w k:Nat}(g:a<2^w)(o:b<2^w):a / 2^k=b / 2^k ↔ ∀j,k<=j->j<w->a.testBit j=b.testBit j:=by
 constructor
 ·intro h j r _;have e:j=(j - k)+k:=Fj;rw[e,<- C1,<- C1,h]
 ·intro h;apply D1;intro i;rw[C1,C1];by_cases p:i+k<w
  ·exact h _ Fj p
  ·rw[D3 (BV g (BO dc Fj)),D3 (BV o (BO dc Fj))]
def kd(f:Fld)(h:E_)(j:Nat)(g:j<fW f):(It f h).testBit j=(GD h (fK f)).toNat.testBit (fS f+j):=by
 unfold It;rw[Nat.testBit_mod_two_pow,C1,CB];simp[g]
def dN(f:Fld)(h:E_):It f h<2^fW f:=CY _ (A' _)
def an{f:Fld}(p:HP f){n m:Nat}(O:n<2^fW f)(hm:m<=fW f)(h:E_):pQ (Wy f n m) h=decide (It f h / 2^(fW f - m)=n / 2^(fW f - m)):=by
 have T:=II p;rw[A9,decide_eq_true_eq,lM (dN f h) O];unfold pQ Wy;rw[Ao];constructor
 ·intro r j U P;have:=r (fK f) (by rw[Bt];omega);rw[Tv f p,Tv f p,iP rfl,iP rfl,beq_iff_eq,AZ,AZ]at this;have g:((((n &&& ME (fW f) m) <<< fS f) ^^^ (GD h (fK f)).toNat) &&& (ME (fW f) m <<< fS f)).testBit (fS f+j)=false:=by rw[this];simp
  rw[Cg,DT,Cf,Cf,Cg]at g;have t:decide (fS f<=fS f+j)=true:=F3;have C:fS f+j - fS f=j:=Fj;have R:(ME (fW f) m).testBit j=true:=by rw[ao];simp;omega
  rw[t,C,R]at g;rw[kd f h j P];simp only[Bo,Ba,bne_eq_false_iff_eq]at g;exact g.symm
 ·intro o i V;rw[Tv f p,Tv f p];by_cases e:i=fK f
  ·subst e;rw[iP rfl,iP rfl,beq_iff_eq,AZ,AZ];apply D1;intro i;rw[Cg,DT,Cf,Cf,Cg,ao];by_cases J:fS f<=i
   ·by_cases I:fW f - m<=i - fS f/\i - fS f<fW f
    ·have g:=o (i - fS f) I.1 I.2;rw[kd f h _ I.2,show fS f+(i - fS f)=i by omega]at g;have t:decide (fS f<=i)=true:=by simpa using J
     have C:(decide (fW f - m<=i - fS f)&&decide (i - fS f<fW f))=true:=IG;rw[g,t,C];simp
    ·have:(decide (fW f - m<=i - fS f)&&decide (i - fS f<fW f))=false:=IG;rw[this];simp
   ·simp[J]
  ·rw[iN e,iN e];simp
def ABD{f:Fld}(i:HP f){n:Nat}(j:n<2^fW f){h:E_}(o:Fr h=true):d_ (Wy f n (fW f)) h=PK f h n:=by
 have t:=II i;apply AEJ;intro k p;have r:GD (d_ (Wy f n (fW f)) h) k=Jj (Wy f n (fW f)) h k:=by
  match k,p with
  | 0,_|1,_|2,_|3,_|4,_|5,_|6,_|7,_|8,_|9,_=>rfl
 rw[r];unfold Jj Wy;rw[Tv f i,Tv f i,pR];have g:n &&& (2^fW f - 1)=n:=by rw[EX,Bz j]
 rw[g];unfold PK;rw[U4 _ _ _ _ Fj];by_cases e:k=fK f
 ·subst e;rw[iP rfl,iP rfl,iP rfl,AZ,AZ]
 ·rw[iN e,iN e,iN e];have:=(HT o k).1;simp;omega
def OY{f:Fld}(i:HP f){n:Nat}(j:n<2^fW f){h:E_}(g:Fr h=true):Fr (PK f h n)=true:=by
 have p:=II i;have r:=HT g (fK f);have o:=ACb (W:=(GD h (fK f)).toNat) (s:=fS f) (w:=fW f) (n:=n) Fj j Fj;unfold PK;refine U' g _ Fj ?_;omega
def ABU(x y:Int):Int:=IntKind.i64.wrap (BitVec.ofInt 64 x &&& BitVec.ofInt 64 y).toNat
def orI(x y:Int):Int:=IntKind.i64.wrap (BitVec.ofInt 64 x ||| BitVec.ofInt 64 y).toNat
def AG8(x y:Int):Int:=IntKind.i64.wrap (BitVec.ofInt 64 x ^^^ BitVec.ofInt 64 y).toNat
def AAW(x y:Int):Int:=IntKind.i64.wrap (BitVec.ofInt 64 x &&& ~~~ BitVec.ofInt 64 y).toNat
section
variable{P:Program}{t:TypeId}{k:IntKind}{x y:Int}{d:Tmp}{K:Kt}{e:GO}{H:Fl}
@[go_sem] def AcL:JA P .and t (.int .i64 x) (.int .i64 y) d K e H=K ((d,.int .i64 (ABU x y))::e) H:=by
 rw[Hw];exact propext ⟨λh=>h.2,λh=>⟨rfl,h⟩⟩
@[go_sem] def Aj_:JA P .or t (.int .i64 x) (.int .i64 y) d K e H=K ((d,.int .i64 (orI x y))::e) H:=by
 rw[Hw];exact propext ⟨λh=>h.2,λh=>⟨rfl,h⟩⟩
@[go_sem] def AcD:JA P .xor t (.int .i64 x) (.int .i64 y) d K e H=K ((d,.int .i64 (AG8 x y))::e) H:=by
 rw[Hw];exact propext ⟨λh=>h.2,λh=>⟨rfl,h⟩⟩
@[go_sem] def AcK:JA P .andNot t (.int .i64 x) (.int .i64 y) d K e H=K ((d,.int .i64 (AAW x y))::e) H:=by
 rw[Hw];exact propext ⟨λh=>h.2,λh=>⟨rfl,h⟩⟩
@[go_sem] def AcF:JA P .shr t (.int .i64 x) (.int k y) d K e H=(0<=y/\K ((d,.int .i64 (x.fdiv (2^(min y.toNat 64))))::e) H):=by
 rw[Hw];rfl
end
def KX(a:Nat):BitVec.ofInt 64 (a:Int)=BitVec.ofNat 64 a:=by
 apply BitVec.eq_of_toInt_eq;simp
def YR{a b:Nat}(g:a<9223372036854775808)(i:b<9223372036854775808):ABU a b=((a &&& b:Nat):Int):=by
 have j:a &&& b<2^63:=Dy _ Fj;unfold ABU;rw[KX,KX,BitVec.toNat_and,BitVec.toNat_ofNat,BitVec.toNat_ofNat,Bz Fj,Bz Fj];exact Mg Fj Fj
def tN{a b:Nat}(g:a<9223372036854775808)(i:b<9223372036854775808):orI a b=((a ||| b:Nat):Int):=by
 have j:a ||| b<2^63:=EV Fj Fj;unfold orI;rw[KX,KX,BitVec.toNat_or,BitVec.toNat_ofNat,BitVec.toNat_ofNat,Bz Fj,Bz Fj];exact Mg Fj Fj
def AB0{a b:Nat}(g:a<9223372036854775808)(i:b<9223372036854775808):AG8 a b=((a ^^^ b:Nat):Int):=by
 have j:a ^^^ b<2^63:=Ce Fj Fj;unfold AG8;rw[KX,KX,BitVec.toNat_xor,BitVec.toNat_ofNat,BitVec.toNat_ofNat,Bz Fj,Bz Fj];exact Mg Fj Fj
def X9{a b:Nat}(g:a<9223372036854775808)(j:b<9223372036854775808):AAW a b=((a ^^^ (a &&& b):Nat):Int):=by
 have o:a ^^^ (a &&& b)<2^63:=Ce Fj (Dy _ Fj);have e:(BitVec.ofNat 64 a &&& ~~~ BitVec.ofNat 64 b)=BitVec.ofNat 64 a ^^^ (BitVec.ofNat 64 a &&& BitVec.ofNat 64 b):=by
  generalize BitVec.ofNat 64 a=u;generalize BitVec.ofNat 64 b=v;ext i p;simp only[BitVec.getElem_and,BitVec.getElem_not,BitVec.getElem_xor];cases u[i]<;>cases v[i]<;>rfl
 unfold AAW;rw[KX,KX,e,BitVec.toNat_xor,BitVec.toNat_and,BitVec.toNat_ofNat,BitVec.toNat_ofNat,Bz Fj,Bz Fj];exact Mg Fj Fj
def AHL{a s:Nat}(g:s<=64):(a:Int).fdiv (2^min s 64)=((a / 2^s:Nat):Int):=by
 rw[Bw g,Dx _ (Int.pow_nonneg dc)]
 push_cast;rfl
def JL(h:E_){k:Nat}(g:k<10):h.c[k]? =some (.int .i64 (GD h k)):=by
 match k,g with
 | 0,_|1,_|2,_|3,_|4,_|5,_|6,_|7,_|8,_|9,_=>rfl
def Sa(h:E_){k:Nat}(g:k<10)(v:Int):splice h.c k [.int .i64 v]=(u9 h k v).c:=by
 match k,g with
 | 0,_|1,_|2,_|3,_|4,_|5,_|6,_|7,_|8,_|9,_=>rfl
def bM{f:Fld}(g:HP f):IntKind.i64.wrap (f.at_.tdiv 16)=(fK f:Int)/\f.at_.tmod 16=f.at_ % 16/\IntKind.i64.wrap (IntKind.i64.wrap (16 - f.at_ % 16) - f.width)=(fS f:Int):=by
 have h:=g;unfold HP at h;have i:f.at_.tdiv 16=f.at_ / 16:=Int.tdiv_eq_ediv_of_nonneg Fj;have j:f.at_.tmod 16=f.at_ % 16:=Int.tmod_eq_emod_of_nonneg Fj;refine⟨?_,j, ?_⟩
 ·rw[i,Mg Fj Fj];unfold fK;omega
 ·rw[Mg (n:=16 - f.at_ % 16) Fj Fj,Mg Fj Fj];unfold fS;omega
def tD(f:Fld)(i:HP f):Fm AA 242 [.agg f.c] (.int .i64 (fS f)):=by
 obtain⟨d1,d2,d3⟩:=bM i;have g:¬((16:Int)=0):=dc;refine pC AQp rfl ?_;simp only[f242,go_sem,d2,d3,g]
def Qj{f:Fld}(g:HP f):JY f=((2^fW f - 1:Nat):Int):=by
 have h:=g;unfold HP at h;have i:∀n:Nat,n<=16->Q7 n=((2^n:Nat):Int):=by
  intro n;induction n with
  |zero=>intro _;rfl
  |succ n j =>
   intro o;rw[Q7,j Fj];have:2^n<=2^16:=BO dc Fj;unfold i64;rw[Nat.pow_succ];generalize 2^n=z at this ⊢;rw[Mg Fj Fj];exact(Int.natCast_mul _ _).symm
 unfold JY;rw[i _ Fj];have p:2^f.width.toNat<=2^16:=BO dc Fj;have r:0<2^f.width.toNat:=A' _;unfold i64 fW;rw[Mg Fj Fj];omega
def oZ(f:Fld)(i:HP f)(h:E_)(O:Fr h=true):Fm AA 157 [.agg f.c,.agg h.c] (.int .i64 (It f h)):=by
 obtain⟨d1,d2,d3⟩:=bM i;have T:=II i;have U:=HT O (fK f);have o:(0:Int)<=(fK f:Int):=Fj;have p:(fK f:Int)<((10:Nat):Int):=Fj;have j:=JL h (show fK f<10 by omega);obtain⟨W,r⟩:∃W:Nat,GD h (fK f)=(W:Int):=⟨(GD h (fK f)).toNat,Fj⟩;have V:2^fW f<=2^16:=BO dc Fj;have hD:W / 2^fS f<=W:=D5 _ _;have g:¬((16:Int)=0):=dc;have t:(0:Int)<=(fS f:Int):=Fj;have P:=tD f i;have C:=tI f (by have:=i;unfold HP at this;omega) (by have:=i;unfold HP at this;omega);have I:(W:Int).fdiv (2^min (fS f) 64)=((W / 2^fS f:Nat):Int):=AHL Fj;have J:ABU ((W / 2^fS f:Nat):Int) ((2^fW f - 1:Nat):Int)=(It f h:Nat):=by
  rw[YR Fj Fj,EX];unfold It;rw[r,AZ]
 rw[Qj i]at C;rw[r]at j;refine pC AVR rfl ?_;simp only[f157,go_sem,d1,d2,d3,o,p,j,g,AZ];repeat' (first|((first|apply pK P|apply pK C);simp only[go_sem,d1,d2,d3,o,p,j,g,t,I,J,AZ])|apply Pz<;>intro R<;>simp only[go_sem,R,d1,d2,d3,o,p,j,g,t,I,J,AZ])
def oY(f:Fld)(j:HP f)(h:E_)(hr:Fr h=true)(n:Nat)(hn:n<2^fW f):Fm AA 241 [.agg f.c,.agg h.c,.int .i64 n] (.agg (PK f h n).c):=by
 obtain⟨d1,d2,d3⟩:=bM j;have hd:=II j;have hw:=HT hr (fK f);have C:(0:Int)<=(fK f:Int):=Fj;have I:(fK f:Int)<((10:Nat):Int):=Fj;have r:=JL h (show fK f<10 by omega);obtain⟨W,J⟩:∃W:Nat,GD h (fK f)=(W:Int):=⟨(GD h (fK f)).toNat,Fj⟩;have hM:2^fW f<=2^16:=BO dc Fj;have i:¬((16:Int)=0):=dc;have O:(0:Int)<=(fS f:Int):=Fj;have c1:=tD f j;have P:=tI f (by have:=j;unfold HP at this;omega) (by have:=j;unfold HP at this;omega);have o:∀x,x<2^fW f->x <<< fS f<65536:=by
  intro x hx;rw[D4]
  calc x*2^fS f<2^fW f*2^fS f:=EW hx (A' _)
   _=2^(fS f+fW f):=by rw[CB,DS]
   _<=2^16:=BO dc Fj
 have hp:0<2^fW f:=A' _;have p:fK f<=9:=Fj;have s1:=o (2^fW f - 1) Fj;have s2:=o n hn;have g:∀x:Nat,x <<< fS f<65536->IntKind.i64.wrap ((x:Int)*2^(min (fS f) 64))=((x <<< fS f:Nat):Int):=by
  intro x hx;have e:min (fS f) 64=fS f:=Bw Fj;have t:(x:Int)*2^(min (fS f) 64)=((x <<< fS f:Nat):Int):=by
   rw[e,D4];push_cast;rfl
  rw[t];generalize x <<< fS f=z at hx ⊢;exact Mg Fj Fj
 have R:=g _ s1;have t:=g _ s2;have T:AAW (W:Int) (((2^fW f - 1) <<< fS f:Nat):Int)=((W ^^^ (W &&& ((2^fW f - 1) <<< fS f)):Nat):Int):=X9 Fj Fj;have U:W ^^^ (W &&& ((2^fW f - 1) <<< fS f))<2^16:=lx Fj Fj;have V:orI ((W ^^^ (W &&& ((2^fW f - 1) <<< fS f)):Nat):Int) ((n <<< fS f:Nat):Int)=(((W ^^^ (W &&& ((2^fW f - 1) <<< fS f))) ||| (n <<< fS f):Nat):Int):=tN Fj Fj;have e5:splice h.c (fK f) [.int .i64 (((W ^^^ (W &&& ((2^fW f - 1) <<< fS f))) ||| (n <<< fS f):Nat):Int)]=(PK f h n).c:=by
  rw[Sa h Fj];unfold PK;rw[J,AZ]
 rw[Qj j]at P;rw[J]at r;refine pC AQt rfl ?_;simp only[f241,go_sem,d1,d2,d3,C,I,r,i,AZ];repeat' (first|((first|apply pK c1|apply pK P);simp only[go_sem,d1,d2,d3,C,I,r,i,O,R,t,T,V,e5,p,AZ])|apply Pz<;>intro hc<;>simp only[go_sem,hc,d1,d2,d3,C,I,r,i,O,R,t,T,V,e5,p,AZ])
end Go.AI
namespace Go.AI
open Go.Proofs
set_option maxRecDepth 50000
def ix(f:Fld)(g:HP f)(n m:Nat)(P:n<2^fW f)(hm:m<=fW f):Fm AA 156 [.agg f.c,.int .i64 n,.int .i64 m] (.agg (Wy f n m).c):=by
 have h:=g;unfold HP at h;have hw:f.width=(fW f:Int):=by unfold fW;omega
 have hd:=II g;have r:Fr Head.z=true:=dc;have hM:2^fW f<=2^16:=BO dc Fj;have i:2^(fW f - m)<=2^16:=BO dc Fj;have R:0<2^(fW f - m):=A' _;have j:=ja (fW f) m;have o:n &&& ME (fW f) m<2^fW f:=Cc DU P;have t:=tI f Fj Fj;rw[Qj g]at t;have T:=oY f g Head.z r (ME (fW f) m) j;have U:=oY f g Head.z r (n &&& ME (fW f) m) o;have C:(0:Int)<=((fW f - m:Nat):Int):=Fj;have p:IntKind.i64.wrap (f.width - (m:Int))=((fW f - m:Nat):Int):=by rw[Mg Fj Fj];omega
 have I:IntKind.i64.wrap (1*2^(min (fW f - m) 64))=((2^(fW f - m):Nat):Int):=by
  rw[Bw Fj];have:(1:Int)*2^(fW f - m)=((2^(fW f - m):Nat):Int):=by rw[Int.one_mul];push_cast;rfl
  rw[this];generalize 2^(fW f - m)=z at i ⊢;exact Mg Fj Fj
 have J:IntKind.i64.wrap (((2^(fW f - m):Nat):Int) - 1)=((2^(fW f - m) - 1:Nat):Int):=by
  generalize 2^(fW f - m)=z at i R ⊢;rw[Mg Fj Fj];omega
 have O:AAW ((2^fW f - 1:Nat):Int) ((2^(fW f - m) - 1:Nat):Int)=(ME (fW f) m:Nat):=by
  rw[X9 Fj Fj];rfl
 have e5:ABU (n:Int) ((ME (fW f) m:Nat):Int)=((n &&& ME (fW f) m:Nat):Int):=YR Fj Fj;refine pC AVV rfl ?_;simp only[f156,go_sem,p,AZ];repeat' (first|((first|apply pK t|apply pK T|apply pK U);simp only[go_sem,p,I,J,O,e5,C,AZ])|apply Pz<;>intro V<;>simp only[go_sem,V,p,I,J,O,e5,C,AZ])
 rfl
def tM(f:Fld)(i:HP f)(n:Nat)(j:n<2^fW f):Fm AA 155 [.agg f.c,.int .i64 n] (.agg (Wy f n (fW f)).c):=by
 have h:=i;unfold HP at h;have g:f.width=(fW f:Int):=by unfold fW;omega
 have o:=ix f i n (fW f) j (AS _);refine pC AVZ rfl ?_;simp only[f155,go_sem,g];repeat' (first|(apply pK o;simp only[go_sem,g])|apply Pz<;>intro p<;>simp only[go_sem,p,g])
def AdD(f:Fld)(g:HP f)(n:Nat)(i:n<2^fW f):Fm AA 160 [.agg f.c,.int .i64 n] (.agg (Wy f n (fW f)).c):=by
 have j:=tM f g n i;refine pC AVG rfl ?_;simp only[f160,go_sem];repeat' (first|(apply pK j;simp only[go_sem])|apply Pz<;>intro o<;>simp only[go_sem,o])
def VU(p:Pat){k:Nat}(g:k<10):p.c[k]? =some (.int .i64 (GD p.mask k)):=by
 match k,g with
 | 0,_|1,_|2,_|3,_|4,_|5,_|6,_|7,_|8,_|9,_=>rfl
def VV(p:Pat){k:Nat}(g:k<10):p.c[10+k]? =some (.int .i64 (GD p.bits k)):=by
 match k,g with
 | 0,_|1,_|2,_|3,_|4,_|5,_|6,_|7,_|8,_|9,_=>rfl
def tJ(p:Pat)(hm:Fr p.mask=true)(hb:Fr p.bits=true)(h:E_)(hr:Fr h=true):Fm AA 154 [.agg p.c,.agg h.c] (.bool (pQ p h)):=by
 refine pC AVd rfl ?_;simp only[f154,go_sem];refine F0 (An 10) (λr=>r.all λi=>(((GD p.bits i).toNat ^^^ (GD h i).toNat) &&& (GD p.mask i).toNat)==0) (λk=>[(2,.ptr 0 0),(3,.ptr 1 0),(6,.int .i64 k)]) dc rfl ?_ ?_
 ·intro k y ys hd hx j P R hw;have o:k<10:=by
   have:=(AD.1 hx).1;simpa using this
  have hy:y=k:=by
   have:=hx;rw[List.getElem?_range o]at this;exact(Option.some.inj this).symm
  subst hy;have T:(0:Int)<=(y:Int):=Fj;have U:(y:Int)<((10:Nat):Int):=Fj;have t:=VU p o;have I:=VV p o;have J:=JL h o;have w1:=HT hm y;have w2:=HT hb y;have w3:=HT hr y;obtain⟨A,V⟩:∃W:Nat,GD p.mask y=(W:Int):=⟨(GD p.mask y).toNat,Fj⟩;obtain⟨B,hB⟩:∃W:Nat,GD p.bits y=(W:Int):=⟨(GD p.bits y).toNat,Fj⟩;obtain⟨C,hC⟩:∃W:Nat,GD h y=(W:Int):=⟨(GD h y).toNat,Fj⟩;rw[V]at t w1;rw[hB]at I w2;rw[hC]at J w3;have hx1:B ^^^ C<2^16:=Ce Fj Fj;have e1:AG8 (B:Int) (C:Int)=((B ^^^ C:Nat):Int):=AB0 Fj Fj;have e2:ABU ((B ^^^ C:Nat):Int) (A:Int)=(((B ^^^ C) &&& A:Nat):Int):=YR Fj Fj;have i2:(y:Int)<10:=Fj;have eq:((((GD p.bits y).toNat ^^^ (GD h y).toNat) &&& (GD p.mask y).toNat)==0) = !(((((B ^^^ C) &&& A:Nat):Int)) !=0):=by
   rw[V,hB,hC,AZ,AZ,AZ];generalize (B ^^^ C) &&& A=z;cases z<;>rfl
  rw[Am,eq]at j;simp only[go_sem,P,R,T,U,i2,dT,AZ,t,I,J,e1,e2];repeat' (first|apply Pz<;>intro O<;>simp only[go_sem,O,P,R,hw,T,U,i2,dT,AZ,t,I,J,e1,e2])
  ·rw[O]at j;exact congrArg AV.bool (j.trans rfl).symm
  ·rw[Am,eq,O];rfl
 ·intro j hlt;have g:decide (((10:Nat):Int)<10)=false:=dc;simp only[go_sem,List.length_range,g];exact congrArg AV.bool (j.trans rfl).symm
def O3(p:Pat)(h:E_)(n:Nat):E_ :=
 let w:=λk=>if k<n then Jj p h k else GD h k
 ⟨w 0,w 1,w 2,w 3,w 4,w 5,w 6,w 7,w 8,w 9⟩
def re(p:Pat)(h:E_):O3 p h 10=d_ p h:=rfl
def ABF(p:Pat)(h:E_){k:Nat}(g:k<10):u9 (O3 p h k) k (Jj p h k)=O3 p h (k+1):=by
 match k,g with
 | 0,_|1,_|2,_|3,_|4,_|5,_|6,_|7,_|8,_|9,_=>rfl
def ABE(p:Pat)(h:E_){k:Nat}(g:k<10):GD (O3 p h k) k=GD h k:=by
 match k,g with
 | 0,_|1,_|2,_|3,_|4,_|5,_|6,_|7,_|8,_|9,_=>rfl
def AHp(p:Pat)(hm:Fr p.mask=true)(R:Fr p.bits=true)(h:E_)(T:Fr h=true):Fm AA 159 [.agg p.c,.agg h.c] (.agg (d_ p h).c):=by
 refine pC AVK rfl ?_;simp only[f159,go_sem];refine WX 10 (λk=>[(2,.ptr 0 0),(3,.ptr 1 0),(4,.ptr 2 0),(6,.int .i64 k)]) (λk=>[some p.c,some (O3 p h k).c,some Head.z.c]) rfl rfl ?_;intro y hy;by_cases i:y<10
 ·have U:(0:Int)<=(y:Int):=Fj;have V:(y:Int)<((10:Nat):Int):=Fj;have i2:(y:Int)<10:=Fj;have t:=VU p i;have I:=VV p i;have o:=JL (O3 p h y) i;rw[ABE p h i]at o;have hw:=K_ (k:=y) Fj;have w1:=HT hm y;have w2:=HT R y;have w3:=HT T y;have st:=Sa (O3 p h y) i (Jj p h y);rw[ABF p h i]at st;have j:Jj p h y=((((GD h y).toNat ^^^ ((GD h y).toNat &&& (GD p.mask y).toNat)) ||| (GD p.bits y).toNat:Nat):Int):=rfl;obtain⟨A,J⟩:∃W:Nat,GD p.mask y=(W:Int):=⟨(GD p.mask y).toNat,Fj⟩;obtain⟨B,O⟩:∃W:Nat,GD p.bits y=(W:Int):=⟨(GD p.bits y).toNat,Fj⟩;obtain⟨C,P⟩:∃W:Nat,GD h y=(W:Int):=⟨(GD h y).toNat,Fj⟩;rw[J,O,P,AZ,AZ,AZ]at j;rw[J]at t w1;rw[O]at I w2;rw[P]at o w3;have hl:=lx (W:=C) (M:=A) Fj Fj;have e1:AAW (C:Int) (A:Int)=((C ^^^ (C &&& A):Nat):Int):=X9 Fj Fj;have e2:orI ((C ^^^ (C &&& A):Nat):Int) (B:Int)=Jj p h y:=by rw[j];exact tN Fj Fj
  have r:y<=9:=Fj;simp only[go_sem,U,V,i2,dT,AZ,t,I,o,e1,e2,st,hw,r];exact i
 ·have:y=10:=Fj;subst this;have g:decide (((10:Nat):Int)<10)=false:=dc;simp only[go_sem,g,re]
def Xz(a b:E_): ∀k,k<=10->KR (a.l.drop k) (b.l.drop k)=if k<10 then(if GD a k<GD b k then -1 else if GD b k<GD a k then 1 else KR (a.l.drop (k+1)) (b.l.drop (k+1)))else 0:=by
 intro k g;match k,g with
 | 0,_|1,_|2,_|3,_|4,_|5,_|6,_|7,_|8,_|9,_=>rfl
 | 10,_=>rfl
def ALQ(a b:E_):Fm AA 302 [.agg a.c,.agg b.c] (.int .i64 (JP a b)):=by
 refine pC AOX rfl ?_;simp only[f302,go_sem];refine JB (σ:=Nat) (λk=>[(2,.ptr 0 0),(3,.ptr 1 0),(5,.int .i64 k)]) (λk=>[some a.c,some b.c]) (λk=>k<=10/\JP a b=KR (a.l.drop k) (b.l.drop k)) (λk=>10 - k) 0 ⟨dc,rfl⟩ rfl rfl ?_;rintro k ⟨J,i⟩;rw[Xz a b k J]at i;by_cases h:k<10
 ·rw[iP h]at i;have p:(0:Int)<=(k:Int):=Fj;have r:(k:Int)<((10:Nat):Int):=Fj;have t:(k:Int)<10:=Fj;have C:=JL a h;have I:=JL b h;have O:=K_ (k:=k) Fj;simp only[go_sem,p,r,t,dT,AZ,C,I];repeat' (first|apply Pz<;>intro o<;>simp only[go_sem,o,p,r,t,dT,AZ,C,I,O])
  ·rw[i,iP (of_decide_eq_true o)]
  ·rename_i j;rw[i,iN (of_decide_eq_false j),iP (of_decide_eq_true o)]
  ·rename_i j;rw[iN (of_decide_eq_false j),iN (of_decide_eq_false o)]at i;exact⟨k+1,⟨Fj,i⟩,Fj,rfl,rfl⟩
 ·rw[iN h]at i;have:k=10:=Fj;subst this;have g:decide (((10:Nat):Int)<10)=false:=dc;simp only[go_sem,g];rw[i]
def ADP(l:List E_)(t:l.length<=9223372036854775807)(h:E_):Fm AA 236 [.sl none (F2 l),.agg h.c] (.bool (l.any λx=>decide (x=h))):=by
 refine pC ARB rfl ?_;simp only[f236,go_sem];refine F0 l (λr=>r.any λx=>decide (x=h)) (λk=>[(0,.sl none (F2 l)),(3,.ptr 0 0),(5,.int .i64 k)]) t rfl ?_ ?_
 ·intro k y I J hx g j o C;simp only[go_sem,j,o,GG hx];repeat' (first|apply Pz<;>intro p<;>simp only[go_sem,p,j,o,C,GG hx])
  ·rw[g,Av,p];rfl
 ·intro g i;simp only[go_sem,i,dF];rw[g];rfl
def Acq(l:List E_)(hl:l.length<=1048576)(h:E_):Fm AA 235 [.sl none (F2 l),.agg h.c] (.sl none (F2 (L8 h l))):=by
 have U:=λx=>ALQ x h;refine pB ARF rfl ?_;simp only[f235,go_sem];refine JB (σ:=Nat) (λk=>[(0,.sl none (F2 l)),(3,.ptr 0 0),(5,.int .i64 k)]) (λ_=>[some h.c]) (λk=>k<=l.length/\L8 h l=l.take k++L8 h (l.drop k)) (λk=>l.length - k) 0 ⟨Fj,F3⟩ rfl rfl ?_;rintro k ⟨R,g⟩;have T:=K_ (k:=k) Fj;have I:(0:Int)<=(k:Int):=Fj;by_cases j:k<l.length
 ·have J:(k:Int)<(l.length:Int):=Fj;have O:=GG (AL j);have V:=U l[k];have P:=BI j;have ht:l.take (k+1)=l.take k++[l[k]]:=(List.take_append_getElem j).symm;simp only[go_sem,I,J,dT,O];have p:(l.take k).length=k:=IG;have i:(l.take k++[h]).length=k+1:=IG;have r:(l.drop k).length=l.length - k:=F3;have t:(k:Int)<=(l.length:Int):=Fj;rw[P,L8]at g;repeat' (first|(apply pK V;simp only[go_sem,I,J,t,dT,O,T,ite_self,p,i,r])|apply Pz<;>intro C<;>simp only[go_sem,C,I,J,t,dT,O,T,ite_self,p,i,r])
  ·rw[iP (of_decide_eq_true C)]at g;exact⟨k+1,⟨Fj,by rw[ht,AF];exact g⟩,Fj,rfl,rfl⟩
  ·rename_i o;rw[iN (of_decide_eq_false o),iP (of_decide_eq_true C),<- P,List.take_append_drop]at g;rw[g]
  ·rename_i o;rw[iN (of_decide_eq_false o),iN (of_decide_eq_false C),<- P]at g;exact⟨Fj,Fj,Fj,Fj,Fj,Fj,by rw[g]⟩
 ·have R:k=l.length:=Fj;subst R;simp only[go_sem,AR,dF];have e:l.drop l.length=[]:=Cz Fj;rw[e,List.take_of_length_le (AS _)]at g;refine⟨Fj,Fj,Fj,Fj,Fj,Fj,IG,IG, ?_⟩;rw[g,e];rfl
def Qh(a b:List E_)(V:a.length+b.length<=1048576):Fm AA 140 [.sl none (F2 a),.sl none (F2 b)] (.sl none (F2 (GW a b))):=by
 refine pB AWU rfl ?_;simp only[f140,go_sem];repeat' (first|apply Pz<;>intro t<;>simp only[go_sem,t])
 refine⟨Fj,Fj, ?_⟩;refine JB (σ:=Nat×Option Nat×List E_) (λs=>[(1,.sl none (F2 b)),(5,.sl s.2.1 (F2 s.2.2)),(6,.int .i64 s.1)]) (λ_=>[]) (λs=>s.1<=b.length/\GW a b=GW s.2.2 (b.drop s.1)/\s.2.2.length<=a.length+s.1/\s.2.1.all (λn=>n==10)) (λs=>b.length - s.1) (0,some 10,a) ⟨Nat.zero_le _,rfl,AS _,rfl⟩ rfl rfl ?_;rintro ⟨k,w,o⟩ ⟨O,C,R,I⟩;dsimp only at O C R I ⊢;have J:=K_ (k:=k) Fj;have j:(0:Int)<=(k:Int):=Fj;by_cases g:k<b.length
 ·have p:(k:Int)<(b.length:Int):=Fj;have r:=GG (AL g);have P:=Acq o Fj b[k];have T:=BI g;have U:=Wv b[k] o;rw[T]at C;have i:GW a b=GW (L8 b[k] o) (b.drop (k+1)):=C;cases w with
  |none =>
   simp only[go_sem,j,p,dT,r];repeat' (first|(apply pK P;simp only[go_sem,j,p,dT,r,J])|apply Pz<;>intro t<;>simp only[go_sem,t,j,p,dT,r,J])
   exact⟨(k+1,none,L8 b[k] o),⟨g,i,by dsimp only;omega,rfl⟩,by dsimp only;omega,rfl,rfl⟩
  |some n =>
   simp only[go_sem,j,p,dT,r];repeat' (first|(apply pK P;simp only[go_sem,j,p,dT,r,J])|apply Pz<;>intro t<;>simp only[go_sem,t,j,p,dT,r,J])
   exact⟨(k+1,none,L8 b[k] o),⟨g,i,by dsimp only;omega,rfl⟩,by dsimp only;omega,rfl,rfl⟩
 ·have O:k=b.length:=Fj;subst O;have e:b.drop b.length=[]:=Cz Fj;rw[e]at C;simp only[go_sem,AR,dF];rw[C];rfl
def LP(g:List (E_->Bool))(k:Nat)(h:E_):Bool:=((g[k]?).map λf=>f h).getD false
def Jp(g:List (E_->Option (List E_)))(k:Nat)(h:E_):Option (List E_):=((g[k]?).map λf=>f h).getD none
def AJt(l:List Fld)(t k:Int)(f:ByteArray)(n m:Int)(g:List (E_->Bool))(h:E_):Bool :=
 if k=1 then true else if k=2 then false else if k=9 then decide (n<=t)&&decide (t<m)
 else if k=6 then !LP g 0 h else if k=7 then LP g 0 h&&LP g 1 h else if k=8 then LP g 0 h||LP g 1 h
 else if k=3 then decide ((It (Ft l f).1 h:Int)=n)
 else if k=4 then decide (It (Ft l f).1 h / 2^(fW (Ft l f).1 - m.toNat)=n.toNat / 2^(fW (Ft l f).1 - m.toNat))
 else decide (n<=It (Ft l f).1 h)&&decide ((It (Ft l f).1 h:Int)<=m)
mutual
def hP(l:List Fld)(t:Int):E5->E_->Bool
 |⟨k,f,n,m,g⟩=>AJt l t k f n m (UV l t g)
def UV(l:List Fld)(t:Int):List E5->List (E_->Bool)
 |[]=>[]
 |x::r=>hP l t x::UV l t r
end
def AJ5(l:List Fld)(t:Int)(x:E5):hP l t x=AJt l t x.kind x.field x.n x.m (UV l t x.args):=by cases x;rw[hP]
def AEL(l:List Fld)(t:Int): ∀r:List E5,UV l t r=r.map (hP l t)
 |[]=>by rw[UV];rfl
 |x::r=>by rw[UV,AEL l t r];rfl
def UU(l:List Fld)(t:Int){r:List E5}{k:Nat}{x:E5}(hx:r[k]? =some x)(h:E_):LP (UV l t r) k h=hP l t x h:=by
 rw[AEL,LP,Ac,hx];rfl
def OF(r:List E_):Option (List E_):=if 256<r.length then none else some r
def RO(l:List Fld)(t k:Int)(p:E5)(f:ByteArray)(n:Int)(g:List (E_->Option (List E_)))(h:E_):Option (List E_) :=
 if k=1 then some (if hP l t p h then[h]else[])
 else if k=2 then some [PK (Ft l f).1 h n.toNat]
 else if k=3 then match Jp g 0 h,Jp g 1 h with
  |some a,some b=>OF (GW a b)
  |_,_=>none
 else if k=4 then match Jp g 0 h with
  |some a=>IV (Jp g 1) [] a
  |none=>none
 else JH (Jp g 0) 300 [h] [h]
mutual
def vO(l:List Fld)(t:Int):E6->E_->Option (List E_)
 |⟨k,p,f,n,g⟩=>RO l t k p f n (Ng l t g)
def Ng(l:List Fld)(t:Int):List E6->List (E_->Option (List E_))
 |[]=>[]
 |x::r=>vO l t x::Ng l t r
end
def ACA(l:List Fld)(t:Int)(x:E6):vO l t x=RO l t x.kind x.pred x.field x.n (Ng l t x.args):=by cases x;rw[vO]
def AB_(l:List Fld)(t:Int): ∀r:List E6,Ng l t r=r.map (vO l t)
 |[]=>by rw[Ng];rfl
 |x::r=>by rw[Ng,AB_ l t r];rfl
def OU(l:List Fld)(t:Int){r:List E6}{k:Nat}{x:E6}(hx:r[k]? =some x):Jp (Ng l t r) k=vO l t x:=by
 funext h;rw[AB_,Jp,Ac,hx];rfl
def I5(r:List E_):Prop:=MM r/\r.length<=256 /\ ∀z∈r,Fr z=true
def Kb:I5 []:=⟨ACT,dc,F3⟩
def N8{h:E_}(g:Fr h=true):I5 [h]:=⟨g_ h,F3,by simpa using g⟩
def Hi{a b:List E_}(g:I5 a)(i:∀z∈b,Fr z=true)(o:¬256<(GW a b).length):I5 (GW a b):=by
 refine⟨Ro b g.1,Fj,λz j=>?_⟩;rcases(Rx z b a).1 j with h|h
 ·exact g.2.2 z h
 ·exact i z h
def N9{f:E_->Option (List E_)}(t : ∀ h r,Fr h=true->f h=some r->I5 r): ∀ (i o r:List E_),I5 o->(∀ z∈i,Fr z=true)->IV f o i=some r->I5 r
 |[],o,r,j,_,e=>by
  rw[IV]at e;cases e;exact j
 | x::i,o,r,j,hx,e=>by
  rw[IV]at e;cases g:f x with
  |none=>rw[g]at e;cases e
  | some a =>
   rw[g]at e;dsimp only at e;have C:=t x a (hx x F3) g;by_cases p:256<(GW o a).length
   ·rw[iP p]at e;cases e
   ·rw[iN p]at e;exact N9 t i _ r (Hi j C.2.2 p) (λz I=>hx z (by simp[I])) e
def Ps{o n:List E_}{z:E_}:z∈HN o n↔z∈n/\z∉o:=by
 unfold HN;rw[List.mem_filter];constructor
 ·rintro ⟨i,g⟩;refine⟨i,λj=>?_⟩;have:(o.any λy=>decide (y=z))=true:=CR.2 ⟨z,j,F3⟩;rw[this]at g;cases g
 ·rintro ⟨i,g⟩;refine⟨i, ?_⟩;have:(o.any λy=>decide (y=z))=false:=by
   rw[Bp];intro y p;simp;intro e;subst e;exact g p
  rw[this];rfl
def bE{f:E_->Option (List E_)}(j : ∀ h r,Fr h=true->f h=some r->I5 r): ∀ (k:Nat) (o n r:List E_),I5 o->(∀ z∈n,Fr z=true)->JH f k o n=some r->I5 r
 | 0,o,n,r,_,_,e=>by rw[JH]at e;cases e
 | k+1,o,n,r,p,I,e=>by
  rw[JH]at e;by_cases t:n=[]
  ·rw[iP t]at e;cases e;exact p
  ·rw[iN t]at e;cases g:IV f [] n with
   |none=>rw[g]at e;cases e
   | some m =>
    rw[g]at e;dsimp only at e;have J:=N9 j n [] m Kb I g;have C:∀z∈HN o m,Fr z=true:=λz O=>J.2.2 z (Ps.1 O).1;by_cases i:256<(GW o (HN o m)).length
    ·rw[iP i]at e;cases e
    ·rw[iN i]at e;exact bE j k _ _ r (Hi p C i) C e
def iZ(h:E_): ∀{l:List E_},h∉l->(L8 h l).length=l.length+1
 |[],_=>rfl
 |x::r,g=>by
  rw[L8];have j:¬x=h:=λe=>g (by simp[e]);have i:h∉r:=λe=>g (by simp[e]);split
  ·rw[AC,iZ h i];rfl
  ·rfl
def UI{o n:List E_}(h:HN o n≠[]):o.length<(GW o (HN o n)).length:=by
 cases g:HN o n with
 |nil=>exact absurd g h
 |cons x r =>
  have hx:x∉o:=(Ps.1 (by rw[g];simp:x∈HN o n)).2;have e:GW o (x::r)=GW (L8 x o) r:=rfl;have:=(XF r (L8 x o)).1;rw[iZ x hx]at this;rw[e];omega
def Is(l:List Fld):Prop:=∀f∈l,HP f
def pM:HP KE:=by unfold HP KE;decide
def Im{l:List Fld}(i:Is l){s:ByteArray}(h:(Ft l s).2=true):HP (Ft l s).1:=by
 unfold Ft at h ⊢;split
 ·exact pM
 ·rename_i j;rw[iN j]at h;cases g:l.find? (λf=>decide (f.name=s))with
  |none=>rw[g]at h;cases h
  |some f=>exact i f (List.mem_of_find?_eq_some g)
def Rt{n:Nat}(g:n<=16):Q7 n=((2^n:Nat):Int):=by
 have:∀k:Nat,k<17->Q7 k=((2^k:Nat):Int):=dc;exact this n Fj
def vK(n:Nat)(g:n<=16):Fm AA 79 [.int .i64 n] (.int .i64 ((2^n:Nat):Int)):=by
 have i:∀k:Nat,k<17->IntKind.i64.wrap (2*Q7 k)=Q7 (k+1):=dc;refine pC AeD rfl ?_;simp only[f79,go_sem];refine WX n (λk=>[(0,.int .i64 n),(3,.int .i64 (Q7 k)),(4,.int .i64 k)]) (λ_=>[]) rfl rfl ?_;intro k p;by_cases h:k<n
 ·have j:(k:Int)<(n:Int):=Fj;have o:=K_ (k:=k) Fj;simp only[go_sem,j,dT,o,i k Fj];exact h
 ·have:k=n:=Fj;subst this;simp only[go_sem,AR,dF];rw[Rt g]
def tG(f:Fld)(i:HP f):Fm AA 166 [.agg f.c] (.int .i64 ((2^fS f:Nat):Int)):=by
 obtain⟨d1,d2,d3⟩:=bM i;have p:=II i;have g:¬((16:Int)=0):=dc;have j:=dj (fS f:Int) Fj;rw[AZ,Rt Fj]at j;refine pC AUv rfl ?_;simp only[f166,go_sem,d2,d3,g];repeat' (first|(apply pK j;simp only[go_sem,d2,d3,g])|apply Pz<;>intro o<;>simp only[go_sem,o,d2,d3,g])
def UA(f:Fld)(i:HP f)(h:E_)(T:Fr h=true):Fm AA 78 [.agg f.c,.agg h.c] (.int .i64 (It f h)):=by
 obtain⟨d1,d2,d3⟩:=bM i;have hd:=II i;have o:=i;unfold HP at o;have U:=HT T (fK f);have p:(0:Int)<=(fK f:Int):=Fj;have r:(fK f:Int)<((10:Nat):Int):=Fj;have j:=JL h (show fK f<10 by omega);have g:¬((16:Int)=0):=dc;have V:=tG f i;have I:=dj f.width Fj;have t:Q7 f.width.toNat=((2^fW f:Nat):Int):=Rt Fj;rw[t]at I;obtain⟨W,C⟩:∃W:Nat,GD h (fK f)=(W:Int):=⟨(GD h (fK f)).toNat,Fj⟩;have hp1:0<2^fS f:=A' _;have hp2:0<2^fW f:=A' _;have J:¬(((2^fS f:Nat):Int)=0):=Fj;have O:¬(((2^fW f:Nat):Int)=0):=Fj;have hD:W / 2^fS f<=W:=D5 _ _;have P:IntKind.i64.wrap ((W:Int).tdiv ((2^fS f:Nat):Int))=((W / 2^fS f:Nat):Int):=by
  have:(W:Int).tdiv ((2^fS f:Nat):Int)=((W / 2^fS f:Nat):Int):=EY _ _;rw[this];rw[C]at U;generalize W / 2^fS f=q at hD ⊢;exact Mg Fj Fj
 have R:((W / 2^fS f:Nat):Int).tmod ((2^fW f:Nat):Int)=(It f h:Nat):=by
  rw[<- Int.ofNat_tmod];unfold It;rw[C,AZ]
 rw[C]at j;refine pC AeH rfl ?_;simp only[f78,go_sem,d1,d2,d3,p,r,j,g,AZ];repeat' (first|((first|apply pK V|apply pK I);simp only[go_sem,d1,d2,d3,p,r,j,g,J,O,P,R,AZ])|apply Pz<;>intro hc<;>simp only[go_sem,hc,d1,d2,d3,p,r,j,g,J,O,P,R,AZ])
def ADL(f:Fld)(o:HP f)(h:E_)(I:Fr h=true)(n:Nat)(J:n<2^fW f):Fm AA 138 [.agg f.c,.agg h.c,.int .i64 n] (.agg (PK f h n).c):=by
 obtain⟨d1,d2,d3⟩:=bM o;have hd:=II o;have T:=HT I (fK f);have t:(0:Int)<=(fK f:Int):=Fj;have C:(fK f:Int)<((10:Nat):Int):=Fj;have p:=JL h (show fK f<10 by omega);have i:¬((16:Int)=0):=dc;have U:=tG f o;have V:=UA f o h I;have j:fK f<=9:=Fj;obtain⟨W,r⟩:∃W:Nat,GD h (fK f)=(W:Int):=⟨(GD h (fK f)).toNat,Fj⟩;have hg:It f h=W / 2^fS f % 2^fW f:=by unfold It;rw[r,AZ]
 have hM:2^fW f<=2^16:=BO dc Fj;have hM2:2^fS f<=2^16:=BO dc Fj;have hgl:=dN f h;rw[r]at T;have hlt:=ACb (W:=W) (s:=fS f) (w:=fW f) (n:=n) Fj J Fj;have g:=AHM (W:=W) (s:=fS f) (w:=fW f) (n:=n) J;rw[<- hg]at g;have O:IntKind.i64.wrap ((n:Int) - (It f h:Nat))=(n:Int) - (It f h:Nat):=Mg Fj Fj;have P:IntKind.i64.wrap (((n:Int) - (It f h:Nat))*((2^fS f:Nat):Int))=((n:Int) - (It f h:Nat))*((2^fS f:Nat):Int):=Mg Fj Fj;have R:IntKind.i64.wrap ((W:Int)+((n:Int) - (It f h:Nat))*((2^fS f:Nat):Int))=(((W ^^^ (W &&& ((2^fW f - 1) <<< fS f))) ||| (n <<< fS f):Nat):Int):=by
  rw[g];exact Mg Fj Fj
 have e5:splice h.c (fK f) [.int .i64 (((W ^^^ (W &&& ((2^fW f - 1) <<< fS f))) ||| (n <<< fS f):Nat):Int)]=(PK f h n).c:=by
  rw[Sa h Fj];unfold PK;rw[r,AZ]
 rw[r]at p;refine pC AWc rfl ?_;simp only[f138,go_sem,d1,d2,d3,t,C,p,i,AZ];repeat' (first|((first|apply pK U|apply pK V);simp only[go_sem,d1,d2,d3,t,C,p,i,O,P,R,e5,j,AZ])|apply Pz<;>intro hc<;>simp only[go_sem,hc,d1,d2,d3,t,C,p,i,O,P,R,e5,j,AZ])
def AAJ{l:List Fld}{x y:E5}(hx:Iq l x)(j:y∈x.args):Iq l y:=by
 obtain⟨o,p⟩:=hx;rw[Ic,AQ]at o;have t:∀r:List E5,Xm r=true -> ∀z∈r,OR z=true:=by
  intro r;induction r with
  |nil=>intro _ z g;cases g
  |cons a r i =>
   intro h z g;rw[LQ,AQ]at h;rcases AY.1 g with rfl|g
   ·exact h.1
   ·exact i h.2 z g
 refine⟨t _ o.2 y j,λz g=>p z ?_⟩;have C:∀r:List E5,y∈r->z∈Nn r:=by
  intro r;induction r with
  |nil=>intro h;cases h
  |cons a r i =>
   intro h;rw[KN];rcases AY.1 h with rfl|h
   ·exact Ct _ g
   ·exact DW _ (i h)
 rw[MO];exact BX _ (C _ j)
def AhN(l:List Fld)(x:E5):Prop:=(Ft l x.field).2=true/\HP (Ft l x.field).1/\0<=x.n/\x.n.toNat<2^fW (Ft l x.field).1
def Sq{f:Fld}(g:HP f):JY f=((2^fW f - 1:Nat):Int):=by
 have h:=g;unfold HP at h;have:∀k:Nat,k<17->i64 (Q7 k - 1)=((2^k - 1:Nat):Int):=dc;exact this _ Fj
def Xl{l:List Fld}(T:Is l){x:E5}(hx:Iq l x):
  (x.kind=1)\/(x.kind=2)\/(x.kind=9)\/(x.kind=6 /\ ∃a,x.args=[a]/\Iq l a)\/((x.kind=7\/x.kind=8) /\ ∃a b,x.args=[a,b]/\Iq l a/\Iq l b) \/
  (x.kind=3/\AhN l x)\/(x.kind=4/\AhN l x/\0<=x.m/\x.m.toNat<=fW (Ft l x.field).1)\/(x.kind=5/\(Ft l x.field).2=true/\HP (Ft l x.field).1/\0<=x.n/\x.n<=x.m/\x.m.toNat<2^fW (Ft l x.field).1):=by
 have g:=hx.2 x (by rw[MO];simp);have r:=λy hy=>AAJ (y:=y) hx hy;have I:=hx.1;rw[Ic,AQ,AQ,beq_iff_eq]at I;obtain⟨⟨i,j⟩,_⟩:=I;unfold UG at i j;unfold RB at g;by_cases k1:x.kind=1
 ·exact .inl k1
 by_cases k2:x.kind=2
 ·exact .inr (.inl k2)
 rw[iN (by simp[k1,k2])]at i j;by_cases P:x.kind=3
 ·rw[iP P]at i;rw[iN (by simp[P])]at g;by_cases t:(Ft l x.field).2=false
  ·rw[iP t]at g;cases g
  ·rw[iN t,iN (by omega:¬x.kind=5)]at g;have p:(Ft l x.field).2=true:=by simpa using t
   have o:=Im T p;rw[Sq o]at g;have hp:=A' (fW (Ft l x.field).1);simp[OQ]at i;refine .inr (.inr (.inr (.inr (.inr (.inl ⟨P,p,o,i.2.1.1, ?_⟩)))));split at g
   ·cases g
   ·omega
 rw[iN P]at i j;by_cases R:x.kind=4
 ·rw[iP R]at i;rw[iN (by simp[R])]at g;by_cases t:(Ft l x.field).2=false
  ·rw[iP t]at g;cases g
  ·rw[iN t,iN (by omega:¬x.kind=5)]at g;have p:(Ft l x.field).2=true:=by simpa using t
   have o:=Im T p;have J:=o;unfold HP at J;rw[Sq o]at g;have hp:=A' (fW (Ft l x.field).1);have hW:fW (Ft l x.field).1=(Ft l x.field).1.width.toNat:=rfl;simp[OQ]at i;refine .inr (.inr (.inr (.inr (.inr (.inr (.inl ⟨R,⟨p,o,i.2.1.1, ?_⟩,i.2.2.1, ?_⟩))))))
   ·split at g
    ·cases g
    ·omega
   ·split at g
    ·cases g
    ·omega
 rw[iN R]at i j;by_cases O:x.kind=5
 ·rw[iP O]at i;rw[iN (by simp[O])]at g;by_cases t:(Ft l x.field).2=false
  ·rw[iP t]at g;cases g
  ·rw[iN t,iP O]at g;have p:(Ft l x.field).2=true:=by simpa using t
   have o:=Im T p;rw[Sq o]at g;have hp:=A' (fW (Ft l x.field).1);simp at i;refine .inr (.inr (.inr (.inr (.inr (.inr (.inr ⟨O,p,o,i.2.1,i.2.2.1, ?_⟩))))));split at g
   ·cases g
   ·omega
 rw[iN O]at i j;by_cases U:x.kind=6
 ·rw[iP U]at j;refine .inr (.inr (.inr (.inl ⟨U, ?_⟩)));match C:x.args,j with
  |[a],_=>exact⟨a,rfl,r a (by rw[C];simp)⟩
 rw[iN U]at i j;by_cases V:x.kind=7\/x.kind=8
 ·rw[iP V]at j;refine .inr (.inr (.inr (.inr (.inl ⟨V, ?_⟩))));match C:x.args,j with
  |[a,b],_=>exact⟨a,b,rfl,r a (by rw[C];simp),r b (by rw[C];simp)⟩
 rw[iN V]at i j;by_cases k9:x.kind=9
 ·exact .inr (.inr (.inl k9))
 rw[iN k9]at i;cases i
def tL(l:List Fld)(hl:Is l)(t:Int): ∀ x:E5,Iq l x -> ∀ h,Fr h=true->Fm AA 47 [.sl none (Gf l),.agg x.c,.agg h.c,.int .i64 t] (.bool (hP l t x h)):=by
 refine Jk _ λx V=>λhx h O=>?_;rw[AJ5];rcases Xl hl hx with k|k|k|⟨k,a,o,ga⟩|⟨k,a,b,o,ga,gb⟩|⟨k,hf,j,hn,hn2⟩|⟨k,⟨hf,j,hn,hn2⟩,hm,hm2⟩|⟨k,hf,j,hn,hnm,hm2⟩
 ·refine pC S7 rfl ?_;simp only[f47,go_sem,k,Int.reduceBEq];repeat' (first|apply Pz<;>intro g<;>simp only[go_sem,g,Int.reduceBEq,k])
  ·rfl
 ·refine pC S7 rfl ?_;simp only[f47,go_sem,k,Int.reduceBEq];repeat' (first|apply Pz<;>intro g<;>simp only[go_sem,g,Int.reduceBEq,k])
  ·rfl
 ·refine pC S7 rfl ?_;simp only[f47,go_sem,k,Int.reduceBEq];repeat' (first|apply Pz<;>intro g<;>simp only[go_sem,g,Int.reduceBEq,k])
  ·show AV.bool _=AV.bool (decide (x.n<=t)&&decide (t<x.m));rw[g];rfl
  ·show AV.bool _=AV.bool (decide (x.n<=t)&&decide (t<x.m));rw[g];rfl
 ·have p:=V a (by rw[o];simp) ga h O;have I:LP (UV l t x.args) 0 h=hP l t a h:=UU l t (by rw[o];rfl) h;have r:(0:Int)<(x.args.length:Int):=by rw[o];simp
  have C:=GF (l:=x.args) (i:=0) (x:=a) (by rw[o];rfl);refine pC S7 rfl ?_;simp only[f47,go_sem,k,Int.reduceBEq,r,C];repeat' (first|(apply pK p;simp only[go_sem,Int.reduceBEq,k,r,C])|apply Pz<;>intro g<;>simp only[go_sem,g,Int.reduceBEq,k,r,C])
  show _=AV.bool (!LP (UV l t x.args) 0 h);rw[I]
 ·have p:=V a (by rw[o];simp) ga h O;have J:=V b (by rw[o];simp) gb h O;have I:LP (UV l t x.args) 0 h=hP l t a h:=UU l t (by rw[o];rfl) h;have U:LP (UV l t x.args) 1 h=hP l t b h:=UU l t (by rw[o];rfl) h;have r:(0:Int)<(x.args.length:Int):=by rw[o];simp
  have C:=GF (l:=x.args) (i:=0) (x:=a) (by rw[o];rfl);have P:(1:Int)<(x.args.length:Int):=by rw[o];simp
  have R:=GF (l:=x.args) (i:=1) (x:=b) (by rw[o];rfl);rcases k with k|k
  ·refine pC S7 rfl ?_;simp only[f47,go_sem,k,Int.reduceBEq,r,C,P,R];repeat' (first|((first|apply pK p|apply pK J);simp only[go_sem,k,Int.reduceBEq,r,C,P,R])|apply Pz<;>intro g<;>simp only[go_sem,g,k,Int.reduceBEq,r,C,P,R])
   ·show _=AV.bool (LP (UV l t x.args) 0 h&&LP (UV l t x.args) 1 h);rw[I,U,g];rfl
   ·show _=AV.bool (LP (UV l t x.args) 0 h&&LP (UV l t x.args) 1 h);rw[I,U,g];rfl
  ·refine pC S7 rfl ?_;simp only[f47,go_sem,k,Int.reduceBEq,r,C,P,R];repeat' (first|((first|apply pK p|apply pK J);simp only[go_sem,k,Int.reduceBEq,r,C,P,R])|apply Pz<;>intro g<;>simp only[go_sem,g,k,Int.reduceBEq,r,C,P,R])
   ·show _=AV.bool (LP (UV l t x.args) 0 h||LP (UV l t x.args) 1 h);rw[I,U,g];rfl
   ·show _=AV.bool (LP (UV l t x.args) 0 h||LP (UV l t x.args) 1 h);rw[I,U,g];rfl
 ·have p:=K0 l x.field;have J:=UA _ j h O;refine pC S7 rfl ?_;simp only[f47,go_sem,k,Int.reduceBEq];repeat' (first|((first|apply pK p|apply pK J);simp only[go_sem,Int.reduceBEq,k])|apply Pz<;>intro g<;>simp only[go_sem,g,Int.reduceBEq,k])
  ·show _=AV.bool (decide ((It (Ft l x.field).1 h:Int)=x.n));rw[Bool.beq_eq_decide_eq]
 ·have p:=K0 l x.field;have J:=UA _ j h O;have T:=j;unfold HP at T;have hW:(Ft l x.field).1.width=(fW (Ft l x.field).1:Int):=by unfold fW;omega
  have c3:=vK (fW (Ft l x.field).1 - x.m.toNat) (by have:=II j;omega);have I:IntKind.i64.wrap ((Ft l x.field).1.width - x.m)=((fW (Ft l x.field).1 - x.m.toNat:Nat):Int):=by
   rw[Mg Fj Fj];omega
  have hp:=A' (fW (Ft l x.field).1 - x.m.toNat);have n1:¬(((2^(fW (Ft l x.field).1 - x.m.toNat):Nat):Int)=0):=Fj;refine pC S7 rfl ?_;simp only[f47,go_sem,k,Int.reduceBEq];repeat' (first|((first|apply pK p|apply pK J|apply pK c3);simp only[go_sem,Int.reduceBEq,k,I,n1])|apply Pz<;>intro g<;>simp only[go_sem,g,Int.reduceBEq,k,I,n1])
  have hgl:=dN (Ft l x.field).1 h;have hM:2^fW (Ft l x.field).1<=2^16:=BO dc (by have:=II j;omega);have hq:∀a:Nat,a<65536->IntKind.i64.wrap ((a:Int).tdiv ((2^(fW (Ft l x.field).1 - x.m.toNat):Nat):Int))=((a / 2^(fW (Ft l x.field).1 - x.m.toNat):Nat):Int):=by
   intro a o;rw[<- EY];have:=D5 a (2^(fW (Ft l x.field).1 - x.m.toNat));generalize a / 2^(fW (Ft l x.field).1 - x.m.toNat)=q at this ⊢;exact Mg Fj Fj
  have q1:=hq (It (Ft l x.field).1 h) Fj;have q2:=hq x.n.toNat Fj;rw[CK hn]at q2;rw[q1,q2];show _=AV.bool (decide (It (Ft l x.field).1 h / 2^(fW (Ft l x.field).1 - x.m.toNat)=x.n.toNat / 2^(fW (Ft l x.field).1 - x.m.toNat)));generalize It (Ft l x.field).1 h / 2^(fW (Ft l x.field).1 - x.m.toNat)=u;generalize x.n.toNat / 2^(fW (Ft l x.field).1 - x.m.toNat)=v;congr 1;rw[A9,beq_iff_eq,decide_eq_true_eq];exact Int.ofNat_inj
 ·have p:=K0 l x.field;have J:=UA _ j h O;refine pC S7 rfl ?_;simp only[f47,go_sem,k,Int.reduceBEq];repeat' (first|((first|apply pK p|apply pK J);simp only[go_sem,Int.reduceBEq,k])|apply Pz<;>intro g<;>simp only[go_sem,g,Int.reduceBEq,k])
  ·show AV.bool _=AV.bool (decide (x.n<=It (Ft l x.field).1 h)&&decide ((It (Ft l x.field).1 h:Int)<=x.m));rw[g];rfl
  ·show AV.bool _=AV.bool (decide (x.n<=It (Ft l x.field).1 h)&&decide ((It (Ft l x.field).1 h:Int)<=x.m));rw[g];rfl
def Rq:Option (List E_)->AV
 |some r => .tup [.sl none (F2 r),.int .i64 0]
 |none => .tup [.sl none [],.int .i64 2]
@[go_sem] def AbA(o:Option (List E_)):(Rq o).pure=true:=by
 cases o<;>simp[Rq,AV.pure,Fq,go_sem]
@[go_sem] def Aa'(r:List E_):Rq (some r) = .tup [.sl none (F2 r),.int .i64 0]:=rfl
@[go_sem] def AbB:Rq none = .tup [.sl none [],.int .i64 2]:=rfl
def vQ(r:List E_):Fm AA 139 [.sl none (F2 r)] (Rq (OF r)):=by
 refine pB AWY rfl ?_;simp only[f139,go_sem];repeat' (first|apply Pz<;>intro g<;>simp only[go_sem,g])
 ·rw[OF,iP (by have:=of_decide_eq_true g;omega)];rfl
 ·rw[OF,iN (by have:=of_decide_eq_false g;omega)];rfl
def AYH(f:Nat)(l:List Fld)(p:E6)(t:Int)(F:E_->Option (List E_)):Prop :=
 ∀h,Fr h=true->Fm AA f [.sl none (Gf l),.agg p.c,.agg h.c,.int .i64 t] (Rq (F h))
def tK(l:List Fld)(p:E6)(t:Int)(F:E_->Option (List E_))(hF:AYH 72 l p t F)(hg : ∀ h r,Fr h=true->F h=some r->I5 r)(P:List E_)(hx : ∀ z∈P,Fr z=true)(hl:P.length<=1048576):
  Fm AA 141 [.sl none (Gf l),.agg p.c,.sl none (F2 P),.int .i64 t] (Rq (IV F [] P)):=by
 refine pB AWQ rfl ?_;simp only[f141,go_sem];refine F6 P (λ(s:Option Nat×List E_) r=>IV F s.2 r) (λ_ s=>I5 s.2) (λk s=>[(0,.sl none (Gf l)),(2,.sl none (F2 P)),(3,.int .i64 t),(5,.ptr 0 0),(10,.sl s.1 (F2 s.2)),(11,.int .i64 k)]) (λk s=>[some p.c]) (some 10,[]) Fj Kb rfl rfl ?_ ?_
 ·rintro k ⟨w,o⟩ y ys hd g go i j C O;dsimp only at go i ⊢;have V:=hx y (AB g);have R:=hF y V;rw[IV]at i;cases T:F y with
  | none =>
   rw[T]at R i;cases w with
   |none =>
    simp only[go_sem,j,C,GG g,Int.reduceBNe];repeat' (first|(apply pK R;simp only[go_sem,j,C,O,GG g,Int.reduceBNe])|apply Pz<;>intro I<;>simp only[go_sem,I,j,C,O,GG g,Int.reduceBNe])
    rw[i];rfl
   |some n =>
    simp only[go_sem,j,C,GG g,Int.reduceBNe];repeat' (first|(apply pK R;simp only[go_sem,j,C,O,GG g,Int.reduceBNe])|apply Pz<;>intro I<;>simp only[go_sem,I,j,C,O,GG g,Int.reduceBNe])
    rw[i];rfl
  | some a =>
   rw[T]at R i;dsimp only at i;have U:=hg y a V T;have c2:=Qh o a (by have:=go.2.1;have:=U.2.1;omega);cases w with
   | none =>
    simp only[go_sem,j,C,GG g,Int.reduceBNe];repeat' (first|((first|apply pK R|apply pK c2);simp only[go_sem,j,C,O,GG g,Int.reduceBNe])|apply Pz<;>intro I<;>simp only[go_sem,I,j,C,O,GG g,Int.reduceBNe])
    ·rw[i,iP (by have:=of_decide_eq_true I;omega)];rfl
    ·have J:¬256<(GW o a).length:=by have:=of_decide_eq_false I;omega
     exact⟨(none,GW o a),by rw[IV,T];dsimp only;rw[iN J],Hi go U.2.2 J,rfl,rfl⟩
   | some n =>
    simp only[go_sem,j,C,GG g,Int.reduceBNe];repeat' (first|((first|apply pK R|apply pK c2);simp only[go_sem,j,C,O,GG g,Int.reduceBNe])|apply Pz<;>intro I<;>simp only[go_sem,I,j,C,O,GG g,Int.reduceBNe])
    ·rw[i,iP (by have:=of_decide_eq_true I;omega)];rfl
    ·have J:¬256<(GW o a).length:=by have:=of_decide_eq_false I;omega
     exact⟨(none,GW o a),by rw[IV,T];dsimp only;rw[iN J],Hi go U.2.2 J,rfl,rfl⟩
 ·rintro ⟨w,o⟩ go i;dsimp only at go i ⊢;simp only[go_sem,AR,dF];rw[i];rfl
def AAY(f:E_->Option (List E_)):Nat->List E_->List E_->Int
 | 0,_,_=>0
 |k+1,o,n=>if n=[]then 0 else match IV f [] n with
  |none=>0
  |some m=>(if HN o m=[]then 0 else 1)+AAY f k (GW o (HN o m)) (HN o m)
def ACo:Option (List E_)->Int->AV
 |some r,n => .tup [.sl none (F2 r),.int .i64 n,.int .i64 0]
 |none,_ => .tup [.sl none [],.int .i64 0,.int .i64 2]
@[go_sem] def AbF(o:Option (List E_))(n:Int):(ACo o n).pure=true:=by
 cases o<;>simp[ACo,AV.pure,Fq,go_sem]
def Ma(o:List E_)(x:E_)(r:List E_):HN o (x::r)=(if(o.any λy=>decide (y=x))=true then[]else[x])++HN o r:=by
 unfold HN;rw[List.filter_cons];cases(o.any λy=>decide (y=x))<;>rfl
def XC(o n:List E_):(HN o n).length<=n.length:=List.length_filter_le _ _
def vN(l:List Fld)(p:E6)(t:Int)(F:E_->Option (List E_))(hF:AYH 72 l p t F)(hg : ∀ h r,Fr h=true->F h=some r->I5 r)(h:E_)(hr:Fr h=true):
  Fm AA 142 [.sl none (Gf l),.agg p.c,.agg h.c,.int .i64 t] (ACo (JH F 300 [h] [h]) (AAY F 300 [h] [h])):=by
 refine pB AWM rfl ?_;simp only[f142,go_sem];refine JB (σ:=Nat×Option Nat×List E_×List E_×Nat×Bool) (λs=>[(0,.sl none (Gf l)),(3,.int .i64 t),(5,.ptr 0 0),(11,.sl s.2.1 (F2 s.2.2.1)),(12,.sl (some 10) (F2 s.2.2.2.1)),(13,.int .i64 s.2.2.2.2.1)]++bif s.2.2.2.2.2 then[(65,.bool false)]else[]) (λ_=>[some p.c,some h.c])
  (λs=>I5 s.2.2.1/\(∀z∈s.2.2.2.1,Fr z=true)/\s.2.2.2.1.length<=256/\s.2.2.2.2.1<=s.1/\s.1<=256/\(s.2.2.2.1≠[]->s.1+1<=s.2.2.1.length)/\JH F 300 [h] [h]=JH F (300 - s.1) s.2.2.1 s.2.2.2.1/\AAY F 300 [h] [h]=s.2.2.2.2.1+AAY F (300 - s.1) s.2.2.1 s.2.2.2.1/\(s.2.2.2.2.2=true->s.2.2.2.1=[]))
  (λs=>300 - s.1) (0,some 10,[h],[h],0,false) ⟨N8 hr,by simpa using hr,F3,AS _,F3,F3,rfl,F3,λh=>by cases h⟩ rfl rfl ?_
 rintro ⟨j,w,o,n,c,x⟩ ⟨go,gn,hn,I,hj,hlen,O,T,hX⟩;dsimp only at go gn hn I hj hlen O T hX ⊢;generalize JH F 300 [h] [h]=R at O ⊢;generalize AAY F 300 [h] [h]=N at T ⊢;obtain⟨k,hk⟩:∃k,300 - j=k+1:=⟨299 - j,Fj⟩;rw[hk,JH]at O;rw[hk,AAY]at T;by_cases h0:n=[]
 ·subst h0;rw[iP rfl]at O T;have U:decide ((0:Int)<((0:Nat):Int))=false:=dc;cases x with
  | true =>
   simp only[cond_true,List.cons_append,AM];cases w with
   |none =>
    simp only[go_sem,AG,U];rw[O,T,CT];rfl
   |some w =>
    simp only[go_sem,AG,U];rw[O,T,CT];rfl
  | false =>
   simp only[cond_false,Ai];cases w with
   |none =>
    simp only[go_sem,AG,U];rw[O,T,CT];rfl
   |some w =>
    simp only[go_sem,AG,U];rw[O,T,CT];rfl
 ·rw [iN h0] at O T
  have hxf:x=false:=by cases x with
   |true=>exact absurd (hX rfl) h0
   |false=>rfl
  subst hxf;simp only[cond_false,Ai];have hpos:0<n.length:=CD.2 h0;have U:((0:Int)<(n.length:Int)):=Fj;have c1:=tK l p t F hF hg n gn Fj;cases hi:IV F [] n with
  | none =>
   rw[hi]at O T c1;cases w with
   |none =>
    simp only[go_sem,U,dT];repeat' (first|(apply pK c1;simp only[go_sem,U,dT,Int.reduceBNe])|apply Pz<;>intro I<;>simp only[go_sem,I,U,dT,Int.reduceBNe])
    rw[O];rfl
   |some w =>
    simp only[go_sem,U,dT];repeat' (first|(apply pK c1;simp only[go_sem,U,dT,Int.reduceBNe])|apply Pz<;>intro I<;>simp only[go_sem,I,U,dT,Int.reduceBNe])
    rw[O];rfl
  | some m =>
   rw[hi]at O T c1;dsimp only at O T;have gm:=N9 hg n [] m Kb gn hi;cases w with
   | none =>
    simp only[go_sem,U,dT];repeat' (first|(apply pK c1;simp only[go_sem,U,dT,Int.reduceBNe])|apply Pz<;>intro I<;>simp only[go_sem,I,U,dT,Int.reduceBNe])
    refine F6 m (λ(s:List E_) r=>s++HN o r) (λk s=>s.length<=k) (λk s=>[(0,.sl none (Gf l)),(3,.int .i64 t),(5,.ptr 0 0),(11,.sl none (F2 o)),(12,.sl (some 10) (F2 s)),(13,.int .i64 c),(14,.sl none (F2 m)),(16,.int .i64 k)]) (λ_ _=>[some p.c,some h.c]) [] (by have:=gm.2.1;omega) (AS _) rfl rfl ?_ ?_
    ·intro i s y ys hd hx hs hI V h1 hw;have c2:=ADP o (by have:=go.2.1;omega) y;rw[Ma]at hI;simp only[go_sem,V,h1,GG hx];repeat' (first|(apply pK c2;simp only[go_sem,V,h1,hw,GG hx])|apply Pz<;>intro I<;>simp only[go_sem,I,V,h1,hw,GG hx])
     ·have hno:(o.any λx=>decide (x=y))=false:=by simpa using I
      have hml:=gm.2.1;exact⟨Fj,Fj,s++[y],by rw[Ma,hno,iN dc,AF],IG,rfl,rfl⟩
     ·have hno:(o.any λx=>decide (x=y))=true:=by simpa using I
      exact⟨s,by rw[Ma,hno,iP rfl];rfl,Fj,rfl,rfl⟩
    ·intro s hs hI;simp only[go_sem,AR,dF];have hsn:s=HN o m:=by simpa [HN]using hI.symm
     subst hsn;have hnl:=XC o m;have hml:=gm.2.1;have hol:=go.2.1;have c3:=Qh o (HN o m) Fj;have hjo:=hlen h0;have hcw:=K_ (k:=c) Fj;have g:300 - (j+1)=k:=Fj;have C:∀z∈HN o m,Fr z=true:=λz hz=>gm.2.2 z (Ps.1 hz).1;repeat' (first|(apply pK c3;simp only[go_sem,hcw])|apply Pz<;>intro I<;>simp only[go_sem,I,hcw])
     ·rw[O,iP (by have:=of_decide_eq_true I;omega)];rfl
     ·rename_i hc0;have P:¬256<(GW o (HN o m)).length:=by have:=of_decide_eq_false hc0;omega
      have J:HN o m≠[]:=CD.1 (by have:=of_decide_eq_true I;omega);have hmn:=UI J;rw[iN P]at O;rw[iN J]at T;refine⟨(j+1,none,GW o (HN o m),HN o m,c+1,false),⟨Hi go C P,C,by dsimp only;omega,by dsimp only;omega,by dsimp only;omega,λ_=>by dsimp only;omega,by dsimp only;rw[g];exact O,by dsimp only;rw[g,T];omega,λh=>by cases h⟩,by dsimp only;omega, ?_⟩;exact⟨rfl,rfl⟩
     ·rename_i hc0;have P:¬256<(GW o (HN o m)).length:=by have:=of_decide_eq_false hc0;omega
      have J:HN o m=[]:=Cr.1 (by have:=of_decide_eq_false I;omega);rw[iN P]at O;rw[iP J]at T;refine⟨(j+1,none,GW o (HN o m),HN o m,c,true),⟨Hi go C P,C,by dsimp only;omega,by dsimp only;omega,by dsimp only;omega,λh=>absurd J h,by dsimp only;rw[g];exact O,by dsimp only;rw[g,T];omega,λ_=>J⟩,by dsimp only;omega,rfl,rfl⟩
   | some w =>
    simp only[go_sem,U,dT];repeat' (first|(apply pK c1;simp only[go_sem,U,dT,Int.reduceBNe])|apply Pz<;>intro I<;>simp only[go_sem,I,U,dT,Int.reduceBNe])
    refine F6 m (λ(s:List E_) r=>s++HN o r) (λk s=>s.length<=k) (λk s=>[(0,.sl none (Gf l)),(3,.int .i64 t),(5,.ptr 0 0),(11,.sl (some w) (F2 o)),(12,.sl (some 10) (F2 s)),(13,.int .i64 c),(14,.sl none (F2 m)),(16,.int .i64 k)]) (λ_ _=>[some p.c,some h.c]) [] (by have:=gm.2.1;omega) (AS _) rfl rfl ?_ ?_
    ·intro i s y ys hd hx hs hI V h1 hw;have c2:=ADP o (by have:=go.2.1;omega) y;rw[Ma]at hI;simp only[go_sem,V,h1,GG hx];repeat' (first|(apply pK c2;simp only[go_sem,V,h1,hw,GG hx])|apply Pz<;>intro I<;>simp only[go_sem,I,V,h1,hw,GG hx])
     ·have hno:(o.any λx=>decide (x=y))=false:=by simpa using I
      have hml:=gm.2.1;exact⟨Fj,Fj,s++[y],by rw[Ma,hno,iN dc,AF],IG,rfl,rfl⟩
     ·have hno:(o.any λx=>decide (x=y))=true:=by simpa using I
      exact⟨s,by rw[Ma,hno,iP rfl];rfl,Fj,rfl,rfl⟩
    ·intro s hs hI;simp only[go_sem,AR,dF];have hsn:s=HN o m:=by simpa [HN]using hI.symm
     subst hsn;have hnl:=XC o m;have hml:=gm.2.1;have hol:=go.2.1;have c3:=Qh o (HN o m) Fj;have hjo:=hlen h0;have hcw:=K_ (k:=c) Fj;have g:300 - (j+1)=k:=Fj;have C:∀z∈HN o m,Fr z=true:=λz hz=>gm.2.2 z (Ps.1 hz).1;repeat' (first|(apply pK c3;simp only[go_sem,hcw])|apply Pz<;>intro I<;>simp only[go_sem,I,hcw])
     ·rw[O,iP (by have:=of_decide_eq_true I;omega)];rfl
     ·rename_i hc0;have P:¬256<(GW o (HN o m)).length:=by have:=of_decide_eq_false hc0;omega
      have J:HN o m≠[]:=CD.1 (by have:=of_decide_eq_true I;omega);have hmn:=UI J;rw[iN P]at O;rw[iN J]at T;refine⟨(j+1,none,GW o (HN o m),HN o m,c+1,false),⟨Hi go C P,C,by dsimp only;omega,by dsimp only;omega,by dsimp only;omega,λ_=>by dsimp only;omega,by dsimp only;rw[g];exact O,by dsimp only;rw[g,T];omega,λh=>by cases h⟩,by dsimp only;omega, ?_⟩;exact⟨rfl,rfl⟩
     ·rename_i hc0;have P:¬256<(GW o (HN o m)).length:=by have:=of_decide_eq_false hc0;omega
      have J:HN o m=[]:=Cr.1 (by have:=of_decide_eq_false I;omega);rw[iN P]at O;rw[iP J]at T;refine⟨(j+1,none,GW o (HN o m),HN o m,c,true),⟨Hi go C P,C,by dsimp only;omega,by dsimp only;omega,by dsimp only;omega,λh=>absurd J h,by dsimp only;rw[g];exact O,by dsimp only;rw[g,T];omega,λ_=>J⟩,by dsimp only;omega,rfl,rfl⟩
def AAK{l:List Fld}{x y:E6}(hx:IW l x)(j:y∈x.args):IW l y:=by
 obtain⟨o,p⟩:=hx;rw[I9,AQ]at o;have t:∀r:List E6,Xn r=true -> ∀z∈r,S' z=true:=by
  intro r;induction r with
  |nil=>intro _ z g;cases g
  |cons a r i =>
   intro h z g;rw[LR,AQ]at h;rcases AY.1 g with rfl|g
   ·exact h.1
   ·exact i h.2 z g
 refine⟨t _ o.2 y j,λz g=>p z ?_⟩;have C:∀r:List E6,y∈r->z∈NB r:=by
  intro r;induction r with
  |nil=>intro h;cases h
  |cons a r i =>
   intro h;rw[JX];rcases AY.1 h with rfl|h
   ·exact Ct _ g
   ·exact DW _ (i h)
 rw[Ld];exact BX _ (C _ j)
def SF{l:List Fld}(T:Is l){x:E6}(hx:IW l x):
  (x.kind=1/\Iq l x.pred)\/(x.kind=2/\HP (Ft l x.field).1/\(Ft l x.field).2=true/\0<=x.n/\x.n.toNat<2^fW (Ft l x.field).1) \/
  ((x.kind=3\/x.kind=4) /\ ∃a b,x.args=[a,b]/\IW l a/\IW l b)\/(x.kind=5 /\ ∃a,x.args=[a]/\IW l a):=by
 have g:=hx.2 x (by rw[Ld];simp);have o:=λy U=>AAK (y:=y) hx U;have r:=hx.1;rw[I9,AQ,AQ,beq_iff_eq]at r;obtain⟨⟨j,i⟩,_⟩:=r;unfold W_ at j i;unfold So at g;by_cases I:x.kind=1
 ·rw[iP I]at j g;rw[AQ]at j;exact .inl ⟨I,j.1,(Qt l _).1 g⟩
 rw[iN I]at j i g;by_cases J:x.kind=2
 ·rw[iP J]at j g;by_cases O:(Ft l x.field).2=false
  ·rw[iP O]at g;cases g
  ·rw[iN O]at g;have t:(Ft l x.field).2=true:=by simpa using O
   have C:=Im T t;rw[Sq C]at g;have V:=A' (fW (Ft l x.field).1);simp[OQ]at j;refine .inr (.inl ⟨J,C,t,j.2.2.1, ?_⟩);split at g
   ·cases g
   ·omega
 rw[iN J]at j i;by_cases P:x.kind=3\/x.kind=4
 ·rw[iP P]at i;refine .inr (.inr (.inl ⟨P, ?_⟩));match p:x.args,i with
  |[a,b],_=>exact⟨a,b,rfl,o a (by rw[p];simp),o b (by rw[p];simp)⟩
 rw[iN P]at j i;by_cases R:x.kind=5
 ·rw[iP R]at i;refine .inr (.inr (.inr ⟨R, ?_⟩));match p:x.args,i with
  |[a],_=>exact⟨a,rfl,o a (by rw[p];simp)⟩
 rw[iN R]at j;cases j
def ML(l:List Fld)(hl:Is l)(t:Int): ∀ x:E6,IW l x -> ∀ h r,Fr h=true->vO l t x h=some r->I5 r:=by
 refine IM _ λx J=>λhx h r i e=>?_;rw[ACA]at e;unfold RO at e;rcases SF hl hx with⟨k,gp⟩|⟨k,O,hft,hn,P⟩|⟨k,a,b,j,R,gb⟩|⟨k,a,j,R⟩
 ·rw[iP k]at e;have I:=Option.some.inj e;by_cases V:hP l t x.pred h=true
  ·rw[iP V]at I;rw[<- I];exact N8 i
  ·rw[iN V]at I;rw[<- I];exact Kb
 ·rw[iN Fj,iP k]at e;cases e;exact N8 (OY O P i)
 ·have T:Jp (Ng l t x.args) 0=vO l t a:=OU l t (by rw[j];rfl);have e1:Jp (Ng l t x.args) 1=vO l t b:=OU l t (by rw[j];rfl);rw[T,e1]at e;have p:=J a (by rw[j];simp) R;have C:=J b (by rw[j];simp) gb;rcases k with k|k
  ·rw [iN Fj,iN Fj,iP k] at e
   cases g:vO l t a h with
   |none=>rw[g]at e;cases e
   | some u =>
    cases o:vO l t b h with
    |none=>rw[g,o]at e;cases e
    | some v =>
     rw[g,o]at e;dsimp only[OF]at e;by_cases U:256<(GW u v).length
     ·rw[iP U]at e;cases e
     ·rw[iN U]at e;cases e;exact Hi (p h u i g) (C h v i o).2.2 U
  ·rw[iN Fj,iN Fj,iN Fj,iP k]at e;cases g:vO l t a h with
   |none=>rw[g]at e;cases e
   |some u =>
    rw[g]at e;exact N9 C u [] r Kb (p h u i g).2.2 e
 ·have T:Jp (Ng l t x.args) 0=vO l t a:=OU l t (by rw[j];rfl);rw[iN Fj,iN Fj,iN Fj,iN Fj,T]at e;exact bE (J a (by rw[j];simp) R) 300 [h] [h] r (N8 i) (by simpa using i) e
@[go_sem] def AbE(r:List E_)(n:Int):ACo (some r) n = .tup [.sl none (F2 r),.int .i64 n,.int .i64 0]:=rfl
@[go_sem] def AbG(n:Int):ACo none n = .tup [.sl none [],.int .i64 0,.int .i64 2]:=rfl
def ADQ(l:List Fld)(hl:Is l)(t:Int): ∀ x:E6,IW l x->AYH 72 l x t (vO l t x):=by
 refine IM _ λx ih=>λhx h U=>?_;rw[ACA];rcases SF hl hx with⟨k,gp⟩|⟨k,hfo,hft,hn,hn2⟩|⟨k,a,b,J,ga,gb⟩|⟨k,a,J,ga⟩
 ·have I:=tL l hl t x.pred gp h U;refine pB PC rfl ?_;simp only[f72,go_sem,k,Int.reduceBEq];repeat' (first|(apply pK I;simp only[go_sem,k,Int.reduceBEq])|apply Pz<;>intro C<;>simp only[go_sem,C,k,Int.reduceBEq])
  ·show _=Rq (some (if hP l t x.pred h=true then[h]else[]));rw[iP C];rfl
  ·show _=Rq (some (if hP l t x.pred h=true then[h]else[]));rw[iN (by rw[C];decide)];rfl
 ·have I:=K0 l x.field;have P:=ADL _ hfo h U x.n.toNat hn2;rw[CK hn]at P;refine pB PC rfl ?_;simp only[f72,go_sem,k,Int.reduceBEq];repeat' (first|((first|apply pK I|apply pK P);simp only[go_sem,k,Int.reduceBEq])|apply Pz<;>intro C<;>simp only[go_sem,C,k,Int.reduceBEq])
  rfl
 ·have V:Jp (Ng l t x.args) 0=vO l t a:=OU l t (by rw[J];rfl);have e1:Jp (Ng l t x.args) 1=vO l t b:=OU l t (by rw[J];rfl);have i0:=ih a (by rw[J];simp) ga;have i1:=ih b (by rw[J];simp) gb;have v0:=ML l hl t a ga;have v1:=ML l hl t b gb;have g:(0:Int)<(x.args.length:Int):=by rw[J];simp
  have j:=Fy (l:=x.args) (i:=0) (x:=a) (by rw[J];rfl);have o:(1:Int)<(x.args.length:Int):=by rw[J];simp
  have p:=Fy (l:=x.args) (i:=1) (x:=b) (by rw[J];rfl);have I:=i0 h U;have P:=i1 h U;rcases k with k|k
  ·cases O:vO l t a h with
   | none =>
    rw[O]at I;cases T:vO l t b h with
    |none =>
     rw[T]at P;refine pB PC rfl ?_;simp only[f72,go_sem,k,Int.reduceBEq,g,j,o,p];repeat' (first|((first|apply pK I|apply pK P);simp only[go_sem,k,Int.reduceBEq,Int.reduceBNe,g,j,o,p])|apply Pz<;>intro C<;>simp only[go_sem,C,k,Int.reduceBEq,Int.reduceBNe,g,j,o,p])
     show _=Rq (match Jp (Ng l t x.args) 0 h,Jp (Ng l t x.args) 1 h with|some a,some b=>OF (GW a b)|_,_=>none);rw[V,e1,O,T];rfl
    |some v =>
     rw[T]at P;refine pB PC rfl ?_;simp only[f72,go_sem,k,Int.reduceBEq,g,j,o,p];repeat' (first|((first|apply pK I|apply pK P);simp only[go_sem,k,Int.reduceBEq,Int.reduceBNe,g,j,o,p])|apply Pz<;>intro C<;>simp only[go_sem,C,k,Int.reduceBEq,Int.reduceBNe,g,j,o,p])
     show _=Rq (match Jp (Ng l t x.args) 0 h,Jp (Ng l t x.args) 1 h with|some a,some b=>OF (GW a b)|_,_=>none);rw[V,e1,O,T];rfl
   | some u =>
    rw[O]at I;cases T:vO l t b h with
    |none =>
     rw[T]at P;refine pB PC rfl ?_;simp only[f72,go_sem,k,Int.reduceBEq,g,j,o,p];repeat' (first|((first|apply pK I|apply pK P);simp only[go_sem,k,Int.reduceBEq,Int.reduceBNe,g,j,o,p])|apply Pz<;>intro C<;>simp only[go_sem,C,k,Int.reduceBEq,Int.reduceBNe,g,j,o,p])
     show _=Rq (match Jp (Ng l t x.args) 0 h,Jp (Ng l t x.args) 1 h with|some a,some b=>OF (GW a b)|_,_=>none);rw[V,e1,O,T];rfl
    | some v =>
     rw[T]at P;have gu:=v0 h u U O;have gv:=v1 h v U T;have c3:=Qh u v (by have:=gu.2.1;have:=gv.2.1;omega);have c4:=vQ (GW u v);have R:RO l t 3 x.pred x.field x.n (Ng l t x.args) h=OF (GW u v):=by
      show(match Jp (Ng l t x.args) 0 h,Jp (Ng l t x.args) 1 h with|some a,some b=>OF (GW a b)|_,_=>none)=_;rw[V,e1,O,T]
     rw[k,R];cases eo:OF (GW u v)with
     |none =>
      rw[eo]at c4;refine pB PC rfl ?_;simp only[f72,go_sem,k,Int.reduceBEq,g,j,o,p];repeat' (first|((first|apply pK I|apply pK P|apply pK c3|apply pK c4);simp only[go_sem,k,Int.reduceBEq,Int.reduceBNe,g,j,o,p])|apply Pz<;>intro C<;>simp only[go_sem,C,k,Int.reduceBEq,Int.reduceBNe,g,j,o,p])
     |some r =>
      rw[eo]at c4;refine pB PC rfl ?_;simp only[f72,go_sem,k,Int.reduceBEq,g,j,o,p];repeat' (first|((first|apply pK I|apply pK P|apply pK c3|apply pK c4);simp only[go_sem,k,Int.reduceBEq,Int.reduceBNe,g,j,o,p])|apply Pz<;>intro C<;>simp only[go_sem,C,k,Int.reduceBEq,Int.reduceBNe,g,j,o,p])
  ·cases O:vO l t a h with
   |none =>
    rw[O]at I;refine pB PC rfl ?_;simp only[f72,go_sem,k,Int.reduceBEq,g,j,o,p];repeat' (first|(apply pK I;simp only[go_sem,k,Int.reduceBEq,Int.reduceBNe,g,j,o,p])|apply Pz<;>intro C<;>simp only[go_sem,C,k,Int.reduceBEq,Int.reduceBNe,g,j,o,p])
    show _=Rq (match Jp (Ng l t x.args) 0 h with|some a=>IV (Jp (Ng l t x.args) 1) [] a|none=>none);rw[V,O];rfl
   | some u =>
    rw[O]at I;have gu:=v0 h u U O;have c3:=tK l b t _ i1 v1 u gu.2.2 (by have:=gu.2.1;omega);have R:RO l t 4 x.pred x.field x.n (Ng l t x.args) h=IV (vO l t b) [] u:=by
     show(match Jp (Ng l t x.args) 0 h with|some a=>IV (Jp (Ng l t x.args) 1) [] a|none=>none)=_;rw[V,e1,O]
    rw[k,R];cases eo:IV (vO l t b) [] u with
    |none =>
     rw[eo]at c3;refine pB PC rfl ?_;simp only[f72,go_sem,k,Int.reduceBEq,g,j,o,p];repeat' (first|((first|apply pK I|apply pK c3);simp only[go_sem,k,Int.reduceBEq,Int.reduceBNe,g,j,o,p])|apply Pz<;>intro C<;>simp only[go_sem,C,k,Int.reduceBEq,Int.reduceBNe,g,j,o,p])
    |some r =>
     rw[eo]at c3;refine pB PC rfl ?_;simp only[f72,go_sem,k,Int.reduceBEq,g,j,o,p];repeat' (first|((first|apply pK I|apply pK c3);simp only[go_sem,k,Int.reduceBEq,Int.reduceBNe,g,j,o,p])|apply Pz<;>intro C<;>simp only[go_sem,C,k,Int.reduceBEq,Int.reduceBNe,g,j,o,p])
 ·have V:Jp (Ng l t x.args) 0=vO l t a:=OU l t (by rw[J];rfl);have i0:=ih a (by rw[J];simp) ga;have v0:=ML l hl t a ga;have g:(0:Int)<(x.args.length:Int):=by rw[J];simp
  have j:=Fy (l:=x.args) (i:=0) (x:=a) (by rw[J];rfl);have o:=g;have p:=j;have I:=vN l a t _ i0 v0 h U;have R:RO l t 5 x.pred x.field x.n (Ng l t x.args) h=JH (vO l t a) 300 [h] [h]:=by
   show JH (Jp (Ng l t x.args) 0) 300 [h] [h]=_;rw[V]
  rw[k,R];cases eo:JH (vO l t a) 300 [h] [h]with
  |none =>
   rw[eo]at I;refine pB PC rfl ?_;simp only[f72,go_sem,k,Int.reduceBEq,g,j,o,p];repeat' (first|(apply pK I;simp only[go_sem,k,Int.reduceBEq,Int.reduceBNe,g,j,o,p])|apply Pz<;>intro C<;>simp only[go_sem,C,k,Int.reduceBEq,Int.reduceBNe,g,j,o,p])
  |some r =>
   rw[eo]at I;refine pB PC rfl ?_;simp only[f72,go_sem,k,Int.reduceBEq,g,j,o,p];repeat' (first|(apply pK I;simp only[go_sem,k,Int.reduceBEq,Int.reduceBNe,g,j,o,p])|apply Pz<;>intro C<;>simp only[go_sem,C,k,Int.reduceBEq,Int.reduceBNe,g,j,o,p])
inductive RchH (f:E_->Option (List E_)) (x:E_):E_->Prop
 |refl:RchH f x x
 |step {y z:E_} {b:List E_}:RchH f x y->f y=some b->z∈b->RchH f x z
def RchH.trans{f:E_->Option (List E_)}{x y z:E_}(g:RchH f x y)(i:RchH f y z):RchH f x z:=by
 induction i with
 |refl=>exact g
 |step _ h3 h4 j=>exact j.step h3 h4
def RchH.closed{f:E_->Option (List E_)}{S:E_->Prop}(g:∀x,S x -> ∀b,f x=some b -> ∀z∈b,S z){x z:E_}(hx:S x)(h:RchH f x z):S z:=by
 induction h with
 |refl=>exact hx
 |step _ h3 h4 i=>exact g _ i _ h3 _ h4
def Pj{h:E_}(g:Fr h=true){n:Int}(i:0<=n)(j:n<=65535):Fr { h with h0:=n }=true :=
 U' g 0 i j
end Go.AI
