/- Contracts of the program's names and sizes. -/
import Derived.Test.YtofajkggflobkaaGreatDoorMg
import Derived.Sort.Walk0
set_option linter.unusedSimpArgs false
set_option linter.unusedVariables false
set_option linter.defProp false
open Go.Proofs.Tryz
open Go.AI renaming Pred->Ep,Policy->Er,Sizes->Es,Stage->Et,Tenant->Eu,Head->Ev
open Bool renaming and_eq_true->AQ,and_false->Dg,and_true->Bj,eq_iff_iff->BA,false_or->BM,not_eq_true->Dd,not_false->Ax,not_true->Av,or_eq_false_iff->CE,or_eq_true->CH,true_and->By,true_or->BX
open Int renaming fdiv_eq_ediv_of_nonneg->Dl,lt_irrefl->AW,toNat_natCast->Aa,toNat_one->EH
open Go.IntKind renaming bits->DI,signed->Dk,wrap->Dj
open List renaming all_cons->Al,all_eq_true->An,any_cons->Au,any_eq_false->Bl,any_eq_true->CZ,drop_eq_getElem_cons->BL,drop_zero->BO,ext_getElem?->A5,find?_cons->Bz,foldl_cons->CD,getD_eq_getElem?_getD->Cs,getElem?_append_left->AT,getElem?_append_right->AM,getElem?_eq_getElem->AL,getElem?_eq_none->Az,getElem?_eq_some_iff->AC,getElem?_map->Ab,getElem?_set->Aw,length_append->AF,length_cons->AD,length_map->Aq,map_map->Bx,mem_append->As,mem_append_left->Cn,mem_append_right->DM,mem_cons->AX,mem_cons_of_mem->CJ,mem_map->AP,mem_of_getElem?->AB,mem_range->Bp,mem_singleton->Ac,pairwise_cons->Bk,range->Am,takeWhile->EG,take_add_one->BE,take_length->BH
open Nat renaming add_comm->CC,and_le_left->DJ,and_lt_two_pow->Dm,and_two_pow_sub_one_eq_mod->EO,eq_of_testBit_eq->EM,le_refl->AU,le_trans->AK,lt_of_le_of_lt->CY,lt_of_lt_of_le->BR,lt_or_ge->BN,min_eq_left->B6,mod_eq_of_lt->Bv,mul_lt_mul_of_pos_right->EJ,or_lt_two_pow->EI,pow_add->EK,pow_le_pow_right->Ba,shiftLeft_eq->Dn,sub_self->AO,succ_mul->DU,testBit_and->Ct,testBit_div_two_pow->Cu,testBit_lt_two_pow->EN,testBit_shiftLeft->DK,testBit_two_pow_sub_one->EL,testBit_xor->Do,two_pow_pos->BZ,xor_lt_two_pow->Ca
open Go.Proofs.Tryz renaming prog->AA
namespace Go.AI
open Go.Proofs
set_option maxRecDepth 50000
@[go_sem] def AU9{P:Program}{t:TypeId}{x y:ByteArray}{d:Tmp}{K:Kt}{e:Fs}{H:FP}:JF P .lss t (.str x) (.str y) d K e H=K ((d,.bool (Op.bytesLess x.toList y.toList))::e) H:=by rw [O7];simp [KE]
@[go_sem] def Af7{P:Program}{o:Option TypeId}{e:Fs}:G7 P o e (.global 0) = .cptr (HK.map AV.str) 0:=rfl
def pU{P:Program}{f:FuncId}{vs:List AV}{d:Option Tmp}{K:Kt}{e:Fs}{H:FP}{v:AV}(h:FQ P f vs v)(hk:K (put d v e) H):Fr P f vs d K e H :=
 (h H).mono λv' H' hr=>by obtain ⟨rfl,rfl⟩:=hr;exact hk
def GK(P:Program)(f:FuncId)(vs:List AV)(H:FP)(v:AV):Prop:=FV P f vs H λv' H'=>v'=v/\H'=H
def pT{P:Program}{f:FuncId}{vs:List AV}{d:Option Tmp}{K:Kt}{e:Fs}{H:FP}{v:AV}(h:GK P f vs H v)(hk:K (put d v e) H):Fr P f vs d K e H :=
 h.mono λv' H' hr=>by obtain ⟨rfl,rfl⟩:=hr;exact hk
def aP{P:Program}{f:FuncId}{vs:List AV}{d:Option Tmp}{K:Kt}{e:Fs}{H:FP}{v:AV}(h:FQ P f vs v)(hk:K (put d v e) H):Fr P f vs d K e H:=pU h hk
def aS{P:Program}{f:FuncId}{vs:List AV}{d:Option Tmp}{K:Kt}{e:Fs}{H:FP}{v:AV}(h:GK P f vs H v)(hk:K (put d v e) H):Fr P f vs d K e H:=pT h hk
def TV(a b:ByteArray):Bool:=Op.bytesLess a.toList b.toList
def Z7(a:ByteArray):TV a a=false:=by
 unfold TV;rw [Go.Proofs.bytesLess_eq];simp [List.lt_irrefl]
def AAv{a b c:ByteArray}(h1:TV a b=true)(h2:TV b c=true):TV a c=true:=by
 unfold TV at *;rw [Go.Proofs.bytesLess_eq,decide_eq_true_eq] at *;exact List.lt_trans h1 h2
def Yn(c lo hi:Int):FQ AA 342 [.int .u8 c,.int .u8 lo,.int .u8 hi] (.bool (decide (lo<=c)&&decide (c<=hi))):=by
 refine pC AJF rfl ?_
 simp only [f342,go_sem]
 repeat' (first|(first|apply cS|apply gS)<;>intro hc<;>simp only [go_sem,hc])
 all_goals grind
def VK(c:UInt8):FQ AA 328 [.int .u8 c.toNat] (.bool (loB c)):=by
 refine pC AJX rfl ?_
 simp only [f328,go_sem]
 repeat' (first|(refine pK (Yn _ _ _) ?_;simp only [go_sem])|(first|apply cS|apply gS)<;>intro hc<;>simp only [go_sem,hc])
 all_goals first|rfl|(simp only [loB,bz])
def ru(c:UInt8):FQ AA 345 [.int .u8 c.toNat] (.bool (dgB c)):=by
 refine pC AI6 rfl ?_
 simp only [f345,go_sem]
 repeat' (first|(refine pK (Yn _ _ _) ?_;simp only [go_sem])|(first|apply cS|apply gS)<;>intro hc<;>simp only [go_sem,hc])
 all_goals first|rfl|(simp only [dgB,bz])
def Zt(c:UInt8):FQ AA 332 [.int .u8 c.toNat] (.bool (wdB c)):=by
 refine pC AJL rfl ?_
 simp only [f332,go_sem]
 repeat' (first|((first|refine pK (VK _) ?_|refine pK (ru _) ?_);simp only [go_sem])|(first|apply cS|apply gS)<;>intro hc<;>simp only [go_sem,hc])
 all_goals (simp only [wdB,bz];grind)
def lV(s:ByteArray):FQ AA 116 [.str s] (.bool false):=by
 refine pC AQ0 rfl ?_
 simp only [f116,go_sem,beq_self_eq_true,Av]
def AAK(s:ByteArray):FQ AA 344 [.str s] (.bool false):=by
 refine pC AI9 rfl ?_
 simp only [f344,go_sem,beq_self_eq_true,Av]
def AH9(a b:ByteArray):FQ AA 343 [.str a,.str b] (.bool (TV a b)):=by
 refine pC AJC rfl ?_
 simp only [f343,go_sem]
 repeat' (first|(refine pK (lV _) ?_;simp only [go_sem])|(first|apply cS|apply gS)<;>intro hc<;>simp only [go_sem,hc])
 all_goals rfl
def bsI(s:ByteArray):Nat:=(HK.takeWhile λw=>TV w s).length
def NM : ∀ i j:Nat,i<j->j<49->TV (HK.getD i ⟨#[]⟩) (HK.getD j ⟨#[]⟩)=true:=by
 have h:((Am 49).all λj=>(Am j).all λi=>TV (HK.getD i ⟨#[]⟩) (HK.getD j ⟨#[]⟩))=true:=kr
 intro i j hi hj
 have h1:=An.1 h j (Bp.2 hj)
 exact An.1 h1 i (Bp.2 hi)
def Mj:HK.length=49:=rfl
def P2{α:Type}{p:α->Bool}: ∀ (l:List α) (n:Nat),n<=l.length->(∀ k x,l[k]? =some x->k<n->p x=true)->(∀ x,l[n]? =some x->p x=false)->(l.takeWhile p).length=n
 | [],n,hn,_,_=>by simp at hn;subst hn;rfl
 | y::l,0,_,_,h2=>by
  have:=h2 y rfl
  simp [EG,this]
 | y::l,n+1,hn,h1,h2=>by
  have hy:=h1 0 y rfl FO
  simp only [EG,hy,AD]
  rw [P2 l n (by simp at hn;omega) (λk x hk hl=>h1 (k+1) x (by simpa using hk) FO) (λx hx=>h2 x (by simpa using hx))]
def yv{s:ByteArray}{i:Nat}(hi:i<=49)(h1 : ∀ k,k<i->TV (HK.getD k ⟨#[]⟩) s=true)(h2 : ∀ k,i<=k->k<49->TV (HK.getD k ⟨#[]⟩) s=false):
  TK s=(decide (i<49)&&decide (HK.getD i ⟨#[]⟩=s)):=by
 rw [BA,AQ,decide_eq_true_eq,decide_eq_true_eq,TK,CZ]
 constructor
 ·rintro ⟨w,hw,he⟩
  have he:w=s:=by simpa using he
  subst he
  obtain ⟨m,hm⟩:=List.getElem?_of_mem hw
  have hml:m<49:=by have:=(AC.1 hm).1;rw [Mj] at this;exact this
  have hmg:HK.getD m ⟨#[]⟩=w:=by rw [Cs,hm];rfl
  rcases BN m i with h|h
  ·have:=h1 m h;rw [hmg,Z7] at this;cases this
  ·rcases BN i m with h'|h'
   ·have:=NM i m h' hml
    rw [hmg] at this
    rw [h2 i (AU _) FO] at this;cases this
   ·have:i=m:=FO
    subst this
    exact ⟨hml,hmg⟩
 ·rintro ⟨hl,he⟩
  have hm:HK.getD i ⟨#[]⟩∈HK:=by
   have:=AL (l:=HK) (i:=i) (by rw [Mj];exact hl)
   rw [Cs,this]
   exact List.getElem_mem _
  exact ⟨_,hm,decide_eq_true he⟩
def Ut{k:Nat}(h:k<49):(HK.map AV.str)[k]? =some (.str (HK.getD k ⟨#[]⟩)):=by
 rw [Ab,Cs,AL (by rw [Mj];exact h)];rfl
@[go_sem] def AGl:A' (HK.map AV.str)=true:=kr
@[go_sem] def AHo:(HK.map AV.str).length=49:=rfl
@[go_sem] def AVB{P:Program}{t:TypeId}{x:Int}{d:Tmp}{K:Kt}{e:Fs}{H:FP}:JF P .shr t (.int .u64 x) (.int .u64 1) d K e H=K ((d,.int .u64 (x.fdiv 2))::e) H:=by
 rw [HP];simp [KE,DI]
def Acu{i j:Nat}(hj:j<=49)(hi:i<j):IntKind.i64.wrap ((IntKind.u64.wrap (IntKind.i64.wrap ((i:Int)+(j:Int)))).fdiv 2)=(((i+j) / 2:Nat):Int):=by
 have e1:IntKind.i64.wrap ((i:Int)+(j:Int))=((i+j:Nat):Int):=OA FO FO
 rw [e1]
 have e2:IntKind.u64.wrap ((i+j:Nat):Int)=((i+j:Nat):Int):=by
  simp [Dj,Dk,DI];omega
 rw [e2]
 have e3:((i+j:Nat):Int).fdiv 2=(((i+j) / 2:Nat):Int):=by
  rw [Dl _ dc];omega
 rw [e3]
 exact OA FO FO
set_option maxHeartbeats 2000000 in
def AAF(s:ByteArray):FQ AA 329 [.sl none (HK.map AV.str),.str s] (.tup [.int .i64 (bsI s),.bool (TK s)]):=by
 refine pB AJU rfl ?_
 simp only [f329,go_sem]
 refine Ko (σ:=Nat×Nat) (λs2=>[(0,.sl none (HK.map AV.str)),(1,.str s),(6,.int .i64 49),(7,.int .i64 s2.1),(8,.int .i64 s2.2)]) (λ_=>[]) (λs2=>s2.1<=s2.2/\s2.2<=49/\(∀ k,k<s2.1->TV (HK.getD k ⟨#[]⟩) s=true)/\(∀ k,s2.2<=k->k<49->TV (HK.getD k ⟨#[]⟩) s=false)) (λs2=>s2.2 - s2.1) (0,49) ⟨FO,FO,λk hk=>FO,λk h1 h2=>FO⟩ rfl rfl ?_
 rintro ⟨i,j⟩ ⟨hij,hj,h1,h2⟩
 by_cases hlt:i<j
 ·have g1:(i:Int)<(j:Int):=FO
  have g2:(0:Int)<=(((i+j) / 2:Nat):Int):=FO
  have g3:(((i+j) / 2:Nat):Int).toNat=(i+j) / 2:=FO
  have hm:(i+j) / 2<49:=FO
  have hw:=Mk (k:=(i+j) / 2) FO
  simp only [go_sem,g1,dT,Acu hj hlt,g2,g3,Ut hm]
  repeat' (first|(refine pK (AH9 _ _) ?_;simp only [go_sem])|(first|apply cS|apply gS)<;>intro hc<;>simp only [go_sem,hc,hw])
  ·exact ⟨((i+j) / 2+1,j),⟨FO,hj,λk hk=>by
    rcases BN k ((i+j) / 2) with h|h
    ·exact AAv (NM _ _ h hm) hc
    ·have:k=(i+j) / 2:=FO
     subst this;exact hc,h2⟩,FO,rfl,rfl⟩
  ·exact ⟨(i,(i+j) / 2),⟨FO,FO,h1,λk hk hk9=>by
    rcases BN ((i+j) / 2) k with h|h
    ·cases hq:TV (HK.getD k ⟨#[]⟩) s with
     | false=>rfl
     | true=>rw [AAv (NM _ _ h hk9) hq] at hc;cases hc
    ·have:k=(i+j) / 2:=FO
     subst this;exact hc⟩,FO,rfl,rfl⟩
 ·have hij:i=j:=FO
  subst hij
  have g1 : ¬ (i:Int)<(i:Int):=FO
  have hwb:TK s=(decide (i<49)&&decide (HK.getD i ⟨#[]⟩=s)):=yv hj h1 h2
  have hbs:bsI s=i:=P2 HK i (by rw [Mj];exact hj) (λk x hk hl=>by
   have:=h1 k hl;rw [Cs,hk] at this;exact this) (λx hx=>by
   have:=h2 i (AU _) (by have:=(AC.1 hx).1;rw [Mj] at this;exact this)
   rw [Cs,hx] at this;exact this)
  by_cases h49:i<49
  ·have g3:(i:Int)<49:=FO
   have g4:(0:Int)<=(i:Int):=FO
   simp only [go_sem,g1,dF,g3,g4,dT,Ut h49,FN]
   repeat' (first|(refine pK (AAK _) ?_;simp only [go_sem])|(first|apply cS|apply gS)<;>intro hc<;>simp only [go_sem,hc,g4,Ut h49,Aa])
   all_goals (rw [hbs,hwb,hc];simp only [h49,dT,Dg,Ax,Bj])
  ·have g3 : ¬ (i:Int)<49:=FO
   simp only [go_sem,g1,dF,g3]
   repeat' (first|(refine pK (AAK _) ?_;simp only [go_sem,g1,g3])|(first|apply cS|apply gS)<;>intro hc<;>simp only [go_sem,hc,g1,g3])
   all_goals (rw [hbs,hwb];simp [h49])
def AB9(s:ByteArray){k:Nat}(h:k<=s.size):(s.extract k s.size).size=s.size - k:=by simp [ByteArray.size_extract]
def AFY(s:ByteArray){k:Nat}(h:k<s.size):((s.extract k s.size).data[0]?).getD 0=(s.data[k]?).getD 0:=by
 have:(s.extract k s.size).data=s.data.extract k s.size:=by simp [ByteArray.data_extract]
 have h2:s.size=s.data.size:=rfl
 rw [this,Array.getElem?_extract]
 have h3:0<s.size - k:=FO
 simp [<- h2,h,h3]
def AEx(s:ByteArray)(h:0<s.size):FQ AA 331 [.str s] (.bool (wdB ((s.data[0]?).getD 0))):=by
 have h0:(0:Int)<(s.size:Int):=FO
 refine pC AJO rfl ?_
 simp only [f331,go_sem,h0]
 repeat' (first|(refine pK (Zt _) ?_;simp only [go_sem])|(first|apply cS|apply gS)<;>intro hc<;>simp only [go_sem,hc,h0])
def AAH(s:ByteArray)(hs:s.size<=1073741824):FQ AA 330 [.str s,.fn (.func 331) [] []] (.str (s.extract 0 (MQ s.data.toList))):=by
 refine pC AJR rfl ?_
 simp only [f330,go_sem]
 refine Wf s (λl=>s.size - l.length+MQ l) (λk=>[(0,.str s),(1,.fn (.func 331) [] []),(5,.int .i64 k)]) FO rfl ?_ ?_
 ·intro k x xs hd hx hF h0 h1 hw hl
  rw [S3] at hF
  simp only [AD,MQ] at hF
  have hk:k<s.size:=FO
  have hk2:(k:Int)<=(s.size:Int):=FO
  have hp:0<(s.extract k s.size).size:=by rw [AB9 s FO];omega
  simp only [go_sem,h0,h1,hk2]
  repeat' (first|(refine aP (AEx _ hp) ?_;simp only [go_sem,AFY s hk,hx])|(first|apply cS|apply gS)<;>intro hc<;>simp only [go_sem,hc,hw])
  ·rw [MQ,iP hc];omega
  ·rw [iN (by rw [hc];decide)] at hF
   have:MQ s.data.toList=k:=FO
   exact ⟨FO,FO,by rw [this]⟩
 ·intro hF hlt
  simp only [go_sem,hlt,dF]
  rw [S3] at hF
  have:MQ s.data.toList=s.size:=by simp only [MQ,List.length_nil] at hF;omega
  exact ⟨FO,by rw [this]⟩
def AFZ{s:ByteArray}{n:Nat}(h:n<=s.size):(s.extract 0 n=s)↔n=s.size:=by
 constructor
 ·intro he
  have:=congrArg ByteArray.size he
  rw [ByteArray.size_extract] at this
  omega
 ·rintro rfl
  exact ByteArray.extract_zero_size
def ph : ∀ l:List UInt8,MQ l<=l.length
 | []=>by simp [MQ]
 | c::l=>by have:=ph l;unfold MQ;split<;>simp<;>omega
def rr(s:ByteArray)(hs:s.size<=1073741824):FQ AA 296 [.str s] (.bool (tnB s)) := by
  have hr:MQ s.data.toList<=s.size := by have := ph s.data.toList;rw [S3] at this;exact this
  have hx:decide (s.extract 0 (MQ s.data.toList)=s)=((MQ s.data.toList:Int)==(s.size:Int)) := by
    rw [BA,decide_eq_true_eq,AFZ hr,beq_iff_eq];omega
  refine pC AKW rfl ?_
  by_cases hz:s=⟨#[]⟩
  · subst hz
    simp only [f296,go_sem,FN,dT]
    rfl
  · have h0:(0:Int)<(s.size:Int) := by
      have:s.size≠0 := λh=>hz (ByteArray.size_eq_zero_iff.1 h)
      omega
    simp only [f296,go_sem,FN,hz,dF]
    repeat' (first|((first|refine pK (VK _) ?_|refine pK (AAF _) ?_|refine pK (AAH _ hs) ?_);simp only [go_sem,FN,hx])|(first|apply cS|apply gS)<;>intro hc<;>simp only [go_sem,hc,h0])
    all_goals first
      | rfl
      | (obtain ⟨x,xs,hx2⟩ : ∃ x xs,s.data.toList=x::xs := by
          cases h:s.data.toList with
          | nil=>rw [<- S3,h] at h0;simp at h0
          | cons x xs=>exact ⟨x,xs,rfl⟩
         have hx0:(s.data[0]?).getD 0=x := by rw [<- Array.getElem?_toList,hx2];rfl
         simp only [hx0] at *
         simp only [tnB,hx2]
         simp only [hx2] at *
         grind)
      | skip
def AEw(s:ByteArray)(hs:s.size<=1073741824):FQ AA 243 [.str s] (.bool (tnB s)):=by
 refine pC AMB rfl ?_
 simp only [f243,go_sem]
 repeat' (first|(refine pK (rr _ hs) ?_;simp only [go_sem])|(first|apply cS|apply gS)<;>intro hc<;>simp only [go_sem,hc])
def Ig(s:ByteArray)(hs:s.size<=1073741824):FQ AA 170 [.str s] (.bool (Uj s)):=by
 refine pC AOh rfl ?_
 simp only [f170,go_sem,FN]
 repeat' (first|(refine pK (AEw _ hs) ?_;simp only [go_sem])|(first|apply cS|apply gS)<;>intro hc<;>simp only [go_sem,hc])
 all_goals first
  | rfl
  | (simp only [Uj,GC];rfl)
  | grind [FN,Uj,GC,BM,BX,Ax]
  | (simp only [Uj,GC];grind)
  | (simp [FN,Uj,GC,hc,BM,BX,Ax, *];done)
  | (simp_all [FN,Uj,GC,hc,BM,BX,Ax];done)
  | skip
def If(n:Int):FQ AA 171 [.int .i64 n] (.bool (NK n)):=by
 refine pC AOe rfl ?_
 simp only [f171,go_sem]
 repeat' (first|(first|apply cS|apply gS)<;>intro hc<;>simp only [go_sem,hc])
 all_goals first
  | rfl
  | (simp only [NK];rfl)
  | grind [NK]
  | (simp only [NK];grind)
  | (simp [NK, *];done)
  | (simp_all [NK];done)
  | skip
def Lq(n:Int):Bool:=decide (0<=n)&&decide (n<=1073741824)
def NU(n:Int):FQ AA 241 [.int .i64 n] (.bool (Lq n)):=by
 refine pC AMH rfl ?_
 simp only [f241,go_sem]
 repeat' (first|(first|apply cS|apply gS)<;>intro hc<;>simp only [go_sem,hc])
 all_goals first
  | rfl
  | (simp only [Lq];rfl)
  | grind [Lq]
  | (simp only [Lq];grind)
  | (simp [Lq, *];done)
  | (simp_all [Lq];done)
  | skip
def AAB{cs:List AV}{l:List AV}(h:HY (.agg cs::l)):HY cs:=h.1
def HN{α:Type}(p:α->Bool):Nat->List α->Int
 | _,[] => -1
 | i,x::l=>if p x then (i:Int) else HN p (i+1) l
def H8{α:Type}(p:α->Bool)(l:List α):Int:=HN p 0 l
def PZ{α:Type}(p:α->Bool): ∀ (l:List α) (i:Nat),decide (0<=HN p i l)=l.any p
 | [],i=>rfl
 | x::l,i=>by
  rw [HN,Au]
  cases h:p x with
  | true=>simp
  | false=>simp [PZ p l (i+1)]
def Us{α:Type}(p:α->Bool)(l:List α):(!(l.any λx => !p x))=l.all p:=by
 induction l with
 | nil=>rfl
 | cons x l ih=>simp only [Au,Al,Bool.not_or,Bool.not_not,ih]
@[go_sem] def AcX{α:Type}(l:List α)(x:α):(l++[x])[l.length]? =some x:=sm
def d9 {H:FP} (l:List Ep) (hl:l.length<=9223372036854775807) (g:FuncId) (fi ca:List AV) (p:Ep->Bool)
  (h : ∀ x∈l,GK AA g (fi.map AV.borrow++(.agg x.c::ca.map AV.borrow)) H (.bool (p x))) :
  GK AA 327 [.sl none (GH l),.fn (.func g) fi ca] H (.int .i64 (H8 p l)):=by
 unfold GK
 refine aC AJa rfl ?_
 simp only [f327,go_sem]
 refine Fa l (λr=>HN p (l.length - r.length) r) (λk=>[(0,.sl none (GH l)),(1,.fn (.func g) fi ca),(7,.int .i64 l.length),(8,.int .i64 k)]) hl rfl ?_ ?_
 ·intro k x xs hd hx hF h0 h1 hw
  have hk2:=Fl hd
  have e1:l.length - (xs.length+1)=k:=FO
  have e2:l.length - xs.length=k+1:=FO
  simp only [AD,e1,AO] at hF
  simp only [go_sem,h0,h1,Fp hx,e1,e2]
  repeat' (first|(refine aS (h x (AB hx)) ?_;simp only [go_sem,h0,h1,hw,Fp hx,e1,e2])|(first|apply cS|apply gS)<;>intro hc<;>simp only [go_sem,hc,h0,h1,hw,Fp hx,e1,e2])
  ·rw [H8,hF,HN,iP hc]
  ·rw [HN,iN (by rw [hc];decide)]
 ·intro hF hlt
  simp only [go_sem,hlt,dF]
  rw [AO] at hF
  rw [H8,hF];rfl
def VP {H:FP} (l:List Ep) (hl:l.length<=9223372036854775807) (g:FuncId) (fi ca:List AV) (p:Ep->Bool)
  (h : ∀ x∈l,GK AA g (fi.map AV.borrow++(.agg x.c::ca.map AV.borrow)) H (.bool (p x))) :
  GK AA 294 [.sl none (GH l),.fn (.func g) fi ca] H (.bool (l.any p)):=by
 unfold GK
 refine aC AKc rfl ?_
 simp only [f294,go_sem]
 repeat' (first|(refine aS (d9 l hl g fi ca p h) ?_;simp only [go_sem])|(first|apply cS|apply gS)<;>intro hc<;>simp only [go_sem,hc])
 rw [H8,PZ]
def Hw(l:List Ep)(hl:l.length<=9223372036854775807)(n:Int)(g:FuncId)(p:Ep->Bool)(h : ∀ x∈l,FQ AA g [.agg x.c] (.bool (p x))):
  FQ AA 242 [.sl none (GH l),.int .i64 n,.fn (.func g) [] []] (.bool (((l.length:Int)==n)&&l.all p)):=by
 refine pC AME rfl ?_
 simp only [f242,go_sem]
 have h1 : ∀ x∈l,GK AA 295 [.agg x.c,.ptr 0 0] [some [.fn (.func g) [] []]] (.bool (!p x)):=by
  intro x hx
  refine FV.drop rfl ?_
  refine aC AKZ rfl ?_
  simp only [f295,go_sem]
  repeat' (first|(refine aP (h x hx) ?_;simp only [go_sem])|(first|apply cS|apply gS)<;>intro hc<;>simp only [go_sem,hc])
  exact ⟨_,rfl⟩
 repeat' (first|(refine aS (VP l hl 295 [] [.ptr 0 0] (λx => !p x) h1) ?_;simp only [go_sem,Us])|(first|apply cS|apply gS)<;>intro hc<;>simp only [go_sem,hc,Us])
def XO {H:FP} (l:List Er) (hl:l.length<=9223372036854775807) (g:FuncId) (fi ca:List AV) (p:Er->Bool)
  (h : ∀ x∈l,GK AA g (fi.map AV.borrow++(.agg x.c::ca.map AV.borrow)) H (.bool (p x))) :
  GK AA 297 [.sl none (F3 l),.fn (.func g) fi ca] H (.int .i64 (H8 p l)):=by
 unfold GK
 refine aC AKT rfl ?_
 simp only [f297,go_sem]
 refine Fa l (λr=>HN p (l.length - r.length) r) (λk=>[(0,.sl none (F3 l)),(1,.fn (.func g) fi ca),(7,.int .i64 l.length),(8,.int .i64 k)]) hl rfl ?_ ?_
 ·intro k x xs hd hx hF h0 h1 hw
  have hk2:=Fl hd
  have e1:l.length - (xs.length+1)=k:=FO
  have e2:l.length - xs.length=k+1:=FO
  simp only [AD,e1,AO] at hF
  simp only [go_sem,h0,h1,Fc hx,e1,e2]
  repeat' (first|(refine aS (h x (AB hx)) ?_;simp only [go_sem,h0,h1,hw,Fc hx,e1,e2])|(first|apply cS|apply gS)<;>intro hc<;>simp only [go_sem,hc,h0,h1,hw,Fc hx,e1,e2])
  ·rw [H8,hF,HN,iP hc]
  ·rw [HN,iN (by rw [hc];decide)]
 ·intro hF hlt
  simp only [go_sem,hlt,dF]
  rw [AO] at hF
  rw [H8,hF];rfl
def Sc {H:FP} (l:List Er) (hl:l.length<=9223372036854775807) (g:FuncId) (fi ca:List AV) (p:Er->Bool)
  (h : ∀ x∈l,GK AA g (fi.map AV.borrow++(.agg x.c::ca.map AV.borrow)) H (.bool (p x))) :
  GK AA 244 [.sl none (F3 l),.fn (.func g) fi ca] H (.bool (l.any p)):=by
 unfold GK
 refine aC AL8 rfl ?_
 simp only [f244,go_sem]
 repeat' (first|(refine aS (XO l hl g fi ca p h) ?_;simp only [go_sem])|(first|apply cS|apply gS)<;>intro hc<;>simp only [go_sem,hc])
 rw [H8,PZ]
def JN(l:List Er)(hl:l.length<=9223372036854775807)(n:Int)(g:FuncId)(p:Er->Bool)(h : ∀ x∈l,FQ AA g [.agg x.c] (.bool (p x))):
  FQ AA 172 [.sl none (F3 l),.int .i64 n,.fn (.func g) [] []] (.bool (((l.length:Int)==n)&&l.all p)):=by
 refine pC AOb rfl ?_
 simp only [f172,go_sem]
 have h1 : ∀ x∈l,GK AA 245 [.agg x.c,.ptr 0 0] [some [.fn (.func g) [] []]] (.bool (!p x)):=by
  intro x hx
  refine FV.drop rfl ?_
  refine aC AL5 rfl ?_
  simp only [f245,go_sem]
  repeat' (first|(refine aP (h x hx) ?_;simp only [go_sem])|(first|apply cS|apply gS)<;>intro hc<;>simp only [go_sem,hc])
  exact ⟨_,rfl⟩
 repeat' (first|(refine aS (Sc l hl 245 [] [.ptr 0 0] (λx => !p x) h1) ?_;simp only [go_sem,Us])|(first|apply cS|apply gS)<;>intro hc<;>simp only [go_sem,hc,Us])
def lT(a b:Es):FQ AA 165 [.agg a.c,.agg b.c] (.agg (a.more b).c):=by
 refine pB AOt rfl ?_
 simp only [f165,go_sem]
 rfl
def rz(l:List Ep)(hl:l.length<=9223372036854775807)(h : ∀ x∈l,FQ AA 166 [.agg x.c] (.agg (lD x).c)):
  FQ AA 239 [.sl none (GH l),.fn (.func 166) [] []] (.agg (U1 l ⟨1,1⟩).c):=by
 refine pB AMS rfl ?_
 simp only [f239,go_sem]
 refine Fm l (λo l=>U1 l o) (λ_ _=>True) (λk o=>[(1,.fn (.func 166) [] []),(4,.ptr 0 0),(5,.ptr 1 0),(9,.sl none (GH l)),(10,.int .i64 l.length),(11,.int .i64 k)]) (λk o=>[some Sizes.z.c,some o.c]) ⟨1,1⟩ hl trivial rfl rfl ?_ ?_
 ·intro k o y ys hd hx _ hF h0 h1 hw
  simp only [go_sem,h0,h1,Fp hx]
  repeat' (first|((first|refine pK (h _ (AB hx)) ?_|refine pK (lT _ _) ?_);simp only [go_sem,h0,h1,hw,Fp hx])|(first|apply cS|apply gS)<;>intro hc<;>simp only [go_sem,hc,h0,h1,hw,Fp hx])
  exact ⟨_,Ya _ _ _,rfl,rfl⟩
 ·intro o _ hF
  simp only [go_sem,AW,dF]
  rw [hF,cr]
def eD(a b:List Ep)(ha:a.length<=9223372036854775807)(h : ∀ x∈a,∀ y,FQ AA 168 [.agg x.c,.agg y.c] (.bool (qW x y))):
  FQ AA 240 [.sl none (GH a),.sl none (GH b),.fn (.func 168) [] []] (.bool (((a.length:Int)==(b.length:Int))&&T6 a b)):=by
 refine pC AMM rfl ?_
 simp only [f240,go_sem]
 repeat' (first|(first|apply cS|apply gS)<;>intro hc<;>simp only [go_sem,hc])
 ·simp at hc;simp [hc]
 ·have hlen:a.length=b.length:=by simp at hc;omega
  refine Fm a (λ(_:Unit) r=>T6 r (b.drop (a.length - r.length))) (λ_ _=>True) (λk _=>[(1,.sl none (GH b)),(2,.fn (.func 168) [] []),(15,.sl none (GH a)),(16,.int .i64 a.length),(17,.int .i64 k)]) (λk _=>[]) () ha trivial rfl rfl ?_ ?_
  ·intro k _ x xs hd hx _ hF h0 h1 hw
   have hk2:=Fl hd
   obtain ⟨y,hy⟩ : ∃ y,b[k]? =some y:=⟨_,AL FO⟩
   have e1:a.length - (xs.length+1)=k:=FO
   have e2:a.length - xs.length=k+1:=FO
   have hbd:b.drop k=y::b.drop (k+1):=by
    obtain ⟨hlt,rfl⟩:=AC.1 hy
    exact BL hlt
   simp only [AD,e1,AO,BO,hbd,I4] at hF
   simp only [go_sem,h0,h1,Fp hx,Fp hy]
   repeat' (first|(refine aP (h _ (AB hx) y) ?_;simp only [go_sem,h0,h1,hw,Fp hx,Fp hy])|(first|apply cS|apply gS)<;>intro hc<;>simp only [go_sem,hc,h0,h1,hw,Fp hx,Fp hy])
   ·simp only [Bool.not_eq_true'] at hc
    rw [hF,hc,Bool.false_and,Dg]
   ·simp only [Bool.not_eq_false'] at hc
    exact ⟨(),by rw [e1,e2,hbd,I4,hc,By]⟩
  ·intro _ _ hF
   simp only [go_sem,AW,dF]
   rw [AO,BO,L1] at hF
   rw [hF,hlen];simp
def d6(l:List Er)(hl:l.length<=9223372036854775807)(h : ∀ x∈l,FQ AA 101 [.agg x.c] (.agg (lE x).c)):
  FQ AA 164 [.sl none (F3 l),.fn (.func 101) [] []] (.agg (Po l ⟨1,1⟩).c):=by
 refine pB AOy rfl ?_
 simp only [f164,go_sem]
 refine Fm l (λo l=>Po l o) (λ_ _=>True) (λk o=>[(1,.fn (.func 101) [] []),(4,.ptr 0 0),(5,.ptr 1 0),(9,.sl none (F3 l)),(10,.int .i64 l.length),(11,.int .i64 k)]) (λk o=>[some Sizes.z.c,some o.c]) ⟨1,1⟩ hl trivial rfl rfl ?_ ?_
 ·intro k o y ys hd hx _ hF h0 h1 hw
  simp only [go_sem,h0,h1,Fc hx]
  repeat' (first|((first|refine pK (h _ (AB hx)) ?_|refine pK (lT _ _) ?_);simp only [go_sem,h0,h1,hw,Fc hx])|(first|apply cS|apply gS)<;>intro hc<;>simp only [go_sem,hc,h0,h1,hw,Fc hx])
  exact ⟨_,Ml _ _ _,rfl,rfl⟩
 ·intro o _ hF
  simp only [go_sem,AW,dF]
  rw [hF,OP]
def lU : ∀ x:Ep,FQ AA 166 [.agg x.c] (.agg (lD x).c):=by
 refine JS _ λx ih=>?_
 refine FQ.fit ABm.c λhf=>?_
 have hl:=Kz (AAB hf)
 refine pB ABm rfl ?_
 simp only [f166,go_sem]
 repeat' (first|(refine pK (rz _ hl (λy hy=>ih y hy)) ?_;simp only [go_sem])|(first|apply cS|apply gS)<;>intro hc<;>simp only [go_sem,hc])
 rw [zO]
def qL(a b:Int):i64 (i64 a+b)=i64 (a+b):=by
 simp only [i64,Dj,Dk,DI]
 simp
 split<;>split<;>split<;>omega
def sX(a b c:Es):(a.more b).more c=(a.more c).more b:=by
 unfold Sizes.more Qi
 simp only [Sizes.mk.injEq]
 refine ⟨?_, ?_⟩
 ·rw [qL,qL];congr 1;omega
 ·grind
def Yb(z:Es): ∀ (l:List Er) (o:Es),Po l (o.more z)=(Po l o).more z
 | [],o=>by rw [OP,OP]
 | x::l,o=>by rw [Ml,Ml,sX,Yb z l]
def Zr : ∀ x:Er,FQ AA 101 [.agg x.c] (.agg (lE x).c):=by
 refine Hq _ λx ih=>?_
 refine FQ.fit ABs.c λhf=>?_
 have hl:=JY (AAB hf)
 refine pB ABs rfl ?_
 simp only [f101,go_sem]
 repeat' (first|((first|refine pK (d6 _ hl (λy hy=>ih y hy)) ?_|refine pK (lU _) ?_|refine pK (lT _ _) ?_);simp only [go_sem])|(first|apply cS|apply gS)<;>intro hc<;>simp only [go_sem,hc])
 ·rw [Zd,iP (by simpa using hc),Yb]
 ·rw [Zd,iN (by simpa using hc)]
def AEl(z:Es):FQ AA 167 [.agg z.c] (.int .i64 (QZ z)):=by
 refine pC AOo rfl ?_
 simp only [f167,go_sem]
 repeat' (first|(first|apply cS|apply gS)<;>intro hc<;>simp only [go_sem,hc])
 all_goals first
  | rfl
  | (simp only [QZ];rfl)
  | grind [QZ]
  | (simp only [QZ];grind)
  | (simp [QZ, *];done)
  | (simp_all [QZ];done)
  | skip
def AEo{H:FP}(z:Es)(g:FuncId)(ca:List AV)(b:Bool)(h:GK AA g (ca.map AV.borrow) (H++[some z.c]) (.bool b)):
  GK AA 102 [.agg z.c,.fn (.func g) [] ca] H (.int .i64 (qR z b)):=by
 refine FV.drop rfl ?_
 refine aC ARY rfl ?_
 simp only [f102,go_sem]
 repeat' (first|((first|refine pK (AEl _) ?_|refine aS (h) ?_);simp only [go_sem])|(first|apply cS|apply gS)<;>intro hc<;>simp only [go_sem,hc])
 all_goals simp_all [qR]
def Acs(a b:Nat):((a:Int)==(b:Int))=(a==b):=by
 rw [BA];simp;omega
def KR : ∀ x y:Ep,FQ AA 168 [.agg x.c,.agg y.c] (.bool (qW x y)):=by
 refine JS _ λx ih=>λy=>?_
 refine FQ.fit ABl.c λhf=>?_
 have hl:=Kz (AAB hf)
 refine pC ABl rfl ?_
 simp only [f168,go_sem,FN]
 repeat' (first|(refine pK (eD _ _ hl (λy hy z=>ih y hy z)) ?_;simp only [go_sem,FN])|(first|apply cS|apply gS)<;>intro hc<;>simp only [go_sem,hc,FN])
 all_goals (rw [Ir];simp_all [Acs])
def JR : ∀ l:List Ep,WB l=l.all NL
 | []=>by rw [Hm];rfl
 | x::l=>by rw [Kc,Al,JR l]
def M7 : ∀ l:List Er,WC l=l.all Rg
 | []=>by rw [Ip];rfl
 | x::l=>by rw [Kd,Al,M7 l]
def Hk{α:Type}(l:List α):((l.length:Int)==0)=l.isEmpty:=by
 cases l<;>simp;omega
def Gl{a b:Int}(h:a≠b):(a==b)=false:=by simp [h]
def AVr
(field:ByteArray) (n m:Int) (args:List Ep) (hl:args.length<=9223372036854775807) (hfs:field.size<=1073741824) (hev : ∀ y∈args,FQ AA 169 [.agg y.c] (.bool (NL y))):FQ AA 169 [.agg (Pred.c ⟨1,field,n,m,args⟩)] (.bool (NL ⟨1,field,n,m,args⟩)):=by
 refine pC MY rfl ?_
 simp only [f169,go_sem,FN,Int.reduceBEq,Hk]
 repeat' (first|((first|refine pK (Ig _ hfs) ?_|refine pK (If _) ?_|refine pK (NU _) ?_|refine pK (Hw _ hl _ _ NL hev) ?_);simp only [go_sem,FN,Int.reduceBEq,Hk])|(first|apply cS|apply gS)<;>intro hc<;>simp only [go_sem,hc,FN,Int.reduceBEq,Hk])
 all_goals (rw [Hn];cases args<;>(simp_all [Sh,JO,NK,Lq,JR,Hm]<;>first|omega|grind|skip))
def AVq
(field:ByteArray) (n m:Int) (args:List Ep) (hl:args.length<=9223372036854775807) (hfs:field.size<=1073741824) (hev : ∀ y∈args,FQ AA 169 [.agg y.c] (.bool (NL y))):FQ AA 169 [.agg (Pred.c ⟨2,field,n,m,args⟩)] (.bool (NL ⟨2,field,n,m,args⟩)):=by
 refine pC MY rfl ?_
 simp only [f169,go_sem,FN,Int.reduceBEq,Hk]
 repeat' (first|((first|refine pK (Ig _ hfs) ?_|refine pK (If _) ?_|refine pK (NU _) ?_|refine pK (Hw _ hl _ _ NL hev) ?_);simp only [go_sem,FN,Int.reduceBEq,Hk])|(first|apply cS|apply gS)<;>intro hc<;>simp only [go_sem,hc,FN,Int.reduceBEq,Hk])
 all_goals (rw [Hn];cases args<;>(simp_all [Sh,JO,NK,Lq,JR,Hm]<;>first|omega|grind|skip))
def AVp
(field:ByteArray) (n m:Int) (args:List Ep) (hl:args.length<=9223372036854775807) (hfs:field.size<=1073741824) (hev : ∀ y∈args,FQ AA 169 [.agg y.c] (.bool (NL y))):FQ AA 169 [.agg (Pred.c ⟨3,field,n,m,args⟩)] (.bool (NL ⟨3,field,n,m,args⟩)):=by
 refine pC MY rfl ?_
 simp only [f169,go_sem,FN,Int.reduceBEq,Hk]
 repeat' (first|((first|refine pK (Ig _ hfs) ?_|refine pK (If _) ?_|refine pK (NU _) ?_|refine pK (Hw _ hl _ _ NL hev) ?_);simp only [go_sem,FN,Int.reduceBEq,Hk])|(first|apply cS|apply gS)<;>intro hc<;>simp only [go_sem,hc,FN,Int.reduceBEq,Hk])
 all_goals (rw [Hn];cases args<;>(simp_all [Sh,JO,NK,Lq,JR,Hm]<;>first|omega|grind|skip))
def AVo
(field:ByteArray) (n m:Int) (args:List Ep) (hl:args.length<=9223372036854775807) (hfs:field.size<=1073741824) (hev : ∀ y∈args,FQ AA 169 [.agg y.c] (.bool (NL y))):FQ AA 169 [.agg (Pred.c ⟨4,field,n,m,args⟩)] (.bool (NL ⟨4,field,n,m,args⟩)):=by
 refine pC MY rfl ?_
 simp only [f169,go_sem,FN,Int.reduceBEq,Hk]
 repeat' (first|((first|refine pK (Ig _ hfs) ?_|refine pK (If _) ?_|refine pK (NU _) ?_|refine pK (Hw _ hl _ _ NL hev) ?_);simp only [go_sem,FN,Int.reduceBEq,Hk])|(first|apply cS|apply gS)<;>intro hc<;>simp only [go_sem,hc,FN,Int.reduceBEq,Hk])
 all_goals (rw [Hn];cases args<;>(simp_all [Sh,JO,NK,Lq,JR,Hm]<;>first|omega|grind|skip))
def AVn
(field:ByteArray) (n m:Int) (args:List Ep) (hl:args.length<=9223372036854775807) (hfs:field.size<=1073741824) (hev : ∀ y∈args,FQ AA 169 [.agg y.c] (.bool (NL y))):FQ AA 169 [.agg (Pred.c ⟨5,field,n,m,args⟩)] (.bool (NL ⟨5,field,n,m,args⟩)):=by
 refine pC MY rfl ?_
 simp only [f169,go_sem,FN,Int.reduceBEq,Hk]
 repeat' (first|((first|refine pK (Ig _ hfs) ?_|refine pK (If _) ?_|refine pK (NU _) ?_|refine pK (Hw _ hl _ _ NL hev) ?_);simp only [go_sem,FN,Int.reduceBEq,Hk])|(first|apply cS|apply gS)<;>intro hc<;>simp only [go_sem,hc,FN,Int.reduceBEq,Hk])
 all_goals (rw [Hn];cases args<;>(simp_all [Sh,JO,NK,Lq,JR,Hm]<;>first|omega|grind|skip))
def AVm
(field:ByteArray) (n m:Int) (args:List Ep) (hl:args.length<=9223372036854775807) (hfs:field.size<=1073741824) (hev : ∀ y∈args,FQ AA 169 [.agg y.c] (.bool (NL y))):FQ AA 169 [.agg (Pred.c ⟨6,field,n,m,args⟩)] (.bool (NL ⟨6,field,n,m,args⟩)):=by
 refine pC MY rfl ?_
 simp only [f169,go_sem,FN,Int.reduceBEq,Hk]
 repeat' (first|((first|refine pK (Ig _ hfs) ?_|refine pK (If _) ?_|refine pK (NU _) ?_|refine pK (Hw _ hl _ _ NL hev) ?_);simp only [go_sem,FN,Int.reduceBEq,Hk])|(first|apply cS|apply gS)<;>intro hc<;>simp only [go_sem,hc,FN,Int.reduceBEq,Hk])
 all_goals (rw [Hn];cases args<;>(simp_all [Sh,JO,NK,Lq,JR,Hm]<;>first|omega|grind|skip))
def AVl
(field:ByteArray) (n m:Int) (args:List Ep) (hl:args.length<=9223372036854775807) (hfs:field.size<=1073741824) (hev : ∀ y∈args,FQ AA 169 [.agg y.c] (.bool (NL y))):FQ AA 169 [.agg (Pred.c ⟨7,field,n,m,args⟩)] (.bool (NL ⟨7,field,n,m,args⟩)):=by
 refine pC MY rfl ?_
 simp only [f169,go_sem,FN,Int.reduceBEq,Hk]
 repeat' (first|((first|refine pK (Ig _ hfs) ?_|refine pK (If _) ?_|refine pK (NU _) ?_|refine pK (Hw _ hl _ _ NL hev) ?_);simp only [go_sem,FN,Int.reduceBEq,Hk])|(first|apply cS|apply gS)<;>intro hc<;>simp only [go_sem,hc,FN,Int.reduceBEq,Hk])
 all_goals (rw [Hn];cases args<;>(simp_all [Sh,JO,NK,Lq,JR,Hm]<;>first|omega|grind|skip))
def AVk
(field:ByteArray) (n m:Int) (args:List Ep) (hl:args.length<=9223372036854775807) (hfs:field.size<=1073741824) (hev : ∀ y∈args,FQ AA 169 [.agg y.c] (.bool (NL y))):FQ AA 169 [.agg (Pred.c ⟨8,field,n,m,args⟩)] (.bool (NL ⟨8,field,n,m,args⟩)):=by
 refine pC MY rfl ?_
 simp only [f169,go_sem,FN,Int.reduceBEq,Hk]
 repeat' (first|((first|refine pK (Ig _ hfs) ?_|refine pK (If _) ?_|refine pK (NU _) ?_|refine pK (Hw _ hl _ _ NL hev) ?_);simp only [go_sem,FN,Int.reduceBEq,Hk])|(first|apply cS|apply gS)<;>intro hc<;>simp only [go_sem,hc,FN,Int.reduceBEq,Hk])
 all_goals (rw [Hn];cases args<;>(simp_all [Sh,JO,NK,Lq,JR,Hm]<;>first|omega|grind|skip))
def AVj
(field:ByteArray) (n m:Int) (args:List Ep) (hl:args.length<=9223372036854775807) (hfs:field.size<=1073741824) (hev : ∀ y∈args,FQ AA 169 [.agg y.c] (.bool (NL y))):FQ AA 169 [.agg (Pred.c ⟨9,field,n,m,args⟩)] (.bool (NL ⟨9,field,n,m,args⟩)):=by
 refine pC MY rfl ?_
 simp only [f169,go_sem,FN,Int.reduceBEq,Hk]
 repeat' (first|((first|refine pK (Ig _ hfs) ?_|refine pK (If _) ?_|refine pK (NU _) ?_|refine pK (Hw _ hl _ _ NL hev) ?_);simp only [go_sem,FN,Int.reduceBEq,Hk])|(first|apply cS|apply gS)<;>intro hc<;>simp only [go_sem,hc,FN,Int.reduceBEq,Hk])
 all_goals (rw [Hn];cases args<;>(simp_all [Sh,JO,NK,Lq,JR,Hm]<;>first|omega|grind|skip))
def AVs (kind:Int) (h1:kind≠1) (h2:kind≠2) (h3:kind≠3) (h4:kind≠4) (h5:kind≠5) (h6:kind≠6) (h7:kind≠7) (h8:kind≠8) (h9:kind≠9)
  (field:ByteArray) (n m:Int) (args:List Ep):FQ AA 169 [.agg (Pred.c ⟨kind,field,n,m,args⟩)] (.bool (NL ⟨kind,field,n,m,args⟩)):=by
 refine pC MY rfl ?_
 simp only [f169,go_sem,FN,Hk,Gl h1,Gl h2,Gl h3,Gl h4,Gl h5,Gl h6,Gl h7,Gl h8,Gl h9]
 repeat' (first|(first|apply cS|apply gS)<;>intro hc<;>simp only [go_sem,hc,FN,Hk,Gl h1,Gl h2,Gl h3,Gl h4,Gl h5,Gl h6,Gl h7,Gl h8,Gl h9])
 all_goals (rw [Hn];simp [Sh, *])
def Jz : ∀ x:Ep,FR x.c<=1073741824->FQ AA 169 [.agg x.c] (.bool (NL x)):=by
 refine JS _ λx ih=>λhb=>?_
 have hl:x.args.length<=9223372036854775807:=AK (Vk (I9 hb)) dc
 have hfs:=QG hb
 have hev : ∀ y∈x.args,FQ AA 169 [.agg y.c] (.bool (NL y)):=λy hm =>
  ih y hm (by have:=Vl (I9 hb) hm;simpa only [AV.bulk] using this)
 obtain ⟨kind,field,n,m,args⟩:=x
 by_cases h1:kind=1
 ·subst h1;exact AVr field n m args hl hfs hev
 by_cases h2:kind=2
 ·subst h2;exact AVq field n m args hl hfs hev
 by_cases h3:kind=3
 ·subst h3;exact AVp field n m args hl hfs hev
 by_cases h4:kind=4
 ·subst h4;exact AVo field n m args hl hfs hev
 by_cases h5:kind=5
 ·subst h5;exact AVn field n m args hl hfs hev
 by_cases h6:kind=6
 ·subst h6;exact AVm field n m args hl hfs hev
 by_cases h7:kind=7
 ·subst h7;exact AVl field n m args hl hfs hev
 by_cases h8:kind=8
 ·subst h8;exact AVk field n m args hl hfs hev
 by_cases h9:kind=9
 ·subst h9;exact AVj field n m args hl hfs hev
 exact AVs kind h1 h2 h3 h4 h5 h6 h7 h8 h9 field n m args
def AVx
(pred:Ep) (field:ByteArray) (n:Int) (args:List Er) (hl:args.length<=9223372036854775807) (hfs:field.size<=1073741824) (hp:FR pred.c<=1073741824) (hev : ∀ y∈args,FQ AA 104 [.agg y.c] (.bool (Rg y))):FQ AA 104 [.agg (Policy.c ⟨1,pred,field,n,args⟩)] (.bool (Rg ⟨1,pred,field,n,args⟩)):=by
 refine pC Su rfl ?_
 simp only [f104,go_sem,FN,Int.reduceBEq,Hk]
 repeat' (first|((first|refine pK (FQ.lend (KR pred Pred.z)) ?_|refine pK (Ig _ hfs) ?_|refine pK (If _) ?_|refine pK (Jz _ hp) ?_|refine pK (JN _ hl _ _ Rg hev) ?_);simp only [go_sem,FN,Int.reduceBEq,Hk])|(first|apply cS|apply gS)<;>intro hc<;>simp only [go_sem,hc,FN,Int.reduceBEq,Hk])
 all_goals (rw [IP];cases args<;>(simp_all [VU,NK,M7,Ip]<;>first|omega|grind|skip))
def AVw
(pred:Ep) (field:ByteArray) (n:Int) (args:List Er) (hl:args.length<=9223372036854775807) (hfs:field.size<=1073741824) (hp:FR pred.c<=1073741824) (hev : ∀ y∈args,FQ AA 104 [.agg y.c] (.bool (Rg y))):FQ AA 104 [.agg (Policy.c ⟨2,pred,field,n,args⟩)] (.bool (Rg ⟨2,pred,field,n,args⟩)):=by
 refine pC Su rfl ?_
 simp only [f104,go_sem,FN,Int.reduceBEq,Hk]
 repeat' (first|((first|refine pK (FQ.lend (KR pred Pred.z)) ?_|refine pK (Ig _ hfs) ?_|refine pK (If _) ?_|refine pK (Jz _ hp) ?_|refine pK (JN _ hl _ _ Rg hev) ?_);simp only [go_sem,FN,Int.reduceBEq,Hk])|(first|apply cS|apply gS)<;>intro hc<;>simp only [go_sem,hc,FN,Int.reduceBEq,Hk])
 all_goals (rw [IP];cases args<;>(simp_all [VU,NK,M7,Ip]<;>first|omega|grind|skip))
def AVv
(pred:Ep) (field:ByteArray) (n:Int) (args:List Er) (hl:args.length<=9223372036854775807) (hfs:field.size<=1073741824) (hp:FR pred.c<=1073741824) (hev : ∀ y∈args,FQ AA 104 [.agg y.c] (.bool (Rg y))):FQ AA 104 [.agg (Policy.c ⟨3,pred,field,n,args⟩)] (.bool (Rg ⟨3,pred,field,n,args⟩)):=by
 refine pC Su rfl ?_
 simp only [f104,go_sem,FN,Int.reduceBEq,Hk]
 repeat' (first|((first|refine pK (FQ.lend (KR pred Pred.z)) ?_|refine pK (Ig _ hfs) ?_|refine pK (If _) ?_|refine pK (Jz _ hp) ?_|refine pK (JN _ hl _ _ Rg hev) ?_);simp only [go_sem,FN,Int.reduceBEq,Hk])|(first|apply cS|apply gS)<;>intro hc<;>simp only [go_sem,hc,FN,Int.reduceBEq,Hk])
 all_goals (rw [IP];cases args<;>(simp_all [VU,NK,M7,Ip]<;>first|omega|grind|skip))
def AVu
(pred:Ep) (field:ByteArray) (n:Int) (args:List Er) (hl:args.length<=9223372036854775807) (hfs:field.size<=1073741824) (hp:FR pred.c<=1073741824) (hev : ∀ y∈args,FQ AA 104 [.agg y.c] (.bool (Rg y))):FQ AA 104 [.agg (Policy.c ⟨4,pred,field,n,args⟩)] (.bool (Rg ⟨4,pred,field,n,args⟩)):=by
 refine pC Su rfl ?_
 simp only [f104,go_sem,FN,Int.reduceBEq,Hk]
 repeat' (first|((first|refine pK (FQ.lend (KR pred Pred.z)) ?_|refine pK (Ig _ hfs) ?_|refine pK (If _) ?_|refine pK (Jz _ hp) ?_|refine pK (JN _ hl _ _ Rg hev) ?_);simp only [go_sem,FN,Int.reduceBEq,Hk])|(first|apply cS|apply gS)<;>intro hc<;>simp only [go_sem,hc,FN,Int.reduceBEq,Hk])
 all_goals (rw [IP];cases args<;>(simp_all [VU,NK,M7,Ip]<;>first|omega|grind|skip))
def AVt
(pred:Ep) (field:ByteArray) (n:Int) (args:List Er) (hl:args.length<=9223372036854775807) (hfs:field.size<=1073741824) (hp:FR pred.c<=1073741824) (hev : ∀ y∈args,FQ AA 104 [.agg y.c] (.bool (Rg y))):FQ AA 104 [.agg (Policy.c ⟨5,pred,field,n,args⟩)] (.bool (Rg ⟨5,pred,field,n,args⟩)):=by
 refine pC Su rfl ?_
 simp only [f104,go_sem,FN,Int.reduceBEq,Hk]
 repeat' (first|((first|refine pK (FQ.lend (KR pred Pred.z)) ?_|refine pK (Ig _ hfs) ?_|refine pK (If _) ?_|refine pK (Jz _ hp) ?_|refine pK (JN _ hl _ _ Rg hev) ?_);simp only [go_sem,FN,Int.reduceBEq,Hk])|(first|apply cS|apply gS)<;>intro hc<;>simp only [go_sem,hc,FN,Int.reduceBEq,Hk])
 all_goals (rw [IP];cases args<;>(simp_all [VU,NK,M7,Ip]<;>first|omega|grind|skip))
def AVy (kind:Int) (h1:kind≠1) (h2:kind≠2) (h3:kind≠3) (h4:kind≠4) (h5:kind≠5)
  (pred:Ep) (field:ByteArray) (n:Int) (args:List Er):FQ AA 104 [.agg (Policy.c ⟨kind,pred,field,n,args⟩)] (.bool (Rg ⟨kind,pred,field,n,args⟩)):=by
 refine pC Su rfl ?_
 simp only [f104,go_sem,FN,Hk,Gl h1,Gl h2,Gl h3,Gl h4,Gl h5]
 repeat' (first|(refine pK (FQ.lend (KR pred Pred.z)) ?_;simp only [go_sem,FN,Hk,Gl h1,Gl h2,Gl h3,Gl h4,Gl h5])|(first|apply cS|apply gS)<;>intro hc<;>simp only [go_sem,hc,FN,Hk,Gl h1,Gl h2,Gl h3,Gl h4,Gl h5])
 all_goals (rw [IP];simp [VU, *])
def VM : ∀ x:Er,FR x.c<=1073741824->FQ AA 104 [.agg x.c] (.bool (Rg x)):=by
 refine Hq _ λx ih=>λhb=>?_
 have hl:x.args.length<=9223372036854775807:=AK (Qb (II hb)) dc
 have hfs:=N7 hb
 have hp:=MC hb
 have hev : ∀ y∈x.args,FQ AA 104 [.agg y.c] (.bool (Rg y)):=λy hm =>
  ih y hm (by have:=Qc (II hb) hm;simpa only [AV.bulk] using this)
 obtain ⟨kind,pred,field,n,args⟩:=x
 by_cases h1:kind=1
 ·subst h1;exact AVx pred field n args hl hfs hp hev
 by_cases h2:kind=2
 ·subst h2;exact AVw pred field n args hl hfs hp hev
 by_cases h3:kind=3
 ·subst h3;exact AVv pred field n args hl hfs hp hev
 by_cases h4:kind=4
 ·subst h4;exact AVu pred field n args hl hfs hp hev
 by_cases h5:kind=5
 ·subst h5;exact AVt pred field n args hl hfs hp hev
 exact AVy kind h1 h2 h3 h4 h5 pred field n args
def AIE{H:FP}(x:Er)(hb:FR x.c<=1073741824)(o:Nat)(ho:H[o]? =some (some x.c)):GK AA 103 [.ptr o 0] H (.bool (Rg x)):=by
 refine FV.drop rfl ?_
 refine aC ARV rfl ?_
 simp only [f103,go_sem,ho]
 repeat' (first|(refine pK (VM _ hb) ?_;simp only [go_sem,ho])|(first|apply cS|apply gS)<;>intro hc<;>simp only [go_sem,hc,ho])
def XQ(x:Er)(hb:FR x.c<=1073741824):FQ AA 52 [.agg x.c] (.int .i64 (Up x)):=by
 refine pC AXu rfl ?_
 simp only [f52,go_sem]
 repeat' (first|((first|refine pK (Zr _) ?_|refine aS (AEo (lE x) 103 [.ptr 0 0] (Rg x) (AIE x hb 0 rfl)) ?_);simp only [go_sem])|(first|apply cS|apply gS)<;>intro hc<;>simp only [go_sem,hc])
 all_goals rfl
@[go_sem] def AUP(o:Option Nat)(x:Ep):AV.sl o [AV.agg (x.cf none)]=AV.sl o (GH [x]):=by rw [Hg];rfl
@[go_sem] def AUO(o:Option Nat)(x y:Ep):AV.sl o [AV.agg (x.cf none),AV.agg (y.cf none)]=AV.sl o (GH [x,y]):=by rw [Hg];rfl
@[go_sem] def AG0(o:Option Nat)(x:Er):AV.sl o [AV.agg (x.cf none none)]=AV.sl o (F3 [x]):=by rw [Ge];rfl
@[go_sem] def AGz(o:Option Nat)(x y:Er):AV.sl o [AV.agg (x.cf none none),AV.agg (y.cf none none)]=AV.sl o (F3 [x,y]):=by rw [Ge];rfl
@[go_sem] def AIU(o:Option Nat)(x:Et):AV.sl o [AV.agg (x.cf none none none)]=AV.sl o (F9 [x]):=rfl
def ZP(n:Int):Ep:=⟨3,GC,n,0,[]⟩
def Jj:Ep:=⟨2,⟨#[]⟩,0,0,[]⟩
def qt(x y:Ep):Ep:=⟨8,⟨#[]⟩,0,0,[x,y]⟩
def bC(x:Ep):Ep:=⟨6,⟨#[]⟩,0,0,[x]⟩
def IB(x:Ep):Er:=⟨1,x,⟨#[]⟩,0,[]⟩
def Xo(s:ByteArray)(n:Int):Er:=⟨2,Pred.z,s,n,[]⟩
def Kn(x y:Er):Er:=⟨3,Pred.z,⟨#[]⟩,0,[x,y]⟩
def UC(x y:Er):Er:=⟨4,Pred.z,⟨#[]⟩,0,[x,y]⟩
def Rs(x:Er):Er:=⟨5,Pred.z,⟨#[]⟩,0,[x]⟩
def LQ{α:Type}(z:α)(two:α->α->α):List α->α
 | []=>z
 | x::l=>l.foldl two x
def Pl(l:List Ep):Ep:=LQ Jj qt l
def O8(t:Eu):Ep:=Pl (t.wires.map λw=>ZP w.src)
def O9(w:Wire):Er:=UC (IB (ZP w.src)) (Xo GC w.dst)
def Md(t:Eu):Er:=LQ (IB Jj) Kn (t.wires.map O9)
def HJ(t:Eu)(p:Er):Er :=
 if t.wires=[] then p else UC (UC p (Rs (UC (Md t) p))) (IB (bC (O8 t)))
def AV2(n:Int):FQ AA 160 [.int .i64 n] (.agg (ZP n).c):=by
 refine pB APE rfl ?_
 simp only [f160,go_sem]
 rfl
def AVf(n:Int):FQ AA 309 [.int .i64 n] (.agg (ZP n).c):=by
 refine pB AJt rfl ?_
 simp only [f309,go_sem]
 rfl
def VN(x:Ep):FQ AA 99 [.agg x.c] (.agg (IB x).c):=by
 refine pB AWJ rfl ?_
 simp only [f99,go_sem]
 rfl
def VF(x:Ep):FQ AA 267 [.agg x.c] (.agg (IB x).c):=by
 refine pB AK0 rfl ?_
 simp only [f267,go_sem]
 rfl
def pv(x y:Er):FQ AA 97 [.agg x.c,.agg y.c] (.agg (UC x y).c):=by
 refine pB AWS rfl ?_
 simp only [f97,go_sem]
 rfl
def AGr(x y:Er):FQ AA 265 [.agg x.c,.agg y.c] (.agg (UC x y).c):=by
 refine pB AK9 rfl ?_
 simp only [f265,go_sem]
 rfl
def AEe(x y:Er):FQ AA 311 [.agg x.c,.agg y.c] (.agg (Kn x y).c):=by
 refine pB AJn rfl ?_
 simp only [f311,go_sem]
 rfl
def AH5(x:Er):FQ AA 264 [.agg x.c] (.agg (Rs x).c):=by
 refine pB ALC rfl ?_
 simp only [f264,go_sem]
 rfl
def AVg(s:ByteArray)(n:Int):FQ AA 310 [.str s,.int .i64 n] (.agg (Xo s n).c):=by
 refine pB AJq rfl ?_
 simp only [f310,go_sem]
 rfl
def rv(x y:Ep):FQ AA 238 [.agg x.c,.agg y.c] (.agg (qt x y).c):=by
 refine pB AMW rfl ?_
 simp only [f238,go_sem]
 rfl
def AAS(x y:Er):FQ AA 162 [.agg x.c,.agg y.c] (.agg (Kn x y).c):=by
 refine pB AO5 rfl ?_
 simp only [f162,go_sem]
 rfl
def lX(l:List Ep)(hl:l.length<=1073741824)(z:Ep):FQ AA 237 [.sl none (GH l),.agg z.c,.fn (.func 238) [] []] (.agg (LQ z qt l).c):=by
 refine pB AMb rfl ?_
 simp only [f237,go_sem]
 cases l with
 | nil =>
  have g0:(((0:Nat):Int)==0)=true:=rfl
  simp only [go_sem,g0]
  rfl
 | cons x r =>
  have g0:(((r.length+1:Nat):Int)==0)=false:=by simp;omega
  have g1:(1:Int)<=((r.length+1:Nat):Int):=FO
  have g2:(0:Int)<((r.length+1:Nat):Int):=FO
  have hx:(x::r)[0]? =some x:=rfl
  have hd:List.drop 1 (x::r)=r:=rfl
  simp only [go_sem,g0,g1,g2,Fp hx,EH,hd,Aa,BH]
  repeat' (first|(first|apply cS|apply gS)<;>intro hc<;>simp only [go_sem,hc,g0,g1,g2,Fp hx,hd])
  refine Fm r (λo l=>l.foldl qt o) (λ_ _=>True) (λk o=>[(2,.fn (.func 238) [] []),(6,.ptr 1 0),(7,.ptr 2 0),(18,.sl none (GH r)),(19,.int .i64 r.length),(20,.int .i64 k)]) (λk o=>[some z.c,some (Pred.z.cf (some 5)),some o.c]) x (by simp at hl;omega) trivial rfl rfl ?_ ?_
  ·intro k o y ys hd hx _ hF h0 h1 hw
   simp only [go_sem,h0,h1,Fp hx]
   repeat' (first|(refine aP (rv _ _) ?_;simp only [go_sem,h0,h1,hw,Fp hx])|(first|apply cS|apply gS)<;>intro hc<;>simp only [go_sem,hc,h0,h1,hw,Fp hx])
   exact ⟨_,by rw [CD],rfl,rfl⟩
  ·intro o _ hF
   simp only [go_sem,AW,dF]
   rw [LQ,hF];rfl
def Zs(l:List Er)(hl:l.length<=1073741824)(z:Er):FQ AA 161 [.sl none (F3 l),.agg z.c,.fn (.func 162) [] []] (.agg (LQ z Kn l).c):=by
 refine pB APA rfl ?_
 simp only [f161,go_sem]
 cases l with
 | nil =>
  have g0:(((0:Nat):Int)==0)=true:=rfl
  simp only [go_sem,g0]
  rfl
 | cons x r =>
  have g0:(((r.length+1:Nat):Int)==0)=false:=by simp;omega
  have g1:(1:Int)<=((r.length+1:Nat):Int):=FO
  have g2:(0:Int)<((r.length+1:Nat):Int):=FO
  have hx:(x::r)[0]? =some x:=rfl
  have hd:List.drop 1 (x::r)=r:=rfl
  simp only [go_sem,g0,g1,g2,Fc hx,EH,hd,Aa,BH]
  repeat' (first|(first|apply cS|apply gS)<;>intro hc<;>simp only [go_sem,hc,g0,g1,g2,Fc hx,hd])
  refine Fm r (λo l=>l.foldl Kn o) (λ_ _=>True) (λk o=>[(2,.fn (.func 162) [] []),(6,.ptr 1 0),(7,.ptr 2 0),(18,.sl none (F3 r)),(19,.int .i64 r.length),(20,.int .i64 k)]) (λk o=>[some z.c,some (Policy.z.cf (some 5) (some 9)),some o.c]) x (by simp at hl;omega) trivial rfl rfl ?_ ?_
  ·intro k o y ys hd hx _ hF h0 h1 hw
   simp only [go_sem,h0,h1,Fc hx]
   repeat' (first|(refine aP (AAS _ _) ?_;simp only [go_sem,h0,h1,hw,Fc hx])|(first|apply cS|apply gS)<;>intro hc<;>simp only [go_sem,hc,h0,h1,hw,Fc hx])
   exact ⟨_,by rw [CD],rfl,rfl⟩
  ·intro o _ hF
   simp only [go_sem,AW,dF]
   rw [LQ,hF];rfl
def zu(l:List Ep)(hl:l.length<=1073741824):FQ AA 312 [.sl none (GH l)] (.agg (Pl l).c):=by
 refine pB AJk rfl ?_
 simp only [f312,go_sem]
 cases l with
 | nil =>
  have g0:(((0:Nat):Int)==0)=true:=rfl
  simp only [go_sem,g0]
  rfl
 | cons x r =>
  have g0:(((r.length+1:Nat):Int)==0)=false:=by simp;omega
  have g2:(0:Int)<((r.length+1:Nat):Int):=FO
  have hx:(x::r)[0]? =some x:=rfl
  simp only [go_sem,g0,g2,Fp hx]
  repeat' (first|(first|apply cS|apply gS)<;>intro hc<;>simp only [go_sem,hc,g0,g2,Fp hx])
  refine Fm r (λ(o:Ep×Option Nat) l=>l.foldl qt o.1) (λ_ _=>True) (λk o=>[(0,.sl none (GH (x::r))),(2,.ptr 0 0),(3,.ptr 1 0),(4,.int .i64 ((k+1:Nat):Int))]) (λk o=>[some (Pred.z.cf (some 5)),some (o.1.cf o.2)]) (x,none) (by simp at hl;omega) trivial rfl rfl ?_ ?_
  ·intro k o y ys hd hy _ hF h0 h1 hw
   have hy2:(x::r)[k+1]? =some y:=by simpa using hy
   have h2:(((k+1:Nat):Int)<((r.length+1:Nat):Int)):=FO
   have h3:(0:Int)<=((k+1:Nat):Int):=FO
   have hw2:=Mk (k:=k+1) (by simp at hl;omega)
   simp only [go_sem,h2,h3,dT,Fp hy2,Aa,hw2]
   exact ⟨(qt o.1 y,some 5),by rw [CD],rfl,rfl⟩
  ·intro o _ hF
   simp only [go_sem,AW,dF]
   rw [Pl,LQ,hF];rfl
def AAN(l:List Int)(hl:l.length<=1073741824):FQ AA 163 [.sl none (GB l)] (.agg (Pl (l.map ZP)).c):=by
 refine pB AO2 rfl ?_
 simp only [f163,go_sem]
 refine Fm l (λo r=>o++r.map ZP) (λk o=>o.length=k) (λk o=>[(2,.ptr 0 0),(3,.sl (some 5) (GH o)),(6,.sl none (GB l)),(7,.int .i64 l.length),(8,.int .i64 k)]) (λk o=>[some (Pred.z.cf (some 5))]) [] FO rfl rfl rfl ?_ ?_
 ·intro k o y ys hd hy hI hF h0 h1 hw
  have hk2:=Fl hd
  simp only [go_sem,h0,h1,GI hy]
  repeat' (first|(refine pK (AV2 _) ?_;simp only [go_sem,h0,h1,hw,GI hy])|(first|apply cS|apply gS)<;>intro hc<;>simp only [go_sem,hc,h0,h1,hw,GI hy])
  exact ⟨FO,FO,o++[ZP y],sm,by simp [hI],rfl,rfl⟩
 ·intro o hI hF
  have hF:o=l.map ZP:=by simpa using hF.symm
  simp only [go_sem,AW,dF]
  repeat' (first|(refine pK (FQ.lend (lX o FO Jj)) ?_;simp only [go_sem])|(first|apply cS|apply gS)<;>intro hc<;>simp only [go_sem,hc])
  rw [hF];rfl
def AEc(t:Eu)(hl:t.wires.length<=1073741824):FQ AA 268 [.agg t.c] (.agg (O8 t).c):=by
 refine pB AKx rfl ?_
 simp only [f268,go_sem]
 refine Fm t.wires (λo r=>o++r.map λw=>ZP w.src) (λk o=>o.length=k) (λk o=>[(1,.ptr 0 0),(2,.ptr 1 0),(3,.sl (some 5) (GH o)),(4,.int .i64 k)]) (λk o=>[some t.c,some (Pred.z.cf (some 5))]) [] FO rfl rfl rfl ?_ ?_
 ·intro k o y ys hd hy hI hF h0 h1 hw
  have hk2:=Fl hd
  simp only [go_sem,h0,h1,hw,Gr hy]
  repeat' (first|(refine pK (AVf _) ?_;simp only [go_sem,h0,h1,hw,Gr hy])|(first|apply cS|apply gS)<;>intro hc<;>simp only [go_sem,hc,h0,h1,hw,Gr hy])
  exact ⟨FO,FO,o++[ZP y.src],sm,by simp [hI],rfl,rfl⟩
 ·intro o hI hF
  have hF:o=t.wires.map λw=>ZP w.src:=by simpa using hF.symm
  simp only [go_sem,AW,dF]
  repeat' (first|(refine pK (FQ.lend (zu o FO)) ?_;simp only [go_sem])|(first|apply cS|apply gS)<;>intro hc<;>simp only [go_sem,hc])
  rw [hF];rfl
def AEr(t:Eu)(hl:t.wires.length<=1073741824):FQ AA 100 [.agg t.c] (.agg (O8 t).c):=by
 refine pB ARf rfl ?_
 simp only [f100,go_sem]
 refine Fm t.wires (λo r=>o++r.map (·.src)) (λk o=>o.length=k) (λk o=>[(2,.ptr 1 0),(3,.sl (some 1) (GB o)),(7,.sl none (MJ t.wires)),(8,.int .i64 t.wires.length),(9,.int .i64 k)]) (λk o=>[some t.c,some (Pred.z.cf (some 5))]) [] FO rfl rfl rfl ?_ ?_
 ·intro k o y ys hd hy hI hF h0 h1 hw
  have hk2:=Fl hd
  simp only [go_sem,h0,h1,hw,Gr hy]
  repeat' (first|(first|apply cS|apply gS)<;>intro hc<;>simp only [go_sem,hc,h0,h1,hw,Gr hy])
  exact ⟨FO,FO,o++[y.src],sm,by simp [hI],rfl,rfl⟩
 ·intro o hI hF
  have hF:o=t.wires.map (·.src):=by simpa using hF.symm
  simp only [go_sem,AW,dF]
  repeat' (first|(refine pK (FQ.lend (AAN o FO)) ?_;simp only [go_sem])|(first|apply cS|apply gS)<;>intro hc<;>simp only [go_sem,hc])
  rw [hF,Bx];rfl
def mc{α:Type}{z:α}{two:α->α->α}(x:α): ∀ {l:List α},l≠[]->LQ z two (l++[x])=two (LQ z two l) x
 | [],h=>absurd rfl h
 | y::l,_=>by simp [LQ]
def AEb(t:Eu)(hl:t.wires.length<=1073741824):FQ AA 266 [.agg t.c] (.agg (Md t).c):=by
 refine pB AK5 rfl ?_
 simp only [f266,go_sem]
 repeat' (first|(refine pK (FQ.lend (VF Jj)) ?_;simp only [go_sem])|(first|apply cS|apply gS)<;>intro hc<;>simp only [go_sem,hc])
 refine Fm t.wires (λ(_:Er) (_:List Wire)=>()) (λk o=>o=LQ (IB Jj) Kn ((t.wires.take k).map O9)) (λk o=>[(1,.ptr 0 0),(2,.ptr 1 0),(3,.ptr 2 0),(4,.int .i64 k)]) (λk o=>[some t.c,some (Policy.z.cf (some 5) (some 9)),some o.c]) (IB Jj) FO rfl rfl rfl ?_ ?_
 ·intro k o y ys hd hy hI hF h0 h1 hw
  have hk2:=Fl hd
  have ht:t.wires.take (k+1)=t.wires.take k++[y]:=by rw [BE,hy];rfl
  simp only [go_sem,h0,h1,hw,Gr hy]
  repeat' (first|((first|refine pK (AVf _) ?_|refine pK (VF _) ?_|refine pK (AVg _ _) ?_|refine pK (AGr _ _) ?_);simp only [go_sem,h0,h1,hw,Gr hy])|(first|apply cS|apply gS)<;>intro hc<;>simp only [go_sem,hc,h0,h1,hw,Gr hy])
  ·have hk:k=0:=by simp at hc;omega
   subst hk
   refine ⟨O9 y, ?_,rfl,rfl⟩
   rw [ht];rfl
  ·have hk:k≠0:=by simp at hc;omega
   refine Wx.intro (AEe _ _) ?_
   simp only [go_sem,hw]
   refine ⟨Kn o (O9 y), ?_,rfl,rfl⟩
   rw [ht,List.map_append,hI]
   exact (mc _ (by simp;constructor;omega;intro h;rw [h] at hk2;simp at hk2)).symm
 ·intro o hI hF
  simp only [go_sem,AW,dF]
  rw [Md,hI,BH]
def AEq(t:Eu)(hl:t.wires.length<=1073741824):FQ AA 98 [.agg t.c] (.agg (Md t).c):=by
 refine pB AWO rfl ?_
 simp only [f98,go_sem]
 refine Fm t.wires (λo r=>o++r.map O9) (λk o=>o.length=k) (λk o=>[(2,.ptr 1 0),(3,.sl (some 9) (F3 o)),(7,.sl none (MJ t.wires)),(8,.int .i64 t.wires.length),(9,.int .i64 k)]) (λk o=>[some t.c,some (Policy.z.cf (some 5) (some 9))]) [] FO rfl rfl rfl ?_ ?_
 ·intro k o y ys hd hy hI hF h0 h1 hw
  have hk2:=Fl hd
  simp only [go_sem,h0,h1,hw,Gr hy]
  repeat' (first|((first|refine pK (AV2 _) ?_|refine pK (VN _) ?_|refine pK (FQ.lend (pv (IB (ZP y.src)) (Xo GC y.dst))) ?_);simp only [go_sem,h0,h1,hw,Gr hy])|(first|apply cS|apply gS)<;>intro hc<;>simp only [go_sem,hc,h0,h1,hw,Gr hy])
  exact ⟨FO,FO,o++[O9 y],sm,by simp [hI],rfl,rfl⟩
 ·intro o hI hF
  have hF:o=t.wires.map O9:=by simpa using hF.symm
  simp only [go_sem,AW,dF]
  repeat' (first|((first|refine pK (FQ.lend (VN Jj)) ?_|refine pK (FQ.lend (Zs o FO (IB Jj))) ?_);simp only [go_sem])|(first|apply cS|apply gS)<;>intro hc<;>simp only [go_sem,hc])
  rw [hF];rfl
def RV{α:Type}{l:List α}:((l.length:Int)==0)=true↔l=[]:=by
 cases l<;>simp;omega
def zx(t:Eu)(hl:t.wires.length<=1073741824)(p:Er):FQ AA 202 [.agg t.c,.agg p.c] (.agg (HJ t p).c):=by
 refine pB AM7 rfl ?_
 simp only [f202,go_sem]
 repeat' (first|((first|refine pK (AEb t hl) ?_|refine pK (AEc t hl) ?_|refine pK (AGr _ _) ?_|refine pK (AH5 _) ?_|refine pK (FQ.lend (VF (bC (O8 t)))) ?_);simp only [go_sem])|(first|apply cS|apply gS)<;>intro hc<;>simp only [go_sem,hc])
 ·rw [HJ,iP (RV.1 hc)]
 ·rw [HJ,iN (λh=>by rw [RV.2 h] at hc;cases hc)]
def AAY(t:Eu)(hl:t.wires.length<=1073741824)(p:Er):FQ AA 51 [.agg t.c,.agg p.c] (.agg (HJ t p).c):=by
 refine pB AXx rfl ?_
 simp only [f51,go_sem]
 repeat' (first|((first|refine pK (AEq t hl) ?_|refine pK (AEr t hl) ?_|refine pK (FQ.lend (pv (UC p (Rs (UC (Md t) p))) (IB (bC (O8 t))))) ?_|refine pK (FQ.lend (pv p (Rs (UC (Md t) p)))) ?_|refine pK (pv (Md t) p) ?_|refine pK (FQ.lend (VN (bC (O8 t)))) ?_);simp only [go_sem])|(first|apply cS|apply gS)<;>intro hc<;>simp only [go_sem,hc])
 ·rw [HJ,iP (RV.1 hc)]
 ·rw [HJ,iN (λh=>by rw [RV.2 h] at hc;cases hc)]
def HZ(t:Eu):List Et->List Et->List Et×Int
 | o,[]=>(o,0)
 | o,x::r=>if Up (HJ t x.policy)=2 then ([],2) else HZ t (o++[{ x with policy:=HJ t x.policy }]) r
def Gf(t:Eu):List Et×Int:=HZ t [] t.program
def AEs(t:Eu)(hl:t.wires.length<=1073741824)(hp:t.program.length<=1073741824)(hb : ∀ x∈t.program,FR (HJ t x.policy).c<=1073741824):
  FQ AA 27 [.agg t.c] (.tup [.sl none (F9 (Gf t).1),.int .i64 (Gf t).2]):=by
 refine pB AYk rfl ?_
 simp only [f27,go_sem]
 refine Fm t.program (λo r=>HZ t o r) (λk o=>o.length=k) (λk o=>[(1,.ptr 0 0),(4,.sl (some 15) (F9 o)),(8,.sl none (F9 t.program)),(9,.int .i64 t.program.length),(10,.int .i64 k)]) (λk o=>[some t.c]) [] FO rfl rfl rfl ?_ ?_
 ·intro k o y ys hd hy hI hF h0 h1 hw
  have hk2:=Fl hd
  simp only [go_sem,h0,h1,hw,Fg hy]
  repeat' (first|((first|refine pK (AAY t hl _) ?_|refine pK (XQ _ (hb y (AB hy))) ?_);simp only [go_sem,h0,h1,hw,Fg hy])|(first|apply cS|apply gS)<;>intro hc<;>simp only [go_sem,hc,h0,h1,hw,Fg hy])
  ·have h2:HZ t [] t.program=([],2):=by rw [hF,HZ,iP (by simpa using hc)]
   rw [Gf,h2];rfl
  ·refine ⟨FO,FO,o++[{ y with policy:=HJ t y.policy }], ?_,by simp [hI],rfl,rfl⟩
   rw [HZ,iN (by simpa using hc)]
 ·intro o hI hF
  simp only [go_sem,AW,dF]
  rw [Gf,hF];rfl
def Abw(x y:Ep):FR (GH [x,y])=FR x.c+FR y.c:=by rw [Hg];simp [FR,AV.bulk]
def Abx(x:Ep):FR (GH [x])=FR x.c:=by rw [Hg];simp [FR,AV.bulk]
def ACy:FR (GH [])=0:=by rw [Hg];rfl
def AHJ(x y:Er):FR (F3 [x,y])=FR x.c+FR y.c:=by rw [Ge];simp [FR,AV.bulk]
def Abz(x:Er):FR (F3 [x])=FR x.c:=by rw [Ge];simp [FR,AV.bulk]
def AHK:FR (F3 [])=0:=by rw [Ge];rfl
def AHL(n:Int):FR (ZP n).c=9:=by rw [Km];simp only [ZP,ACy];rfl
def iu:FR Jj.c=5:=by rw [Km];simp only [Jj,ACy];rfl
def Aby(x y:Ep):FR (qt x y).c=5+FR x.c+FR y.c:=by rw [Km];simp only [qt,Abw];show 0+5+_=_;omega
def ATe(x:Ep):FR (bC x).c=5+FR x.c:=by rw [Km];simp only [bC,Abx];show 0+5+_=_;omega
def qr:FR Pred.z.c=5:=by rw [Km];show _+5+FR (GH [])=5;rw [ACy];rfl
def S4(x:Ep):FR (IB x).c=FR x.c+4:=by rw [Iw];simp only [IB,AHK];show _+0+4+0=_;omega
def ATd(n:Int):FR (Xo GC n).c=13:=by rw [Iw];simp only [Xo,AHK,qr];rfl
def ACx(x y:Er):FR (Kn x y).c=9+FR x.c+FR y.c:=by rw [Iw];simp only [Kn,AHJ,qr];show 5+0+4+_=_;omega
def bB(x y:Er):FR (UC x y).c=9+FR x.c+FR y.c:=by rw [Iw];simp only [UC,AHJ,qr];show 5+0+4+_=_;omega
def AGB(x:Er):FR (Rs x).c=9+FR x.c:=by rw [Iw];simp only [Rs,Abz,qr];show 5+0+4+_=_;omega
def ACz : ∀ (l:List Ep) (x:Ep) (B:Nat),(∀ y∈l,FR y.c<=B)->FR (l.foldl qt x).c<=FR x.c+l.length*(B+5)
 | [],x,B,_=>sm
 | y::l,x,B,h=>by
  rw [CD]
  have h1:=ACz l (qt x y) B λz hz=>h z (by simp [hz])
  have h2:=h y sm
  rw [Aby] at h1
  rw [AD,DU]
  omega
def ZM : ∀ (l:List Er) (x:Er) (B:Nat),(∀ y∈l,FR y.c<=B)->FR (l.foldl Kn x).c<=FR x.c+l.length*(B+9)
 | [],x,B,_=>sm
 | y::l,x,B,h=>by
  rw [CD]
  have h1:=ZM l (Kn x y) B λz hz=>h z (by simp [hz])
  have h2:=h y sm
  rw [ACx] at h1
  rw [AD,DU]
  omega
def xg(l:List Ep)(h : ∀ y∈l,FR y.c<=9):FR (Pl l).c<=9+l.length*14:=by
 unfold Pl
 cases l with
 | nil=>rw [LQ,iu];omega
 | cons x l =>
  have h1:=ACz l x 9 λy hy=>h y (by simp [hy])
  have h2:=h x sm
  rw [LQ,AD]
  omega
def ACw(t:Eu):FR (O8 t).c<=9+t.wires.length*14:=by
 have:=xg (t.wires.map λw=>ZP w.src) (λy hy=>by obtain ⟨w,_,rfl⟩:=AP.1 hy;rw [AHL];omega)
 rwa [Aq] at this
def ACv(t:Eu):FR (Md t).c<=35+t.wires.length*44:=by
 unfold Md
 have hw : ∀ y∈t.wires.map O9,FR y.c<=35:=λy hy=>by
  obtain ⟨w,_,rfl⟩:=AP.1 hy
  rw [O9,bB,S4,AHL,ATd];omega
 have hl:(t.wires.map O9).length=t.wires.length:=Aq _
 rw [<- hl]
 generalize t.wires.map O9=l at hw
 cases l with
 | nil=>rw [LQ,S4,iu];omega
 | cons x l =>
  have h1:=ZM l x 35 λy hy=>hw y (by simp [hy])
  have h2:=hw x sm
  rw [LQ,AD]
  omega
def ZN{t:Eu}{p:Er}(hp:FR p.c<=1048576)(hw:t.wires.length<=1048576):FR (HJ t p).c<=1073741824:=by
 unfold HJ
 split
 ·omega
 ·have h1:=ACw t
  have h2:=ACv t
  rw [bB,bB,AGB,bB,S4,ATe]
  omega
def ACJ : ∀ x:Ep,qW x x=true:=by
 refine JS _ λx ih=>?_
 rw [Ir]
 have : ∀ l:List Ep,(∀ y∈l,qW y y=true)->T6 l l=true:=by
  intro l
  induction l with
  | nil=>intro _;rw [L1]
  | cons y l ihl=>intro h;rw [I4,h y sm,ihl λz hz=>h z (by simp [hz])];rfl
 rw [this x.args ih];simp
def AEd(t:Eu)(hl:t.wires.length<=1073741824)(hp:t.program.length<=1073741824)(hb : ∀ x∈t.program,FR (HJ t x.policy).c<=1073741824):
  FQ AA 131 [.agg t.c] (.tup [.sl none (F9 (Gf t).1),.int .i64 (Gf t).2]):=by
 refine pB AQG rfl ?_
 simp only [f131,go_sem]
 refine Fm t.program (λo r=>HZ t o r) (λk o=>o.length=k) (λk o=>[(1,.ptr 0 0),(4,.sl (some 15) (F9 o)),(5,.int .i64 k)]) (λk o=>[some t.c]) [] FO rfl rfl rfl ?_ ?_
 ·intro k o y ys hd hy hI hF h0 h1 hw
  have hk2:=Fl hd
  simp only [go_sem,h0,h1,hw,Fg hy]
  repeat' (first|((first|refine pK (zx t hl _) ?_|refine pK (ACk _ (hb y (AB hy))) ?_);simp only [go_sem,h0,h1,hw,Fg hy])|(first|apply cS|apply gS)<;>intro hc<;>simp only [go_sem,hc,h0,h1,hw,Fg hy])
  ·have h2:HZ t [] t.program=([],2):=by rw [hF,HZ,iP (by simpa using hc)]
   rw [Gf,h2];rfl
  ·refine ⟨FO,FO,o++[{ y with policy:=HJ t y.policy }], ?_,by simp [hI],rfl,rfl⟩
   rw [HZ,iN (by simpa using hc)]
 ·intro o hI hF
  simp only [go_sem,AW,dF]
  rw [Gf,hF];rfl
section
variable {P:Program} {K:Kt} {e:Fs} {H:FP} {d:Tmp} {t kt et:TypeId} {o:Nat} {α:Type}
def AAz (f:α->AV) (l:List α) (k:AV) (hu:P.underlying t=some (.map kt et)) (hz:Fi P et=some (.bool false)) (hm:H[o]? =some (some (J1 (LW f l)))) (hk:MW P kt (k::l.map f)) (hd:Rl f l)
  (h:K ((d,.bool (l.any λx=>Ht (f x) k))::e) H):AIO P t false (.mapr o) k d K e H:=by
 unfold AIO
 rw [hu]
 dsimp only
 rw [fE hm]
 dsimp only
 refine ⟨by rw [dI];exact hk,WL f hd,_,hz, ?_⟩
 rw [AIP];exact h
end
@[go_sem] def Abv(o n:Nat):(AV.mapr o).bnd n=decide (o<n):=rfl
end Go.AI
namespace Go.AI
open Go.Proofs
set_option maxRecDepth 50000
def lh {H:FP} (l:List Fld) (hl:l.length<=9223372036854775807) (g:FuncId) (fi ca:List AV) (p:Fld->Bool)
  (h : ∀ x∈l,GK AA g (fi.map AV.borrow++(.agg x.c::ca.map AV.borrow)) H (.bool (p x))) :
  GK AA 150 [.sl none (GN l),.fn (.func g) fi ca] H (.int .i64 (H8 p l)):=by
 unfold GK
 refine aC APH rfl ?_
 simp only [f150,go_sem]
 refine Fa l (λr=>HN p (l.length - r.length) r) (λk=>[(0,.sl none (GN l)),(1,.fn (.func g) fi ca),(7,.int .i64 l.length),(8,.int .i64 k)]) hl rfl ?_ ?_
 ·intro k x xs hd hx hF h0 h1 hw
  have hk2:=Fl hd
  have e1:l.length - (xs.length+1)=k:=FO
  have e2:l.length - xs.length=k+1:=FO
  simp only [AD,e1,AO] at hF
  simp only [go_sem,h0,h1,Gv hx]
  repeat' (first|(refine aS (h x (AB hx)) ?_;simp only [go_sem])|(first|apply cS|apply gS)<;>intro hc<;>simp only [go_sem,hc,hw,e1,e2])
  ·rw [H8,hF,HN,iP hc]
  ·rw [HN,iN (by rw [hc];decide)]
 ·intro hF hlt
  simp only [go_sem,hlt,dF]
  rw [AO] at hF
  rw [H8,hF];rfl
@[go_sem] def AU7(o:Nat):(AV.it o).borrow = .it o:=rfl
@[go_sem] def AVh(H:FP)(x y:Option (List AV)):(H++[x]).set H.length y=H++[y]:=sm
def Iv(Pre:Nat->FP->Prop)(n:Nat)(g:FP)(k:Nat)(H:FP):Prop:=∃ pre g',H=pre++(g++g')/\pre.length=n/\Pre k pre
def Iv.grow{Pre:Nat->FP->Prop}{n k:Nat}{g H:FP}(h:Iv Pre n g k H)(x:FP):Iv Pre n g k (H++x):=by
 obtain ⟨pre,g',rfl,h1,h2⟩:=h
 exact ⟨pre,g'++x,sm,h1,h2⟩
def Iv.at{Pre:Nat->FP->Prop}{n k i:Nat}{g H:FP}(h:Iv Pre n g k H){c:Option (List AV)}(hi:g[i]? =some c):H[n+i]? =some c:=by
 obtain ⟨pre,g',rfl,h1,h2⟩:=h
 have hlt:=(AC.1 hi).1
 rw [AM FO,h1,Nat.add_sub_cancel_left,AT hlt,hi]
def Iv.atG{Pre:Nat->FP->Prop}{n k i:Nat}{g H x:FP}(h:Iv Pre n g k H){c:Option (List AV)}(hi:g[i]? =some c):(H++x)[n+i]? =some c:=(h.grow x).at hi
def AAI:FQ AA 88 [] (.agg JV.c):=by
 have h:FQ AA 88 [] (.agg JV.c):=FQ.run ACH 100 rfl kr kr
 exact h
def AEy{H:FP}(f:Fld)(s:ByteArray)(o:Nat)(ho:H[o]? =some (some [.str s])):GK AA 246 [.agg f.c,.ptr o 0] H (.bool (decide (f.name=s))):=by
 refine FV.drop rfl ?_
 refine aC AL2 rfl ?_
 have ho' : ∀ z,(H++z)[o]? =some (some [.str s]):=λz=>by
  have:=(AC.1 ho).1
  rw [AT this];exact ho
 simp only [f246,go_sem,ho',FN]
def fm{α:Type}(p:α->Bool): ∀ (l:List α) (i:Nat),match l.find? p with
  | some x => ∃ k,HN p i l=(i+k:Nat)/\l[k]? =some x
  | none=>HN p i l = -1
 | [],i=>rfl
 | y::l,i=>by
  rw [Bz,HN]
  cases h:p y with
  | true=>exact ⟨0,sm,rfl⟩
  | false =>
   have:=fm p l (i+1)
   cases hf:l.find? p with
   | none=>rw [hf] at this;simpa using this
   | some x =>
    rw [hf] at this
    obtain ⟨k,h1,h2⟩:=this
    exact ⟨k+1,by simp only [Bool.false_eq_true,if_false];rw [h1];congr 1;omega,by simpa using h2⟩
def QU(l:List Fld)(hl:l.length<=9223372036854775807)(s:ByteArray):FQ AA 174 [.sl none (GN l),.str s] (.tup [.agg (Fb l s).1.c,.bool (Fb l s).2]):=by
 have hi:=fm (λf:Fld=>decide (f.name=s)) l 0
 have hport:(JV.name:ByteArray)=GC:=rfl
 have hidx:=lh (H:=[some [.str s],some Fld.z.c]) l hl 246 [] [.ptr 0 0] (λf=>decide (f.name=s)) (λx _=>AEy x s 0 rfl)
 refine pB AOW rfl ?_
 cases hf:l.find? (λf:Fld=>decide (f.name=s)) with
 | none =>
  rw [hf] at hi
  have hi:H8 (λf:Fld=>decide (f.name=s)) l = -1:=hi
  rw [hi] at hidx
  simp only [f174,go_sem,FN]
  repeat' (first|((first|refine pK (AAI) ?_|refine aS (hidx) ?_);simp only [go_sem,FN])|(first|apply cS|apply gS)<;>intro hc<;>simp only [go_sem,hc,FN])
  ·have h5:s=GC:=by rw [<- hport];exact of_decide_eq_true hc
   rw [Fb,iP h5]
  ·have h5 : ¬ s=GC:=by rw [<- hport];exact of_decide_eq_false hc
   rw [Fb,iN h5,hf]
 | some x =>
  rw [hf] at hi
  obtain ⟨k,hk,hx⟩:=hi
  have hk:H8 (λf:Fld=>decide (f.name=s)) l=((0+k:Nat):Int):=hk
  rw [hk,Nat.zero_add] at hidx
  have g1 : ¬ ((k:Int)<0):=FO
  have g2:(0:Int)<=(k:Int):=FO
  simp only [f174,go_sem,FN]
  repeat' (first|((first|refine pK (AAI) ?_|refine aS (hidx) ?_);simp only [go_sem,FN,g1,g2,Gv hx,dF])|(first|apply cS|apply gS)<;>intro hc<;>simp only [go_sem,hc,FN,g1,g2,Gv hx,dF])
  ·have h5:s=GC:=by rw [<- hport];exact of_decide_eq_true hc
   rw [Fb,iP h5]
  ·have h5 : ¬ s=GC:=by rw [<- hport];exact of_decide_eq_false hc
   rw [Fb,iN h5,hf]
@[go_sem] def AVC{P:Program}{t:TypeId}{k k':IntKind}{x y:Int}{d:Tmp}{K:Kt}{e:Fs}{H:FP}:JF P .shl t (.int k x) (.int k' y) d K e H=(0<=y/\K ((d,.int k (k.wrap (x*2^(min y.toNat k.bits))))::e) H):=by
 rw [HP];simp [KE]
def sZ : ∀ n:Nat,n<17->IntKind.i64.wrap (IntKind.i64.wrap (1*2^(min n IntKind.i64.bits)) - 1)=i64 (XM n - 1):=by
 decide
def qB(f:Fld)(h0:0<=f.width)(h1:f.width<=16):FQ AA 236 [.agg f.c] (.int .i64 (KV f)):=by
 have hm:=sZ f.width.toNat FO
 refine pC AMf rfl ?_
 simp only [f236,go_sem,h0]
 rw [KV,<- hm];rfl
@[go_sem] def AcD{α:Type}(G:List α)(a b:α):(G++[a,b])[(G++[a]).length]? =some b:=by
 rw [AF,AM sm];simp
@[go_sem] def AcF{α:Type}(G:List α)(a b:α):(G++[a,b])[G.length]? =some a:=by
 rw [AM (AU _)];simp
@[go_sem] def AcE{α:Type}(G:List α)(a b z:α):(G++[a,b]).set (G++[a]).length z=G++[a,z]:=by
 rw [AF,List.set_append_right _ _ sm];simp
@[go_sem] def Ace:Fi AA 131=some .nilm/\AA.underlying 131=some (.map 3 4):=⟨kr,kr⟩
abbrev Ju(n:Int):AV:=.int .i64 n
def ZS{k:AV}: ∀ {es:List (AV×AV)} {i j:Nat} {v:AV},JD k es i=some (j,v)->i<=j /\ ∃ p,es[j - i]? =some p/\Ht p.1 k=true/\p.2=v
 | [],_,_,_,h=>by cases h
 | p::es,i,j,v,h=>by
  rw [JD] at h
  by_cases hk:Ht p.1 k=true
  ·rw [iP hk] at h
   cases h
   exact ⟨AU _,p,sm,hk,rfl⟩
  ·rw [iN hk] at h
   obtain ⟨h1,q,h2,h3,h4⟩:=ZS h
   refine ⟨FO,q, ?_,h3,h4⟩
   have:j - i=(j - (i+1))+1:=FO
   rw [this];simpa using h2
def qJ(z n:Int):Ht (Ju z) (Ju n)=(z==n):=by
 rw [BA];simp [Ht,Ng]
def qv(l:List Int)(n:Int):(l.any λy=>Ht (Ju y) (Ju n))=l.any λz=>z==n:=by
 simp only [qJ]
def zF(l:List Int)(n:Int):MU (LW Ju l) (Ju n) (.bool true)=LW Ju (if l.any (λz=>z==n) then l else l++[n]):=by
 by_cases h:(l.any λz=>z==n)=true
 ·rw [iP h]
  have h2:=Pm Ju (Ju n) l 0
  rw [qv,iP h] at h2
  unfold MU
  cases ha:JD (Ju n) (LW Ju l) 0 with
  | none=>rw [ha] at h2;cases h2
  | some q =>
   obtain ⟨j,v⟩:=q
   obtain ⟨_,p,hp,hk,hv⟩:=ZS ha
   dsimp only
   rw [Nat.sub_zero] at hp
   have hp2:=hp
   rw [LW,Ab] at hp2
   cases hl:l[j]? with
   | none=>rw [hl] at hp2;cases hp2
   | some z =>
    rw [hl] at hp2
    cases hp2
    rw [qJ] at hk
    have hz:z=n:=by simpa using hk
    subst hz
    apply A5
    intro m
    rw [Aw]
    split
    ·rename_i hjm
     subst hjm
     rw [hp]
     have:=(AC.1 hp).1
     rw [iP this]
    ·rfl
 ·rw [iN h]
  exact AET Ju n l (by rw [qv];exact (Dd _).mp h)
def rQ {P:Program} {K:Kt} {e:Fs} {H:FP} {t kt et:TypeId} {o:Nat} (l:List Int) (n:Int) (hu:P.underlying t=some (.map kt et)) (hm:H[o]? =some (some (J1 (LW Ju l)))) (hk:MW P kt (Ju n::l.map Ju)) (hd:Rl Ju l)
  (h:K e (H.set o (some (J1 (LW Ju (if l.any (λz=>z==n) then l else l++[n])))))):AHq P t (.mapr o) (Ju n) (.bool true) K e H:=by
 unfold AHq
 dsimp only
 rw [hu]
 dsimp only
 rw [fE hm]
 dsimp only
 refine ⟨by rw [dI];exact hk,WL Ju hd,rfl, ?_⟩
 rw [zF];exact h
def ACO{l:List Int}(n:Int)(hd:Rl Ju l):Rl Ju (if l.any (λz=>z==n) then l else l++[n]):=by
 split
 ·exact hd
 ·rename_i h
  exact WM Ju n hd (by rw [qv];exact (Dd _).mp h)
structure VE where
 v:Variable
 b:Bool
def XJ(l:List Fld)(s:Stp):Variable:=⟨s.var,Lc s.kind,Iz l s.key,if Lt s then s.n else 0,if Lt s then s.m else 0⟩
def N3(E:List VE)(nm:ByteArray):Option VE:=E.find? λe=>decide (e.v.name=nm)
def rJ:List VE->VE->List VE
 | [],x=>[x]
 | e::E,x=>if e.v.name=x.v.name then x::E else e::rJ E x
def kz(l:List Fld)(e:VE)(s:Stp):Bool:=e.v.family !=Lc s.kind||(!Xl e.v.widths (Iz l s.key)||(Lt s&&(e.b&&(e.v.n !=s.n||e.v.m !=s.m))))
def TM(l:List Fld)(E:List VE)(s:Stp):Option (List VE) :=
 if s.kind=0 then some E else match N3 E s.var with
  | none=>some (rJ E ⟨XJ l s,Lt s⟩)
  | some e=>if kz l e s then none else if Lt s then some (rJ E ⟨XJ l s,true⟩) else some E
def vGo(l:List Fld):List VE->List Et->Option (List VE)
 | E,[]=>some E
 | E,x::r=>match TM l E x.step with
  | none=>none
  | some E'=>vGo l E' r
def KM(x:VE)(nm:ByteArray): ∀ E:List VE,N3 (rJ E x) nm=if x.v.name=nm then some x else N3 E nm
 | []=>by
  unfold rJ N3
  by_cases h:x.v.name=nm<;>simp [h]
 | e::E=>by
  have ih:=KM x nm E
  unfold rJ
  by_cases h:e.v.name=x.v.name
  ·rw [iP h]
   unfold N3
   by_cases h2:x.v.name=nm
   ·simp [h2]
   ·simp [h2,h]
  ·rw [iN h]
   unfold N3 at ih ⊢
   rw [Bz,Bz]
   by_cases h2:e.v.name=nm
   ·have : ¬ x.v.name=nm:=λh3=>h (h2.trans h3.symm)
    simp [h2,this]
   ·simp only [h2,dF]
    exact ih
structure VInv (l:List Fld) (E:List VE) (p:List Et):Prop where
 src : ∀ nm e,N3 E nm=some e -> ∃ x∈p,x.step.kind≠0/\x.step.var=nm
 fits : ∀ x∈p,x.step.kind≠0 -> ∃ e,N3 E x.step.var=some e/\e.v.family=Lc x.step.kind/\e.v.widths=Iz l x.step.key/\(Lt x.step=true->e.b=true/\e.v.n=x.step.n/\e.v.m=x.step.m)
 num : ∀ nm e,N3 E nm=some e->e.b=true -> ∃ x∈p,x.step.kind≠0/\x.step.var=nm/\Lt x.step=true
def VInv.nil(l:List Fld):VInv l [] []:=⟨λ_ _ h=>(by cases h),λ_ h=>(by cases h),λ_ _ h=>(by cases h)⟩
def zE{l:List Fld}{E:List VE}{p:List Et}(h:VInv l E p){s:Stp}(hk:s.kind≠0):
  p.any (λy=>LS l y.step s)=match N3 E s.var with|none=>false|some e=>kz l e s:=by
 cases hf:N3 E s.var with
 | none =>
  dsimp only
  rw [Bl]
  intro y hy hc
  unfold LS at hc
  simp only [AQ,bne_iff_ne,ne_eq,decide_eq_true_eq] at hc
  obtain ⟨e,he,_⟩:=h.fits y hy hc.1.1
  rw [hc.2.1,hf] at he
  cases he
 | some e =>
  dsimp only
  rw [BA,CZ]
  constructor
  ·rintro ⟨y,hy,hc⟩
   unfold LS UD at hc
   simp only [AQ,bne_iff_ne,ne_eq,decide_eq_true_eq] at hc
   obtain ⟨⟨k1,k2⟩,hv,ha⟩:=hc
   obtain ⟨e',he,h1,h2,h3⟩:=h.fits y hy k1
   rw [hv,hf] at he
   cases he
   have ha':(Lt y.step=true/\Lt s=true/\(y.step.n≠s.n\/y.step.m≠s.m))\/Xl (Iz l y.step.key) (Iz l s.key)=false\/Lc y.step.kind≠Lc s.kind:=by
    generalize Xl (Iz l y.step.key) (Iz l s.key)=B at ha ⊢
    generalize Lc y.step.kind=f1 at ha ⊢
    generalize Lc s.kind=f2 at ha ⊢
    generalize Lt y.step=c1 at ha ⊢
    generalize Lt s=c2 at ha ⊢
    cases B<;>cases c1<;>cases c2<;>simp at ha ⊢
    all_goals first|exact ha|(rcases ha with ha|ha<;>grind)|grind
   unfold kz
   rw [h1,h2]
   rcases ha' with ⟨a1,a2,a3⟩|a|a
   ·obtain ⟨g1,g2,g3⟩:=h3 a1
    rw [g1,g2,g3,a2]
    rcases a3 with a3|a3<;>simp [a3]
   ·simp [a]
   ·simp [a]
  ·intro hb
   unfold kz at hb
   by_cases hn:Lt s=true/\e.b=true/\(e.v.n !=s.n||e.v.m !=s.m)=true
   ·obtain ⟨n1,n2,n3⟩:=hn
    obtain ⟨y,hy,k1,k2,k3⟩:=h.num _ e hf n2
    obtain ⟨e',he,h1,h2,h3⟩:=h.fits y hy k1
    rw [k2,hf] at he
    cases he
    obtain ⟨g1,g2,g3⟩:=h3 k3
    refine ⟨y,hy, ?_⟩
    unfold LS UD
    rw [n1,k3,<- g2,<- g3,n3]
    simp [k1,hk,k2]
   ·obtain ⟨y,hy,k1,k2⟩:=h.src _ e hf
    obtain ⟨e',he,h1,h2,h3⟩:=h.fits y hy k1
    rw [k2,hf] at he
    cases he
    refine ⟨y,hy, ?_⟩
    unfold LS UD
    rw [<- h1,<- h2]
    have hb2:(e.v.family !=Lc s.kind || !Xl e.v.widths (Iz l s.key))=true:=by
     rw [CH] at hb ⊢
     rcases hb with hb|hb
     ·exact .inl hb
     ·rw [CH] at hb
      rcases hb with hb|hb
      ·exact .inr hb
      ·exfalso
       apply hn
       simp only [AQ] at hb
       exact ⟨hb.1,hb.2.1,hb.2.2⟩
    have hb3:(Xl e.v.widths (Iz l s.key)&&e.v.family==Lc s.kind)=false:=by
     generalize Xl e.v.widths (Iz l s.key)=B at hb2 ⊢
     cases B
     ·rfl
     ·simp only [Av,Bool.or_false] at hb2
      simpa using hb2
    rw [hb3]
    simp [k1,hk,k2]
def VInv.step{l:List Fld}{E:List VE}{p:List Et}(h:VInv l E p){x:Et}{E':List VE}(hs:TM l E x.step=some E'):VInv l E' (p++[x]):=by
 unfold TM at hs
 split at hs
 ·rename_i hk
  cases hs
  exact ⟨λnm e he=>by obtain ⟨y,hy,h1⟩:=h.src nm e he;exact ⟨y,by simp [hy],h1⟩,
   λy hy hk2=>by
    rcases As.1 hy with hy|hy
    ·exact h.fits y hy hk2
    ·rw [Ac.1 hy] at hk2;exact absurd hk hk2,
   λnm e he hb=>by obtain ⟨y,hy,h1⟩:=h.num nm e he hb;exact ⟨y,by simp [hy],h1⟩⟩
 ·rename_i hk
  split at hs
  ·rename_i hf
   cases hs
   refine ⟨λnm e he=>?_,λy hy hk2=>?_,λnm e he hb=>?_⟩
   ·rw [KM] at he
    split at he
    ·rename_i hn
     exact ⟨x,sm,hk,hn⟩
    ·obtain ⟨y,hy,h1⟩:=h.src nm e he;exact ⟨y,by simp [hy],h1⟩
   ·rw [KM]
    rcases As.1 hy with hy|hy
    ·obtain ⟨e,he,h1⟩:=h.fits y hy hk2
     have hne : ¬ (XJ l x.step).name=y.step.var:=λhn=>by
      have hn:x.step.var=y.step.var:=hn
      rw [<- hn,hf] at he;cases he
     exact ⟨e,by rw [iN hne];exact he,h1⟩
    ·rcases Ac.1 hy with rfl
     refine ⟨_,iP rfl,rfl,rfl,λhn=>⟨hn, ?_, ?_⟩⟩
     ·simp [XJ,hn]
     ·simp [XJ,hn]
   ·rw [KM] at he
    split at he
    ·rename_i hn
     cases he
     exact ⟨x,sm,hk,hn,hb⟩
    ·obtain ⟨y,hy,h1⟩:=h.num nm e he hb;exact ⟨y,by simp [hy],h1⟩
  ·rename_i e0 hf
   split at hs
   ·cases hs
   ·rename_i hb0
    have hb0:kz l e0 x.step=false:=by simpa using hb0
    unfold kz at hb0
    rw [CE,CE] at hb0
    obtain ⟨b1,b2,b3⟩:=hb0
    have b1:e0.v.family=Lc x.step.kind:=by simpa using b1
    have b2:e0.v.widths=Iz l x.step.key:=by simpa [Xl] using b2
    split at hs
    ·rename_i hnum
     cases hs
     refine ⟨λnm e he=>?_,λy hy hk2=>?_,λnm e he hb=>?_⟩
     ·rw [KM] at he
      split at he
      ·rename_i hn
       exact ⟨x,sm,hk,hn⟩
      ·obtain ⟨y,hy,h1⟩:=h.src nm e he;exact ⟨y,by simp [hy],h1⟩
     ·rw [KM]
      rcases As.1 hy with hy|hy
      ·obtain ⟨e,he,h1,h2,h3⟩:=h.fits y hy hk2
       by_cases hn:(XJ l x.step).name=y.step.var
       ·have hn2:x.step.var=y.step.var:=hn
        rw [<- hn2,hf] at he
        cases he
        refine ⟨_,iP hn, ?_, ?_,λhny=>?_⟩
        ·show Lc x.step.kind=_
         rw [<- b1,h1]
        ·show Iz l x.step.key=_
         rw [<- b2,h2]
        ·obtain ⟨g1,g2,g3⟩:=h3 hny
         rw [hnum,g1,g2,g3] at b3
         simp only [By,CE,bne_eq_false_iff_eq] at b3
         refine ⟨rfl, ?_, ?_⟩
         ·simp [XJ,hnum,b3.1]
         ·simp [XJ,hnum,b3.2]
       ·exact ⟨e,by rw [iN hn];exact he,h1,h2,h3⟩
      ·rcases Ac.1 hy with rfl
       refine ⟨_,iP rfl,rfl,rfl,λhn=>⟨rfl, ?_, ?_⟩⟩
       ·simp [XJ,hn]
       ·simp [XJ,hn]
     ·rw [KM] at he
      split at he
      ·rename_i hn
       exact ⟨x,sm,hk,hn,hnum⟩
      ·obtain ⟨y,hy,h1⟩:=h.num nm e he hb;exact ⟨y,by simp [hy],h1⟩
    ·rename_i hnum
     cases hs
     refine ⟨λnm e he=>?_,λy hy hk2=>?_,λnm e he hb=>?_⟩
     ·obtain ⟨y,hy,h1⟩:=h.src nm e he;exact ⟨y,by simp [hy],h1⟩
     ·rcases As.1 hy with hy|hy
      ·exact h.fits y hy hk2
      ·rcases Ac.1 hy with rfl
       exact ⟨e0,hf,b1,b2,λhn=>absurd hn hnum⟩
     ·obtain ⟨y,hy,h1⟩:=h.num nm e he hb;exact ⟨y,by simp [hy],h1⟩
def kx{l:List Fld}{E:List VE}{p:List Et}(h:VInv l E p)(s:Stp):(TM l E s).isSome = !p.any (λy=>LS l y.step s):=by
 by_cases hk:s.kind=0
 ·unfold TM
  rw [iP hk]
  have:p.any (λy=>LS l y.step s)=false:=by
   rw [Bl];intro y _;simp [LS,hk]
  rw [this];rfl
 ·rw [zE h hk]
  unfold TM
  rw [iN hk]
  cases N3 E s.var with
  | none=>rfl
  | some e =>
   dsimp only
   cases kz l e s
   ·cases Lt s<;>rfl
   ·rfl
def YW(l:List Fld)(p:List Et): ∀ (n i:Nat) (E:List VE),p.length - i=n->VInv l E (p.take i)->(vGo l E (p.drop i)).isSome=K0 l p i (p.drop i)
 | 0,i,E,hn,_=>by
  rw [List.drop_eq_nil_of_le FO];rfl
 | n+1,i,E,hn,h=>by
  have hlt:i<p.length:=FO
  rw [BL hlt,vGo,K0]
  have h1:=kx h p[i].step
  cases hs:TM l E p[i].step with
  | none =>
   rw [hs] at h1
   rw [<- h1];rfl
  | some E' =>
   rw [hs] at h1
   rw [<- h1]
   have ht:p.take (i+1)=p.take i++[p[i]]:=by rw [BE,AL hlt];rfl
   have:=YW l p n (i+1) E' FO (by rw [ht];exact h.step hs)
   simpa using this
def pY(l:List Fld)(p:List Et):(vGo l [] p).isSome=K0 l p 0 p:=by
 have:=YW l p p.length 0 [] FO (by simpa using VInv.nil l)
 simpa using this
def ZY(t:Eu):Prop:=∀ w∈t.wires,(0<=w.src/\w.src<=65535)/\(0<=w.dst/\w.dst<=65535)
def SX(l:List Fld): ∀ r:List Er,LN l r=0 ↔ ∀ x∈r,RO l x=0
 | []=>by simp [LN]
 | x::r=>by
  rw [LN]
  by_cases h:RO l x=0
  ·rw [iP h,SX l r];simp [h]
  ·rw [iN h];simp [h]
def Pe(l:List Fld): ∀ r:List Ep,LR l r=0 ↔ ∀ x∈r,Pr l x=0
 | []=>by simp [LR]
 | x::r=>by
  rw [LR]
  by_cases h:Pr l x=0
  ·rw [iP h,Pe l r];simp [h]
  ·rw [iN h];simp [h]
def IK(l:List Fld)(x:Ep):Prop:=NL x=true /\ ∀ y∈SV x,Pr l y=0
def Hl(l:List Fld)(x:Er):Prop:=Rg x=true /\ ∀ y∈Mr x,RO l y=0
def fB:KV JV=65535:=dk
def ZC(l:List Fld):Fb l GC=(JV,true):=by unfold Fb;rw [iP rfl]
def gf:Uj GC=true:=by unfold Uj;simp
def qP(l:List Fld){n:Int}(h1:0<=n)(h2:n<=65535):IK l (ZP n):=by
 constructor
 ·rw [Hn]
  unfold Sh ZP
  rw [Hm]
  simp [gf,NK,h1,h2]
 ·intro y hy
  rw [LX] at hy
  have:y=ZP n:=by simpa [ZP,Li] using hy
  subst this
  have : ¬ (KV JV<n):=by rw [fB];omega
  simp [Pr,ZP,ZC,this]
def V9(l:List Fld):IK l Jj:=by
 constructor
 ·rw [Hn]
  unfold Sh Jj JO
  rw [Hm];simp
 ·intro y hy
  rw [LX] at hy
  have:y=Jj:=by simpa [Jj,Li] using hy
  subst this
  simp [Pr,Jj]
def AFR{l:List Fld}{x y:Ep}(hx:IK l x)(hy:IK l y):IK l (qt x y):=by
 constructor
 ·rw [Hn]
  unfold Sh qt JO
  dsimp only
  rw [Kc,Kc,Hm,hx.1,hy.1];simp
 ·intro z hz
  rw [LX] at hz
  rcases AX.1 hz with rfl|hz
  ·simp [Pr,qt]
  ·have hz:z∈Mq [x,y]:=hz
   rw [Jc,Jc,Li] at hz
   rcases As.1 hz with hz|hz
   ·exact hx.2 z hz
   ·exact hy.2 z (by simpa using hz)
def ABw{l:List Fld}{x:Ep}(hx:IK l x):IK l (bC x):=by
 constructor
 ·rw [Hn]
  unfold Sh bC JO
  dsimp only
  rw [Kc,Hm,hx.1];simp
 ·intro z hz
  rw [LX] at hz
  rcases AX.1 hz with rfl|hz
  ·simp [Pr,bC]
  ·have hz:z∈Mq [x]:=hz
   rw [Jc,Li] at hz
   exact hx.2 z (by simpa using hz)
def Ou{l:List Fld}{x:Ep}(hx:IK l x):Hl l (IB x):=by
 constructor
 ·rw [IP]
  unfold VU IB
  dsimp only
  rw [Ip,hx.1];simp
 ·intro z hz
  rw [Kr] at hz
  have:z=IB x:=by simpa [IB,KQ] using hz
  subst this
  show (if (1:Int)=1 then Rh l x else _)=0
  rw [iP rfl]
  exact (Pe l _).2 hx.2
def Qt:qW Pred.z Ph=true:=ACJ _
def ABv(l:List Fld){n:Int}(h1:0<=n)(h2:n<=65535):Hl l (Xo GC n):=by
 constructor
 ·rw [IP]
  unfold VU Xo
  dsimp only
  rw [Ip,Qt];simp [gf,NK,h1,h2]
 ·intro z hz
  rw [Kr] at hz
  have:z=Xo GC n:=by simpa [Xo,KQ] using hz
  subst this
  have : ¬ (KV JV<n):=by rw [fB];omega
  simp [RO,Xo,ZC,this]
def gO{l:List Fld}{x y:Er}(hx:Hl l x)(hy:Hl l y){k:Int}(hk:k=3\/k=4):Hl l ⟨k,Pred.z,⟨#[]⟩,0,[x,y]⟩:=by
 constructor
 ·rw [IP]
  unfold VU
  dsimp only
  rw [Kd,Kd,Ip,hx.1,hy.1,Qt]
  rcases hk with rfl|rfl<;>simp
 ·intro z hz
  rw [Kr] at hz
  rcases AX.1 hz with rfl|hz
  ·rcases hk with rfl|rfl<;>simp [RO]
  ·have hz:z∈MH [x,y]:=hz
   rw [Ik,Ik,KQ] at hz
   rcases As.1 hz with hz|hz
   ·exact hx.2 z hz
   ·exact hy.2 z (by simpa using hz)
def m8{l:List Fld}{x y:Er}(hx:Hl l x)(hy:Hl l y):Hl l (Kn x y):=gO hx hy (.inl rfl)
def Rf{l:List Fld}{x y:Er}(hx:Hl l x)(hy:Hl l y):Hl l (UC x y):=gO hx hy (.inr rfl)
def wo{l:List Fld}{x:Er}(hx:Hl l x):Hl l (Rs x):=by
 constructor
 ·rw [IP]
  unfold VU Rs
  dsimp only
  rw [Kd,Ip,hx.1,Qt];simp
 ·intro z hz
  rw [Kr] at hz
  rcases AX.1 hz with rfl|hz
  ·simp [RO,Rs]
  ·have hz:z∈MH [x]:=hz
   rw [Ik,KQ] at hz
   exact hx.2 z (by simpa using hz)
def Y7{α:Type}{p:α->Prop}{two:α->α->α}(h2 : ∀ x y,p x->p y->p (two x y)): ∀ (l:List α) (x:α),p x->(∀ y∈l,p y)->p (l.foldl two x)
 | [],x,hx,_=>hx
 | y::l,x,hx,h=>Y7 h2 l (two x y) (h2 x y hx (h y sm)) λz hz=>h z (by simp [hz])
def Y6{α:Type}{p:α->Prop}{two:α->α->α}{z:α}(h2 : ∀ x y,p x->p y->p (two x y))(hz:p z){l:List α}(h : ∀ y∈l,p y):p (LQ z two l):=by
 cases l with
 | nil=>exact hz
 | cons x l=>exact Y7 h2 l x (h x sm) λy hy=>h y (by simp [hy])
def gP{l:List Fld}{t:Eu}{p:Er}(hw:ZY t)(hp:Hl l p):Hl l (HJ t p):=by
 unfold HJ
 split
 ·exact hp
 ·have h1:IK l (O8 t):=Y6 (p:=IK l) (two:=qt) (λ_ _=>AFR) (V9 l) λy hy=>by
   obtain ⟨w,hm,rfl⟩:=AP.1 hy
   exact qP l (hw w hm).1.1 (hw w hm).1.2
  have h2:Hl l (Md t):=Y6 (p:=Hl l) (two:=Kn) (λ_ _=>m8) (Ou (V9 l)) λy hy=>by
   obtain ⟨w,hm,rfl⟩:=AP.1 hy
   exact Rf (Ou (qP l (hw w hm).1.1 (hw w hm).1.2)) (ABv l (hw w hm).2.1 (hw w hm).2.2)
  exact Rf (Rf hp (wo (Rf h2 hp))) (Ou (ABw h1))
def S0{l:List Fld}{x:Er}(h:Ki l x=0):Up x=0/\Hl l x:=by
 unfold Ki at h
 split at h
 ·rename_i h0
  refine ⟨h0, ?_,(SX l _).1 h⟩
  unfold Up qR at h0
  split at h0
  ·split at h0
   ·assumption
   ·cases h0
  ·rename_i hl;exact absurd h0 hl
 ·rename_i hn;exact absurd h hn
def an{l:List Fld}{x:Er}(hn:Up x≠2)(h:Hl l x):Ki l x=0:=by
 have h0:Up x=0:=by
  unfold Up qR QZ at hn ⊢
  rw [h.1] at hn ⊢
  by_cases hz:(lE x).nodes>200\/(lE x).depth>20
  ·rw [iP hz] at hn;exact absurd rfl hn
  ·rw [iN hz];rfl
 rw [Ki,iP h0]
 exact (SX l _).2 h.2
def YX(l:List Fld): ∀ (p q:List Et) (E:List VE),p.map (·.step)=q.map (·.step)->vGo l E p=vGo l E q
 | [],[],_,_=>rfl
 | [],_::_,_,h=>by cases h
 | _::_,[],_,h=>by cases h
 | x::p,y::q,E,h=>by
  simp only [List.map_cons,List.cons.injEq] at h
  rw [vGo,vGo,h.1]
  cases TM l E y.step with
  | none=>rfl
  | some E'=>exact YX l p q E' h.2
def U4(l:List Fld): ∀ r:List Et,Mn l r=0 ↔ ∀ x∈r,Ki l x.policy=0/\MD l x.step=0
 | []=>by simp [Mn]
 | x::r=>by
  rw [Mn]
  by_cases h:Ki l x.policy=0
  ·rw [iP h]
   by_cases h2:MD l x.step=0
   ·rw [iP h2,U4 l r];simp [h,h2]
   ·rw [iN h2];simp [h2]
  ·rw [iN h];simp [h]
def WT : ∀ r:List Et,Pt r=0 ↔ ∀ x∈r,Up x.policy=0/\cZ x.step=0
 | []=>by simp [Pt]
 | x::r=>by
  rw [Pt]
  by_cases h:Up x.policy=0
  ·rw [iP h]
   by_cases h2:cZ x.step=0
   ·rw [iP h2,WT r];simp [h,h2]
   ·rw [iN h2];simp [h2]
  ·rw [iN h];simp [h]
def qe{l:List Fld}{p:List Et}(h:QB l p=0):p.length<=8/\(∀ x∈p,Up x.policy=0/\cZ x.step=0)/\(∀ x∈p,Ki l x.policy=0/\MD l x.step=0)/\(vGo l [] p).isSome=true:=by
 unfold QB at h
 split at h
 ·rename_i hn;exact absurd h hn
 ·rename_i h1
  split at h
  ·rename_i hn;exact absurd h hn
  ·rename_i h2
   split at h
   ·rename_i h3
    have h1:XH p=0:=by simpa using h1
    have h2:Mn l p=0:=by simpa using h2
    unfold XH at h1
    split at h1
    ·cases h1
    ·rename_i hl
     exact ⟨FO,(WT p).1 h1,(U4 l p).1 h2,by rw [pY];exact h3⟩
   ·cases h
def ATG{l:List Fld}{p:List Et}(h1:p.length<=8)(h2 : ∀ x∈p,Up x.policy=0/\cZ x.step=0)(h3 : ∀ x∈p,Ki l x.policy=0/\MD l x.step=0)(h4:(vGo l [] p).isSome=true):QB l p=0:=by
 rw [pY] at h4
 have g1:XH p=0:=by unfold XH;rw [iN FO];exact (WT p).2 h2
 have g2:Mn l p=0:=(U4 l p).2 h3
 unfold QB
 rw [iN (by simp [g1]),iN (by simp [g2]),iP h4]
def RB(t:Eu): ∀ (r o:List Et),(HZ t o r).2=2/\(HZ t o r).1=[] \/
  (HZ t o r).2=0/\(HZ t o r).1=o++r.map (λx=>{ x with policy:=HJ t x.policy }) /\ ∀ x∈r,Up (HJ t x.policy)≠2
 | [],o => .inr ⟨rfl,by simp [HZ],λ_ h=>by cases h⟩
 | x::r,o=>by
  rw [HZ]
  split
  ·exact .inl ⟨rfl,rfl⟩
  ·rename_i hn
   rcases RB t r (o++[{ x with policy:=HJ t x.policy }]) with h|⟨h1,h2,h3⟩
   ·exact .inl h
   ·refine .inr ⟨h1,by rw [h2];simp,λy hy=>?_⟩
    rcases AX.1 hy with rfl|hy
    ·exact hn
    ·exact h3 y hy
def ku{l:List Fld}{t:Eu}(hw:ZY t)(h:QB l t.program=0):
  ((Gf t).2=2/\(Gf t).1=[]/\t.wires≠[])\/((Gf t).2=0/\QB l (Gf t).1=0/\(Gf t).1.map (·.step)=t.program.map (·.step)):=by
 obtain ⟨h1,h2,h3,h4⟩:=qe h
 rcases RB t t.program [] with ⟨g1,g2⟩|⟨g1,g2,g3⟩
 ·refine .inl ⟨g1,g2,λhe=>?_⟩
  have : ∀ (r o:List Et),(∀ x∈r,Up x.policy=0)->(HZ t o r).2=0:=by
   intro r
   induction r with
   | nil=>intro o _;rfl
   | cons x r ih =>
    intro o hx
    rw [HZ]
    have e:HJ t x.policy=x.policy:=by unfold HJ;rw [iP he]
    rw [e,iN (by rw [hx x sm];decide)]
    exact ih _ λy hy=>hx y (by simp [hy])
  rw [this t.program [] λx hx=>(h2 x hx).1] at g1
  cases g1
 ·have hst:(Gf t).1.map (·.step)=t.program.map (·.step):=by
   show (HZ t [] t.program).1.map _=_
   rw [g2];simp [Bx,Function.comp_def]
  refine .inr ⟨g1, ?_,hst⟩
  have hm : ∀ x∈(Gf t).1,Ki l x.policy=0/\Up x.policy=0/\cZ x.step=0/\MD l x.step=0:=by
   intro x hx
   have hx:x∈(HZ t [] t.program).1:=hx
   rw [g2,List.nil_append] at hx
   obtain ⟨y,hy,rfl⟩:=AP.1 hx
   have hg:=an (g3 y hy) (gP hw (S0 (h3 y hy).1).2)
   exact ⟨hg,(S0 hg).1,(h2 y hy).2,(h3 y hy).2⟩
  refine ATG ?_ (λx hx=>⟨(hm x hx).2.1,(hm x hx).2.2.1⟩) (λx hx=>⟨(hm x hx).1,(hm x hx).2.2.2⟩) ?_
  ·have:=congrArg List.length hst
   simp only [Aq] at this
   omega
  ·rw [YX l _ _ [] hst];exact h4
def W2{a b:Ev}(h:a.l=b.l):a=b:=by
 cases a;cases b
 simp only [Head.l,List.cons.injEq,and_true] at h
 simp [h]
def Ld:List Int->List Int->Int
 | [],[]=>0
 | [],_::_ => -1
 | _::_,[]=>1
 | x::a,y::b=>if x<y then -1 else if y<x then 1 else Ld a b
def Is(a b:Ev):Int:=Ld a.l b.l
def ZG : ∀ a:List Int,Ld a a=0
 | []=>rfl
 | x::a=>by rw [Ld,iN FO,iN FO,ZG a]
def qd : ∀ {a b:List Int},Ld a b=0->a=b
 | [],[],_=>rfl
 | [],_::_,h=>by simp [Ld] at h
 | _::_,[],h=>by simp [Ld] at h
 | x::a,y::b,h=>by
  rw [Ld] at h
  split at h
  ·cases h
  ·split at h
   ·cases h
   ·have:x=y:=FO
    rw [this,qd h]
def iM : ∀ a b:List Int,Ld a b = - Ld b a
 | [],[]=>rfl
 | [],_::_=>rfl
 | _::_,[]=>rfl
 | x::a,y::b=>by
  rw [Ld,Ld]
  by_cases h1:x<y
  ·rw [iP h1,iN FO,iP h1]
  ·by_cases h2:y<x
   ·rw [iN h1,iP h2,iP h2];rfl
   ·rw [iN h1,iN h2,iN h2,iN h1,iM a b]
def WP : ∀ {a b c:List Int},Ld a b<0->Ld b c<0->Ld a c<0
 | [],[],_,h,_=>by simp [Ld] at h
 | [],_::_,[],_,h=>by simp [Ld] at h
 | [],_::_,_::_,_,_=>by simp [Ld]
 | _::_,[],_,h,_=>by simp [Ld] at h
 | _::_,_::_,[],_,h=>by simp [Ld] at h
 | x::a,y::b,z::c,h1,h2=>by
  rw [Ld] at h1 h2 ⊢
  by_cases hxy:x<y
  ·by_cases hyz:y<z
   ·rw [iP FO];decide
   ·rw [iN hyz] at h2
    by_cases hzy:z<y
    ·rw [iP hzy] at h2;simp at h2
    ·rw [iP FO];decide
  ·rw [iN hxy] at h1
   by_cases hyx:y<x
   ·rw [iP hyx] at h1;simp at h1
   ·rw [iN hyx] at h1
    have:x=y:=FO
    subst this
    by_cases hyz:x<z
    ·rw [iP hyz];decide
    ·rw [iN hyz] at h2 ⊢
     by_cases hzy:z<x
     ·rw [iP hzy] at h2;simp at h2
     ·rw [iN hzy] at h2 ⊢
      exact WP h1 h2
def Pi(a:Ev):Is a a=0:=ZG _
def Ro{a b:Ev}(h:Is a b=0):a=b:=W2 (qd h)
def WQ(a b:Ev):Is a b = - Is b a:=iM _ _
def L5{a b c:Ev}(h1:Is a b<0)(h2:Is b c<0):Is a c<0:=WP h1 h2
def LU(l:List Ev):Prop:=l.Pairwise λa b=>Is a b<0
def zS:LU []:=.nil
def c9(h:Ev):LU [h]:=List.pairwise_singleton _ _
def pf : ∀ {a b:List Ev},LU a->LU b->(∀ x,x∈a↔x∈b)->a=b
 | [],[],_,_,_=>rfl
 | [],y::b,_,_,h=>by have:=(h y).2 sm ; cases this
 | x::a,[],_,_,h=>by have:=(h x).1 sm ; cases this
 | x::a,y::b,h1,h2,h=>by
  obtain ⟨g1,g2⟩:=Bk.1 h1
  obtain ⟨g3,g4⟩:=Bk.1 h2
  have hxy:x=y:=by
   rcases AX.1 ((h x).1 sm) with e|e
   ·exact e
   ·rcases AX.1 ((h y).2 sm) with e2|e2
    ·exact e2.symm
    ·have h3:=g3 x e
     have h4:=g1 y e2
     have:=WQ x y
     omega
  subst hxy
  congr 1
  refine pf g2 g4 λz=>⟨λhz=>?_,λhz=>?_⟩
  ·rcases AX.1 ((h z).1 (by simp [hz])) with e|e
   ·subst e;have:=g1 z hz;rw [Pi] at this;omega
   ·exact e
  ·rcases AX.1 ((h z).2 (by simp [hz])) with e|e
   ·subst e;have:=g3 z hz;rw [Pi] at this;omega
   ·exact e
def OC(h:Ev):List Ev->List Ev
 | []=>[h]
 | x::r=>if Is x h<0 then x::OC h r else if x=h then x::r else h::x::r
def Gt(a b:List Ev):List Ev:=b.foldl (λo x=>OC x o) a
def Vb(h z:Ev): ∀ l:List Ev,z∈OC h l↔z=h\/z∈l
 | []=>by simp [OC]
 | x::r=>by
  rw [OC]
  split
  ·rw [AX,Vb h z r,AX]
   constructor
   ·rintro (e|e|e)
    ·exact .inr (.inl e)
    ·exact .inl e
    ·exact .inr (.inr e)
   ·rintro (e|e|e)
    ·exact .inr (.inl e)
    ·exact .inl e
    ·exact .inr (.inr e)
  ·split
   ·rename_i e
    subst e
    simp
   ·simp
def cz(h:Ev): ∀ {l:List Ev},LU l->LU (OC h l)
 | [],_=>c9 h
 | x::r,hs=>by
  obtain ⟨g1,g2⟩:=Bk.1 hs
  rw [OC]
  split
  ·rename_i hlt
   refine Bk.2 ⟨λz hz=>?_,cz h g2⟩
   rcases (Vb h z r).1 hz with e|e
   ·rw [e];exact hlt
   ·exact g1 z e
  ·rename_i hlt
   split
   ·exact hs
   ·rename_i hne
    have hx:Is h x<0:=by
     have h1:=WQ h x
     have:Is x h≠0:=λe=>hne (Ro e)
     omega
    refine Bk.2 ⟨λz hz=>?_,hs⟩
    rcases AX.1 hz with e|e
    ·rw [e];exact hx
    ·exact L5 hx (g1 z e)
def dh(h:Ev): ∀ l:List Ev,l.length<=(OC h l).length/\(OC h l).length<=l.length+1
 | []=>by simp [OC]
 | x::r=>by
  have:=dh h r
  rw [OC]
  split
  ·simp only [AD];omega
  ·split<;>simp
def QX(z:Ev): ∀ (b a:List Ev),z∈Gt a b↔z∈a\/z∈b
 | [],a=>by simp [Gt]
 | x::b,a=>by
  have:=QX z b (OC x a)
  unfold Gt at this ⊢
  rw [CD,this,Vb,AX]
  constructor
  ·rintro ((e|e)|e)
   ·exact .inr (.inl e)
   ·exact .inl e
   ·exact .inr (.inr e)
  ·rintro (e|e|e)
   ·exact .inl (.inr e)
   ·exact .inl (.inl e)
   ·exact .inr e
def QO : ∀ (b:List Ev) {a:List Ev},LU a->LU (Gt a b)
 | [],_,h=>h
 | x::b,a,h=>QO b (a:=OC x a) (cz x h)
def Va : ∀ (b a:List Ev),a.length<=(Gt a b).length/\(Gt a b).length<=a.length+b.length
 | [],a=>by simp [Gt]
 | x::b,a=>by
  have h1:=Va b (OC x a)
  have h2:=dh x a
  unfold Gt at h1 ⊢
  rw [CD,AD]
  omega
def JA:Nat->List Ev->List Ev->List Ev
 | 0,_,_=>[]
 | _+1,[],b=>b
 | _+1,a,[]=>a
 | n+1,x::a,y::b=>if Is x y<0 then x::JA n a (y::b) else if Is x y=0 then y::JA n a b else y::JA n (x::a) b
def Hx(a b:List Ev):List Ev:=JA (a.length+b.length+1) a b
def KU(z:Ev): ∀ (n:Nat) (a b:List Ev),a.length+b.length<n->(z∈JA n a b↔z∈a\/z∈b)
 | 0,a,b,h=>FO
 | n+1,[],b,_=>by simp [JA]
 | n+1,x::a,[],_=>by simp [JA]
 | n+1,x::a,y::b,h=>by
  simp only [AD] at h
  rw [JA]
  split
  ·rw [AX,KU z n a (y::b) (by simp;omega),AX (l:=a)]
   constructor
   ·rintro (e|e|e)
    ·exact .inl (.inl e)
    ·exact .inl (.inr e)
    ·exact .inr e
   ·rintro ((e|e)|e)
    ·exact .inl e
    ·exact .inr (.inl e)
    ·exact .inr (.inr e)
  ·split
   ·rename_i he
    have hxy:=Ro he
    subst hxy
    rw [AX,KU z n a b FO,AX,AX]
    constructor
    ·rintro (e|e|e)
     ·exact .inl (.inl e)
     ·exact .inl (.inr e)
     ·exact .inr (.inr e)
    ·rintro ((e|e)|(e|e))
     ·exact .inl e
     ·exact .inr (.inl e)
     ·exact .inl e
     ·exact .inr (.inr e)
   ·rw [AX,KU z n (x::a) b (by simp;omega),AX (l:=b)]
    constructor
    ·rintro (e|e|e)
     ·exact .inr (.inl e)
     ·exact .inl e
     ·exact .inr (.inr e)
    ·rintro (e|e|e)
     ·exact .inr (.inl e)
     ·exact .inl e
     ·exact .inr (.inr e)
def PQ : ∀ (n:Nat) (a b:List Ev),a.length+b.length<n->LU a->LU b->LU (JA n a b)
 | 0,a,b,h,_,_=>FO
 | n+1,[],b,_,_,hb=>by simpa [JA] using hb
 | n+1,x::a,[],_,ha,_=>by simpa [JA] using ha
 | n+1,x::a,y::b,h,ha,hb=>by
  simp only [AD] at h
  obtain ⟨g1,g2⟩:=Bk.1 ha
  obtain ⟨g3,g4⟩:=Bk.1 hb
  rw [JA]
  split
  ·rename_i hlt
   refine Bk.2 ⟨λz hz=>?_,PQ n a (y::b) (by simp;omega) g2 hb⟩
   rcases (KU z n a (y::b) (by simp;omega)).1 hz with e|e
   ·exact g1 z e
   ·rcases AX.1 e with e|e
    ·rw [e];exact hlt
    ·exact L5 hlt (g3 z e)
  ·rename_i hlt
   split
   ·rename_i he
    have hxy:=Ro he
    subst hxy
    refine Bk.2 ⟨λz hz=>?_,PQ n a b FO g2 g4⟩
    rcases (KU z n a b FO).1 hz with e|e
    ·exact g1 z e
    ·exact g3 z e
   ·rename_i hne
    have hyx:Is y x<0:=by have:=WQ x y;omega
    refine Bk.2 ⟨λz hz=>?_,PQ n (x::a) b (by simp;omega) ha g4⟩
    rcases (KU z n (x::a) b (by simp;omega)).1 hz with e|e
    ·rcases AX.1 e with e|e
     ·rw [e];exact hyx
     ·exact L5 hyx (g1 z e)
    ·exact g3 z e
def PT{a b:List Ev}(ha:LU a)(hb:LU b):Hx a b=Gt a b :=
 pf (PQ _ a b FO ha hb) (QO b ha) λz=>by rw [Hx,KU z _ a b FO,QX]
def JP(f:Ev->Option (List Ev)):List Ev->List Ev->Option (List Ev)
 | o,[]=>some o
 | o,x::r=>match f x with
  | none=>none
  | some a=>if 256<(Gt o a).length then none else JP f (Gt o a) r
def IV(o n:List Ev):List Ev:=n.filter λx => !o.any λy=>decide (y=x)
def LB(f:Ev->Option (List Ev)):Nat->List Ev->List Ev->Option (List Ev)
 | 0,_,_=>none
 | k+1,o,n=>if n=[] then some o else match JP f [] n with
  | none=>none
  | some m=>if 256<(Gt o (IV o m)).length then none else LB f k (Gt o (IV o m)) (IV o m)
def Fk(h:Ev)(k:Nat):Int:=(h.l[k]?).getD 0
def rZ(h:Ev)(k:Nat)(v:Int):Ev :=
 ⟨if k=0 then v else h.h0,if k=1 then v else h.h1,if k=2 then v else h.h2,if k=3 then v else h.h3,if k=4 then v else h.h4,if k=5 then v else h.h5,if k=6 then v else h.h6,if k=7 then v else h.h7,if k=8 then v else h.h8,if k=9 then v else h.h9⟩
def HE(f:Fld):Prop:=1<=f.width/\f.width<=16/\0<=f.at_/\f.at_<=143/\f.at_ % 16+f.width<=16
def fK(f:Fld):Nat:=(f.at_ / 16).toNat
def fS(f:Fld):Nat:=(16 - f.at_ % 16 - f.width).toNat
def fW(f:Fld):Nat:=f.width.toNat
def Nk(f:Fld)(h:Ev):Nat:=(Fk h (fK f)).toNat / 2^fS f % 2^fW f
def RH(f:Fld)(h:Ev)(n:Nat):Ev:=rZ h (fK f) ((((Fk h (fK f)).toNat ^^^ ((Fk h (fK f)).toNat &&& ((2^fW f - 1) <<< fS f))) ||| (n <<< fS f):Nat):Int)
def Jd{f:Fld}(h:HE f):fK f<=8/\fS f+fW f<=16/\1<=fW f:=by
 unfold HE at h
 unfold fK fS fW
 omega
def Hj{h:Ev}(hr:FX h=true)(k:Nat):0<=Fk h k/\Fk h k<=65535:=by
 unfold FX at hr
 unfold Fk
 cases hk:h.l[k]? with
 | none=>simp
 | some v =>
  have:=An.1 hr v (AB hk)
  simpa [LT] using this
def AA5(h:Ev)(k:Nat)(v:Int):(rZ h k v).l=h.l.set k v:=by
 match k with
 | 0=>rfl
 | 1=>rfl
 | 2=>rfl
 | 3=>rfl
 | 4=>rfl
 | 5=>rfl
 | 6=>rfl
 | 7=>rfl
 | 8=>rfl
 | 9=>rfl
 | n+10=>rfl
def TS{h:Ev}(hr:FX h=true)(k:Nat){v:Int}(h0:0<=v)(h1:v<=65535):FX (rZ h k v)=true:=by
 unfold FX at hr ⊢
 rw [AA5,An]
 intro x hx
 rcases List.mem_or_eq_of_mem_set hx with hx|rfl
 ·exact An.1 hr x hx
 ·simp [LT,h0,h1]
def iv{W M:Nat}(hW:W<65536)(hM:M<65536):W ^^^ (W &&& M)<65536:=Ca (n:=16) hW (Dm _ hM)
def AHx{W s w n:Nat}(hW:W<65536)(hn:n<2^w)(hsw:s+w<=16):(W ^^^ (W &&& ((2^w - 1) <<< s))) ||| (n <<< s)<65536:=by
 refine EI (n:=16) (Ca (n:=16) hW (CY DJ hW)) ?_
 rw [Dn]
 calc n*2^s<2^w*2^s:=EJ hn (BZ s)
  _=2^(s+w):=by rw [CC,EK]
  _<=2^16:=Ba dc hsw
def TL(h:Ev)(k j:Nat)(v:Int)(hk:k<10):Fk (rZ h k v) j=if j=k then v else Fk h j:=by
 unfold Fk
 rw [AA5,Aw]
 by_cases e:k=j
 ·subst e
  rw [iP rfl,iP (by simpa [Head.l] using hk),iP rfl];rfl
 ·rw [iN e,iN (λc=>e c.symm)]
def cj(j:Nat):Fk Head.z j=0:=by
 match j with
 | 0|1|2|3|4|5|6|7|8|9=>rfl
 | n+10=>rfl
def ABV{a b:Ev}(h : ∀ k,k<10->Fk a k=Fk b k):a=b:=by
 apply W2
 apply A5
 intro k
 by_cases hk:k<10
 ·have:=h k hk
  unfold Fk at this
  have la:a.l.length=10:=rfl
  have lb:b.l.length=10:=rfl
  rw [AL FO,AL FO] at this ⊢
  simpa using this
 ·rw [Az (by show 10<=k;omega),Az (by show 10<=k;omega)]
def LP(w m:Nat):Nat:=(2^w - 1) ^^^ ((2^w - 1) &&& (2^(w - m) - 1))
def Yu(w m j:Nat):(LP w m).testBit j=(decide (w - m<=j)&&decide (j<w)):=by
 unfold LP
 rw [Do,Ct,EL,EL]
 by_cases h1:j<w<;>by_cases h2:j<w - m<;>simp [h1,h2]<;>omega
def fC(w m:Nat):LP w m<2^w:=by
 have:0<2^w:=BZ w
 exact Ca FO (CY DJ FO)
def mE(w:Nat):LP w w=2^w - 1:=by
 unfold LP
 rw [AO];simp
def VI(f:Fld)(n m:Nat):Pat:=⟨RH f Head.z (LP (fW f) m),RH f Head.z (n &&& LP (fW f) m)⟩
def mD(p:Pat)(h:Ev):Bool:=(Am 10).all λi=>(((Fk p.bits i).toNat ^^^ (Fk h i).toNat) &&& (Fk p.mask i).toNat)==0
def Iy(p:Pat)(h:Ev)(i:Nat):Int:=((((Fk h i).toNat ^^^ ((Fk h i).toNat &&& (Fk p.mask i).toNat)) ||| (Fk p.bits i).toNat:Nat):Int)
def bJ(p:Pat)(h:Ev):Ev:=⟨Iy p h 0,Iy p h 1,Iy p h 2,Iy p h 3,Iy p h 4,Iy p h 5,Iy p h 6,Iy p h 7,Iy p h 8,Iy p h 9⟩
def SM(f:Fld)(hf:HE f)(v j:Nat):Fk (RH f Head.z v) j=if j=fK f then ((v <<< fS f:Nat):Int) else 0:=by
 have hd:=Jd hf
 unfold RH
 rw [TL _ _ _ _ FO,cj,cj]
 split<;>simp
def iF{a b w k:Nat}(ha:a<2^w)(hb:b<2^w):a / 2^k=b / 2^k ↔ ∀ j,k<=j->j<w->a.testBit j=b.testBit j:=by
 constructor
 ·intro h j h1 _
  have e:j=(j - k)+k:=FO
  rw [e,<- Cu,<- Cu,h]
 ·intro h
  apply EM
  intro i
  rw [Cu,Cu]
  by_cases hw:i+k<w
  ·exact h _ FO hw
  ·rw [EN (BR ha (Ba dc FO)),EN (BR hb (Ba dc FO))]
def gQ(f:Fld)(h:Ev)(j:Nat)(hj:j<fW f):(Nk f h).testBit j=(Fk h (fK f)).toNat.testBit (fS f+j):=by
 unfold Nk
 rw [Nat.testBit_mod_two_pow,Cu,CC]
 simp [hj]
def AFT(f:Fld)(h:Ev):Nk f h<2^fW f:=Nat.mod_lt _ (BZ _)
def Yt{f:Fld}(hf:HE f){n m:Nat}(hn:n<2^fW f)(hm:m<=fW f)(h:Ev):mD (VI f n m) h=decide (Nk f h / 2^(fW f - m)=n / 2^(fW f - m)):=by
 have hd:=Jd hf
 rw [BA,decide_eq_true_eq,iF (AFT f h) hn]
 unfold mD VI
 rw [An]
 constructor
 ·intro hall j h1 h2
  have:=hall (fK f) (by rw [Bp];omega)
  rw [SM f hf,SM f hf,iP rfl,iP rfl,beq_iff_eq,Aa,Aa] at this
  have hb:((((n &&& LP (fW f) m) <<< fS f) ^^^ (Fk h (fK f)).toNat) &&& (LP (fW f) m <<< fS f)).testBit (fS f+j)=false:=by rw [this];simp
  rw [Ct,Do,DK,DK,Ct] at hb
  have e1:decide (fS f<=fS f+j)=true:=sm
  have e2:fS f+j - fS f=j:=FO
  have e3:(LP (fW f) m).testBit j=true:=by rw [Yu];simp;omega
  rw [e1,e2,e3] at hb
  rw [gQ f h j h2]
  simp only [Bj,By,bne_eq_false_iff_eq] at hb
  exact hb.symm
 ·intro hbits i hi
  rw [SM f hf,SM f hf]
  by_cases e:i=fK f
  ·subst e
   rw [iP rfl,iP rfl,beq_iff_eq,Aa,Aa]
   apply EM
   intro i
   rw [Ct,Do,DK,DK,Ct,Yu]
   by_cases g0:fS f<=i
   ·by_cases g1:fW f - m<=i - fS f/\i - fS f<fW f
    ·have hb:=hbits (i - fS f) g1.1 g1.2
     rw [gQ f h _ g1.2,show fS f+(i - fS f)=i by omega] at hb
     have e1:decide (fS f<=i)=true:=by simpa using g0
     have e2:(decide (fW f - m<=i - fS f)&&decide (i - fS f<fW f))=true:=by simp;omega
     rw [hb,e1,e2]
     simp
    ·have:(decide (fW f - m<=i - fS f)&&decide (i - fS f<fW f))=false:=by simp;omega
     rw [this];simp
   ·simp [g0]
  ·rw [iN e,iN e];simp
def xo{f:Fld}(hf:HE f){n:Nat}(hn:n<2^fW f){h:Ev}(hr:FX h=true):bJ (VI f n (fW f)) h=RH f h n:=by
 have hd:=Jd hf
 apply ABV
 intro k hk
 have e1:Fk (bJ (VI f n (fW f)) h) k=Iy (VI f n (fW f)) h k:=by
  match k,hk with
  | 0,_|1,_|2,_|3,_|4,_|5,_|6,_|7,_|8,_|9,_=>rfl
 rw [e1]
 unfold Iy VI
 rw [SM f hf,SM f hf,mE]
 have hand:n &&& (2^fW f - 1)=n:=by rw [EO,Bv hn]
 rw [hand]
 unfold RH
 rw [TL _ _ _ _ FO]
 by_cases e:k=fK f
 ·subst e
  rw [iP rfl,iP rfl,iP rfl,Aa,Aa]
 ·rw [iN e,iN e,iN e]
  have:=(Hj hr k).1
  simp;omega
def NR{f:Fld}(hf:HE f){n:Nat}(hn:n<2^fW f){h:Ev}(hr:FX h=true):FX (RH f h n)=true:=by
 have hd:=Jd hf
 have hw:=Hj hr (fK f)
 have hlt:=AHx (W:=(Fk h (fK f)).toNat) (s:=fS f) (w:=fW f) (n:=n) FO hn FO
 unfold RH
 refine TS hr _ FO ?_
 omega
def yH(x y:Int):Int:=IntKind.i64.wrap (BitVec.ofInt 64 x &&& BitVec.ofInt 64 y).toNat
def orI(x y:Int):Int:=IntKind.i64.wrap (BitVec.ofInt 64 x ||| BitVec.ofInt 64 y).toNat
def AEH(x y:Int):Int:=IntKind.i64.wrap (BitVec.ofInt 64 x ^^^ BitVec.ofInt 64 y).toNat
def w9(x y:Int):Int:=IntKind.i64.wrap (BitVec.ofInt 64 x &&& ~~~ BitVec.ofInt 64 y).toNat
section
variable {P:Program} {t:TypeId} {k:IntKind} {x y:Int} {d:Tmp} {K:Kt} {e:Fs} {H:FP}
@[go_sem] def AVG:JF P .and t (.int .i64 x) (.int .i64 y) d K e H=K ((d,.int .i64 (yH x y))::e) H:=by
 rw [HP];exact propext ⟨λh=>h.2,λh=>⟨rfl,h⟩⟩
@[go_sem] def Ab1:JF P .or t (.int .i64 x) (.int .i64 y) d K e H=K ((d,.int .i64 (orI x y))::e) H:=by
 rw [HP];exact propext ⟨λh=>h.2,λh=>⟨rfl,h⟩⟩
@[go_sem] def AU8:JF P .xor t (.int .i64 x) (.int .i64 y) d K e H=K ((d,.int .i64 (AEH x y))::e) H:=by
 rw [HP];exact propext ⟨λh=>h.2,λh=>⟨rfl,h⟩⟩
@[go_sem] def AVF:JF P .andNot t (.int .i64 x) (.int .i64 y) d K e H=K ((d,.int .i64 (w9 x y))::e) H:=by
 rw [HP];exact propext ⟨λh=>h.2,λh=>⟨rfl,h⟩⟩
@[go_sem] def AVA:JF P .shr t (.int .i64 x) (.int k y) d K e H=(0<=y/\K ((d,.int .i64 (x.fdiv (2^(min y.toNat 64))))::e) H):=by
 rw [HP];rfl
end
def Jm(a:Nat):BitVec.ofInt 64 (a:Int)=BitVec.ofNat 64 a:=by
 apply BitVec.eq_of_toInt_eq;simp
def Wj{a b:Nat}(ha:a<9223372036854775808)(hb:b<9223372036854775808):yH a b=((a &&& b:Nat):Int):=by
 have h1:a &&& b<2^63:=Dm _ FO
 unfold yH
 rw [Jm,Jm,BitVec.toNat_and,BitVec.toNat_ofNat,BitVec.toNat_ofNat,Bv FO,Bv FO]
 exact OA FO FO
def qF{a b:Nat}(ha:a<9223372036854775808)(hb:b<9223372036854775808):orI a b=((a ||| b:Nat):Int):=by
 have h1:a ||| b<2^63:=EI FO FO
 unfold orI
 rw [Jm,Jm,BitVec.toNat_or,BitVec.toNat_ofNat,BitVec.toNat_ofNat,Bv FO,Bv FO]
 exact OA FO FO
def yo{a b:Nat}(ha:a<9223372036854775808)(hb:b<9223372036854775808):AEH a b=((a ^^^ b:Nat):Int):=by
 have h1:a ^^^ b<2^63:=Ca FO FO
 unfold AEH
 rw [Jm,Jm,BitVec.toNat_xor,BitVec.toNat_ofNat,BitVec.toNat_ofNat,Bv FO,Bv FO]
 exact OA FO FO
def WS{a b:Nat}(ha:a<9223372036854775808)(hb:b<9223372036854775808):w9 a b=((a ^^^ (a &&& b):Nat):Int):=by
 have h1:a ^^^ (a &&& b)<2^63:=Ca FO (Dm _ FO)
 have e:(BitVec.ofNat 64 a &&& ~~~ BitVec.ofNat 64 b)=BitVec.ofNat 64 a ^^^ (BitVec.ofNat 64 a &&& BitVec.ofNat 64 b):=by
  generalize BitVec.ofNat 64 a=u
  generalize BitVec.ofNat 64 b=v
  ext i hi
  simp only [BitVec.getElem_and,BitVec.getElem_not,BitVec.getElem_xor]
  cases u[i]<;>cases v[i]<;>rfl
 unfold w9
 rw [Jm,Jm,e,BitVec.toNat_xor,BitVec.toNat_and,BitVec.toNat_ofNat,BitVec.toNat_ofNat,Bv FO,Bv FO]
 exact OA FO FO
def AEU{a s:Nat}(hs:s<=64):(a:Int).fdiv (2^min s 64)=((a / 2^s:Nat):Int):=by
 rw [B6 hs,Dl _ (Int.pow_nonneg dc)]
 push_cast;rfl
def Ll(h:Ev){k:Nat}(hk:k<10):h.c[k]? =some (.int .i64 (Fk h k)):=by
 match k,hk with
 | 0,_|1,_|2,_|3,_|4,_|5,_|6,_|7,_|8,_|9,_=>rfl
def W5(h:Ev){k:Nat}(hk:k<10)(v:Int):splice h.c k [.int .i64 v]=(rZ h k v).c:=by
 match k,hk with
 | 0,_|1,_|2,_|3,_|4,_|5,_|6,_|7,_|8,_|9,_=>rfl
def AB7{f:Fld}(hf:HE f):IntKind.i64.wrap (f.at_.tdiv 16)=(fK f:Int)/\f.at_.tmod 16=f.at_ % 16/\IntKind.i64.wrap (IntKind.i64.wrap (16 - f.at_ % 16) - f.width)=(fS f:Int):=by
 have h:=hf
 unfold HE at h
 have e1:f.at_.tdiv 16=f.at_ / 16:=Int.tdiv_eq_ediv_of_nonneg FO
 have e2:f.at_.tmod 16=f.at_ % 16:=Int.tmod_eq_emod_of_nonneg FO
 refine ⟨?_,e2, ?_⟩
 ·rw [e1,OA FO FO];unfold fK;omega
 ·rw [OA (n:=16 - f.at_ % 16) FO FO,OA FO FO];unfold fS;omega
def pu(f:Fld)(hf:HE f):FQ AA 248 [.agg f.c] (.int .i64 (fS f)):=by
 obtain ⟨d1,d2,d3⟩:=AB7 hf
 have g16 : ¬((16:Int)=0):=dc
 refine pC ALw rfl ?_
 simp only [f248,go_sem,d2,d3,g16]
def RR{f:Fld}(hf:HE f):KV f=((2^fW f - 1:Nat):Int):=by
 have h:=hf
 unfold HE at h
 have hp : ∀ n:Nat,n<=16->XM n=((2^n:Nat):Int):=by
  intro n
  induction n with
  | zero=>intro _;rfl
  | succ n ih =>
   intro hn
   rw [XM,ih FO]
   have:2^n<=2^16:=Ba dc FO
   unfold i64
   rw [Nat.pow_succ]
   generalize 2^n=z at this ⊢
   rw [OA FO FO]
   exact (Int.natCast_mul _ _).symm
 unfold KV
 rw [hp _ FO]
 have h1:2^f.width.toNat<=2^16:=Ba dc FO
 have h2:0<2^f.width.toNat:=BZ _
 unfold i64 fW
 rw [OA FO FO]
 omega
def lZ(f:Fld)(hf:HE f)(h:Ev)(hr:FX h=true):FQ AA 178 [.agg f.c,.agg h.c] (.int .i64 (Nk f h)):=by
 obtain ⟨d1,d2,d3⟩:=AB7 hf
 have hd:=Jd hf
 have hw:=Hj hr (fK f)
 have i0:(0:Int)<=(fK f:Int):=FO
 have i1:(fK f:Int)<((10:Nat):Int):=FO
 have i2:=Ll h (show fK f<10 by omega)
 obtain ⟨W,hW⟩ : ∃ W:Nat,Fk h (fK f)=(W:Int):=⟨(Fk h (fK f)).toNat,FO⟩
 have hM:2^fW f<=2^16:=Ba dc FO
 have hD:W / 2^fS f<=W:=Nat.div_le_self _ _
 have g16 : ¬((16:Int)=0):=dc
 have g0:(0:Int)<=(fS f:Int):=FO
 have c1:=pu f hf
 have c2:=qB f (by have:=hf;unfold HE at this;omega) (by have:=hf;unfold HE at this;omega)
 have e1:(W:Int).fdiv (2^min (fS f) 64)=((W / 2^fS f:Nat):Int):=AEU FO
 have e2:yH ((W / 2^fS f:Nat):Int) ((2^fW f - 1:Nat):Int)=(Nk f h:Nat):=by
  rw [Wj FO FO,EO]
  unfold Nk;rw [hW,Aa]
 rw [RR hf] at c2
 rw [hW] at i2
 refine pC AOK rfl ?_
 simp only [f178,go_sem,d1,d2,d3,i0,i1,i2,g16,Aa]
 repeat' (first|((first|refine pK (c1) ?_|refine pK (c2) ?_);simp only [go_sem,d1,d2,d3,i0,i1,i2,g16,g0,e1,e2,Aa])|(first|apply cS|apply gS)<;>intro hc<;>simp only [go_sem,hc,d1,d2,d3,i0,i1,i2,g16,g0,e1,e2,Aa])
def lY(f:Fld)(hf:HE f)(h:Ev)(hr:FX h=true)(n:Nat)(hn:n<2^fW f):FQ AA 247 [.agg f.c,.agg h.c,.int .i64 n] (.agg (RH f h n).c):=by
 obtain ⟨d1,d2,d3⟩:=AB7 hf
 have hd:=Jd hf
 have hw:=Hj hr (fK f)
 have i0:(0:Int)<=(fK f:Int):=FO
 have i1:(fK f:Int)<((10:Nat):Int):=FO
 have i2:=Ll h (show fK f<10 by omega)
 obtain ⟨W,hW⟩ : ∃ W:Nat,Fk h (fK f)=(W:Int):=⟨(Fk h (fK f)).toNat,FO⟩
 have hM:2^fW f<=2^16:=Ba dc FO
 have g16 : ¬((16:Int)=0):=dc
 have g0:(0:Int)<=(fS f:Int):=FO
 have c1:=pu f hf
 have c2:=qB f (by have:=hf;unfold HE at this;omega) (by have:=hf;unfold HE at this;omega)
 have hsh : ∀ x,x<2^fW f->x <<< fS f<65536:=by
  intro x hx
  rw [Dn]
  calc x*2^fS f<2^fW f*2^fS f:=EJ hx (BZ _)
   _=2^(fS f+fW f):=by rw [CC,EK]
   _<=2^16:=Ba dc FO
 have hp:0<2^fW f:=BZ _
 have hk9:fK f<=9:=FO
 have s1:=hsh (2^fW f - 1) FO
 have s2:=hsh n hn
 have hshl : ∀ x:Nat,x <<< fS f<65536->IntKind.i64.wrap ((x:Int)*2^(min (fS f) 64))=((x <<< fS f:Nat):Int):=by
  intro x hx
  have e:min (fS f) 64=fS f:=B6 FO
  have e2:(x:Int)*2^(min (fS f) 64)=((x <<< fS f:Nat):Int):=by
   rw [e,Dn];push_cast;rfl
  rw [e2]
  generalize x <<< fS f=z at hx ⊢
  exact OA FO FO
 have e1:=hshl _ s1
 have e2:=hshl _ s2
 have e3:w9 (W:Int) (((2^fW f - 1) <<< fS f:Nat):Int)=((W ^^^ (W &&& ((2^fW f - 1) <<< fS f)):Nat):Int):=WS FO FO
 have hlow:W ^^^ (W &&& ((2^fW f - 1) <<< fS f))<2^16:=iv FO FO
 have e4:orI ((W ^^^ (W &&& ((2^fW f - 1) <<< fS f)):Nat):Int) ((n <<< fS f:Nat):Int)=(((W ^^^ (W &&& ((2^fW f - 1) <<< fS f))) ||| (n <<< fS f):Nat):Int):=qF FO FO
 have e5:splice h.c (fK f) [.int .i64 (((W ^^^ (W &&& ((2^fW f - 1) <<< fS f))) ||| (n <<< fS f):Nat):Int)]=(RH f h n).c:=by
  rw [W5 h FO];unfold RH;rw [hW,Aa]
 rw [RR hf] at c2
 rw [hW] at i2
 refine pC ALz rfl ?_
 simp only [f247,go_sem,d1,d2,d3,i0,i1,i2,g16,Aa]
 repeat' (first|((first|refine pK (c1) ?_|refine pK (c2) ?_);simp only [go_sem,d1,d2,d3,i0,i1,i2,g16,g0,e1,e2,e3,e4,e5,hk9,Aa])|(first|apply cS|apply gS)<;>intro hc<;>simp only [go_sem,hc,d1,d2,d3,i0,i1,i2,g16,g0,e1,e2,e3,e4,e5,hk9,Aa])
end Go.AI
namespace Go.AI
open Go.Proofs
set_option maxRecDepth 50000
def d8(f:Fld)(hf:HE f)(n m:Nat)(hn:n<2^fW f)(hm:m<=fW f):FQ AA 177 [.agg f.c,.int .i64 n,.int .i64 m] (.agg (VI f n m).c):=by
 have h:=hf
 unfold HE at h
 have hw:f.width=(fW f:Int):=by unfold fW;omega
 have hd:=Jd hf
 have hz:FX Head.z=true:=dc
 have hM:2^fW f<=2^16:=Ba dc FO
 have hM2:2^(fW f - m)<=2^16:=Ba dc FO
 have hp:0<2^(fW f - m):=BZ _
 have hmk:=fC (fW f) m
 have hnm:n &&& LP (fW f) m<2^fW f:=CY DJ hn
 have c1:=qB f FO FO
 rw [RR hf] at c1
 have c2:=lY f hf Head.z hz (LP (fW f) m) hmk
 have c3:=lY f hf Head.z hz (n &&& LP (fW f) m) hnm
 have g0:(0:Int)<=((fW f - m:Nat):Int):=FO
 have e1:IntKind.i64.wrap (f.width - (m:Int))=((fW f - m:Nat):Int):=by rw [OA FO FO];omega
 have e2:IntKind.i64.wrap (1*2^(min (fW f - m) 64))=((2^(fW f - m):Nat):Int):=by
  rw [B6 FO]
  have:(1:Int)*2^(fW f - m)=((2^(fW f - m):Nat):Int):=by rw [Int.one_mul];push_cast;rfl
  rw [this]
  generalize 2^(fW f - m)=z at hM2 ⊢
  exact OA FO FO
 have e3:IntKind.i64.wrap (((2^(fW f - m):Nat):Int) - 1)=((2^(fW f - m) - 1:Nat):Int):=by
  generalize 2^(fW f - m)=z at hM2 hp ⊢
  rw [OA FO FO];omega
 have e4:w9 ((2^fW f - 1:Nat):Int) ((2^(fW f - m) - 1:Nat):Int)=(LP (fW f) m:Nat):=by
  rw [WS FO FO];rfl
 have e5:yH (n:Int) ((LP (fW f) m:Nat):Int)=((n &&& LP (fW f) m:Nat):Int):=Wj FO FO
 refine pC AON rfl ?_
 simp only [f177,go_sem,e1,Aa]
 repeat' (first|((first|refine pK (c1) ?_|refine pK (c2) ?_|refine pK (c3) ?_);simp only [go_sem,e1,e2,e3,e4,e5,g0,Aa])|(first|apply cS|apply gS)<;>intro hc<;>simp only [go_sem,hc,e1,e2,e3,e4,e5,g0,Aa])
 rfl
def qE(f:Fld)(hf:HE f)(n:Nat)(hn:n<2^fW f):FQ AA 176 [.agg f.c,.int .i64 n] (.agg (VI f n (fW f)).c):=by
 have h:=hf
 unfold HE at h
 have hw:f.width=(fW f:Int):=by unfold fW;omega
 have c1:=d8 f hf n (fW f) hn (AU _)
 refine pC AOQ rfl ?_
 simp only [f176,go_sem,hw]
 repeat' (first|(refine pK (c1) ?_;simp only [go_sem,hw])|(first|apply cS|apply gS)<;>intro hc<;>simp only [go_sem,hc,hw])
def AV5(f:Fld)(hf:HE f)(n:Nat)(hn:n<2^fW f):FQ AA 181 [.agg f.c,.int .i64 n] (.agg (VI f n (fW f)).c):=by
 have c1:=qE f hf n hn
 refine pC AOC rfl ?_
 simp only [f181,go_sem]
 repeat' (first|(refine pK (c1) ?_;simp only [go_sem])|(first|apply cS|apply gS)<;>intro hc<;>simp only [go_sem,hc])
def Tr(p:Pat){k:Nat}(hk:k<10):p.c[k]? =some (.int .i64 (Fk p.mask k)):=by
 match k,hk with
 | 0,_|1,_|2,_|3,_|4,_|5,_|6,_|7,_|8,_|9,_=>rfl
def Ts(p:Pat){k:Nat}(hk:k<10):p.c[10+k]? =some (.int .i64 (Fk p.bits k)):=by
 match k,hk with
 | 0,_|1,_|2,_|3,_|4,_|5,_|6,_|7,_|8,_|9,_=>rfl
def qD(p:Pat)(hm:FX p.mask=true)(hb:FX p.bits=true)(h:Ev)(hr:FX h=true):FQ AA 175 [.agg p.c,.agg h.c] (.bool (mD p h)):=by
 refine pC AOT rfl ?_
 simp only [f175,go_sem]
 refine Fa (Am 10) (λr=>r.all λi=>(((Fk p.bits i).toNat ^^^ (Fk h i).toNat) &&& (Fk p.mask i).toNat)==0) (λk=>[(2,.ptr 0 0),(3,.ptr 1 0),(6,.int .i64 k)]) dc rfl ?_ ?_
 ·intro k y ys hd hx hF h0 h1 hw
  have hk:k<10:=by
   have:=(AC.1 hx).1
   simpa using this
  have hy:y=k:=by
   have:=hx
   rw [List.getElem?_range hk] at this
   exact (Option.some.inj this).symm
  subst hy
  have i0:(0:Int)<=(y:Int):=FO
  have i1:(y:Int)<((10:Nat):Int):=FO
  have a1:=Tr p hk
  have a2:=Ts p hk
  have a3:=Ll h hk
  have w1:=Hj hm y
  have w2:=Hj hb y
  have w3:=Hj hr y
  obtain ⟨A,hA⟩ : ∃ W:Nat,Fk p.mask y=(W:Int):=⟨(Fk p.mask y).toNat,FO⟩
  obtain ⟨B,hB⟩ : ∃ W:Nat,Fk p.bits y=(W:Int):=⟨(Fk p.bits y).toNat,FO⟩
  obtain ⟨C,hC⟩ : ∃ W:Nat,Fk h y=(W:Int):=⟨(Fk h y).toNat,FO⟩
  rw [hA] at a1 w1
  rw [hB] at a2 w2
  rw [hC] at a3 w3
  have hx1:B ^^^ C<2^16:=Ca FO FO
  have e1:AEH (B:Int) (C:Int)=((B ^^^ C:Nat):Int):=yo FO FO
  have e2:yH ((B ^^^ C:Nat):Int) (A:Int)=(((B ^^^ C) &&& A:Nat):Int):=Wj FO FO
  have i2:(y:Int)<10:=FO
  have eq:((((Fk p.bits y).toNat ^^^ (Fk h y).toNat) &&& (Fk p.mask y).toNat)==0) = !(((((B ^^^ C) &&& A:Nat):Int)) !=0):=by
   rw [hA,hB,hC,Aa,Aa,Aa]
   generalize (B ^^^ C) &&& A=z
   cases z<;>rfl
  rw [Al,eq] at hF
  simp only [go_sem,h0,h1,i0,i1,i2,dT,Aa,a1,a2,a3,e1,e2]
  repeat' (first|(first|apply cS|apply gS)<;>intro hc<;>simp only [go_sem,hc,h0,h1,hw,i0,i1,i2,dT,Aa,a1,a2,a3,e1,e2])
  ·rw [hc] at hF
   exact congrArg AV.bool (hF.trans rfl).symm
  ·rw [Al,eq,hc];rfl
 ·intro hF hlt
  have g:decide (((10:Nat):Int)<10)=false:=dc
  simp only [go_sem,List.length_range,g]
  exact congrArg AV.bool (hF.trans rfl).symm
def Nu(p:Pat)(h:Ev)(n:Nat):Ev :=
 let w:=λk=>if k<n then Iy p h k else Fk h k
 ⟨w 0,w 1,w 2,w 3,w 4,w 5,w 6,w 7,w 8,w 9⟩
def oO(p:Pat)(h:Ev):Nu p h 10=bJ p h:=rfl
def xq(p:Pat)(h:Ev){k:Nat}(hk:k<10):rZ (Nu p h k) k (Iy p h k)=Nu p h (k+1):=by
 match k,hk with
 | 0,_|1,_|2,_|3,_|4,_|5,_|6,_|7,_|8,_|9,_=>rfl
def xp(p:Pat)(h:Ev){k:Nat}(hk:k<10):Fk (Nu p h k) k=Fk h k:=by
 match k,hk with
 | 0,_|1,_|2,_|3,_|4,_|5,_|6,_|7,_|8,_|9,_=>rfl
def AEz(p:Pat)(hm:FX p.mask=true)(hb:FX p.bits=true)(h:Ev)(hr:FX h=true):FQ AA 180 [.agg p.c,.agg h.c] (.agg (bJ p h).c):=by
 refine pC AOF rfl ?_
 simp only [f180,go_sem]
 refine bD 10 (λk=>[(2,.ptr 0 0),(3,.ptr 1 0),(4,.ptr 2 0),(6,.int .i64 k)]) (λk=>[some p.c,some (Nu p h k).c,some Head.z.c]) rfl rfl ?_
 intro y hy
 by_cases hk:y<10
 ·have i0:(0:Int)<=(y:Int):=FO
  have i1:(y:Int)<((10:Nat):Int):=FO
  have i2:(y:Int)<10:=FO
  have a1:=Tr p hk
  have a2:=Ts p hk
  have a3:=Ll (Nu p h y) hk
  rw [xp p h hk] at a3
  have hw:=Mk (k:=y) FO
  have w1:=Hj hm y
  have w2:=Hj hb y
  have w3:=Hj hr y
  have st:=W5 (Nu p h y) hk (Iy p h y)
  rw [xq p h hk] at st
  have hap:Iy p h y=((((Fk h y).toNat ^^^ ((Fk h y).toNat &&& (Fk p.mask y).toNat)) ||| (Fk p.bits y).toNat:Nat):Int):=rfl
  obtain ⟨A,hA⟩ : ∃ W:Nat,Fk p.mask y=(W:Int):=⟨(Fk p.mask y).toNat,FO⟩
  obtain ⟨B,hB⟩ : ∃ W:Nat,Fk p.bits y=(W:Int):=⟨(Fk p.bits y).toNat,FO⟩
  obtain ⟨C,hC⟩ : ∃ W:Nat,Fk h y=(W:Int):=⟨(Fk h y).toNat,FO⟩
  rw [hA,hB,hC,Aa,Aa,Aa] at hap
  rw [hA] at a1 w1
  rw [hB] at a2 w2
  rw [hC] at a3 w3
  have hl:=iv (W:=C) (M:=A) FO FO
  have e1:w9 (C:Int) (A:Int)=((C ^^^ (C &&& A):Nat):Int):=WS FO FO
  have e2:orI ((C ^^^ (C &&& A):Nat):Int) (B:Int)=Iy p h y:=by rw [hap];exact qF FO FO
  have hk9:y<=9:=FO
  simp only [go_sem,i0,i1,i2,dT,Aa,a1,a2,a3,e1,e2,st,hw,hk9]
  exact hk
 ·have:y=10:=FO
  subst this
  have g:decide (((10:Nat):Int)<10)=false:=dc
  simp only [go_sem,g,oO]
def nV(a b:Ev): ∀ k,k<=10->Ld (a.l.drop k) (b.l.drop k)=if k<10 then (if Fk a k<Fk b k then -1 else if Fk b k<Fk a k then 1 else Ld (a.l.drop (k+1)) (b.l.drop (k+1))) else 0:=by
 intro k hk
 match k,hk with
 | 0,_|1,_|2,_|3,_|4,_|5,_|6,_|7,_|8,_|9,_=>rfl
 | 10,_=>rfl
def Qr(fs:List (Ev->Bool))(k:Nat)(h:Ev):Bool:=((fs[k]?).map λf=>f h).getD false
def OD(fs:List (Ev->Option (List Ev)))(k:Nat)(h:Ev):Option (List Ev):=((fs[k]?).map λf=>f h).getD none
def AGq(l:List Fld)(t k:Int)(f:ByteArray)(n m:Int)(fs:List (Ev->Bool))(h:Ev):Bool :=
 if k=1 then true else if k=2 then false else if k=9 then decide (n<=t)&&decide (t<m)
 else if k=6 then !Qr fs 0 h else if k=7 then Qr fs 0 h&&Qr fs 1 h else if k=8 then Qr fs 0 h||Qr fs 1 h
 else if k=3 then decide ((Nk (Fb l f).1 h:Int)=n)
 else if k=4 then decide (Nk (Fb l f).1 h / 2^(fW (Fb l f).1 - m.toNat)=n.toNat / 2^(fW (Fb l f).1 - m.toNat))
 else decide (n<=Nk (Fb l f).1 h)&&decide ((Nk (Fb l f).1 h:Int)<=m)
mutual
def hP(l:List Fld)(t:Int):Ep->Ev->Bool
 | ⟨k,f,n,m,xs⟩=>AGq l t k f n m (mo l t xs)
def mo(l:List Fld)(t:Int):List Ep->List (Ev->Bool)
 | []=>[]
 | x::r=>hP l t x::mo l t r
end
def AWG(l:List Fld)(t:Int)(x:Ep):hP l t x=AGq l t x.kind x.field x.n x.m (mo l t x.args):=by cases x;rw [hP]
def ABX(l:List Fld)(t:Int): ∀ r:List Ep,mo l t r=r.map (hP l t)
 | []=>by rw [mo];rfl
 | x::r=>by rw [mo,ABX l t r];rfl
def ml(l:List Fld)(t:Int){r:List Ep}{k:Nat}{x:Ep}(hx:r[k]? =some x)(h:Ev):Qr (mo l t r) k h=hP l t x h:=by
 rw [ABX,Qr,Ab,hx];rfl
def Wc(r:List Ev):Option (List Ev):=if 256<r.length then none else some r
def U2(l:List Fld)(t k:Int)(p:Ep)(f:ByteArray)(n:Int)(fs:List (Ev->Option (List Ev)))(h:Ev):Option (List Ev) :=
 if k=1 then some (if hP l t p h then [h] else [])
 else if k=2 then some [RH (Fb l f).1 h n.toNat]
 else if k=3 then match OD fs 0 h,OD fs 1 h with
  | some a,some b=>Wc (Gt a b)
  | _,_=>none
 else if k=4 then match OD fs 0 h with
  | some a=>JP (OD fs 1) [] a
  | none=>none
 else LB (OD fs 0) 300 [h] [h]
mutual
def vO(l:List Fld)(t:Int):Er->Ev->Option (List Ev)
 | ⟨k,p,f,n,xs⟩=>U2 l t k p f n (XE l t xs)
def XE(l:List Fld)(t:Int):List Er->List (Ev->Option (List Ev))
 | []=>[]
 | x::r=>vO l t x::XE l t r
end
def AGm(l:List Fld)(t:Int)(x:Er):vO l t x=U2 l t x.kind x.pred x.field x.n (XE l t x.args):=by cases x;rw [vO]
def zA(l:List Fld)(t:Int): ∀ r:List Er,XE l t r=r.map (vO l t)
 | []=>by rw [XE];rfl
 | x::r=>by rw [XE,zA l t r];rfl
def SI(l:List Fld)(t:Int){r:List Er}{k:Nat}{x:Er}(hx:r[k]? =some x):OD (XE l t r) k=vO l t x:=by
 funext h
 rw [zA,OD,Ab,hx];rfl
def JB(r:List Ev):Prop:=LU r/\r.length<=256 /\ ∀ z∈r,FX z=true
def Lk:JB []:=⟨zS,dc,sm⟩
def Pb{h:Ev}(hr:FX h=true):JB [h]:=⟨c9 h,sm,by simpa using hr⟩
def Io{a b:List Ev}(ha:JB a)(hb : ∀ z∈b,FX z=true)(hl : ¬ 256<(Gt a b).length):JB (Gt a b):=by
 refine ⟨QO b ha.1,FO,λz hz=>?_⟩
 rcases (QX z b a).1 hz with h|h
 ·exact ha.2.2 z h
 ·exact hb z h
def Pc{f:Ev->Option (List Ev)}(hf : ∀ h r,FX h=true->f h=some r->JB r): ∀ (xs o r:List Ev),JB o->(∀ z∈xs,FX z=true)->JP f o xs=some r->JB r
 | [],o,r,ho,_,e=>by
  rw [JP] at e
  cases e;exact ho
 | x::xs,o,r,ho,hx,e=>by
  rw [JP] at e
  cases hfx:f x with
  | none=>rw [hfx] at e;cases e
  | some a =>
   rw [hfx] at e
   dsimp only at e
   have ga:=hf x a (hx x sm) hfx
   by_cases hl:256<(Gt o a).length
   ·rw [iP hl] at e;cases e
   ·rw [iN hl] at e
    exact Pc hf xs _ r (Io ho ga.2.2 hl) (λz hz=>hx z (by simp [hz])) e
def VW{o n:List Ev}{z:Ev}:z∈IV o n↔z∈n/\z∉o:=by
 unfold IV
 rw [List.mem_filter]
 constructor
 ·rintro ⟨h1,h2⟩
  refine ⟨h1,λhc=>?_⟩
  have:(o.any λy=>decide (y=z))=true:=CZ.2 ⟨z,hc,sm⟩
  rw [this] at h2;cases h2
 ·rintro ⟨h1,h2⟩
  refine ⟨h1, ?_⟩
  have:(o.any λy=>decide (y=z))=false:=by
   rw [Bl]
   intro y hy
   simp
   intro e;subst e;exact h2 hy
  rw [this];rfl
def Y8{f:Ev->Option (List Ev)}(hf : ∀ h r,FX h=true->f h=some r->JB r): ∀ (k:Nat) (o n r:List Ev),JB o->(∀ z∈n,FX z=true)->LB f k o n=some r->JB r
 | 0,o,n,r,_,_,e=>by rw [LB] at e;cases e
 | k+1,o,n,r,ho,hn,e=>by
  rw [LB] at e
  by_cases h0:n=[]
  ·rw [iP h0] at e;cases e;exact ho
  ·rw [iN h0] at e
   cases hi:JP f [] n with
   | none=>rw [hi] at e;cases e
   | some m =>
    rw [hi] at e
    dsimp only at e
    have gm:=Pc hf n [] m Lk hn hi
    have gn : ∀ z∈IV o m,FX z=true:=λz hz=>gm.2.2 z (VW.1 hz).1
    by_cases hl:256<(Gt o (IV o m)).length
    ·rw [iP hl] at e;cases e
    ·rw [iN hl] at e
     exact Y8 hf k _ _ r (Io ho gn hl) gn e
def dg(h:Ev): ∀ {l:List Ev},h∉l->(OC h l).length=l.length+1
 | [],_=>rfl
 | x::r,hn=>by
  rw [OC]
  have h1 : ¬ x=h:=λe=>hn (by simp [e])
  have h2:h∉r:=λe=>hn (by simp [e])
  split
  ·rw [AD,dg h h2];rfl
  ·rfl
def sY{o n:List Ev}(h:IV o n≠[]):o.length<(Gt o (IV o n)).length:=by
 cases hc:IV o n with
 | nil=>exact absurd hc h
 | cons x r =>
  have hx:x∉o:=(VW.1 (by rw [hc];simp:x∈IV o n)).2
  have e:Gt o (x::r)=Gt (OC x o) r:=rfl
  have:=(Va r (OC x o)).1
  rw [dg x hx] at this
  rw [e];omega
def I3(l:List Fld):Prop:=∀ f∈l,HE f
def l9:HE JV:=by unfold HE JV;decide
def Il{l:List Fld}(hl:I3 l){s:ByteArray}(h:(Fb l s).2=true):HE (Fb l s).1:=by
 unfold Fb at h ⊢
 split
 ·exact l9
 ·rename_i hs
  rw [iN hs] at h
  cases hf:l.find? (λf=>decide (f.name=s)) with
  | none=>rw [hf] at h;cases h
  | some f=>exact hl f (List.mem_of_find?_eq_some hf)
def wp{l:List Fld}{x y:Ep}(hx:IK l x)(hy:y∈x.args):IK l y:=by
 obtain ⟨h1,h2⟩:=hx
 rw [Hn,AQ] at h1
 have hf : ∀ r:List Ep,WB r=true -> ∀ z∈r,NL z=true:=by
  intro r
  induction r with
  | nil=>intro _ z hz;cases hz
  | cons a r ih =>
   intro h z hz
   rw [Kc,AQ] at h
   rcases AX.1 hz with rfl|hz
   ·exact h.1
   ·exact ih h.2 z hz
 refine ⟨hf _ h1.2 y hy,λz hz=>h2 z ?_⟩
 have hs : ∀ r:List Ep,y∈r->z∈Mq r:=by
  intro r
  induction r with
  | nil=>intro h;cases h
  | cons a r ih =>
   intro h
   rw [Jc]
   rcases AX.1 h with rfl|h
   ·exact Cn _ hz
   ·exact DM _ (ih h)
 rw [LX]
 exact CJ _ (hs _ hy)
def AZE(l:List Fld)(x:Ep):Prop:=(Fb l x.field).2=true/\HE (Fb l x.field).1/\0<=x.n/\x.n.toNat<2^fW (Fb l x.field).1
def RQ{f:Fld}(hf:HE f):KV f=((2^fW f - 1:Nat):Int):=by
 have h:=hf
 unfold HE at h
 have : ∀ k:Nat,k<17->i64 (XM k - 1)=((2^k - 1:Nat):Int):=dc
 exact this _ FO
def m9{l:List Fld}(hl:I3 l){x:Ep}(hx:IK l x):
  (x.kind=1)\/(x.kind=2)\/(x.kind=9)\/(x.kind=6 /\ ∃ a,x.args=[a]/\IK l a)\/((x.kind=7\/x.kind=8) /\ ∃ a b,x.args=[a,b]/\IK l a/\IK l b) \/
  (x.kind=3/\AZE l x)\/(x.kind=4/\AZE l x/\0<=x.m/\x.m.toNat<=fW (Fb l x.field).1)\/(x.kind=5/\(Fb l x.field).2=true/\HE (Fb l x.field).1/\0<=x.n/\x.n<=x.m/\x.m.toNat<2^fW (Fb l x.field).1):=by
 have hfit:=hx.2 x (by rw [LX];simp)
 have harg:=λy hy=>wp (y:=y) hx hy
 have hfm:=hx.1
 rw [Hn,AQ,AQ,beq_iff_eq] at hfm
 obtain ⟨⟨hok,hlen⟩,_⟩:=hfm
 unfold Sh at hok hlen
 unfold Pr at hfit
 by_cases k1:x.kind=1
 ·exact .inl k1
 by_cases k2:x.kind=2
 ·exact .inr (.inl k2)
 rw [iN (by simp [k1,k2])] at hok hlen
 by_cases k3:x.kind=3
 ·rw [iP k3] at hok
  rw [iN (by simp [k3])] at hfit
  by_cases hf:(Fb l x.field).2=false
  ·rw [iP hf] at hfit;cases hfit
  ·rw [iN hf,iN (by omega : ¬ x.kind=5)] at hfit
   have hft:(Fb l x.field).2=true:=by simpa using hf
   have hfo:=Il hl hft
   rw [RQ hfo] at hfit
   have hp:=BZ (fW (Fb l x.field).1)
   simp [NK] at hok
   refine .inr (.inr (.inr (.inr (.inr (.inl ⟨k3,hft,hfo,hok.2.1.1, ?_⟩)))))
   split at hfit
   ·cases hfit
   ·omega
 rw [iN k3] at hok hlen
 by_cases k4:x.kind=4
 ·rw [iP k4] at hok
  rw [iN (by simp [k4])] at hfit
  by_cases hf:(Fb l x.field).2=false
  ·rw [iP hf] at hfit;cases hfit
  ·rw [iN hf,iN (by omega : ¬ x.kind=5)] at hfit
   have hft:(Fb l x.field).2=true:=by simpa using hf
   have hfo:=Il hl hft
   have hfo':=hfo
   unfold HE at hfo'
   rw [RQ hfo] at hfit
   have hp:=BZ (fW (Fb l x.field).1)
   have hW:fW (Fb l x.field).1=(Fb l x.field).1.width.toNat:=rfl
   simp [NK] at hok
   refine .inr (.inr (.inr (.inr (.inr (.inr (.inl ⟨k4,⟨hft,hfo,hok.2.1.1, ?_⟩,hok.2.2.1, ?_⟩))))))
   ·split at hfit
    ·cases hfit
    ·omega
   ·split at hfit
    ·cases hfit
    ·omega
 rw [iN k4] at hok hlen
 by_cases k5:x.kind=5
 ·rw [iP k5] at hok
  rw [iN (by simp [k5])] at hfit
  by_cases hf:(Fb l x.field).2=false
  ·rw [iP hf] at hfit;cases hfit
  ·rw [iN hf,iP k5] at hfit
   have hft:(Fb l x.field).2=true:=by simpa using hf
   have hfo:=Il hl hft
   rw [RQ hfo] at hfit
   have hp:=BZ (fW (Fb l x.field).1)
   simp at hok
   refine .inr (.inr (.inr (.inr (.inr (.inr (.inr ⟨k5,hft,hfo,hok.2.1,hok.2.2.1, ?_⟩))))))
   split at hfit
   ·cases hfit
   ·omega
 rw [iN k5] at hok hlen
 by_cases k6:x.kind=6
 ·rw [iP k6] at hlen
  refine .inr (.inr (.inr (.inl ⟨k6, ?_⟩)))
  match hxa:x.args,hlen with
  | [a],_=>exact ⟨a,rfl,harg a (by rw [hxa];simp)⟩
 rw [iN k6] at hok hlen
 by_cases k7:x.kind=7\/x.kind=8
 ·rw [iP k7] at hlen
  refine .inr (.inr (.inr (.inr (.inl ⟨k7, ?_⟩))))
  match hxa:x.args,hlen with
  | [a,b],_=>exact ⟨a,b,rfl,harg a (by rw [hxa];simp),harg b (by rw [hxa];simp)⟩
 rw [iN k7] at hok hlen
 by_cases k9:x.kind=9
 ·exact .inr (.inr (.inl k9))
 rw [iN k9] at hok
 cases hok
def rk:Option (List Ev)->AV
 | some r => .tup [.sl none (F4 r),.int .i64 0]
 | none => .tup [.sl none [],.int .i64 2]
@[go_sem] def AUD(o:Option (List Ev)):(rk o).pure=true:=by
 cases o<;>simp [rk,AV.pure,A',go_sem]
@[go_sem] def AUC(r:List Ev):rk (some r) = .tup [.sl none (F4 r),.int .i64 0]:=rfl
@[go_sem] def AUE:rk none = .tup [.sl none [],.int .i64 2]:=rfl
def AAr(o n:List Ev):(IV o n).length<=n.length:=List.length_filter_le _ _
def wq{l:List Fld}{x y:Er}(hx:Hl l x)(hy:y∈x.args):Hl l y:=by
 obtain ⟨h1,h2⟩:=hx
 rw [IP,AQ] at h1
 have hf : ∀ r:List Er,WC r=true -> ∀ z∈r,Rg z=true:=by
  intro r
  induction r with
  | nil=>intro _ z hz;cases hz
  | cons a r ih =>
   intro h z hz
   rw [Kd,AQ] at h
   rcases AX.1 hz with rfl|hz
   ·exact h.1
   ·exact ih h.2 z hz
 refine ⟨hf _ h1.2 y hy,λz hz=>h2 z ?_⟩
 have hs : ∀ r:List Er,y∈r->z∈MH r:=by
  intro r
  induction r with
  | nil=>intro h;cases h
  | cons a r ih =>
   intro h
   rw [Ik]
   rcases AX.1 h with rfl|h
   ·exact Cn _ hz
   ·exact DM _ (ih h)
 rw [Kr]
 exact CJ _ (hs _ hy)
def WA{l:List Fld}(hl:I3 l){x:Er}(hx:Hl l x):
  (x.kind=1/\IK l x.pred)\/(x.kind=2/\HE (Fb l x.field).1/\(Fb l x.field).2=true/\0<=x.n/\x.n.toNat<2^fW (Fb l x.field).1) \/
  ((x.kind=3\/x.kind=4) /\ ∃ a b,x.args=[a,b]/\Hl l a/\Hl l b)\/(x.kind=5 /\ ∃ a,x.args=[a]/\Hl l a):=by
 have hfit:=hx.2 x (by rw [Kr];simp)
 have harg:=λy hy=>wq (y:=y) hx hy
 have hfm:=hx.1
 rw [IP,AQ,AQ,beq_iff_eq] at hfm
 obtain ⟨⟨hok,hlen⟩,_⟩:=hfm
 unfold VU at hok hlen
 unfold RO at hfit
 by_cases k1:x.kind=1
 ·rw [iP k1] at hok hfit
  rw [AQ] at hok
  exact .inl ⟨k1,hok.1,(Pe l _).1 hfit⟩
 rw [iN k1] at hok hlen hfit
 by_cases k2:x.kind=2
 ·rw [iP k2] at hok hfit
  by_cases hf:(Fb l x.field).2=false
  ·rw [iP hf] at hfit;cases hfit
  ·rw [iN hf] at hfit
   have hft:(Fb l x.field).2=true:=by simpa using hf
   have hfo:=Il hl hft
   rw [RQ hfo] at hfit
   have hp:=BZ (fW (Fb l x.field).1)
   simp [NK] at hok
   refine .inr (.inl ⟨k2,hfo,hft,hok.2.2.1, ?_⟩)
   split at hfit
   ·cases hfit
   ·omega
 rw [iN k2] at hok hlen
 by_cases k3:x.kind=3\/x.kind=4
 ·rw [iP k3] at hlen
  refine .inr (.inr (.inl ⟨k3, ?_⟩))
  match hxa:x.args,hlen with
  | [a,b],_=>exact ⟨a,b,rfl,harg a (by rw [hxa];simp),harg b (by rw [hxa];simp)⟩
 rw [iN k3] at hok hlen
 by_cases k5:x.kind=5
 ·rw [iP k5] at hlen
  refine .inr (.inr (.inr ⟨k5, ?_⟩))
  match hxa:x.args,hlen with
  | [a],_=>exact ⟨a,rfl,harg a (by rw [hxa];simp)⟩
 rw [iN k5] at hok
 cases hok
def RC(l:List Fld)(hl:I3 l)(t:Int): ∀ x:Er,Hl l x -> ∀ h r,FX h=true->vO l t x h=some r->JB r:=by
 refine Hq _ λx ih=>λhx h r hr e=>?_
 rw [AGm] at e
 unfold U2 at e
 rcases WA hl hx with ⟨k,gp⟩|⟨k,hfo,hft,hn,hn2⟩|⟨k,a,b,ha,ga,gb⟩|⟨k,a,ha,ga⟩
 ·rw [iP k] at e
  have e2:=Option.some.inj e
  by_cases hb:hP l t x.pred h=true
  ·rw [iP hb] at e2;rw [<- e2];exact Pb hr
  ·rw [iN hb] at e2;rw [<- e2];exact Lk
 ·rw [iN FO,iP k] at e
  cases e
  exact Pb (NR hfo hn2 hr)
 ·have e0:OD (XE l t x.args) 0=vO l t a:=SI l t (by rw [ha];rfl)
  have e1:OD (XE l t x.args) 1=vO l t b:=SI l t (by rw [ha];rfl)
  rw [e0,e1] at e
  have ih0:=ih a (by rw [ha];simp) ga
  have ih1:=ih b (by rw [ha];simp) gb
  rcases k with k|k
  ·rw [iN FO,iN FO,iP k] at e
   cases hva:vO l t a h with
   | none=>rw [hva] at e;cases e
   | some u =>
    cases hvb:vO l t b h with
    | none=>rw [hva,hvb] at e;cases e
    | some v =>
     rw [hva,hvb] at e
     dsimp only [Wc] at e
     by_cases hc:256<(Gt u v).length
     ·rw [iP hc] at e;cases e
     ·rw [iN hc] at e;cases e
      exact Io (ih0 h u hr hva) (ih1 h v hr hvb).2.2 hc
  ·rw [iN FO,iN FO,iN FO,iP k] at e
   cases hva:vO l t a h with
   | none=>rw [hva] at e;cases e
   | some u =>
    rw [hva] at e
    exact Pc ih1 u [] r Lk (ih0 h u hr hva).2.2 e
 ·have e0:OD (XE l t x.args) 0=vO l t a:=SI l t (by rw [ha];rfl)
  rw [iN FO,iN FO,iN FO,iN FO,e0] at e
  exact Y8 (ih a (by rw [ha];simp) ga) 300 [h] [h] r (Pb hr) (by simpa using hr) e
inductive RchH (f:Ev->Option (List Ev)) (x:Ev):Ev->Prop
 | refl:RchH f x x
 | step {y z:Ev} {b:List Ev}:RchH f x y->f y=some b->z∈b->RchH f x z
def RchH.trans{f:Ev->Option (List Ev)}{x y z:Ev}(h1:RchH f x y)(h2:RchH f y z):RchH f x z:=by
 induction h2 with
 | refl=>exact h1
 | step _ h3 h4 ih=>exact ih.step h3 h4
def RchH.closed{f:Ev->Option (List Ev)}{S:Ev->Prop}(hS : ∀ x,S x -> ∀ b,f x=some b -> ∀ z∈b,S z){x z:Ev}(hx:S x)(h:RchH f x z):S z:=by
 induction h with
 | refl=>exact hx
 | step _ h3 h4 ih=>exact hS _ ih _ h3 _ h4
def dQ{h:Ev}(hr:FX h=true){n:Int}(h0:0<=n)(h1:n<=65535):FX { h with h0:=n }=true :=
 TS hr 0 h0 h1
end Go.AI
