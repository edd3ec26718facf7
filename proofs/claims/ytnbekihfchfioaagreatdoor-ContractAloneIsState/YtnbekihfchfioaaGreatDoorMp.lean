/- Contracts of the program's names and sizes. -/
import Derived.Test.YtnbekihfchfioaaGreatDoorMg
import Derived.Sort.Walk0
set_option linter.unusedSimpArgs false
set_option linter.unusedVariables false
set_option linter.defProp false
open Go.Proofs.Tryz
open Go.AI renaming Pred->Eo,Policy->Ep,Sizes->Er,Stage->Es,Tenant->Et,Head->Eu
open Bool renaming and_eq_true->AR,and_false->Dd,and_true->Bn,eq_iff_iff->BA,false_or->BL,not_eq_true->Da,not_false->Av,not_true->Ar,or_eq_false_iff->CG,or_eq_true->CJ,true_and->Bz,true_or->BM
open Int renaming fdiv_eq_ediv_of_nonneg->Di,lt_irrefl->AY,toNat_natCast->Ae,toNat_one->EF
open Go.IntKind renaming bits->DH,signed->Dh,wrap->Dg
open List renaming all_cons->Ak,all_eq_true->Ao,any_cons->Au,any_eq_false->Bk,any_eq_true->CZ,drop_eq_getElem_cons->BJ,drop_zero->BN,ext_getElem?->A4,find?_cons->B0,foldl_cons->CF,getD_eq_getElem?_getD->Cr,getElem?_append_left->AW,getElem?_append_right->AM,getElem?_eq_getElem->AL,getElem?_eq_none->Ax,getElem?_eq_some_iff->AD,getElem?_map->Ac,getElem?_set->A0,length_append->AE,length_cons->AC,length_map->Aq,map_map->By,mem_append->Ay,mem_append_left->C8,mem_append_right->Dm,mem_cons->AZ,mem_cons_of_mem->B9,mem_map->AO,mem_of_getElem?->AB,mem_range->Bo,mem_singleton->Al,pairwise_cons->Bi,range->Am,takeWhile->EE,take_add_one->BF,take_length->BO
open Nat renaming add_comm->CE,and_le_left->DI,and_lt_two_pow->Dj,and_two_pow_sub_one_eq_mod->EM,eq_of_testBit_eq->EK,le_refl->AU,le_trans->AK,lt_of_le_of_lt->CX,lt_of_lt_of_le->BR,lt_or_ge->BT,min_eq_left->B7,mod_eq_of_lt->Bv,mul_lt_mul_of_pos_right->EH,or_lt_two_pow->EG,pow_add->EI,pow_le_pow_right->Bb,shiftLeft_eq->Dk,sub_self->AQ,succ_mul->DR,testBit_and->Cs,testBit_div_two_pow->Ct,testBit_lt_two_pow->EL,testBit_shiftLeft->DJ,testBit_two_pow_sub_one->EJ,testBit_xor->Dl,two_pow_pos->Ba,xor_lt_two_pow->Ca
open Go.Proofs.Tryz renaming prog->AA
namespace Go.AI
open Go.Proofs
set_option maxRecDepth 50000
@[go_sem] def ATV{P:Program}{t:TypeId}{x y:ByteArray}{d:Tmp}{K:Kt}{e:Fp}{H:FN}:Ie P .lss t (.str x) (.str y) d K e H=K ((d,.bool (Op.bytesLess x.toList y.toList))::e) H:=by rw [Oy];simp [KA]
@[go_sem] def Aek{P:Program}{o:Option TypeId}{e:Fp}:Gy P o e (.global 0) = .cptr (HE.map AV.str) 0:=rfl
def oO{P:Program}{f:FuncId}{vs:List AV}{d:Option Tmp}{K:Kt}{e:Fp}{H:FN}{v:AV}(h:FO P f vs v)(hk:K (put d v e) H):Fs P f vs d K e H :=
 (h H).mono λv' H' hr=>by obtain ⟨rfl,rfl⟩:=hr;exact hk
def GI(P:Program)(f:FuncId)(vs:List AV)(H:FN)(v:AV):Prop:=FT P f vs H λv' H'=>v'=v/\H'=H
def oN{P:Program}{f:FuncId}{vs:List AV}{d:Option Tmp}{K:Kt}{e:Fp}{H:FN}{v:AV}(h:GI P f vs H v)(hk:K (put d v e) H):Fs P f vs d K e H :=
 h.mono λv' H' hr=>by obtain ⟨rfl,rfl⟩:=hr;exact hk
def aP{P:Program}{f:FuncId}{vs:List AV}{d:Option Tmp}{K:Kt}{e:Fp}{H:FN}{v:AV}(h:FO P f vs v)(hk:K (put d v e) H):Fs P f vs d K e H:=oO h hk
def aS{P:Program}{f:FuncId}{vs:List AV}{d:Option Tmp}{K:Kt}{e:Fp}{H:FN}{v:AV}(h:GI P f vs H v)(hk:K (put d v e) H):Fs P f vs d K e H:=oN h hk
def TD(a b:ByteArray):Bool:=Op.bytesLess a.toList b.toList
def Ze(a:ByteArray):TD a a=false:=by
 unfold TD;rw [Go.Proofs.bytesLess_eq];simp [List.lt_irrefl]
def zd{a b c:ByteArray}(h1:TD a b=true)(h2:TD b c=true):TD a c=true:=by
 unfold TD at *;rw [Go.Proofs.bytesLess_eq,decide_eq_true_eq] at *;exact List.lt_trans h1 h2
def YM(c lo hi:Int):FO AA 335 [.int .u8 c,.int .u8 lo,.int .u8 hi] (.bool (decide (lo<=c)&&decide (c<=hi))):=by
 refine pC AH7 rfl ?_
 simp only [f335,go_sem]
 repeat' (first|(first|apply cS|apply gS)<;>intro hc<;>simp only [go_sem,hc])
 all_goals grind
def Ux(c:UInt8):FO AA 307 [.int .u8 c.toNat] (.bool (loB c)):=by
 refine pC AIo rfl ?_
 simp only [f307,go_sem]
 repeat' (first|(refine pK (YM _ _ _) ?_;simp only [go_sem])|(first|apply cS|apply gS)<;>intro hc<;>simp only [go_sem,hc])
 all_goals first|rfl|(simp only [loB,bz])
def qk(c:UInt8):FO AA 338 [.int .u8 c.toNat] (.bool (dgB c)):=by
 refine pC AHy rfl ?_
 simp only [f338,go_sem]
 repeat' (first|(refine pK (YM _ _ _) ?_;simp only [go_sem])|(first|apply cS|apply gS)<;>intro hc<;>simp only [go_sem,hc])
 all_goals first|rfl|(simp only [dgB,bz])
def ZQ(c:UInt8):FO AA 311 [.int .u8 c.toNat] (.bool (wdB c)):=by
 refine pC AIc rfl ?_
 simp only [f311,go_sem]
 repeat' (first|((first|refine pK (Ux _) ?_|refine pK (qk _) ?_);simp only [go_sem])|(first|apply cS|apply gS)<;>intro hc<;>simp only [go_sem,hc])
 all_goals (simp only [wdB,bz];grind)
def kc(s:ByteArray):FO AA 149 [.str s] (.bool false):=by
 refine pC AOA rfl ?_
 simp only [f149,go_sem,beq_self_eq_true,Ar]
def yq(s:ByteArray):FO AA 337 [.str s] (.bool false):=by
 refine pC AH1 rfl ?_
 simp only [f337,go_sem,beq_self_eq_true,Ar]
def AGr(a b:ByteArray):FO AA 336 [.str a,.str b] (.bool (TD a b)):=by
 refine pC AH4 rfl ?_
 simp only [f336,go_sem]
 repeat' (first|(refine pK (kc _) ?_;simp only [go_sem])|(first|apply cS|apply gS)<;>intro hc<;>simp only [go_sem,hc])
 all_goals rfl
def bsI(s:ByteArray):Nat:=(HE.takeWhile λw=>TD w s).length
def ND : ∀ i j:Nat,i<j->j<49->TD (HE.getD i ⟨#[]⟩) (HE.getD j ⟨#[]⟩)=true:=by
 have h:((Am 49).all λj=>(Am j).all λi=>TD (HE.getD i ⟨#[]⟩) (HE.getD j ⟨#[]⟩))=true:=kr
 intro i j hi hj
 have h1:=Ao.1 h j (Bo.2 hj)
 exact Ao.1 h1 i (Bo.2 hi)
def MZ:HE.length=49:=rfl
def Ps{α:Type}{p:α->Bool}: ∀ (l:List α) (n:Nat),n<=l.length->(∀ k x,l[k]? =some x->k<n->p x=true)->(∀ x,l[n]? =some x->p x=false)->(l.takeWhile p).length=n
 | [],n,hn,_,_=>by simp at hn;subst hn;rfl
 | y::l,0,_,_,h2=>by
  have:=h2 y rfl
  simp [EE,this]
 | y::l,n+1,hn,h1,h2=>by
  have hy:=h1 0 y rfl FM
  simp only [EE,hy,AC]
  rw [Ps l n (by simp at hn;omega) (λk x hk hl=>h1 (k+1) x (by simpa using hk) FM) (λx hx=>h2 x (by simpa using hx))]
def xd{s:ByteArray}{i:Nat}(hi:i<=49)(h1 : ∀ k,k<i->TD (HE.getD k ⟨#[]⟩) s=true)(h2 : ∀ k,i<=k->k<49->TD (HE.getD k ⟨#[]⟩) s=false):
  S3 s=(decide (i<49)&&decide (HE.getD i ⟨#[]⟩=s)):=by
 rw [BA,AR,decide_eq_true_eq,decide_eq_true_eq,S3,CZ]
 constructor
 ·rintro ⟨w,hw,he⟩
  have he:w=s:=by simpa using he
  subst he
  obtain ⟨m,hm⟩:=List.getElem?_of_mem hw
  have hml:m<49:=by have:=(AD.1 hm).1;rw [MZ] at this;exact this
  have hmg:HE.getD m ⟨#[]⟩=w:=by rw [Cr,hm];rfl
  rcases BT m i with h|h
  ·have:=h1 m h;rw [hmg,Ze] at this;cases this
  ·rcases BT i m with h'|h'
   ·have:=ND i m h' hml
    rw [hmg] at this
    rw [h2 i (AU _) FM] at this;cases this
   ·have:i=m:=FM
    subst this
    exact ⟨hml,hmg⟩
 ·rintro ⟨hl,he⟩
  have hm:HE.getD i ⟨#[]⟩∈HE:=by
   have:=AL (l:=HE) (i:=i) (by rw [MZ];exact hl)
   rw [Cr,this]
   exact List.getElem_mem _
  exact ⟨_,hm,decide_eq_true he⟩
def Ma{k:Nat}(h:k<49):(HE.map AV.str)[k]? =some (.str (HE.getD k ⟨#[]⟩)):=by
 rw [Ac,Cr,AL (by rw [MZ];exact h)];rfl
@[go_sem] def AFU:FQ (HE.map AV.str)=true:=kr
@[go_sem] def AGZ:(HE.map AV.str).length=49:=rfl
@[go_sem] def ATX{P:Program}{t:TypeId}{x:Int}{d:Tmp}{K:Kt}{e:Fp}{H:FN}:Ie P .shr t (.int .u64 x) (.int .u64 1) d K e H=K ((d,.int .u64 (x.fdiv 2))::e) H:=by
 rw [HI];simp [KA,DH]
def AHK{i j:Nat}(hj:j<=49)(hi:i<j):IntKind.i64.wrap ((IntKind.u64.wrap (IntKind.i64.wrap ((i:Int)+(j:Int)))).fdiv 2)=(((i+j) / 2:Nat):Int):=by
 have e1:IntKind.i64.wrap ((i:Int)+(j:Int))=((i+j:Nat):Int):=OD FM FM
 rw [e1]
 have e2:IntKind.u64.wrap ((i+j:Nat):Int)=((i+j:Nat):Int):=by
  simp [Dg,Dh,DH];omega
 rw [e2]
 have e3:((i+j:Nat):Int).fdiv 2=(((i+j) / 2:Nat):Int):=by
  rw [Di _ dc];omega
 rw [e3]
 exact OD FM FM
set_option maxHeartbeats 2000000 in
def yj(s:ByteArray):FO AA 308 [.sl none (HE.map AV.str),.str s] (.tup [.int .i64 (bsI s),.bool (S3 s)]):=by
 refine pB AIl rfl ?_
 simp only [f308,go_sem]
 refine Kj (σ:=Nat×Nat) (λs2=>[(0,.sl none (HE.map AV.str)),(1,.str s),(6,.int .i64 49),(7,.int .i64 s2.1),(8,.int .i64 s2.2)]) (λ_=>[]) (λs2=>s2.1<=s2.2/\s2.2<=49/\(∀ k,k<s2.1->TD (HE.getD k ⟨#[]⟩) s=true)/\(∀ k,s2.2<=k->k<49->TD (HE.getD k ⟨#[]⟩) s=false)) (λs2=>s2.2 - s2.1) (0,49) ⟨FM,FM,λk hk=>FM,λk h1 h2=>FM⟩ rfl rfl ?_
 rintro ⟨i,j⟩ ⟨hij,hj,h1,h2⟩
 by_cases hlt:i<j
 ·have g1:(i:Int)<(j:Int):=FM
  have g2:(0:Int)<=(((i+j) / 2:Nat):Int):=FM
  have g3:(((i+j) / 2:Nat):Int).toNat=(i+j) / 2:=FM
  have hm:(i+j) / 2<49:=FM
  have hw:=Mc (k:=(i+j) / 2) FM
  simp only [go_sem,g1,dT,AHK hj hlt,g2,g3,Ma hm]
  repeat' (first|(refine pK (AGr _ _) ?_;simp only [go_sem,g1,AHK hj hlt,g2,g3,Ma hm,hw])|(first|apply cS|apply gS)<;>intro hc<;>simp only [go_sem,hc,g1,AHK hj hlt,g2,g3,Ma hm,hw])
  ·exact ⟨((i+j) / 2+1,j),⟨FM,hj,λk hk=>by
    rcases BT k ((i+j) / 2) with h|h
    ·exact zd (ND _ _ h hm) hc
    ·have:k=(i+j) / 2:=FM
     subst this;exact hc,h2⟩,FM,rfl,rfl⟩
  ·exact ⟨(i,(i+j) / 2),⟨FM,FM,h1,λk hk hk9=>by
    rcases BT ((i+j) / 2) k with h|h
    ·cases hq:TD (HE.getD k ⟨#[]⟩) s with
     | false=>rfl
     | true=>rw [zd (ND _ _ h hk9) hq] at hc;cases hc
    ·have:k=(i+j) / 2:=FM
     subst this;exact hc⟩,FM,rfl,rfl⟩
 ·have hij:i=j:=FM
  subst hij
  have g1 : ¬ (i:Int)<(i:Int):=FM
  have hwb:S3 s=(decide (i<49)&&decide (HE.getD i ⟨#[]⟩=s)):=xd hj h1 h2
  have hbs:bsI s=i:=Ps HE i (by rw [MZ];exact hj) (λk x hk hl=>by
   have:=h1 k hl;rw [Cr,hk] at this;exact this) (λx hx=>by
   have:=h2 i (AU _) (by have:=(AD.1 hx).1;rw [MZ] at this;exact this)
   rw [Cr,hx] at this;exact this)
  by_cases h49:i<49
  ·have g3:(i:Int)<49:=FM
   have g4:(0:Int)<=(i:Int):=FM
   simp only [go_sem,g1,dF,g3,g4,dT,Ma h49,FL]
   repeat' (first|(refine pK (yq _) ?_;simp only [go_sem,g1,g3,g4,Ma h49,FL,Ae])|(first|apply cS|apply gS)<;>intro hc<;>simp only [go_sem,hc,g1,g3,g4,Ma h49,FL,Ae])
   all_goals (rw [hbs,hwb,hc];simp only [h49,dT,Dd,Av,Bn])
  ·have g3 : ¬ (i:Int)<49:=FM
   simp only [go_sem,g1,dF,g3]
   repeat' (first|(refine pK (yq _) ?_;simp only [go_sem,g1,g3])|(first|apply cS|apply gS)<;>intro hc<;>simp only [go_sem,hc,g1,g3])
   all_goals (rw [hbs,hwb];simp [h49])
def AAz(s:ByteArray){k:Nat}(h:k<=s.size):(s.extract k s.size).size=s.size - k:=by simp [ByteArray.size_extract]
def pR(s:ByteArray){k:Nat}(h:k<s.size):((s.extract k s.size).data[0]?).getD 0=(s.data[k]?).getD 0:=by
 have:(s.extract k s.size).data=s.data.extract k s.size:=by simp [ByteArray.data_extract]
 have h2:s.size=s.data.size:=rfl
 rw [this,Array.getElem?_extract]
 have h3:0<s.size - k:=FM
 simp [<- h2,h,h3]
def ADl(s:ByteArray)(h:0<s.size):FO AA 310 [.str s] (.bool (wdB ((s.data[0]?).getD 0))):=by
 have h0:(0:Int)<(s.size:Int):=FM
 refine pC AIf rfl ?_
 simp only [f310,go_sem,h0]
 repeat' (first|(refine pK (ZQ _) ?_;simp only [go_sem,h0])|(first|apply cS|apply gS)<;>intro hc<;>simp only [go_sem,hc,h0])
def ym(s:ByteArray)(hs:s.size<=1073741824):FO AA 309 [.str s,.fn (.func 310) [] []] (.str (s.extract 0 (MG s.data.toList))):=by
 refine pC AIi rfl ?_
 simp only [f309,go_sem]
 refine WG s (λl=>s.size - l.length+MG l) (λk=>[(0,.str s),(1,.fn (.func 310) [] []),(5,.int .i64 k)]) FM rfl ?_ ?_
 ·intro k x xs hd hx hF h0 h1 hw hl
  rw [Sl] at hF
  simp only [AC,MG] at hF
  have hk:k<s.size:=FM
  have hk2:(k:Int)<=(s.size:Int):=FM
  have hp:0<(s.extract k s.size).size:=by rw [AAz s FM];omega
  simp only [go_sem,h0,h1,hk2]
  repeat' (first|(refine aP (ADl _ hp) ?_;simp only [go_sem,hw,pR s hk,hx])|(first|apply cS|apply gS)<;>intro hc<;>simp only [go_sem,hc,hw,pR s hk,hx])
  ·rw [MG,iP hc];omega
  ·rw [iN (by rw [hc];decide)] at hF
   have:MG s.data.toList=k:=FM
   exact ⟨FM,FM,by rw [this]⟩
 ·intro hF hlt
  simp only [go_sem,hlt,dF]
  rw [Sl] at hF
  have:MG s.data.toList=s.size:=by simp only [MG,List.length_nil] at hF;omega
  exact ⟨FM,by rw [this]⟩
def AEL{s:ByteArray}{n:Nat}(h:n<=s.size):(s.extract 0 n=s)↔n=s.size:=by
 constructor
 ·intro he
  have:=congrArg ByteArray.size he
  rw [ByteArray.size_extract] at this
  omega
 ·rintro rfl
  exact ByteArray.extract_zero_size
def oX : ∀ l:List UInt8,MG l<=l.length
 | []=>by simp [MG]
 | c::l=>by have:=oX l;unfold MG;split<;>simp<;>omega
def qj(s:ByteArray)(hs:s.size<=1073741824):FO AA 259 [.str s] (.bool (tnB s)) := by
  have hr:MG s.data.toList<=s.size := by have := oX s.data.toList;rw [Sl] at this;exact this
  have hx:decide (s.extract 0 (MG s.data.toList)=s)=((MG s.data.toList:Int)==(s.size:Int)) := by
    rw [BA,decide_eq_true_eq,AEL hr,beq_iff_eq];omega
  refine pC AKF rfl ?_
  by_cases hz:s=⟨#[]⟩
  · subst hz
    simp only [f259,go_sem,FL,dT]
    rfl
  · have h0:(0:Int)<(s.size:Int) := by
      have:s.size≠0 := λh=>hz (ByteArray.size_eq_zero_iff.1 h)
      omega
    simp only [f259,go_sem,FL,hz,dF,h0]
    repeat' (first|((first|refine pK (Ux _) ?_|refine pK (yj _) ?_|refine pK (ym _ hs) ?_);simp only [go_sem,FL,hz,dF,h0,hx])|(first|apply cS|apply gS)<;>intro hc<;>simp only [go_sem,hc,FL,hz,dF,h0,hx])
    all_goals first
      | rfl
      | (obtain ⟨x,xs,hx2⟩ : ∃ x xs,s.data.toList=x::xs := by
          cases h:s.data.toList with
          | nil=>rw [<- Sl,h] at h0;simp at h0
          | cons x xs=>exact ⟨x,xs,rfl⟩
         have hx0:(s.data[0]?).getD 0=x := by rw [<- Array.getElem?_toList,hx2];rfl
         simp only [hx0] at *
         simp only [tnB,hx2]
         simp only [hx2] at *
         grind)
      | skip
def ADk(s:ByteArray)(hs:s.size<=1073741824):FO AA 198 [.str s] (.bool (tnB s)):=by
 refine pC ALz rfl ?_
 simp only [f198,go_sem]
 repeat' (first|(refine pK (qj _ hs) ?_;simp only [go_sem])|(first|apply cS|apply gS)<;>intro hc<;>simp only [go_sem,hc])
def Ib(s:ByteArray)(hs:s.size<=1073741824):FO AA 127 [.str s] (.bool (UR s)):=by
 refine pC APG rfl ?_
 simp only [f127,go_sem,FL]
 repeat' (first|(refine pK (ADk _ hs) ?_;simp only [go_sem,FL])|(first|apply cS|apply gS)<;>intro hc<;>simp only [go_sem,hc,FL])
 all_goals first
  | rfl
  | (simp only [FL,UR,F9,hc,BL,BM,Av];rfl)
  | grind [FL,UR,F9,BL,BM,Av]
  | (simp only [FL,UR,F9,hc,BL,BM,Av];grind)
  | (simp [FL,UR,F9,hc,BL,BM,Av, *];done)
  | (simp_all [FL,UR,F9,hc,BL,BM,Av];done)
  | skip
def Ia(n:Int):FO AA 128 [.int .i64 n] (.bool (NB n)):=by
 refine pC APD rfl ?_
 simp only [f128,go_sem]
 repeat' (first|(first|apply cS|apply gS)<;>intro hc<;>simp only [go_sem,hc])
 all_goals first
  | rfl
  | (simp only [NB];rfl)
  | grind [NB]
  | (simp only [NB];grind)
  | (simp [NB, *];done)
  | (simp_all [NB];done)
  | skip
def Lg(n:Int):Bool:=decide (0<=n)&&decide (n<=1073741824)
def NL(n:Int):FO AA 196 [.int .i64 n] (.bool (Lg n)):=by
 refine pC AL5 rfl ?_
 simp only [f196,go_sem]
 repeat' (first|(first|apply cS|apply gS)<;>intro hc<;>simp only [go_sem,hc])
 all_goals first
  | rfl
  | (simp only [Lg];rfl)
  | grind [Lg]
  | (simp only [Lg];grind)
  | (simp [Lg, *];done)
  | (simp_all [Lg];done)
  | skip
def yf{cs:List AV}{l:List AV}(h:HR (.agg cs::l)):HR cs:=h.1
def HF{α:Type}(p:α->Bool):Nat->List α->Int
 | _,[] => -1
 | i,x::l=>if p x then (i:Int) else HF p (i+1) l
def H9{α:Type}(p:α->Bool)(l:List α):Int:=HF p 0 l
def PP{α:Type}(p:α->Bool): ∀ (l:List α) (i:Nat),decide (0<=HF p i l)=l.any p
 | [],i=>rfl
 | x::l,i=>by
  rw [HF,Au]
  cases h:p x with
  | true=>simp
  | false=>simp [PP p l (i+1)]
def UZ{α:Type}(p:α->Bool)(l:List α):(!(l.any λx => !p x))=l.all p:=by
 induction l with
 | nil=>rfl
 | cons x l ih=>simp only [Au,Ak,Bool.not_or,Bool.not_not,ih]
@[go_sem] def AbQ{α:Type}(l:List α)(x:α):(l++[x])[l.length]? =some x:=sm
def dC {H:FN} (l:List Eo) (hl:l.length<=9223372036854775807) (g:FuncId) (fi ca:List AV) (p:Eo->Bool)
  (h : ∀ x∈l,GI AA g (fi.map AV.borrow++(.agg x.c::ca.map AV.borrow)) H (.bool (p x))) :
  GI AA 306 [.sl none (GE l),.fn (.func g) fi ca] H (.int .i64 (H9 p l)):=by
 unfold GI
 refine aC AIr rfl ?_
 simp only [f306,go_sem]
 refine FZ l (λr=>HF p (l.length - r.length) r) (λk=>[(0,.sl none (GE l)),(1,.fn (.func g) fi ca),(7,.int .i64 l.length),(8,.int .i64 k)]) hl rfl ?_ ?_
 ·intro k x xs hd hx hF h0 h1 hw
  have hk2:=Fl hd
  have e1:l.length - (xs.length+1)=k:=FM
  have e2:l.length - xs.length=k+1:=FM
  simp only [AC,e1,AQ] at hF
  simp only [go_sem,h0,h1,Fk hx,e1,e2]
  repeat' (first|(refine aS (h x (AB hx)) ?_;simp only [go_sem,h0,h1,hw,Fk hx,e1,e2])|(first|apply cS|apply gS)<;>intro hc<;>simp only [go_sem,hc,h0,h1,hw,Fk hx,e1,e2])
  ·rw [H9,hF,HF,iP hc]
  ·rw [HF,iN (by rw [hc];decide)]
 ·intro hF hlt
  simp only [go_sem,hlt,dF]
  rw [AQ] at hF
  rw [H9,hF];rfl
def U2 {H:FN} (l:List Eo) (hl:l.length<=9223372036854775807) (g:FuncId) (fi ca:List AV) (p:Eo->Bool)
  (h : ∀ x∈l,GI AA g (fi.map AV.borrow++(.agg x.c::ca.map AV.borrow)) H (.bool (p x))) :
  GI AA 257 [.sl none (GE l),.fn (.func g) fi ca] H (.bool (l.any p)):=by
 unfold GI
 refine aC AKL rfl ?_
 simp only [f257,go_sem]
 repeat' (first|(refine aS (dC l hl g fi ca p h) ?_;simp only [go_sem])|(first|apply cS|apply gS)<;>intro hc<;>simp only [go_sem,hc])
 rw [H9,PP]
def Hr(l:List Eo)(hl:l.length<=9223372036854775807)(n:Int)(g:FuncId)(p:Eo->Bool)(h : ∀ x∈l,FO AA g [.agg x.c] (.bool (p x))):
  FO AA 197 [.sl none (GE l),.int .i64 n,.fn (.func g) [] []] (.bool (((l.length:Int)==n)&&l.all p)):=by
 refine pC AL2 rfl ?_
 simp only [f197,go_sem]
 have h1 : ∀ x∈l,GI AA 258 [.agg x.c,.ptr 0 0] [some [.fn (.func g) [] []]] (.bool (!p x)):=by
  intro x hx
  refine FT.drop rfl ?_
  refine aC AKI rfl ?_
  simp only [f258,go_sem]
  repeat' (first|(refine aP (h x hx) ?_;simp only [go_sem])|(first|apply cS|apply gS)<;>intro hc<;>simp only [go_sem,hc])
  exact ⟨_,rfl⟩
 repeat' (first|(refine aS (U2 l hl 258 [] [.ptr 0 0] (λx => !p x) h1) ?_;simp only [go_sem,UZ])|(first|apply cS|apply gS)<;>intro hc<;>simp only [go_sem,hc,UZ])
def Wz {H:FN} (l:List Ep) (hl:l.length<=9223372036854775807) (g:FuncId) (fi ca:List AV) (p:Ep->Bool)
  (h : ∀ x∈l,GI AA g (fi.map AV.borrow++(.agg x.c::ca.map AV.borrow)) H (.bool (p x))) :
  GI AA 260 [.sl none (Fz l),.fn (.func g) fi ca] H (.int .i64 (H9 p l)):=by
 unfold GI
 refine aC AKC rfl ?_
 simp only [f260,go_sem]
 refine FZ l (λr=>HF p (l.length - r.length) r) (λk=>[(0,.sl none (Fz l)),(1,.fn (.func g) fi ca),(7,.int .i64 l.length),(8,.int .i64 k)]) hl rfl ?_ ?_
 ·intro k x xs hd hx hF h0 h1 hw
  have hk2:=Fl hd
  have e1:l.length - (xs.length+1)=k:=FM
  have e2:l.length - xs.length=k+1:=FM
  simp only [AC,e1,AQ] at hF
  simp only [go_sem,h0,h1,Fa hx,e1,e2]
  repeat' (first|(refine aS (h x (AB hx)) ?_;simp only [go_sem,h0,h1,hw,Fa hx,e1,e2])|(first|apply cS|apply gS)<;>intro hc<;>simp only [go_sem,hc,h0,h1,hw,Fa hx,e1,e2])
  ·rw [H9,hF,HF,iP hc]
  ·rw [HF,iN (by rw [hc];decide)]
 ·intro hF hlt
  simp only [go_sem,hlt,dF]
  rw [AQ] at hF
  rw [H9,hF];rfl
def SN {H:FN} (l:List Ep) (hl:l.length<=9223372036854775807) (g:FuncId) (fi ca:List AV) (p:Ep->Bool)
  (h : ∀ x∈l,GI AA g (fi.map AV.borrow++(.agg x.c::ca.map AV.borrow)) H (.bool (p x))) :
  GI AA 199 [.sl none (Fz l),.fn (.func g) fi ca] H (.bool (l.any p)):=by
 unfold GI
 refine aC ALw rfl ?_
 simp only [f199,go_sem]
 repeat' (first|(refine aS (Wz l hl g fi ca p h) ?_;simp only [go_sem])|(first|apply cS|apply gS)<;>intro hc<;>simp only [go_sem,hc])
 rw [H9,PP]
def JK(l:List Ep)(hl:l.length<=9223372036854775807)(n:Int)(g:FuncId)(p:Ep->Bool)(h : ∀ x∈l,FO AA g [.agg x.c] (.bool (p x))):
  FO AA 129 [.sl none (Fz l),.int .i64 n,.fn (.func g) [] []] (.bool (((l.length:Int)==n)&&l.all p)):=by
 refine pC APA rfl ?_
 simp only [f129,go_sem]
 have h1 : ∀ x∈l,GI AA 200 [.agg x.c,.ptr 0 0] [some [.fn (.func g) [] []]] (.bool (!p x)):=by
  intro x hx
  refine FT.drop rfl ?_
  refine aC ALt rfl ?_
  simp only [f200,go_sem]
  repeat' (first|(refine aP (h x hx) ?_;simp only [go_sem])|(first|apply cS|apply gS)<;>intro hc<;>simp only [go_sem,hc])
  exact ⟨_,rfl⟩
 repeat' (first|(refine aS (SN l hl 200 [] [.ptr 0 0] (λx => !p x) h1) ?_;simp only [go_sem,UZ])|(first|apply cS|apply gS)<;>intro hc<;>simp only [go_sem,hc,UZ])
def ka(a b:Er):FO AA 122 [.agg a.c,.agg b.c] (.agg (a.more b).c):=by
 refine pB APS rfl ?_
 simp only [f122,go_sem]
 rfl
def qo(l:List Eo)(hl:l.length<=9223372036854775807)(h : ∀ x∈l,FO AA 123 [.agg x.c] (.agg (kJ x).c)):
  FO AA 194 [.sl none (GE l),.fn (.func 123) [] []] (.agg (Ug l ⟨1,1⟩).c):=by
 refine pB AMG rfl ?_
 simp only [f194,go_sem]
 refine Fo l (λo l=>Ug l o) (λ_ _=>True) (λk o=>[(1,.fn (.func 123) [] []),(4,.ptr 0 0),(5,.ptr 1 0),(9,.sl none (GE l)),(10,.int .i64 l.length),(11,.int .i64 k)]) (λk o=>[some Sizes.z.c,some o.c]) ⟨1,1⟩ hl trivial rfl rfl ?_ ?_
 ·intro k o y ys hd hx _ hF h0 h1 hw
  simp only [go_sem,h0,h1,Fk hx]
  repeat' (first|((first|refine pK (h _ (AB hx)) ?_|refine pK (ka _ _) ?_);simp only [go_sem,h0,h1,hw,Fk hx])|(first|apply cS|apply gS)<;>intro hc<;>simp only [go_sem,hc,h0,h1,hw,Fk hx])
  exact ⟨_,YA _ _ _,rfl,rfl⟩
 ·intro o _ hF
  simp only [go_sem,AY,dF]
  rw [hF,b9]
def dE(a b:List Eo)(ha:a.length<=9223372036854775807)(h : ∀ x∈a,∀ y,FO AA 125 [.agg x.c,.agg y.c] (.bool (pT x y))):
  FO AA 195 [.sl none (GE a),.sl none (GE b),.fn (.func 125) [] []] (.bool (((a.length:Int)==(b.length:Int))&&Tp a b)):=by
 refine pC AMA rfl ?_
 simp only [f195,go_sem]
 repeat' (first|(first|apply cS|apply gS)<;>intro hc<;>simp only [go_sem,hc])
 ·simp at hc;simp [hc]
 ·have hlen:a.length=b.length:=by simp at hc;omega
  refine Fo a (λ(_:Unit) r=>Tp r (b.drop (a.length - r.length))) (λ_ _=>True) (λk _=>[(1,.sl none (GE b)),(2,.fn (.func 125) [] []),(15,.sl none (GE a)),(16,.int .i64 a.length),(17,.int .i64 k)]) (λk _=>[]) () ha trivial rfl rfl ?_ ?_
  ·intro k _ x xs hd hx _ hF h0 h1 hw
   have hk2:=Fl hd
   obtain ⟨y,hy⟩ : ∃ y,b[k]? =some y:=⟨_,AL FM⟩
   have e1:a.length - (xs.length+1)=k:=FM
   have e2:a.length - xs.length=k+1:=FM
   have hbd:b.drop k=y::b.drop (k+1):=by
    obtain ⟨hlt,rfl⟩:=AD.1 hy
    exact BJ hlt
   simp only [AC,e1,AQ,BN,hbd,Iz] at hF
   simp only [go_sem,h0,h1,Fk hx,Fk hy]
   repeat' (first|(refine aP (h _ (AB hx) y) ?_;simp only [go_sem,h0,h1,hw,Fk hx,Fk hy])|(first|apply cS|apply gS)<;>intro hc<;>simp only [go_sem,hc,h0,h1,hw,Fk hx,Fk hy])
   ·simp only [Bool.not_eq_true'] at hc
    rw [hF,hc,Bool.false_and,Dd]
   ·simp only [Bool.not_eq_false'] at hc
    exact ⟨(),by rw [e1,e2,hbd,Iz,hc,Bz]⟩
  ·intro _ _ hF
   simp only [go_sem,AY,dF]
   rw [AQ,BN,Lr] at hF
   rw [hF,hlen];simp
def dA(l:List Ep)(hl:l.length<=9223372036854775807)(h : ∀ x∈l,FO AA 67 [.agg x.c] (.agg (kK x).c)):
  FO AA 121 [.sl none (Fz l),.fn (.func 67) [] []] (.agg (Pf l ⟨1,1⟩).c):=by
 refine pB APX rfl ?_
 simp only [f121,go_sem]
 refine Fo l (λo l=>Pf l o) (λ_ _=>True) (λk o=>[(1,.fn (.func 67) [] []),(4,.ptr 0 0),(5,.ptr 1 0),(9,.sl none (Fz l)),(10,.int .i64 l.length),(11,.int .i64 k)]) (λk o=>[some Sizes.z.c,some o.c]) ⟨1,1⟩ hl trivial rfl rfl ?_ ?_
 ·intro k o y ys hd hx _ hF h0 h1 hw
  simp only [go_sem,h0,h1,Fa hx]
  repeat' (first|((first|refine pK (h _ (AB hx)) ?_|refine pK (ka _ _) ?_);simp only [go_sem,h0,h1,hw,Fa hx])|(first|apply cS|apply gS)<;>intro hc<;>simp only [go_sem,hc,h0,h1,hw,Fa hx])
  exact ⟨_,Md _ _ _,rfl,rfl⟩
 ·intro o _ hF
  simp only [go_sem,AY,dF]
  rw [hF,OF]
def kb : ∀ x:Eo,FO AA 123 [.agg x.c] (.agg (kJ x).c):=by
 refine JP _ λx ih=>?_
 refine FO.fit AAi.c λhf=>?_
 have hl:=Kq (yf hf)
 refine pB AAi rfl ?_
 simp only [f123,go_sem]
 repeat' (first|(refine pK (qo _ hl (λy hy=>ih y hy)) ?_;simp only [go_sem])|(first|apply cS|apply gS)<;>intro hc<;>simp only [go_sem,hc])
 rw [xy]
def pJ(a b:Int):i64 (i64 a+b)=i64 (a+b):=by
 simp only [i64,Dg,Dh,DH]
 simp
 split<;>split<;>split<;>omega
def rM(a b c:Er):(a.more b).more c=(a.more c).more b:=by
 unfold Sizes.more Vj
 simp only [Sizes.mk.injEq]
 refine ⟨?_, ?_⟩
 ·rw [pJ,pJ];congr 1;omega
 ·grind
def YB(z:Er): ∀ (l:List Ep) (o:Er),Pf l (o.more z)=(Pf l o).more z
 | [],o=>by rw [OF,OF]
 | x::l,o=>by rw [Md,Md,rM,YB z l]
def ZO : ∀ x:Ep,FO AA 67 [.agg x.c] (.agg (kK x).c):=by
 refine Hj _ λx ih=>?_
 refine FO.fit AFq.c λhf=>?_
 have hl:=JW (yf hf)
 refine pB AFq rfl ?_
 simp only [f67,go_sem]
 repeat' (first|((first|refine pK (dA _ hl (λy hy=>ih y hy)) ?_|refine pK (kb _) ?_|refine pK (ka _ _) ?_);simp only [go_sem])|(first|apply cS|apply gS)<;>intro hc<;>simp only [go_sem,hc])
 ·rw [ZA,iP (by simpa using hc),YB]
 ·rw [ZA,iN (by simpa using hc)]
def ADa(z:Er):FO AA 124 [.agg z.c] (.int .i64 (QR z)):=by
 refine pC APN rfl ?_
 simp only [f124,go_sem]
 repeat' (first|(first|apply cS|apply gS)<;>intro hc<;>simp only [go_sem,hc])
 all_goals first
  | rfl
  | (simp only [QR];rfl)
  | grind [QR]
  | (simp only [QR];grind)
  | (simp [QR, *];done)
  | (simp_all [QR];done)
  | skip
def ADd{H:FN}(z:Er)(g:FuncId)(ca:List AV)(b:Bool)(h:GI AA g (ca.map AV.borrow) (H++[some z.c]) (.bool b)):
  GI AA 68 [.agg z.c,.fn (.func g) [] ca] H (.int .i64 (pP z b)):=by
 refine FT.drop rfl ?_
 refine aC AVv rfl ?_
 simp only [f68,go_sem]
 repeat' (first|((first|refine pK (ADa _) ?_|refine aS (h) ?_);simp only [go_sem])|(first|apply cS|apply gS)<;>intro hc<;>simp only [go_sem,hc])
 all_goals simp_all [pP]
def Abl(a b:Nat):((a:Int)==(b:Int))=(a==b):=by
 rw [BA];simp;omega
def KM : ∀ x y:Eo,FO AA 125 [.agg x.c,.agg y.c] (.bool (pT x y)):=by
 refine JP _ λx ih=>λy=>?_
 refine FO.fit AAh.c λhf=>?_
 have hl:=Kq (yf hf)
 refine pC AAh rfl ?_
 simp only [f125,go_sem,FL]
 repeat' (first|(refine pK (dE _ _ hl (λy hy z=>ih y hy z)) ?_;simp only [go_sem,FL])|(first|apply cS|apply gS)<;>intro hc<;>simp only [go_sem,hc,FL])
 all_goals (rw [Im];simp_all [Abl])
def JO : ∀ l:List Eo,Vn l=l.all NC
 | []=>by rw [Hg];rfl
 | x::l=>by rw [KX,Ak,JO l]
def Mx : ∀ l:List Ep,Vo l=l.all RQ
 | []=>by rw [Ik];rfl
 | x::l=>by rw [KY,Ak,Mx l]
def He{α:Type}(l:List α):((l.length:Int)==0)=l.isEmpty:=by
 cases l<;>simp;omega
def Gj{a b:Int}(h:a≠b):(a==b)=false:=by simp [h]
def AUF
(field:ByteArray) (n m:Int) (args:List Eo) (hl:args.length<=9223372036854775807) (hfs:field.size<=1073741824) (hev : ∀ y∈args,FO AA 126 [.agg y.c] (.bool (NC y))):FO AA 126 [.agg (Pred.c ⟨1,field,n,m,args⟩)] (.bool (NC ⟨1,field,n,m,args⟩)):=by
 refine pC MP rfl ?_
 simp only [f126,go_sem,FL,Int.reduceBEq,He]
 repeat' (first|((first|refine pK (Ib _ hfs) ?_|refine pK (Ia _) ?_|refine pK (NL _) ?_|refine pK (Hr _ hl _ _ NC hev) ?_);simp only [go_sem,FL,Int.reduceBEq,He])|(first|apply cS|apply gS)<;>intro hc<;>simp only [go_sem,hc,FL,Int.reduceBEq,He])
 all_goals (rw [Hh];cases args<;>(simp_all [SR,JL,NB,Lg,JO,Hg]<;>first|omega|grind|skip))
def AUE
(field:ByteArray) (n m:Int) (args:List Eo) (hl:args.length<=9223372036854775807) (hfs:field.size<=1073741824) (hev : ∀ y∈args,FO AA 126 [.agg y.c] (.bool (NC y))):FO AA 126 [.agg (Pred.c ⟨2,field,n,m,args⟩)] (.bool (NC ⟨2,field,n,m,args⟩)):=by
 refine pC MP rfl ?_
 simp only [f126,go_sem,FL,Int.reduceBEq,He]
 repeat' (first|((first|refine pK (Ib _ hfs) ?_|refine pK (Ia _) ?_|refine pK (NL _) ?_|refine pK (Hr _ hl _ _ NC hev) ?_);simp only [go_sem,FL,Int.reduceBEq,He])|(first|apply cS|apply gS)<;>intro hc<;>simp only [go_sem,hc,FL,Int.reduceBEq,He])
 all_goals (rw [Hh];cases args<;>(simp_all [SR,JL,NB,Lg,JO,Hg]<;>first|omega|grind|skip))
def AUD
(field:ByteArray) (n m:Int) (args:List Eo) (hl:args.length<=9223372036854775807) (hfs:field.size<=1073741824) (hev : ∀ y∈args,FO AA 126 [.agg y.c] (.bool (NC y))):FO AA 126 [.agg (Pred.c ⟨3,field,n,m,args⟩)] (.bool (NC ⟨3,field,n,m,args⟩)):=by
 refine pC MP rfl ?_
 simp only [f126,go_sem,FL,Int.reduceBEq,He]
 repeat' (first|((first|refine pK (Ib _ hfs) ?_|refine pK (Ia _) ?_|refine pK (NL _) ?_|refine pK (Hr _ hl _ _ NC hev) ?_);simp only [go_sem,FL,Int.reduceBEq,He])|(first|apply cS|apply gS)<;>intro hc<;>simp only [go_sem,hc,FL,Int.reduceBEq,He])
 all_goals (rw [Hh];cases args<;>(simp_all [SR,JL,NB,Lg,JO,Hg]<;>first|omega|grind|skip))
def AUC
(field:ByteArray) (n m:Int) (args:List Eo) (hl:args.length<=9223372036854775807) (hfs:field.size<=1073741824) (hev : ∀ y∈args,FO AA 126 [.agg y.c] (.bool (NC y))):FO AA 126 [.agg (Pred.c ⟨4,field,n,m,args⟩)] (.bool (NC ⟨4,field,n,m,args⟩)):=by
 refine pC MP rfl ?_
 simp only [f126,go_sem,FL,Int.reduceBEq,He]
 repeat' (first|((first|refine pK (Ib _ hfs) ?_|refine pK (Ia _) ?_|refine pK (NL _) ?_|refine pK (Hr _ hl _ _ NC hev) ?_);simp only [go_sem,FL,Int.reduceBEq,He])|(first|apply cS|apply gS)<;>intro hc<;>simp only [go_sem,hc,FL,Int.reduceBEq,He])
 all_goals (rw [Hh];cases args<;>(simp_all [SR,JL,NB,Lg,JO,Hg]<;>first|omega|grind|skip))
def AUB
(field:ByteArray) (n m:Int) (args:List Eo) (hl:args.length<=9223372036854775807) (hfs:field.size<=1073741824) (hev : ∀ y∈args,FO AA 126 [.agg y.c] (.bool (NC y))):FO AA 126 [.agg (Pred.c ⟨5,field,n,m,args⟩)] (.bool (NC ⟨5,field,n,m,args⟩)):=by
 refine pC MP rfl ?_
 simp only [f126,go_sem,FL,Int.reduceBEq,He]
 repeat' (first|((first|refine pK (Ib _ hfs) ?_|refine pK (Ia _) ?_|refine pK (NL _) ?_|refine pK (Hr _ hl _ _ NC hev) ?_);simp only [go_sem,FL,Int.reduceBEq,He])|(first|apply cS|apply gS)<;>intro hc<;>simp only [go_sem,hc,FL,Int.reduceBEq,He])
 all_goals (rw [Hh];cases args<;>(simp_all [SR,JL,NB,Lg,JO,Hg]<;>first|omega|grind|skip))
def AUA
(field:ByteArray) (n m:Int) (args:List Eo) (hl:args.length<=9223372036854775807) (hfs:field.size<=1073741824) (hev : ∀ y∈args,FO AA 126 [.agg y.c] (.bool (NC y))):FO AA 126 [.agg (Pred.c ⟨6,field,n,m,args⟩)] (.bool (NC ⟨6,field,n,m,args⟩)):=by
 refine pC MP rfl ?_
 simp only [f126,go_sem,FL,Int.reduceBEq,He]
 repeat' (first|((first|refine pK (Ib _ hfs) ?_|refine pK (Ia _) ?_|refine pK (NL _) ?_|refine pK (Hr _ hl _ _ NC hev) ?_);simp only [go_sem,FL,Int.reduceBEq,He])|(first|apply cS|apply gS)<;>intro hc<;>simp only [go_sem,hc,FL,Int.reduceBEq,He])
 all_goals (rw [Hh];cases args<;>(simp_all [SR,JL,NB,Lg,JO,Hg]<;>first|omega|grind|skip))
def AT9
(field:ByteArray) (n m:Int) (args:List Eo) (hl:args.length<=9223372036854775807) (hfs:field.size<=1073741824) (hev : ∀ y∈args,FO AA 126 [.agg y.c] (.bool (NC y))):FO AA 126 [.agg (Pred.c ⟨7,field,n,m,args⟩)] (.bool (NC ⟨7,field,n,m,args⟩)):=by
 refine pC MP rfl ?_
 simp only [f126,go_sem,FL,Int.reduceBEq,He]
 repeat' (first|((first|refine pK (Ib _ hfs) ?_|refine pK (Ia _) ?_|refine pK (NL _) ?_|refine pK (Hr _ hl _ _ NC hev) ?_);simp only [go_sem,FL,Int.reduceBEq,He])|(first|apply cS|apply gS)<;>intro hc<;>simp only [go_sem,hc,FL,Int.reduceBEq,He])
 all_goals (rw [Hh];cases args<;>(simp_all [SR,JL,NB,Lg,JO,Hg]<;>first|omega|grind|skip))
def AT8
(field:ByteArray) (n m:Int) (args:List Eo) (hl:args.length<=9223372036854775807) (hfs:field.size<=1073741824) (hev : ∀ y∈args,FO AA 126 [.agg y.c] (.bool (NC y))):FO AA 126 [.agg (Pred.c ⟨8,field,n,m,args⟩)] (.bool (NC ⟨8,field,n,m,args⟩)):=by
 refine pC MP rfl ?_
 simp only [f126,go_sem,FL,Int.reduceBEq,He]
 repeat' (first|((first|refine pK (Ib _ hfs) ?_|refine pK (Ia _) ?_|refine pK (NL _) ?_|refine pK (Hr _ hl _ _ NC hev) ?_);simp only [go_sem,FL,Int.reduceBEq,He])|(first|apply cS|apply gS)<;>intro hc<;>simp only [go_sem,hc,FL,Int.reduceBEq,He])
 all_goals (rw [Hh];cases args<;>(simp_all [SR,JL,NB,Lg,JO,Hg]<;>first|omega|grind|skip))
def AT7
(field:ByteArray) (n m:Int) (args:List Eo) (hl:args.length<=9223372036854775807) (hfs:field.size<=1073741824) (hev : ∀ y∈args,FO AA 126 [.agg y.c] (.bool (NC y))):FO AA 126 [.agg (Pred.c ⟨9,field,n,m,args⟩)] (.bool (NC ⟨9,field,n,m,args⟩)):=by
 refine pC MP rfl ?_
 simp only [f126,go_sem,FL,Int.reduceBEq,He]
 repeat' (first|((first|refine pK (Ib _ hfs) ?_|refine pK (Ia _) ?_|refine pK (NL _) ?_|refine pK (Hr _ hl _ _ NC hev) ?_);simp only [go_sem,FL,Int.reduceBEq,He])|(first|apply cS|apply gS)<;>intro hc<;>simp only [go_sem,hc,FL,Int.reduceBEq,He])
 all_goals (rw [Hh];cases args<;>(simp_all [SR,JL,NB,Lg,JO,Hg]<;>first|omega|grind|skip))
def AUG (kind:Int) (h1:kind≠1) (h2:kind≠2) (h3:kind≠3) (h4:kind≠4) (h5:kind≠5) (h6:kind≠6) (h7:kind≠7) (h8:kind≠8) (h9:kind≠9)
  (field:ByteArray) (n m:Int) (args:List Eo):FO AA 126 [.agg (Pred.c ⟨kind,field,n,m,args⟩)] (.bool (NC ⟨kind,field,n,m,args⟩)):=by
 refine pC MP rfl ?_
 simp only [f126,go_sem,FL,He,Gj h1,Gj h2,Gj h3,Gj h4,Gj h5,Gj h6,Gj h7,Gj h8,Gj h9]
 repeat' (first|(first|apply cS|apply gS)<;>intro hc<;>simp only [go_sem,hc,FL,He,Gj h1,Gj h2,Gj h3,Gj h4,Gj h5,Gj h6,Gj h7,Gj h8,Gj h9])
 all_goals (rw [Hh];simp [SR, *])
def Jv : ∀ x:Eo,FP x.c<=1073741824->FO AA 126 [.agg x.c] (.bool (NC x)):=by
 refine JP _ λx ih=>λhb=>?_
 have hl:x.args.length<=9223372036854775807:=AK (VN (I4 hb)) dc
 have hfs:=P8 hb
 have hev : ∀ y∈x.args,FO AA 126 [.agg y.c] (.bool (NC y)):=λy hm =>
  ih y hm (by have:=VO (I4 hb) hm;simpa only [AV.bulk] using this)
 obtain ⟨kind,field,n,m,args⟩:=x
 by_cases h1:kind=1
 ·subst h1;exact AUF field n m args hl hfs hev
 by_cases h2:kind=2
 ·subst h2;exact AUE field n m args hl hfs hev
 by_cases h3:kind=3
 ·subst h3;exact AUD field n m args hl hfs hev
 by_cases h4:kind=4
 ·subst h4;exact AUC field n m args hl hfs hev
 by_cases h5:kind=5
 ·subst h5;exact AUB field n m args hl hfs hev
 by_cases h6:kind=6
 ·subst h6;exact AUA field n m args hl hfs hev
 by_cases h7:kind=7
 ·subst h7;exact AT9 field n m args hl hfs hev
 by_cases h8:kind=8
 ·subst h8;exact AT8 field n m args hl hfs hev
 by_cases h9:kind=9
 ·subst h9;exact AT7 field n m args hl hfs hev
 exact AUG kind h1 h2 h3 h4 h5 h6 h7 h8 h9 field n m args
def AUL
(pred:Eo) (field:ByteArray) (n:Int) (args:List Ep) (hl:args.length<=9223372036854775807) (hfs:field.size<=1073741824) (hp:FP pred.c<=1073741824) (hev : ∀ y∈args,FO AA 70 [.agg y.c] (.bool (RQ y))):FO AA 70 [.agg (Policy.c ⟨1,pred,field,n,args⟩)] (.bool (RQ ⟨1,pred,field,n,args⟩)):=by
 refine pC Yc rfl ?_
 simp only [f70,go_sem,FL,Int.reduceBEq,He]
 repeat' (first|((first|refine pK (FO.lend (KM pred Pred.z)) ?_|refine pK (Ib _ hfs) ?_|refine pK (Ia _) ?_|refine pK (Jv _ hp) ?_|refine pK (JK _ hl _ _ RQ hev) ?_);simp only [go_sem,FL,Int.reduceBEq,He])|(first|apply cS|apply gS)<;>intro hc<;>simp only [go_sem,hc,FL,Int.reduceBEq,He])
 all_goals (rw [IJ];cases args<;>(simp_all [U7,NB,Mx,Ik]<;>first|omega|grind|skip))
def AUK
(pred:Eo) (field:ByteArray) (n:Int) (args:List Ep) (hl:args.length<=9223372036854775807) (hfs:field.size<=1073741824) (hp:FP pred.c<=1073741824) (hev : ∀ y∈args,FO AA 70 [.agg y.c] (.bool (RQ y))):FO AA 70 [.agg (Policy.c ⟨2,pred,field,n,args⟩)] (.bool (RQ ⟨2,pred,field,n,args⟩)):=by
 refine pC Yc rfl ?_
 simp only [f70,go_sem,FL,Int.reduceBEq,He]
 repeat' (first|((first|refine pK (FO.lend (KM pred Pred.z)) ?_|refine pK (Ib _ hfs) ?_|refine pK (Ia _) ?_|refine pK (Jv _ hp) ?_|refine pK (JK _ hl _ _ RQ hev) ?_);simp only [go_sem,FL,Int.reduceBEq,He])|(first|apply cS|apply gS)<;>intro hc<;>simp only [go_sem,hc,FL,Int.reduceBEq,He])
 all_goals (rw [IJ];cases args<;>(simp_all [U7,NB,Mx,Ik]<;>first|omega|grind|skip))
def AUJ
(pred:Eo) (field:ByteArray) (n:Int) (args:List Ep) (hl:args.length<=9223372036854775807) (hfs:field.size<=1073741824) (hp:FP pred.c<=1073741824) (hev : ∀ y∈args,FO AA 70 [.agg y.c] (.bool (RQ y))):FO AA 70 [.agg (Policy.c ⟨3,pred,field,n,args⟩)] (.bool (RQ ⟨3,pred,field,n,args⟩)):=by
 refine pC Yc rfl ?_
 simp only [f70,go_sem,FL,Int.reduceBEq,He]
 repeat' (first|((first|refine pK (FO.lend (KM pred Pred.z)) ?_|refine pK (Ib _ hfs) ?_|refine pK (Ia _) ?_|refine pK (Jv _ hp) ?_|refine pK (JK _ hl _ _ RQ hev) ?_);simp only [go_sem,FL,Int.reduceBEq,He])|(first|apply cS|apply gS)<;>intro hc<;>simp only [go_sem,hc,FL,Int.reduceBEq,He])
 all_goals (rw [IJ];cases args<;>(simp_all [U7,NB,Mx,Ik]<;>first|omega|grind|skip))
def AUI
(pred:Eo) (field:ByteArray) (n:Int) (args:List Ep) (hl:args.length<=9223372036854775807) (hfs:field.size<=1073741824) (hp:FP pred.c<=1073741824) (hev : ∀ y∈args,FO AA 70 [.agg y.c] (.bool (RQ y))):FO AA 70 [.agg (Policy.c ⟨4,pred,field,n,args⟩)] (.bool (RQ ⟨4,pred,field,n,args⟩)):=by
 refine pC Yc rfl ?_
 simp only [f70,go_sem,FL,Int.reduceBEq,He]
 repeat' (first|((first|refine pK (FO.lend (KM pred Pred.z)) ?_|refine pK (Ib _ hfs) ?_|refine pK (Ia _) ?_|refine pK (Jv _ hp) ?_|refine pK (JK _ hl _ _ RQ hev) ?_);simp only [go_sem,FL,Int.reduceBEq,He])|(first|apply cS|apply gS)<;>intro hc<;>simp only [go_sem,hc,FL,Int.reduceBEq,He])
 all_goals (rw [IJ];cases args<;>(simp_all [U7,NB,Mx,Ik]<;>first|omega|grind|skip))
def AUH
(pred:Eo) (field:ByteArray) (n:Int) (args:List Ep) (hl:args.length<=9223372036854775807) (hfs:field.size<=1073741824) (hp:FP pred.c<=1073741824) (hev : ∀ y∈args,FO AA 70 [.agg y.c] (.bool (RQ y))):FO AA 70 [.agg (Policy.c ⟨5,pred,field,n,args⟩)] (.bool (RQ ⟨5,pred,field,n,args⟩)):=by
 refine pC Yc rfl ?_
 simp only [f70,go_sem,FL,Int.reduceBEq,He]
 repeat' (first|((first|refine pK (FO.lend (KM pred Pred.z)) ?_|refine pK (Ib _ hfs) ?_|refine pK (Ia _) ?_|refine pK (Jv _ hp) ?_|refine pK (JK _ hl _ _ RQ hev) ?_);simp only [go_sem,FL,Int.reduceBEq,He])|(first|apply cS|apply gS)<;>intro hc<;>simp only [go_sem,hc,FL,Int.reduceBEq,He])
 all_goals (rw [IJ];cases args<;>(simp_all [U7,NB,Mx,Ik]<;>first|omega|grind|skip))
def AUM (kind:Int) (h1:kind≠1) (h2:kind≠2) (h3:kind≠3) (h4:kind≠4) (h5:kind≠5)
  (pred:Eo) (field:ByteArray) (n:Int) (args:List Ep):FO AA 70 [.agg (Policy.c ⟨kind,pred,field,n,args⟩)] (.bool (RQ ⟨kind,pred,field,n,args⟩)):=by
 refine pC Yc rfl ?_
 simp only [f70,go_sem,FL,He,Gj h1,Gj h2,Gj h3,Gj h4,Gj h5]
 repeat' (first|(refine pK (FO.lend (KM pred Pred.z)) ?_;simp only [go_sem,FL,He,Gj h1,Gj h2,Gj h3,Gj h4,Gj h5])|(first|apply cS|apply gS)<;>intro hc<;>simp only [go_sem,hc,FL,He,Gj h1,Gj h2,Gj h3,Gj h4,Gj h5])
 all_goals (rw [IJ];simp [U7, *])
def Uz : ∀ x:Ep,FP x.c<=1073741824->FO AA 70 [.agg x.c] (.bool (RQ x)):=by
 refine Hj _ λx ih=>λhb=>?_
 have hl:x.args.length<=9223372036854775807:=AK (QU (IC hb)) dc
 have hfs:=Nx hb
 have hp:=L1 hb
 have hev : ∀ y∈x.args,FO AA 70 [.agg y.c] (.bool (RQ y)):=λy hm =>
  ih y hm (by have:=QV (IC hb) hm;simpa only [AV.bulk] using this)
 obtain ⟨kind,pred,field,n,args⟩:=x
 by_cases h1:kind=1
 ·subst h1;exact AUL pred field n args hl hfs hp hev
 by_cases h2:kind=2
 ·subst h2;exact AUK pred field n args hl hfs hp hev
 by_cases h3:kind=3
 ·subst h3;exact AUJ pred field n args hl hfs hp hev
 by_cases h4:kind=4
 ·subst h4;exact AUI pred field n args hl hfs hp hev
 by_cases h5:kind=5
 ·subst h5;exact AUH pred field n args hl hfs hp hev
 exact AUM kind h1 h2 h3 h4 h5 pred field n args
def AGw{H:FN}(x:Ep)(hb:FP x.c<=1073741824)(o:Nat)(ho:H[o]? =some (some x.c)):GI AA 69 [.ptr o 0] H (.bool (RQ x)):=by
 refine FT.drop rfl ?_
 refine aC AVs rfl ?_
 simp only [f69,go_sem,ho]
 repeat' (first|(refine pK (Uz _ hb) ?_;simp only [go_sem,ho])|(first|apply cS|apply gS)<;>intro hc<;>simp only [go_sem,hc,ho])
def W1(x:Ep)(hb:FP x.c<=1073741824):FO AA 36 [.agg x.c] (.int .i64 (UW x)):=by
 refine pC AXD rfl ?_
 simp only [f36,go_sem]
 repeat' (first|((first|refine pK (ZO _) ?_|refine aS (ADd (kK x) 69 [.ptr 0 0] (RQ x) (AGw x hb 0 rfl)) ?_);simp only [go_sem])|(first|apply cS|apply gS)<;>intro hc<;>simp only [go_sem,hc])
 all_goals rfl
@[go_sem] def ASf(o:Option Nat)(x:Eo):AV.sl o [AV.agg (x.cf none)]=AV.sl o (GE [x]):=by rw [HZ];rfl
@[go_sem] def ASe(o:Option Nat)(x y:Eo):AV.sl o [AV.agg (x.cf none),AV.agg (y.cf none)]=AV.sl o (GE [x,y]):=by rw [HZ];rfl
@[go_sem] def AFl(o:Option Nat)(x:Ep):AV.sl o [AV.agg (x.cf none none)]=AV.sl o (Fz [x]):=by rw [Gc];rfl
@[go_sem] def AFk(o:Option Nat)(x y:Ep):AV.sl o [AV.agg (x.cf none none),AV.agg (y.cf none none)]=AV.sl o (Fz [x,y]):=by rw [Gc];rfl
@[go_sem] def AHD(o:Option Nat)(x:Es):AV.sl o [AV.agg (x.cf none none none)]=AV.sl o (F7 [x]):=rfl
def Yw(n:Int):Eo:=⟨3,F9,n,0,[]⟩
def Jg:Eo:=⟨2,⟨#[]⟩,0,0,[]⟩
def po(x y:Eo):Eo:=⟨8,⟨#[]⟩,0,0,[x,y]⟩
def aO(x:Eo):Eo:=⟨6,⟨#[]⟩,0,0,[x]⟩
def Hz(x:Eo):Ep:=⟨1,x,⟨#[]⟩,0,[]⟩
def XP(s:ByteArray)(n:Int):Ep:=⟨2,Pred.z,s,n,[]⟩
def Ki(x y:Ep):Ep:=⟨3,Pred.z,⟨#[]⟩,0,[x,y]⟩
def Tu(x y:Ep):Ep:=⟨4,Pred.z,⟨#[]⟩,0,[x,y]⟩
def Rf(x:Ep):Ep:=⟨5,Pred.z,⟨#[]⟩,0,[x]⟩
def LE{α:Type}(z:α)(two:α->α->α):List α->α
 | []=>z
 | x::l=>l.foldl two x
def Pc(l:List Eo):Eo:=LE Jg po l
def Oz(t:Et):Eo:=Pc (t.wires.map λw=>Yw w.src)
def O0(w:Wire):Ep:=Tu (Hz (Yw w.src)) (XP F9 w.dst)
def MU(t:Et):Ep:=LE (Hz Jg) Ki (t.wires.map O0)
def HD(t:Et)(p:Ep):Ep :=
 if t.wires=[] then p else Tu (Tu p (Rf (Tu (MU t) p))) (Hz (aO (Oz t)))
def AUQ(n:Int):FO AA 117 [.int .i64 n] (.agg (Yw n).c):=by
 refine pB APn rfl ?_
 simp only [f117,go_sem]
 rfl
def AT3(n:Int):FO AA 317 [.int .i64 n] (.agg (Yw n).c):=by
 refine pB AIQ rfl ?_
 simp only [f317,go_sem]
 rfl
def U0(x:Eo):FO AA 65 [.agg x.c] (.agg (Hz x).c):=by
 refine pB AV6 rfl ?_
 simp only [f65,go_sem]
 rfl
def Us(x:Eo):FO AA 279 [.agg x.c] (.agg (Hz x).c):=by
 refine pB AJG rfl ?_
 simp only [f279,go_sem]
 rfl
def ou(x y:Ep):FO AA 63 [.agg x.c,.agg y.c] (.agg (Tu x y).c):=by
 refine pB AWF rfl ?_
 simp only [f63,go_sem]
 rfl
def AFb(x y:Ep):FO AA 277 [.agg x.c,.agg y.c] (.agg (Tu x y).c):=by
 refine pB AJP rfl ?_
 simp only [f277,go_sem]
 rfl
def ADV(x y:Ep):FO AA 319 [.agg x.c,.agg y.c] (.agg (Ki x y).c):=by
 refine pB AIK rfl ?_
 simp only [f319,go_sem]
 rfl
def AGo(x:Ep):FO AA 276 [.agg x.c] (.agg (Rf x).c):=by
 refine pB AJS rfl ?_
 simp only [f276,go_sem]
 rfl
def AT4(s:ByteArray)(n:Int):FO AA 318 [.str s,.int .i64 n] (.agg (XP s n).c):=by
 refine pB AIN rfl ?_
 simp only [f318,go_sem]
 rfl
def qm(x y:Eo):FO AA 193 [.agg x.c,.agg y.c] (.agg (po x y).c):=by
 refine pB AMK rfl ?_
 simp only [f193,go_sem]
 rfl
def y5(x y:Ep):FO AA 119 [.agg x.c,.agg y.c] (.agg (Ki x y).c):=by
 refine pB APe rfl ?_
 simp only [f119,go_sem]
 rfl
def ke(l:List Eo)(hl:l.length<=1073741824)(z:Eo):FO AA 192 [.sl none (GE l),.agg z.c,.fn (.func 193) [] []] (.agg (LE z po l).c):=by
 refine pB AMP rfl ?_
 simp only [f192,go_sem]
 cases l with
 | nil =>
  have g0:(((0:Nat):Int)==0)=true:=rfl
  simp only [go_sem,g0]
  rfl
 | cons x r =>
  have g0:(((r.length+1:Nat):Int)==0)=false:=by simp;omega
  have g1:(1:Int)<=((r.length+1:Nat):Int):=FM
  have g2:(0:Int)<((r.length+1:Nat):Int):=FM
  have hx:(x::r)[0]? =some x:=rfl
  have hd:List.drop 1 (x::r)=r:=rfl
  simp only [go_sem,g0,g1,g2,Fk hx,EF,hd,Ae,BO]
  repeat' (first|(first|apply cS|apply gS)<;>intro hc<;>simp only [go_sem,hc,g0,g1,g2,Fk hx,hd])
  refine Fo r (λo l=>l.foldl po o) (λ_ _=>True) (λk o=>[(2,.fn (.func 193) [] []),(6,.ptr 1 0),(7,.ptr 2 0),(18,.sl none (GE r)),(19,.int .i64 r.length),(20,.int .i64 k)]) (λk o=>[some z.c,some (Pred.z.cf (some 5)),some o.c]) x (by simp at hl;omega) trivial rfl rfl ?_ ?_
  ·intro k o y ys hd hx _ hF h0 h1 hw
   simp only [go_sem,h0,h1,Fk hx]
   repeat' (first|(refine aP (qm _ _) ?_;simp only [go_sem,h0,h1,hw,Fk hx])|(first|apply cS|apply gS)<;>intro hc<;>simp only [go_sem,hc,h0,h1,hw,Fk hx])
   exact ⟨_,by rw [CF],rfl,rfl⟩
  ·intro o _ hF
   simp only [go_sem,AY,dF]
   rw [LE,hF];rfl
def ZP(l:List Ep)(hl:l.length<=1073741824)(z:Ep):FO AA 118 [.sl none (Fz l),.agg z.c,.fn (.func 119) [] []] (.agg (LE z Ki l).c):=by
 refine pB APj rfl ?_
 simp only [f118,go_sem]
 cases l with
 | nil =>
  have g0:(((0:Nat):Int)==0)=true:=rfl
  simp only [go_sem,g0]
  rfl
 | cons x r =>
  have g0:(((r.length+1:Nat):Int)==0)=false:=by simp;omega
  have g1:(1:Int)<=((r.length+1:Nat):Int):=FM
  have g2:(0:Int)<((r.length+1:Nat):Int):=FM
  have hx:(x::r)[0]? =some x:=rfl
  have hd:List.drop 1 (x::r)=r:=rfl
  simp only [go_sem,g0,g1,g2,Fa hx,EF,hd,Ae,BO]
  repeat' (first|(first|apply cS|apply gS)<;>intro hc<;>simp only [go_sem,hc,g0,g1,g2,Fa hx,hd])
  refine Fo r (λo l=>l.foldl Ki o) (λ_ _=>True) (λk o=>[(2,.fn (.func 119) [] []),(6,.ptr 1 0),(7,.ptr 2 0),(18,.sl none (Fz r)),(19,.int .i64 r.length),(20,.int .i64 k)]) (λk o=>[some z.c,some (Policy.z.cf (some 5) (some 9)),some o.c]) x (by simp at hl;omega) trivial rfl rfl ?_ ?_
  ·intro k o y ys hd hx _ hF h0 h1 hw
   simp only [go_sem,h0,h1,Fa hx]
   repeat' (first|(refine aP (y5 _ _) ?_;simp only [go_sem,h0,h1,hw,Fa hx])|(first|apply cS|apply gS)<;>intro hc<;>simp only [go_sem,hc,h0,h1,hw,Fa hx])
   exact ⟨_,by rw [CF],rfl,rfl⟩
  ·intro o _ hF
   simp only [go_sem,AY,dF]
   rw [LE,hF];rfl
def yW(l:List Eo)(hl:l.length<=1073741824):FO AA 320 [.sl none (GE l)] (.agg (Pc l).c):=by
 refine pB AIH rfl ?_
 simp only [f320,go_sem]
 cases l with
 | nil =>
  have g0:(((0:Nat):Int)==0)=true:=rfl
  simp only [go_sem,g0]
  rfl
 | cons x r =>
  have g0:(((r.length+1:Nat):Int)==0)=false:=by simp;omega
  have g2:(0:Int)<((r.length+1:Nat):Int):=FM
  have hx:(x::r)[0]? =some x:=rfl
  simp only [go_sem,g0,g2,Fk hx]
  repeat' (first|(first|apply cS|apply gS)<;>intro hc<;>simp only [go_sem,hc,g0,g2,Fk hx])
  refine Fo r (λ(o:Eo×Option Nat) l=>l.foldl po o.1) (λ_ _=>True) (λk o=>[(0,.sl none (GE (x::r))),(2,.ptr 0 0),(3,.ptr 1 0),(4,.int .i64 ((k+1:Nat):Int))]) (λk o=>[some (Pred.z.cf (some 5)),some (o.1.cf o.2)]) (x,none) (by simp at hl;omega) trivial rfl rfl ?_ ?_
  ·intro k o y ys hd hy _ hF h0 h1 hw
   have hy2:(x::r)[k+1]? =some y:=by simpa using hy
   have h2:(((k+1:Nat):Int)<((r.length+1:Nat):Int)):=FM
   have h3:(0:Int)<=((k+1:Nat):Int):=FM
   have hw2:=Mc (k:=k+1) (by simp at hl;omega)
   simp only [go_sem,h2,h3,dT,Fk hy2,Ae,hw2]
   exact ⟨(po o.1 y,some 5),by rw [CF],rfl,rfl⟩
  ·intro o _ hF
   simp only [go_sem,AY,dF]
   rw [Pc,LE,hF];rfl
def yv(l:List Int)(hl:l.length<=1073741824):FO AA 120 [.sl none (GH l)] (.agg (Pc (l.map Yw)).c):=by
 refine pB APb rfl ?_
 simp only [f120,go_sem]
 refine Fo l (λo r=>o++r.map Yw) (λk o=>o.length=k) (λk o=>[(2,.ptr 0 0),(3,.sl (some 5) (GE o)),(6,.sl none (GH l)),(7,.int .i64 l.length),(8,.int .i64 k)]) (λk o=>[some (Pred.z.cf (some 5))]) [] FM rfl rfl rfl ?_ ?_
 ·intro k o y ys hd hy hI hF h0 h1 hw
  have hk2:=Fl hd
  simp only [go_sem,h0,h1,GF hy]
  repeat' (first|(refine pK (AUQ _) ?_;simp only [go_sem,h0,h1,hw,GF hy])|(first|apply cS|apply gS)<;>intro hc<;>simp only [go_sem,hc,h0,h1,hw,GF hy])
  exact ⟨FM,FM,o++[Yw y],sm,by simp [hI],rfl,rfl⟩
 ·intro o hI hF
  have hF:o=l.map Yw:=by simpa using hF.symm
  simp only [go_sem,AY,dF]
  repeat' (first|(refine pK (FO.lend (ke o FM Jg)) ?_;simp only [go_sem])|(first|apply cS|apply gS)<;>intro hc<;>simp only [go_sem,hc])
  rw [hF];rfl
def ADT(t:Et)(hl:t.wires.length<=1073741824):FO AA 280 [.agg t.c] (.agg (Oz t).c):=by
 refine pB AJD rfl ?_
 simp only [f280,go_sem]
 refine Fo t.wires (λo r=>o++r.map λw=>Yw w.src) (λk o=>o.length=k) (λk o=>[(1,.ptr 0 0),(2,.ptr 1 0),(3,.sl (some 5) (GE o)),(4,.int .i64 k)]) (λk o=>[some t.c,some (Pred.z.cf (some 5))]) [] FM rfl rfl rfl ?_ ?_
 ·intro k o y ys hd hy hI hF h0 h1 hw
  have hk2:=Fl hd
  simp only [go_sem,h0,h1,hw,Gn hy]
  repeat' (first|(refine pK (AT3 _) ?_;simp only [go_sem,h0,h1,hw,Gn hy])|(first|apply cS|apply gS)<;>intro hc<;>simp only [go_sem,hc,h0,h1,hw,Gn hy])
  exact ⟨FM,FM,o++[Yw y.src],sm,by simp [hI],rfl,rfl⟩
 ·intro o hI hF
  have hF:o=t.wires.map λw=>Yw w.src:=by simpa using hF.symm
  simp only [go_sem,AY,dF]
  repeat' (first|(refine pK (FO.lend (yW o FM)) ?_;simp only [go_sem])|(first|apply cS|apply gS)<;>intro hc<;>simp only [go_sem,hc])
  rw [hF];rfl
def ADg(t:Et)(hl:t.wires.length<=1073741824):FO AA 66 [.agg t.c] (.agg (Oz t).c):=by
 refine pB AV2 rfl ?_
 simp only [f66,go_sem]
 refine Fo t.wires (λo r=>o++r.map (·.src)) (λk o=>o.length=k) (λk o=>[(2,.ptr 1 0),(3,.sl (some 1) (GH o)),(7,.sl none (L9 t.wires)),(8,.int .i64 t.wires.length),(9,.int .i64 k)]) (λk o=>[some t.c,some (Pred.z.cf (some 5))]) [] FM rfl rfl rfl ?_ ?_
 ·intro k o y ys hd hy hI hF h0 h1 hw
  have hk2:=Fl hd
  simp only [go_sem,h0,h1,hw,Gn hy]
  repeat' (first|(first|apply cS|apply gS)<;>intro hc<;>simp only [go_sem,hc,h0,h1,hw,Gn hy])
  exact ⟨FM,FM,o++[y.src],sm,by simp [hI],rfl,rfl⟩
 ·intro o hI hF
  have hF:o=t.wires.map (·.src):=by simpa using hF.symm
  simp only [go_sem,AY,dF]
  repeat' (first|(refine pK (FO.lend (yv o FM)) ?_;simp only [go_sem])|(first|apply cS|apply gS)<;>intro hc<;>simp only [go_sem,hc])
  rw [hF,By];rfl
def lu{α:Type}{z:α}{two:α->α->α}(x:α): ∀ {l:List α},l≠[]->LE z two (l++[x])=two (LE z two l) x
 | [],h=>absurd rfl h
 | y::l,_=>by simp [LE]
def ADS(t:Et)(hl:t.wires.length<=1073741824):FO AA 278 [.agg t.c] (.agg (MU t).c):=by
 refine pB AJL rfl ?_
 simp only [f278,go_sem]
 repeat' (first|(refine pK (FO.lend (Us Jg)) ?_;simp only [go_sem])|(first|apply cS|apply gS)<;>intro hc<;>simp only [go_sem,hc])
 refine Fo t.wires (λ(_:Ep) (_:List Wire)=>()) (λk o=>o=LE (Hz Jg) Ki ((t.wires.take k).map O0)) (λk o=>[(1,.ptr 0 0),(2,.ptr 1 0),(3,.ptr 2 0),(4,.int .i64 k)]) (λk o=>[some t.c,some (Policy.z.cf (some 5) (some 9)),some o.c]) (Hz Jg) FM rfl rfl rfl ?_ ?_
 ·intro k o y ys hd hy hI hF h0 h1 hw
  have hk2:=Fl hd
  have ht:t.wires.take (k+1)=t.wires.take k++[y]:=by rw [BF,hy];rfl
  simp only [go_sem,h0,h1,hw,Gn hy]
  repeat' (first|((first|refine pK (AT3 _) ?_|refine pK (Us _) ?_|refine pK (AT4 _ _) ?_|refine pK (AFb _ _) ?_);simp only [go_sem,h0,h1,hw,Gn hy])|(first|apply cS|apply gS)<;>intro hc<;>simp only [go_sem,hc,h0,h1,hw,Gn hy])
  ·have hk:k=0:=by simp at hc;omega
   subst hk
   refine ⟨O0 y, ?_,rfl,rfl⟩
   rw [ht];rfl
  ·have hk:k≠0:=by simp at hc;omega
   refine WY.intro (ADV _ _) ?_
   simp only [go_sem,hw]
   refine ⟨Ki o (O0 y), ?_,rfl,rfl⟩
   rw [ht,List.map_append,hI]
   exact (lu _ (by simp;constructor;omega;intro h;rw [h] at hk2;simp at hk2)).symm
 ·intro o hI hF
  simp only [go_sem,AY,dF]
  rw [MU,hI,BO]
def ADf(t:Et)(hl:t.wires.length<=1073741824):FO AA 64 [.agg t.c] (.agg (MU t).c):=by
 refine pB AWB rfl ?_
 simp only [f64,go_sem]
 refine Fo t.wires (λo r=>o++r.map O0) (λk o=>o.length=k) (λk o=>[(2,.ptr 1 0),(3,.sl (some 9) (Fz o)),(7,.sl none (L9 t.wires)),(8,.int .i64 t.wires.length),(9,.int .i64 k)]) (λk o=>[some t.c,some (Policy.z.cf (some 5) (some 9))]) [] FM rfl rfl rfl ?_ ?_
 ·intro k o y ys hd hy hI hF h0 h1 hw
  have hk2:=Fl hd
  simp only [go_sem,h0,h1,hw,Gn hy]
  repeat' (first|((first|refine pK (AUQ _) ?_|refine pK (U0 _) ?_|refine pK (FO.lend (ou (Hz (Yw y.src)) (XP F9 y.dst))) ?_);simp only [go_sem,h0,h1,hw,Gn hy])|(first|apply cS|apply gS)<;>intro hc<;>simp only [go_sem,hc,h0,h1,hw,Gn hy])
  exact ⟨FM,FM,o++[O0 y],sm,by simp [hI],rfl,rfl⟩
 ·intro o hI hF
  have hF:o=t.wires.map O0:=by simpa using hF.symm
  simp only [go_sem,AY,dF]
  repeat' (first|((first|refine pK (FO.lend (U0 Jg)) ?_|refine pK (FO.lend (ZP o FM (Hz Jg))) ?_);simp only [go_sem])|(first|apply cS|apply gS)<;>intro hc<;>simp only [go_sem,hc])
  rw [hF];rfl
def RH{α:Type}{l:List α}:((l.length:Int)==0)=true↔l=[]:=by
 cases l<;>simp;omega
def yY(t:Et)(hl:t.wires.length<=1073741824)(p:Ep):FO AA 223 [.agg t.c,.agg p.c] (.agg (HD t p).c):=by
 refine pB AKn rfl ?_
 simp only [f223,go_sem]
 repeat' (first|((first|refine pK (ADS t hl) ?_|refine pK (ADT t hl) ?_|refine pK (AFb _ _) ?_|refine pK (AGo _) ?_|refine pK (FO.lend (Us (aO (Oz t)))) ?_);simp only [go_sem])|(first|apply cS|apply gS)<;>intro hc<;>simp only [go_sem,hc])
 ·rw [HD,iP (RH.1 hc)]
 ·rw [HD,iN (λh=>by rw [RH.2 h] at hc;cases hc)]
def zF(t:Et)(hl:t.wires.length<=1073741824)(p:Ep):FO AA 35 [.agg t.c,.agg p.c] (.agg (HD t p).c):=by
 refine pB AXG rfl ?_
 simp only [f35,go_sem]
 repeat' (first|((first|refine pK (ADf t hl) ?_|refine pK (ADg t hl) ?_|refine pK (FO.lend (ou (Tu p (Rf (Tu (MU t) p))) (Hz (aO (Oz t))))) ?_|refine pK (FO.lend (ou p (Rf (Tu (MU t) p)))) ?_|refine pK (ou (MU t) p) ?_|refine pK (FO.lend (U0 (aO (Oz t)))) ?_);simp only [go_sem])|(first|apply cS|apply gS)<;>intro hc<;>simp only [go_sem,hc])
 ·rw [HD,iP (RH.1 hc)]
 ·rw [HD,iN (λh=>by rw [RH.2 h] at hc;cases hc)]
def HS(t:Et):List Es->List Es->List Es×Int
 | o,[]=>(o,0)
 | o,x::r=>if UW (HD t x.policy)=2 then ([],2) else HS t (o++[{ x with policy:=HD t x.policy }]) r
def GP(t:Et):List Es×Int:=HS t [] t.program
def ADh(t:Et)(hl:t.wires.length<=1073741824)(hp:t.program.length<=1073741824)(hb : ∀ x∈t.program,FP (HD t x.policy).c<=1073741824):
  FO AA 10 [.agg t.c] (.tup [.sl none (F7 (GP t).1),.int .i64 (GP t).2]):=by
 refine pB AX0 rfl ?_
 simp only [f10,go_sem]
 refine Fo t.program (λo r=>HS t o r) (λk o=>o.length=k) (λk o=>[(1,.ptr 0 0),(4,.sl (some 15) (F7 o)),(8,.sl none (F7 t.program)),(9,.int .i64 t.program.length),(10,.int .i64 k)]) (λk o=>[some t.c]) [] FM rfl rfl rfl ?_ ?_
 ·intro k o y ys hd hy hI hF h0 h1 hw
  have hk2:=Fl hd
  simp only [go_sem,h0,h1,hw,Fe hy]
  repeat' (first|((first|refine pK (zF t hl _) ?_|refine pK (W1 _ (hb y (AB hy))) ?_);simp only [go_sem,h0,h1,hw,Fe hy])|(first|apply cS|apply gS)<;>intro hc<;>simp only [go_sem,hc,h0,h1,hw,Fe hy])
  ·have h2:HS t [] t.program=([],2):=by rw [hF,HS,iP (by simpa using hc)]
   rw [GP,h2];rfl
  ·refine ⟨FM,FM,o++[{ y with policy:=HD t y.policy }], ?_,by simp [hI],rfl,rfl⟩
   rw [HS,iN (by simpa using hc)]
 ·intro o hI hF
  simp only [go_sem,AY,dF]
  rw [GP,hF];rfl
def Aan(x y:Eo):FP (GE [x,y])=FP x.c+FP y.c:=by rw [HZ];simp [FP,AV.bulk]
def Aao(x:Eo):FP (GE [x])=FP x.c:=by rw [HZ];simp [FP,AV.bulk]
def ABo:FP (GE [])=0:=by rw [HZ];rfl
def AF5(x y:Ep):FP (Fz [x,y])=FP x.c+FP y.c:=by rw [Gc];simp [FP,AV.bulk]
def Aaq(x:Ep):FP (Fz [x])=FP x.c:=by rw [Gc];simp [FP,AV.bulk]
def AF6:FP (Fz [])=0:=by rw [Gc];rfl
def AF7(n:Int):FP (Yw n).c=9:=by rw [Kh];simp only [Yw,ABo];rfl
def gq:FP Jg.c=5:=by rw [Kh];simp only [Jg,ABo];rfl
def Aap(x y:Eo):FP (po x y).c=5+FP x.c+FP y.c:=by rw [Kh];simp only [po,Aan];show 0+5+_=_;omega
def ARv(x:Eo):FP (aO x).c=5+FP x.c:=by rw [Kh];simp only [aO,Aao];show 0+5+_=_;omega
def pm:FP Pred.z.c=5:=by rw [Kh];show _+5+FP (GE [])=5;rw [ABo];rfl
def Sm(x:Eo):FP (Hz x).c=FP x.c+4:=by rw [Iq];simp only [Hz,AF6];show _+0+4+0=_;omega
def ARu(n:Int):FP (XP F9 n).c=13:=by rw [Iq];simp only [XP,AF6,pm];rfl
def ABn(x y:Ep):FP (Ki x y).c=9+FP x.c+FP y.c:=by rw [Iq];simp only [Ki,AF5,pm];show 5+0+4+_=_;omega
def aM(x y:Ep):FP (Tu x y).c=9+FP x.c+FP y.c:=by rw [Iq];simp only [Tu,AF5,pm];show 5+0+4+_=_;omega
def AEu(x:Ep):FP (Rf x).c=9+FP x.c:=by rw [Iq];simp only [Rf,Aaq,pm];show 5+0+4+_=_;omega
def ABp : ∀ (l:List Eo) (x:Eo) (B:Nat),(∀ y∈l,FP y.c<=B)->FP (l.foldl po x).c<=FP x.c+l.length*(B+5)
 | [],x,B,_=>sm
 | y::l,x,B,h=>by
  rw [CF]
  have h1:=ABp l (po x y) B λz hz=>h z (by simp [hz])
  have h2:=h y sm
  rw [Aap] at h1
  rw [AC,DR]
  omega
def Yt : ∀ (l:List Ep) (x:Ep) (B:Nat),(∀ y∈l,FP y.c<=B)->FP (l.foldl Ki x).c<=FP x.c+l.length*(B+9)
 | [],x,B,_=>sm
 | y::l,x,B,h=>by
  rw [CF]
  have h1:=Yt l (Ki x y) B λz hz=>h z (by simp [hz])
  have h2:=h y sm
  rw [ABn] at h1
  rw [AC,DR]
  omega
def wU(l:List Eo)(h : ∀ y∈l,FP y.c<=9):FP (Pc l).c<=9+l.length*14:=by
 unfold Pc
 cases l with
 | nil=>rw [LE,gq];omega
 | cons x l =>
  have h1:=ABp l x 9 λy hy=>h y (by simp [hy])
  have h2:=h x sm
  rw [LE,AC]
  omega
def ABm(t:Et):FP (Oz t).c<=9+t.wires.length*14:=by
 have:=wU (t.wires.map λw=>Yw w.src) (λy hy=>by obtain ⟨w,_,rfl⟩:=AO.1 hy;rw [AF7];omega)
 rwa [Aq] at this
def ABl(t:Et):FP (MU t).c<=35+t.wires.length*44:=by
 unfold MU
 have hw : ∀ y∈t.wires.map O0,FP y.c<=35:=λy hy=>by
  obtain ⟨w,_,rfl⟩:=AO.1 hy
  rw [O0,aM,Sm,AF7,ARu];omega
 have hl:(t.wires.map O0).length=t.wires.length:=Aq _
 rw [<- hl]
 generalize t.wires.map O0=l at hw
 cases l with
 | nil=>rw [LE,Sm,gq];omega
 | cons x l =>
  have h1:=Yt l x 35 λy hy=>hw y (by simp [hy])
  have h2:=hw x sm
  rw [LE,AC]
  omega
def Yu{t:Et}{p:Ep}(hp:FP p.c<=1048576)(hw:t.wires.length<=1048576):FP (HD t p).c<=1073741824:=by
 unfold HD
 split
 ·omega
 ·have h1:=ABm t
  have h2:=ABl t
  rw [aM,aM,AEu,aM,Sm,ARv]
  omega
def AA9 : ∀ x:Eo,pT x x=true:=by
 refine JP _ λx ih=>?_
 rw [Im]
 have : ∀ l:List Eo,(∀ y∈l,pT y y=true)->Tp l l=true:=by
  intro l
  induction l with
  | nil=>intro _;rw [Lr]
  | cons y l ihl=>intro h;rw [Iz,h y sm,ihl λz hz=>h z (by simp [hz])];rfl
 rw [this x.args ih];simp
def ADU(t:Et)(hl:t.wires.length<=1073741824)(hp:t.program.length<=1073741824)(hb : ∀ x∈t.program,FP (HD t x.policy).c<=1073741824):
  FO AA 163 [.agg t.c] (.tup [.sl none (F7 (GP t).1),.int .i64 (GP t).2]):=by
 refine pB ANS rfl ?_
 simp only [f163,go_sem]
 refine Fo t.program (λo r=>HS t o r) (λk o=>o.length=k) (λk o=>[(1,.ptr 0 0),(4,.sl (some 15) (F7 o)),(5,.int .i64 k)]) (λk o=>[some t.c]) [] FM rfl rfl rfl ?_ ?_
 ·intro k o y ys hd hy hI hF h0 h1 hw
  have hk2:=Fl hd
  simp only [go_sem,h0,h1,hw,Fe hy]
  repeat' (first|((first|refine pK (yY t hl _) ?_|refine pK (ABY _ (hb y (AB hy))) ?_);simp only [go_sem,h0,h1,hw,Fe hy])|(first|apply cS|apply gS)<;>intro hc<;>simp only [go_sem,hc,h0,h1,hw,Fe hy])
  ·have h2:HS t [] t.program=([],2):=by rw [hF,HS,iP (by simpa using hc)]
   rw [GP,h2];rfl
  ·refine ⟨FM,FM,o++[{ y with policy:=HD t y.policy }], ?_,by simp [hI],rfl,rfl⟩
   rw [HS,iN (by simpa using hc)]
 ·intro o hI hF
  simp only [go_sem,AY,dF]
  rw [GP,hF];rfl
section
variable {P:Program} {K:Kt} {e:Fp} {H:FN} {d:Tmp} {t kt et:TypeId} {o:Nat} {α:Type}
def zh (f:α->AV) (l:List α) (k:AV) (hu:P.underlying t=some (.map kt et)) (hz:Fg P et=some (.bool false)) (hm:H[o]? =some (some (Jx (LL f l)))) (hk:MN P kt (k::l.map f)) (hd:RW f l)
  (h:K ((d,.bool (l.any λx=>Hm (f x) k))::e) H):AG7 P t false (.mapr o) k d K e H:=by
 unfold AG7
 rw [hu]
 dsimp only
 rw [dp hm]
 dsimp only
 refine ⟨by rw [cK];exact hk,Vw f hd,_,hz, ?_⟩
 rw [AG8];exact h
end
@[go_sem] def Aal(o n:Nat):(AV.mapr o).bnd n=decide (o<n):=rfl
end Go.AI
namespace Go.AI
open Go.Proofs
set_option maxRecDepth 50000
def kl {H:FN} (l:List Fld) (hl:l.length<=9223372036854775807) (g:FuncId) (fi ca:List AV) (p:Fld->Bool)
  (h : ∀ x∈l,GI AA g (fi.map AV.borrow++(.agg x.c::ca.map AV.borrow)) H (.bool (p x))) :
  GI AA 182 [.sl none (GL l),.fn (.func g) fi ca] H (.int .i64 (H9 p l)):=by
 unfold GI
 refine aC AMT rfl ?_
 simp only [f182,go_sem]
 refine FZ l (λr=>HF p (l.length - r.length) r) (λk=>[(0,.sl none (GL l)),(1,.fn (.func g) fi ca),(7,.int .i64 l.length),(8,.int .i64 k)]) hl rfl ?_ ?_
 ·intro k x xs hd hx hF h0 h1 hw
  have hk2:=Fl hd
  have e1:l.length - (xs.length+1)=k:=FM
  have e2:l.length - xs.length=k+1:=FM
  simp only [AC,e1,AQ] at hF
  simp only [go_sem,h0,h1,Gd hx,e1,e2]
  repeat' (first|(refine aS (h x (AB hx)) ?_;simp only [go_sem,h0,h1,hw,Gd hx,e1,e2])|(first|apply cS|apply gS)<;>intro hc<;>simp only [go_sem,hc,h0,h1,hw,Gd hx,e1,e2])
  ·rw [H9,hF,HF,iP hc]
  ·rw [HF,iN (by rw [hc];decide)]
 ·intro hF hlt
  simp only [go_sem,hlt,dF]
  rw [AQ] at hF
  rw [H9,hF];rfl
@[go_sem] def ATT(o:Nat):(AV.it o).borrow = .it o:=rfl
@[go_sem] def AT5(H:FN)(x y:Option (List AV)):(H++[x]).set H.length y=H++[y]:=sm
def Iv(Pre:Nat->FN->Prop)(n:Nat)(g:FN)(k:Nat)(H:FN):Prop:=∃ pre g',H=pre++(g++g')/\pre.length=n/\Pre k pre
def Iv.grow{Pre:Nat->FN->Prop}{n k:Nat}{g H:FN}(h:Iv Pre n g k H)(x:FN):Iv Pre n g k (H++x):=by
 obtain ⟨pre,g',rfl,h1,h2⟩:=h
 exact ⟨pre,g'++x,sm,h1,h2⟩
def Iv.at{Pre:Nat->FN->Prop}{n k i:Nat}{g H:FN}(h:Iv Pre n g k H){c:Option (List AV)}(hi:g[i]? =some c):H[n+i]? =some c:=by
 obtain ⟨pre,g',rfl,h1,h2⟩:=h
 have hlt:=(AD.1 hi).1
 rw [AM FM,h1,Nat.add_sub_cancel_left,AW hlt,hi]
def yo:FO AA 105 [] (.agg JT.c):=by
 have h:FO AA 105 [] (.agg JT.c):=FO.run AA7 100 rfl kr kr
 exact h
def ADm{H:FN}(f:Fld)(s:ByteArray)(o:Nat)(ho:H[o]? =some (some [.str s])):GI AA 201 [.agg f.c,.ptr o 0] H (.bool (decide (f.name=s))):=by
 refine FT.drop rfl ?_
 refine aC ALq rfl ?_
 have ho' : ∀ z,(H++z)[o]? =some (some [.str s]):=λz=>by
  have:=(AD.1 ho).1
  rw [AW this];exact ho
 simp only [f201,go_sem,ho',FL]
def ef{α:Type}(p:α->Bool): ∀ (l:List α) (i:Nat),match l.find? p with
  | some x => ∃ k,HF p i l=(i+k:Nat)/\l[k]? =some x
  | none=>HF p i l = -1
 | [],i=>rfl
 | y::l,i=>by
  rw [B0,HF]
  cases h:p y with
  | true=>exact ⟨0,sm,rfl⟩
  | false =>
   have:=ef p l (i+1)
   cases hf:l.find? p with
   | none=>rw [hf] at this;simpa using this
   | some x =>
    rw [hf] at this
    obtain ⟨k,h1,h2⟩:=this
    exact ⟨k+1,by simp only [Bool.false_eq_true,if_false];rw [h1];congr 1;omega,by simpa using h2⟩
def QL(l:List Fld)(hl:l.length<=9223372036854775807)(s:ByteArray):FO AA 131 [.sl none (GL l),.str s] (.tup [.agg (FY l s).1.c,.bool (FY l s).2]):=by
 have hi:=ef (λf:Fld=>decide (f.name=s)) l 0
 have hport:(JT.name:ByteArray)=F9:=rfl
 have hidx:=kl (H:=[some [.str s],some Fld.z.c]) l hl 201 [] [.ptr 0 0] (λf=>decide (f.name=s)) (λx _=>ADm x s 0 rfl)
 refine pB AO5 rfl ?_
 cases hf:l.find? (λf:Fld=>decide (f.name=s)) with
 | none =>
  rw [hf] at hi
  have hi:H9 (λf:Fld=>decide (f.name=s)) l = -1:=hi
  rw [hi] at hidx
  simp only [f131,go_sem,FL]
  repeat' (first|((first|refine pK (yo) ?_|refine aS (hidx) ?_);simp only [go_sem,FL])|(first|apply cS|apply gS)<;>intro hc<;>simp only [go_sem,hc,FL])
  ·have h5:s=F9:=by rw [<- hport];exact of_decide_eq_true hc
   rw [FY,iP h5]
  ·have h5 : ¬ s=F9:=by rw [<- hport];exact of_decide_eq_false hc
   rw [FY,iN h5,hf]
 | some x =>
  rw [hf] at hi
  obtain ⟨k,hk,hx⟩:=hi
  have hk:H9 (λf:Fld=>decide (f.name=s)) l=((0+k:Nat):Int):=hk
  rw [hk,Nat.zero_add] at hidx
  have g1 : ¬ ((k:Int)<0):=FM
  have g2:(0:Int)<=(k:Int):=FM
  simp only [f131,go_sem,FL]
  repeat' (first|((first|refine pK (yo) ?_|refine aS (hidx) ?_);simp only [go_sem,FL,g1,g2,Gd hx,dF])|(first|apply cS|apply gS)<;>intro hc<;>simp only [go_sem,hc,FL,g1,g2,Gd hx,dF])
  ·have h5:s=F9:=by rw [<- hport];exact of_decide_eq_true hc
   rw [FY,iP h5]
  ·have h5 : ¬ s=F9:=by rw [<- hport];exact of_decide_eq_false hc
   rw [FY,iN h5,hf]
@[go_sem] def ATY{P:Program}{t:TypeId}{k k':IntKind}{x y:Int}{d:Tmp}{K:Kt}{e:Fp}{H:FN}:Ie P .shl t (.int k x) (.int k' y) d K e H=(0<=y/\K ((d,.int k (k.wrap (x*2^(min y.toNat k.bits))))::e) H):=by
 rw [HI];simp [KA]
def rO : ∀ n:Nat,n<17->IntKind.i64.wrap (IntKind.i64.wrap (1*2^(min n IntKind.i64.bits)) - 1)=i64 (Wx n - 1):=by
 decide
def o7(f:Fld)(h0:0<=f.width)(h1:f.width<=16):FO AA 202 [.agg f.c] (.int .i64 (KQ f)):=by
 have hm:=rO f.width.toNat FM
 refine pC ALn rfl ?_
 simp only [f202,go_sem,h0]
 rw [KQ,<- hm];rfl
@[go_sem] def Aa6{α:Type}(G:List α)(a b:α):(G++[a,b])[(G++[a]).length]? =some b:=by
 rw [AE,AM sm];simp
@[go_sem] def Aa8{α:Type}(G:List α)(a b:α):(G++[a,b])[G.length]? =some a:=by
 rw [AM (AU _)];simp
@[go_sem] def Aa7{α:Type}(G:List α)(a b z:α):(G++[a,b]).set (G++[a]).length z=G++[a,z]:=by
 rw [AE,List.set_append_right _ _ sm];simp
@[go_sem] def AbX:Fg AA 134=some .nilm/\AA.underlying 134=some (.map 3 4):=⟨kr,kr⟩
abbrev Jq(n:Int):AV:=.int .i64 n
def Yz{k:AV}: ∀ {es:List (AV×AV)} {i j:Nat} {v:AV},I9 k es i=some (j,v)->i<=j /\ ∃ p,es[j - i]? =some p/\Hm p.1 k=true/\p.2=v
 | [],_,_,_,h=>by cases h
 | p::es,i,j,v,h=>by
  rw [I9] at h
  by_cases hk:Hm p.1 k=true
  ·rw [iP hk] at h
   cases h
   exact ⟨AU _,p,sm,hk,rfl⟩
  ·rw [iN hk] at h
   obtain ⟨h1,q,h2,h3,h4⟩:=Yz h
   refine ⟨FM,q, ?_,h3,h4⟩
   have:j - i=(j - (i+1))+1:=FM
   rw [this];simpa using h2
def pG(z n:Int):Hm (Jq z) (Jq n)=(z==n):=by
 rw [BA];simp [Hm,NV]
def pq(l:List Int)(n:Int):(l.any λy=>Hm (Jq y) (Jq n))=l.any λz=>z==n:=by
 simp only [pG]
def xo(l:List Int)(n:Int):ML (LL Jq l) (Jq n) (.bool true)=LL Jq (if l.any (λz=>z==n) then l else l++[n]):=by
 by_cases h:(l.any λz=>z==n)=true
 ·rw [iP h]
  have h2:=Pd Jq (Jq n) l 0
  rw [pq,iP h] at h2
  unfold ML
  cases ha:I9 (Jq n) (LL Jq l) 0 with
  | none=>rw [ha] at h2;cases h2
  | some q =>
   obtain ⟨j,v⟩:=q
   obtain ⟨_,p,hp,hk,hv⟩:=Yz ha
   dsimp only
   rw [Nat.sub_zero] at hp
   have hp2:=hp
   rw [LL,Ac] at hp2
   cases hl:l[j]? with
   | none=>rw [hl] at hp2;cases hp2
   | some z =>
    rw [hl] at hp2
    cases hp2
    rw [pG] at hk
    have hz:z=n:=by simpa using hk
    subst hz
    apply A4
    intro m
    rw [A0]
    split
    ·rename_i hjm
     subst hjm
     rw [hp]
     have:=(AD.1 hp).1
     rw [iP this]
    ·rfl
 ·rw [iN h]
  exact ADJ Jq n l (by rw [pq];exact (Da _).mp h)
def qP {P:Program} {K:Kt} {e:Fp} {H:FN} {t kt et:TypeId} {o:Nat} (l:List Int) (n:Int) (hu:P.underlying t=some (.map kt et)) (hm:H[o]? =some (some (Jx (LL Jq l)))) (hk:MN P kt (Jq n::l.map Jq)) (hd:RW Jq l)
  (h:K e (H.set o (some (Jx (LL Jq (if l.any (λz=>z==n) then l else l++[n])))))):AGb P t (.mapr o) (Jq n) (.bool true) K e H:=by
 unfold AGb
 dsimp only
 rw [hu]
 dsimp only
 rw [dp hm]
 dsimp only
 refine ⟨by rw [cK];exact hk,Vw Jq hd,rfl, ?_⟩
 rw [xo];exact h
def ABE{l:List Int}(n:Int)(hd:RW Jq l):RW Jq (if l.any (λz=>z==n) then l else l++[n]):=by
 split
 ·exact hd
 ·rename_i h
  exact Vx Jq n hd (by rw [pq];exact (Da _).mp h)
structure VE where
 v:Variable
 b:Bool
def Wt(l:List Fld)(s:Stp):Variable:=⟨s.var,LQ s.kind,It l s.key,if Lk s then s.n else 0,if Lk s then s.m else 0⟩
def Nt(E:List VE)(nm:ByteArray):Option VE:=E.find? λe=>decide (e.v.name=nm)
def qJ:List VE->VE->List VE
 | [],x=>[x]
 | e::E,x=>if e.v.name=x.v.name then x::E else e::qJ E x
def kD(l:List Fld)(e:VE)(s:Stp):Bool:=e.v.family !=LQ s.kind||(!XM e.v.widths (It l s.key)||(Lk s&&(e.b&&(e.v.n !=s.n||e.v.m !=s.m))))
def S5(l:List Fld)(E:List VE)(s:Stp):Option (List VE) :=
 if s.kind=0 then some E else match Nt E s.var with
  | none=>some (qJ E ⟨Wt l s,Lk s⟩)
  | some e=>if kD l e s then none else if Lk s then some (qJ E ⟨Wt l s,true⟩) else some E
def vGo(l:List Fld):List VE->List Es->Option (List VE)
 | E,[]=>some E
 | E,x::r=>match S5 l E x.step with
  | none=>none
  | some E'=>vGo l E' r
def KH(x:VE)(nm:ByteArray): ∀ E:List VE,Nt (qJ E x) nm=if x.v.name=nm then some x else Nt E nm
 | []=>by
  unfold qJ Nt
  by_cases h:x.v.name=nm<;>simp [h]
 | e::E=>by
  have ih:=KH x nm E
  unfold qJ
  by_cases h:e.v.name=x.v.name
  ·rw [iP h]
   unfold Nt
   by_cases h2:x.v.name=nm
   ·simp [h2]
   ·simp [h2,h]
  ·rw [iN h]
   unfold Nt at ih ⊢
   rw [B0,B0]
   by_cases h2:e.v.name=nm
   ·have : ¬ x.v.name=nm:=λh3=>h (h2.trans h3.symm)
    simp [h2,this]
   ·simp only [h2,dF]
    exact ih
structure VInv (l:List Fld) (E:List VE) (p:List Es):Prop where
 src : ∀ nm e,Nt E nm=some e -> ∃ x∈p,x.step.kind≠0/\x.step.var=nm
 fits : ∀ x∈p,x.step.kind≠0 -> ∃ e,Nt E x.step.var=some e/\e.v.family=LQ x.step.kind/\e.v.widths=It l x.step.key/\(Lk x.step=true->e.b=true/\e.v.n=x.step.n/\e.v.m=x.step.m)
 num : ∀ nm e,Nt E nm=some e->e.b=true -> ∃ x∈p,x.step.kind≠0/\x.step.var=nm/\Lk x.step=true
def VInv.nil(l:List Fld):VInv l [] []:=⟨λ_ _ h=>(by cases h),λ_ h=>(by cases h),λ_ _ h=>(by cases h)⟩
def xn{l:List Fld}{E:List VE}{p:List Es}(h:VInv l E p){s:Stp}(hk:s.kind≠0):
  p.any (λy=>LG l y.step s)=match Nt E s.var with|none=>false|some e=>kD l e s:=by
 cases hf:Nt E s.var with
 | none =>
  dsimp only
  rw [Bk]
  intro y hy hc
  unfold LG at hc
  simp only [AR,bne_iff_ne,ne_eq,decide_eq_true_eq] at hc
  obtain ⟨e,he,_⟩:=h.fits y hy hc.1.1
  rw [hc.2.1,hf] at he
  cases he
 | some e =>
  dsimp only
  rw [BA,CZ]
  constructor
  ·rintro ⟨y,hy,hc⟩
   unfold LG Tv at hc
   simp only [AR,bne_iff_ne,ne_eq,decide_eq_true_eq] at hc
   obtain ⟨⟨k1,k2⟩,hv,ha⟩:=hc
   obtain ⟨e',he,h1,h2,h3⟩:=h.fits y hy k1
   rw [hv,hf] at he
   cases he
   have ha':(Lk y.step=true/\Lk s=true/\(y.step.n≠s.n\/y.step.m≠s.m))\/XM (It l y.step.key) (It l s.key)=false\/LQ y.step.kind≠LQ s.kind:=by
    generalize XM (It l y.step.key) (It l s.key)=B at ha ⊢
    generalize LQ y.step.kind=f1 at ha ⊢
    generalize LQ s.kind=f2 at ha ⊢
    generalize Lk y.step=c1 at ha ⊢
    generalize Lk s=c2 at ha ⊢
    cases B<;>cases c1<;>cases c2<;>simp at ha ⊢
    all_goals first|exact ha|(rcases ha with ha|ha<;>grind)|grind
   unfold kD
   rw [h1,h2]
   rcases ha' with ⟨a1,a2,a3⟩|a|a
   ·obtain ⟨g1,g2,g3⟩:=h3 a1
    rw [g1,g2,g3,a2]
    rcases a3 with a3|a3<;>simp [a3]
   ·simp [a]
   ·simp [a]
  ·intro hb
   unfold kD at hb
   by_cases hn:Lk s=true/\e.b=true/\(e.v.n !=s.n||e.v.m !=s.m)=true
   ·obtain ⟨n1,n2,n3⟩:=hn
    obtain ⟨y,hy,k1,k2,k3⟩:=h.num _ e hf n2
    obtain ⟨e',he,h1,h2,h3⟩:=h.fits y hy k1
    rw [k2,hf] at he
    cases he
    obtain ⟨g1,g2,g3⟩:=h3 k3
    refine ⟨y,hy, ?_⟩
    unfold LG Tv
    rw [n1,k3,<- g2,<- g3,n3]
    simp [k1,hk,k2]
   ·obtain ⟨y,hy,k1,k2⟩:=h.src _ e hf
    obtain ⟨e',he,h1,h2,h3⟩:=h.fits y hy k1
    rw [k2,hf] at he
    cases he
    refine ⟨y,hy, ?_⟩
    unfold LG Tv
    rw [<- h1,<- h2]
    have hb2:(e.v.family !=LQ s.kind || !XM e.v.widths (It l s.key))=true:=by
     rw [CJ] at hb ⊢
     rcases hb with hb|hb
     ·exact .inl hb
     ·rw [CJ] at hb
      rcases hb with hb|hb
      ·exact .inr hb
      ·exfalso
       apply hn
       simp only [AR] at hb
       exact ⟨hb.1,hb.2.1,hb.2.2⟩
    have hb3:(XM e.v.widths (It l s.key)&&e.v.family==LQ s.kind)=false:=by
     generalize XM e.v.widths (It l s.key)=B at hb2 ⊢
     cases B
     ·rfl
     ·simp only [Ar,Bool.or_false] at hb2
      simpa using hb2
    rw [hb3]
    simp [k1,hk,k2]
def VInv.step{l:List Fld}{E:List VE}{p:List Es}(h:VInv l E p){x:Es}{E':List VE}(hs:S5 l E x.step=some E'):VInv l E' (p++[x]):=by
 unfold S5 at hs
 split at hs
 ·rename_i hk
  cases hs
  exact ⟨λnm e he=>by obtain ⟨y,hy,h1⟩:=h.src nm e he;exact ⟨y,by simp [hy],h1⟩,
   λy hy hk2=>by
    rcases Ay.1 hy with hy|hy
    ·exact h.fits y hy hk2
    ·rw [Al.1 hy] at hk2;exact absurd hk hk2,
   λnm e he hb=>by obtain ⟨y,hy,h1⟩:=h.num nm e he hb;exact ⟨y,by simp [hy],h1⟩⟩
 ·rename_i hk
  split at hs
  ·rename_i hf
   cases hs
   refine ⟨λnm e he=>?_,λy hy hk2=>?_,λnm e he hb=>?_⟩
   ·rw [KH] at he
    split at he
    ·rename_i hn
     exact ⟨x,sm,hk,hn⟩
    ·obtain ⟨y,hy,h1⟩:=h.src nm e he;exact ⟨y,by simp [hy],h1⟩
   ·rw [KH]
    rcases Ay.1 hy with hy|hy
    ·obtain ⟨e,he,h1⟩:=h.fits y hy hk2
     have hne : ¬ (Wt l x.step).name=y.step.var:=λhn=>by
      have hn:x.step.var=y.step.var:=hn
      rw [<- hn,hf] at he;cases he
     exact ⟨e,by rw [iN hne];exact he,h1⟩
    ·rcases Al.1 hy with rfl
     refine ⟨_,iP rfl,rfl,rfl,λhn=>⟨hn, ?_, ?_⟩⟩
     ·simp [Wt,hn]
     ·simp [Wt,hn]
   ·rw [KH] at he
    split at he
    ·rename_i hn
     cases he
     exact ⟨x,sm,hk,hn,hb⟩
    ·obtain ⟨y,hy,h1⟩:=h.num nm e he hb;exact ⟨y,by simp [hy],h1⟩
  ·rename_i e0 hf
   split at hs
   ·cases hs
   ·rename_i hb0
    have hb0:kD l e0 x.step=false:=by simpa using hb0
    unfold kD at hb0
    rw [CG,CG] at hb0
    obtain ⟨b1,b2,b3⟩:=hb0
    have b1:e0.v.family=LQ x.step.kind:=by simpa using b1
    have b2:e0.v.widths=It l x.step.key:=by simpa [XM] using b2
    split at hs
    ·rename_i hnum
     cases hs
     refine ⟨λnm e he=>?_,λy hy hk2=>?_,λnm e he hb=>?_⟩
     ·rw [KH] at he
      split at he
      ·rename_i hn
       exact ⟨x,sm,hk,hn⟩
      ·obtain ⟨y,hy,h1⟩:=h.src nm e he;exact ⟨y,by simp [hy],h1⟩
     ·rw [KH]
      rcases Ay.1 hy with hy|hy
      ·obtain ⟨e,he,h1,h2,h3⟩:=h.fits y hy hk2
       by_cases hn:(Wt l x.step).name=y.step.var
       ·have hn2:x.step.var=y.step.var:=hn
        rw [<- hn2,hf] at he
        cases he
        refine ⟨_,iP hn, ?_, ?_,λhny=>?_⟩
        ·show LQ x.step.kind=_
         rw [<- b1,h1]
        ·show It l x.step.key=_
         rw [<- b2,h2]
        ·obtain ⟨g1,g2,g3⟩:=h3 hny
         rw [hnum,g1,g2,g3] at b3
         simp only [Bz,CG,bne_eq_false_iff_eq] at b3
         refine ⟨rfl, ?_, ?_⟩
         ·simp [Wt,hnum,b3.1]
         ·simp [Wt,hnum,b3.2]
       ·exact ⟨e,by rw [iN hn];exact he,h1,h2,h3⟩
      ·rcases Al.1 hy with rfl
       refine ⟨_,iP rfl,rfl,rfl,λhn=>⟨rfl, ?_, ?_⟩⟩
       ·simp [Wt,hn]
       ·simp [Wt,hn]
     ·rw [KH] at he
      split at he
      ·rename_i hn
       exact ⟨x,sm,hk,hn,hnum⟩
      ·obtain ⟨y,hy,h1⟩:=h.num nm e he hb;exact ⟨y,by simp [hy],h1⟩
    ·rename_i hnum
     cases hs
     refine ⟨λnm e he=>?_,λy hy hk2=>?_,λnm e he hb=>?_⟩
     ·obtain ⟨y,hy,h1⟩:=h.src nm e he;exact ⟨y,by simp [hy],h1⟩
     ·rcases Ay.1 hy with hy|hy
      ·exact h.fits y hy hk2
      ·rcases Al.1 hy with rfl
       exact ⟨e0,hf,b1,b2,λhn=>absurd hn hnum⟩
     ·obtain ⟨y,hy,h1⟩:=h.num nm e he hb;exact ⟨y,by simp [hy],h1⟩
def kB{l:List Fld}{E:List VE}{p:List Es}(h:VInv l E p)(s:Stp):(S5 l E s).isSome = !p.any (λy=>LG l y.step s):=by
 by_cases hk:s.kind=0
 ·unfold S5
  rw [iP hk]
  have:p.any (λy=>LG l y.step s)=false:=by
   rw [Bk];intro y _;simp [LG,hk]
  rw [this];rfl
 ·rw [xn h hk]
  unfold S5
  rw [iN hk]
  cases Nt E s.var with
  | none=>rfl
  | some e =>
   dsimp only
   cases kD l e s
   ·cases Lk s<;>rfl
   ·rfl
def X7(l:List Fld)(p:List Es): ∀ (n i:Nat) (E:List VE),p.length - i=n->VInv l E (p.take i)->(vGo l E (p.drop i)).isSome=Kr l p i (p.drop i)
 | 0,i,E,hn,_=>by
  rw [List.drop_eq_nil_of_le FM];rfl
 | n+1,i,E,hn,h=>by
  have hlt:i<p.length:=FM
  rw [BJ hlt,vGo,Kr]
  have h1:=kB h p[i].step
  cases hs:S5 l E p[i].step with
  | none =>
   rw [hs] at h1
   rw [<- h1];rfl
  | some E' =>
   rw [hs] at h1
   rw [<- h1]
   have ht:p.take (i+1)=p.take i++[p[i]]:=by rw [BF,AL hlt];rfl
   have:=X7 l p n (i+1) E' FM (by rw [ht];exact h.step hs)
   simpa using this
def oS(l:List Fld)(p:List Es):(vGo l [] p).isSome=Kr l p 0 p:=by
 have:=X7 l p p.length 0 [] FM (by simpa using VInv.nil l)
 simpa using this
def Y5(t:Et):Prop:=∀ w∈t.wires,(0<=w.src/\w.src<=65535)/\(0<=w.dst/\w.dst<=65535)
def SH(l:List Fld): ∀ r:List Ep,LC l r=0 ↔ ∀ x∈r,RB l x=0
 | []=>by simp [LC]
 | x::r=>by
  rw [LC]
  by_cases h:RB l x=0
  ·rw [iP h,SH l r];simp [h]
  ·rw [iN h];simp [h]
def PU(l:List Fld): ∀ r:List Eo,LF l r=0 ↔ ∀ x∈r,Ph l x=0
 | []=>by simp [LF]
 | x::r=>by
  rw [LF]
  by_cases h:Ph l x=0
  ·rw [iP h,PU l r];simp [h]
  ·rw [iN h];simp [h]
def IE(l:List Fld)(x:Eo):Prop:=NC x=true /\ ∀ y∈SG x,Ph l y=0
def Hf(l:List Fld)(x:Ep):Prop:=RQ x=true /\ ∀ y∈Mi x,RB l y=0
def dj:KQ JT=65535:=dk
def Yj(l:List Fld):FY l F9=(JT,true):=by unfold FY;rw [iP rfl]
def fc:UR F9=true:=by unfold UR;simp
def pN(l:List Fld){n:Int}(h1:0<=n)(h2:n<=65535):IE l (Yw n):=by
 constructor
 ·rw [Hh]
  unfold SR Yw
  rw [Hg]
  simp [fc,NB,h1,h2]
 ·intro y hy
  rw [LM] at hy
  have:y=Yw n:=by simpa [Yw,LY] using hy
  subst this
  have : ¬ (KQ JT<n):=by rw [dj];omega
  simp [Ph,Yw,Yj,this]
def Vl(l:List Fld):IE l Jg:=by
 constructor
 ·rw [Hh]
  unfold SR Jg JL
  rw [Hg];simp
 ·intro y hy
  rw [LM] at hy
  have:y=Jg:=by simpa [Jg,LY] using hy
  subst this
  simp [Ph,Jg]
def AEE{l:List Fld}{x y:Eo}(hx:IE l x)(hy:IE l y):IE l (po x y):=by
 constructor
 ·rw [Hh]
  unfold SR po JL
  dsimp only
  rw [KX,KX,Hg,hx.1,hy.1];simp
 ·intro z hz
  rw [LM] at hz
  rcases AZ.1 hz with rfl|hz
  ·simp [Ph,po]
  ·have hz:z∈Mh [x,y]:=hz
   rw [Ja,Ja,LY] at hz
   rcases Ay.1 hz with hz|hz
   ·exact hx.2 z hz
   ·exact hy.2 z (by simpa using hz)
def AAm{l:List Fld}{x:Eo}(hx:IE l x):IE l (aO x):=by
 constructor
 ·rw [Hh]
  unfold SR aO JL
  dsimp only
  rw [KX,Hg,hx.1];simp
 ·intro z hz
  rw [LM] at hz
  rcases AZ.1 hz with rfl|hz
  ·simp [Ph,aO]
  ·have hz:z∈Mh [x]:=hz
   rw [Ja,LY] at hz
   exact hx.2 z (by simpa using hz)
def Oh{l:List Fld}{x:Eo}(hx:IE l x):Hf l (Hz x):=by
 constructor
 ·rw [IJ]
  unfold U7 Hz
  dsimp only
  rw [Ik,hx.1];simp
 ·intro z hz
  rw [Kk] at hz
  have:z=Hz x:=by simpa [Hz,KL] using hz
  subst this
  show (if (1:Int)=1 then RR l x else _)=0
  rw [iP rfl]
  exact (PU l _).2 hx.2
def Qj:pT Pred.z PY=true:=AA9 _
def AAl(l:List Fld){n:Int}(h1:0<=n)(h2:n<=65535):Hf l (XP F9 n):=by
 constructor
 ·rw [IJ]
  unfold U7 XP
  dsimp only
  rw [Ik,Qj];simp [fc,NB,h1,h2]
 ·intro z hz
  rw [Kk] at hz
  have:z=XP F9 n:=by simpa [XP,KL] using hz
  subst this
  have : ¬ (KQ JT<n):=by rw [dj];omega
  simp [RB,XP,Yj,this]
def fH{l:List Fld}{x y:Ep}(hx:Hf l x)(hy:Hf l y){k:Int}(hk:k=3\/k=4):Hf l ⟨k,Pred.z,⟨#[]⟩,0,[x,y]⟩:=by
 constructor
 ·rw [IJ]
  unfold U7
  dsimp only
  rw [KY,KY,Ik,hx.1,hy.1,Qj]
  rcases hk with rfl|rfl<;>simp
 ·intro z hz
  rw [Kk] at hz
  rcases AZ.1 hz with rfl|hz
  ·rcases hk with rfl|rfl<;>simp [RB]
  ·have hz:z∈L8 [x,y]:=hz
   rw [If,If,KL] at hz
   rcases Ay.1 hz with hz|hz
   ·exact hx.2 z hz
   ·exact hy.2 z (by simpa using hz)
def mG{l:List Fld}{x y:Ep}(hx:Hf l x)(hy:Hf l y):Hf l (Ki x y):=fH hx hy (.inl rfl)
def RP{l:List Fld}{x y:Ep}(hx:Hf l x)(hy:Hf l y):Hf l (Tu x y):=fH hx hy (.inr rfl)
def vT{l:List Fld}{x:Ep}(hx:Hf l x):Hf l (Rf x):=by
 constructor
 ·rw [IJ]
  unfold U7 Rf
  dsimp only
  rw [KY,Ik,hx.1,Qj];simp
 ·intro z hz
  rw [Kk] at hz
  rcases AZ.1 hz with rfl|hz
  ·simp [RB,Rf]
  ·have hz:z∈L8 [x]:=hz
   rw [If,KL] at hz
   exact hx.2 z (by simpa using hz)
def Ye{α:Type}{p:α->Prop}{two:α->α->α}(h2 : ∀ x y,p x->p y->p (two x y)): ∀ (l:List α) (x:α),p x->(∀ y∈l,p y)->p (l.foldl two x)
 | [],x,hx,_=>hx
 | y::l,x,hx,h=>Ye h2 l (two x y) (h2 x y hx (h y sm)) λz hz=>h z (by simp [hz])
def Yd{α:Type}{p:α->Prop}{two:α->α->α}{z:α}(h2 : ∀ x y,p x->p y->p (two x y))(hz:p z){l:List α}(h : ∀ y∈l,p y):p (LE z two l):=by
 cases l with
 | nil=>exact hz
 | cons x l=>exact Ye h2 l x (h x sm) λy hy=>h y (by simp [hy])
def fI{l:List Fld}{t:Et}{p:Ep}(hw:Y5 t)(hp:Hf l p):Hf l (HD t p):=by
 unfold HD
 split
 ·exact hp
 ·have h1:IE l (Oz t):=Yd (p:=IE l) (two:=po) (λ_ _=>AEE) (Vl l) λy hy=>by
   obtain ⟨w,hm,rfl⟩:=AO.1 hy
   exact pN l (hw w hm).1.1 (hw w hm).1.2
  have h2:Hf l (MU t):=Yd (p:=Hf l) (two:=Ki) (λ_ _=>mG) (Oh (Vl l)) λy hy=>by
   obtain ⟨w,hm,rfl⟩:=AO.1 hy
   exact RP (Oh (pN l (hw w hm).1.1 (hw w hm).1.2)) (AAl l (hw w hm).2.1 (hw w hm).2.2)
  exact RP (RP hp (vT (RP h2 hp))) (Oh (AAm h1))
def Si{l:List Fld}{x:Ep}(h:Kd l x=0):UW x=0/\Hf l x:=by
 unfold Kd at h
 split at h
 ·rename_i h0
  refine ⟨h0, ?_,(SH l _).1 h⟩
  unfold UW pP at h0
  split at h0
  ·split at h0
   ·assumption
   ·cases h0
  ·rename_i hl;exact absurd h0 hl
 ·rename_i hn;exact absurd h hn
def aB{l:List Fld}{x:Ep}(hn:UW x≠2)(h:Hf l x):Kd l x=0:=by
 have h0:UW x=0:=by
  unfold UW pP QR at hn ⊢
  rw [h.1] at hn ⊢
  by_cases hz:(kK x).nodes>200\/(kK x).depth>20
  ·rw [iP hz] at hn;exact absurd rfl hn
  ·rw [iN hz];rfl
 rw [Kd,iP h0]
 exact (SH l _).2 h.2
def X8(l:List Fld): ∀ (p q:List Es) (E:List VE),p.map (·.step)=q.map (·.step)->vGo l E p=vGo l E q
 | [],[],_,_=>rfl
 | [],_::_,_,h=>by cases h
 | _::_,[],_,h=>by cases h
 | x::p,y::q,E,h=>by
  simp only [List.map_cons,List.cons.injEq] at h
  rw [vGo,vGo,h.1]
  cases S5 l E y.step with
  | none=>rfl
  | some E'=>exact X8 l p q E' h.2
def Uj(l:List Fld): ∀ r:List Es,Mf l r=0 ↔ ∀ x∈r,Kd l x.policy=0/\L4 l x.step=0
 | []=>by simp [Mf]
 | x::r=>by
  rw [Mf]
  by_cases h:Kd l x.policy=0
  ·rw [iP h]
   by_cases h2:L4 l x.step=0
   ·rw [iP h2,Uj l r];simp [h,h2]
   ·rw [iN h2];simp [h2]
  ·rw [iN h];simp [h]
def V4 : ∀ r:List Es,Pj r=0 ↔ ∀ x∈r,UW x.policy=0/\bu x.step=0
 | []=>by simp [Pj]
 | x::r=>by
  rw [Pj]
  by_cases h:UW x.policy=0
  ·rw [iP h]
   by_cases h2:bu x.step=0
   ·rw [iP h2,V4 r];simp [h,h2]
   ·rw [iN h2];simp [h2]
  ·rw [iN h];simp [h]
def pf{l:List Fld}{p:List Es}(h:P3 l p=0):p.length<=8/\(∀ x∈p,UW x.policy=0/\bu x.step=0)/\(∀ x∈p,Kd l x.policy=0/\L4 l x.step=0)/\(vGo l [] p).isSome=true:=by
 unfold P3 at h
 split at h
 ·rename_i hn;exact absurd h hn
 ·rename_i h1
  split at h
  ·rename_i hn;exact absurd h hn
  ·rename_i h2
   split at h
   ·rename_i h3
    have h1:Wr p=0:=by simpa using h1
    have h2:Mf l p=0:=by simpa using h2
    unfold Wr at h1
    split at h1
    ·cases h1
    ·rename_i hl
     exact ⟨FM,(V4 p).1 h1,(Uj l p).1 h2,by rw [oS];exact h3⟩
   ·cases h
def ARX{l:List Fld}{p:List Es}(h1:p.length<=8)(h2 : ∀ x∈p,UW x.policy=0/\bu x.step=0)(h3 : ∀ x∈p,Kd l x.policy=0/\L4 l x.step=0)(h4:(vGo l [] p).isSome=true):P3 l p=0:=by
 rw [oS] at h4
 have g1:Wr p=0:=by unfold Wr;rw [iN FM];exact (V4 p).2 h2
 have g2:Mf l p=0:=(Uj l p).2 h3
 unfold P3
 rw [iN (by simp [g1]),iN (by simp [g2]),iP h4]
def Q1(t:Et): ∀ (r o:List Es),(HS t o r).2=2/\(HS t o r).1=[] \/
  (HS t o r).2=0/\(HS t o r).1=o++r.map (λx=>{ x with policy:=HD t x.policy }) /\ ∀ x∈r,UW (HD t x.policy)≠2
 | [],o => .inr ⟨rfl,by simp [HS],λ_ h=>by cases h⟩
 | x::r,o=>by
  rw [HS]
  split
  ·exact .inl ⟨rfl,rfl⟩
  ·rename_i hn
   rcases Q1 t r (o++[{ x with policy:=HD t x.policy }]) with h|⟨h1,h2,h3⟩
   ·exact .inl h
   ·refine .inr ⟨h1,by rw [h2];simp,λy hy=>?_⟩
    rcases AZ.1 hy with rfl|hy
    ·exact hn
    ·exact h3 y hy
def jz{l:List Fld}{t:Et}(hw:Y5 t)(h:P3 l t.program=0):
  ((GP t).2=2/\(GP t).1=[]/\t.wires≠[])\/((GP t).2=0/\P3 l (GP t).1=0/\(GP t).1.map (·.step)=t.program.map (·.step)):=by
 obtain ⟨h1,h2,h3,h4⟩:=pf h
 rcases Q1 t t.program [] with ⟨g1,g2⟩|⟨g1,g2,g3⟩
 ·refine .inl ⟨g1,g2,λhe=>?_⟩
  have : ∀ (r o:List Es),(∀ x∈r,UW x.policy=0)->(HS t o r).2=0:=by
   intro r
   induction r with
   | nil=>intro o _;rfl
   | cons x r ih =>
    intro o hx
    rw [HS]
    have e:HD t x.policy=x.policy:=by unfold HD;rw [iP he]
    rw [e,iN (by rw [hx x sm];decide)]
    exact ih _ λy hy=>hx y (by simp [hy])
  rw [this t.program [] λx hx=>(h2 x hx).1] at g1
  cases g1
 ·have hst:(GP t).1.map (·.step)=t.program.map (·.step):=by
   show (HS t [] t.program).1.map _=_
   rw [g2];simp [By,Function.comp_def]
  refine .inr ⟨g1, ?_,hst⟩
  have hm : ∀ x∈(GP t).1,Kd l x.policy=0/\UW x.policy=0/\bu x.step=0/\L4 l x.step=0:=by
   intro x hx
   have hx:x∈(HS t [] t.program).1:=hx
   rw [g2,List.nil_append] at hx
   obtain ⟨y,hy,rfl⟩:=AO.1 hx
   have hg:=aB (g3 y hy) (fI hw (Si (h3 y hy).1).2)
   exact ⟨hg,(Si hg).1,(h2 y hy).2,(h3 y hy).2⟩
  refine ARX ?_ (λx hx=>⟨(hm x hx).2.1,(hm x hx).2.2.1⟩) (λx hx=>⟨(hm x hx).1,(hm x hx).2.2.2⟩) ?_
  ·have:=congrArg List.length hst
   simp only [Aq] at this
   omega
  ·rw [X8 l _ _ [] hst];exact h4
def Wd{a b:Eu}(h:a.l=b.l):a=b:=by
 cases a;cases b
 simp only [Head.l,List.cons.injEq,and_true] at h
 simp [h]
def LT:List Int->List Int->Int
 | [],[]=>0
 | [],_::_ => -1
 | _::_,[]=>1
 | x::a,y::b=>if x<y then -1 else if y<x then 1 else LT a b
def In(a b:Eu):Int:=LT a.l b.l
def Yo : ∀ a:List Int,LT a a=0
 | []=>rfl
 | x::a=>by rw [LT,iN FM,iN FM,Yo a]
def pd : ∀ {a b:List Int},LT a b=0->a=b
 | [],[],_=>rfl
 | [],_::_,h=>by simp [LT] at h
 | _::_,[],h=>by simp [LT] at h
 | x::a,y::b,h=>by
  rw [LT] at h
  split at h
  ·cases h
  ·split at h
   ·cases h
   ·have:x=y:=FM
    rw [this,pd h]
def gG : ∀ a b:List Int,LT a b = - LT b a
 | [],[]=>rfl
 | [],_::_=>rfl
 | _::_,[]=>rfl
 | x::a,y::b=>by
  rw [LT,LT]
  by_cases h1:x<y
  ·rw [iP h1,iN FM,iP h1]
  ·by_cases h2:y<x
   ·rw [iN h1,iP h2,iP h2];rfl
   ·rw [iN h1,iN h2,iN h2,iN h1,gG a b]
def V0 : ∀ {a b c:List Int},LT a b<0->LT b c<0->LT a c<0
 | [],[],_,h,_=>by simp [LT] at h
 | [],_::_,[],_,h=>by simp [LT] at h
 | [],_::_,_::_,_,_=>by simp [LT]
 | _::_,[],_,h,_=>by simp [LT] at h
 | _::_,_::_,[],_,h=>by simp [LT] at h
 | x::a,y::b,z::c,h1,h2=>by
  rw [LT] at h1 h2 ⊢
  by_cases hxy:x<y
  ·by_cases hyz:y<z
   ·rw [iP FM];decide
   ·rw [iN hyz] at h2
    by_cases hzy:z<y
    ·rw [iP hzy] at h2;simp at h2
    ·rw [iP FM];decide
  ·rw [iN hxy] at h1
   by_cases hyx:y<x
   ·rw [iP hyx] at h1;simp at h1
   ·rw [iN hyx] at h1
    have:x=y:=FM
    subst this
    by_cases hyz:x<z
    ·rw [iP hyz];decide
    ·rw [iN hyz] at h2 ⊢
     by_cases hzy:z<x
     ·rw [iP hzy] at h2;simp at h2
     ·rw [iN hzy] at h2 ⊢
      exact V0 h1 h2
def PZ(a:Eu):In a a=0:=Yo _
def Ra{a b:Eu}(h:In a b=0):a=b:=Wd (pd h)
def V1(a b:Eu):In a b = - In b a:=gG _ _
def Lv{a b c:Eu}(h1:In a b<0)(h2:In b c<0):In a c<0:=V0 h1 h2
def LJ(l:List Eu):Prop:=l.Pairwise λa b=>In a b<0
def yB:LJ []:=.nil
def cC(h:Eu):LJ [h]:=List.pairwise_singleton _ _
def oV : ∀ {a b:List Eu},LJ a->LJ b->(∀ x,x∈a↔x∈b)->a=b
 | [],[],_,_,_=>rfl
 | [],y::b,_,_,h=>by have:=(h y).2 sm ; cases this
 | x::a,[],_,_,h=>by have:=(h x).1 sm ; cases this
 | x::a,y::b,h1,h2,h=>by
  obtain ⟨g1,g2⟩:=Bi.1 h1
  obtain ⟨g3,g4⟩:=Bi.1 h2
  have hxy:x=y:=by
   rcases AZ.1 ((h x).1 sm) with e|e
   ·exact e
   ·rcases AZ.1 ((h y).2 sm) with e2|e2
    ·exact e2.symm
    ·have h3:=g3 x e
     have h4:=g1 y e2
     have:=V1 x y
     omega
  subst hxy
  congr 1
  refine oV g2 g4 λz=>⟨λhz=>?_,λhz=>?_⟩
  ·rcases AZ.1 ((h z).1 (by simp [hz])) with e|e
   ·subst e;have:=g1 z hz;rw [PZ] at this;omega
   ·exact e
  ·rcases AZ.1 ((h z).2 (by simp [hz])) with e|e
   ·subst e;have:=g3 z hz;rw [PZ] at this;omega
   ·exact e
def N1(h:Eu):List Eu->List Eu
 | []=>[h]
 | x::r=>if In x h<0 then x::N1 h r else if x=h then x::r else h::x::r
def Gq(a b:List Eu):List Eu:=b.foldl (λo x=>N1 x o) a
def VD(h z:Eu): ∀ l:List Eu,z∈N1 h l↔z=h\/z∈l
 | []=>by simp [N1]
 | x::r=>by
  rw [N1]
  split
  ·rw [AZ,VD h z r,AZ]
   constructor
   ·rintro (e|e|e)
    ·exact .inr (.inl e)
    ·exact .inl e
    ·exact .inr (.inr e)
   ·rintro (e|e|e)
    ·exact .inr (.inl e)
    ·exact .inl e
    ·exact .inr (.inr e)
  ·split
   ·rename_i e
    subst e
    simp
   ·simp
def cB(h:Eu): ∀ {l:List Eu},LJ l->LJ (N1 h l)
 | [],_=>cC h
 | x::r,hs=>by
  obtain ⟨g1,g2⟩:=Bi.1 hs
  rw [N1]
  split
  ·rename_i hlt
   refine Bi.2 ⟨λz hz=>?_,cB h g2⟩
   rcases (VD h z r).1 hz with e|e
   ·rw [e];exact hlt
   ·exact g1 z e
  ·rename_i hlt
   split
   ·exact hs
   ·rename_i hne
    have hx:In h x<0:=by
     have h1:=V1 h x
     have:In x h≠0:=λe=>hne (Ra e)
     omega
    refine Bi.2 ⟨λz hz=>?_,hs⟩
    rcases AZ.1 hz with e|e
    ·rw [e];exact hx
    ·exact Lv hx (g1 z e)
def cZ(h:Eu): ∀ l:List Eu,l.length<=(N1 h l).length/\(N1 h l).length<=l.length+1
 | []=>by simp [N1]
 | x::r=>by
  have:=cZ h r
  rw [N1]
  split
  ·simp only [AC];omega
  ·split<;>simp
def QO(z:Eu): ∀ (b a:List Eu),z∈Gq a b↔z∈a\/z∈b
 | [],a=>by simp [Gq]
 | x::b,a=>by
  have:=QO z b (N1 x a)
  unfold Gq at this ⊢
  rw [CF,this,VD,AZ]
  constructor
  ·rintro ((e|e)|e)
   ·exact .inr (.inl e)
   ·exact .inl e
   ·exact .inr (.inr e)
  ·rintro (e|e|e)
   ·exact .inl (.inr e)
   ·exact .inl (.inl e)
   ·exact .inr e
def QG : ∀ (b:List Eu) {a:List Eu},LJ a->LJ (Gq a b)
 | [],_,h=>h
 | x::b,a,h=>QG b (a:=N1 x a) (cB x h)
def VC : ∀ (b a:List Eu),a.length<=(Gq a b).length/\(Gq a b).length<=a.length+b.length
 | [],a=>by simp [Gq]
 | x::b,a=>by
  have h1:=VC b (N1 x a)
  have h2:=cZ x a
  unfold Gq at h1 ⊢
  rw [CF,AC]
  omega
def I5:Nat->List Eu->List Eu->List Eu
 | 0,_,_=>[]
 | _+1,[],b=>b
 | _+1,a,[]=>a
 | n+1,x::a,y::b=>if In x y<0 then x::I5 n a (y::b) else if In x y=0 then y::I5 n a b else y::I5 n (x::a) b
def Hs(a b:List Eu):List Eu:=I5 (a.length+b.length+1) a b
def KP(z:Eu): ∀ (n:Nat) (a b:List Eu),a.length+b.length<n->(z∈I5 n a b↔z∈a\/z∈b)
 | 0,a,b,h=>FM
 | n+1,[],b,_=>by simp [I5]
 | n+1,x::a,[],_=>by simp [I5]
 | n+1,x::a,y::b,h=>by
  simp only [AC] at h
  rw [I5]
  split
  ·rw [AZ,KP z n a (y::b) (by simp;omega),AZ (l:=a)]
   constructor
   ·rintro (e|e|e)
    ·exact .inl (.inl e)
    ·exact .inl (.inr e)
    ·exact .inr e
   ·rintro ((e|e)|e)
    ·exact .inl e
    ·exact .inr (.inl e)
    ·exact .inr (.inr e)
  ·split
   ·rename_i he
    have hxy:=Ra he
    subst hxy
    rw [AZ,KP z n a b FM,AZ,AZ]
    constructor
    ·rintro (e|e|e)
     ·exact .inl (.inl e)
     ·exact .inl (.inr e)
     ·exact .inr (.inr e)
    ·rintro ((e|e)|(e|e))
     ·exact .inl e
     ·exact .inr (.inl e)
     ·exact .inl e
     ·exact .inr (.inr e)
   ·rw [AZ,KP z n (x::a) b (by simp;omega),AZ (l:=b)]
    constructor
    ·rintro (e|e|e)
     ·exact .inr (.inl e)
     ·exact .inl e
     ·exact .inr (.inr e)
    ·rintro (e|e|e)
     ·exact .inr (.inl e)
     ·exact .inl e
     ·exact .inr (.inr e)
def PG : ∀ (n:Nat) (a b:List Eu),a.length+b.length<n->LJ a->LJ b->LJ (I5 n a b)
 | 0,a,b,h,_,_=>FM
 | n+1,[],b,_,_,hb=>by simpa [I5] using hb
 | n+1,x::a,[],_,ha,_=>by simpa [I5] using ha
 | n+1,x::a,y::b,h,ha,hb=>by
  simp only [AC] at h
  obtain ⟨g1,g2⟩:=Bi.1 ha
  obtain ⟨g3,g4⟩:=Bi.1 hb
  rw [I5]
  split
  ·rename_i hlt
   refine Bi.2 ⟨λz hz=>?_,PG n a (y::b) (by simp;omega) g2 hb⟩
   rcases (KP z n a (y::b) (by simp;omega)).1 hz with e|e
   ·exact g1 z e
   ·rcases AZ.1 e with e|e
    ·rw [e];exact hlt
    ·exact Lv hlt (g3 z e)
  ·rename_i hlt
   split
   ·rename_i he
    have hxy:=Ra he
    subst hxy
    refine Bi.2 ⟨λz hz=>?_,PG n a b FM g2 g4⟩
    rcases (KP z n a b FM).1 hz with e|e
    ·exact g1 z e
    ·exact g3 z e
   ·rename_i hne
    have hyx:In y x<0:=by have:=V1 x y;omega
    refine Bi.2 ⟨λz hz=>?_,PG n (x::a) b (by simp;omega) ha g4⟩
    rcases (KP z n (x::a) b (by simp;omega)).1 hz with e|e
    ·rcases AZ.1 e with e|e
     ·rw [e];exact hyx
     ·exact Lv hyx (g1 z e)
    ·exact g3 z e
def PJ{a b:List Eu}(ha:LJ a)(hb:LJ b):Hs a b=Gq a b :=
 oV (PG _ a b FM ha hb) (QG b ha) λz=>by rw [Hs,KP z _ a b FM,QO]
def JM(f:Eu->Option (List Eu)):List Eu->List Eu->Option (List Eu)
 | o,[]=>some o
 | o,x::r=>match f x with
  | none=>none
  | some a=>if 256<(Gq o a).length then none else JM f (Gq o a) r
def IP(o n:List Eu):List Eu:=n.filter λx => !o.any λy=>decide (y=x)
def K1(f:Eu->Option (List Eu)):Nat->List Eu->List Eu->Option (List Eu)
 | 0,_,_=>none
 | k+1,o,n=>if n=[] then some o else match JM f [] n with
  | none=>none
  | some m=>if 256<(Gq o (IP o m)).length then none else K1 f k (Gq o (IP o m)) (IP o m)
def Fi(h:Eu)(k:Nat):Int:=(h.l[k]?).getD 0
def qY(h:Eu)(k:Nat)(v:Int):Eu :=
 ⟨if k=0 then v else h.h0,if k=1 then v else h.h1,if k=2 then v else h.h2,if k=3 then v else h.h3,if k=4 then v else h.h4,if k=5 then v else h.h5,if k=6 then v else h.h6,if k=7 then v else h.h7,if k=8 then v else h.h8,if k=9 then v else h.h9⟩
def HA(f:Fld):Prop:=1<=f.width/\f.width<=16/\0<=f.at_/\f.at_<=143/\f.at_ % 16+f.width<=16
def fK(f:Fld):Nat:=(f.at_ / 16).toNat
def fS(f:Fld):Nat:=(16 - f.at_ % 16 - f.width).toNat
def fW(f:Fld):Nat:=f.width.toNat
def NZ(f:Fld)(h:Eu):Nat:=(Fi h (fK f)).toNat / 2^fS f % 2^fW f
def Q7(f:Fld)(h:Eu)(n:Nat):Eu:=qY h (fK f) ((((Fi h (fK f)).toNat ^^^ ((Fi h (fK f)).toNat &&& ((2^fW f - 1) <<< fS f))) ||| (n <<< fS f):Nat):Int)
def Jb{f:Fld}(h:HA f):fK f<=8/\fS f+fW f<=16/\1<=fW f:=by
 unfold HA at h
 unfold fK fS fW
 omega
def Hc{h:Eu}(hr:FV h=true)(k:Nat):0<=Fi h k/\Fi h k<=65535:=by
 unfold FV at hr
 unfold Fi
 cases hk:h.l[k]? with
 | none=>simp
 | some v =>
  have:=Ao.1 hr v (AB hk)
  simpa [LI] using this
def zp(h:Eu)(k:Nat)(v:Int):(qY h k v).l=h.l.set k v:=by
 match k with
 | 0=>rfl
 | 1=>rfl
 | 2=>rfl
 | 3=>rfl
 | 4=>rfl
 | 5=>rfl
 | 6=>rfl
 | 7=>rfl
 | 8=>rfl
 | 9=>rfl
 | n+10=>rfl
def TB{h:Eu}(hr:FV h=true)(k:Nat){v:Int}(h0:0<=v)(h1:v<=65535):FV (qY h k v)=true:=by
 unfold FV at hr ⊢
 rw [zp,Ao]
 intro x hx
 rcases List.mem_or_eq_of_mem_set hx with hx|rfl
 ·exact Ao.1 hr x hx
 ·simp [LI,h0,h1]
def gt{W M:Nat}(hW:W<65536)(hM:M<65536):W ^^^ (W &&& M)<65536:=Ca (n:=16) hW (Dj _ hM)
def AGh{W s w n:Nat}(hW:W<65536)(hn:n<2^w)(hsw:s+w<=16):(W ^^^ (W &&& ((2^w - 1) <<< s))) ||| (n <<< s)<65536:=by
 refine EG (n:=16) (Ca (n:=16) hW (CX DI hW)) ?_
 rw [Dk]
 calc n*2^s<2^w*2^s:=EH hn (Ba s)
  _=2^(s+w):=by rw [CE,EI]
  _<=2^16:=Bb dc hsw
def S4(h:Eu)(k j:Nat)(v:Int)(hk:k<10):Fi (qY h k v) j=if j=k then v else Fi h j:=by
 unfold Fi
 rw [zp,A0]
 by_cases e:k=j
 ·subst e
  rw [iP rfl,iP (by simpa [Head.l] using hk),iP rfl];rfl
 ·rw [iN e,iN (λc=>e c.symm)]
def b6(j:Nat):Fi Head.z j=0:=by
 match j with
 | 0|1|2|3|4|5|6|7|8|9=>rfl
 | n+10=>rfl
def AAM{a b:Eu}(h : ∀ k,k<10->Fi a k=Fi b k):a=b:=by
 apply Wd
 apply A4
 intro k
 by_cases hk:k<10
 ·have:=h k hk
  unfold Fi at this
  have la:a.l.length=10:=rfl
  have lb:b.l.length=10:=rfl
  rw [AL FM,AL FM] at this ⊢
  simpa using this
 ·rw [Ax (by show 10<=k;omega),Ax (by show 10<=k;omega)]
def LD(w m:Nat):Nat:=(2^w - 1) ^^^ ((2^w - 1) &&& (2^(w - m) - 1))
def YQ(w m j:Nat):(LD w m).testBit j=(decide (w - m<=j)&&decide (j<w)):=by
 unfold LD
 rw [Dl,Cs,EJ,EJ]
 by_cases h1:j<w<;>by_cases h2:j<w - m<;>simp [h1,h2]<;>omega
def dl(w m:Nat):LD w m<2^w:=by
 have:0<2^w:=Ba w
 exact Ca FM (CX DI FM)
def lP(w:Nat):LD w w=2^w - 1:=by
 unfold LD
 rw [AQ];simp
def Uv(f:Fld)(n m:Nat):Pat:=⟨Q7 f Head.z (LD (fW f) m),Q7 f Head.z (n &&& LD (fW f) m)⟩
def lO(p:Pat)(h:Eu):Bool:=(Am 10).all λi=>(((Fi p.bits i).toNat ^^^ (Fi h i).toNat) &&& (Fi p.mask i).toNat)==0
def Is(p:Pat)(h:Eu)(i:Nat):Int:=((((Fi h i).toNat ^^^ ((Fi h i).toNat &&& (Fi p.mask i).toNat)) ||| (Fi p.bits i).toNat:Nat):Int)
def aX(p:Pat)(h:Eu):Eu:=⟨Is p h 0,Is p h 1,Is p h 2,Is p h 3,Is p h 4,Is p h 5,Is p h 6,Is p h 7,Is p h 8,Is p h 9⟩
def R9(f:Fld)(hf:HA f)(v j:Nat):Fi (Q7 f Head.z v) j=if j=fK f then ((v <<< fS f:Nat):Int) else 0:=by
 have hd:=Jb hf
 unfold Q7
 rw [S4 _ _ _ _ FM,b6,b6]
 split<;>simp
def f0{a b w k:Nat}(ha:a<2^w)(hb:b<2^w):a / 2^k=b / 2^k ↔ ∀ j,k<=j->j<w->a.testBit j=b.testBit j:=by
 constructor
 ·intro h j h1 _
  have e:j=(j - k)+k:=FM
  rw [e,<- Ct,<- Ct,h]
 ·intro h
  apply EK
  intro i
  rw [Ct,Ct]
  by_cases hw:i+k<w
  ·exact h _ FM hw
  ·rw [EL (BR ha (Bb dc FM)),EL (BR hb (Bb dc FM))]
def fJ(f:Fld)(h:Eu)(j:Nat)(hj:j<fW f):(NZ f h).testBit j=(Fi h (fK f)).toNat.testBit (fS f+j):=by
 unfold NZ
 rw [Nat.testBit_mod_two_pow,Ct,CE]
 simp [hj]
def AEG(f:Fld)(h:Eu):NZ f h<2^fW f:=Nat.mod_lt _ (Ba _)
def YP{f:Fld}(hf:HA f){n m:Nat}(hn:n<2^fW f)(hm:m<=fW f)(h:Eu):lO (Uv f n m) h=decide (NZ f h / 2^(fW f - m)=n / 2^(fW f - m)):=by
 have hd:=Jb hf
 rw [BA,decide_eq_true_eq,f0 (AEG f h) hn]
 unfold lO Uv
 rw [Ao]
 constructor
 ·intro hall j h1 h2
  have:=hall (fK f) (by rw [Bo];omega)
  rw [R9 f hf,R9 f hf,iP rfl,iP rfl,beq_iff_eq,Ae,Ae] at this
  have hb:((((n &&& LD (fW f) m) <<< fS f) ^^^ (Fi h (fK f)).toNat) &&& (LD (fW f) m <<< fS f)).testBit (fS f+j)=false:=by rw [this];simp
  rw [Cs,Dl,DJ,DJ,Cs] at hb
  have e1:decide (fS f<=fS f+j)=true:=sm
  have e2:fS f+j - fS f=j:=FM
  have e3:(LD (fW f) m).testBit j=true:=by rw [YQ];simp;omega
  rw [e1,e2,e3] at hb
  rw [fJ f h j h2]
  simp only [Bn,Bz,bne_eq_false_iff_eq] at hb
  exact hb.symm
 ·intro hbits i hi
  rw [R9 f hf,R9 f hf]
  by_cases e:i=fK f
  ·subst e
   rw [iP rfl,iP rfl,beq_iff_eq,Ae,Ae]
   apply EK
   intro i
   rw [Cs,Dl,DJ,DJ,Cs,YQ]
   by_cases g0:fS f<=i
   ·by_cases g1:fW f - m<=i - fS f/\i - fS f<fW f
    ·have hb:=hbits (i - fS f) g1.1 g1.2
     rw [fJ f h _ g1.2,show fS f+(i - fS f)=i by omega] at hb
     have e1:decide (fS f<=i)=true:=by simpa using g0
     have e2:(decide (fW f - m<=i - fS f)&&decide (i - fS f<fW f))=true:=by simp;omega
     rw [hb,e1,e2]
     simp
    ·have:(decide (fW f - m<=i - fS f)&&decide (i - fS f<fW f))=false:=by simp;omega
     rw [this];simp
   ·simp [g0]
  ·rw [iN e,iN e];simp
def wd{f:Fld}(hf:HA f){n:Nat}(hn:n<2^fW f){h:Eu}(hr:FV h=true):aX (Uv f n (fW f)) h=Q7 f h n:=by
 have hd:=Jb hf
 apply AAM
 intro k hk
 have e1:Fi (aX (Uv f n (fW f)) h) k=Is (Uv f n (fW f)) h k:=by
  match k,hk with
  | 0,_|1,_|2,_|3,_|4,_|5,_|6,_|7,_|8,_|9,_=>rfl
 rw [e1]
 unfold Is Uv
 rw [R9 f hf,R9 f hf,lP]
 have hand:n &&& (2^fW f - 1)=n:=by rw [EM,Bv hn]
 rw [hand]
 unfold Q7
 rw [S4 _ _ _ _ FM]
 by_cases e:k=fK f
 ·subst e
  rw [iP rfl,iP rfl,iP rfl,Ae,Ae]
 ·rw [iN e,iN e,iN e]
  have:=(Hc hr k).1
  simp;omega
def NI{f:Fld}(hf:HA f){n:Nat}(hn:n<2^fW f){h:Eu}(hr:FV h=true):FV (Q7 f h n)=true:=by
 have hd:=Jb hf
 have hw:=Hc hr (fK f)
 have hlt:=AGh (W:=(Fi h (fK f)).toNat) (s:=fS f) (w:=fW f) (n:=n) FM hn FM
 unfold Q7
 refine TB hr _ FM ?_
 omega
def wx(x y:Int):Int:=IntKind.i64.wrap (BitVec.ofInt 64 x &&& BitVec.ofInt 64 y).toNat
def orI(x y:Int):Int:=IntKind.i64.wrap (BitVec.ofInt 64 x ||| BitVec.ofInt 64 y).toNat
def AC7(x y:Int):Int:=IntKind.i64.wrap (BitVec.ofInt 64 x ^^^ BitVec.ofInt 64 y).toNat
def vn(x y:Int):Int:=IntKind.i64.wrap (BitVec.ofInt 64 x &&& ~~~ BitVec.ofInt 64 y).toNat
section
variable {P:Program} {t:TypeId} {k:IntKind} {x y:Int} {d:Tmp} {K:Kt} {e:Fp} {H:FN}
@[go_sem] def ATc:Ie P .and t (.int .i64 x) (.int .i64 y) d K e H=K ((d,.int .i64 (wx x y))::e) H:=by
 rw [HI];exact propext ⟨λh=>h.2,λh=>⟨rfl,h⟩⟩
@[go_sem] def Aas:Ie P .or t (.int .i64 x) (.int .i64 y) d K e H=K ((d,.int .i64 (orI x y))::e) H:=by
 rw [HI];exact propext ⟨λh=>h.2,λh=>⟨rfl,h⟩⟩
@[go_sem] def ATU:Ie P .xor t (.int .i64 x) (.int .i64 y) d K e H=K ((d,.int .i64 (AC7 x y))::e) H:=by
 rw [HI];exact propext ⟨λh=>h.2,λh=>⟨rfl,h⟩⟩
@[go_sem] def ATb:Ie P .andNot t (.int .i64 x) (.int .i64 y) d K e H=K ((d,.int .i64 (vn x y))::e) H:=by
 rw [HI];exact propext ⟨λh=>h.2,λh=>⟨rfl,h⟩⟩
@[go_sem] def ATW:Ie P .shr t (.int .i64 x) (.int k y) d K e H=(0<=y/\K ((d,.int .i64 (x.fdiv (2^(min y.toNat 64))))::e) H):=by
 rw [HI];rfl
end
def Jj(a:Nat):BitVec.ofInt 64 (a:Int)=BitVec.ofNat 64 a:=by
 apply BitVec.eq_of_toInt_eq;simp
def WK{a b:Nat}(ha:a<9223372036854775808)(hb:b<9223372036854775808):wx a b=((a &&& b:Nat):Int):=by
 have h1:a &&& b<2^63:=Dj _ FM
 unfold wx
 rw [Jj,Jj,BitVec.toNat_and,BitVec.toNat_ofNat,BitVec.toNat_ofNat,Bv FM,Bv FM]
 exact OD FM FM
def pA{a b:Nat}(ha:a<9223372036854775808)(hb:b<9223372036854775808):orI a b=((a ||| b:Nat):Int):=by
 have h1:a ||| b<2^63:=EG FM FM
 unfold orI
 rw [Jj,Jj,BitVec.toNat_or,BitVec.toNat_ofNat,BitVec.toNat_ofNat,Bv FM,Bv FM]
 exact OD FM FM
def xY{a b:Nat}(ha:a<9223372036854775808)(hb:b<9223372036854775808):AC7 a b=((a ^^^ b:Nat):Int):=by
 have h1:a ^^^ b<2^63:=Ca FM FM
 unfold AC7
 rw [Jj,Jj,BitVec.toNat_xor,BitVec.toNat_ofNat,BitVec.toNat_ofNat,Bv FM,Bv FM]
 exact OD FM FM
def V3{a b:Nat}(ha:a<9223372036854775808)(hb:b<9223372036854775808):vn a b=((a ^^^ (a &&& b):Nat):Int):=by
 have h1:a ^^^ (a &&& b)<2^63:=Ca FM (Dj _ FM)
 have e:(BitVec.ofNat 64 a &&& ~~~ BitVec.ofNat 64 b)=BitVec.ofNat 64 a ^^^ (BitVec.ofNat 64 a &&& BitVec.ofNat 64 b):=by
  generalize BitVec.ofNat 64 a=u
  generalize BitVec.ofNat 64 b=v
  ext i hi
  simp only [BitVec.getElem_and,BitVec.getElem_not,BitVec.getElem_xor]
  cases u[i]<;>cases v[i]<;>rfl
 unfold vn
 rw [Jj,Jj,e,BitVec.toNat_xor,BitVec.toNat_and,BitVec.toNat_ofNat,BitVec.toNat_ofNat,Bv FM,Bv FM]
 exact OD FM FM
def ADL{a s:Nat}(hs:s<=64):(a:Int).fdiv (2^min s 64)=((a / 2^s:Nat):Int):=by
 rw [B7 hs,Di _ (Int.pow_nonneg dc)]
 push_cast;rfl
def Lb(h:Eu){k:Nat}(hk:k<10):h.c[k]? =some (.int .i64 (Fi h k)):=by
 match k,hk with
 | 0,_|1,_|2,_|3,_|4,_|5,_|6,_|7,_|8,_|9,_=>rfl
def Wg(h:Eu){k:Nat}(hk:k<10)(v:Int):splice h.c k [.int .i64 v]=(qY h k v).c:=by
 match k,hk with
 | 0,_|1,_|2,_|3,_|4,_|5,_|6,_|7,_|8,_|9,_=>rfl
def AAx{f:Fld}(hf:HA f):IntKind.i64.wrap (f.at_.tdiv 16)=(fK f:Int)/\f.at_.tmod 16=f.at_ % 16/\IntKind.i64.wrap (IntKind.i64.wrap (16 - f.at_ % 16) - f.width)=(fS f:Int):=by
 have h:=hf
 unfold HA at h
 have e1:f.at_.tdiv 16=f.at_ / 16:=Int.tdiv_eq_ediv_of_nonneg FM
 have e2:f.at_.tmod 16=f.at_ % 16:=Int.tmod_eq_emod_of_nonneg FM
 refine ⟨?_,e2, ?_⟩
 ·rw [e1,OD FM FM];unfold fK;omega
 ·rw [OD (n:=16 - f.at_ % 16) FM FM,OD FM FM];unfold fS;omega
def oq(f:Fld)(hf:HA f):FO AA 204 [.agg f.c] (.int .i64 (fS f)):=by
 obtain ⟨d1,d2,d3⟩:=AAx hf
 have g16 : ¬((16:Int)=0):=dc
 refine pC ALh rfl ?_
 simp only [f204,go_sem,d2,d3,g16]
def RF{f:Fld}(hf:HA f):KQ f=((2^fW f - 1:Nat):Int):=by
 have h:=hf
 unfold HA at h
 have hp : ∀ n:Nat,n<=16->Wx n=((2^n:Nat):Int):=by
  intro n
  induction n with
  | zero=>intro _;rfl
  | succ n ih =>
   intro hn
   rw [Wx,ih FM]
   have:2^n<=2^16:=Bb dc FM
   unfold i64
   rw [Nat.pow_succ]
   generalize 2^n=z at this ⊢
   rw [OD FM FM]
   exact (Int.natCast_mul _ _).symm
 unfold KQ
 rw [hp _ FM]
 have h1:2^f.width.toNat<=2^16:=Bb dc FM
 have h2:0<2^f.width.toNat:=Ba _
 unfold i64 fW
 rw [OD FM FM]
 omega
def kg(f:Fld)(hf:HA f)(h:Eu)(hr:FV h=true):FO AA 135 [.agg f.c,.agg h.c] (.int .i64 (NZ f h)):=by
 obtain ⟨d1,d2,d3⟩:=AAx hf
 have hd:=Jb hf
 have hw:=Hc hr (fK f)
 have i0:(0:Int)<=(fK f:Int):=FM
 have i1:(fK f:Int)<((10:Nat):Int):=FM
 have i2:=Lb h (show fK f<10 by omega)
 obtain ⟨W,hW⟩ : ∃ W:Nat,Fi h (fK f)=(W:Int):=⟨(Fi h (fK f)).toNat,FM⟩
 have hM:2^fW f<=2^16:=Bb dc FM
 have hD:W / 2^fS f<=W:=Nat.div_le_self _ _
 have g16 : ¬((16:Int)=0):=dc
 have g0:(0:Int)<=(fS f:Int):=FM
 have c1:=oq f hf
 have c2:=o7 f (by have:=hf;unfold HA at this;omega) (by have:=hf;unfold HA at this;omega)
 have e1:(W:Int).fdiv (2^min (fS f) 64)=((W / 2^fS f:Nat):Int):=ADL FM
 have e2:wx ((W / 2^fS f:Nat):Int) ((2^fW f - 1:Nat):Int)=(NZ f h:Nat):=by
  rw [WK FM FM,EM]
  unfold NZ;rw [hW,Ae]
 rw [RF hf] at c2
 rw [hW] at i2
 refine pC AOt rfl ?_
 simp only [f135,go_sem,d1,d2,d3,i0,i1,i2,g16,Ae]
 repeat' (first|((first|refine pK (c1) ?_|refine pK (c2) ?_);simp only [go_sem,d1,d2,d3,i0,i1,i2,g16,g0,e1,e2,Ae])|(first|apply cS|apply gS)<;>intro hc<;>simp only [go_sem,hc,d1,d2,d3,i0,i1,i2,g16,g0,e1,e2,Ae])
def kf(f:Fld)(hf:HA f)(h:Eu)(hr:FV h=true)(n:Nat)(hn:n<2^fW f):FO AA 203 [.agg f.c,.agg h.c,.int .i64 n] (.agg (Q7 f h n).c):=by
 obtain ⟨d1,d2,d3⟩:=AAx hf
 have hd:=Jb hf
 have hw:=Hc hr (fK f)
 have i0:(0:Int)<=(fK f:Int):=FM
 have i1:(fK f:Int)<((10:Nat):Int):=FM
 have i2:=Lb h (show fK f<10 by omega)
 obtain ⟨W,hW⟩ : ∃ W:Nat,Fi h (fK f)=(W:Int):=⟨(Fi h (fK f)).toNat,FM⟩
 have hM:2^fW f<=2^16:=Bb dc FM
 have g16 : ¬((16:Int)=0):=dc
 have g0:(0:Int)<=(fS f:Int):=FM
 have c1:=oq f hf
 have c2:=o7 f (by have:=hf;unfold HA at this;omega) (by have:=hf;unfold HA at this;omega)
 have hsh : ∀ x,x<2^fW f->x <<< fS f<65536:=by
  intro x hx
  rw [Dk]
  calc x*2^fS f<2^fW f*2^fS f:=EH hx (Ba _)
   _=2^(fS f+fW f):=by rw [CE,EI]
   _<=2^16:=Bb dc FM
 have hp:0<2^fW f:=Ba _
 have hk9:fK f<=9:=FM
 have s1:=hsh (2^fW f - 1) FM
 have s2:=hsh n hn
 have hshl : ∀ x:Nat,x <<< fS f<65536->IntKind.i64.wrap ((x:Int)*2^(min (fS f) 64))=((x <<< fS f:Nat):Int):=by
  intro x hx
  have e:min (fS f) 64=fS f:=B7 FM
  have e2:(x:Int)*2^(min (fS f) 64)=((x <<< fS f:Nat):Int):=by
   rw [e,Dk];push_cast;rfl
  rw [e2]
  generalize x <<< fS f=z at hx ⊢
  exact OD FM FM
 have e1:=hshl _ s1
 have e2:=hshl _ s2
 have e3:vn (W:Int) (((2^fW f - 1) <<< fS f:Nat):Int)=((W ^^^ (W &&& ((2^fW f - 1) <<< fS f)):Nat):Int):=V3 FM FM
 have hlow:W ^^^ (W &&& ((2^fW f - 1) <<< fS f))<2^16:=gt FM FM
 have e4:orI ((W ^^^ (W &&& ((2^fW f - 1) <<< fS f)):Nat):Int) ((n <<< fS f:Nat):Int)=(((W ^^^ (W &&& ((2^fW f - 1) <<< fS f))) ||| (n <<< fS f):Nat):Int):=pA FM FM
 have e5:splice h.c (fK f) [.int .i64 (((W ^^^ (W &&& ((2^fW f - 1) <<< fS f))) ||| (n <<< fS f):Nat):Int)]=(Q7 f h n).c:=by
  rw [Wg h FM];unfold Q7;rw [hW,Ae]
 rw [RF hf] at c2
 rw [hW] at i2
 refine pC ALk rfl ?_
 simp only [f203,go_sem,d1,d2,d3,i0,i1,i2,g16,Ae]
 repeat' (first|((first|refine pK (c1) ?_|refine pK (c2) ?_);simp only [go_sem,d1,d2,d3,i0,i1,i2,g16,g0,e1,e2,e3,e4,e5,hk9,Ae])|(first|apply cS|apply gS)<;>intro hc<;>simp only [go_sem,hc,d1,d2,d3,i0,i1,i2,g16,g0,e1,e2,e3,e4,e5,hk9,Ae])
end Go.AI
namespace Go.AI
open Go.Proofs
set_option maxRecDepth 50000
def dB(f:Fld)(hf:HA f)(n m:Nat)(hn:n<2^fW f)(hm:m<=fW f):FO AA 134 [.agg f.c,.int .i64 n,.int .i64 m] (.agg (Uv f n m).c):=by
 have h:=hf
 unfold HA at h
 have hw:f.width=(fW f:Int):=by unfold fW;omega
 have hd:=Jb hf
 have hz:FV Head.z=true:=dc
 have hM:2^fW f<=2^16:=Bb dc FM
 have hM2:2^(fW f - m)<=2^16:=Bb dc FM
 have hp:0<2^(fW f - m):=Ba _
 have hmk:=dl (fW f) m
 have hnm:n &&& LD (fW f) m<2^fW f:=CX DI hn
 have c1:=o7 f FM FM
 rw [RF hf] at c1
 have c2:=kf f hf Head.z hz (LD (fW f) m) hmk
 have c3:=kf f hf Head.z hz (n &&& LD (fW f) m) hnm
 have g0:(0:Int)<=((fW f - m:Nat):Int):=FM
 have e1:IntKind.i64.wrap (f.width - (m:Int))=((fW f - m:Nat):Int):=by rw [OD FM FM];omega
 have e2:IntKind.i64.wrap (1*2^(min (fW f - m) 64))=((2^(fW f - m):Nat):Int):=by
  rw [B7 FM]
  have:(1:Int)*2^(fW f - m)=((2^(fW f - m):Nat):Int):=by rw [Int.one_mul];push_cast;rfl
  rw [this]
  generalize 2^(fW f - m)=z at hM2 ⊢
  exact OD FM FM
 have e3:IntKind.i64.wrap (((2^(fW f - m):Nat):Int) - 1)=((2^(fW f - m) - 1:Nat):Int):=by
  generalize 2^(fW f - m)=z at hM2 hp ⊢
  rw [OD FM FM];omega
 have e4:vn ((2^fW f - 1:Nat):Int) ((2^(fW f - m) - 1:Nat):Int)=(LD (fW f) m:Nat):=by
  rw [V3 FM FM];rfl
 have e5:wx (n:Int) ((LD (fW f) m:Nat):Int)=((n &&& LD (fW f) m:Nat):Int):=WK FM FM
 refine pC AOw rfl ?_
 simp only [f134,go_sem,e1,Ae]
 repeat' (first|((first|refine pK (c1) ?_|refine pK (c2) ?_|refine pK (c3) ?_);simp only [go_sem,e1,e2,e3,e4,e5,g0,Ae])|(first|apply cS|apply gS)<;>intro hc<;>simp only [go_sem,hc,e1,e2,e3,e4,e5,g0,Ae])
 rfl
def o9(f:Fld)(hf:HA f)(n:Nat)(hn:n<2^fW f):FO AA 133 [.agg f.c,.int .i64 n] (.agg (Uv f n (fW f)).c):=by
 have h:=hf
 unfold HA at h
 have hw:f.width=(fW f:Int):=by unfold fW;omega
 have c1:=dB f hf n (fW f) hn (AU _)
 refine pC AOz rfl ?_
 simp only [f133,go_sem,hw]
 repeat' (first|(refine pK (c1) ?_;simp only [go_sem,hw])|(first|apply cS|apply gS)<;>intro hc<;>simp only [go_sem,hc,hw])
def AUS(f:Fld)(hf:HA f)(n:Nat)(hn:n<2^fW f):FO AA 138 [.agg f.c,.int .i64 n] (.agg (Uv f n (fW f)).c):=by
 have c1:=o9 f hf n hn
 refine pC AOl rfl ?_
 simp only [f138,go_sem]
 repeat' (first|(refine pK (c1) ?_;simp only [go_sem])|(first|apply cS|apply gS)<;>intro hc<;>simp only [go_sem,hc])
def TX(p:Pat){k:Nat}(hk:k<10):p.c[k]? =some (.int .i64 (Fi p.mask k)):=by
 match k,hk with
 | 0,_|1,_|2,_|3,_|4,_|5,_|6,_|7,_|8,_|9,_=>rfl
def TY(p:Pat){k:Nat}(hk:k<10):p.c[10+k]? =some (.int .i64 (Fi p.bits k)):=by
 match k,hk with
 | 0,_|1,_|2,_|3,_|4,_|5,_|6,_|7,_|8,_|9,_=>rfl
def o8(p:Pat)(hm:FV p.mask=true)(hb:FV p.bits=true)(h:Eu)(hr:FV h=true):FO AA 132 [.agg p.c,.agg h.c] (.bool (lO p h)):=by
 refine pC AO2 rfl ?_
 simp only [f132,go_sem]
 refine FZ (Am 10) (λr=>r.all λi=>(((Fi p.bits i).toNat ^^^ (Fi h i).toNat) &&& (Fi p.mask i).toNat)==0) (λk=>[(2,.ptr 0 0),(3,.ptr 1 0),(6,.int .i64 k)]) dc rfl ?_ ?_
 ·intro k y ys hd hx hF h0 h1 hw
  have hk:k<10:=by
   have:=(AD.1 hx).1
   simpa using this
  have hy:y=k:=by
   have:=hx
   rw [List.getElem?_range hk] at this
   exact (Option.some.inj this).symm
  subst hy
  have i0:(0:Int)<=(y:Int):=FM
  have i1:(y:Int)<((10:Nat):Int):=FM
  have a1:=TX p hk
  have a2:=TY p hk
  have a3:=Lb h hk
  have w1:=Hc hm y
  have w2:=Hc hb y
  have w3:=Hc hr y
  obtain ⟨A,hA⟩ : ∃ W:Nat,Fi p.mask y=(W:Int):=⟨(Fi p.mask y).toNat,FM⟩
  obtain ⟨B,hB⟩ : ∃ W:Nat,Fi p.bits y=(W:Int):=⟨(Fi p.bits y).toNat,FM⟩
  obtain ⟨C,hC⟩ : ∃ W:Nat,Fi h y=(W:Int):=⟨(Fi h y).toNat,FM⟩
  rw [hA] at a1 w1
  rw [hB] at a2 w2
  rw [hC] at a3 w3
  have hx1:B ^^^ C<2^16:=Ca FM FM
  have e1:AC7 (B:Int) (C:Int)=((B ^^^ C:Nat):Int):=xY FM FM
  have e2:wx ((B ^^^ C:Nat):Int) (A:Int)=(((B ^^^ C) &&& A:Nat):Int):=WK FM FM
  have i2:(y:Int)<10:=FM
  have eq:((((Fi p.bits y).toNat ^^^ (Fi h y).toNat) &&& (Fi p.mask y).toNat)==0) = !(((((B ^^^ C) &&& A:Nat):Int)) !=0):=by
   rw [hA,hB,hC,Ae,Ae,Ae]
   generalize (B ^^^ C) &&& A=z
   cases z<;>rfl
  rw [Ak,eq] at hF
  simp only [go_sem,h0,h1,i0,i1,i2,dT,Ae,a1,a2,a3,e1,e2]
  repeat' (first|(first|apply cS|apply gS)<;>intro hc<;>simp only [go_sem,hc,h0,h1,hw,i0,i1,i2,dT,Ae,a1,a2,a3,e1,e2])
  ·rw [hc] at hF
   exact congrArg AV.bool (hF.trans rfl).symm
  ·rw [Ak,eq,hc];rfl
 ·intro hF hlt
  have g:decide (((10:Nat):Int)<10)=false:=dc
  simp only [go_sem,List.length_range,g]
  exact congrArg AV.bool (hF.trans rfl).symm
def Nk(p:Pat)(h:Eu)(n:Nat):Eu :=
 let w:=λk=>if k<n then Is p h k else Fi h k
 ⟨w 0,w 1,w 2,w 3,w 4,w 5,w 6,w 7,w 8,w 9⟩
def nV(p:Pat)(h:Eu):Nk p h 10=aX p h:=rfl
def wg(p:Pat)(h:Eu){k:Nat}(hk:k<10):qY (Nk p h k) k (Is p h k)=Nk p h (k+1):=by
 match k,hk with
 | 0,_|1,_|2,_|3,_|4,_|5,_|6,_|7,_|8,_|9,_=>rfl
def we(p:Pat)(h:Eu){k:Nat}(hk:k<10):Fi (Nk p h k) k=Fi h k:=by
 match k,hk with
 | 0,_|1,_|2,_|3,_|4,_|5,_|6,_|7,_|8,_|9,_=>rfl
def ADn(p:Pat)(hm:FV p.mask=true)(hb:FV p.bits=true)(h:Eu)(hr:FV h=true):FO AA 137 [.agg p.c,.agg h.c] (.agg (aX p h).c):=by
 refine pC AOo rfl ?_
 simp only [f137,go_sem]
 refine aQ 10 (λk=>[(2,.ptr 0 0),(3,.ptr 1 0),(4,.ptr 2 0),(6,.int .i64 k)]) (λk=>[some p.c,some (Nk p h k).c,some Head.z.c]) rfl rfl ?_
 intro y hy
 by_cases hk:y<10
 ·have i0:(0:Int)<=(y:Int):=FM
  have i1:(y:Int)<((10:Nat):Int):=FM
  have i2:(y:Int)<10:=FM
  have a1:=TX p hk
  have a2:=TY p hk
  have a3:=Lb (Nk p h y) hk
  rw [we p h hk] at a3
  have hw:=Mc (k:=y) FM
  have w1:=Hc hm y
  have w2:=Hc hb y
  have w3:=Hc hr y
  have st:=Wg (Nk p h y) hk (Is p h y)
  rw [wg p h hk] at st
  have hap:Is p h y=((((Fi h y).toNat ^^^ ((Fi h y).toNat &&& (Fi p.mask y).toNat)) ||| (Fi p.bits y).toNat:Nat):Int):=rfl
  obtain ⟨A,hA⟩ : ∃ W:Nat,Fi p.mask y=(W:Int):=⟨(Fi p.mask y).toNat,FM⟩
  obtain ⟨B,hB⟩ : ∃ W:Nat,Fi p.bits y=(W:Int):=⟨(Fi p.bits y).toNat,FM⟩
  obtain ⟨C,hC⟩ : ∃ W:Nat,Fi h y=(W:Int):=⟨(Fi h y).toNat,FM⟩
  rw [hA,hB,hC,Ae,Ae,Ae] at hap
  rw [hA] at a1 w1
  rw [hB] at a2 w2
  rw [hC] at a3 w3
  have hl:=gt (W:=C) (M:=A) FM FM
  have e1:vn (C:Int) (A:Int)=((C ^^^ (C &&& A):Nat):Int):=V3 FM FM
  have e2:orI ((C ^^^ (C &&& A):Nat):Int) (B:Int)=Is p h y:=by rw [hap];exact pA FM FM
  have hk9:y<=9:=FM
  simp only [go_sem,i0,i1,i2,dT,Ae,a1,a2,a3,e1,e2,st,hw,hk9]
  exact hk
 ·have:y=10:=FM
  subst this
  have g:decide (((10:Nat):Int)<10)=false:=dc
  simp only [go_sem,g,nV]
def mc(a b:Eu): ∀ k,k<=10->LT (a.l.drop k) (b.l.drop k)=if k<10 then (if Fi a k<Fi b k then -1 else if Fi b k<Fi a k then 1 else LT (a.l.drop (k+1)) (b.l.drop (k+1))) else 0:=by
 intro k hk
 match k,hk with
 | 0,_|1,_|2,_|3,_|4,_|5,_|6,_|7,_|8,_|9,_=>rfl
 | 10,_=>rfl
def Qh(fs:List (Eu->Bool))(k:Nat)(h:Eu):Bool:=((fs[k]?).map λf=>f h).getD false
def N2(fs:List (Eu->Option (List Eu)))(k:Nat)(h:Eu):Option (List Eu):=((fs[k]?).map λf=>f h).getD none
def AFZ(l:List Fld)(t k:Int)(f:ByteArray)(n m:Int)(fs:List (Eu->Bool))(h:Eu):Bool :=
 if k=1 then true else if k=2 then false else if k=9 then decide (n<=t)&&decide (t<m)
 else if k=6 then !Qh fs 0 h else if k=7 then Qh fs 0 h&&Qh fs 1 h else if k=8 then Qh fs 0 h||Qh fs 1 h
 else if k=3 then decide ((NZ (FY l f).1 h:Int)=n)
 else if k=4 then decide (NZ (FY l f).1 h / 2^(fW (FY l f).1 - m.toNat)=n.toNat / 2^(fW (FY l f).1 - m.toNat))
 else decide (n<=NZ (FY l f).1 h)&&decide ((NZ (FY l f).1 h:Int)<=m)
mutual
def hP(l:List Fld)(t:Int):Eo->Eu->Bool
 | ⟨k,f,n,m,xs⟩=>AFZ l t k f n m (l9 l t xs)
def l9(l:List Fld)(t:Int):List Eo->List (Eu->Bool)
 | []=>[]
 | x::r=>hP l t x::l9 l t r
end
def AUe(l:List Fld)(t:Int)(x:Eo):hP l t x=AFZ l t x.kind x.field x.n x.m (l9 l t x.args):=by cases x;rw [hP]
def AAO(l:List Fld)(t:Int): ∀ r:List Eo,l9 l t r=r.map (hP l t)
 | []=>by rw [l9];rfl
 | x::r=>by rw [l9,AAO l t r];rfl
def l8(l:List Fld)(t:Int){r:List Eo}{k:Nat}{x:Eo}(hx:r[k]? =some x)(h:Eu):Qh (l9 l t r) k h=hP l t x h:=by
 rw [AAO,Qh,Ac,hx];rfl
def WD(r:List Eu):Option (List Eu):=if 256<r.length then none else some r
def Uh(l:List Fld)(t k:Int)(p:Eo)(f:ByteArray)(n:Int)(fs:List (Eu->Option (List Eu)))(h:Eu):Option (List Eu) :=
 if k=1 then some (if hP l t p h then [h] else [])
 else if k=2 then some [Q7 (FY l f).1 h n.toNat]
 else if k=3 then match N2 fs 0 h,N2 fs 1 h with
  | some a,some b=>WD (Gq a b)
  | _,_=>none
 else if k=4 then match N2 fs 0 h with
  | some a=>JM (N2 fs 1) [] a
  | none=>none
 else K1 (N2 fs 0) 300 [h] [h]
mutual
def vO(l:List Fld)(t:Int):Ep->Eu->Option (List Eu)
 | ⟨k,p,f,n,xs⟩=>Uh l t k p f n (Wp l t xs)
def Wp(l:List Fld)(t:Int):List Ep->List (Eu->Option (List Eu))
 | []=>[]
 | x::r=>vO l t x::Wp l t r
end
def AFV(l:List Fld)(t:Int)(x:Ep):vO l t x=Uh l t x.kind x.pred x.field x.n (Wp l t x.args):=by cases x;rw [vO]
def xj(l:List Fld)(t:Int): ∀ r:List Ep,Wp l t r=r.map (vO l t)
 | []=>by rw [Wp];rfl
 | x::r=>by rw [Wp,xj l t r];rfl
def R5(l:List Fld)(t:Int){r:List Ep}{k:Nat}{x:Ep}(hx:r[k]? =some x):N2 (Wp l t r) k=vO l t x:=by
 funext h
 rw [xj,N2,Ac,hx];rfl
def I6(r:List Eu):Prop:=LJ r/\r.length<=256 /\ ∀ z∈r,FV z=true
def La:I6 []:=⟨yB,dc,sm⟩
def PR{h:Eu}(hr:FV h=true):I6 [h]:=⟨cC h,sm,by simpa using hr⟩
def Ij{a b:List Eu}(ha:I6 a)(hb : ∀ z∈b,FV z=true)(hl : ¬ 256<(Gq a b).length):I6 (Gq a b):=by
 refine ⟨QG b ha.1,FM,λz hz=>?_⟩
 rcases (QO z b a).1 hz with h|h
 ·exact ha.2.2 z h
 ·exact hb z h
def PS{f:Eu->Option (List Eu)}(hf : ∀ h r,FV h=true->f h=some r->I6 r): ∀ (xs o r:List Eu),I6 o->(∀ z∈xs,FV z=true)->JM f o xs=some r->I6 r
 | [],o,r,ho,_,e=>by
  rw [JM] at e
  cases e;exact ho
 | x::xs,o,r,ho,hx,e=>by
  rw [JM] at e
  cases hfx:f x with
  | none=>rw [hfx] at e;cases e
  | some a =>
   rw [hfx] at e
   dsimp only at e
   have ga:=hf x a (hx x sm) hfx
   by_cases hl:256<(Gq o a).length
   ·rw [iP hl] at e;cases e
   ·rw [iN hl] at e
    exact PS hf xs _ r (Ij ho ga.2.2 hl) (λz hz=>hx z (by simp [hz])) e
def U9{o n:List Eu}{z:Eu}:z∈IP o n↔z∈n/\z∉o:=by
 unfold IP
 rw [List.mem_filter]
 constructor
 ·rintro ⟨h1,h2⟩
  refine ⟨h1,λhc=>?_⟩
  have:(o.any λy=>decide (y=z))=true:=CZ.2 ⟨z,hc,sm⟩
  rw [this] at h2;cases h2
 ·rintro ⟨h1,h2⟩
  refine ⟨h1, ?_⟩
  have:(o.any λy=>decide (y=z))=false:=by
   rw [Bk]
   intro y hy
   simp
   intro e;subst e;exact h2 hy
  rw [this];rfl
def Yf{f:Eu->Option (List Eu)}(hf : ∀ h r,FV h=true->f h=some r->I6 r): ∀ (k:Nat) (o n r:List Eu),I6 o->(∀ z∈n,FV z=true)->K1 f k o n=some r->I6 r
 | 0,o,n,r,_,_,e=>by rw [K1] at e;cases e
 | k+1,o,n,r,ho,hn,e=>by
  rw [K1] at e
  by_cases h0:n=[]
  ·rw [iP h0] at e;cases e;exact ho
  ·rw [iN h0] at e
   cases hi:JM f [] n with
   | none=>rw [hi] at e;cases e
   | some m =>
    rw [hi] at e
    dsimp only at e
    have gm:=PS hf n [] m La hn hi
    have gn : ∀ z∈IP o m,FV z=true:=λz hz=>gm.2.2 z (U9.1 hz).1
    by_cases hl:256<(Gq o (IP o m)).length
    ·rw [iP hl] at e;cases e
    ·rw [iN hl] at e
     exact Yf hf k _ _ r (Ij ho gn hl) gn e
def cY(h:Eu): ∀ {l:List Eu},h∉l->(N1 h l).length=l.length+1
 | [],_=>rfl
 | x::r,hn=>by
  rw [N1]
  have h1 : ¬ x=h:=λe=>hn (by simp [e])
  have h2:h∉r:=λe=>hn (by simp [e])
  split
  ·rw [AC,cY h h2];rfl
  ·rfl
def rN{o n:List Eu}(h:IP o n≠[]):o.length<(Gq o (IP o n)).length:=by
 cases hc:IP o n with
 | nil=>exact absurd hc h
 | cons x r =>
  have hx:x∉o:=(U9.1 (by rw [hc];simp:x∈IP o n)).2
  have e:Gq o (x::r)=Gq (N1 x o) r:=rfl
  have:=(VC r (N1 x o)).1
  rw [cY x hx] at this
  rw [e];omega
def Iy(l:List Fld):Prop:=∀ f∈l,HA f
def lK:HA JT:=by unfold HA JT;decide
def Ig{l:List Fld}(hl:Iy l){s:ByteArray}(h:(FY l s).2=true):HA (FY l s).1:=by
 unfold FY at h ⊢
 split
 ·exact lK
 ·rename_i hs
  rw [iN hs] at h
  cases hf:l.find? (λf=>decide (f.name=s)) with
  | none=>rw [hf] at h;cases h
  | some f=>exact hl f (List.mem_of_find?_eq_some hf)
def vU{l:List Fld}{x y:Eo}(hx:IE l x)(hy:y∈x.args):IE l y:=by
 obtain ⟨h1,h2⟩:=hx
 rw [Hh,AR] at h1
 have hf : ∀ r:List Eo,Vn r=true -> ∀ z∈r,NC z=true:=by
  intro r
  induction r with
  | nil=>intro _ z hz;cases hz
  | cons a r ih =>
   intro h z hz
   rw [KX,AR] at h
   rcases AZ.1 hz with rfl|hz
   ·exact h.1
   ·exact ih h.2 z hz
 refine ⟨hf _ h1.2 y hy,λz hz=>h2 z ?_⟩
 have hs : ∀ r:List Eo,y∈r->z∈Mh r:=by
  intro r
  induction r with
  | nil=>intro h;cases h
  | cons a r ih =>
   intro h
   rw [Ja]
   rcases AZ.1 h with rfl|h
   ·exact C8 _ hz
   ·exact Dm _ (ih h)
 rw [LM]
 exact B9 _ (hs _ hy)
def AX4(l:List Fld)(x:Eo):Prop:=(FY l x.field).2=true/\HA (FY l x.field).1/\0<=x.n/\x.n.toNat<2^fW (FY l x.field).1
def RE{f:Fld}(hf:HA f):KQ f=((2^fW f - 1:Nat):Int):=by
 have h:=hf
 unfold HA at h
 have : ∀ k:Nat,k<17->i64 (Wx k - 1)=((2^k - 1:Nat):Int):=dc
 exact this _ FM
def mH{l:List Fld}(hl:Iy l){x:Eo}(hx:IE l x):
  (x.kind=1)\/(x.kind=2)\/(x.kind=9)\/(x.kind=6 /\ ∃ a,x.args=[a]/\IE l a)\/((x.kind=7\/x.kind=8) /\ ∃ a b,x.args=[a,b]/\IE l a/\IE l b) \/
  (x.kind=3/\AX4 l x)\/(x.kind=4/\AX4 l x/\0<=x.m/\x.m.toNat<=fW (FY l x.field).1)\/(x.kind=5/\(FY l x.field).2=true/\HA (FY l x.field).1/\0<=x.n/\x.n<=x.m/\x.m.toNat<2^fW (FY l x.field).1):=by
 have hfit:=hx.2 x (by rw [LM];simp)
 have harg:=λy hy=>vU (y:=y) hx hy
 have hfm:=hx.1
 rw [Hh,AR,AR,beq_iff_eq] at hfm
 obtain ⟨⟨hok,hlen⟩,_⟩:=hfm
 unfold SR at hok hlen
 unfold Ph at hfit
 by_cases k1:x.kind=1
 ·exact .inl k1
 by_cases k2:x.kind=2
 ·exact .inr (.inl k2)
 rw [iN (by simp [k1,k2])] at hok hlen
 by_cases k3:x.kind=3
 ·rw [iP k3] at hok
  rw [iN (by simp [k3])] at hfit
  by_cases hf:(FY l x.field).2=false
  ·rw [iP hf] at hfit;cases hfit
  ·rw [iN hf,iN (by omega : ¬ x.kind=5)] at hfit
   have hft:(FY l x.field).2=true:=by simpa using hf
   have hfo:=Ig hl hft
   rw [RE hfo] at hfit
   have hp:=Ba (fW (FY l x.field).1)
   simp [NB] at hok
   refine .inr (.inr (.inr (.inr (.inr (.inl ⟨k3,hft,hfo,hok.2.1.1, ?_⟩)))))
   split at hfit
   ·cases hfit
   ·omega
 rw [iN k3] at hok hlen
 by_cases k4:x.kind=4
 ·rw [iP k4] at hok
  rw [iN (by simp [k4])] at hfit
  by_cases hf:(FY l x.field).2=false
  ·rw [iP hf] at hfit;cases hfit
  ·rw [iN hf,iN (by omega : ¬ x.kind=5)] at hfit
   have hft:(FY l x.field).2=true:=by simpa using hf
   have hfo:=Ig hl hft
   have hfo':=hfo
   unfold HA at hfo'
   rw [RE hfo] at hfit
   have hp:=Ba (fW (FY l x.field).1)
   have hW:fW (FY l x.field).1=(FY l x.field).1.width.toNat:=rfl
   simp [NB] at hok
   refine .inr (.inr (.inr (.inr (.inr (.inr (.inl ⟨k4,⟨hft,hfo,hok.2.1.1, ?_⟩,hok.2.2.1, ?_⟩))))))
   ·split at hfit
    ·cases hfit
    ·omega
   ·split at hfit
    ·cases hfit
    ·omega
 rw [iN k4] at hok hlen
 by_cases k5:x.kind=5
 ·rw [iP k5] at hok
  rw [iN (by simp [k5])] at hfit
  by_cases hf:(FY l x.field).2=false
  ·rw [iP hf] at hfit;cases hfit
  ·rw [iN hf,iP k5] at hfit
   have hft:(FY l x.field).2=true:=by simpa using hf
   have hfo:=Ig hl hft
   rw [RE hfo] at hfit
   have hp:=Ba (fW (FY l x.field).1)
   simp at hok
   refine .inr (.inr (.inr (.inr (.inr (.inr (.inr ⟨k5,hft,hfo,hok.2.1,hok.2.2.1, ?_⟩))))))
   split at hfit
   ·cases hfit
   ·omega
 rw [iN k5] at hok hlen
 by_cases k6:x.kind=6
 ·rw [iP k6] at hlen
  refine .inr (.inr (.inr (.inl ⟨k6, ?_⟩)))
  match hxa:x.args,hlen with
  | [a],_=>exact ⟨a,rfl,harg a (by rw [hxa];simp)⟩
 rw [iN k6] at hok hlen
 by_cases k7:x.kind=7\/x.kind=8
 ·rw [iP k7] at hlen
  refine .inr (.inr (.inr (.inr (.inl ⟨k7, ?_⟩))))
  match hxa:x.args,hlen with
  | [a,b],_=>exact ⟨a,b,rfl,harg a (by rw [hxa];simp),harg b (by rw [hxa];simp)⟩
 rw [iN k7] at hok hlen
 by_cases k9:x.kind=9
 ·exact .inr (.inr (.inl k9))
 rw [iN k9] at hok
 cases hok
def qe:Option (List Eu)->AV
 | some r => .tup [.sl none (F0 r),.int .i64 0]
 | none => .tup [.sl none [],.int .i64 2]
@[go_sem] def AST(o:Option (List Eu)):(qe o).pure=true:=by
 cases o<;>simp [qe,AV.pure,FQ,go_sem]
@[go_sem] def ASS(r:List Eu):qe (some r) = .tup [.sl none (F0 r),.int .i64 0]:=rfl
@[go_sem] def ASU:qe none = .tup [.sl none [],.int .i64 2]:=rfl
def zY(o n:List Eu):(IP o n).length<=n.length:=List.length_filter_le _ _
def vV{l:List Fld}{x y:Ep}(hx:Hf l x)(hy:y∈x.args):Hf l y:=by
 obtain ⟨h1,h2⟩:=hx
 rw [IJ,AR] at h1
 have hf : ∀ r:List Ep,Vo r=true -> ∀ z∈r,RQ z=true:=by
  intro r
  induction r with
  | nil=>intro _ z hz;cases hz
  | cons a r ih =>
   intro h z hz
   rw [KY,AR] at h
   rcases AZ.1 hz with rfl|hz
   ·exact h.1
   ·exact ih h.2 z hz
 refine ⟨hf _ h1.2 y hy,λz hz=>h2 z ?_⟩
 have hs : ∀ r:List Ep,y∈r->z∈L8 r:=by
  intro r
  induction r with
  | nil=>intro h;cases h
  | cons a r ih =>
   intro h
   rw [If]
   rcases AZ.1 h with rfl|h
   ·exact C8 _ hz
   ·exact Dm _ (ih h)
 rw [Kk]
 exact B9 _ (hs _ hy)
def Vm{l:List Fld}(hl:Iy l){x:Ep}(hx:Hf l x):
  (x.kind=1/\IE l x.pred)\/(x.kind=2/\HA (FY l x.field).1/\(FY l x.field).2=true/\0<=x.n/\x.n.toNat<2^fW (FY l x.field).1) \/
  ((x.kind=3\/x.kind=4) /\ ∃ a b,x.args=[a,b]/\Hf l a/\Hf l b)\/(x.kind=5 /\ ∃ a,x.args=[a]/\Hf l a):=by
 have hfit:=hx.2 x (by rw [Kk];simp)
 have harg:=λy hy=>vV (y:=y) hx hy
 have hfm:=hx.1
 rw [IJ,AR,AR,beq_iff_eq] at hfm
 obtain ⟨⟨hok,hlen⟩,_⟩:=hfm
 unfold U7 at hok hlen
 unfold RB at hfit
 by_cases k1:x.kind=1
 ·rw [iP k1] at hok hfit
  rw [AR] at hok
  exact .inl ⟨k1,hok.1,(PU l _).1 hfit⟩
 rw [iN k1] at hok hlen hfit
 by_cases k2:x.kind=2
 ·rw [iP k2] at hok hfit
  by_cases hf:(FY l x.field).2=false
  ·rw [iP hf] at hfit;cases hfit
  ·rw [iN hf] at hfit
   have hft:(FY l x.field).2=true:=by simpa using hf
   have hfo:=Ig hl hft
   rw [RE hfo] at hfit
   have hp:=Ba (fW (FY l x.field).1)
   simp [NB] at hok
   refine .inr (.inl ⟨k2,hfo,hft,hok.2.2.1, ?_⟩)
   split at hfit
   ·cases hfit
   ·omega
 rw [iN k2] at hok hlen
 by_cases k3:x.kind=3\/x.kind=4
 ·rw [iP k3] at hlen
  refine .inr (.inr (.inl ⟨k3, ?_⟩))
  match hxa:x.args,hlen with
  | [a,b],_=>exact ⟨a,b,rfl,harg a (by rw [hxa];simp),harg b (by rw [hxa];simp)⟩
 rw [iN k3] at hok hlen
 by_cases k5:x.kind=5
 ·rw [iP k5] at hlen
  refine .inr (.inr (.inr ⟨k5, ?_⟩))
  match hxa:x.args,hlen with
  | [a],_=>exact ⟨a,rfl,harg a (by rw [hxa];simp)⟩
 rw [iN k5] at hok
 cases hok
def Q2(l:List Fld)(hl:Iy l)(t:Int): ∀ x:Ep,Hf l x -> ∀ h r,FV h=true->vO l t x h=some r->I6 r:=by
 refine Hj _ λx ih=>λhx h r hr e=>?_
 rw [AFV] at e
 unfold Uh at e
 rcases Vm hl hx with ⟨k,gp⟩|⟨k,hfo,hft,hn,hn2⟩|⟨k,a,b,ha,ga,gb⟩|⟨k,a,ha,ga⟩
 ·rw [iP k] at e
  have e2:=Option.some.inj e
  by_cases hb:hP l t x.pred h=true
  ·rw [iP hb] at e2;rw [<- e2];exact PR hr
  ·rw [iN hb] at e2;rw [<- e2];exact La
 ·rw [iN FM,iP k] at e
  cases e
  exact PR (NI hfo hn2 hr)
 ·have e0:N2 (Wp l t x.args) 0=vO l t a:=R5 l t (by rw [ha];rfl)
  have e1:N2 (Wp l t x.args) 1=vO l t b:=R5 l t (by rw [ha];rfl)
  rw [e0,e1] at e
  have ih0:=ih a (by rw [ha];simp) ga
  have ih1:=ih b (by rw [ha];simp) gb
  rcases k with k|k
  ·rw [iN FM,iN FM,iP k] at e
   cases hva:vO l t a h with
   | none=>rw [hva] at e;cases e
   | some u =>
    cases hvb:vO l t b h with
    | none=>rw [hva,hvb] at e;cases e
    | some v =>
     rw [hva,hvb] at e
     dsimp only [WD] at e
     by_cases hc:256<(Gq u v).length
     ·rw [iP hc] at e;cases e
     ·rw [iN hc] at e;cases e
      exact Ij (ih0 h u hr hva) (ih1 h v hr hvb).2.2 hc
  ·rw [iN FM,iN FM,iN FM,iP k] at e
   cases hva:vO l t a h with
   | none=>rw [hva] at e;cases e
   | some u =>
    rw [hva] at e
    exact PS ih1 u [] r La (ih0 h u hr hva).2.2 e
 ·have e0:N2 (Wp l t x.args) 0=vO l t a:=R5 l t (by rw [ha];rfl)
  rw [iN FM,iN FM,iN FM,iN FM,e0] at e
  exact Yf (ih a (by rw [ha];simp) ga) 300 [h] [h] r (PR hr) (by simpa using hr) e
inductive RchH (f:Eu->Option (List Eu)) (x:Eu):Eu->Prop
 | refl:RchH f x x
 | step {y z:Eu} {b:List Eu}:RchH f x y->f y=some b->z∈b->RchH f x z
def RchH.trans{f:Eu->Option (List Eu)}{x y z:Eu}(h1:RchH f x y)(h2:RchH f y z):RchH f x z:=by
 induction h2 with
 | refl=>exact h1
 | step _ h3 h4 ih=>exact ih.step h3 h4
def RchH.closed{f:Eu->Option (List Eu)}{S:Eu->Prop}(hS : ∀ x,S x -> ∀ b,f x=some b -> ∀ z∈b,S z){x z:Eu}(hx:S x)(h:RchH f x z):S z:=by
 induction h with
 | refl=>exact hx
 | step _ h3 h4 ih=>exact hS _ ih _ h3 _ h4
def cR{h:Eu}(hr:FV h=true){n:Int}(h0:0<=n)(h1:n<=65535):FV { h with h0:=n }=true :=
 TB hr 0 h0 h1
end Go.AI
