/- Contracts of the program's names and sizes. -/
import Derived.Test.YtebladleneahcaaGreatDoorMg
import Derived.Sort.Walk0
set_option linter.unusedSimpArgs false
set_option linter.unusedVariables false
set_option linter.defProp false
open Go.Proofs.Tryz
open Go.AI renaming Pred->Es,Policy->Et,Sizes->Eu,Stage->Ev,Tenant->Ew,Head->Ex
open Bool renaming and_eq_true->AQ,and_false->Di,and_true->Bh,eq_iff_iff->BB,false_or->Bp,not_eq_true->Df,not_false->Aw,not_true->Av,or_eq_false_iff->CF,or_eq_true->CI,true_and->By,true_or->BV
open Int renaming fdiv_eq_ediv_of_nonneg->Dp,lt_irrefl->AX,toNat_natCast->Af,toNat_one->EI
open Go.IntKind renaming bits->DK,signed->Do,wrap->Dn
open List renaming all_cons->Al,all_eq_true->Am,any_cons->As,any_eq_false->Bj,any_eq_true->Cc,drop_eq_getElem_cons->BL,drop_zero->BN,ext_getElem?->A4,find?_cons->Bz,foldl_cons->CE,getD_eq_getElem?_getD->Ct,getElem?_append_left->AT,getElem?_append_right->AM,getElem?_eq_getElem->AL,getElem?_eq_none->Az,getElem?_eq_some_iff->AC,getElem?_map->AZ,getElem?_set->Au,length_append->AF,length_cons->AD,length_map->Aq,map_map->Bx,mem_append->Ar,mem_append_left->Co,mem_append_right->DO,mem_cons->AW,mem_cons_of_mem->B0,mem_map->AN,mem_of_getElem?->AB,mem_range->Br,mem_singleton->Ab,pairwise_cons->Bi,range->Ak,takeWhile->EH,take_add_one->BF,take_length->BI
open Nat renaming add_comm->CD,and_le_left->DL,and_lt_two_pow->Dq,and_two_pow_sub_one_eq_mod->EP,eq_of_testBit_eq->EN,le_refl->AU,le_trans->AK,lt_of_le_of_lt->Ca,lt_of_lt_of_le->BQ,lt_or_ge->BM,min_eq_left->B7,mod_eq_of_lt->Bv,mul_lt_mul_of_pos_right->EK,or_lt_two_pow->EJ,pow_add->EL,pow_le_pow_right->BZ,shiftLeft_eq->Dr,sub_self->AP,succ_mul->DW,testBit_and->Cu,testBit_div_two_pow->Cv,testBit_lt_two_pow->EO,testBit_shiftLeft->DM,testBit_two_pow_sub_one->EM,testBit_xor->Ds,two_pow_pos->BY,xor_lt_two_pow->Cd
open Go.Proofs.Tryz renaming prog->AA
namespace Go.AI
open Go.Proofs
set_option maxRecDepth 50000
@[go_sem] def AVs{P:Program}{t:TypeId}{x y:ByteArray}{d:Tmp}{K:Kt}{e:Ft}{H:FR}:Ih P .lss t (.str x) (.str y) d K e H=K ((d,.bool (Op.bytesLess x.toList y.toList))::e) H:=by rw [PB];simp [KD]
@[go_sem] def Ago{P:Program}{o:Option TypeId}{e:Ft}:G5 P o e (.global 0) = .cptr (HI.map AV.str) 0:=rfl
def qX{P:Program}{f:FuncId}{vs:List AV}{d:Option Tmp}{K:Kt}{e:Ft}{H:FR}{v:AV}(h:A' P f vs v)(hk:K (put d v e) H):Fr P f vs d K e H :=
 (h H).mono λv' H' hr=>by obtain ⟨rfl,rfl⟩:=hr;exact hk
def GJ(P:Program)(f:FuncId)(vs:List AV)(H:FR)(v:AV):Prop:=FZ P f vs H λv' H'=>v'=v/\H'=H
def qW{P:Program}{f:FuncId}{vs:List AV}{d:Option Tmp}{K:Kt}{e:Ft}{H:FR}{v:AV}(h:GJ P f vs H v)(hk:K (put d v e) H):Fr P f vs d K e H :=
 h.mono λv' H' hr=>by obtain ⟨rfl,rfl⟩:=hr;exact hk
def aP{P:Program}{f:FuncId}{vs:List AV}{d:Option Tmp}{K:Kt}{e:Ft}{H:FR}{v:AV}(h:A' P f vs v)(hk:K (put d v e) H):Fr P f vs d K e H:=qX h hk
def aS{P:Program}{f:FuncId}{vs:List AV}{d:Option Tmp}{K:Kt}{e:Ft}{H:FR}{v:AV}(h:GJ P f vs H v)(hk:K (put d v e) H):Fr P f vs d K e H:=qW h hk
def Tr(a b:ByteArray):Bool:=Op.bytesLess a.toList b.toList
def q8(a:ByteArray):Tr a a=false:=by
 unfold Tr;rw [Go.Proofs.bytesLess_eq];simp [List.lt_irrefl]
def ABV{a b c:ByteArray}(h1:Tr a b=true)(h2:Tr b c=true):Tr a c=true:=by
 unfold Tr at *;rw [Go.Proofs.bytesLess_eq,decide_eq_true_eq] at *;exact List.lt_trans h1 h2
def ZF(c lo hi:Int):A' AA 359 [.int .u8 c,.int .u8 lo,.int .u8 hi] (.bool (decide (lo<=c)&&decide (c<=hi))):=by
 refine pC AJe rfl ?_
 simp only [f359,go_sem]
 repeat' (first|(first|apply cS|apply gS)<;>intro hc<;>simp only [go_sem,hc])
 all_goals grind
def Vg(c:UInt8):A' AA 333 [.int .u8 c.toNat] (.bool (loB c)):=by
 refine pC AJ8 rfl ?_
 simp only [f333,go_sem]
 repeat' (first|(refine pK (ZF _ _ _) ?_;simp only [go_sem])|(first|apply cS|apply gS)<;>intro hc<;>simp only [go_sem,hc])
 all_goals first|rfl|(simp only [loB,bz])
def sr(c:UInt8):A' AA 362 [.int .u8 c.toNat] (.bool (dgB c)):=by
 refine pC AJV rfl ?_
 simp only [f362,go_sem]
 repeat' (first|(refine pK (ZF _ _ _) ?_;simp only [go_sem])|(first|apply cS|apply gS)<;>intro hc<;>simp only [go_sem,hc])
 all_goals first|rfl|(simp only [dgB,bz])
def aO(c:UInt8):A' AA 337 [.int .u8 c.toNat] (.bool (wdB c)):=by
 refine pC AJw rfl ?_
 simp only [f337,go_sem]
 repeat' (first|((first|refine pK (Vg _) ?_|refine pK (sr _) ?_);simp only [go_sem])|(first|apply cS|apply gS)<;>intro hc<;>simp only [go_sem,hc])
 all_goals (simp only [wdB,bz];grind)
def mL(s:ByteArray):A' AA 324 [.str s] (.bool false):=by
 refine pC AKH rfl ?_
 simp only [f324,go_sem,beq_self_eq_true,Av]
def AAu(s:ByteArray):A' AA 361 [.str s] (.bool false):=by
 refine pC AJY rfl ?_
 simp only [f361,go_sem,beq_self_eq_true,Av]
def AIi(a b:ByteArray):A' AA 360 [.str a,.str b] (.bool (Tr a b)):=by
 refine pC AJb rfl ?_
 simp only [f360,go_sem]
 repeat' (first|(refine pK (mL _) ?_;simp only [go_sem])|(first|apply cS|apply gS)<;>intro hc<;>simp only [go_sem,hc])
 all_goals rfl
def bsI(s:ByteArray):Nat:=(HI.takeWhile λw=>Tr w s).length
def NM : ∀ i j:Nat,i<j->j<49->Tr (HI.getD i ⟨#[]⟩) (HI.getD j ⟨#[]⟩)=true:=by
 have h:((Ak 49).all λj=>(Ak j).all λi=>Tr (HI.getD i ⟨#[]⟩) (HI.getD j ⟨#[]⟩))=true:=kr
 intro i j hi hj
 have h1:=Am.1 h j (Br.2 hj)
 exact Am.1 h1 i (Br.2 hi)
def Mi:HI.length=49:=rfl
def P7{α:Type}{p:α->Bool}: ∀ (l:List α) (n:Nat),n<=l.length->(∀ k x,l[k]? =some x->k<n->p x=true)->(∀ x,l[n]? =some x->p x=false)->(l.takeWhile p).length=n
 | [],n,hn,_,_=>by simp at hn;subst hn;rfl
 | y::l,0,_,_,h2=>by
  have:=h2 y rfl
  simp [EH,this]
 | y::l,n+1,hn,h1,h2=>by
  have hy:=h1 0 y rfl FQ
  simp only [EH,hy,AD]
  rw [P7 l n (by simp at hn;omega) (λk x hk hl=>h1 (k+1) x (by simpa using hk) FQ) (λx hx=>h2 x (by simpa using hx))]
def zk{s:ByteArray}{i:Nat}(hi:i<=49)(h1 : ∀ k,k<i->Tr (HI.getD k ⟨#[]⟩) s=true)(h2 : ∀ k,i<=k->k<49->Tr (HI.getD k ⟨#[]⟩) s=false):
  Th s=(decide (i<49)&&decide (HI.getD i ⟨#[]⟩=s)):=by
 rw [BB,AQ,decide_eq_true_eq,decide_eq_true_eq,Th,Cc]
 constructor
 ·rintro ⟨w,hw,he⟩
  have he:w=s:=by simpa using he
  subst he
  obtain ⟨m,hm⟩:=List.getElem?_of_mem hw
  have hml:m<49:=by have:=(AC.1 hm).1;rw [Mi] at this;exact this
  have hmg:HI.getD m ⟨#[]⟩=w:=by rw [Ct,hm];rfl
  rcases BM m i with h|h
  ·have:=h1 m h;rw [hmg,q8] at this;cases this
  ·rcases BM i m with h'|h'
   ·have:=NM i m h' hml
    rw [hmg] at this
    rw [h2 i (AU _) FQ] at this;cases this
   ·have:i=m:=FQ
    subst this
    exact ⟨hml,hmg⟩
 ·rintro ⟨hl,he⟩
  have hm:HI.getD i ⟨#[]⟩∈HI:=by
   have:=AL (l:=HI) (i:=i) (by rw [Mi];exact hl)
   rw [Ct,this]
   exact List.getElem_mem _
  exact ⟨_,hm,decide_eq_true he⟩
def VF{k:Nat}(h:k<49):(HI.map AV.str)[k]? =some (.str (HI.getD k ⟨#[]⟩)):=by
 rw [AZ,Ct,AL (by rw [Mi];exact h)];rfl
@[go_sem] def AHH:FV (HI.map AV.str)=true:=kr
@[go_sem] def AIO:(HI.map AV.str).length=49:=rfl
@[go_sem] def AVu{P:Program}{t:TypeId}{x:Int}{d:Tmp}{K:Kt}{e:Ft}{H:FR}:Ih P .shr t (.int .u64 x) (.int .u64 1) d K e H=K ((d,.int .u64 (x.fdiv 2))::e) H:=by
 rw [HN];simp [KD,DK]
def AdZ{i j:Nat}(hj:j<=49)(hi:i<j):IntKind.i64.wrap ((IntKind.u64.wrap (IntKind.i64.wrap ((i:Int)+(j:Int)))).fdiv 2)=(((i+j) / 2:Nat):Int):=by
 have e1:IntKind.i64.wrap ((i:Int)+(j:Int))=((i+j:Nat):Int):=OQ FQ FQ
 rw [e1]
 have e2:IntKind.u64.wrap ((i+j:Nat):Int)=((i+j:Nat):Int):=by
  simp [Dn,Do,DK];omega
 rw [e2]
 have e3:((i+j:Nat):Int).fdiv 2=(((i+j) / 2:Nat):Int):=by
  rw [Dp _ dc];omega
 rw [e3]
 exact OQ FQ FQ
set_option maxHeartbeats 2000000 in
def AAp(s:ByteArray):A' AA 334 [.sl none (HI.map AV.str),.str s] (.tup [.int .i64 (bsI s),.bool (Th s)]):=by
 refine pB AJ5 rfl ?_
 simp only [f334,go_sem]
 refine Km (σ:=Nat×Nat) (λs2=>[(0,.sl none (HI.map AV.str)),(1,.str s),(6,.int .i64 49),(7,.int .i64 s2.1),(8,.int .i64 s2.2)]) (λ_=>[]) (λs2=>s2.1<=s2.2/\s2.2<=49/\(∀ k,k<s2.1->Tr (HI.getD k ⟨#[]⟩) s=true)/\(∀ k,s2.2<=k->k<49->Tr (HI.getD k ⟨#[]⟩) s=false)) (λs2=>s2.2 - s2.1) (0,49) ⟨FQ,FQ,λk hk=>FQ,λk h1 h2=>FQ⟩ rfl rfl ?_
 rintro ⟨i,j⟩ ⟨hij,hj,h1,h2⟩
 by_cases hlt:i<j
 ·have g1:(i:Int)<(j:Int):=FQ
  have g2:(0:Int)<=(((i+j) / 2:Nat):Int):=FQ
  have g3:(((i+j) / 2:Nat):Int).toNat=(i+j) / 2:=FQ
  have hm:(i+j) / 2<49:=FQ
  have hw:=Mj (k:=(i+j) / 2) FQ
  simp only [go_sem,g1,dT,AdZ hj hlt,g2,g3,VF hm]
  repeat' (first|(refine pK (AIi _ _) ?_;simp only [go_sem])|(first|apply cS|apply gS)<;>intro hc<;>simp only [go_sem,hc,hw])
  ·exact ⟨((i+j) / 2+1,j),⟨FQ,hj,λk hk=>by
    rcases BM k ((i+j) / 2) with h|h
    ·exact ABV (NM _ _ h hm) hc
    ·have:k=(i+j) / 2:=FQ
     subst this;exact hc,h2⟩,FQ,rfl,rfl⟩
  ·exact ⟨(i,(i+j) / 2),⟨FQ,FQ,h1,λk hk hk9=>by
    rcases BM ((i+j) / 2) k with h|h
    ·cases hq:Tr (HI.getD k ⟨#[]⟩) s with
     | false=>rfl
     | true=>rw [ABV (NM _ _ h hk9) hq] at hc;cases hc
    ·have:k=(i+j) / 2:=FQ
     subst this;exact hc⟩,FQ,rfl,rfl⟩
 ·have hij:i=j:=FQ
  subst hij
  have g1 : ¬ (i:Int)<(i:Int):=FQ
  have hwb:Th s=(decide (i<49)&&decide (HI.getD i ⟨#[]⟩=s)):=zk hj h1 h2
  have hbs:bsI s=i:=P7 HI i (by rw [Mi];exact hj) (λk x hk hl=>by
   have:=h1 k hl;rw [Ct,hk] at this;exact this) (λx hx=>by
   have:=h2 i (AU _) (by have:=(AC.1 hx).1;rw [Mi] at this;exact this)
   rw [Ct,hx] at this;exact this)
  by_cases h49:i<49
  ·have g3:(i:Int)<49:=FQ
   have g4:(0:Int)<=(i:Int):=FQ
   simp only [go_sem,g1,dF,g3,g4,dT,VF h49,FU]
   repeat' (first|(refine pK (AAu _) ?_;simp only [go_sem])|(first|apply cS|apply gS)<;>intro hc<;>simp only [go_sem,hc,g4,VF h49,Af])
   all_goals (rw [hbs,hwb,hc];simp only [h49,dT,Di,Aw,Bh])
  ·have g3 : ¬ (i:Int)<49:=FQ
   simp only [go_sem,g1,dF,g3]
   repeat' (first|(refine pK (AAu _) ?_;simp only [go_sem,g1,g3])|(first|apply cS|apply gS)<;>intro hc<;>simp only [go_sem,hc,g1,g3])
   all_goals (rw [hbs,hwb];simp [h49])
def ACe(s:ByteArray){k:Nat}(h:k<=s.size):(s.extract k s.size).size=s.size - k:=by simp [ByteArray.size_extract]
def AF2(s:ByteArray){k:Nat}(h:k<s.size):((s.extract k s.size).data[0]?).getD 0=(s.data[k]?).getD 0:=by
 have:(s.extract k s.size).data=s.data.extract k s.size:=by simp [ByteArray.data_extract]
 have h2:s.size=s.data.size:=rfl
 rw [this,Array.getElem?_extract]
 have h3:0<s.size - k:=FQ
 simp [<- h2,h,h3]
def AFS(s:ByteArray)(h:0<s.size):A' AA 336 [.str s] (.bool (wdB ((s.data[0]?).getD 0))):=by
 have h0:(0:Int)<(s.size:Int):=FQ
 refine pC AJz rfl ?_
 simp only [f336,go_sem,h0]
 repeat' (first|(refine pK (aO _) ?_;simp only [go_sem])|(first|apply cS|apply gS)<;>intro hc<;>simp only [go_sem,hc,h0])
def AAr(s:ByteArray)(hs:s.size<=1073741824):A' AA 335 [.str s,.fn (.func 336) [] []] (.str (s.extract 0 (MP s.data.toList))):=by
 refine pC AJ2 rfl ?_
 simp only [f335,go_sem]
 refine W0 s (λl=>s.size - l.length+MP l) (λk=>[(0,.str s),(1,.fn (.func 336) [] []),(5,.int .i64 k)]) FQ rfl ?_ ?_
 ·intro k x xs hd hx hF h0 h1 hw hl
  rw [TQ] at hF
  simp only [AD,MP] at hF
  have hk:k<s.size:=FQ
  have hk2:(k:Int)<=(s.size:Int):=FQ
  have hp:0<(s.extract k s.size).size:=by rw [ACe s FQ];omega
  simp only [go_sem,h0,h1,hk2]
  repeat' (first|(refine aP (AFS _ hp) ?_;simp only [go_sem,AF2 s hk,hx])|(first|apply cS|apply gS)<;>intro hc<;>simp only [go_sem,hc,hw])
  ·rw [MP,iP hc];omega
  ·rw [iN (by rw [hc];decide)] at hF
   have:MP s.data.toList=k:=FQ
   exact ⟨FQ,FQ,by rw [this]⟩
 ·intro hF hlt
  simp only [go_sem,hlt,dF]
  rw [TQ] at hF
  have:MP s.data.toList=s.size:=by simp only [MP,List.length_nil] at hF;omega
  exact ⟨FQ,by rw [this]⟩
def AF3{s:ByteArray}{n:Nat}(h:n<=s.size):(s.extract 0 n=s)↔n=s.size:=by
 constructor
 ·intro he
  have:=congrArg ByteArray.size he
  rw [ByteArray.size_extract] at this
  omega
 ·rintro rfl
  exact ByteArray.extract_zero_size
def qh : ∀ l:List UInt8,MP l<=l.length
 | []=>by simp [MP]
 | c::l=>by have:=qh l;unfold MP;split<;>simp<;>omega
def sq(s:ByteArray)(hs:s.size<=1073741824):A' AA 311 [.str s] (.bool (tnB s)) := by
  have hr:MP s.data.toList<=s.size := by have := qh s.data.toList;rw [TQ] at this;exact this
  have hx:decide (s.extract 0 (MP s.data.toList)=s)=((MP s.data.toList:Int)==(s.size:Int)) := by
    rw [BB,decide_eq_true_eq,AF3 hr,beq_iff_eq];omega
  refine pC AKr rfl ?_
  by_cases hz:s=⟨#[]⟩
  · subst hz
    simp only [f311,go_sem,FU,dT]
    rfl
  · have h0:(0:Int)<(s.size:Int) := by
      have:s.size≠0 := λh=>hz (ByteArray.size_eq_zero_iff.1 h)
      omega
    simp only [f311,go_sem,FU,hz,dF]
    repeat' (first|((first|refine pK (Vg _) ?_|refine pK (AAp _) ?_|refine pK (AAr _ hs) ?_);simp only [go_sem,FU,hx])|(first|apply cS|apply gS)<;>intro hc<;>simp only [go_sem,hc,h0])
    all_goals first
      | rfl
      | (obtain ⟨x,xs,hx2⟩ : ∃ x xs,s.data.toList=x::xs := by
          cases h:s.data.toList with
          | nil=>rw [<- TQ,h] at h0;simp at h0
          | cons x xs=>exact ⟨x,xs,rfl⟩
         have hx0:(s.data[0]?).getD 0=x := by rw [<- Array.getElem?_toList,hx2];rfl
         simp only [hx0] at *
         simp only [tnB,hx2]
         simp only [hx2] at *
         grind)
      | skip
def AFR(s:ByteArray)(hs:s.size<=1073741824):A' AA 263 [.str s] (.bool (tnB s)):=by
 refine pC AMY rfl ?_
 simp only [f263,go_sem]
 repeat' (first|(refine pK (sq _ hs) ?_;simp only [go_sem])|(first|apply cS|apply gS)<;>intro hc<;>simp only [go_sem,hc])
def Id(s:ByteArray)(hs:s.size<=1073741824):A' AA 209 [.str s] (.bool (U5 s)):=by
 refine pC AOY rfl ?_
 simp only [f209,go_sem,FU]
 repeat' (first|(refine pK (AFR _ hs) ?_;simp only [go_sem])|(first|apply cS|apply gS)<;>intro hc<;>simp only [go_sem,hc])
 all_goals first
  | rfl
  | (simp only [U5,GI];rfl)
  | grind [FU,U5,GI,Bp,BV,Aw]
  | (simp only [U5,GI];grind)
  | (simp [FU,U5,GI,hc,Bp,BV,Aw, *];done)
  | (simp_all [FU,U5,GI,hc,Bp,BV,Aw];done)
  | skip
def Ic(n:Int):A' AA 210 [.int .i64 n] (.bool (RO n)):=by
 refine pC AOV rfl ?_
 simp only [f210,go_sem]
 repeat' (first|(first|apply cS|apply gS)<;>intro hc<;>simp only [go_sem,hc])
 all_goals first
  | rfl
  | (simp only [RO];rfl)
  | grind [RO]
  | (simp only [RO];grind)
  | (simp [RO, *];done)
  | (simp_all [RO];done)
  | skip
def VL(n:Int):Bool:=decide (0<=n)&&decide (n<=1073741824)
def NW(n:Int):A' AA 268 [.int .i64 n] (.bool (VL n)):=by
 refine pC AMP rfl ?_
 simp only [f268,go_sem]
 repeat' (first|(first|apply cS|apply gS)<;>intro hc<;>simp only [go_sem,hc])
 all_goals first
  | rfl
  | (simp only [VL];rfl)
  | grind [VL]
  | (simp only [VL];grind)
  | (simp [VL, *];done)
  | (simp_all [VL];done)
  | skip
def AAl{cs:List AV}{l:List AV}(h:HU (.agg cs::l)):HU cs:=h.1
def HL{α:Type}(p:α->Bool):Nat->List α->Int
 | _,[] => -1
 | i,x::l=>if p x then (i:Int) else HL p (i+1) l
def H7{α:Type}(p:α->Bool)(l:List α):Int:=HL p 0 l
def Pf{α:Type}(p:α->Bool): ∀ (l:List α) (i:Nat),decide (0<=HL p i l)=l.any p
 | [],i=>rfl
 | x::l,i=>by
  rw [HL,As]
  cases h:p x with
  | true=>simp
  | false=>simp [Pf p l (i+1)]
def rm{α:Type}(p:α->Bool)(l:List α):(!(l.any λx => !p x))=l.all p:=by
 induction l with
 | nil=>rfl
 | cons x l ih=>simp only [As,Al,Bool.not_or,Bool.not_not,ih]
@[go_sem] def AdD{α:Type}(l:List α)(x:α):(l++[x])[l.length]? =some x:=sm
def fE {H:FR} (l:List Es) (hl:l.length<=9223372036854775807) (g:FuncId) (fi ca:List AV) (p:Es->Bool)
  (h : ∀ x∈l,GJ AA g (fi.map AV.borrow++(.agg x.c::ca.map AV.borrow)) H (.bool (p x))) :
  GJ AA 338 [.sl none (GG l),.fn (.func g) fi ca] H (.int .i64 (H7 p l)):=by
 unfold GJ
 refine aC AJt rfl ?_
 simp only [f338,go_sem]
 refine Fd l (λr=>HL p (l.length - r.length) r) (λk=>[(0,.sl none (GG l)),(1,.fn (.func g) fi ca),(7,.int .i64 l.length),(8,.int .i64 k)]) hl rfl ?_ ?_
 ·intro k x xs hd hx hF h0 h1 hw
  have hk2:=Fo hd
  have e1:l.length - (xs.length+1)=k:=FQ
  have e2:l.length - xs.length=k+1:=FQ
  simp only [AD,e1,AP] at hF
  simp only [go_sem,h0,h1,GL hx]
  repeat' (first|(refine aS (h x (AB hx)) ?_;simp only [go_sem])|(first|apply cS|apply gS)<;>intro hc<;>simp only [go_sem,hc,hw,e1,e2])
  ·rw [H7,hF,HL,iP hc]
  ·rw [HL,iN (by rw [hc];decide)]
 ·intro hF hlt
  simp only [go_sem,hlt,dF]
  rw [AP] at hF
  rw [H7,hF];rfl
def Vl {H:FR} (l:List Es) (hl:l.length<=9223372036854775807) (g:FuncId) (fi ca:List AV) (p:Es->Bool)
  (h : ∀ x∈l,GJ AA g (fi.map AV.borrow++(.agg x.c::ca.map AV.borrow)) H (.bool (p x))) :
  GJ AA 313 [.sl none (GG l),.fn (.func g) fi ca] H (.bool (l.any p)):=by
 unfold GJ
 refine aC AKo rfl ?_
 simp only [f313,go_sem]
 repeat' (first|(refine aS (fE l hl g fi ca p h) ?_;simp only [go_sem])|(first|apply cS|apply gS)<;>intro hc<;>simp only [go_sem,hc])
 rw [H7,Pf]
def Hu(l:List Es)(hl:l.length<=9223372036854775807)(n:Int)(g:FuncId)(p:Es->Bool)(h : ∀ x∈l,A' AA g [.agg x.c] (.bool (p x))):
  A' AA 269 [.sl none (GG l),.int .i64 n,.fn (.func g) [] []] (.bool (((l.length:Int)==n)&&l.all p)):=by
 refine pC AMM rfl ?_
 simp only [f269,go_sem]
 have h1 : ∀ x∈l,GJ AA 314 [.agg x.c,.ptr 0 0] [some [.fn (.func g) [] []]] (.bool (!p x)):=by
  intro x hx
  refine FZ.drop rfl ?_
  refine aC AKl rfl ?_
  simp only [f314,go_sem]
  repeat' (first|(refine aP (h x hx) ?_;simp only [go_sem])|(first|apply cS|apply gS)<;>intro hc<;>simp only [go_sem,hc])
  exact ⟨_,rfl⟩
 repeat' (first|(refine aS (Vl l hl 314 [] [.ptr 0 0] (λx => !p x) h1) ?_;simp only [go_sem,rm])|(first|apply cS|apply gS)<;>intro hc<;>simp only [go_sem,hc])
def Xo {H:FR} (l:List Et) (hl:l.length<=9223372036854775807) (g:FuncId) (fi ca:List AV) (p:Et->Bool)
  (h : ∀ x∈l,GJ AA g (fi.map AV.borrow++(.agg x.c::ca.map AV.borrow)) H (.bool (p x))) :
  GJ AA 315 [.sl none (F2 l),.fn (.func g) fi ca] H (.int .i64 (H7 p l)):=by
 unfold GJ
 refine aC AKi rfl ?_
 simp only [f315,go_sem]
 refine Fd l (λr=>HL p (l.length - r.length) r) (λk=>[(0,.sl none (F2 l)),(1,.fn (.func g) fi ca),(7,.int .i64 l.length),(8,.int .i64 k)]) hl rfl ?_ ?_
 ·intro k x xs hd hx hF h0 h1 hw
  have hk2:=Fo hd
  have e1:l.length - (xs.length+1)=k:=FQ
  have e2:l.length - xs.length=k+1:=FQ
  simp only [AD,e1,AP] at hF
  simp only [go_sem,h0,h1,Fx hx]
  repeat' (first|(refine aS (h x (AB hx)) ?_;simp only [go_sem])|(first|apply cS|apply gS)<;>intro hc<;>simp only [go_sem,hc,hw,e1,e2])
  ·rw [H7,hF,HL,iP hc]
  ·rw [HL,iN (by rw [hc];decide)]
 ·intro hF hlt
  simp only [go_sem,hlt,dF]
  rw [AP] at hF
  rw [H7,hF];rfl
def Sz {H:FR} (l:List Et) (hl:l.length<=9223372036854775807) (g:FuncId) (fi ca:List AV) (p:Et->Bool)
  (h : ∀ x∈l,GJ AA g (fi.map AV.borrow++(.agg x.c::ca.map AV.borrow)) H (.bool (p x))) :
  GJ AA 276 [.sl none (F2 l),.fn (.func g) fi ca] H (.bool (l.any p)):=by
 unfold GJ
 refine aC AL1 rfl ?_
 simp only [f276,go_sem]
 repeat' (first|(refine aS (Xo l hl g fi ca p h) ?_;simp only [go_sem])|(first|apply cS|apply gS)<;>intro hc<;>simp only [go_sem,hc])
 rw [H7,Pf]
def JI(l:List Et)(hl:l.length<=9223372036854775807)(n:Int)(g:FuncId)(p:Et->Bool)(h : ∀ x∈l,A' AA g [.agg x.c] (.bool (p x))):
  A' AA 211 [.sl none (F2 l),.int .i64 n,.fn (.func g) [] []] (.bool (((l.length:Int)==n)&&l.all p)):=by
 refine pC AOS rfl ?_
 simp only [f211,go_sem]
 have h1 : ∀ x∈l,GJ AA 277 [.agg x.c,.ptr 0 0] [some [.fn (.func g) [] []]] (.bool (!p x)):=by
  intro x hx
  refine FZ.drop rfl ?_
  refine aC ALy rfl ?_
  simp only [f277,go_sem]
  repeat' (first|(refine aP (h x hx) ?_;simp only [go_sem])|(first|apply cS|apply gS)<;>intro hc<;>simp only [go_sem,hc])
  exact ⟨_,rfl⟩
 repeat' (first|(refine aS (Sz l hl 277 [] [.ptr 0 0] (λx => !p x) h1) ?_;simp only [go_sem,rm])|(first|apply cS|apply gS)<;>intro hc<;>simp only [go_sem,hc])
def mJ(a b:Eu):A' AA 206 [.agg a.c,.agg b.c] (.agg (a.more b).c):=by
 refine pB AOg rfl ?_
 simp only [f206,go_sem]
 rfl
def s5(l:List Es)(hl:l.length<=9223372036854775807)(h : ∀ x∈l,A' AA 195 [.agg x.c] (.agg (ly x).c)):
  A' AA 267 [.sl none (GG l),.fn (.func 195) [] []] (.agg (VO l ⟨1,1⟩).c):=by
 refine pB AMU rfl ?_
 simp only [f267,go_sem]
 refine Fq l (λo l=>VO l o) (λ_ _=>True) (λk o=>[(1,.fn (.func 195) [] []),(4,.ptr 0 0),(5,.ptr 1 0),(9,.sl none (GG l)),(10,.int .i64 l.length),(11,.int .i64 k)]) (λk o=>[some Sizes.z.c,some o.c]) ⟨1,1⟩ hl trivial rfl rfl ?_ ?_
 ·intro k o y ys hd hx _ hF h0 h1 hw
  simp only [go_sem,h0,h1,GL hx]
  repeat' (first|((first|refine pK (h _ (AB hx)) ?_|refine pK (mJ _ _) ?_);simp only [go_sem,hw])|(first|apply cS|apply gS)<;>intro hc<;>simp only [go_sem,hc,h0,h1,hw,GL hx])
  exact ⟨_,Y0 _ _ _,rfl,rfl⟩
 ·intro o _ hF
  simp only [go_sem,AX,dF]
  rw [hF,de]
def fH(a b:List Es)(ha:a.length<=9223372036854775807)(h : ∀ x∈a,∀ y,A' AA 208 [.agg x.c,.agg y.c] (.bool (rM x y))):
  A' AA 275 [.sl none (GG a),.sl none (GG b),.fn (.func 208) [] []] (.bool (((a.length:Int)==(b.length:Int))&&UT a b)):=by
 refine pC AL6 rfl ?_
 simp only [f275,go_sem]
 repeat' (first|(first|apply cS|apply gS)<;>intro hc<;>simp only [go_sem,hc])
 ·simp at hc;simp [hc]
 ·have hlen:a.length=b.length:=by simp at hc;omega
  refine Fq a (λ(_:Unit) r=>UT r (b.drop (a.length - r.length))) (λ_ _=>True) (λk _=>[(1,.sl none (GG b)),(2,.fn (.func 208) [] []),(15,.sl none (GG a)),(16,.int .i64 a.length),(17,.int .i64 k)]) (λk _=>[]) () ha trivial rfl rfl ?_ ?_
  ·intro k _ x xs hd hx _ hF h0 h1 hw
   have hk2:=Fo hd
   obtain ⟨y,hy⟩ : ∃ y,b[k]? =some y:=⟨_,AL FQ⟩
   have e1:a.length - (xs.length+1)=k:=FQ
   have e2:a.length - xs.length=k+1:=FQ
   have hbd:b.drop k=y::b.drop (k+1):=by
    obtain ⟨hlt,rfl⟩:=AC.1 hy
    exact BL hlt
   simp only [AD,e1,AP,BN,hbd,Jl] at hF
   simp only [go_sem,h0,h1,GL hx,GL hy]
   repeat' (first|(refine aP (h _ (AB hx) y) ?_;simp only [go_sem])|(first|apply cS|apply gS)<;>intro hc<;>simp only [go_sem,hc,hw])
   ·simp only [Bool.not_eq_true'] at hc
    rw [hF,hc,Bool.false_and,Di]
   ·simp only [Bool.not_eq_false'] at hc
    exact ⟨(),by rw [e1,e2,hbd,Jl,hc,By]⟩
  ·intro _ _ hF
   simp only [go_sem,AX,dF]
   rw [AP,BN,M9] at hF
   rw [hF,hlen];simp
def fB(l:List Et)(hl:l.length<=9223372036854775807)(h : ∀ x∈l,A' AA 140 [.agg x.c] (.agg (lz x).c)):
  A' AA 205 [.sl none (F2 l),.fn (.func 140) [] []] (.agg (Pu l ⟨1,1⟩).c):=by
 refine pB AOl rfl ?_
 simp only [f205,go_sem]
 refine Fq l (λo l=>Pu l o) (λ_ _=>True) (λk o=>[(1,.fn (.func 140) [] []),(4,.ptr 0 0),(5,.ptr 1 0),(9,.sl none (F2 l)),(10,.int .i64 l.length),(11,.int .i64 k)]) (λk o=>[some Sizes.z.c,some o.c]) ⟨1,1⟩ hl trivial rfl rfl ?_ ?_
 ·intro k o y ys hd hx _ hF h0 h1 hw
  simp only [go_sem,h0,h1,Fx hx]
  repeat' (first|((first|refine pK (h _ (AB hx)) ?_|refine pK (mJ _ _) ?_);simp only [go_sem,hw])|(first|apply cS|apply gS)<;>intro hc<;>simp only [go_sem,hc,h0,h1,hw,Fx hx])
  exact ⟨_,Mk _ _ _,rfl,rfl⟩
 ·intro o _ hF
  simp only [go_sem,AX,dF]
  rw [hF,OS]
def mK : ∀ x:Es,A' AA 195 [.agg x.c] (.agg (ly x).c):=by
 refine JM _ λx ih=>?_
 refine A'.fit ACG.c λhf=>?_
 have hl:=Ku (AAl hf)
 refine pB ACG rfl ?_
 simp only [f195,go_sem]
 repeat' (first|(refine pK (s5 _ hl (λy hy=>ih y hy)) ?_;simp only [go_sem])|(first|apply cS|apply gS)<;>intro hc<;>simp only [go_sem,hc])
 rw [AAD]
def rC(a b:Int):i64 (i64 a+b)=i64 (a+b):=by
 simp only [i64,Dn,Do,DK]
 simp
 split<;>split<;>split<;>omega
def tY(a b c:Eu):(a.more b).more c=(a.more c).more b:=by
 unfold Sizes.more Qv
 simp only [Sizes.mk.injEq]
 refine ⟨?_, ?_⟩
 ·rw [rC,rC];congr 1;omega
 ·grind
def Y1(z:Eu): ∀ (l:List Et) (o:Eu),Pu l (o.more z)=(Pu l o).more z
 | [],o=>by rw [OS,OS]
 | x::l,o=>by rw [Mk,Mk,tY,Y1 z l]
def aL : ∀ x:Et,A' AA 140 [.agg x.c] (.agg (lz x).c):=by
 refine Hn _ λx ih=>?_
 refine A'.fit ACM.c λhf=>?_
 have hl:=JS (AAl hf)
 refine pB ACM rfl ?_
 simp only [f140,go_sem]
 repeat' (first|((first|refine pK (fB _ hl (λy hy=>ih y hy)) ?_|refine pK (mK _) ?_|refine pK (mJ _ _) ?_);simp only [go_sem])|(first|apply cS|apply gS)<;>intro hc<;>simp only [go_sem,hc])
 ·rw [Z6,iP (by simpa using hc),Y1]
 ·rw [Z6,iN (by simpa using hc)]
def AFI(z:Eu):A' AA 207 [.agg z.c] (.int .i64 (Qj z)):=by
 refine pC AOd rfl ?_
 simp only [f207,go_sem]
 repeat' (first|(first|apply cS|apply gS)<;>intro hc<;>simp only [go_sem,hc])
 all_goals first
  | rfl
  | (simp only [Qj];rfl)
  | grind [Qj]
  | (simp only [Qj];grind)
  | (simp [Qj, *];done)
  | (simp_all [Qj];done)
  | skip
def AFL{H:FR}(z:Eu)(g:FuncId)(ca:List AV)(b:Bool)(h:GJ AA g (ca.map AV.borrow) (H++[some z.c]) (.bool b)):
  GJ AA 141 [.agg z.c,.fn (.func g) [] ca] H (.int .i64 (rI z b)):=by
 refine FZ.drop rfl ?_
 refine aC AQa rfl ?_
 simp only [f141,go_sem]
 repeat' (first|((first|refine pK (AFI _) ?_|refine aS (h) ?_);simp only [go_sem])|(first|apply cS|apply gS)<;>intro hc<;>simp only [go_sem,hc])
 all_goals simp_all [rI]
def AdY(a b:Nat):((a:Int)==(b:Int))=(a==b):=by
 rw [BB];simp;omega
def KQ : ∀ x y:Es,A' AA 208 [.agg x.c,.agg y.c] (.bool (rM x y)):=by
 refine JM _ λx ih=>λy=>?_
 refine A'.fit ACF.c λhf=>?_
 have hl:=Ku (AAl hf)
 refine pC ACF rfl ?_
 simp only [f208,go_sem]
 repeat' (first|(refine pK (fH _ _ hl (λy hy z=>ih y hy z)) ?_;simp only [go_sem])|(first|apply cS|apply gS)<;>intro hc<;>simp only [go_sem,hc,FU])
 all_goals (rw [Io];simp_all [AdY])
def JL : ∀ l:List Es,WV l=l.all NL
 | []=>by rw [M2];rfl
 | x::l=>by rw [Ka,Al,JL l]
def M4 : ∀ l:List Et,WW l=l.all R0
 | []=>by rw [M3];rfl
 | x::l=>by rw [Kb,Al,M4 l]
def Xz{α:Type}(l:List α):((l.length:Int)==0)=l.isEmpty:=by
 cases l<;>simp;omega
def J6{a b:Int}(h:a≠b):(a==b)=false:=by simp [h]
def AWb
(field:ByteArray) (n m:Int) (args:List Es) (hl:args.length<=9223372036854775807) (hfs:field.size<=1073741824) (hev : ∀ y∈args,A' AA 197 [.agg y.c] (.bool (NL y))):A' AA 197 [.agg (Pred.c ⟨1,field,n,m,args⟩)] (.bool (NL ⟨1,field,n,m,args⟩)):=by
 refine pC MX rfl ?_
 simp only [f197,go_sem,FU]
 repeat' (first|((first|refine pK (Id _ hfs) ?_|refine pK (Ic _) ?_|refine pK (NW _) ?_|refine pK (Hu _ hl _ _ NL hev) ?_);simp only [go_sem,FU,Int.reduceBEq,Xz])|(first|apply cS|apply gS)<;>intro hc<;>simp only [go_sem,hc,Int.reduceBEq,Xz])
 all_goals (rw [Hl];cases args<;>(simp_all [S4,Kz,JL]<;>first|omega|grind|skip))
def AWa
(field:ByteArray) (n m:Int) (args:List Es) (hl:args.length<=9223372036854775807) (hfs:field.size<=1073741824) (hev : ∀ y∈args,A' AA 197 [.agg y.c] (.bool (NL y))):A' AA 197 [.agg (Pred.c ⟨2,field,n,m,args⟩)] (.bool (NL ⟨2,field,n,m,args⟩)):=by
 refine pC MX rfl ?_
 simp only [f197,go_sem,FU]
 repeat' (first|((first|refine pK (Id _ hfs) ?_|refine pK (Ic _) ?_|refine pK (NW _) ?_|refine pK (Hu _ hl _ _ NL hev) ?_);simp only [go_sem,FU,Int.reduceBEq,Xz])|(first|apply cS|apply gS)<;>intro hc<;>simp only [go_sem,hc,Int.reduceBEq,Xz])
 all_goals (rw [Hl];cases args<;>(simp_all [S4,Kz,JL]<;>first|omega|grind|skip))
def AWZ
(field:ByteArray) (n m:Int) (args:List Es) (hl:args.length<=9223372036854775807) (hfs:field.size<=1073741824) (hev : ∀ y∈args,A' AA 197 [.agg y.c] (.bool (NL y))):A' AA 197 [.agg (Pred.c ⟨3,field,n,m,args⟩)] (.bool (NL ⟨3,field,n,m,args⟩)):=by
 refine pC MX rfl ?_
 simp only [f197,go_sem,FU]
 repeat' (first|((first|refine pK (Id _ hfs) ?_|refine pK (Ic _) ?_|refine pK (NW _) ?_|refine pK (Hu _ hl _ _ NL hev) ?_);simp only [go_sem])|(first|apply cS|apply gS)<;>intro hc<;>simp only [go_sem,hc,Int.reduceBEq,Xz])
 all_goals (rw [Hl];cases args<;>(simp_all [S4,RO,JL]<;>first|omega|grind|skip))
def AWY
(field:ByteArray) (n m:Int) (args:List Es) (hl:args.length<=9223372036854775807) (hfs:field.size<=1073741824) (hev : ∀ y∈args,A' AA 197 [.agg y.c] (.bool (NL y))):A' AA 197 [.agg (Pred.c ⟨4,field,n,m,args⟩)] (.bool (NL ⟨4,field,n,m,args⟩)):=by
 refine pC MX rfl ?_
 simp only [f197,go_sem,FU]
 repeat' (first|((first|refine pK (Id _ hfs) ?_|refine pK (Ic _) ?_|refine pK (NW _) ?_|refine pK (Hu _ hl _ _ NL hev) ?_);simp only [go_sem])|(first|apply cS|apply gS)<;>intro hc<;>simp only [go_sem,hc,Int.reduceBEq,Xz])
 all_goals (rw [Hl];cases args<;>(simp_all [S4,RO,JL]<;>first|omega|grind|skip))
def AWX
(field:ByteArray) (n m:Int) (args:List Es) (hl:args.length<=9223372036854775807) (hfs:field.size<=1073741824) (hev : ∀ y∈args,A' AA 197 [.agg y.c] (.bool (NL y))):A' AA 197 [.agg (Pred.c ⟨5,field,n,m,args⟩)] (.bool (NL ⟨5,field,n,m,args⟩)):=by
 refine pC MX rfl ?_
 simp only [f197,go_sem,FU]
 repeat' (first|((first|refine pK (Id _ hfs) ?_|refine pK (Ic _) ?_|refine pK (NW _) ?_|refine pK (Hu _ hl _ _ NL hev) ?_);simp only [go_sem])|(first|apply cS|apply gS)<;>intro hc<;>simp only [go_sem,hc,Int.reduceBEq,Xz])
 all_goals (rw [Hl];cases args<;>(simp_all [S4,RO,JL]<;>first|omega|grind|skip))
def AWW
(field:ByteArray) (n m:Int) (args:List Es) (hl:args.length<=9223372036854775807) (hfs:field.size<=1073741824) (hev : ∀ y∈args,A' AA 197 [.agg y.c] (.bool (NL y))):A' AA 197 [.agg (Pred.c ⟨6,field,n,m,args⟩)] (.bool (NL ⟨6,field,n,m,args⟩)):=by
 refine pC MX rfl ?_
 simp only [f197,go_sem,FU]
 repeat' (first|((first|refine pK (Id _ hfs) ?_|refine pK (Ic _) ?_|refine pK (NW _) ?_|refine pK (Hu _ hl _ _ NL hev) ?_);simp only [go_sem])|(first|apply cS|apply gS)<;>intro hc<;>simp only [go_sem,hc,Int.reduceBEq])
 all_goals (rw [Hl];cases args<;>(simp_all [S4,Kz,JL]<;>first|omega|grind|skip))
def AWV
(field:ByteArray) (n m:Int) (args:List Es) (hl:args.length<=9223372036854775807) (hfs:field.size<=1073741824) (hev : ∀ y∈args,A' AA 197 [.agg y.c] (.bool (NL y))):A' AA 197 [.agg (Pred.c ⟨7,field,n,m,args⟩)] (.bool (NL ⟨7,field,n,m,args⟩)):=by
 refine pC MX rfl ?_
 simp only [f197,go_sem,FU]
 repeat' (first|((first|refine pK (Id _ hfs) ?_|refine pK (Ic _) ?_|refine pK (NW _) ?_|refine pK (Hu _ hl _ _ NL hev) ?_);simp only [go_sem])|(first|apply cS|apply gS)<;>intro hc<;>simp only [go_sem,hc,Int.reduceBEq])
 all_goals (rw [Hl];cases args<;>(simp_all [S4,Kz,JL]<;>first|omega|grind|skip))
def AWU
(field:ByteArray) (n m:Int) (args:List Es) (hl:args.length<=9223372036854775807) (hfs:field.size<=1073741824) (hev : ∀ y∈args,A' AA 197 [.agg y.c] (.bool (NL y))):A' AA 197 [.agg (Pred.c ⟨8,field,n,m,args⟩)] (.bool (NL ⟨8,field,n,m,args⟩)):=by
 refine pC MX rfl ?_
 simp only [f197,go_sem,FU]
 repeat' (first|((first|refine pK (Id _ hfs) ?_|refine pK (Ic _) ?_|refine pK (NW _) ?_|refine pK (Hu _ hl _ _ NL hev) ?_);simp only [go_sem])|(first|apply cS|apply gS)<;>intro hc<;>simp only [go_sem,hc,Int.reduceBEq])
 all_goals (rw [Hl];cases args<;>(simp_all [S4,Kz,JL]<;>first|omega|grind|skip))
def AWT
(field:ByteArray) (n m:Int) (args:List Es) (hl:args.length<=9223372036854775807) (hfs:field.size<=1073741824) (hev : ∀ y∈args,A' AA 197 [.agg y.c] (.bool (NL y))):A' AA 197 [.agg (Pred.c ⟨9,field,n,m,args⟩)] (.bool (NL ⟨9,field,n,m,args⟩)):=by
 refine pC MX rfl ?_
 simp only [f197,go_sem,FU]
 repeat' (first|((first|refine pK (Id _ hfs) ?_|refine pK (Ic _) ?_|refine pK (NW _) ?_|refine pK (Hu _ hl _ _ NL hev) ?_);simp only [go_sem])|(first|apply cS|apply gS)<;>intro hc<;>simp only [go_sem,hc,FU,Int.reduceBEq,Xz])
 all_goals (rw [Hl];cases args<;>(simp_all [S4,VL,JL]<;>first|omega|grind|skip))
def AWc (kind:Int) (h1:kind≠1) (h2:kind≠2) (h3:kind≠3) (h4:kind≠4) (h5:kind≠5) (h6:kind≠6) (h7:kind≠7) (h8:kind≠8) (h9:kind≠9)
  (field:ByteArray) (n m:Int) (args:List Es):A' AA 197 [.agg (Pred.c ⟨kind,field,n,m,args⟩)] (.bool (NL ⟨kind,field,n,m,args⟩)):=by
 refine pC MX rfl ?_
 simp only [f197,go_sem,FU]
 repeat' (first|(first|apply cS|apply gS)<;>intro hc<;>simp only [go_sem,hc,J6 h1,J6 h2,J6 h3,J6 h4,J6 h5,J6 h6,J6 h7,J6 h8,J6 h9])
 all_goals (rw [Hl];simp [S4, *])
def Jy : ∀ x:Es,FT x.c<=1073741824->A' AA 197 [.agg x.c] (.bool (NL x)):=by
 refine JM _ λx ih=>λhb=>?_
 have hl:x.args.length<=9223372036854775807:=AK (V5 (I5 hb)) dc
 have hfs:=QO hb
 have hev : ∀ y∈x.args,A' AA 197 [.agg y.c] (.bool (NL y)):=λy hm =>
  ih y hm (by have:=V6 (I5 hb) hm;simpa only [AV.bulk] using this)
 obtain ⟨kind,field,n,m,args⟩:=x
 by_cases h1:kind=1
 ·subst h1;exact AWb field n m args hl hfs hev
 by_cases h2:kind=2
 ·subst h2;exact AWa field n m args hl hfs hev
 by_cases h3:kind=3
 ·subst h3;exact AWZ field n m args hl hfs hev
 by_cases h4:kind=4
 ·subst h4;exact AWY field n m args hl hfs hev
 by_cases h5:kind=5
 ·subst h5;exact AWX field n m args hl hfs hev
 by_cases h6:kind=6
 ·subst h6;exact AWW field n m args hl hfs hev
 by_cases h7:kind=7
 ·subst h7;exact AWV field n m args hl hfs hev
 by_cases h8:kind=8
 ·subst h8;exact AWU field n m args hl hfs hev
 by_cases h9:kind=9
 ·subst h9;exact AWT field n m args hl hfs hev
 exact AWc kind h1 h2 h3 h4 h5 h6 h7 h8 h9 field n m args
def AWh
(pred:Es) (field:ByteArray) (n:Int) (args:List Et) (hl:args.length<=9223372036854775807) (hfs:field.size<=1073741824) (hp:FT pred.c<=1073741824) (hev : ∀ y∈args,A' AA 143 [.agg y.c] (.bool (R0 y))):A' AA 143 [.agg (Policy.c ⟨1,pred,field,n,args⟩)] (.bool (R0 ⟨1,pred,field,n,args⟩)):=by
 refine pC TG rfl ?_
 simp only [f143,go_sem]
 repeat' (first|((first|refine pK (A'.lend (KQ pred Pred.z)) ?_|refine pK (Id _ hfs) ?_|refine pK (Ic _) ?_|refine pK (Jy _ hp) ?_|refine pK (JI _ hl _ _ R0 hev) ?_);simp only [go_sem,FU])|(first|apply cS|apply gS)<;>intro hc<;>simp only [go_sem,hc,Int.reduceBEq,Xz])
 all_goals (rw [IQ];cases args<;>(simp_all [Vq,M4]<;>first|omega|grind|skip))
def AWg
(pred:Es) (field:ByteArray) (n:Int) (args:List Et) (hl:args.length<=9223372036854775807) (hfs:field.size<=1073741824) (hp:FT pred.c<=1073741824) (hev : ∀ y∈args,A' AA 143 [.agg y.c] (.bool (R0 y))):A' AA 143 [.agg (Policy.c ⟨2,pred,field,n,args⟩)] (.bool (R0 ⟨2,pred,field,n,args⟩)):=by
 refine pC TG rfl ?_
 simp only [f143,go_sem]
 repeat' (first|((first|refine pK (A'.lend (KQ pred Pred.z)) ?_|refine pK (Id _ hfs) ?_|refine pK (Ic _) ?_|refine pK (Jy _ hp) ?_|refine pK (JI _ hl _ _ R0 hev) ?_);simp only [go_sem,FU])|(first|apply cS|apply gS)<;>intro hc<;>simp only [go_sem,hc,Int.reduceBEq,Xz])
 all_goals (rw [IQ];cases args<;>(simp_all [Vq,RO,M4]<;>first|omega|grind|skip))
def AWf
(pred:Es) (field:ByteArray) (n:Int) (args:List Et) (hl:args.length<=9223372036854775807) (hfs:field.size<=1073741824) (hp:FT pred.c<=1073741824) (hev : ∀ y∈args,A' AA 143 [.agg y.c] (.bool (R0 y))):A' AA 143 [.agg (Policy.c ⟨3,pred,field,n,args⟩)] (.bool (R0 ⟨3,pred,field,n,args⟩)):=by
 refine pC TG rfl ?_
 simp only [f143,go_sem]
 repeat' (first|((first|refine pK (A'.lend (KQ pred Pred.z)) ?_|refine pK (Id _ hfs) ?_|refine pK (Ic _) ?_|refine pK (Jy _ hp) ?_|refine pK (JI _ hl _ _ R0 hev) ?_);simp only [go_sem,FU])|(first|apply cS|apply gS)<;>intro hc<;>simp only [go_sem,hc,Int.reduceBEq])
 all_goals (rw [IQ];cases args<;>(simp_all [Vq,M4]<;>first|omega|grind|skip))
def AWe
(pred:Es) (field:ByteArray) (n:Int) (args:List Et) (hl:args.length<=9223372036854775807) (hfs:field.size<=1073741824) (hp:FT pred.c<=1073741824) (hev : ∀ y∈args,A' AA 143 [.agg y.c] (.bool (R0 y))):A' AA 143 [.agg (Policy.c ⟨4,pred,field,n,args⟩)] (.bool (R0 ⟨4,pred,field,n,args⟩)):=by
 refine pC TG rfl ?_
 simp only [f143,go_sem]
 repeat' (first|((first|refine pK (A'.lend (KQ pred Pred.z)) ?_|refine pK (Id _ hfs) ?_|refine pK (Ic _) ?_|refine pK (Jy _ hp) ?_|refine pK (JI _ hl _ _ R0 hev) ?_);simp only [go_sem,FU])|(first|apply cS|apply gS)<;>intro hc<;>simp only [go_sem,hc,Int.reduceBEq])
 all_goals (rw [IQ];cases args<;>(simp_all [Vq,M4]<;>first|omega|grind|skip))
def AWd
(pred:Es) (field:ByteArray) (n:Int) (args:List Et) (hl:args.length<=9223372036854775807) (hfs:field.size<=1073741824) (hp:FT pred.c<=1073741824) (hev : ∀ y∈args,A' AA 143 [.agg y.c] (.bool (R0 y))):A' AA 143 [.agg (Policy.c ⟨5,pred,field,n,args⟩)] (.bool (R0 ⟨5,pred,field,n,args⟩)):=by
 refine pC TG rfl ?_
 simp only [f143,go_sem]
 repeat' (first|((first|refine pK (A'.lend (KQ pred Pred.z)) ?_|refine pK (Id _ hfs) ?_|refine pK (Ic _) ?_|refine pK (Jy _ hp) ?_|refine pK (JI _ hl _ _ R0 hev) ?_);simp only [go_sem,FU])|(first|apply cS|apply gS)<;>intro hc<;>simp only [go_sem,hc,Int.reduceBEq])
 all_goals (rw [IQ];cases args<;>(simp_all [Vq,M4]<;>first|omega|grind|skip))
def AWi (kind:Int) (h1:kind≠1) (h2:kind≠2) (h3:kind≠3) (h4:kind≠4) (h5:kind≠5)
  (pred:Es) (field:ByteArray) (n:Int) (args:List Et):A' AA 143 [.agg (Policy.c ⟨kind,pred,field,n,args⟩)] (.bool (R0 ⟨kind,pred,field,n,args⟩)):=by
 refine pC TG rfl ?_
 simp only [f143,go_sem]
 repeat' (first|(refine pK (A'.lend (KQ pred Pred.z)) ?_;simp only [go_sem,FU])|(first|apply cS|apply gS)<;>intro hc<;>simp only [go_sem,hc,J6 h1,J6 h2,J6 h3,J6 h4,J6 h5])
 all_goals (rw [IQ];simp [Vq, *])
def Vi : ∀ x:Et,FT x.c<=1073741824->A' AA 143 [.agg x.c] (.bool (R0 x)):=by
 refine Hn _ λx ih=>λhb=>?_
 have hl:x.args.length<=9223372036854775807:=AK (Qn (IK hb)) dc
 have hfs:=N7 hb
 have hp:=L8 hb
 have hev : ∀ y∈x.args,A' AA 143 [.agg y.c] (.bool (R0 y)):=λy hm =>
  ih y hm (by have:=Qo (IK hb) hm;simpa only [AV.bulk] using this)
 obtain ⟨kind,pred,field,n,args⟩:=x
 by_cases h1:kind=1
 ·subst h1;exact AWh pred field n args hl hfs hp hev
 by_cases h2:kind=2
 ·subst h2;exact AWg pred field n args hl hfs hp hev
 by_cases h3:kind=3
 ·subst h3;exact AWf pred field n args hl hfs hp hev
 by_cases h4:kind=4
 ·subst h4;exact AWe pred field n args hl hfs hp hev
 by_cases h5:kind=5
 ·subst h5;exact AWd pred field n args hl hfs hp hev
 exact AWi kind h1 h2 h3 h4 h5 pred field n args
def AIn{H:FR}(x:Et)(hb:FT x.c<=1073741824)(o:Nat)(ho:H[o]? =some (some x.c)):GJ AA 142 [.ptr o 0] H (.bool (R0 x)):=by
 refine FZ.drop rfl ?_
 refine aC AQX rfl ?_
 simp only [f142,go_sem,ho]
 repeat' (first|(refine pK (Vi _ hb) ?_;simp only [go_sem])|(first|apply cS|apply gS)<;>intro hc<;>simp only [go_sem,hc,ho])
def Xq(x:Et)(hb:FT x.c<=1073741824):A' AA 83 [.agg x.c] (.int .i64 (VB x)):=by
 refine pC AXv rfl ?_
 simp only [f83,go_sem]
 repeat' (first|((first|refine pK (aL _) ?_|refine aS (AFL (lz x) 142 [.ptr 0 0] (R0 x) (AIn x hb 0 rfl)) ?_);simp only [go_sem])|(first|apply cS|apply gS)<;>intro hc<;>simp only [go_sem,hc])
 all_goals rfl
@[go_sem] def AU5(o:Option Nat)(x:Es):AV.sl o [AV.agg (x.cf none)]=AV.sl o (GG [x]):=by rw [Hd];rfl
@[go_sem] def AU4(o:Option Nat)(x y:Es):AV.sl o [AV.agg (x.cf none),AV.agg (y.cf none)]=AV.sl o (GG [x,y]):=by rw [Hd];rfl
@[go_sem] def AHW(o:Option Nat)(x:Et):AV.sl o [AV.agg (x.cf none none)]=AV.sl o (F2 [x]):=by rw [Gg];rfl
@[go_sem] def AHV(o:Option Nat)(x y:Et):AV.sl o [AV.agg (x.cf none none),AV.agg (y.cf none none)]=AV.sl o (F2 [x,y]):=by rw [Gg];rfl
@[go_sem] def AI1(o:Option Nat)(x:Ev):AV.sl o [AV.agg (x.cf none none none)]=AV.sl o (F9 [x]):=rfl
def Zr(n:Int):Es:=⟨3,GI,n,0,[]⟩
def Jc:Es:=⟨2,⟨#[]⟩,0,0,[]⟩
def rk(x y:Es):Es:=⟨8,⟨#[]⟩,0,0,[x,y]⟩
def bd(x:Es):Es:=⟨6,⟨#[]⟩,0,0,[x]⟩
def IB(x:Es):Et:=⟨1,x,⟨#[]⟩,0,[]⟩
def YJ(s:ByteArray)(n:Int):Et:=⟨2,Pred.z,s,n,[]⟩
def Kl(x y:Et):Et:=⟨3,Pred.z,⟨#[]⟩,0,[x,y]⟩
def UX(x y:Et):Et:=⟨4,Pred.z,⟨#[]⟩,0,[x,y]⟩
def SD(x:Et):Et:=⟨5,Pred.z,⟨#[]⟩,0,[x]⟩
def LK{α:Type}(z:α)(two:α->α->α):List α->α
 | []=>z
 | x::l=>l.foldl two x
def Pr(l:List Es):Es:=LK Jc rk l
def PC(t:Ew):Es:=Pr (t.wires.map λw=>Zr w.src)
def PD(w:Wire):Et:=UX (IB (Zr w.src)) (YJ GI w.dst)
def Mc(t:Ew):Et:=LK (IB Jc) Kl (t.wires.map PD)
def HG(t:Ew)(p:Et):Et :=
 if t.wires=[] then p else UX (UX p (SD (UX (Mc t) p))) (IB (bd (PC t)))
def AWm(n:Int):A' AA 201 [.int .i64 n] (.agg (Zr n).c):=by
 refine pB AO1 rfl ?_
 simp only [f201,go_sem]
 rfl
def AWP(n:Int):A' AA 294 [.int .i64 n] (.agg (Zr n).c):=by
 refine pB ALB rfl ?_
 simp only [f294,go_sem]
 rfl
def Vj(x:Es):A' AA 138 [.agg x.c] (.agg (IB x).c):=by
 refine pB AQl rfl ?_
 simp only [f138,go_sem]
 rfl
def Vb(x:Es):A' AA 241 [.agg x.c] (.agg (IB x).c):=by
 refine pB AMw rfl ?_
 simp only [f241,go_sem]
 rfl
def qu(x y:Et):A' AA 136 [.agg x.c,.agg y.c] (.agg (UX x y).c):=by
 refine pB AQu rfl ?_
 simp only [f136,go_sem]
 rfl
def AHN(x y:Et):A' AA 239 [.agg x.c,.agg y.c] (.agg (UX x y).c):=by
 refine pB AM5 rfl ?_
 simp only [f239,go_sem]
 rfl
def AFB(x y:Et):A' AA 296 [.agg x.c,.agg y.c] (.agg (Kl x y).c):=by
 refine pB AK5 rfl ?_
 simp only [f296,go_sem]
 rfl
def AIe(x:Et):A' AA 238 [.agg x.c] (.agg (SD x).c):=by
 refine pB AM8 rfl ?_
 simp only [f238,go_sem]
 rfl
def AWQ(s:ByteArray)(n:Int):A' AA 295 [.str s,.int .i64 n] (.agg (YJ s n).c):=by
 refine pB AK8 rfl ?_
 simp only [f295,go_sem]
 rfl
def sw(x y:Es):A' AA 274 [.agg x.c,.agg y.c] (.agg (rk x y).c):=by
 refine pB AMA rfl ?_
 simp only [f274,go_sem]
 rfl
def AA3(x y:Et):A' AA 203 [.agg x.c,.agg y.c] (.agg (Kl x y).c):=by
 refine pB AOs rfl ?_
 simp only [f203,go_sem]
 rfl
def mN(l:List Es)(hl:l.length<=1073741824)(z:Es):A' AA 273 [.sl none (GG l),.agg z.c,.fn (.func 274) [] []] (.agg (LK z rk l).c):=by
 refine pB AMF rfl ?_
 simp only [f273,go_sem]
 cases l with
 | nil =>
  have g0:(((0:Nat):Int)==0)=true:=rfl
  simp only [go_sem,g0]
  rfl
 | cons x r =>
  have g0:(((r.length+1:Nat):Int)==0)=false:=by simp;omega
  have g1:(1:Int)<=((r.length+1:Nat):Int):=FQ
  have g2:(0:Int)<((r.length+1:Nat):Int):=FQ
  have hx:(x::r)[0]? =some x:=rfl
  have hd:List.drop 1 (x::r)=r:=rfl
  simp only [go_sem,g0,g1,GL hx,EI,hd,Af,BI]
  repeat' (first|(first|apply cS|apply gS)<;>intro hc<;>simp only [go_sem,hc,g0,g1,g2,GL hx,hd])
  refine Fq r (λo l=>l.foldl rk o) (λ_ _=>True) (λk o=>[(2,.fn (.func 274) [] []),(6,.ptr 1 0),(7,.ptr 2 0),(18,.sl none (GG r)),(19,.int .i64 r.length),(20,.int .i64 k)]) (λk o=>[some z.c,some (Pred.z.cf (some 5)),some o.c]) x (by simp at hl;omega) trivial rfl rfl ?_ ?_
  ·intro k o y ys hd hx _ hF h0 h1 hw
   simp only [go_sem,h0,h1,GL hx]
   repeat' (first|(refine aP (sw _ _) ?_;simp only [go_sem,hw])|(first|apply cS|apply gS)<;>intro hc<;>simp only [go_sem,hc,h0,h1,hw,GL hx])
   exact ⟨_,by rw [CE],rfl,rfl⟩
  ·intro o _ hF
   simp only [go_sem,AX,dF]
   rw [LK,hF];rfl
def aM(l:List Et)(hl:l.length<=1073741824)(z:Et):A' AA 202 [.sl none (F2 l),.agg z.c,.fn (.func 203) [] []] (.agg (LK z Kl l).c):=by
 refine pB AOx rfl ?_
 simp only [f202,go_sem]
 cases l with
 | nil =>
  have g0:(((0:Nat):Int)==0)=true:=rfl
  simp only [go_sem,g0]
  rfl
 | cons x r =>
  have g0:(((r.length+1:Nat):Int)==0)=false:=by simp;omega
  have g1:(1:Int)<=((r.length+1:Nat):Int):=FQ
  have g2:(0:Int)<((r.length+1:Nat):Int):=FQ
  have hx:(x::r)[0]? =some x:=rfl
  have hd:List.drop 1 (x::r)=r:=rfl
  simp only [go_sem,g0,g1,Fx hx,EI,hd,Af,BI]
  repeat' (first|(first|apply cS|apply gS)<;>intro hc<;>simp only [go_sem,hc,g0,g1,g2,Fx hx,hd])
  refine Fq r (λo l=>l.foldl Kl o) (λ_ _=>True) (λk o=>[(2,.fn (.func 203) [] []),(6,.ptr 1 0),(7,.ptr 2 0),(18,.sl none (F2 r)),(19,.int .i64 r.length),(20,.int .i64 k)]) (λk o=>[some z.c,some (Policy.z.cf (some 5) (some 9)),some o.c]) x (by simp at hl;omega) trivial rfl rfl ?_ ?_
  ·intro k o y ys hd hx _ hF h0 h1 hw
   simp only [go_sem,h0,h1,Fx hx]
   repeat' (first|(refine aP (AA3 _ _) ?_;simp only [go_sem,hw])|(first|apply cS|apply gS)<;>intro hc<;>simp only [go_sem,hc,h0,h1,hw,Fx hx])
   exact ⟨_,by rw [CE],rfl,rfl⟩
  ·intro o _ hF
   simp only [go_sem,AX,dF]
   rw [LK,hF];rfl
def AAc(l:List Es)(hl:l.length<=1073741824):A' AA 297 [.sl none (GG l)] (.agg (Pr l).c):=by
 refine pB AK2 rfl ?_
 simp only [f297,go_sem]
 cases l with
 | nil =>
  have g0:(((0:Nat):Int)==0)=true:=rfl
  simp only [go_sem,g0]
  rfl
 | cons x r =>
  have g0:(((r.length+1:Nat):Int)==0)=false:=by simp;omega
  have g2:(0:Int)<((r.length+1:Nat):Int):=FQ
  have hx:(x::r)[0]? =some x:=rfl
  simp only [go_sem,g0,GL hx]
  repeat' (first|(first|apply cS|apply gS)<;>intro hc<;>simp only [go_sem,hc,g0,g2,GL hx])
  refine Fq r (λ(o:Es×Option Nat) l=>l.foldl rk o.1) (λ_ _=>True) (λk o=>[(0,.sl none (GG (x::r))),(2,.ptr 0 0),(3,.ptr 1 0),(4,.int .i64 ((k+1:Nat):Int))]) (λk o=>[some (Pred.z.cf (some 5)),some (o.1.cf o.2)]) (x,none) (by simp at hl;omega) trivial rfl rfl ?_ ?_
  ·intro k o y ys hd hy _ hF h0 h1 hw
   have hy2:(x::r)[k+1]? =some y:=by simpa using hy
   have h2:(((k+1:Nat):Int)<((r.length+1:Nat):Int)):=FQ
   have h3:(0:Int)<=((k+1:Nat):Int):=FQ
   have hw2:=Mj (k:=k+1) (by simp at hl;omega)
   simp only [go_sem,h2,h3,dT,GL hy2,Af,hw2]
   exact ⟨(rk o.1 y,some 5),by rw [CE],rfl,rfl⟩
  ·intro o _ hF
   simp only [go_sem,AX,dF]
   rw [Pr,LK,hF];rfl
def AAx(l:List Int)(hl:l.length<=1073741824):A' AA 204 [.sl none (GC l)] (.agg (Pr (l.map Zr)).c):=by
 refine pB AOp rfl ?_
 simp only [f204,go_sem]
 refine Fq l (λo r=>o++r.map Zr) (λk o=>o.length=k) (λk o=>[(2,.ptr 0 0),(3,.sl (some 5) (GG o)),(6,.sl none (GC l)),(7,.int .i64 l.length),(8,.int .i64 k)]) (λk o=>[some (Pred.z.cf (some 5))]) [] FQ rfl rfl rfl ?_ ?_
 ·intro k o y ys hd hy hI hF h0 h1 hw
  have hk2:=Fo hd
  simp only [go_sem,h0,h1,Gk hy]
  repeat' (first|(refine pK (AWm _) ?_;simp only [go_sem,hw])|(first|apply cS|apply gS)<;>intro hc<;>simp only [go_sem,hc,h0,h1,hw,Gk hy])
  exact ⟨FQ,FQ,o++[Zr y],sm,by simp [hI],rfl,rfl⟩
 ·intro o hI hF
  have hF:o=l.map Zr:=by simpa using hF.symm
  simp only [go_sem,AX,dF]
  repeat' (first|(refine pK (A'.lend (mN o FQ Jc)) ?_;simp only [go_sem])|(first|apply cS|apply gS)<;>intro hc<;>simp only [go_sem,hc])
  rw [hF];rfl
def AE9(t:Ew)(hl:t.wires.length<=1073741824):A' AA 242 [.agg t.c] (.agg (PC t).c):=by
 refine pB AMt rfl ?_
 simp only [f242,go_sem]
 refine Fq t.wires (λo r=>o++r.map λw=>Zr w.src) (λk o=>o.length=k) (λk o=>[(1,.ptr 0 0),(2,.ptr 1 0),(3,.sl (some 5) (GG o)),(4,.int .i64 k)]) (λk o=>[some t.c,some (Pred.z.cf (some 5))]) [] FQ rfl rfl rfl ?_ ?_
 ·intro k o y ys hd hy hI hF h0 h1 hw
  have hk2:=Fo hd
  simp only [go_sem,h0,h1,Hq hy]
  repeat' (first|(refine pK (AWP _) ?_;simp only [go_sem,hw])|(first|apply cS|apply gS)<;>intro hc<;>simp only [go_sem,hc,h0,h1,hw,Hq hy])
  exact ⟨FQ,FQ,o++[Zr y.src],sm,by simp [hI],rfl,rfl⟩
 ·intro o hI hF
  have hF:o=t.wires.map λw=>Zr w.src:=by simpa using hF.symm
  simp only [go_sem,AX,dF]
  repeat' (first|(refine pK (A'.lend (AAc o FQ)) ?_;simp only [go_sem])|(first|apply cS|apply gS)<;>intro hc<;>simp only [go_sem,hc])
  rw [hF];rfl
def AFO(t:Ew)(hl:t.wires.length<=1073741824):A' AA 139 [.agg t.c] (.agg (PC t).c):=by
 refine pB AQh rfl ?_
 simp only [f139,go_sem]
 refine Fq t.wires (λo r=>o++r.map (·.src)) (λk o=>o.length=k) (λk o=>[(2,.ptr 1 0),(3,.sl (some 1) (GC o)),(7,.sl none (MH t.wires)),(8,.int .i64 t.wires.length),(9,.int .i64 k)]) (λk o=>[some t.c,some (Pred.z.cf (some 5))]) [] FQ rfl rfl rfl ?_ ?_
 ·intro k o y ys hd hy hI hF h0 h1 hw
  have hk2:=Fo hd
  simp only [go_sem,h0,h1,hw,Hq hy]
  repeat' (first|(first|apply cS|apply gS)<;>intro hc<;>simp only [go_sem,hc,h0,h1,hw,Hq hy])
  exact ⟨FQ,FQ,o++[y.src],sm,by simp [hI],rfl,rfl⟩
 ·intro o hI hF
  have hF:o=t.wires.map (·.src):=by simpa using hF.symm
  simp only [go_sem,AX,dF]
  repeat' (first|(refine pK (A'.lend (AAx o FQ)) ?_;simp only [go_sem])|(first|apply cS|apply gS)<;>intro hc<;>simp only [go_sem,hc])
  rw [hF,Bx];rfl
def nT{α:Type}{z:α}{two:α->α->α}(x:α): ∀ {l:List α},l≠[]->LK z two (l++[x])=two (LK z two l) x
 | [],h=>absurd rfl h
 | y::l,_=>by simp [LK]
def AE8(t:Ew)(hl:t.wires.length<=1073741824):A' AA 240 [.agg t.c] (.agg (Mc t).c):=by
 refine pB AM1 rfl ?_
 simp only [f240,go_sem]
 repeat' (first|(refine pK (A'.lend (Vb Jc)) ?_;simp only [go_sem])|(first|apply cS|apply gS)<;>intro hc<;>simp only [go_sem,hc])
 refine Fq t.wires (λ(_:Et) (_:List Wire)=>()) (λk o=>o=LK (IB Jc) Kl ((t.wires.take k).map PD)) (λk o=>[(1,.ptr 0 0),(2,.ptr 1 0),(3,.ptr 2 0),(4,.int .i64 k)]) (λk o=>[some t.c,some (Policy.z.cf (some 5) (some 9)),some o.c]) (IB Jc) FQ rfl rfl rfl ?_ ?_
 ·intro k o y ys hd hy hI hF h0 h1 hw
  have hk2:=Fo hd
  have ht:t.wires.take (k+1)=t.wires.take k++[y]:=by rw [BF,hy];rfl
  simp only [go_sem,h0,h1,Hq hy]
  repeat' (first|((first|refine pK (AWP _) ?_|refine pK (Vb _) ?_|refine pK (AWQ _ _) ?_|refine pK (AHN _ _) ?_);simp only [go_sem,h0,Hq hy])|(first|apply cS|apply gS)<;>intro hc<;>simp only [go_sem,hc,hw])
  ·have hk:k=0:=by simp at hc;omega
   subst hk
   refine ⟨PD y, ?_,rfl,rfl⟩
   rw [ht];rfl
  ·have hk:k≠0:=by simp at hc;omega
   refine XI.intro (AFB _ _) ?_
   simp only [go_sem,hw]
   refine ⟨Kl o (PD y), ?_,rfl,rfl⟩
   rw [ht,List.map_append,hI]
   exact (nT _ (by simp;constructor;omega;intro h;rw [h] at hk2;simp at hk2)).symm
 ·intro o hI hF
  simp only [go_sem,AX,dF]
  rw [Mc,hI,BI]
def AFN(t:Ew)(hl:t.wires.length<=1073741824):A' AA 137 [.agg t.c] (.agg (Mc t).c):=by
 refine pB AQq rfl ?_
 simp only [f137,go_sem]
 refine Fq t.wires (λo r=>o++r.map PD) (λk o=>o.length=k) (λk o=>[(2,.ptr 1 0),(3,.sl (some 9) (F2 o)),(7,.sl none (MH t.wires)),(8,.int .i64 t.wires.length),(9,.int .i64 k)]) (λk o=>[some t.c,some (Policy.z.cf (some 5) (some 9))]) [] FQ rfl rfl rfl ?_ ?_
 ·intro k o y ys hd hy hI hF h0 h1 hw
  have hk2:=Fo hd
  simp only [go_sem,h0,h1,Hq hy]
  repeat' (first|((first|refine pK (AWm _) ?_|refine pK (Vj _) ?_|refine pK (A'.lend (qu (IB (Zr y.src)) (YJ GI y.dst))) ?_);simp only [go_sem,hw])|(first|apply cS|apply gS)<;>intro hc<;>simp only [go_sem,hc,h0,h1,hw,Hq hy])
  exact ⟨FQ,FQ,o++[PD y],sm,by simp [hI],rfl,rfl⟩
 ·intro o hI hF
  have hF:o=t.wires.map PD:=by simpa using hF.symm
  simp only [go_sem,AX,dF]
  repeat' (first|((first|refine pK (A'.lend (Vj Jc)) ?_|refine pK (A'.lend (aM o FQ (IB Jc))) ?_);simp only [go_sem])|(first|apply cS|apply gS)<;>intro hc<;>simp only [go_sem,hc])
  rw [hF];rfl
def Ro{α:Type}{l:List α}:((l.length:Int)==0)=true↔l=[]:=by
 cases l<;>simp;omega
def AAe(t:Ew)(hl:t.wires.length<=1073741824)(p:Et):A' AA 163 [.agg t.c,.agg p.c] (.agg (HG t p).c):=by
 refine pB APe rfl ?_
 simp only [f163,go_sem]
 repeat' (first|((first|refine pK (AE8 t hl) ?_|refine pK (AE9 t hl) ?_|refine pK (AHN _ _) ?_|refine pK (AIe _) ?_|refine pK (A'.lend (Vb (bd (PC t)))) ?_);simp only [go_sem])|(first|apply cS|apply gS)<;>intro hc<;>simp only [go_sem,hc])
 ·rw [HG,iP (Ro.1 hc)]
 ·rw [HG,iN (λh=>by rw [Ro.2 h] at hc;cases hc)]
def AA9(t:Ew)(hl:t.wires.length<=1073741824)(p:Et):A' AA 82 [.agg t.c,.agg p.c] (.agg (HG t p).c):=by
 refine pB AXy rfl ?_
 simp only [f82,go_sem]
 repeat' (first|((first|refine pK (AFN t hl) ?_|refine pK (AFO t hl) ?_|refine pK (A'.lend (qu (UX p (SD (UX (Mc t) p))) (IB (bd (PC t))))) ?_|refine pK (A'.lend (qu p (SD (UX (Mc t) p)))) ?_|refine pK (qu (Mc t) p) ?_|refine pK (A'.lend (Vj (bd (PC t)))) ?_);simp only [go_sem])|(first|apply cS|apply gS)<;>intro hc<;>simp only [go_sem,hc])
 ·rw [HG,iP (Ro.1 hc)]
 ·rw [HG,iN (λh=>by rw [Ro.2 h] at hc;cases hc)]
def HV(t:Ew):List Ev->List Ev->List Ev×Int
 | o,[]=>(o,0)
 | o,x::r=>if VB (HG t x.policy)=2 then ([],2) else HV t (o++[{ x with policy:=HG t x.policy }]) r
def GO(t:Ew):List Ev×Int:=HV t [] t.program
def AFP(t:Ew)(hl:t.wires.length<=1073741824)(hp:t.program.length<=1073741824)(hb : ∀ x∈t.program,FT (HG t x.policy).c<=1073741824):
  A' AA 42 [.agg t.c] (.tup [.sl none (F9 (GO t).1),.int .i64 (GO t).2]):=by
 refine pB AY3 rfl ?_
 simp only [f42,go_sem]
 refine Fq t.program (λo r=>HV t o r) (λk o=>o.length=k) (λk o=>[(1,.ptr 0 0),(4,.sl (some 15) (F9 o)),(8,.sl none (F9 t.program)),(9,.int .i64 t.program.length),(10,.int .i64 k)]) (λk o=>[some t.c]) [] FQ rfl rfl rfl ?_ ?_
 ·intro k o y ys hd hy hI hF h0 h1 hw
  have hk2:=Fo hd
  simp only [go_sem,h0,h1,GH hy]
  repeat' (first|((first|refine pK (AA9 t hl _) ?_|refine pK (Xq _ (hb y (AB hy))) ?_);simp only [go_sem])|(first|apply cS|apply gS)<;>intro hc<;>simp only [go_sem,hc,hw])
  ·have h2:HV t [] t.program=([],2):=by rw [hF,HV,iP (by simpa using hc)]
   rw [GO,h2];rfl
  ·refine ⟨FQ,FQ,o++[{ y with policy:=HG t y.policy }], ?_,by simp [hI],rfl,rfl⟩
   rw [HV,iN (by simpa using hc)]
 ·intro o hI hF
  simp only [go_sem,AX,dF]
  rw [GO,hF];rfl
def AcY(x y:Es):FT (GG [x,y])=FT x.c+FT y.c:=by rw [Hd];simp [FT,AV.bulk]
def AcZ(x:Es):FT (GG [x])=FT x.c:=by rw [Hd];simp [FT,AV.bulk]
def ADR:FT (GG [])=0:=by rw [Hd];rfl
def AHt(x y:Et):FT (F2 [x,y])=FT x.c+FT y.c:=by rw [Gg];simp [FT,AV.bulk]
def Acb(x:Et):FT (F2 [x])=FT x.c:=by rw [Gg];simp [FT,AV.bulk]
def AHu:FT (F2 [])=0:=by rw [Gg];rfl
def AHv(n:Int):FT (Zr n).c=9:=by rw [Kk];simp only [Zr,ADR];rfl
def jf:FT Jc.c=5:=by rw [Kk];simp only [Jc,ADR];rfl
def Aca(x y:Es):FT (rk x y).c=5+FT x.c+FT y.c:=by rw [Kk];simp only [rk,AcY];show 0+5+_=_;omega
def AUK(x:Es):FT (bd x).c=5+FT x.c:=by rw [Kk];simp only [bd,AcZ];show 0+5+_=_;omega
def rj:FT Pred.z.c=5:=by rw [Kk];show _+5+FT (GG [])=5;rw [ADR];rfl
def TR(x:Es):FT (IB x).c=FT x.c+4:=by rw [Is];simp only [IB,AHu];show _+0+4+0=_;omega
def AUJ(n:Int):FT (YJ GI n).c=13:=by rw [Is];simp only [YJ,AHu,rj];rfl
def ADQ(x y:Et):FT (Kl x y).c=9+FT x.c+FT y.c:=by rw [Is];simp only [Kl,AHt,rj];show 5+0+4+_=_;omega
def bc(x y:Et):FT (UX x y).c=9+FT x.c+FT y.c:=by rw [Is];simp only [UX,AHt,rj];show 5+0+4+_=_;omega
def AGg(x:Et):FT (SD x).c=9+FT x.c:=by rw [Is];simp only [SD,Acb,rj];show 5+0+4+_=_;omega
def ADS : ∀ (l:List Es) (x:Es) (B:Nat),(∀ y∈l,FT y.c<=B)->FT (l.foldl rk x).c<=FT x.c+l.length*(B+5)
 | [],x,B,_=>sm
 | y::l,x,B,h=>by
  rw [CE]
  have h1:=ADS l (rk x y) B λz hz=>h z (by simp [hz])
  have h2:=h y sm
  rw [Aca] at h1
  rw [AD,DW]
  omega
def Zo : ∀ (l:List Et) (x:Et) (B:Nat),(∀ y∈l,FT y.c<=B)->FT (l.foldl Kl x).c<=FT x.c+l.length*(B+9)
 | [],x,B,_=>sm
 | y::l,x,B,h=>by
  rw [CE]
  have h1:=Zo l (Kl x y) B λz hz=>h z (by simp [hz])
  have h2:=h y sm
  rw [ADQ] at h1
  rw [AD,DW]
  omega
def yW(l:List Es)(h : ∀ y∈l,FT y.c<=9):FT (Pr l).c<=9+l.length*14:=by
 unfold Pr
 cases l with
 | nil=>rw [LK,jf];omega
 | cons x l =>
  have h1:=ADS l x 9 λy hy=>h y (by simp [hy])
  have h2:=h x sm
  rw [LK,AD]
  omega
def ADP(t:Ew):FT (PC t).c<=9+t.wires.length*14:=by
 have:=yW (t.wires.map λw=>Zr w.src) (λy hy=>by obtain ⟨w,_,rfl⟩:=AN.1 hy;rw [AHv];omega)
 rwa [Aq] at this
def ADO(t:Ew):FT (Mc t).c<=35+t.wires.length*44:=by
 unfold Mc
 have hw : ∀ y∈t.wires.map PD,FT y.c<=35:=λy hy=>by
  obtain ⟨w,_,rfl⟩:=AN.1 hy
  rw [PD,bc,TR,AHv,AUJ];omega
 have hl:(t.wires.map PD).length=t.wires.length:=Aq _
 rw [<- hl]
 generalize t.wires.map PD=l at hw
 cases l with
 | nil=>rw [LK,TR,jf];omega
 | cons x l =>
  have h1:=Zo l x 35 λy hy=>hw y (by simp [hy])
  have h2:=hw x sm
  rw [LK,AD]
  omega
def Zp{t:Ew}{p:Et}(hp:FT p.c<=1048576)(hw:t.wires.length<=1048576):FT (HG t p).c<=1073741824:=by
 unfold HG
 split
 ·omega
 ·have h1:=ADP t
  have h2:=ADO t
  rw [bc,bc,AGg,bc,TR,AUK]
  omega
def ACo : ∀ x:Es,rM x x=true:=by
 refine JM _ λx ih=>?_
 rw [Io]
 have : ∀ l:List Es,(∀ y∈l,rM y y=true)->UT l l=true:=by
  intro l
  induction l with
  | nil=>intro _;rw [M9]
  | cons y l ihl=>intro h;rw [Jl,h y sm,ihl λz hz=>h z (by simp [hz])];rfl
 rw [this x.args ih];simp
def AFA(t:Ew)(hl:t.wires.length<=1073741824)(hp:t.program.length<=1073741824)(hb : ∀ x∈t.program,FT (HG t x.policy).c<=1073741824):
  A' AA 105 [.agg t.c] (.tup [.sl none (F9 (GO t).1),.int .i64 (GO t).2]):=by
 refine pB AR2 rfl ?_
 simp only [f105,go_sem]
 refine Fq t.program (λo r=>HV t o r) (λk o=>o.length=k) (λk o=>[(1,.ptr 0 0),(4,.sl (some 15) (F9 o)),(5,.int .i64 k)]) (λk o=>[some t.c]) [] FQ rfl rfl rfl ?_ ?_
 ·intro k o y ys hd hy hI hF h0 h1 hw
  have hk2:=Fo hd
  simp only [go_sem,h0,h1,GH hy]
  repeat' (first|((first|refine pK (AAe t hl _) ?_|refine pK (ADC _ (hb y (AB hy))) ?_);simp only [go_sem])|(first|apply cS|apply gS)<;>intro hc<;>simp only [go_sem,hc,h0,hw,GH hy])
  ·have h2:HV t [] t.program=([],2):=by rw [hF,HV,iP (by simpa using hc)]
   rw [GO,h2];rfl
  ·refine ⟨FQ,FQ,o++[{ y with policy:=HG t y.policy }], ?_,by simp [hI],rfl,rfl⟩
   rw [HV,iN (by simpa using hc)]
 ·intro o hI hF
  simp only [go_sem,AX,dF]
  rw [GO,hF];rfl
section
variable {P:Program} {K:Kt} {e:Ft} {H:FR} {d:Tmp} {t kt et:TypeId} {o:Nat} {α:Type}
def ABZ (f:α->AV) (l:List α) (k:AV) (hu:P.underlying t=some (.map kt et)) (hz:Fi P et=some (.bool false)) (hm:H[o]? =some (some (J0 (LO f l)))) (hk:MV P kt (k::l.map f)) (hd:R6 f l)
  (h:K ((d,.bool (l.any λx=>Hp (f x) k))::e) H):AIy P t false (.mapr o) k d K e H:=by
 unfold AIy
 rw [hu]
 dsimp only
 rw [gF hm]
 dsimp only
 refine ⟨by rw [d6];exact hk,We f hd,_,hz, ?_⟩
 rw [AIz];exact h
end
@[go_sem] def AcW(o n:Nat):(AV.mapr o).bnd n=decide (o<n):=rfl
end Go.AI
namespace Go.AI
open Go.Proofs
set_option maxRecDepth 50000
def mS {H:FR} (l:List Fld) (hl:l.length<=9223372036854775807) (g:FuncId) (fi ca:List AV) (p:Fld->Bool)
  (h : ∀ x∈l,GJ AA g (fi.map AV.borrow++(.agg x.c::ca.map AV.borrow)) H (.bool (p x))) :
  GJ AA 124 [.sl none (GN l),.fn (.func g) fi ca] H (.int .i64 (H7 p l)):=by
 unfold GJ
 refine aC AQ3 rfl ?_
 simp only [f124,go_sem]
 refine Fd l (λr=>HL p (l.length - r.length) r) (λk=>[(0,.sl none (GN l)),(1,.fn (.func g) fi ca),(7,.int .i64 l.length),(8,.int .i64 k)]) hl rfl ?_ ?_
 ·intro k x xs hd hx hF h0 h1 hw
  have hk2:=Fo hd
  have e1:l.length - (xs.length+1)=k:=FQ
  have e2:l.length - xs.length=k+1:=FQ
  simp only [AD,e1,AP] at hF
  simp only [go_sem,h0,h1,Il hx]
  repeat' (first|(refine aS (h x (AB hx)) ?_;simp only [go_sem])|(first|apply cS|apply gS)<;>intro hc<;>simp only [go_sem,hc,hw,e1,e2])
  ·rw [H7,hF,HL,iP hc]
  ·rw [HL,iN (by rw [hc];decide)]
 ·intro hF hlt
  simp only [go_sem,hlt,dF]
  rw [AP] at hF
  rw [H7,hF];rfl
@[go_sem] def AVq(o:Nat):(AV.it o).borrow = .it o:=rfl
@[go_sem] def AWR(H:FR)(x y:Option (List AV)):(H++[x]).set H.length y=H++[y]:=sm
def Iv(Pre:Nat->FR->Prop)(n:Nat)(g:FR)(k:Nat)(H:FR):Prop:=∃ pre g',H=pre++(g++g')/\pre.length=n/\Pre k pre
def Iv.grow{Pre:Nat->FR->Prop}{n k:Nat}{g H:FR}(h:Iv Pre n g k H)(x:FR):Iv Pre n g k (H++x):=by
 obtain ⟨pre,g',rfl,h1,h2⟩:=h
 exact ⟨pre,g'++x,sm,h1,h2⟩
def Iv.at{Pre:Nat->FR->Prop}{n k i:Nat}{g H:FR}(h:Iv Pre n g k H){c:Option (List AV)}(hi:g[i]? =some c):H[n+i]? =some c:=by
 obtain ⟨pre,g',rfl,h1,h2⟩:=h
 have hlt:=(AC.1 hi).1
 rw [AM FQ,h1,Nat.add_sub_cancel_left,AT hlt,hi]
def Iv.atG{Pre:Nat->FR->Prop}{n k i:Nat}{g H x:FR}(h:Iv Pre n g k H){c:Option (List AV)}(hi:g[i]? =some c):(H++x)[n+i]? =some c:=(h.grow x).at hi
def AAs:A' AA 71 [] (.agg JP.c):=by
 have h:A' AA 71 [] (.agg JP.c):=A'.run ACm 100 rfl kr kr
 exact h
def AFT{H:FR}(f:Fld)(s:ByteArray)(o:Nat)(ho:H[o]? =some (some [.str s])):GJ AA 272 [.agg f.c,.ptr o 0] H (.bool (decide (f.name=s))):=by
 refine FZ.drop rfl ?_
 refine aC AMJ rfl ?_
 have ho' : ∀ z,(H++z)[o]? =some (some [.str s]):=λz=>by
  have:=(AC.1 ho).1
  rw [AT this];exact ho
 simp only [f272,go_sem,ho',FU]
def iD{α:Type}(p:α->Bool): ∀ (l:List α) (i:Nat),match l.find? p with
  | some x => ∃ k,HL p i l=(i+k:Nat)/\l[k]? =some x
  | none=>HL p i l = -1
 | [],i=>rfl
 | y::l,i=>by
  rw [Bz,HL]
  cases h:p y with
  | true=>exact ⟨0,sm,rfl⟩
  | false =>
   have:=iD p l (i+1)
   cases hf:l.find? p with
   | none=>rw [hf] at this;simpa using this
   | some x =>
    rw [hf] at this
    obtain ⟨k,h1,h2⟩:=this
    exact ⟨k+1,by simp only [Bool.false_eq_true,if_false];rw [h1];congr 1;omega,by simpa using h2⟩
def Qd(l:List Fld)(hl:l.length<=9223372036854775807)(s:ByteArray):A' AA 199 [.sl none (GN l),.str s] (.tup [.agg (Fc l s).1.c,.bool (Fc l s).2]):=by
 have hi:=iD (λf:Fld=>decide (f.name=s)) l 0
 have hport:(JP.name:ByteArray)=GI:=rfl
 have hidx:=mS (H:=[some [.str s],some Fld.z.c]) l hl 272 [] [.ptr 0 0] (λf=>decide (f.name=s)) (λx _=>AFT x s 0 rfl)
 refine pB AO7 rfl ?_
 cases hf:l.find? (λf:Fld=>decide (f.name=s)) with
 | none =>
  rw [hf] at hi
  have hi:H7 (λf:Fld=>decide (f.name=s)) l = -1:=hi
  rw [hi] at hidx
  simp only [f199,go_sem]
  repeat' (first|((first|refine pK (AAs) ?_|refine aS (hidx) ?_);simp only [go_sem,FU])|(first|apply cS|apply gS)<;>intro hc<;>simp only [go_sem,hc])
  ·have h5:s=GI:=by rw [<- hport];exact of_decide_eq_true hc
   rw [Fc,iP h5]
  ·have h5 : ¬ s=GI:=by rw [<- hport];exact of_decide_eq_false hc
   rw [Fc,iN h5,hf]
 | some x =>
  rw [hf] at hi
  obtain ⟨k,hk,hx⟩:=hi
  have hk:H7 (λf:Fld=>decide (f.name=s)) l=((0+k:Nat):Int):=hk
  rw [hk,Nat.zero_add] at hidx
  have g1 : ¬ ((k:Int)<0):=FQ
  have g2:(0:Int)<=(k:Int):=FQ
  simp only [f199,go_sem]
  repeat' (first|((first|refine pK (AAs) ?_|refine aS (hidx) ?_);simp only [go_sem,FU,g1,g2,Il hx,dF])|(first|apply cS|apply gS)<;>intro hc<;>simp only [go_sem,hc])
  ·have h5:s=GI:=by rw [<- hport];exact of_decide_eq_true hc
   rw [Fc,iP h5]
  ·have h5 : ¬ s=GI:=by rw [<- hport];exact of_decide_eq_false hc
   rw [Fc,iN h5,hf]
@[go_sem] def AVv{P:Program}{t:TypeId}{k k':IntKind}{x y:Int}{d:Tmp}{K:Kt}{e:Ft}{H:FR}:Ih P .shl t (.int k x) (.int k' y) d K e H=(0<=y/\K ((d,.int k (k.wrap (x*2^(min y.toNat k.bits))))::e) H):=by
 rw [HN];simp [KD]
def tc : ∀ n:Nat,n<17->IntKind.i64.wrap (IntKind.i64.wrap (1*2^(min n IntKind.i64.bits)) - 1)=i64 (Xl n - 1):=by
 decide
def qw(f:Fld)(h0:0<=f.width)(h1:f.width<=16):A' AA 200 [.agg f.c] (.int .i64 (KU f)):=by
 have hm:=tc f.width.toNat FQ
 refine pC AO4 rfl ?_
 simp only [f200,go_sem,h0]
 rw [KU,<- hm];rfl
@[go_sem] def Acs{α:Type}(G:List α)(a b:α):(G++[a,b])[(G++[a]).length]? =some b:=by
 rw [AF,AM sm];simp
@[go_sem] def Acv{α:Type}(G:List α)(a b:α):(G++[a,b])[G.length]? =some a:=by
 rw [AM (AU _)];simp
@[go_sem] def Acu{α:Type}(G:List α)(a b z:α):(G++[a,b]).set (G++[a]).length z=G++[a,z]:=by
 rw [AF,List.set_append_right _ _ sm];simp
@[go_sem] def AdK:Fi AA 115=some .nilm/\AA.underlying 115=some (.map 3 4):=⟨kr,kr⟩
abbrev Jq(n:Int):AV:=.int .i64 n
def Zu{k:AV}: ∀ {es:List (AV×AV)} {i j:Nat} {v:AV},JA k es i=some (j,v)->i<=j /\ ∃ p,es[j - i]? =some p/\Hp p.1 k=true/\p.2=v
 | [],_,_,_,h=>by cases h
 | p::es,i,j,v,h=>by
  rw [JA] at h
  by_cases hk:Hp p.1 k=true
  ·rw [iP hk] at h
   cases h
   exact ⟨AU _,p,sm,hk,rfl⟩
  ·rw [iN hk] at h
   obtain ⟨h1,q,h2,h3,h4⟩:=Zu h
   refine ⟨FQ,q, ?_,h3,h4⟩
   have:j - i=(j - (i+1))+1:=FQ
   rw [this];simpa using h2
def rA(z n:Int):Hp (Jq z) (Jq n)=(z==n):=by
 rw [BB];simp [Hp,Nj]
def rn(l:List Int)(n:Int):(l.any λy=>Hp (Jq y) (Jq n))=l.any λz=>z==n:=by
 simp only [rA]
def zx(l:List Int)(n:Int):MT (LO Jq l) (Jq n) (.bool true)=LO Jq (if l.any (λz=>z==n) then l else l++[n]):=by
 by_cases h:(l.any λz=>z==n)=true
 ·rw [iP h]
  have h2:=Ps Jq (Jq n) l 0
  rw [rn,iP h] at h2
  unfold MT
  cases ha:JA (Jq n) (LO Jq l) 0 with
  | none=>rw [ha] at h2;cases h2
  | some q =>
   obtain ⟨j,v⟩:=q
   obtain ⟨_,p,hp,hk,hv⟩:=Zu ha
   dsimp only
   rw [Nat.sub_zero] at hp
   have hp2:=hp
   rw [LO,AZ] at hp2
   cases hl:l[j]? with
   | none=>rw [hl] at hp2;cases hp2
   | some z =>
    rw [hl] at hp2
    cases hp2
    rw [rA] at hk
    have hz:z=n:=by simpa using hk
    subst hz
    apply A4
    intro m
    rw [Au]
    split
    ·rename_i hjm
     subst hjm
     rw [hp]
     have:=(AC.1 hp).1
     rw [iP this]
    ·rfl
 ·rw [iN h]
  exact AEy Jq n l (by rw [rn];exact (Df _).mp h)
def sO {P:Program} {K:Kt} {e:Ft} {H:FR} {t kt et:TypeId} {o:Nat} (l:List Int) (n:Int) (hu:P.underlying t=some (.map kt et)) (hm:H[o]? =some (some (J0 (LO Jq l)))) (hk:MV P kt (Jq n::l.map Jq)) (hd:R6 Jq l)
  (h:K e (H.set o (some (J0 (LO Jq (if l.any (λz=>z==n) then l else l++[n])))))):AIQ P t (.mapr o) (Jq n) (.bool true) K e H:=by
 unfold AIQ
 dsimp only
 rw [hu]
 dsimp only
 rw [gF hm]
 dsimp only
 refine ⟨by rw [d6];exact hk,We Jq hd,rfl, ?_⟩
 rw [zx];exact h
def ACs{l:List Int}(n:Int)(hd:R6 Jq l):R6 Jq (if l.any (λz=>z==n) then l else l++[n]):=by
 split
 ·exact hd
 ·rename_i h
  exact Wf Jq n hd (by rw [rn];exact (Df _).mp h)
structure VE where
 v:Variable
 b:Bool
def Xi(l:List Fld)(s:Stp):Variable:=⟨s.var,LT s.kind,Iw l s.key,if Lm s then s.n else 0,if Lm s then s.m else 0⟩
def N4(E:List VE)(nm:ByteArray):Option VE:=E.find? λe=>decide (e.v.name=nm)
def sG:List VE->VE->List VE
 | [],x=>[x]
 | e::E,x=>if e.v.name=x.v.name then x::E else e::sG E x
def ls(l:List Fld)(e:VE)(s:Stp):Bool:=e.v.family !=LT s.kind||(!YG e.v.widths (Iw l s.key)||(Lm s&&(e.b&&(e.v.n !=s.n||e.v.m !=s.m))))
def Tj(l:List Fld)(E:List VE)(s:Stp):Option (List VE) :=
 if s.kind=0 then some E else match N4 E s.var with
  | none=>some (sG E ⟨Xi l s,Lm s⟩)
  | some e=>if ls l e s then none else if Lm s then some (sG E ⟨Xi l s,true⟩) else some E
def vGo(l:List Fld):List VE->List Ev->Option (List VE)
 | E,[]=>some E
 | E,x::r=>match Tj l E x.step with
  | none=>none
  | some E'=>vGo l E' r
def KK(x:VE)(nm:ByteArray): ∀ E:List VE,N4 (sG E x) nm=if x.v.name=nm then some x else N4 E nm
 | []=>by
  unfold sG N4
  by_cases h:x.v.name=nm<;>simp [h]
 | e::E=>by
  have ih:=KK x nm E
  unfold sG
  by_cases h:e.v.name=x.v.name
  ·rw [iP h]
   unfold N4
   by_cases h2:x.v.name=nm
   ·simp [h2]
   ·simp [h2,h]
  ·rw [iN h]
   unfold N4 at ih ⊢
   rw [Bz,Bz]
   by_cases h2:e.v.name=nm
   ·have : ¬ x.v.name=nm:=λh3=>h (h2.trans h3.symm)
    simp [h2,this]
   ·simp only [h2,dF]
    exact ih
structure VInv (l:List Fld) (E:List VE) (p:List Ev):Prop where
 src : ∀ nm e,N4 E nm=some e -> ∃ x∈p,x.step.kind≠0/\x.step.var=nm
 fits : ∀ x∈p,x.step.kind≠0 -> ∃ e,N4 E x.step.var=some e/\e.v.family=LT x.step.kind/\e.v.widths=Iw l x.step.key/\(Lm x.step=true->e.b=true/\e.v.n=x.step.n/\e.v.m=x.step.m)
 num : ∀ nm e,N4 E nm=some e->e.b=true -> ∃ x∈p,x.step.kind≠0/\x.step.var=nm/\Lm x.step=true
def VInv.nil(l:List Fld):VInv l [] []:=⟨λ_ _ h=>(by cases h),λ_ h=>(by cases h),λ_ _ h=>(by cases h)⟩
def zw{l:List Fld}{E:List VE}{p:List Ev}(h:VInv l E p){s:Stp}(hk:s.kind≠0):
  p.any (λy=>LL l y.step s)=match N4 E s.var with|none=>false|some e=>ls l e s:=by
 cases hf:N4 E s.var with
 | none =>
  dsimp only
  rw [Bj]
  intro y hy hc
  unfold LL at hc
  simp only [AQ,bne_iff_ne,ne_eq,decide_eq_true_eq] at hc
  obtain ⟨e,he,_⟩:=h.fits y hy hc.1.1
  rw [hc.2.1,hf] at he
  cases he
 | some e =>
  dsimp only
  rw [BB,Cc]
  constructor
  ·rintro ⟨y,hy,hc⟩
   unfold LL UY at hc
   simp only [AQ,bne_iff_ne,ne_eq,decide_eq_true_eq] at hc
   obtain ⟨⟨k1,k2⟩,hv,ha⟩:=hc
   obtain ⟨e',he,h1,h2,h3⟩:=h.fits y hy k1
   rw [hv,hf] at he
   cases he
   have ha':(Lm y.step=true/\Lm s=true/\(y.step.n≠s.n\/y.step.m≠s.m))\/YG (Iw l y.step.key) (Iw l s.key)=false\/LT y.step.kind≠LT s.kind:=by
    generalize YG (Iw l y.step.key) (Iw l s.key)=B at ha ⊢
    generalize LT y.step.kind=f1 at ha ⊢
    generalize LT s.kind=f2 at ha ⊢
    generalize Lm y.step=c1 at ha ⊢
    generalize Lm s=c2 at ha ⊢
    cases B<;>cases c1<;>cases c2<;>simp at ha ⊢
    all_goals first|exact ha|(rcases ha with ha|ha<;>grind)|grind
   unfold ls
   rw [h1,h2]
   rcases ha' with ⟨a1,a2,a3⟩|a|a
   ·obtain ⟨g1,g2,g3⟩:=h3 a1
    rw [g1,g2,g3,a2]
    rcases a3 with a3|a3<;>simp [a3]
   ·simp [a]
   ·simp [a]
  ·intro hb
   unfold ls at hb
   by_cases hn:Lm s=true/\e.b=true/\(e.v.n !=s.n||e.v.m !=s.m)=true
   ·obtain ⟨n1,n2,n3⟩:=hn
    obtain ⟨y,hy,k1,k2,k3⟩:=h.num _ e hf n2
    obtain ⟨e',he,h1,h2,h3⟩:=h.fits y hy k1
    rw [k2,hf] at he
    cases he
    obtain ⟨g1,g2,g3⟩:=h3 k3
    refine ⟨y,hy, ?_⟩
    unfold LL UY
    rw [n1,k3,<- g2,<- g3,n3]
    simp [k1,hk,k2]
   ·obtain ⟨y,hy,k1,k2⟩:=h.src _ e hf
    obtain ⟨e',he,h1,h2,h3⟩:=h.fits y hy k1
    rw [k2,hf] at he
    cases he
    refine ⟨y,hy, ?_⟩
    unfold LL UY
    rw [<- h1,<- h2]
    have hb2:(e.v.family !=LT s.kind || !YG e.v.widths (Iw l s.key))=true:=by
     rw [CI] at hb ⊢
     rcases hb with hb|hb
     ·exact .inl hb
     ·rw [CI] at hb
      rcases hb with hb|hb
      ·exact .inr hb
      ·exfalso
       apply hn
       simp only [AQ] at hb
       exact ⟨hb.1,hb.2.1,hb.2.2⟩
    have hb3:(YG e.v.widths (Iw l s.key)&&e.v.family==LT s.kind)=false:=by
     generalize YG e.v.widths (Iw l s.key)=B at hb2 ⊢
     cases B
     ·rfl
     ·simp only [Av,Bool.or_false] at hb2
      simpa using hb2
    rw [hb3]
    simp [k1,hk,k2]
def VInv.step{l:List Fld}{E:List VE}{p:List Ev}(h:VInv l E p){x:Ev}{E':List VE}(hs:Tj l E x.step=some E'):VInv l E' (p++[x]):=by
 unfold Tj at hs
 split at hs
 ·rename_i hk
  cases hs
  exact ⟨λnm e he=>by obtain ⟨y,hy,h1⟩:=h.src nm e he;exact ⟨y,by simp [hy],h1⟩,
   λy hy hk2=>by
    rcases Ar.1 hy with hy|hy
    ·exact h.fits y hy hk2
    ·rw [Ab.1 hy] at hk2;exact absurd hk hk2,
   λnm e he hb=>by obtain ⟨y,hy,h1⟩:=h.num nm e he hb;exact ⟨y,by simp [hy],h1⟩⟩
 ·rename_i hk
  split at hs
  ·rename_i hf
   cases hs
   refine ⟨λnm e he=>?_,λy hy hk2=>?_,λnm e he hb=>?_⟩
   ·rw [KK] at he
    split at he
    ·rename_i hn
     exact ⟨x,sm,hk,hn⟩
    ·obtain ⟨y,hy,h1⟩:=h.src nm e he;exact ⟨y,by simp [hy],h1⟩
   ·rw [KK]
    rcases Ar.1 hy with hy|hy
    ·obtain ⟨e,he,h1⟩:=h.fits y hy hk2
     have hne : ¬ (Xi l x.step).name=y.step.var:=λhn=>by
      have hn:x.step.var=y.step.var:=hn
      rw [<- hn,hf] at he;cases he
     exact ⟨e,by rw [iN hne];exact he,h1⟩
    ·rcases Ab.1 hy with rfl
     refine ⟨_,iP rfl,rfl,rfl,λhn=>⟨hn, ?_, ?_⟩⟩
     ·simp [Xi,hn]
     ·simp [Xi,hn]
   ·rw [KK] at he
    split at he
    ·rename_i hn
     cases he
     exact ⟨x,sm,hk,hn,hb⟩
    ·obtain ⟨y,hy,h1⟩:=h.num nm e he hb;exact ⟨y,by simp [hy],h1⟩
  ·rename_i e0 hf
   split at hs
   ·cases hs
   ·rename_i hb0
    have hb0:ls l e0 x.step=false:=by simpa using hb0
    unfold ls at hb0
    rw [CF,CF] at hb0
    obtain ⟨b1,b2,b3⟩:=hb0
    have b1:e0.v.family=LT x.step.kind:=by simpa using b1
    have b2:e0.v.widths=Iw l x.step.key:=by simpa [YG] using b2
    split at hs
    ·rename_i hnum
     cases hs
     refine ⟨λnm e he=>?_,λy hy hk2=>?_,λnm e he hb=>?_⟩
     ·rw [KK] at he
      split at he
      ·rename_i hn
       exact ⟨x,sm,hk,hn⟩
      ·obtain ⟨y,hy,h1⟩:=h.src nm e he;exact ⟨y,by simp [hy],h1⟩
     ·rw [KK]
      rcases Ar.1 hy with hy|hy
      ·obtain ⟨e,he,h1,h2,h3⟩:=h.fits y hy hk2
       by_cases hn:(Xi l x.step).name=y.step.var
       ·have hn2:x.step.var=y.step.var:=hn
        rw [<- hn2,hf] at he
        cases he
        refine ⟨_,iP hn, ?_, ?_,λhny=>?_⟩
        ·show LT x.step.kind=_
         rw [<- b1,h1]
        ·show Iw l x.step.key=_
         rw [<- b2,h2]
        ·obtain ⟨g1,g2,g3⟩:=h3 hny
         rw [hnum,g1,g2,g3] at b3
         simp only [By,CF,bne_eq_false_iff_eq] at b3
         refine ⟨rfl, ?_, ?_⟩
         ·simp [Xi,hnum,b3.1]
         ·simp [Xi,hnum,b3.2]
       ·exact ⟨e,by rw [iN hn];exact he,h1,h2,h3⟩
      ·rcases Ab.1 hy with rfl
       refine ⟨_,iP rfl,rfl,rfl,λhn=>⟨rfl, ?_, ?_⟩⟩
       ·simp [Xi,hn]
       ·simp [Xi,hn]
     ·rw [KK] at he
      split at he
      ·rename_i hn
       exact ⟨x,sm,hk,hn,hnum⟩
      ·obtain ⟨y,hy,h1⟩:=h.num nm e he hb;exact ⟨y,by simp [hy],h1⟩
    ·rename_i hnum
     cases hs
     refine ⟨λnm e he=>?_,λy hy hk2=>?_,λnm e he hb=>?_⟩
     ·obtain ⟨y,hy,h1⟩:=h.src nm e he;exact ⟨y,by simp [hy],h1⟩
     ·rcases Ar.1 hy with hy|hy
      ·exact h.fits y hy hk2
      ·rcases Ab.1 hy with rfl
       exact ⟨e0,hf,b1,b2,λhn=>absurd hn hnum⟩
     ·obtain ⟨y,hy,h1⟩:=h.num nm e he hb;exact ⟨y,by simp [hy],h1⟩
def lq{l:List Fld}{E:List VE}{p:List Ev}(h:VInv l E p)(s:Stp):(Tj l E s).isSome = !p.any (λy=>LL l y.step s):=by
 by_cases hk:s.kind=0
 ·unfold Tj
  rw [iP hk]
  have:p.any (λy=>LL l y.step s)=false:=by
   rw [Bj];intro y _;simp [LL,hk]
  rw [this];rfl
 ·rw [zw h hk]
  unfold Tj
  rw [iN hk]
  cases N4 E s.var with
  | none=>rfl
  | some e =>
   dsimp only
   cases ls l e s
   ·cases Lm s<;>rfl
   ·rfl
def Yw(l:List Fld)(p:List Ev): ∀ (n i:Nat) (E:List VE),p.length - i=n->VInv l E (p.take i)->(vGo l E (p.drop i)).isSome=LH l p i (p.drop i)
 | 0,i,E,hn,_=>by
  rw [List.drop_eq_nil_of_le FQ];rfl
 | n+1,i,E,hn,h=>by
  have hlt:i<p.length:=FQ
  rw [BL hlt,vGo,LH]
  have h1:=lq h p[i].step
  cases hs:Tj l E p[i].step with
  | none =>
   rw [hs] at h1
   rw [<- h1];rfl
  | some E' =>
   rw [hs] at h1
   rw [<- h1]
   have ht:p.take (i+1)=p.take i++[p[i]]:=by rw [BF,AL hlt];rfl
   have:=Yw l p n (i+1) E' FQ (by rw [ht];exact h.step hs)
   simpa using this
def qb(l:List Fld)(p:List Ev):(vGo l [] p).isSome=LH l p 0 p:=by
 have:=Yw l p p.length 0 [] FQ (by simpa using VInv.nil l)
 simpa using this
def Z1(t:Ew):Prop:=∀ w∈t.wires,(0<=w.src/\w.src<=65535)/\(0<=w.dst/\w.dst<=65535)
def Su(l:List Fld): ∀ r:List Et,Lj l r=0 ↔ ∀ x∈r,Rg l x=0
 | []=>by simp [Lj]
 | x::r=>by
  rw [Lj]
  by_cases h:Rg l x=0
  ·rw [iP h,Su l r];simp [h]
  ·rw [iN h];simp [h]
def Pk(l:List Fld): ∀ r:List Es,Lt l r=0 ↔ ∀ x∈r,Px l x=0
 | []=>by simp [Lt]
 | x::r=>by
  rw [Lt]
  by_cases h:Px l x=0
  ·rw [iP h,Pk l r];simp [h]
  ·rw [iN h];simp [h]
def IM(l:List Fld)(x:Es):Prop:=NL x=true /\ ∀ y∈St x,Px l y=0
def Hk(l:List Fld)(x:Et):Prop:=R0 x=true /\ ∀ y∈Mp x,Rg l y=0
def gC:KU JP=65535:=dk
def Zb(l:List Fld):Fc l GI=(JP,true):=by unfold Fc;rw [iP rfl]
def il:U5 GI=true:=by unfold U5;simp
def rG(l:List Fld){n:Int}(h1:0<=n)(h2:n<=65535):IM l (Zr n):=by
 constructor
 ·rw [Hl]
  unfold S4 Zr
  rw [M2]
  simp [il,RO,h1,h2]
 ·intro y hy
  rw [LP] at hy
  have:y=Zr n:=by simpa [Zr,La] using hy
  subst this
  have : ¬ (KU JP<n):=by rw [gC];omega
  simp [Px,Zr,Zb,this]
def WT(l:List Fld):IM l Jc:=by
 constructor
 ·rw [Hl]
  unfold S4 Jc Kz
  rw [M2];simp
 ·intro y hy
  rw [LP] at hy
  have:y=Jc:=by simpa [Jc,La] using hy
  subst this
  simp [Px,Jc]
def AFv{l:List Fld}{x y:Es}(hx:IM l x)(hy:IM l y):IM l (rk x y):=by
 constructor
 ·rw [Hl]
  unfold S4 rk Kz
  dsimp only
  rw [Ka,Ka,M2,hx.1,hy.1];simp
 ·intro z hz
  rw [LP] at hz
  rcases AW.1 hz with rfl|hz
  ·simp [Px,rk]
  ·have hz:z∈Mo [x,y]:=hz
   rw [JV,JV,La] at hz
   rcases Ar.1 hz with hz|hz
   ·exact hx.2 z hz
   ·exact hy.2 z (by simpa using hz)
def ACR{l:List Fld}{x:Es}(hx:IM l x):IM l (bd x):=by
 constructor
 ·rw [Hl]
  unfold S4 bd Kz
  dsimp only
  rw [Ka,M2,hx.1];simp
 ·intro z hz
  rw [LP] at hz
  rcases AW.1 hz with rfl|hz
  ·simp [Px,bd]
  ·have hz:z∈Mo [x]:=hz
   rw [JV,La] at hz
   exact hx.2 z (by simpa using hz)
def Oy{l:List Fld}{x:Es}(hx:IM l x):Hk l (IB x):=by
 constructor
 ·rw [IQ]
  unfold Vq IB
  dsimp only
  rw [M3,hx.1];simp
 ·intro z hz
  rw [Kn] at hz
  have:z=IB x:=by simpa [IB,KO] using hz
  subst this
  show (if (1:Int)=1 then R1 l x else _)=0
  rw [iP rfl]
  exact (Pk l _).2 hx.2
def Q6:rM Pred.z Pn=true:=ACo _
def ACQ(l:List Fld){n:Int}(h1:0<=n)(h2:n<=65535):Hk l (YJ GI n):=by
 constructor
 ·rw [IQ]
  unfold Vq YJ
  dsimp only
  rw [M3,Q6];simp [il,RO,h1,h2]
 ·intro z hz
  rw [Kn] at hz
  have:z=YJ GI n:=by simpa [YJ,KO] using hz
  subst this
  have : ¬ (KU JP<n):=by rw [gC];omega
  simp [Rg,YJ,Zb,this]
def iV{l:List Fld}{x y:Et}(hx:Hk l x)(hy:Hk l y){k:Int}(hk:k=3\/k=4):Hk l ⟨k,Pred.z,⟨#[]⟩,0,[x,y]⟩:=by
 constructor
 ·rw [IQ]
  unfold Vq
  dsimp only
  rw [Kb,Kb,M3,hx.1,hy.1,Q6]
  rcases hk with rfl|rfl<;>simp
 ·intro z hz
  rw [Kn] at hz
  rcases AW.1 hz with rfl|hz
  ·rcases hk with rfl|rfl<;>simp [Rg]
  ·have hz:z∈MG [x,y]:=hz
   rw [Ii,Ii,KO] at hz
   rcases Ar.1 hz with hz|hz
   ·exact hx.2 z hz
   ·exact hy.2 z (by simpa using hz)
def ns{l:List Fld}{x y:Et}(hx:Hk l x)(hy:Hk l y):Hk l (Kl x y):=iV hx hy (.inl rfl)
def Rz{l:List Fld}{x y:Et}(hx:Hk l x)(hy:Hk l y):Hk l (UX x y):=iV hx hy (.inr rfl)
def xc{l:List Fld}{x:Et}(hx:Hk l x):Hk l (SD x):=by
 constructor
 ·rw [IQ]
  unfold Vq SD
  dsimp only
  rw [Kb,M3,hx.1,Q6];simp
 ·intro z hz
  rw [Kn] at hz
  rcases AW.1 hz with rfl|hz
  ·simp [Rg,SD]
  ·have hz:z∈MG [x]:=hz
   rw [Ii,KO] at hz
   exact hx.2 z (by simpa using hz)
def ZW{α:Type}{p:α->Prop}{two:α->α->α}(h2 : ∀ x y,p x->p y->p (two x y)): ∀ (l:List α) (x:α),p x->(∀ y∈l,p y)->p (l.foldl two x)
 | [],x,hx,_=>hx
 | y::l,x,hx,h=>ZW h2 l (two x y) (h2 x y hx (h y sm)) λz hz=>h z (by simp [hz])
def ZV{α:Type}{p:α->Prop}{two:α->α->α}{z:α}(h2 : ∀ x y,p x->p y->p (two x y))(hz:p z){l:List α}(h : ∀ y∈l,p y):p (LK z two l):=by
 cases l with
 | nil=>exact hz
 | cons x l=>exact ZW h2 l x (h x sm) λy hy=>h y (by simp [hy])
def iW{l:List Fld}{t:Ew}{p:Et}(hw:Z1 t)(hp:Hk l p):Hk l (HG t p):=by
 unfold HG
 split
 ·exact hp
 ·have h1:IM l (PC t):=ZV (p:=IM l) (two:=rk) (λ_ _=>AFv) (WT l) λy hy=>by
   obtain ⟨w,hm,rfl⟩:=AN.1 hy
   exact rG l (hw w hm).1.1 (hw w hm).1.2
  have h2:Hk l (Mc t):=ZV (p:=Hk l) (two:=Kl) (λ_ _=>ns) (Oy (WT l)) λy hy=>by
   obtain ⟨w,hm,rfl⟩:=AN.1 hy
   exact Rz (Oy (rG l (hw w hm).1.1 (hw w hm).1.2)) (ACQ l (hw w hm).2.1 (hw w hm).2.2)
  exact Rz (Rz hp (xc (Rz h2 hp))) (Oy (ACR h1))
def TK{l:List Fld}{x:Et}(h:Kf l x=0):VB x=0/\Hk l x:=by
 unfold Kf at h
 split at h
 ·rename_i h0
  refine ⟨h0, ?_,(Su l _).1 h⟩
  unfold VB rI at h0
  split at h0
  ·split at h0
   ·assumption
   ·cases h0
  ·rename_i hl;exact absurd h0 hl
 ·rename_i hn;exact absurd h hn
def bR{l:List Fld}{x:Et}(hn:VB x≠2)(h:Hk l x):Kf l x=0:=by
 have h0:VB x=0:=by
  unfold VB rI Qj at hn ⊢
  rw [h.1] at hn ⊢
  by_cases hz:(lz x).nodes>200\/(lz x).depth>20
  ·rw [iP hz] at hn;exact absurd rfl hn
  ·rw [iN hz];rfl
 rw [Kf,iP h0]
 exact (Su l _).2 h.2
def Yx(l:List Fld): ∀ (p q:List Ev) (E:List VE),p.map (·.step)=q.map (·.step)->vGo l E p=vGo l E q
 | [],[],_,_=>rfl
 | [],_::_,_,h=>by cases h
 | _::_,[],_,h=>by cases h
 | x::p,y::q,E,h=>by
  simp only [List.map_cons,List.cons.injEq] at h
  rw [vGo,vGo,h.1]
  cases Tj l E y.step with
  | none=>rfl
  | some E'=>exact Yx l p q E' h.2
def VR(l:List Fld): ∀ r:List Ev,NR l r=0 ↔ ∀ x∈r,Kf l x.policy=0/\MB l x.step=0
 | []=>by simp [NR]
 | x::r=>by
  rw [NR]
  by_cases h:Kf l x.policy=0
  ·rw [iP h]
   by_cases h2:MB l x.step=0
   ·rw [iP h2,VR l r];simp [h,h2]
   ·rw [iN h2];simp [h2]
  ·rw [iN h];simp [h]
def Wn : ∀ r:List Ev,Q8 r=0 ↔ ∀ x∈r,VB x.policy=0/\dR x.step=0
 | []=>by simp [Q8]
 | x::r=>by
  rw [Q8]
  by_cases h:VB x.policy=0
  ·rw [iP h]
   by_cases h2:dR x.step=0
   ·rw [iP h2,Wn r];simp [h,h2]
   ·rw [iN h2];simp [h2]
  ·rw [iN h];simp [h]
def rU{l:List Fld}{p:List Ev}(h:QJ l p=0):p.length<=8/\(∀ x∈p,VB x.policy=0/\dR x.step=0)/\(∀ x∈p,Kf l x.policy=0/\MB l x.step=0)/\(vGo l [] p).isSome=true:=by
 unfold QJ at h
 split at h
 ·rename_i hn;exact absurd h hn
 ·rename_i h1
  split at h
  ·rename_i hn;exact absurd h hn
  ·rename_i h2
   split at h
   ·rename_i h3
    have h1:Xg p=0:=by simpa using h1
    have h2:NR l p=0:=by simpa using h2
    unfold Xg at h1
    split at h1
    ·cases h1
    ·rename_i hl
     exact ⟨FQ,(Wn p).1 h1,(VR l p).1 h2,by rw [qb];exact h3⟩
   ·cases h
def ATu{l:List Fld}{p:List Ev}(h1:p.length<=8)(h2 : ∀ x∈p,VB x.policy=0/\dR x.step=0)(h3 : ∀ x∈p,Kf l x.policy=0/\MB l x.step=0)(h4:(vGo l [] p).isSome=true):QJ l p=0:=by
 rw [qb] at h4
 have g1:Xg p=0:=by unfold Xg;rw [iN FQ];exact (Wn p).2 h2
 have g2:NR l p=0:=(VR l p).2 h3
 unfold QJ
 rw [iN (by simp [g1]),iN (by simp [g2]),iP h4]
def RR(t:Ew): ∀ (r o:List Ev),(HV t o r).2=2/\(HV t o r).1=[] \/
  (HV t o r).2=0/\(HV t o r).1=o++r.map (λx=>{ x with policy:=HG t x.policy }) /\ ∀ x∈r,VB (HG t x.policy)≠2
 | [],o => .inr ⟨rfl,by simp [HV],λ_ h=>by cases h⟩
 | x::r,o=>by
  rw [HV]
  split
  ·exact .inl ⟨rfl,rfl⟩
  ·rename_i hn
   rcases RR t r (o++[{ x with policy:=HG t x.policy }]) with h|⟨h1,h2,h3⟩
   ·exact .inl h
   ·refine .inr ⟨h1,by rw [h2];simp,λy hy=>?_⟩
    rcases AW.1 hy with rfl|hy
    ·exact hn
    ·exact h3 y hy
def lk{l:List Fld}{t:Ew}(hw:Z1 t)(h:QJ l t.program=0):
  ((GO t).2=2/\(GO t).1=[]/\t.wires≠[])\/((GO t).2=0/\QJ l (GO t).1=0/\(GO t).1.map (·.step)=t.program.map (·.step)):=by
 obtain ⟨h1,h2,h3,h4⟩:=rU h
 rcases RR t t.program [] with ⟨g1,g2⟩|⟨g1,g2,g3⟩
 ·refine .inl ⟨g1,g2,λhe=>?_⟩
  have : ∀ (r o:List Ev),(∀ x∈r,VB x.policy=0)->(HV t o r).2=0:=by
   intro r
   induction r with
   | nil=>intro o _;rfl
   | cons x r ih =>
    intro o hx
    rw [HV]
    have e:HG t x.policy=x.policy:=by unfold HG;rw [iP he]
    rw [e,iN (by rw [hx x sm];decide)]
    exact ih _ λy hy=>hx y (by simp [hy])
  rw [this t.program [] λx hx=>(h2 x hx).1] at g1
  cases g1
 ·have hst:(GO t).1.map (·.step)=t.program.map (·.step):=by
   show (HV t [] t.program).1.map _=_
   rw [g2];simp [Bx,Function.comp_def]
  refine .inr ⟨g1, ?_,hst⟩
  have hm : ∀ x∈(GO t).1,Kf l x.policy=0/\VB x.policy=0/\dR x.step=0/\MB l x.step=0:=by
   intro x hx
   have hx:x∈(HV t [] t.program).1:=hx
   rw [g2,List.nil_append] at hx
   obtain ⟨y,hy,rfl⟩:=AN.1 hx
   have hg:=bR (g3 y hy) (iW hw (TK (h3 y hy).1).2)
   exact ⟨hg,(TK hg).1,(h2 y hy).2,(h3 y hy).2⟩
  refine ATu ?_ (λx hx=>⟨(hm x hx).2.1,(hm x hx).2.2.1⟩) (λx hx=>⟨(hm x hx).1,(hm x hx).2.2.2⟩) ?_
  ·have:=congrArg List.length hst
   simp only [Aq] at this
   omega
  ·rw [Yx l _ _ [] hst];exact h4
def XS{a b:Ex}(h:a.l=b.l):a=b:=by
 cases a;cases b
 simp only [Head.l,List.cons.injEq,and_true] at h
 simp [h]
def LU:List Int->List Int->Int
 | [],[]=>0
 | [],_::_ => -1
 | _::_,[]=>1
 | x::a,y::b=>if x<y then -1 else if y<x then 1 else LU a b
def Ip(a b:Ex):Int:=LU a.l b.l
def Zg : ∀ a:List Int,LU a a=0
 | []=>rfl
 | x::a=>by rw [LU,iN FQ,iN FQ,Zg a]
def rT : ∀ {a b:List Int},LU a b=0->a=b
 | [],[],_=>rfl
 | [],_::_,h=>by simp [LU] at h
 | _::_,[],h=>by simp [LU] at h
 | x::a,y::b,h=>by
  rw [LU] at h
  split at h
  ·cases h
  ·split at h
   ·cases h
   ·have:x=y:=FQ
    rw [this,rT h]
def jI : ∀ a b:List Int,LU a b = - LU b a
 | [],[]=>rfl
 | [],_::_=>rfl
 | _::_,[]=>rfl
 | x::a,y::b=>by
  rw [LU,LU]
  by_cases h1:x<y
  ·rw [iP h1,iN FQ,iP h1]
  ·by_cases h2:y<x
   ·rw [iN h1,iP h2,iP h2];rfl
   ·rw [iN h1,iN h2,iN h2,iN h1,jI a b]
def Wi : ∀ {a b c:List Int},LU a b<0->LU b c<0->LU a c<0
 | [],[],_,h,_=>by simp [LU] at h
 | [],_::_,[],_,h=>by simp [LU] at h
 | [],_::_,_::_,_,_=>by simp [LU]
 | _::_,[],_,h,_=>by simp [LU] at h
 | _::_,_::_,[],_,h=>by simp [LU] at h
 | x::a,y::b,z::c,h1,h2=>by
  rw [LU] at h1 h2 ⊢
  by_cases hxy:x<y
  ·by_cases hyz:y<z
   ·rw [iP FQ];decide
   ·rw [iN hyz] at h2
    by_cases hzy:z<y
    ·rw [iP hzy] at h2;simp at h2
    ·rw [iP FQ];decide
  ·rw [iN hxy] at h1
   by_cases hyx:y<x
   ·rw [iP hyx] at h1;simp at h1
   ·rw [iN hyx] at h1
    have:x=y:=FQ
    subst this
    by_cases hyz:x<z
    ·rw [iP hyz];decide
    ·rw [iN hyz] at h2 ⊢
     by_cases hzy:z<x
     ·rw [iP hzy] at h2;simp at h2
     ·rw [iN hzy] at h2 ⊢
      exact Wi h1 h2
def Po(a:Ex):Ip a a=0:=Zg _
def R9{a b:Ex}(h:Ip a b=0):a=b:=XS (rT h)
def Wj(a b:Ex):Ip a b = - Ip b a:=jI _ _
def L0{a b c:Ex}(h1:Ip a b<0)(h2:Ip b c<0):Ip a c<0:=Wi h1 h2
def LM(l:List Ex):Prop:=l.Pairwise λa b=>Ip a b<0
def AAI:LM []:=.nil
def dl(h:Ex):LM [h]:=List.pairwise_singleton _ _
def qf : ∀ {a b:List Ex},LM a->LM b->(∀ x,x∈a↔x∈b)->a=b
 | [],[],_,_,_=>rfl
 | [],y::b,_,_,h=>by have:=(h y).2 sm ; cases this
 | x::a,[],_,_,h=>by have:=(h x).1 sm ; cases this
 | x::a,y::b,h1,h2,h=>by
  obtain ⟨g1,g2⟩:=Bi.1 h1
  obtain ⟨g3,g4⟩:=Bi.1 h2
  have hxy:x=y:=by
   rcases AW.1 ((h x).1 sm) with e|e
   ·exact e
   ·rcases AW.1 ((h y).2 sm) with e2|e2
    ·exact e2.symm
    ·have h3:=g3 x e
     have h4:=g1 y e2
     have:=Wj x y
     omega
  subst hxy
  congr 1
  refine qf g2 g4 λz=>⟨λhz=>?_,λhz=>?_⟩
  ·rcases AW.1 ((h z).1 (by simp [hz])) with e|e
   ·subst e;have:=g1 z hz;rw [Po] at this;omega
   ·exact e
  ·rcases AW.1 ((h z).2 (by simp [hz])) with e|e
   ·subst e;have:=g3 z hz;rw [Po] at this;omega
   ·exact e
def OB(h:Ex):List Ex->List Ex
 | []=>[h]
 | x::r=>if Ip x h<0 then x::OB h r else if x=h then x::r else h::x::r
def Gs(a b:List Ex):List Ex:=b.foldl (λo x=>OB x o) a
def Vx(h z:Ex): ∀ l:List Ex,z∈OB h l↔z=h\/z∈l
 | []=>by simp [OB]
 | x::r=>by
  rw [OB]
  split
  ·rw [AW,Vx h z r,AW]
   constructor
   ·rintro (e|e|e)
    ·exact .inr (.inl e)
    ·exact .inl e
    ·exact .inr (.inr e)
   ·rintro (e|e|e)
    ·exact .inr (.inl e)
    ·exact .inl e
    ·exact .inr (.inr e)
  ·split
   ·rename_i e
    subst e
    simp
   ·simp
def dj(h:Ex): ∀ {l:List Ex},LM l->LM (OB h l)
 | [],_=>dl h
 | x::r,hs=>by
  obtain ⟨g1,g2⟩:=Bi.1 hs
  rw [OB]
  split
  ·rename_i hlt
   refine Bi.2 ⟨λz hz=>?_,dj h g2⟩
   rcases (Vx h z r).1 hz with e|e
   ·rw [e];exact hlt
   ·exact g1 z e
  ·rename_i hlt
   split
   ·exact hs
   ·rename_i hne
    have hx:Ip h x<0:=by
     have h1:=Wj h x
     have:Ip x h≠0:=λe=>hne (R9 e)
     omega
    refine Bi.2 ⟨λz hz=>?_,hs⟩
    rcases AW.1 hz with e|e
    ·rw [e];exact hx
    ·exact L0 hx (g1 z e)
def ee(h:Ex): ∀ l:List Ex,l.length<=(OB h l).length/\(OB h l).length<=l.length+1
 | []=>by simp [OB]
 | x::r=>by
  have:=ee h r
  rw [OB]
  split
  ·simp only [AD];omega
  ·split<;>simp
def Qh(z:Ex): ∀ (b a:List Ex),z∈Gs a b↔z∈a\/z∈b
 | [],a=>by simp [Gs]
 | x::b,a=>by
  have:=Qh z b (OB x a)
  unfold Gs at this ⊢
  rw [CE,this,Vx,AW]
  constructor
  ·rintro ((e|e)|e)
   ·exact .inr (.inl e)
   ·exact .inl e
   ·exact .inr (.inr e)
  ·rintro (e|e|e)
   ·exact .inl (.inr e)
   ·exact .inl (.inl e)
   ·exact .inr e
def QX : ∀ (b:List Ex) {a:List Ex},LM a->LM (Gs a b)
 | [],_,h=>h
 | x::b,a,h=>QX b (a:=OB x a) (dj x h)
def Vw : ∀ (b a:List Ex),a.length<=(Gs a b).length/\(Gs a b).length<=a.length+b.length
 | [],a=>by simp [Gs]
 | x::b,a=>by
  have h1:=Vw b (OB x a)
  have h2:=ee x a
  unfold Gs at h1 ⊢
  rw [CE,AD]
  omega
def I6:Nat->List Ex->List Ex->List Ex
 | 0,_,_=>[]
 | _+1,[],b=>b
 | _+1,a,[]=>a
 | n+1,x::a,y::b=>if Ip x y<0 then x::I6 n a (y::b) else if Ip x y=0 then y::I6 n a b else y::I6 n (x::a) b
def Hv(a b:List Ex):List Ex:=I6 (a.length+b.length+1) a b
def KT(z:Ex): ∀ (n:Nat) (a b:List Ex),a.length+b.length<n->(z∈I6 n a b↔z∈a\/z∈b)
 | 0,a,b,h=>FQ
 | n+1,[],b,_=>by simp [I6]
 | n+1,x::a,[],_=>by simp [I6]
 | n+1,x::a,y::b,h=>by
  simp only [AD] at h
  rw [I6]
  split
  ·rw [AW,KT z n a (y::b) (by simp;omega),AW (l:=a)]
   constructor
   ·rintro (e|e|e)
    ·exact .inl (.inl e)
    ·exact .inl (.inr e)
    ·exact .inr e
   ·rintro ((e|e)|e)
    ·exact .inl e
    ·exact .inr (.inl e)
    ·exact .inr (.inr e)
  ·split
   ·rename_i he
    have hxy:=R9 he
    subst hxy
    rw [AW,KT z n a b FQ,AW,AW]
    constructor
    ·rintro (e|e|e)
     ·exact .inl (.inl e)
     ·exact .inl (.inr e)
     ·exact .inr (.inr e)
    ·rintro ((e|e)|(e|e))
     ·exact .inl e
     ·exact .inr (.inl e)
     ·exact .inl e
     ·exact .inr (.inr e)
   ·rw [AW,KT z n (x::a) b (by simp;omega),AW (l:=b)]
    constructor
    ·rintro (e|e|e)
     ·exact .inr (.inl e)
     ·exact .inl e
     ·exact .inr (.inr e)
    ·rintro (e|e|e)
     ·exact .inr (.inl e)
     ·exact .inl e
     ·exact .inr (.inr e)
def PU : ∀ (n:Nat) (a b:List Ex),a.length+b.length<n->LM a->LM b->LM (I6 n a b)
 | 0,a,b,h,_,_=>FQ
 | n+1,[],b,_,_,hb=>by simpa [I6] using hb
 | n+1,x::a,[],_,ha,_=>by simpa [I6] using ha
 | n+1,x::a,y::b,h,ha,hb=>by
  simp only [AD] at h
  obtain ⟨g1,g2⟩:=Bi.1 ha
  obtain ⟨g3,g4⟩:=Bi.1 hb
  rw [I6]
  split
  ·rename_i hlt
   refine Bi.2 ⟨λz hz=>?_,PU n a (y::b) (by simp;omega) g2 hb⟩
   rcases (KT z n a (y::b) (by simp;omega)).1 hz with e|e
   ·exact g1 z e
   ·rcases AW.1 e with e|e
    ·rw [e];exact hlt
    ·exact L0 hlt (g3 z e)
  ·rename_i hlt
   split
   ·rename_i he
    have hxy:=R9 he
    subst hxy
    refine Bi.2 ⟨λz hz=>?_,PU n a b FQ g2 g4⟩
    rcases (KT z n a b FQ).1 hz with e|e
    ·exact g1 z e
    ·exact g3 z e
   ·rename_i hne
    have hyx:Ip y x<0:=by have:=Wj x y;omega
    refine Bi.2 ⟨λz hz=>?_,PU n (x::a) b (by simp;omega) ha g4⟩
    rcases (KT z n (x::a) b (by simp;omega)).1 hz with e|e
    ·rcases AW.1 e with e|e
     ·rw [e];exact hyx
     ·exact L0 hyx (g1 z e)
    ·exact g3 z e
def PY{a b:List Ex}(ha:LM a)(hb:LM b):Hv a b=Gs a b :=
 qf (PU _ a b FQ ha hb) (QX b ha) λz=>by rw [Hv,KT z _ a b FQ,Qh]
def JJ(f:Ex->Option (List Ex)):List Ex->List Ex->Option (List Ex)
 | o,[]=>some o
 | o,x::r=>match f x with
  | none=>none
  | some a=>if 256<(Gs o a).length then none else JJ f (Gs o a) r
def IU(o n:List Ex):List Ex:=n.filter λx => !o.any λy=>decide (y=x)
def K6(f:Ex->Option (List Ex)):Nat->List Ex->List Ex->Option (List Ex)
 | 0,_,_=>none
 | k+1,o,n=>if n=[] then some o else match JJ f [] n with
  | none=>none
  | some m=>if 256<(Gs o (IU o m)).length then none else K6 f k (Gs o (IU o m)) (IU o m)
def Fm(h:Ex)(k:Nat):Int:=(h.l[k]?).getD 0
def sX(h:Ex)(k:Nat)(v:Int):Ex :=
 ⟨if k=0 then v else h.h0,if k=1 then v else h.h1,if k=2 then v else h.h2,if k=3 then v else h.h3,if k=4 then v else h.h4,if k=5 then v else h.h5,if k=6 then v else h.h6,if k=7 then v else h.h7,if k=8 then v else h.h8,if k=9 then v else h.h9⟩
def HB(f:Fld):Prop:=1<=f.width/\f.width<=16/\0<=f.at_/\f.at_<=143/\f.at_ % 16+f.width<=16
def fK(f:Fld):Nat:=(f.at_ / 16).toNat
def fS(f:Fld):Nat:=(16 - f.at_ % 16 - f.width).toNat
def fW(f:Fld):Nat:=f.width.toNat
def Nm(f:Fld)(h:Ex):Nat:=(Fm h (fK f)).toNat / 2^fS f % 2^fW f
def RY(f:Fld)(h:Ex)(n:Nat):Ex:=sX h (fK f) ((((Fm h (fK f)).toNat ^^^ ((Fm h (fK f)).toNat &&& ((2^fW f - 1) <<< fS f))) ||| (n <<< fS f):Nat):Int)
def JW{f:Fld}(h:HB f):fK f<=8/\fS f+fW f<=16/\1<=fW f:=by
 unfold HB at h
 unfold fK fS fW
 omega
def Hi{h:Ex}(hr:FX h=true)(k:Nat):0<=Fm h k/\Fm h k<=65535:=by
 unfold FX at hr
 unfold Fm
 cases hk:h.l[k]? with
 | none=>simp
 | some v =>
  have:=Am.1 hr v (AB hk)
  simpa [MC] using this
def ABf(h:Ex)(k:Nat)(v:Int):(sX h k v).l=h.l.set k v:=by
 match k with
 | 0=>rfl
 | 1=>rfl
 | 2=>rfl
 | 3=>rfl
 | 4=>rfl
 | 5=>rfl
 | 6=>rfl
 | 7=>rfl
 | 8=>rfl
 | 9=>rfl
 | n+10=>rfl
def Tp{h:Ex}(hr:FX h=true)(k:Nat){v:Int}(h0:0<=v)(h1:v<=65535):FX (sX h k v)=true:=by
 unfold FX at hr ⊢
 rw [ABf,Am]
 intro x hx
 rcases List.mem_or_eq_of_mem_set hx with hx|rfl
 ·exact Am.1 hr x hx
 ·simp [MC,h0,h1]
def jg{W M:Nat}(hW:W<65536)(hM:M<65536):W ^^^ (W &&& M)<65536:=Cd (n:=16) hW (Dq _ hM)
def AIX{W s w n:Nat}(hW:W<65536)(hn:n<2^w)(hsw:s+w<=16):(W ^^^ (W &&& ((2^w - 1) <<< s))) ||| (n <<< s)<65536:=by
 refine EJ (n:=16) (Cd (n:=16) hW (Ca DL hW)) ?_
 rw [Dr]
 calc n*2^s<2^w*2^s:=EK hn (BY s)
  _=2^(s+w):=by rw [CD,EL]
  _<=2^16:=BZ dc hsw
def Ti(h:Ex)(k j:Nat)(v:Int)(hk:k<10):Fm (sX h k v) j=if j=k then v else Fm h j:=by
 unfold Fm
 rw [ABf,Au]
 by_cases e:k=j
 ·subst e
  rw [iP rfl,iP (by simpa [Head.l] using hk),iP rfl];rfl
 ·rw [iN e,iN (λc=>e c.symm)]
def dX(j:Nat):Fm Head.z j=0:=by
 match j with
 | 0|1|2|3|4|5|6|7|8|9=>rfl
 | n+10=>rfl
def AB3{a b:Ex}(h : ∀ k,k<10->Fm a k=Fm b k):a=b:=by
 apply XS
 apply A4
 intro k
 by_cases hk:k<10
 ·have:=h k hk
  unfold Fm at this
  have la:a.l.length=10:=rfl
  have lb:b.l.length=10:=rfl
  rw [AL FQ,AL FQ] at this ⊢
  simpa using this
 ·rw [Az (by show 10<=k;omega),Az (by show 10<=k;omega)]
def LJ(w m:Nat):Nat:=(2^w - 1) ^^^ ((2^w - 1) &&& (2^(w - m) - 1))
def ZK(w m j:Nat):(LJ w m).testBit j=(decide (w - m<=j)&&decide (j<w)):=by
 unfold LJ
 rw [Ds,Cu,EM,EM]
 by_cases h1:j<w<;>by_cases h2:j<w - m<;>simp [h1,h2]<;>omega
def gD(w m:Nat):LJ w m<2^w:=by
 have:0<2^w:=BY w
 exact Cd FQ (Ca DL FQ)
def mz(w:Nat):LJ w w=2^w - 1:=by
 unfold LJ
 rw [AP];simp
def Ve(f:Fld)(n m:Nat):Pat:=⟨RY f Head.z (LJ (fW f) m),RY f Head.z (n &&& LJ (fW f) m)⟩
def my(p:Pat)(h:Ex):Bool:=(Ak 10).all λi=>(((Fm p.bits i).toNat ^^^ (Fm h i).toNat) &&& (Fm p.mask i).toNat)==0
def Iu(p:Pat)(h:Ex)(i:Nat):Int:=((((Fm h i).toNat ^^^ ((Fm h i).toNat &&& (Fm p.mask i).toNat)) ||| (Fm p.bits i).toNat:Nat):Int)
def bn(p:Pat)(h:Ex):Ex:=⟨Iu p h 0,Iu p h 1,Iu p h 2,Iu p h 3,Iu p h 4,Iu p h 5,Iu p h 6,Iu p h 7,Iu p h 8,Iu p h 9⟩
def Si(f:Fld)(hf:HB f)(v j:Nat):Fm (RY f Head.z v) j=if j=fK f then ((v <<< fS f:Nat):Int) else 0:=by
 have hd:=JW hf
 unfold RY
 rw [Ti _ _ _ _ FQ,dX,dX]
 split<;>simp
def jB{a b w k:Nat}(ha:a<2^w)(hb:b<2^w):a / 2^k=b / 2^k ↔ ∀ j,k<=j->j<w->a.testBit j=b.testBit j:=by
 constructor
 ·intro h j h1 _
  have e:j=(j - k)+k:=FQ
  rw [e,<- Cv,<- Cv,h]
 ·intro h
  apply EN
  intro i
  rw [Cv,Cv]
  by_cases hw:i+k<w
  ·exact h _ FQ hw
  ·rw [EO (BQ ha (BZ dc FQ)),EO (BQ hb (BZ dc FQ))]
def iX(f:Fld)(h:Ex)(j:Nat)(hj:j<fW f):(Nm f h).testBit j=(Fm h (fK f)).toNat.testBit (fS f+j):=by
 unfold Nm
 rw [Nat.testBit_mod_two_pow,Cv,CD]
 simp [hj]
def AFx(f:Fld)(h:Ex):Nm f h<2^fW f:=Nat.mod_lt _ (BY _)
def ZJ{f:Fld}(hf:HB f){n m:Nat}(hn:n<2^fW f)(hm:m<=fW f)(h:Ex):my (Ve f n m) h=decide (Nm f h / 2^(fW f - m)=n / 2^(fW f - m)):=by
 have hd:=JW hf
 rw [BB,decide_eq_true_eq,jB (AFx f h) hn]
 unfold my Ve
 rw [Am]
 constructor
 ·intro hall j h1 h2
  have:=hall (fK f) (by rw [Br];omega)
  rw [Si f hf,Si f hf,iP rfl,iP rfl,beq_iff_eq,Af,Af] at this
  have hb:((((n &&& LJ (fW f) m) <<< fS f) ^^^ (Fm h (fK f)).toNat) &&& (LJ (fW f) m <<< fS f)).testBit (fS f+j)=false:=by rw [this];simp
  rw [Cu,Ds,DM,DM,Cu] at hb
  have e1:decide (fS f<=fS f+j)=true:=sm
  have e2:fS f+j - fS f=j:=FQ
  have e3:(LJ (fW f) m).testBit j=true:=by rw [ZK];simp;omega
  rw [e1,e2,e3] at hb
  rw [iX f h j h2]
  simp only [Bh,By,bne_eq_false_iff_eq] at hb
  exact hb.symm
 ·intro hbits i hi
  rw [Si f hf,Si f hf]
  by_cases e:i=fK f
  ·subst e
   rw [iP rfl,iP rfl,beq_iff_eq,Af,Af]
   apply EN
   intro i
   rw [Cu,Ds,DM,DM,Cu,ZK]
   by_cases g0:fS f<=i
   ·by_cases g1:fW f - m<=i - fS f/\i - fS f<fW f
    ·have hb:=hbits (i - fS f) g1.1 g1.2
     rw [iX f h _ g1.2,show fS f+(i - fS f)=i by omega] at hb
     have e1:decide (fS f<=i)=true:=by simpa using g0
     have e2:(decide (fW f - m<=i - fS f)&&decide (i - fS f<fW f))=true:=by simp;omega
     rw [hb,e1,e2]
     simp
    ·have:(decide (fW f - m<=i - fS f)&&decide (i - fS f<fW f))=false:=by simp;omega
     rw [this];simp
   ·simp [g0]
  ·rw [iN e,iN e];simp
def yg{f:Fld}(hf:HB f){n:Nat}(hn:n<2^fW f){h:Ex}(hr:FX h=true):bn (Ve f n (fW f)) h=RY f h n:=by
 have hd:=JW hf
 apply AB3
 intro k hk
 have e1:Fm (bn (Ve f n (fW f)) h) k=Iu (Ve f n (fW f)) h k:=by
  match k,hk with
  | 0,_|1,_|2,_|3,_|4,_|5,_|6,_|7,_|8,_|9,_=>rfl
 rw [e1]
 unfold Iu Ve
 rw [Si f hf,Si f hf,mz]
 have hand:n &&& (2^fW f - 1)=n:=by rw [EP,Bv hn]
 rw [hand]
 unfold RY
 rw [Ti _ _ _ _ FQ]
 by_cases e:k=fK f
 ·subst e
  rw [iP rfl,iP rfl,iP rfl,Af,Af]
 ·rw [iN e,iN e,iN e]
  have:=(Hi hr k).1
  simp;omega
def NT{f:Fld}(hf:HB f){n:Nat}(hn:n<2^fW f){h:Ex}(hr:FX h=true):FX (RY f h n)=true:=by
 have hd:=JW hf
 have hw:=Hi hr (fK f)
 have hlt:=AIX (W:=(Fm h (fK f)).toNat) (s:=fS f) (w:=fW f) (n:=n) FQ hn FQ
 unfold RY
 refine Tp hr _ FQ ?_
 omega
def zA(x y:Int):Int:=IntKind.i64.wrap (BitVec.ofInt 64 x &&& BitVec.ofInt 64 y).toNat
def orI(x y:Int):Int:=IntKind.i64.wrap (BitVec.ofInt 64 x ||| BitVec.ofInt 64 y).toNat
def AEm(x y:Int):Int:=IntKind.i64.wrap (BitVec.ofInt 64 x ^^^ BitVec.ofInt 64 y).toNat
def xp(x y:Int):Int:=IntKind.i64.wrap (BitVec.ofInt 64 x &&& ~~~ BitVec.ofInt 64 y).toNat
section
variable {P:Program} {t:TypeId} {k:IntKind} {x y:Int} {d:Tmp} {K:Kt} {e:Ft} {H:FR}
@[go_sem] def AVz:Ih P .and t (.int .i64 x) (.int .i64 y) d K e H=K ((d,.int .i64 (zA x y))::e) H:=by
 rw [HN];exact propext ⟨λh=>h.2,λh=>⟨rfl,h⟩⟩
@[go_sem] def Acd:Ih P .or t (.int .i64 x) (.int .i64 y) d K e H=K ((d,.int .i64 (orI x y))::e) H:=by
 rw [HN];exact propext ⟨λh=>h.2,λh=>⟨rfl,h⟩⟩
@[go_sem] def AVr:Ih P .xor t (.int .i64 x) (.int .i64 y) d K e H=K ((d,.int .i64 (AEm x y))::e) H:=by
 rw [HN];exact propext ⟨λh=>h.2,λh=>⟨rfl,h⟩⟩
@[go_sem] def AVy:Ih P .andNot t (.int .i64 x) (.int .i64 y) d K e H=K ((d,.int .i64 (xp x y))::e) H:=by
 rw [HN];exact propext ⟨λh=>h.2,λh=>⟨rfl,h⟩⟩
@[go_sem] def AVt:Ih P .shr t (.int .i64 x) (.int k y) d K e H=(0<=y/\K ((d,.int .i64 (x.fdiv (2^(min y.toNat 64))))::e) H):=by
 rw [HN];rfl
end
def Jf(a:Nat):BitVec.ofInt 64 (a:Int)=BitVec.ofNat 64 a:=by
 apply BitVec.eq_of_toInt_eq;simp
def W4{a b:Nat}(ha:a<9223372036854775808)(hb:b<9223372036854775808):zA a b=((a &&& b:Nat):Int):=by
 have h1:a &&& b<2^63:=Dq _ FQ
 unfold zA
 rw [Jf,Jf,BitVec.toNat_and,BitVec.toNat_ofNat,BitVec.toNat_ofNat,Bv FQ,Bv FQ]
 exact OQ FQ FQ
def qz{a b:Nat}(ha:a<9223372036854775808)(hb:b<9223372036854775808):orI a b=((a ||| b:Nat):Int):=by
 have h1:a ||| b<2^63:=EJ FQ FQ
 unfold orI
 rw [Jf,Jf,BitVec.toNat_or,BitVec.toNat_ofNat,BitVec.toNat_ofNat,Bv FQ,Bv FQ]
 exact OQ FQ FQ
def zf{a b:Nat}(ha:a<9223372036854775808)(hb:b<9223372036854775808):AEm a b=((a ^^^ b:Nat):Int):=by
 have h1:a ^^^ b<2^63:=Cd FQ FQ
 unfold AEm
 rw [Jf,Jf,BitVec.toNat_xor,BitVec.toNat_ofNat,BitVec.toNat_ofNat,Bv FQ,Bv FQ]
 exact OQ FQ FQ
def Wm{a b:Nat}(ha:a<9223372036854775808)(hb:b<9223372036854775808):xp a b=((a ^^^ (a &&& b):Nat):Int):=by
 have h1:a ^^^ (a &&& b)<2^63:=Cd FQ (Dq _ FQ)
 have e:(BitVec.ofNat 64 a &&& ~~~ BitVec.ofNat 64 b)=BitVec.ofNat 64 a ^^^ (BitVec.ofNat 64 a &&& BitVec.ofNat 64 b):=by
  generalize BitVec.ofNat 64 a=u
  generalize BitVec.ofNat 64 b=v
  ext i hi
  simp only [BitVec.getElem_and,BitVec.getElem_not,BitVec.getElem_xor]
  cases u[i]<;>cases v[i]<;>rfl
 unfold xp
 rw [Jf,Jf,e,BitVec.toNat_xor,BitVec.toNat_and,BitVec.toNat_ofNat,BitVec.toNat_ofNat,Bv FQ,Bv FQ]
 exact OQ FQ FQ
def AE0{a s:Nat}(hs:s<=64):(a:Int).fdiv (2^min s 64)=((a / 2^s:Nat):Int):=by
 rw [B7 hs,Dp _ (Int.pow_nonneg dc)]
 push_cast;rfl
def Ld(h:Ex){k:Nat}(hk:k<10):h.c[k]? =some (.int .i64 (Fm h k)):=by
 match k,hk with
 | 0,_|1,_|2,_|3,_|4,_|5,_|6,_|7,_|8,_|9,_=>rfl
def XV(h:Ex){k:Nat}(hk:k<10)(v:Int):splice h.c k [.int .i64 v]=(sX h k v).c:=by
 match k,hk with
 | 0,_|1,_|2,_|3,_|4,_|5,_|6,_|7,_|8,_|9,_=>rfl
def ACc{f:Fld}(hf:HB f):IntKind.i64.wrap (f.at_.tdiv 16)=(fK f:Int)/\f.at_.tmod 16=f.at_ % 16/\IntKind.i64.wrap (IntKind.i64.wrap (16 - f.at_ % 16) - f.width)=(fS f:Int):=by
 have h:=hf
 unfold HB at h
 have e1:f.at_.tdiv 16=f.at_ / 16:=Int.tdiv_eq_ediv_of_nonneg FQ
 have e2:f.at_.tmod 16=f.at_ % 16:=Int.tmod_eq_emod_of_nonneg FQ
 refine ⟨?_,e2, ?_⟩
 ·rw [e1,OQ FQ FQ];unfold fK;omega
 ·rw [OQ (n:=16 - f.at_ % 16) FQ FQ,OQ FQ FQ];unfold fS;omega
def qt(f:Fld)(hf:HB f):A' AA 279 [.agg f.c] (.int .i64 (fS f)):=by
 obtain ⟨d1,d2,d3⟩:=ACc hf
 have g16 : ¬((16:Int)=0):=dc
 refine pC ALs rfl ?_
 simp only [f279,go_sem,d2,d3,g16]
def Rl{f:Fld}(hf:HB f):KU f=((2^fW f - 1:Nat):Int):=by
 have h:=hf
 unfold HB at h
 have hp : ∀ n:Nat,n<=16->Xl n=((2^n:Nat):Int):=by
  intro n
  induction n with
  | zero=>intro _;rfl
  | succ n ih =>
   intro hn
   rw [Xl,ih FQ]
   have:2^n<=2^16:=BZ dc FQ
   unfold i64
   rw [Nat.pow_succ]
   generalize 2^n=z at this ⊢
   rw [OQ FQ FQ]
   exact (Int.natCast_mul _ _).symm
 unfold KU
 rw [hp _ FQ]
 have h1:2^f.width.toNat<=2^16:=BZ dc FQ
 have h2:0<2^f.width.toNat:=BY _
 unfold i64 fW
 rw [OQ FQ FQ]
 omega
def mP(f:Fld)(hf:HB f)(h:Ex)(hr:FX h=true):A' AA 216 [.agg f.c,.agg h.c] (.int .i64 (Nm f h)):=by
 obtain ⟨d1,d2,d3⟩:=ACc hf
 have hd:=JW hf
 have hw:=Hi hr (fK f)
 have i0:(0:Int)<=(fK f:Int):=FQ
 have i1:(fK f:Int)<((10:Nat):Int):=FQ
 have i2:=Ld h (show fK f<10 by omega)
 obtain ⟨W,hW⟩ : ∃ W:Nat,Fm h (fK f)=(W:Int):=⟨(Fm h (fK f)).toNat,FQ⟩
 have hM:2^fW f<=2^16:=BZ dc FQ
 have hD:W / 2^fS f<=W:=Nat.div_le_self _ _
 have g16 : ¬((16:Int)=0):=dc
 have g0:(0:Int)<=(fS f:Int):=FQ
 have c1:=qt f hf
 have c2:=qw f (by have:=hf;unfold HB at this;omega) (by have:=hf;unfold HB at this;omega)
 have e1:(W:Int).fdiv (2^min (fS f) 64)=((W / 2^fS f:Nat):Int):=AE0 FQ
 have e2:zA ((W / 2^fS f:Nat):Int) ((2^fW f - 1:Nat):Int)=(Nm f h:Nat):=by
  rw [W4 FQ FQ,EP]
  unfold Nm;rw [hW,Af]
 rw [Rl hf] at c2
 rw [hW] at i2
 refine pC AOE rfl ?_
 simp only [f216,go_sem,d1,i0,i1,i2,g16,Af]
 repeat' (first|((first|refine pK (c1) ?_|refine pK (c2) ?_);simp only [go_sem,g0,e1,e2,Af])|(first|apply cS|apply gS)<;>intro hc<;>simp only [go_sem,hc,d1,d2,d3,i0,i1,i2,g16,g0,e1,e2,Af])
def mO(f:Fld)(hf:HB f)(h:Ex)(hr:FX h=true)(n:Nat)(hn:n<2^fW f):A' AA 278 [.agg f.c,.agg h.c,.int .i64 n] (.agg (RY f h n).c):=by
 obtain ⟨d1,d2,d3⟩:=ACc hf
 have hd:=JW hf
 have hw:=Hi hr (fK f)
 have i0:(0:Int)<=(fK f:Int):=FQ
 have i1:(fK f:Int)<((10:Nat):Int):=FQ
 have i2:=Ld h (show fK f<10 by omega)
 obtain ⟨W,hW⟩ : ∃ W:Nat,Fm h (fK f)=(W:Int):=⟨(Fm h (fK f)).toNat,FQ⟩
 have hM:2^fW f<=2^16:=BZ dc FQ
 have g16 : ¬((16:Int)=0):=dc
 have g0:(0:Int)<=(fS f:Int):=FQ
 have c1:=qt f hf
 have c2:=qw f (by have:=hf;unfold HB at this;omega) (by have:=hf;unfold HB at this;omega)
 have hsh : ∀ x,x<2^fW f->x <<< fS f<65536:=by
  intro x hx
  rw [Dr]
  calc x*2^fS f<2^fW f*2^fS f:=EK hx (BY _)
   _=2^(fS f+fW f):=by rw [CD,EL]
   _<=2^16:=BZ dc FQ
 have hp:0<2^fW f:=BY _
 have hk9:fK f<=9:=FQ
 have s1:=hsh (2^fW f - 1) FQ
 have s2:=hsh n hn
 have hshl : ∀ x:Nat,x <<< fS f<65536->IntKind.i64.wrap ((x:Int)*2^(min (fS f) 64))=((x <<< fS f:Nat):Int):=by
  intro x hx
  have e:min (fS f) 64=fS f:=B7 FQ
  have e2:(x:Int)*2^(min (fS f) 64)=((x <<< fS f:Nat):Int):=by
   rw [e,Dr];push_cast;rfl
  rw [e2]
  generalize x <<< fS f=z at hx ⊢
  exact OQ FQ FQ
 have e1:=hshl _ s1
 have e2:=hshl _ s2
 have e3:xp (W:Int) (((2^fW f - 1) <<< fS f:Nat):Int)=((W ^^^ (W &&& ((2^fW f - 1) <<< fS f)):Nat):Int):=Wm FQ FQ
 have hlow:W ^^^ (W &&& ((2^fW f - 1) <<< fS f))<2^16:=jg FQ FQ
 have e4:orI ((W ^^^ (W &&& ((2^fW f - 1) <<< fS f)):Nat):Int) ((n <<< fS f:Nat):Int)=(((W ^^^ (W &&& ((2^fW f - 1) <<< fS f))) ||| (n <<< fS f):Nat):Int):=qz FQ FQ
 have e5:splice h.c (fK f) [.int .i64 (((W ^^^ (W &&& ((2^fW f - 1) <<< fS f))) ||| (n <<< fS f):Nat):Int)]=(RY f h n).c:=by
  rw [XV h FQ];unfold RY;rw [hW,Af]
 rw [Rl hf] at c2
 rw [hW] at i2
 refine pC ALv rfl ?_
 simp only [f278,go_sem,d1,i0,i1,i2,g16,Af]
 repeat' (first|((first|refine pK (c1) ?_|refine pK (c2) ?_);simp only [go_sem,g0,e1,e2,e3,e4,e5,hk9,Af])|(first|apply cS|apply gS)<;>intro hc<;>simp only [go_sem,hc,d1,d2,d3,i0,i1,i2,g16,g0,e1,e2,e3,e4,e5,hk9,Af])
end Go.AI
namespace Go.AI
open Go.Proofs
set_option maxRecDepth 50000
def fD(f:Fld)(hf:HB f)(n m:Nat)(hn:n<2^fW f)(hm:m<=fW f):A' AA 215 [.agg f.c,.int .i64 n,.int .i64 m] (.agg (Ve f n m).c):=by
 have h:=hf
 unfold HB at h
 have hw:f.width=(fW f:Int):=by unfold fW;omega
 have hd:=JW hf
 have hz:FX Head.z=true:=dc
 have hM:2^fW f<=2^16:=BZ dc FQ
 have hM2:2^(fW f - m)<=2^16:=BZ dc FQ
 have hp:0<2^(fW f - m):=BY _
 have hmk:=gD (fW f) m
 have hnm:n &&& LJ (fW f) m<2^fW f:=Ca DL hn
 have c1:=qw f FQ FQ
 rw [Rl hf] at c1
 have c2:=mO f hf Head.z hz (LJ (fW f) m) hmk
 have c3:=mO f hf Head.z hz (n &&& LJ (fW f) m) hnm
 have g0:(0:Int)<=((fW f - m:Nat):Int):=FQ
 have e1:IntKind.i64.wrap (f.width - (m:Int))=((fW f - m:Nat):Int):=by rw [OQ FQ FQ];omega
 have e2:IntKind.i64.wrap (1*2^(min (fW f - m) 64))=((2^(fW f - m):Nat):Int):=by
  rw [B7 FQ]
  have:(1:Int)*2^(fW f - m)=((2^(fW f - m):Nat):Int):=by rw [Int.one_mul];push_cast;rfl
  rw [this]
  generalize 2^(fW f - m)=z at hM2 ⊢
  exact OQ FQ FQ
 have e3:IntKind.i64.wrap (((2^(fW f - m):Nat):Int) - 1)=((2^(fW f - m) - 1:Nat):Int):=by
  generalize 2^(fW f - m)=z at hM2 hp ⊢
  rw [OQ FQ FQ];omega
 have e4:xp ((2^fW f - 1:Nat):Int) ((2^(fW f - m) - 1:Nat):Int)=(LJ (fW f) m:Nat):=by
  rw [Wm FQ FQ];rfl
 have e5:zA (n:Int) ((LJ (fW f) m:Nat):Int)=((n &&& LJ (fW f) m:Nat):Int):=W4 FQ FQ
 refine pC AOH rfl ?_
 simp only [f215,go_sem]
 repeat' (first|((first|refine pK (c1) ?_|refine pK (c2) ?_|refine pK (c3) ?_);simp only [go_sem,e1,e2,e3,e4,e5,g0,Af])|(first|apply cS|apply gS)<;>intro hc<;>simp only [go_sem,hc,e1,e2,e3,e4,e5,g0,Af])
 rfl
def qy(f:Fld)(hf:HB f)(n:Nat)(hn:n<2^fW f):A' AA 214 [.agg f.c,.int .i64 n] (.agg (Ve f n (fW f)).c):=by
 have h:=hf
 unfold HB at h
 have hw:f.width=(fW f:Int):=by unfold fW;omega
 have c1:=fD f hf n (fW f) hn (AU _)
 refine pC AOK rfl ?_
 simp only [f214,go_sem,hw]
 repeat' (first|(refine pK (c1) ?_;simp only [go_sem])|(first|apply cS|apply gS)<;>intro hc<;>simp only [go_sem,hc,hw])
def AWp(f:Fld)(hf:HB f)(n:Nat)(hn:n<2^fW f):A' AA 219 [.agg f.c,.int .i64 n] (.agg (Ve f n (fW f)).c):=by
 have c1:=qy f hf n hn
 refine pC AN6 rfl ?_
 simp only [f219,go_sem]
 repeat' (first|(refine pK (c1) ?_;simp only [go_sem])|(first|apply cS|apply gS)<;>intro hc<;>simp only [go_sem,hc])
def UC(p:Pat){k:Nat}(hk:k<10):p.c[k]? =some (.int .i64 (Fm p.mask k)):=by
 match k,hk with
 | 0,_|1,_|2,_|3,_|4,_|5,_|6,_|7,_|8,_|9,_=>rfl
def UD(p:Pat){k:Nat}(hk:k<10):p.c[10+k]? =some (.int .i64 (Fm p.bits k)):=by
 match k,hk with
 | 0,_|1,_|2,_|3,_|4,_|5,_|6,_|7,_|8,_|9,_=>rfl
def qx(p:Pat)(hm:FX p.mask=true)(hb:FX p.bits=true)(h:Ex)(hr:FX h=true):A' AA 213 [.agg p.c,.agg h.c] (.bool (my p h)):=by
 refine pC AON rfl ?_
 simp only [f213,go_sem]
 refine Fd (Ak 10) (λr=>r.all λi=>(((Fm p.bits i).toNat ^^^ (Fm h i).toNat) &&& (Fm p.mask i).toNat)==0) (λk=>[(2,.ptr 0 0),(3,.ptr 1 0),(6,.int .i64 k)]) dc rfl ?_ ?_
 ·intro k y ys hd hx hF h0 h1 hw
  have hk:k<10:=by
   have:=(AC.1 hx).1
   simpa using this
  have hy:y=k:=by
   have:=hx
   rw [List.getElem?_range hk] at this
   exact (Option.some.inj this).symm
  subst hy
  have i0:(0:Int)<=(y:Int):=FQ
  have i1:(y:Int)<((10:Nat):Int):=FQ
  have a1:=UC p hk
  have a2:=UD p hk
  have a3:=Ld h hk
  have w1:=Hi hm y
  have w2:=Hi hb y
  have w3:=Hi hr y
  obtain ⟨A,hA⟩ : ∃ W:Nat,Fm p.mask y=(W:Int):=⟨(Fm p.mask y).toNat,FQ⟩
  obtain ⟨B,hB⟩ : ∃ W:Nat,Fm p.bits y=(W:Int):=⟨(Fm p.bits y).toNat,FQ⟩
  obtain ⟨C,hC⟩ : ∃ W:Nat,Fm h y=(W:Int):=⟨(Fm h y).toNat,FQ⟩
  rw [hA] at a1 w1
  rw [hB] at a2 w2
  rw [hC] at a3 w3
  have hx1:B ^^^ C<2^16:=Cd FQ FQ
  have e1:AEm (B:Int) (C:Int)=((B ^^^ C:Nat):Int):=zf FQ FQ
  have e2:zA ((B ^^^ C:Nat):Int) (A:Int)=(((B ^^^ C) &&& A:Nat):Int):=W4 FQ FQ
  have i2:(y:Int)<10:=FQ
  have eq:((((Fm p.bits y).toNat ^^^ (Fm h y).toNat) &&& (Fm p.mask y).toNat)==0) = !(((((B ^^^ C) &&& A:Nat):Int)) !=0):=by
   rw [hA,hB,hC,Af,Af,Af]
   generalize (B ^^^ C) &&& A=z
   cases z<;>rfl
  rw [Al,eq] at hF
  simp only [go_sem,h0,i1,i2,dT,Af,a1,a2,a3,e1,e2]
  repeat' (first|(first|apply cS|apply gS)<;>intro hc<;>simp only [go_sem,hc,hw])
  ·rw [hc] at hF
   exact congrArg AV.bool (hF.trans rfl).symm
  ·rw [Al,eq,hc];rfl
 ·intro hF hlt
  have g:decide (((10:Nat):Int)<10)=false:=dc
  simp only [go_sem,g]
  exact congrArg AV.bool (hF.trans rfl).symm
def Nw(p:Pat)(h:Ex)(n:Nat):Ex :=
 let w:=λk=>if k<n then Iu p h k else Fm h k
 ⟨w 0,w 1,w 2,w 3,w 4,w 5,w 6,w 7,w 8,w 9⟩
def pY(p:Pat)(h:Ex):Nw p h 10=bn p h:=rfl
def yi(p:Pat)(h:Ex){k:Nat}(hk:k<10):sX (Nw p h k) k (Iu p h k)=Nw p h (k+1):=by
 match k,hk with
 | 0,_|1,_|2,_|3,_|4,_|5,_|6,_|7,_|8,_|9,_=>rfl
def yh(p:Pat)(h:Ex){k:Nat}(hk:k<10):Fm (Nw p h k) k=Fm h k:=by
 match k,hk with
 | 0,_|1,_|2,_|3,_|4,_|5,_|6,_|7,_|8,_|9,_=>rfl
def AFU(p:Pat)(hm:FX p.mask=true)(hb:FX p.bits=true)(h:Ex)(hr:FX h=true):A' AA 218 [.agg p.c,.agg h.c] (.agg (bn p h).c):=by
 refine pC AN9 rfl ?_
 simp only [f218,go_sem]
 refine be 10 (λk=>[(2,.ptr 0 0),(3,.ptr 1 0),(4,.ptr 2 0),(6,.int .i64 k)]) (λk=>[some p.c,some (Nw p h k).c,some Head.z.c]) rfl rfl ?_
 intro y hy
 by_cases hk:y<10
 ·have i0:(0:Int)<=(y:Int):=FQ
  have i1:(y:Int)<((10:Nat):Int):=FQ
  have i2:(y:Int)<10:=FQ
  have a1:=UC p hk
  have a2:=UD p hk
  have a3:=Ld (Nw p h y) hk
  rw [yh p h hk] at a3
  have hw:=Mj (k:=y) FQ
  have w1:=Hi hm y
  have w2:=Hi hb y
  have w3:=Hi hr y
  have st:=XV (Nw p h y) hk (Iu p h y)
  rw [yi p h hk] at st
  have hap:Iu p h y=((((Fm h y).toNat ^^^ ((Fm h y).toNat &&& (Fm p.mask y).toNat)) ||| (Fm p.bits y).toNat:Nat):Int):=rfl
  obtain ⟨A,hA⟩ : ∃ W:Nat,Fm p.mask y=(W:Int):=⟨(Fm p.mask y).toNat,FQ⟩
  obtain ⟨B,hB⟩ : ∃ W:Nat,Fm p.bits y=(W:Int):=⟨(Fm p.bits y).toNat,FQ⟩
  obtain ⟨C,hC⟩ : ∃ W:Nat,Fm h y=(W:Int):=⟨(Fm h y).toNat,FQ⟩
  rw [hA,hB,hC,Af,Af,Af] at hap
  rw [hA] at a1 w1
  rw [hB] at a2 w2
  rw [hC] at a3 w3
  have hl:=jg (W:=C) (M:=A) FQ FQ
  have e1:xp (C:Int) (A:Int)=((C ^^^ (C &&& A):Nat):Int):=Wm FQ FQ
  have e2:orI ((C ^^^ (C &&& A):Nat):Int) (B:Int)=Iu p h y:=by rw [hap];exact qz FQ FQ
  have hk9:y<=9:=FQ
  simp only [go_sem,i0,i1,i2,dT,Af,a1,a2,a3,e1,e2,st,hw,hk9]
  exact hk
 ·have:y=10:=FQ
  subst this
  have g:decide (((10:Nat):Int)<10)=false:=dc
  simp only [go_sem,g,pY]
def oK(a b:Ex): ∀ k,k<=10->LU (a.l.drop k) (b.l.drop k)=if k<10 then (if Fm a k<Fm b k then -1 else if Fm b k<Fm a k then 1 else LU (a.l.drop (k+1)) (b.l.drop (k+1))) else 0:=by
 intro k hk
 match k,hk with
 | 0,_|1,_|2,_|3,_|4,_|5,_|6,_|7,_|8,_|9,_=>rfl
 | 10,_=>rfl
def Q4(fs:List (Ex->Bool))(k:Nat)(h:Ex):Bool:=((fs[k]?).map λf=>f h).getD false
def OC(fs:List (Ex->Option (List Ex)))(k:Nat)(h:Ex):Option (List Ex):=((fs[k]?).map λf=>f h).getD none
def AHM(l:List Fld)(t k:Int)(f:ByteArray)(n m:Int)(fs:List (Ex->Bool))(h:Ex):Bool :=
 if k=1 then true else if k=2 then false else if k=9 then decide (n<=t)&&decide (t<m)
 else if k=6 then !Q4 fs 0 h else if k=7 then Q4 fs 0 h&&Q4 fs 1 h else if k=8 then Q4 fs 0 h||Q4 fs 1 h
 else if k=3 then decide ((Nm (Fc l f).1 h:Int)=n)
 else if k=4 then decide (Nm (Fc l f).1 h / 2^(fW (Fc l f).1 - m.toNat)=n.toNat / 2^(fW (Fc l f).1 - m.toNat))
 else decide (n<=Nm (Fc l f).1 h)&&decide ((Nm (Fc l f).1 h:Int)<=m)
mutual
def hP(l:List Fld)(t:Int):Es->Ex->Bool
 | ⟨k,f,n,m,xs⟩=>AHM l t k f n m (nc l t xs)
def nc(l:List Fld)(t:Int):List Es->List (Ex->Bool)
 | []=>[]
 | x::r=>hP l t x::nc l t r
end
def AW1(l:List Fld)(t:Int)(x:Es):hP l t x=AHM l t x.kind x.field x.n x.m (nc l t x.args):=by cases x;rw [hP]
def AB5(l:List Fld)(t:Int): ∀ r:List Es,nc l t r=r.map (hP l t)
 | []=>by rw [nc];rfl
 | x::r=>by rw [nc,AB5 l t r];rfl
def nb(l:List Fld)(t:Int){r:List Es}{k:Nat}{x:Es}(hx:r[k]? =some x)(h:Ex):Q4 (nc l t r) k h=hP l t x h:=by
 rw [AB5,Q4,AZ,hx];rfl
def Wx(r:List Ex):Option (List Ex):=if 256<r.length then none else some r
def VP(l:List Fld)(t k:Int)(p:Es)(f:ByteArray)(n:Int)(fs:List (Ex->Option (List Ex)))(h:Ex):Option (List Ex) :=
 if k=1 then some (if hP l t p h then [h] else [])
 else if k=2 then some [RY (Fc l f).1 h n.toNat]
 else if k=3 then match OC fs 0 h,OC fs 1 h with
  | some a,some b=>Wx (Gs a b)
  | _,_=>none
 else if k=4 then match OC fs 0 h with
  | some a=>JJ (OC fs 1) [] a
  | none=>none
 else K6 (OC fs 0) 300 [h] [h]
mutual
def vO(l:List Fld)(t:Int):Et->Ex->Option (List Ex)
 | ⟨k,p,f,n,xs⟩=>VP l t k p f n (Xe l t xs)
def Xe(l:List Fld)(t:Int):List Et->List (Ex->Option (List Ex))
 | []=>[]
 | x::r=>vO l t x::Xe l t r
end
def AHI(l:List Fld)(t:Int)(x:Et):vO l t x=VP l t x.kind x.pred x.field x.n (Xe l t x.args):=by cases x;rw [vO]
def zq(l:List Fld)(t:Int): ∀ r:List Et,Xe l t r=r.map (vO l t)
 | []=>by rw [Xe];rfl
 | x::r=>by rw [Xe,zq l t r];rfl
def Se(l:List Fld)(t:Int){r:List Et}{k:Nat}{x:Et}(hx:r[k]? =some x):OC (Xe l t r) k=vO l t x:=by
 funext h
 rw [zq,OC,AZ,hx];rfl
def I8(r:List Ex):Prop:=LM r/\r.length<=256 /\ ∀ z∈r,FX z=true
def Lc:I8 []:=⟨AAI,dc,sm⟩
def Ph{h:Ex}(hr:FX h=true):I8 [h]:=⟨dl h,sm,by simpa using hr⟩
def Im{a b:List Ex}(ha:I8 a)(hb : ∀ z∈b,FX z=true)(hl : ¬ 256<(Gs a b).length):I8 (Gs a b):=by
 refine ⟨QX b ha.1,FQ,λz hz=>?_⟩
 rcases (Qh z b a).1 hz with h|h
 ·exact ha.2.2 z h
 ·exact hb z h
def Pi{f:Ex->Option (List Ex)}(hf : ∀ h r,FX h=true->f h=some r->I8 r): ∀ (xs o r:List Ex),I8 o->(∀ z∈xs,FX z=true)->JJ f o xs=some r->I8 r
 | [],o,r,ho,_,e=>by
  rw [JJ] at e
  cases e;exact ho
 | x::xs,o,r,ho,hx,e=>by
  rw [JJ] at e
  cases hfx:f x with
  | none=>rw [hfx] at e;cases e
  | some a =>
   rw [hfx] at e
   dsimp only at e
   have ga:=hf x a (hx x sm) hfx
   by_cases hl:256<(Gs o a).length
   ·rw [iP hl] at e;cases e
   ·rw [iN hl] at e
    exact Pi hf xs _ r (Im ho ga.2.2 hl) (λz hz=>hx z (by simp [hz])) e
def Vs{o n:List Ex}{z:Ex}:z∈IU o n↔z∈n/\z∉o:=by
 unfold IU
 rw [List.mem_filter]
 constructor
 ·rintro ⟨h1,h2⟩
  refine ⟨h1,λhc=>?_⟩
  have:(o.any λy=>decide (y=z))=true:=Cc.2 ⟨z,hc,sm⟩
  rw [this] at h2;cases h2
 ·rintro ⟨h1,h2⟩
  refine ⟨h1, ?_⟩
  have:(o.any λy=>decide (y=z))=false:=by
   rw [Bj]
   intro y hy
   simp
   intro e;subst e;exact h2 hy
  rw [this];rfl
def ZX{f:Ex->Option (List Ex)}(hf : ∀ h r,FX h=true->f h=some r->I8 r): ∀ (k:Nat) (o n r:List Ex),I8 o->(∀ z∈n,FX z=true)->K6 f k o n=some r->I8 r
 | 0,o,n,r,_,_,e=>by rw [K6] at e;cases e
 | k+1,o,n,r,ho,hn,e=>by
  rw [K6] at e
  by_cases h0:n=[]
  ·rw [iP h0] at e;cases e;exact ho
  ·rw [iN h0] at e
   cases hi:JJ f [] n with
   | none=>rw [hi] at e;cases e
   | some m =>
    rw [hi] at e
    dsimp only at e
    have gm:=Pi hf n [] m Lc hn hi
    have gn : ∀ z∈IU o m,FX z=true:=λz hz=>gm.2.2 z (Vs.1 hz).1
    by_cases hl:256<(Gs o (IU o m)).length
    ·rw [iP hl] at e;cases e
    ·rw [iN hl] at e
     exact ZX hf k _ _ r (Im ho gn hl) gn e
def eZ(h:Ex): ∀ {l:List Ex},h∉l->(OB h l).length=l.length+1
 | [],_=>rfl
 | x::r,hn=>by
  rw [OB]
  have h1 : ¬ x=h:=λe=>hn (by simp [e])
  have h2:h∉r:=λe=>hn (by simp [e])
  split
  ·rw [AD,eZ h h2];rfl
  ·rfl
def tZ{o n:List Ex}(h:IU o n≠[]):o.length<(Gs o (IU o n)).length:=by
 cases hc:IU o n with
 | nil=>exact absurd hc h
 | cons x r =>
  have hx:x∉o:=(Vs.1 (by rw [hc];simp:x∈IU o n)).2
  have e:Gs o (x::r)=Gs (OB x o) r:=rfl
  have:=(Vw r (OB x o)).1
  rw [eZ x hx] at this
  rw [e];omega
def I0(l:List Fld):Prop:=∀ f∈l,HB f
def mq:HB JP:=by unfold HB JP;decide
def Ij{l:List Fld}(hl:I0 l){s:ByteArray}(h:(Fc l s).2=true):HB (Fc l s).1:=by
 unfold Fc at h ⊢
 split
 ·exact mq
 ·rename_i hs
  rw [iN hs] at h
  cases hf:l.find? (λf=>decide (f.name=s)) with
  | none=>rw [hf] at h;cases h
  | some f=>exact hl f (List.mem_of_find?_eq_some hf)
def xd{l:List Fld}{x y:Es}(hx:IM l x)(hy:y∈x.args):IM l y:=by
 obtain ⟨h1,h2⟩:=hx
 rw [Hl,AQ] at h1
 have hf : ∀ r:List Es,WV r=true -> ∀ z∈r,NL z=true:=by
  intro r
  induction r with
  | nil=>intro _ z hz;cases hz
  | cons a r ih =>
   intro h z hz
   rw [Ka,AQ] at h
   rcases AW.1 hz with rfl|hz
   ·exact h.1
   ·exact ih h.2 z hz
 refine ⟨hf _ h1.2 y hy,λz hz=>h2 z ?_⟩
 have hs : ∀ r:List Es,y∈r->z∈Mo r:=by
  intro r
  induction r with
  | nil=>intro h;cases h
  | cons a r ih =>
   intro h
   rw [JV]
   rcases AW.1 h with rfl|h
   ·exact Co _ hz
   ·exact DO _ (ih h)
 rw [LP]
 exact B0 _ (hs _ hy)
def AZn(l:List Fld)(x:Es):Prop:=(Fc l x.field).2=true/\HB (Fc l x.field).1/\0<=x.n/\x.n.toNat<2^fW (Fc l x.field).1
def Rk{f:Fld}(hf:HB f):KU f=((2^fW f - 1:Nat):Int):=by
 have h:=hf
 unfold HB at h
 have : ∀ k:Nat,k<17->i64 (Xl k - 1)=((2^k - 1:Nat):Int):=dc
 exact this _ FQ
def nu{l:List Fld}(hl:I0 l){x:Es}(hx:IM l x):
  (x.kind=1)\/(x.kind=2)\/(x.kind=9)\/(x.kind=6 /\ ∃ a,x.args=[a]/\IM l a)\/((x.kind=7\/x.kind=8) /\ ∃ a b,x.args=[a,b]/\IM l a/\IM l b) \/
  (x.kind=3/\AZn l x)\/(x.kind=4/\AZn l x/\0<=x.m/\x.m.toNat<=fW (Fc l x.field).1)\/(x.kind=5/\(Fc l x.field).2=true/\HB (Fc l x.field).1/\0<=x.n/\x.n<=x.m/\x.m.toNat<2^fW (Fc l x.field).1):=by
 have hfit:=hx.2 x (by rw [LP];simp)
 have harg:=λy hy=>xd (y:=y) hx hy
 have hfm:=hx.1
 rw [Hl,AQ,AQ,beq_iff_eq] at hfm
 obtain ⟨⟨hok,hlen⟩,_⟩:=hfm
 unfold S4 at hok hlen
 unfold Px at hfit
 by_cases k1:x.kind=1
 ·exact .inl k1
 by_cases k2:x.kind=2
 ·exact .inr (.inl k2)
 rw [iN (by simp [k1,k2])] at hok hlen
 by_cases k3:x.kind=3
 ·rw [iP k3] at hok
  rw [iN (by simp [k3])] at hfit
  by_cases hf:(Fc l x.field).2=false
  ·rw [iP hf] at hfit;cases hfit
  ·rw [iN hf,iN (by omega : ¬ x.kind=5)] at hfit
   have hft:(Fc l x.field).2=true:=by simpa using hf
   have hfo:=Ij hl hft
   rw [Rk hfo] at hfit
   have hp:=BY (fW (Fc l x.field).1)
   simp [RO] at hok
   refine .inr (.inr (.inr (.inr (.inr (.inl ⟨k3,hft,hfo,hok.2.1.1, ?_⟩)))))
   split at hfit
   ·cases hfit
   ·omega
 rw [iN k3] at hok hlen
 by_cases k4:x.kind=4
 ·rw [iP k4] at hok
  rw [iN (by simp [k4])] at hfit
  by_cases hf:(Fc l x.field).2=false
  ·rw [iP hf] at hfit;cases hfit
  ·rw [iN hf,iN (by omega : ¬ x.kind=5)] at hfit
   have hft:(Fc l x.field).2=true:=by simpa using hf
   have hfo:=Ij hl hft
   have hfo':=hfo
   unfold HB at hfo'
   rw [Rk hfo] at hfit
   have hp:=BY (fW (Fc l x.field).1)
   have hW:fW (Fc l x.field).1=(Fc l x.field).1.width.toNat:=rfl
   simp [RO] at hok
   refine .inr (.inr (.inr (.inr (.inr (.inr (.inl ⟨k4,⟨hft,hfo,hok.2.1.1, ?_⟩,hok.2.2.1, ?_⟩))))))
   ·split at hfit
    ·cases hfit
    ·omega
   ·split at hfit
    ·cases hfit
    ·omega
 rw [iN k4] at hok hlen
 by_cases k5:x.kind=5
 ·rw [iP k5] at hok
  rw [iN (by simp [k5])] at hfit
  by_cases hf:(Fc l x.field).2=false
  ·rw [iP hf] at hfit;cases hfit
  ·rw [iN hf,iP k5] at hfit
   have hft:(Fc l x.field).2=true:=by simpa using hf
   have hfo:=Ij hl hft
   rw [Rk hfo] at hfit
   have hp:=BY (fW (Fc l x.field).1)
   simp at hok
   refine .inr (.inr (.inr (.inr (.inr (.inr (.inr ⟨k5,hft,hfo,hok.2.1,hok.2.2.1, ?_⟩))))))
   split at hfit
   ·cases hfit
   ·omega
 rw [iN k5] at hok hlen
 by_cases k6:x.kind=6
 ·rw [iP k6] at hlen
  refine .inr (.inr (.inr (.inl ⟨k6, ?_⟩)))
  match hxa:x.args,hlen with
  | [a],_=>exact ⟨a,rfl,harg a (by rw [hxa];simp)⟩
 rw [iN k6] at hok hlen
 by_cases k7:x.kind=7\/x.kind=8
 ·rw [iP k7] at hlen
  refine .inr (.inr (.inr (.inr (.inl ⟨k7, ?_⟩))))
  match hxa:x.args,hlen with
  | [a,b],_=>exact ⟨a,b,rfl,harg a (by rw [hxa];simp),harg b (by rw [hxa];simp)⟩
 rw [iN k7] at hok hlen
 by_cases k9:x.kind=9
 ·exact .inr (.inr (.inl k9))
 rw [iN k9] at hok
 cases hok
def sf:Option (List Ex)->AV
 | some r => .tup [.sl none (F3 r),.int .i64 0]
 | none => .tup [.sl none [],.int .i64 2]
@[go_sem] def AUt(o:Option (List Ex)):(sf o).pure=true:=by
 cases o<;>simp [sf,AV.pure,FV,go_sem]
@[go_sem] def AUs(r:List Ex):sf (some r) = .tup [.sl none (F3 r),.int .i64 0]:=rfl
@[go_sem] def AUu:sf none = .tup [.sl none [],.int .i64 2]:=rfl
def ABR(o n:List Ex):(IU o n).length<=n.length:=List.length_filter_le _ _
def xe{l:List Fld}{x y:Et}(hx:Hk l x)(hy:y∈x.args):Hk l y:=by
 obtain ⟨h1,h2⟩:=hx
 rw [IQ,AQ] at h1
 have hf : ∀ r:List Et,WW r=true -> ∀ z∈r,R0 z=true:=by
  intro r
  induction r with
  | nil=>intro _ z hz;cases hz
  | cons a r ih =>
   intro h z hz
   rw [Kb,AQ] at h
   rcases AW.1 hz with rfl|hz
   ·exact h.1
   ·exact ih h.2 z hz
 refine ⟨hf _ h1.2 y hy,λz hz=>h2 z ?_⟩
 have hs : ∀ r:List Et,y∈r->z∈MG r:=by
  intro r
  induction r with
  | nil=>intro h;cases h
  | cons a r ih =>
   intro h
   rw [Ii]
   rcases AW.1 h with rfl|h
   ·exact Co _ hz
   ·exact DO _ (ih h)
 rw [Kn]
 exact B0 _ (hs _ hy)
def WU{l:List Fld}(hl:I0 l){x:Et}(hx:Hk l x):
  (x.kind=1/\IM l x.pred)\/(x.kind=2/\HB (Fc l x.field).1/\(Fc l x.field).2=true/\0<=x.n/\x.n.toNat<2^fW (Fc l x.field).1) \/
  ((x.kind=3\/x.kind=4) /\ ∃ a b,x.args=[a,b]/\Hk l a/\Hk l b)\/(x.kind=5 /\ ∃ a,x.args=[a]/\Hk l a):=by
 have hfit:=hx.2 x (by rw [Kn];simp)
 have harg:=λy hy=>xe (y:=y) hx hy
 have hfm:=hx.1
 rw [IQ,AQ,AQ,beq_iff_eq] at hfm
 obtain ⟨⟨hok,hlen⟩,_⟩:=hfm
 unfold Vq at hok hlen
 unfold Rg at hfit
 by_cases k1:x.kind=1
 ·rw [iP k1] at hok hfit
  rw [AQ] at hok
  exact .inl ⟨k1,hok.1,(Pk l _).1 hfit⟩
 rw [iN k1] at hok hlen hfit
 by_cases k2:x.kind=2
 ·rw [iP k2] at hok hfit
  by_cases hf:(Fc l x.field).2=false
  ·rw [iP hf] at hfit;cases hfit
  ·rw [iN hf] at hfit
   have hft:(Fc l x.field).2=true:=by simpa using hf
   have hfo:=Ij hl hft
   rw [Rk hfo] at hfit
   have hp:=BY (fW (Fc l x.field).1)
   simp [RO] at hok
   refine .inr (.inl ⟨k2,hfo,hft,hok.2.2.1, ?_⟩)
   split at hfit
   ·cases hfit
   ·omega
 rw [iN k2] at hok hlen
 by_cases k3:x.kind=3\/x.kind=4
 ·rw [iP k3] at hlen
  refine .inr (.inr (.inl ⟨k3, ?_⟩))
  match hxa:x.args,hlen with
  | [a,b],_=>exact ⟨a,b,rfl,harg a (by rw [hxa];simp),harg b (by rw [hxa];simp)⟩
 rw [iN k3] at hok hlen
 by_cases k5:x.kind=5
 ·rw [iP k5] at hlen
  refine .inr (.inr (.inr ⟨k5, ?_⟩))
  match hxa:x.args,hlen with
  | [a],_=>exact ⟨a,rfl,harg a (by rw [hxa];simp)⟩
 rw [iN k5] at hok
 cases hok
def RS(l:List Fld)(hl:I0 l)(t:Int): ∀ x:Et,Hk l x -> ∀ h r,FX h=true->vO l t x h=some r->I8 r:=by
 refine Hn _ λx ih=>λhx h r hr e=>?_
 rw [AHI] at e
 unfold VP at e
 rcases WU hl hx with ⟨k,gp⟩|⟨k,hfo,hft,hn,hn2⟩|⟨k,a,b,ha,ga,gb⟩|⟨k,a,ha,ga⟩
 ·rw [iP k] at e
  have e2:=Option.some.inj e
  by_cases hb:hP l t x.pred h=true
  ·rw [iP hb] at e2;rw [<- e2];exact Ph hr
  ·rw [iN hb] at e2;rw [<- e2];exact Lc
 ·rw [iN FQ,iP k] at e
  cases e
  exact Ph (NT hfo hn2 hr)
 ·have e0:OC (Xe l t x.args) 0=vO l t a:=Se l t (by rw [ha];rfl)
  have e1:OC (Xe l t x.args) 1=vO l t b:=Se l t (by rw [ha];rfl)
  rw [e0,e1] at e
  have ih0:=ih a (by rw [ha];simp) ga
  have ih1:=ih b (by rw [ha];simp) gb
  rcases k with k|k
  ·rw [iN FQ,iN FQ,iP k] at e
   cases hva:vO l t a h with
   | none=>rw [hva] at e;cases e
   | some u =>
    cases hvb:vO l t b h with
    | none=>rw [hva,hvb] at e;cases e
    | some v =>
     rw [hva,hvb] at e
     dsimp only [Wx] at e
     by_cases hc:256<(Gs u v).length
     ·rw [iP hc] at e;cases e
     ·rw [iN hc] at e;cases e
      exact Im (ih0 h u hr hva) (ih1 h v hr hvb).2.2 hc
  ·rw [iN FQ,iN FQ,iN FQ,iP k] at e
   cases hva:vO l t a h with
   | none=>rw [hva] at e;cases e
   | some u =>
    rw [hva] at e
    exact Pi ih1 u [] r Lc (ih0 h u hr hva).2.2 e
 ·have e0:OC (Xe l t x.args) 0=vO l t a:=Se l t (by rw [ha];rfl)
  rw [iN FQ,iN FQ,iN FQ,iN FQ,e0] at e
  exact ZX (ih a (by rw [ha];simp) ga) 300 [h] [h] r (Ph hr) (by simpa using hr) e
inductive RchH (f:Ex->Option (List Ex)) (x:Ex):Ex->Prop
 | refl:RchH f x x
 | step {y z:Ex} {b:List Ex}:RchH f x y->f y=some b->z∈b->RchH f x z
def RchH.trans{f:Ex->Option (List Ex)}{x y z:Ex}(h1:RchH f x y)(h2:RchH f y z):RchH f x z:=by
 induction h2 with
 | refl=>exact h1
 | step _ h3 h4 ih=>exact ih.step h3 h4
def RchH.closed{f:Ex->Option (List Ex)}{S:Ex->Prop}(hS : ∀ x,S x -> ∀ b,f x=some b -> ∀ z∈b,S z){x z:Ex}(hx:S x)(h:RchH f x z):S z:=by
 induction h with
 | refl=>exact hx
 | step _ h3 h4 ih=>exact hS _ ih _ h3 _ h4
def VX{h:Ex}(hr:FX h=true){n:Int}(h0:0<=n)(h1:n<=65535):FX { h with h0:=n }=true :=
 Tp hr 0 h0 h1
end Go.AI
