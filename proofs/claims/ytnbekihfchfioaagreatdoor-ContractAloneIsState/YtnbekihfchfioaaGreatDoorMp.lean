/- Contracts of the program's names and sizes. -/
import Derived.Test.YtnbekihfchfioaaGreatDoorMg
import Derived.Test.YtnbekihfchfioaaGreatDoorLi
import Derived.Test.YtnbekihfchfioaaGreatDoorMf
import Derived.Sort.Walk0
set_option linter.unusedSimpArgs false
set_option linter.unusedVariables false
open Go.Proofs.Tryz
open Bool renaming and_false->Dd,eq_iff_iff->BA,false_or->BL,not_false->Av,not_true->Ar,true_or->BM
open Int renaming lt_irrefl->AX,toNat_natCast->Ae,toNat_one->EC
open Go.IntKind renaming bits->DH,signed->Dh
open List renaming all_cons->Ak,all_eq_true->Ao,any_cons->Au,drop_zero->BN,foldl_cons->CF,getD_eq_getElem?_getD->Cr,getElem?_append_left->AW,getElem?_append_right->AM,getElem?_eq_getElem->AL,getElem?_eq_some_iff->AD,length_append->AE,length_cons->AC,length_map->Aq,mem_of_getElem?->AB,mem_range->Bo,takeWhile->EB,take_length->BO
open Nat renaming le_refl->AU,lt_or_ge->BT,sub_self->AQ
open Go.Proofs.Tryz renaming prog->AA
namespace Go.AI
open Go.Proofs
set_option maxRecDepth 50000
@[go_sem] theorem AR7{P:Program}{t:TypeId}{x y:ByteArray}{d:Tmp}{K:Kt}{e:Ee}{H:DM}:HS P .lss t (.str x) (.str y) d K e H=K ((d,.bool (Op.bytesLess x.toList y.toList))::e) H:=by rw [OB];simp [I8]
@[go_sem] theorem AbE{P:Program}{o:Option TypeId}{e:Ee}:Fj P o e (.global 0) = .cptr (Fv.map AV.str) 0:=rfl
theorem qh{P:Program}{f:FuncId}{vs:List AV}{d:Option Tmp}{K:Kt}{e:Ee}{H:DM}{v:AV}(h:DR P f vs v)(hk:K (put d v e) H):Eh P f vs d K e H :=
 (h H).mono λv' H' hr=>by obtain ⟨rfl,rfl⟩:=hr;exact hk
def E5(P:Program)(f:FuncId)(vs:List AV)(H:DM)(v:AV):Prop:=Dx P f vs H λv' H'=>v'=v/\H'=H
theorem qg{P:Program}{f:FuncId}{vs:List AV}{d:Option Tmp}{K:Kt}{e:Ee}{H:DM}{v:AV}(h:E5 P f vs H v)(hk:K (put d v e) H):Eh P f vs d K e H :=
 h.mono λv' H' hr=>by obtain ⟨rfl,rfl⟩:=hr;exact hk
theorem aP{P:Program}{f:FuncId}{vs:List AV}{d:Option Tmp}{K:Kt}{e:Ee}{H:DM}{v:AV}(h:DR P f vs v)(hk:K (put d v e) H):Eh P f vs d K e H:=qh h hk
theorem aS{P:Program}{f:FuncId}{vs:List AV}{d:Option Tmp}{K:Kt}{e:Ee}{H:DM}{v:AV}(h:E5 P f vs H v)(hk:K (put d v e) H):Eh P f vs d K e H:=qg h hk
def S0(a b:ByteArray):Bool:=Op.bytesLess a.toList b.toList
theorem Z0(a:ByteArray):S0 a a=false:=by
 unfold S0;rw [Go.Proofs.bytesLess_eq];simp [List.lt_irrefl]
theorem yi{a b c:ByteArray}(h1:S0 a b=true)(h2:S0 b c=true):S0 a c=true:=by
 unfold S0 at *;rw [Go.Proofs.bytesLess_eq,decide_eq_true_eq] at *;exact List.lt_trans h1 h2
theorem Yg(c lo hi:Int):DR AA 335 [.int .u8 c,.int .u8 lo,.int .u8 hi] (.bool (decide (lo<=c)&&decide (c<=hi))):=by
 refine pC AHO rfl ?_
 simp only [f335,go_sem]
 repeat' (first
  | ((first|apply cS|apply gS)<;>(intro hc;simp only [go_sem,hc])))
 all_goals grind
theorem Ux(c:UInt8):DR AA 307 [.int .u8 c.toNat] (.bool (loB c)):=by
 refine pC AH5 rfl ?_
 simp only [f307,go_sem]
 repeat' (first
  | (refine pK (Yg _ _ _) ?_;simp only [go_sem])
  | ((first|apply cS|apply gS)<;>(intro hc;simp only [go_sem,hc])))
 all_goals first|rfl|(simp only [loB,bz])
theorem s6(c:UInt8):DR AA 338 [.int .u8 c.toNat] (.bool (dgB c)):=by
 refine pC AHF rfl ?_
 simp only [f338,go_sem]
 repeat' (first
  | (refine pK (Yg _ _ _) ?_;simp only [go_sem])
  | ((first|apply cS|apply gS)<;>(intro hc;simp only [go_sem,hc])))
 all_goals first|rfl|(simp only [dgB,bz])
theorem Zm(c:UInt8):DR AA 311 [.int .u8 c.toNat] (.bool (wdB c)):=by
 refine pC AHt rfl ?_
 simp only [f311,go_sem]
 repeat' (first
  | ((first|refine pK (Ux _) ?_|refine pK (s6 _) ?_);simp only [go_sem])
  | ((first|apply cS|apply gS)<;>(intro hc;simp only [go_sem,hc])))
 all_goals (simp only [wdB,bz];grind)
theorem lc(s:ByteArray):DR AA 149 [.str s] (.bool false):=by
 refine pC ANR rfl ?_
 simp only [f149,go_sem,beq_self_eq_true,Ar]
theorem xy(s:ByteArray):DR AA 337 [.str s] (.bool false):=by
 refine pC AHI rfl ?_
 simp only [f337,go_sem,beq_self_eq_true,Ar]
theorem AF7(a b:ByteArray):DR AA 336 [.str a,.str b] (.bool (S0 a b)):=by
 refine pC AHL rfl ?_
 simp only [f336,go_sem]
 repeat' (first
  | (refine pK (lc _) ?_;simp only [go_sem])
  | ((first|apply cS|apply gS)<;>(intro hc;simp only [go_sem,hc])))
 all_goals rfl
def bsI(s:ByteArray):Nat:=(Fv.takeWhile λw=>S0 w s).length
theorem MQ : ∀ i j:Nat,i<j->j<49->S0 (Fv.getD i ⟨#[]⟩) (Fv.getD j ⟨#[]⟩)=true:=by
 have h:((List.range 49).all λj=>(List.range j).all λi=>S0 (Fv.getD i ⟨#[]⟩) (Fv.getD j ⟨#[]⟩))=true:=kr
 intro i j hi hj
 have h1:=Ao.1 h j (Bo.2 hj)
 exact Ao.1 h1 i (Bo.2 hi)
theorem Lk:Fv.length=49:=rfl
theorem PC{α:Type}{p:α->Bool}: ∀ (l:List α) (n:Nat),n<=l.length->(∀ k x,l[k]? =some x->k<n->p x=true)->(∀ x,l[n]? =some x->p x=false)->(l.takeWhile p).length=n
 | [],n,hn,_,_=>by simp at hn;subst hn;rfl
 | y::l,0,_,_,h2=>by
  have:=h2 y rfl
  simp [EB,this]
 | y::l,n+1,hn,h1,h2=>by
  have hy:=h1 0 y rfl DF
  simp only [EB,hy,AC]
  rw [PC l n (by simp at hn;omega) (λk x hk hl=>h1 (k+1) x (by simpa using hk) DF) (λx hx=>h2 x (by simpa using hx))]
theorem wp{s:ByteArray}{i:Nat}(hi:i<=49)(h1 : ∀ k,k<i->S0 (Fv.getD k ⟨#[]⟩) s=true)(h2 : ∀ k,i<=k->k<49->S0 (Fv.getD k ⟨#[]⟩) s=false):
  Sp s=(decide (i<49)&&decide (Fv.getD i ⟨#[]⟩=s)):=by
 rw [BA,Bool.and_eq_true,decide_eq_true_eq,decide_eq_true_eq,Sp,List.any_eq_true]
 constructor
 ·rintro ⟨w,hw,he⟩
  have he:w=s:=by simpa using he
  subst he
  obtain ⟨m,hm⟩:=List.getElem?_of_mem hw
  have hml:m<49:=by have:=(AD.1 hm).1;rw [Lk] at this;exact this
  have hmg:Fv.getD m ⟨#[]⟩=w:=by rw [Cr,hm];rfl
  rcases BT m i with h|h
  ·have:=h1 m h;rw [hmg,Z0] at this;cases this
  ·rcases BT i m with h'|h'
   ·have:=MQ i m h' hml
    rw [hmg] at this
    rw [h2 i (AU _) DF] at this;cases this
   ·have:i=m:=DF
    subst this
    exact ⟨hml,hmg⟩
 ·rintro ⟨hl,he⟩
  have hm:Fv.getD i ⟨#[]⟩∈Fv:=by
   have:=AL (l:=Fv) (i:=i) (by rw [Lk];exact hl)
   rw [Cr,this]
   exact List.getElem_mem _
  exact ⟨_,hm,decide_eq_true he⟩
theorem Ll{k:Nat}(h:k<49):(Fv.map AV.str)[k]? =some (.str (Fv.getD k ⟨#[]⟩)):=by
 rw [List.getElem?_map,Cr,AL (by rw [Lk];exact h)];rfl
@[go_sem] theorem AEj:DY (Fv.map AV.str)=true:=kr
@[go_sem] theorem AFp:(Fv.map AV.str).length=49:=rfl
@[go_sem] theorem AR9{P:Program}{t:TypeId}{x:Int}{d:Tmp}{K:Kt}{e:Ee}{H:DM}:HS P .shr t (.int .u64 x) (.int .u64 1) d K e H=K ((d,.int .u64 (x.fdiv 2))::e) H:=by
 rw [Fz];simp [I8,DH]
theorem AGZ{i j:Nat}(hj:j<=49)(hi:i<j):IntKind.i64.wrap ((IntKind.u64.wrap (IntKind.i64.wrap ((i:Int)+(j:Int)))).fdiv 2)=(((i+j) / 2:Nat):Int):=by
 have e1:IntKind.i64.wrap ((i:Int)+(j:Int))=((i+j:Nat):Int):=NT DF DF
 rw [e1]
 have e2:IntKind.u64.wrap ((i+j:Nat):Int)=((i+j:Nat):Int):=by
  simp [IntKind.wrap,Dh,DH];omega
 rw [e2]
 have e3:((i+j:Nat):Int).fdiv 2=(((i+j) / 2:Nat):Int):=by
  rw [Int.fdiv_eq_ediv_of_nonneg _ dc];omega
 rw [e3]
 exact NT DF DF
set_option maxHeartbeats 2000000 in
theorem xr(s:ByteArray):DR AA 308 [.sl none (Fv.map AV.str),.str s] (.tup [.int .i64 (bsI s),.bool (Sp s)]):=by
 refine pB AH2 rfl ?_
 simp only [f308,go_sem]
 refine Jn (σ:=Nat×Nat) (λs2=>[(0,.sl none (Fv.map AV.str)),(1,.str s),(6,.int .i64 49),(7,.int .i64 s2.1),(8,.int .i64 s2.2)]) (λ_=>[]) (λs2=>s2.1<=s2.2/\s2.2<=49/\(∀ k,k<s2.1->S0 (Fv.getD k ⟨#[]⟩) s=true)/\(∀ k,s2.2<=k->k<49->S0 (Fv.getD k ⟨#[]⟩) s=false)) (λs2=>s2.2 - s2.1) (0,49) ⟨DF,DF,λk hk=>DF,λk h1 h2=>DF⟩ rfl rfl ?_
 rintro ⟨i,j⟩ ⟨hij,hj,h1,h2⟩
 by_cases hlt:i<j
 ·have g1:(i:Int)<(j:Int):=DF
  have g2:(0:Int)<=(((i+j) / 2:Nat):Int):=DF
  have g3:(((i+j) / 2:Nat):Int).toNat=(i+j) / 2:=DF
  have hm:(i+j) / 2<49:=DF
  have hw:=Ln (k:=(i+j) / 2) DF
  simp only [go_sem,g1,decide_true,AGZ hj hlt,g2,g3,Ll hm]
  repeat' (first
   | (refine pK (AF7 _ _) ?_;simp only [go_sem,g1,AGZ hj hlt,g2,g3,Ll hm,hw])
   | ((first|apply cS|apply gS)<;>(intro hc;simp only [go_sem,hc,g1,AGZ hj hlt,g2,g3,Ll hm,hw])))
  ·exact ⟨((i+j) / 2+1,j),⟨DF,hj,λk hk=>by
    rcases BT k ((i+j) / 2) with h|h
    ·exact yi (MQ _ _ h hm) hc
    ·have:k=(i+j) / 2:=DF
     subst this;exact hc,h2⟩,DF,rfl,rfl⟩
  ·exact ⟨(i,(i+j) / 2),⟨DF,DF,h1,λk hk hk9=>by
    rcases BT ((i+j) / 2) k with h|h
    ·cases hq:S0 (Fv.getD k ⟨#[]⟩) s with
     | false=>rfl
     | true=>rw [yi (MQ _ _ h hk9) hq] at hc;cases hc
    ·have:k=(i+j) / 2:=DF
     subst this;exact hc⟩,DF,rfl,rfl⟩
 ·have hij:i=j:=DF
  subst hij
  have g1 : ¬ (i:Int)<(i:Int):=DF
  have hwb:Sp s=(decide (i<49)&&decide (Fv.getD i ⟨#[]⟩=s)):=wp hj h1 h2
  have hbs:bsI s=i:=PC Fv i (by rw [Lk];exact hj) (λk x hk hl=>by
   have:=h1 k hl;rw [Cr,hk] at this;exact this) (λx hx=>by
   have:=h2 i (AU _) (by have:=(AD.1 hx).1;rw [Lk] at this;exact this)
   rw [Cr,hx] at this;exact this)
  by_cases h49:i<49
  ·have g3:(i:Int)<49:=DF
   have g4:(0:Int)<=(i:Int):=DF
   simp only [go_sem,g1,decide_false,g3,g4,decide_true,Ll h49,By]
   repeat' (first
    | (refine pK (xy _) ?_;simp only [go_sem,g1,g3,g4,Ll h49,By,Ae])
    | ((first|apply cS|apply gS)<;>(intro hc;simp only [go_sem,hc,g1,g3,g4,Ll h49,By,Ae])))
   all_goals (rw [hbs,hwb,hc];simp only [h49,decide_true,Dd,Av,Bool.and_true])
  ·have g3 : ¬ (i:Int)<49:=DF
   simp only [go_sem,g1,decide_false,g3]
   repeat' (first
    | (refine pK (xy _) ?_;simp only [go_sem,g1,g3])
    | ((first|apply cS|apply gS)<;>(intro hc;simp only [go_sem,hc,g1,g3])))
   all_goals (rw [hbs,hwb];simp [h49])
theorem AAE(s:ByteArray){k:Nat}(h:k<=s.size):(s.extract k s.size).size=s.size - k:=by simp [ByteArray.size_extract]
theorem rW(s:ByteArray){k:Nat}(h:k<s.size):((s.extract k s.size).data[0]?).getD 0=(s.data[k]?).getD 0:=by
 have:(s.extract k s.size).data=s.data.extract k s.size:=by simp [ByteArray.data_extract]
 have h2:s.size=s.data.size:=rfl
 rw [this,Array.getElem?_extract]
 have h3:0<s.size - k:=DF
 simp [<- h2,h,h3]
theorem AC0(s:ByteArray)(h:0<s.size):DR AA 310 [.str s] (.bool (wdB ((s.data[0]?).getD 0))):=by
 have h0:(0:Int)<(s.size:Int):=DF
 refine pC AHw rfl ?_
 simp only [f310,go_sem,h0]
 repeat' (first
  | (refine pK (Zm _) ?_;simp only [go_sem,h0])
  | ((first|apply cS|apply gS)<;>(intro hc;simp only [go_sem,hc,h0])))
theorem xu(s:ByteArray)(hs:s.size<=1073741824):DR AA 309 [.str s,.fn (.func 310) [] []] (.str (s.extract 0 (LS s.data.toList))):=by
 refine pC AHz rfl ?_
 simp only [f309,go_sem]
 refine WM s (λl=>s.size - l.length+LS l) (λk=>[(0,.str s),(1,.fn (.func 310) [] []),(5,.int .i64 k)]) DF rfl ?_ ?_
 ·intro k x xs hd hx hF h0 h1 hw hl
  rw [SY] at hF
  simp only [AC,LS] at hF
  have hk:k<s.size:=DF
  have hk2:(k:Int)<=(s.size:Int):=DF
  have hp:0<(s.extract k s.size).size:=by rw [AAE s DF];omega
  simp only [go_sem,h0,h1,hk2]
  repeat' (first
   | (refine aP (AC0 _ hp) ?_;simp only [go_sem,hw,rW s hk,hx])
   | ((first|apply cS|apply gS)<;>(intro hc;simp only [go_sem,hc,hw,rW s hk,hx])))
  ·rw [LS,if_pos hc];omega
  ·rw [if_neg (by rw [hc];decide)] at hF
   have:LS s.data.toList=k:=DF
   exact ⟨DF,DF,by rw [this]⟩
 ·intro hF hlt
  simp only [go_sem,hlt,decide_false]
  rw [SY] at hF
  have:LS s.data.toList=s.size:=by simp only [LS,List.length_nil] at hF;omega
  exact ⟨DF,by rw [this]⟩
theorem ADa{s:ByteArray}{n:Nat}(h:n<=s.size):(s.extract 0 n=s)↔n=s.size:=by
 constructor
 ·intro he
  have:=congrArg ByteArray.size he
  rw [ByteArray.size_extract] at this
  omega
 ·rintro rfl
  exact ByteArray.extract_zero_size
theorem qr : ∀ l:List UInt8,LS l<=l.length
 | []=>by simp [LS]
 | c::l=>by have:=qr l;unfold LS;split<;>simp<;>omega
theorem s5(s:ByteArray)(hs:s.size<=1073741824):DR AA 259 [.str s] (.bool (tnB s)) := by
  have hr:LS s.data.toList<=s.size := by have := qr s.data.toList;rw [SY] at this;exact this
  have hx:decide (s.extract 0 (LS s.data.toList)=s)=((LS s.data.toList:Int)==(s.size:Int)) := by
    rw [BA,decide_eq_true_eq,ADa hr,beq_iff_eq];omega
  refine pC AJb rfl ?_
  by_cases hz:s=⟨#[]⟩
  · subst hz
    simp only [f259,go_sem,By,decide_true]
    rfl
  · have h0:(0:Int)<(s.size:Int) := by
      have:s.size≠0 := λh=>hz (ByteArray.size_eq_zero_iff.1 h)
      omega
    simp only [f259,go_sem,By,hz,decide_false,h0]
    repeat' (first
      | ((first|refine pK (Ux _) ?_|refine pK (xr _) ?_|refine pK (xu _ hs) ?_);simp only [go_sem,By,hz,decide_false,h0,hx])
      | ((first|apply cS|apply gS)<;>(intro hc;simp only [go_sem,hc,By,hz,decide_false,h0,hx])))
    all_goals first
      | rfl
      | (obtain ⟨x,xs,hx2⟩ : ∃ x xs,s.data.toList=x::xs := by
          cases h:s.data.toList with
          | nil=>rw [<- SY,h] at h0;simp at h0
          | cons x xs=>exact ⟨x,xs,rfl⟩
         have hx0:(s.data[0]?).getD 0=x := by rw [<- Array.getElem?_toList,hx2];rfl
         simp only [hx0] at *
         simp only [tnB,hx2]
         simp only [hx2] at *
         grind)
      | skip
theorem ACz(s:ByteArray)(hs:s.size<=1073741824):DR AA 198 [.str s] (.bool (tnB s)):=by
 refine pC ALM rfl ?_
 simp only [f198,go_sem]
 repeat' (first
  | (refine pK (s5 _ hs) ?_;simp only [go_sem])
  | ((first|apply cS|apply gS)<;>(intro hc;simp only [go_sem,hc])))
theorem HP(s:ByteArray)(hs:s.size<=1073741824):DR AA 127 [.str s] (.bool (UR s)):=by
 refine pC AOZ rfl ?_
 simp only [f127,go_sem,By]
 repeat' (first
  | (refine pK (ACz _ hs) ?_;simp only [go_sem,By])
  | ((first|apply cS|apply gS)<;>(intro hc;simp only [go_sem,hc,By])))
 all_goals first
  | rfl
  | (simp only [By,UR,Eu,hc,BL,BM,Av];rfl)
  | grind [By,UR,Eu,BL,BM,Av]
  | (simp only [By,UR,Eu,hc,BL,BM,Av];grind)
  | (simp [By,UR,Eu,hc,BL,BM,Av, *];done)
  | (simp_all [By,UR,Eu,hc,BL,BM,Av];done)
  | skip
theorem HO(n:Int):DR AA 128 [.int .i64 n] (.bool (MO n)):=by
 refine pC AOW rfl ?_
 simp only [f128,go_sem]
 repeat' (first
  | ((first|apply cS|apply gS)<;>(intro hc;simp only [go_sem,hc])))
 all_goals first
  | rfl
  | (simp only [MO];rfl)
  | grind [MO]
  | (simp only [MO];grind)
  | (simp [MO, *];done)
  | (simp_all [MO];done)
  | skip
def Ko(n:Int):Bool:=decide (0<=n)&&decide (n<=1073741824)
theorem MY(n:Int):DR AA 196 [.int .i64 n] (.bool (Ko n)):=by
 refine pC ALS rfl ?_
 simp only [f196,go_sem]
 repeat' (first
  | ((first|apply cS|apply gS)<;>(intro hc;simp only [go_sem,hc])))
 all_goals first
  | rfl
  | (simp only [Ko];rfl)
  | grind [Ko]
  | (simp only [Ko];grind)
  | (simp [Ko, *];done)
  | (simp_all [Ko];done)
  | skip
theorem xn{cs:List AV}{l:List AV}(h:F8 (.agg cs::l)):F8 cs:=h.1
def Fw{α:Type}(p:α->Bool):Nat->List α->Int
 | _,[] => -1
 | i,x::l=>if p x then (i:Int) else Fw p (i+1) l
def Gq{α:Type}(p:α->Bool)(l:List α):Int:=Fw p 0 l
theorem Od{α:Type}(p:α->Bool): ∀ (l:List α) (i:Nat),decide (0<=Fw p i l)=l.any p
 | [],i=>rfl
 | x::l,i=>by
  rw [Fw,Au]
  cases h:p x with
  | true=>simp
  | false=>simp [Od p l (i+1)]
theorem UZ{α:Type}(p:α->Bool)(l:List α):(!(l.any λx => !p x))=l.all p:=by
 induction l with
 | nil=>rfl
 | cons x l ih=>simp only [Au,Ak,Bool.not_or,Bool.not_not,ih]
@[go_sem] theorem AaI{α:Type}(l:List α)(x:α):(l++[x])[l.length]? =some x:=sm
theorem dt {H:DM} (l:List Pred) (hl:l.length<=9223372036854775807) (g:FuncId) (fi ca:List AV) (p:Pred->Bool)
  (h : ∀ x∈l,E5 AA g (fi.map AV.borrow++(.agg x.c::ca.map AV.borrow)) H (.bool (p x))) :
  E5 AA 306 [.sl none (Ez l),.fn (.func g) fi ca] H (.int .i64 (Gq p l)):=by
 unfold E5
 refine aC AH8 rfl ?_
 simp only [f306,go_sem]
 refine EP l (λr=>Fw p (l.length - r.length) r) (λk=>[(0,.sl none (Ez l)),(1,.fn (.func g) fi ca),(7,.int .i64 l.length),(8,.int .i64 k)]) hl rfl ?_ ?_
 ·intro k x xs hd hx hF h0 h1 hw
  have hk2:=Eb hd
  have e1:l.length - (xs.length+1)=k:=DF
  have e2:l.length - xs.length=k+1:=DF
  simp only [AC,e1,AQ] at hF
  simp only [go_sem,h0,h1,Ea hx,e1,e2]
  repeat' (first
   | (refine aS (h x (AB hx)) ?_;simp only [go_sem,h0,h1,hw,Ea hx,e1,e2])
   | ((first|apply cS|apply gS)<;>(intro hc;simp only [go_sem,hc,h0,h1,hw,Ea hx,e1,e2])))
  ·rw [Gq,hF,Fw,if_pos hc]
  ·rw [Fw,if_neg (by rw [hc];decide)]
 ·intro hF hlt
  simp only [go_sem,hlt,decide_false]
  rw [AQ] at hF
  rw [Gq,hF];rfl
theorem U2 {H:DM} (l:List Pred) (hl:l.length<=9223372036854775807) (g:FuncId) (fi ca:List AV) (p:Pred->Bool)
  (h : ∀ x∈l,E5 AA g (fi.map AV.borrow++(.agg x.c::ca.map AV.borrow)) H (.bool (p x))) :
  E5 AA 257 [.sl none (Ez l),.fn (.func g) fi ca] H (.bool (l.any p)):=by
 unfold E5
 refine aC AJh rfl ?_
 simp only [f257,go_sem]
 repeat' (first
  | (refine aS (dt l hl g fi ca p h) ?_;simp only [go_sem])
  | ((first|apply cS|apply gS)<;>(intro hc;simp only [go_sem,hc])))
 rw [Gq,Od]
theorem GZ(l:List Pred)(hl:l.length<=9223372036854775807)(n:Int)(g:FuncId)(p:Pred->Bool)(h : ∀ x∈l,DR AA g [.agg x.c] (.bool (p x))):
  DR AA 197 [.sl none (Ez l),.int .i64 n,.fn (.func g) [] []] (.bool (((l.length:Int)==n)&&l.all p)):=by
 refine pC ALP rfl ?_
 simp only [f197,go_sem]
 have h1 : ∀ x∈l,E5 AA 258 [.agg x.c,.ptr 0 0] [some [.fn (.func g) [] []]] (.bool (!p x)):=by
  intro x hx
  refine Dx.drop rfl ?_
  refine aC AJe rfl ?_
  simp only [f258,go_sem]
  repeat' (first
   | (refine aP (h x hx) ?_;simp only [go_sem])
   | ((first|apply cS|apply gS)<;>(intro hc;simp only [go_sem,hc])))
  exact ⟨_,rfl⟩
 repeat' (first
  | (refine aS (U2 l hl 258 [] [.ptr 0 0] (λx => !p x) h1) ?_;simp only [go_sem,UZ])
  | ((first|apply cS|apply gS)<;>(intro hc;simp only [go_sem,hc,UZ])))
theorem XA {H:DM} (l:List Policy) (hl:l.length<=9223372036854775807) (g:FuncId) (fi ca:List AV) (p:Policy->Bool)
  (h : ∀ x∈l,E5 AA g (fi.map AV.borrow++(.agg x.c::ca.map AV.borrow)) H (.bool (p x))) :
  E5 AA 260 [.sl none (Em l),.fn (.func g) fi ca] H (.int .i64 (Gq p l)):=by
 unfold E5
 refine aC AJY rfl ?_
 simp only [f260,go_sem]
 refine EP l (λr=>Fw p (l.length - r.length) r) (λk=>[(0,.sl none (Em l)),(1,.fn (.func g) fi ca),(7,.int .i64 l.length),(8,.int .i64 k)]) hl rfl ?_ ?_
 ·intro k x xs hd hx hF h0 h1 hw
  have hk2:=Eb hd
  have e1:l.length - (xs.length+1)=k:=DF
  have e2:l.length - xs.length=k+1:=DF
  simp only [AC,e1,AQ] at hF
  simp only [go_sem,h0,h1,EQ hx,e1,e2]
  repeat' (first
   | (refine aS (h x (AB hx)) ?_;simp only [go_sem,h0,h1,hw,EQ hx,e1,e2])
   | ((first|apply cS|apply gS)<;>(intro hc;simp only [go_sem,hc,h0,h1,hw,EQ hx,e1,e2])))
  ·rw [Gq,hF,Fw,if_pos hc]
  ·rw [Fw,if_neg (by rw [hc];decide)]
 ·intro hF hlt
  simp only [go_sem,hlt,decide_false]
  rw [AQ] at hF
  rw [Gq,hF];rfl
theorem Rx {H:DM} (l:List Policy) (hl:l.length<=9223372036854775807) (g:FuncId) (fi ca:List AV) (p:Policy->Bool)
  (h : ∀ x∈l,E5 AA g (fi.map AV.borrow++(.agg x.c::ca.map AV.borrow)) H (.bool (p x))) :
  E5 AA 199 [.sl none (Em l),.fn (.func g) fi ca] H (.bool (l.any p)):=by
 unfold E5
 refine aC ALJ rfl ?_
 simp only [f199,go_sem]
 repeat' (first
  | (refine aS (XA l hl g fi ca p h) ?_;simp only [go_sem])
  | ((first|apply cS|apply gS)<;>(intro hc;simp only [go_sem,hc])))
 rw [Gq,Od]
theorem IE(l:List Policy)(hl:l.length<=9223372036854775807)(n:Int)(g:FuncId)(p:Policy->Bool)(h : ∀ x∈l,DR AA g [.agg x.c] (.bool (p x))):
  DR AA 129 [.sl none (Em l),.int .i64 n,.fn (.func g) [] []] (.bool (((l.length:Int)==n)&&l.all p)):=by
 refine pC AOT rfl ?_
 simp only [f129,go_sem]
 have h1 : ∀ x∈l,E5 AA 200 [.agg x.c,.ptr 0 0] [some [.fn (.func g) [] []]] (.bool (!p x)):=by
  intro x hx
  refine Dx.drop rfl ?_
  refine aC ALG rfl ?_
  simp only [f200,go_sem]
  repeat' (first
   | (refine aP (h x hx) ?_;simp only [go_sem])
   | ((first|apply cS|apply gS)<;>(intro hc;simp only [go_sem,hc])))
  exact ⟨_,rfl⟩
 repeat' (first
  | (refine aS (Rx l hl 200 [] [.ptr 0 0] (λx => !p x) h1) ?_;simp only [go_sem,UZ])
  | ((first|apply cS|apply gS)<;>(intro hc;simp only [go_sem,hc,UZ])))
theorem lY(a b:Sizes):DR AA 122 [.agg a.c,.agg b.c] (.agg (a.more b).c):=by
 refine pB AOm rfl ?_
 simp only [f122,go_sem]
 rfl
theorem s9(l:List Pred)(hl:l.length<=9223372036854775807)(h : ∀ x∈l,DR AA 123 [.agg x.c] (.agg (lH x).c)):
  DR AA 194 [.sl none (Ez l),.fn (.func 123) [] []] (.agg (Ug l ⟨1,1⟩).c):=by
 refine pB ALc rfl ?_
 simp only [f194,go_sem]
 refine Ed l (λo l=>Ug l o) (λ_ _=>True) (λk o=>[(1,.fn (.func 123) [] []),(4,.ptr 0 0),(5,.ptr 1 0),(9,.sl none (Ez l)),(10,.int .i64 l.length),(11,.int .i64 k)]) (λk o=>[some Sizes.z.c,some o.c]) ⟨1,1⟩ hl trivial rfl rfl ?_ ?_
 ·intro k o y ys hd hx _ hF h0 h1 hw
  simp only [go_sem,h0,h1,Ea hx]
  repeat' (first
   | ((first|refine pK (h _ (AB hx)) ?_|refine pK (lY _ _) ?_);simp only [go_sem,h0,h1,hw,Ea hx])
   | ((first|apply cS|apply gS)<;>(intro hc;simp only [go_sem,hc,h0,h1,hw,Ea hx])))
  exact ⟨_,YU _ _ _,rfl,rfl⟩
 ·intro o _ hF
  simp only [go_sem,AX,decide_false]
  rw [hF,cq]
theorem dx(a b:List Pred)(ha:a.length<=9223372036854775807)(h : ∀ x∈a,∀ y,DR AA 125 [.agg x.c,.agg y.c] (.bool (rY x y))):
  DR AA 195 [.sl none (Ez a),.sl none (Ez b),.fn (.func 125) [] []] (.bool (((a.length:Int)==(b.length:Int))&&Tp a b)):=by
 refine pC ALX rfl ?_
 simp only [f195,go_sem]
 repeat' (first
  | ((first|apply cS|apply gS)<;>(intro hc;simp only [go_sem,hc])))
 ·simp at hc;simp [hc]
 ·have hlen:a.length=b.length:=by simp at hc;omega
  refine Ed a (λ(_:Unit) r=>Tp r (b.drop (a.length - r.length))) (λ_ _=>True) (λk _=>[(1,.sl none (Ez b)),(2,.fn (.func 125) [] []),(15,.sl none (Ez a)),(16,.int .i64 a.length),(17,.int .i64 k)]) (λk _=>[]) () ha trivial rfl rfl ?_ ?_
  ·intro k _ x xs hd hx _ hF h0 h1 hw
   have hk2:=Eb hd
   obtain ⟨y,hy⟩ : ∃ y,b[k]? =some y:=⟨_,AL DF⟩
   have e1:a.length - (xs.length+1)=k:=DF
   have e2:a.length - xs.length=k+1:=DF
   have hbd:b.drop k=y::b.drop (k+1):=by
    obtain ⟨hlt,rfl⟩:=AD.1 hy
    exact List.drop_eq_getElem_cons hlt
   simp only [AC,e1,AQ,BN,hbd,Hn] at hF
   simp only [go_sem,h0,h1,Ea hx,Ea hy]
   repeat' (first
    | (refine aP (h _ (AB hx) y) ?_;simp only [go_sem,h0,h1,hw,Ea hx,Ea hy])
    | ((first|apply cS|apply gS)<;>(intro hc;simp only [go_sem,hc,h0,h1,hw,Ea hx,Ea hy])))
   ·simp only [Bool.not_eq_true'] at hc
    rw [hF,hc,Bool.false_and,Dd]
   ·simp only [Bool.not_eq_false'] at hc
    exact ⟨(),by rw [e1,e2,hbd,Hn,hc,Bool.true_and]⟩
  ·intro _ _ hF
   simp only [go_sem,AX,decide_false]
   rw [AQ,BN,K0] at hF
   rw [hF,hlen];simp
theorem dp(l:List Policy)(hl:l.length<=9223372036854775807)(h : ∀ x∈l,DR AA 67 [.agg x.c] (.agg (lI x).c)):
  DR AA 121 [.sl none (Em l),.fn (.func 67) [] []] (.agg (Ox l ⟨1,1⟩).c):=by
 refine pB AOq rfl ?_
 simp only [f121,go_sem]
 refine Ed l (λo l=>Ox l o) (λ_ _=>True) (λk o=>[(1,.fn (.func 67) [] []),(4,.ptr 0 0),(5,.ptr 1 0),(9,.sl none (Em l)),(10,.int .i64 l.length),(11,.int .i64 k)]) (λk o=>[some Sizes.z.c,some o.c]) ⟨1,1⟩ hl trivial rfl rfl ?_ ?_
 ·intro k o y ys hd hx _ hF h0 h1 hw
  simp only [go_sem,h0,h1,EQ hx]
  repeat' (first
   | ((first|refine pK (h _ (AB hx)) ?_|refine pK (lY _ _) ?_);simp only [go_sem,h0,h1,hw,EQ hx])
   | ((first|apply cS|apply gS)<;>(intro hc;simp only [go_sem,hc,h0,h1,hw,EQ hx])))
  exact ⟨_,Lo _ _ _,rfl,rfl⟩
 ·intro o _ hF
  simp only [go_sem,AX,decide_false]
  rw [hF,NV]
theorem lZ : ∀ x:Pred,DR AA 123 [.agg x.c] (.agg (lH x).c):=by
 refine IK _ λx ih=>?_
 refine DR.fit zo.c λhf=>?_
 have hl:=Jv (xn hf)
 refine pB zo rfl ?_
 simp only [f123,go_sem]
 repeat' (first
  | (refine pK (s9 _ hl (λy hy=>ih y hy)) ?_;simp only [go_sem])
  | ((first|apply cS|apply gS)<;>(intro hc;simp only [go_sem,hc])))
 rw [xE]
theorem rM(a b:Int):i64 (i64 a+b)=i64 (a+b):=by
 simp only [i64,IntKind.wrap,Dh,DH]
 simp
 split<;>split<;>split<;>omega
theorem te(a b c:Sizes):(a.more b).more c=(a.more c).more b:=by
 unfold Sizes.more Vm
 simp only [Sizes.mk.injEq]
 refine ⟨?_, ?_⟩
 ·rw [rM,rM];congr 1;omega
 ·grind
theorem YV(z:Sizes): ∀ (l:List Policy) (o:Sizes),Ox l (o.more z)=(Ox l o).more z
 | [],o=>by rw [NV,NV]
 | x::l,o=>by rw [Lo,Lo,te,YV z l]
theorem Zk : ∀ x:Policy,DR AA 67 [.agg x.c] (.agg (lI x).c):=by
 refine GR _ λx ih=>?_
 refine DR.fit AE4.c λhf=>?_
 have hl:=IR (xn hf)
 refine pB AE4 rfl ?_
 simp only [f67,go_sem]
 repeat' (first
  | ((first|refine pK (dp _ hl (λy hy=>ih y hy)) ?_|refine pK (lZ _) ?_|refine pK (lY _ _) ?_);simp only [go_sem])
  | ((first|apply cS|apply gS)<;>(intro hc;simp only [go_sem,hc])))
 ·rw [ZW,if_pos (by simpa using hc),YV]
 ·rw [ZW,if_neg (by simpa using hc)]
theorem ACp(z:Sizes):DR AA 124 [.agg z.c] (.int .i64 (Pk z)):=by
 refine pC AOh rfl ?_
 simp only [f124,go_sem]
 repeat' (first
  | ((first|apply cS|apply gS)<;>(intro hc;simp only [go_sem,hc])))
 all_goals first
  | rfl
  | (simp only [Pk];rfl)
  | grind [Pk]
  | (simp only [Pk];grind)
  | (simp [Pk, *];done)
  | (simp_all [Pk];done)
  | skip
theorem ACs{H:DM}(z:Sizes)(g:FuncId)(ca:List AV)(b:Bool)(h:E5 AA g (ca.map AV.borrow) (H++[some z.c]) (.bool b)):
  E5 AA 68 [.agg z.c,.fn (.func g) [] ca] H (.int .i64 (rU z b)):=by
 refine Dx.drop rfl ?_
 refine aC AUP rfl ?_
 simp only [f68,go_sem]
 repeat' (first
  | ((first|refine pK (ACp _) ?_|refine aS (h) ?_);simp only [go_sem])
  | ((first|apply cS|apply gS)<;>(intro hc;simp only [go_sem,hc])))
 all_goals simp_all [rU]
theorem Aae(a b:Nat):((a:Int)==(b:Int))=(a==b):=by
 rw [BA];simp;omega
theorem JP : ∀ x y:Pred,DR AA 125 [.agg x.c,.agg y.c] (.bool (rY x y)):=by
 refine IK _ λx ih=>λy=>?_
 refine DR.fit zn.c λhf=>?_
 have hl:=Jv (xn hf)
 refine pC zn rfl ?_
 simp only [f125,go_sem,By]
 repeat' (first
  | (refine pK (dx _ _ hl (λy hy z=>ih y hy z)) ?_;simp only [go_sem,By])
  | ((first|apply cS|apply gS)<;>(intro hc;simp only [go_sem,hc,By])))
 all_goals (rw [Ha];simp_all [Aae])
theorem IJ : ∀ l:List Pred,Vt l=l.all MP
 | []=>by rw [GN];rfl
 | x::l=>by rw [Jb,Ak,IJ l]
theorem L8 : ∀ l:List Policy,Vu l=l.all Qz
 | []=>by rw [HY];rfl
 | x::l=>by rw [Jc,Ak,L8 l]
theorem GL{α:Type}(l:List α):((l.length:Int)==0)=l.isEmpty:=by
 cases l<;>simp;omega
theorem FU{a b:Int}(h:a≠b):(a==b)=false:=by simp [h]
theorem ASr
(field:ByteArray) (n m:Int) (args:List Pred) (hl:args.length<=9223372036854775807) (hfs:field.size<=1073741824) (hev : ∀ y∈args,DR AA 126 [.agg y.c] (.bool (MP y))):DR AA 126 [.agg (Pred.c ⟨1,field,n,m,args⟩)] (.bool (MP ⟨1,field,n,m,args⟩)):=by
 refine pC La rfl ?_
 simp only [f126,go_sem,By,Int.reduceBEq,GL]
 repeat' (first
  | ((first|refine pK (HP _ hfs) ?_|refine pK (HO _) ?_|refine pK (MY _) ?_|refine pK (GZ _ hl _ _ MP hev) ?_);simp only [go_sem,By,Int.reduceBEq,GL])
  | ((first|apply cS|apply gS)<;>(intro hc;simp only [go_sem,hc,By,Int.reduceBEq,GL])))
 all_goals (rw [GO];cases args<;>(simp_all [R1,IF,MO,Ko,IJ,GN]<;>first|omega|grind|skip))
theorem ASq
(field:ByteArray) (n m:Int) (args:List Pred) (hl:args.length<=9223372036854775807) (hfs:field.size<=1073741824) (hev : ∀ y∈args,DR AA 126 [.agg y.c] (.bool (MP y))):DR AA 126 [.agg (Pred.c ⟨2,field,n,m,args⟩)] (.bool (MP ⟨2,field,n,m,args⟩)):=by
 refine pC La rfl ?_
 simp only [f126,go_sem,By,Int.reduceBEq,GL]
 repeat' (first
  | ((first|refine pK (HP _ hfs) ?_|refine pK (HO _) ?_|refine pK (MY _) ?_|refine pK (GZ _ hl _ _ MP hev) ?_);simp only [go_sem,By,Int.reduceBEq,GL])
  | ((first|apply cS|apply gS)<;>(intro hc;simp only [go_sem,hc,By,Int.reduceBEq,GL])))
 all_goals (rw [GO];cases args<;>(simp_all [R1,IF,MO,Ko,IJ,GN]<;>first|omega|grind|skip))
theorem ASp
(field:ByteArray) (n m:Int) (args:List Pred) (hl:args.length<=9223372036854775807) (hfs:field.size<=1073741824) (hev : ∀ y∈args,DR AA 126 [.agg y.c] (.bool (MP y))):DR AA 126 [.agg (Pred.c ⟨3,field,n,m,args⟩)] (.bool (MP ⟨3,field,n,m,args⟩)):=by
 refine pC La rfl ?_
 simp only [f126,go_sem,By,Int.reduceBEq,GL]
 repeat' (first
  | ((first|refine pK (HP _ hfs) ?_|refine pK (HO _) ?_|refine pK (MY _) ?_|refine pK (GZ _ hl _ _ MP hev) ?_);simp only [go_sem,By,Int.reduceBEq,GL])
  | ((first|apply cS|apply gS)<;>(intro hc;simp only [go_sem,hc,By,Int.reduceBEq,GL])))
 all_goals (rw [GO];cases args<;>(simp_all [R1,IF,MO,Ko,IJ,GN]<;>first|omega|grind|skip))
theorem ASo
(field:ByteArray) (n m:Int) (args:List Pred) (hl:args.length<=9223372036854775807) (hfs:field.size<=1073741824) (hev : ∀ y∈args,DR AA 126 [.agg y.c] (.bool (MP y))):DR AA 126 [.agg (Pred.c ⟨4,field,n,m,args⟩)] (.bool (MP ⟨4,field,n,m,args⟩)):=by
 refine pC La rfl ?_
 simp only [f126,go_sem,By,Int.reduceBEq,GL]
 repeat' (first
  | ((first|refine pK (HP _ hfs) ?_|refine pK (HO _) ?_|refine pK (MY _) ?_|refine pK (GZ _ hl _ _ MP hev) ?_);simp only [go_sem,By,Int.reduceBEq,GL])
  | ((first|apply cS|apply gS)<;>(intro hc;simp only [go_sem,hc,By,Int.reduceBEq,GL])))
 all_goals (rw [GO];cases args<;>(simp_all [R1,IF,MO,Ko,IJ,GN]<;>first|omega|grind|skip))
theorem ASn
(field:ByteArray) (n m:Int) (args:List Pred) (hl:args.length<=9223372036854775807) (hfs:field.size<=1073741824) (hev : ∀ y∈args,DR AA 126 [.agg y.c] (.bool (MP y))):DR AA 126 [.agg (Pred.c ⟨5,field,n,m,args⟩)] (.bool (MP ⟨5,field,n,m,args⟩)):=by
 refine pC La rfl ?_
 simp only [f126,go_sem,By,Int.reduceBEq,GL]
 repeat' (first
  | ((first|refine pK (HP _ hfs) ?_|refine pK (HO _) ?_|refine pK (MY _) ?_|refine pK (GZ _ hl _ _ MP hev) ?_);simp only [go_sem,By,Int.reduceBEq,GL])
  | ((first|apply cS|apply gS)<;>(intro hc;simp only [go_sem,hc,By,Int.reduceBEq,GL])))
 all_goals (rw [GO];cases args<;>(simp_all [R1,IF,MO,Ko,IJ,GN]<;>first|omega|grind|skip))
theorem ASm
(field:ByteArray) (n m:Int) (args:List Pred) (hl:args.length<=9223372036854775807) (hfs:field.size<=1073741824) (hev : ∀ y∈args,DR AA 126 [.agg y.c] (.bool (MP y))):DR AA 126 [.agg (Pred.c ⟨6,field,n,m,args⟩)] (.bool (MP ⟨6,field,n,m,args⟩)):=by
 refine pC La rfl ?_
 simp only [f126,go_sem,By,Int.reduceBEq,GL]
 repeat' (first
  | ((first|refine pK (HP _ hfs) ?_|refine pK (HO _) ?_|refine pK (MY _) ?_|refine pK (GZ _ hl _ _ MP hev) ?_);simp only [go_sem,By,Int.reduceBEq,GL])
  | ((first|apply cS|apply gS)<;>(intro hc;simp only [go_sem,hc,By,Int.reduceBEq,GL])))
 all_goals (rw [GO];cases args<;>(simp_all [R1,IF,MO,Ko,IJ,GN]<;>first|omega|grind|skip))
theorem ASl
(field:ByteArray) (n m:Int) (args:List Pred) (hl:args.length<=9223372036854775807) (hfs:field.size<=1073741824) (hev : ∀ y∈args,DR AA 126 [.agg y.c] (.bool (MP y))):DR AA 126 [.agg (Pred.c ⟨7,field,n,m,args⟩)] (.bool (MP ⟨7,field,n,m,args⟩)):=by
 refine pC La rfl ?_
 simp only [f126,go_sem,By,Int.reduceBEq,GL]
 repeat' (first
  | ((first|refine pK (HP _ hfs) ?_|refine pK (HO _) ?_|refine pK (MY _) ?_|refine pK (GZ _ hl _ _ MP hev) ?_);simp only [go_sem,By,Int.reduceBEq,GL])
  | ((first|apply cS|apply gS)<;>(intro hc;simp only [go_sem,hc,By,Int.reduceBEq,GL])))
 all_goals (rw [GO];cases args<;>(simp_all [R1,IF,MO,Ko,IJ,GN]<;>first|omega|grind|skip))
theorem ASk
(field:ByteArray) (n m:Int) (args:List Pred) (hl:args.length<=9223372036854775807) (hfs:field.size<=1073741824) (hev : ∀ y∈args,DR AA 126 [.agg y.c] (.bool (MP y))):DR AA 126 [.agg (Pred.c ⟨8,field,n,m,args⟩)] (.bool (MP ⟨8,field,n,m,args⟩)):=by
 refine pC La rfl ?_
 simp only [f126,go_sem,By,Int.reduceBEq,GL]
 repeat' (first
  | ((first|refine pK (HP _ hfs) ?_|refine pK (HO _) ?_|refine pK (MY _) ?_|refine pK (GZ _ hl _ _ MP hev) ?_);simp only [go_sem,By,Int.reduceBEq,GL])
  | ((first|apply cS|apply gS)<;>(intro hc;simp only [go_sem,hc,By,Int.reduceBEq,GL])))
 all_goals (rw [GO];cases args<;>(simp_all [R1,IF,MO,Ko,IJ,GN]<;>first|omega|grind|skip))
theorem ASj
(field:ByteArray) (n m:Int) (args:List Pred) (hl:args.length<=9223372036854775807) (hfs:field.size<=1073741824) (hev : ∀ y∈args,DR AA 126 [.agg y.c] (.bool (MP y))):DR AA 126 [.agg (Pred.c ⟨9,field,n,m,args⟩)] (.bool (MP ⟨9,field,n,m,args⟩)):=by
 refine pC La rfl ?_
 simp only [f126,go_sem,By,Int.reduceBEq,GL]
 repeat' (first
  | ((first|refine pK (HP _ hfs) ?_|refine pK (HO _) ?_|refine pK (MY _) ?_|refine pK (GZ _ hl _ _ MP hev) ?_);simp only [go_sem,By,Int.reduceBEq,GL])
  | ((first|apply cS|apply gS)<;>(intro hc;simp only [go_sem,hc,By,Int.reduceBEq,GL])))
 all_goals (rw [GO];cases args<;>(simp_all [R1,IF,MO,Ko,IJ,GN]<;>first|omega|grind|skip))
theorem ASs (kind:Int) (h1:kind≠1) (h2:kind≠2) (h3:kind≠3) (h4:kind≠4) (h5:kind≠5) (h6:kind≠6) (h7:kind≠7) (h8:kind≠8) (h9:kind≠9)
  (field:ByteArray) (n m:Int) (args:List Pred):DR AA 126 [.agg (Pred.c ⟨kind,field,n,m,args⟩)] (.bool (MP ⟨kind,field,n,m,args⟩)):=by
 refine pC La rfl ?_
 simp only [f126,go_sem,By,GL,FU h1,FU h2,FU h3,FU h4,FU h5,FU h6,FU h7,FU h8,FU h9]
 repeat' (first
  | ((first|apply cS|apply gS)<;>(intro hc;simp only [go_sem,hc,By,GL,FU h1,FU h2,FU h3,FU h4,FU h5,FU h6,FU h7,FU h8,FU h9])))
 all_goals (rw [GO];simp [R1, *])
theorem Ir : ∀ x:Pred,DT x.c<=1073741824->DR AA 126 [.agg x.c] (.bool (MP x)):=by
 refine IK _ λx ih=>λhb=>?_
 have hl:x.args.length<=9223372036854775807:=Nat.le_trans (VO (Hs hb)) dc
 have hfs:=PS hb
 have hev : ∀ y∈x.args,DR AA 126 [.agg y.c] (.bool (MP y)):=λy hm =>
  ih y hm (by have:=VP (Hs hb) hm;simpa only [AV.bulk] using this)
 obtain ⟨kind,field,n,m,args⟩:=x
 by_cases h1:kind=1
 ·subst h1;exact ASr field n m args hl hfs hev
 by_cases h2:kind=2
 ·subst h2;exact ASq field n m args hl hfs hev
 by_cases h3:kind=3
 ·subst h3;exact ASp field n m args hl hfs hev
 by_cases h4:kind=4
 ·subst h4;exact ASo field n m args hl hfs hev
 by_cases h5:kind=5
 ·subst h5;exact ASn field n m args hl hfs hev
 by_cases h6:kind=6
 ·subst h6;exact ASm field n m args hl hfs hev
 by_cases h7:kind=7
 ·subst h7;exact ASl field n m args hl hfs hev
 by_cases h8:kind=8
 ·subst h8;exact ASk field n m args hl hfs hev
 by_cases h9:kind=9
 ·subst h9;exact ASj field n m args hl hfs hev
 exact ASs kind h1 h2 h3 h4 h5 h6 h7 h8 h9 field n m args
theorem ASx
(pred:Pred) (field:ByteArray) (n:Int) (args:List Policy) (hl:args.length<=9223372036854775807) (hfs:field.size<=1073741824) (hp:DT pred.c<=1073741824) (hev : ∀ y∈args,DR AA 70 [.agg y.c] (.bool (Qz y))):DR AA 70 [.agg (Policy.c ⟨1,pred,field,n,args⟩)] (.bool (Qz ⟨1,pred,field,n,args⟩)):=by
 refine pC Yy rfl ?_
 simp only [f70,go_sem,By,Int.reduceBEq,GL]
 repeat' (first
  | ((first|refine pK (DR.lend (JP pred Pred.z)) ?_|refine pK (HP _ hfs) ?_|refine pK (HO _) ?_|refine pK (Ir _ hp) ?_|refine pK (IE _ hl _ _ Qz hev) ?_);simp only [go_sem,By,Int.reduceBEq,GL])
  | ((first|apply cS|apply gS)<;>(intro hc;simp only [go_sem,hc,By,Int.reduceBEq,GL])))
 all_goals (rw [G7];cases args<;>(simp_all [U7,MO,L8,HY]<;>first|omega|grind|skip))
theorem ASw
(pred:Pred) (field:ByteArray) (n:Int) (args:List Policy) (hl:args.length<=9223372036854775807) (hfs:field.size<=1073741824) (hp:DT pred.c<=1073741824) (hev : ∀ y∈args,DR AA 70 [.agg y.c] (.bool (Qz y))):DR AA 70 [.agg (Policy.c ⟨2,pred,field,n,args⟩)] (.bool (Qz ⟨2,pred,field,n,args⟩)):=by
 refine pC Yy rfl ?_
 simp only [f70,go_sem,By,Int.reduceBEq,GL]
 repeat' (first
  | ((first|refine pK (DR.lend (JP pred Pred.z)) ?_|refine pK (HP _ hfs) ?_|refine pK (HO _) ?_|refine pK (Ir _ hp) ?_|refine pK (IE _ hl _ _ Qz hev) ?_);simp only [go_sem,By,Int.reduceBEq,GL])
  | ((first|apply cS|apply gS)<;>(intro hc;simp only [go_sem,hc,By,Int.reduceBEq,GL])))
 all_goals (rw [G7];cases args<;>(simp_all [U7,MO,L8,HY]<;>first|omega|grind|skip))
theorem ASv
(pred:Pred) (field:ByteArray) (n:Int) (args:List Policy) (hl:args.length<=9223372036854775807) (hfs:field.size<=1073741824) (hp:DT pred.c<=1073741824) (hev : ∀ y∈args,DR AA 70 [.agg y.c] (.bool (Qz y))):DR AA 70 [.agg (Policy.c ⟨3,pred,field,n,args⟩)] (.bool (Qz ⟨3,pred,field,n,args⟩)):=by
 refine pC Yy rfl ?_
 simp only [f70,go_sem,By,Int.reduceBEq,GL]
 repeat' (first
  | ((first|refine pK (DR.lend (JP pred Pred.z)) ?_|refine pK (HP _ hfs) ?_|refine pK (HO _) ?_|refine pK (Ir _ hp) ?_|refine pK (IE _ hl _ _ Qz hev) ?_);simp only [go_sem,By,Int.reduceBEq,GL])
  | ((first|apply cS|apply gS)<;>(intro hc;simp only [go_sem,hc,By,Int.reduceBEq,GL])))
 all_goals (rw [G7];cases args<;>(simp_all [U7,MO,L8,HY]<;>first|omega|grind|skip))
theorem ASu
(pred:Pred) (field:ByteArray) (n:Int) (args:List Policy) (hl:args.length<=9223372036854775807) (hfs:field.size<=1073741824) (hp:DT pred.c<=1073741824) (hev : ∀ y∈args,DR AA 70 [.agg y.c] (.bool (Qz y))):DR AA 70 [.agg (Policy.c ⟨4,pred,field,n,args⟩)] (.bool (Qz ⟨4,pred,field,n,args⟩)):=by
 refine pC Yy rfl ?_
 simp only [f70,go_sem,By,Int.reduceBEq,GL]
 repeat' (first
  | ((first|refine pK (DR.lend (JP pred Pred.z)) ?_|refine pK (HP _ hfs) ?_|refine pK (HO _) ?_|refine pK (Ir _ hp) ?_|refine pK (IE _ hl _ _ Qz hev) ?_);simp only [go_sem,By,Int.reduceBEq,GL])
  | ((first|apply cS|apply gS)<;>(intro hc;simp only [go_sem,hc,By,Int.reduceBEq,GL])))
 all_goals (rw [G7];cases args<;>(simp_all [U7,MO,L8,HY]<;>first|omega|grind|skip))
theorem ASt
(pred:Pred) (field:ByteArray) (n:Int) (args:List Policy) (hl:args.length<=9223372036854775807) (hfs:field.size<=1073741824) (hp:DT pred.c<=1073741824) (hev : ∀ y∈args,DR AA 70 [.agg y.c] (.bool (Qz y))):DR AA 70 [.agg (Policy.c ⟨5,pred,field,n,args⟩)] (.bool (Qz ⟨5,pred,field,n,args⟩)):=by
 refine pC Yy rfl ?_
 simp only [f70,go_sem,By,Int.reduceBEq,GL]
 repeat' (first
  | ((first|refine pK (DR.lend (JP pred Pred.z)) ?_|refine pK (HP _ hfs) ?_|refine pK (HO _) ?_|refine pK (Ir _ hp) ?_|refine pK (IE _ hl _ _ Qz hev) ?_);simp only [go_sem,By,Int.reduceBEq,GL])
  | ((first|apply cS|apply gS)<;>(intro hc;simp only [go_sem,hc,By,Int.reduceBEq,GL])))
 all_goals (rw [G7];cases args<;>(simp_all [U7,MO,L8,HY]<;>first|omega|grind|skip))
theorem ASy (kind:Int) (h1:kind≠1) (h2:kind≠2) (h3:kind≠3) (h4:kind≠4) (h5:kind≠5)
  (pred:Pred) (field:ByteArray) (n:Int) (args:List Policy):DR AA 70 [.agg (Policy.c ⟨kind,pred,field,n,args⟩)] (.bool (Qz ⟨kind,pred,field,n,args⟩)):=by
 refine pC Yy rfl ?_
 simp only [f70,go_sem,By,GL,FU h1,FU h2,FU h3,FU h4,FU h5]
 repeat' (first
  | (refine pK (DR.lend (JP pred Pred.z)) ?_;simp only [go_sem,By,GL,FU h1,FU h2,FU h3,FU h4,FU h5])
  | ((first|apply cS|apply gS)<;>(intro hc;simp only [go_sem,hc,By,GL,FU h1,FU h2,FU h3,FU h4,FU h5])))
 all_goals (rw [G7];simp [U7, *])
theorem Uz : ∀ x:Policy,DT x.c<=1073741824->DR AA 70 [.agg x.c] (.bool (Qz x)):=by
 refine GR _ λx ih=>λhb=>?_
 have hl:x.args.length<=9223372036854775807:=Nat.le_trans (Pn (Gt hb)) dc
 have hfs:=NC hb
 have hp:=LB hb
 have hev : ∀ y∈x.args,DR AA 70 [.agg y.c] (.bool (Qz y)):=λy hm =>
  ih y hm (by have:=Po (Gt hb) hm;simpa only [AV.bulk] using this)
 obtain ⟨kind,pred,field,n,args⟩:=x
 by_cases h1:kind=1
 ·subst h1;exact ASx pred field n args hl hfs hp hev
 by_cases h2:kind=2
 ·subst h2;exact ASw pred field n args hl hfs hp hev
 by_cases h3:kind=3
 ·subst h3;exact ASv pred field n args hl hfs hp hev
 by_cases h4:kind=4
 ·subst h4;exact ASu pred field n args hl hfs hp hev
 by_cases h5:kind=5
 ·subst h5;exact ASt pred field n args hl hfs hp hev
 exact ASy kind h1 h2 h3 h4 h5 pred field n args
theorem AGC{H:DM}(x:Policy)(hb:DT x.c<=1073741824)(o:Nat)(ho:H[o]? =some (some x.c)):E5 AA 69 [.ptr o 0] H (.bool (Qz x)):=by
 refine Dx.drop rfl ?_
 refine aC AUM rfl ?_
 simp only [f69,go_sem,ho]
 repeat' (first
  | (refine pK (Uz _ hb) ?_;simp only [go_sem,ho])
  | ((first|apply cS|apply gS)<;>(intro hc;simp only [go_sem,hc,ho])))
theorem XC(x:Policy)(hb:DT x.c<=1073741824):DR AA 36 [.agg x.c] (.int .i64 (UW x)):=by
 refine pC AVa rfl ?_
 simp only [f36,go_sem]
 repeat' (first
  | ((first|refine pK (Zk _) ?_|refine aS (ACs (lI x) 69 [.ptr 0 0] (Qz x) (AGC x hb 0 rfl)) ?_);simp only [go_sem])
  | ((first|apply cS|apply gS)<;>(intro hc;simp only [go_sem,hc])))
 all_goals rfl
@[go_sem] theorem ARv(o:Option Nat)(x:Pred):AV.sl o [AV.agg (x.cf none)]=AV.sl o (Ez [x]):=by rw [GG];rfl
@[go_sem] theorem ARu(o:Option Nat)(x y:Pred):AV.sl o [AV.agg (x.cf none),AV.agg (y.cf none)]=AV.sl o (Ez [x,y]):=by rw [GG];rfl
@[go_sem] theorem AEy(o:Option Nat)(x:Policy):AV.sl o [AV.agg (x.cf none none)]=AV.sl o (Em [x]):=by rw [FO];rfl
@[go_sem] theorem AEx(o:Option Nat)(x y:Policy):AV.sl o [AV.agg (x.cf none none),AV.agg (y.cf none none)]=AV.sl o (Em [x,y]):=by rw [FO];rfl
@[go_sem] theorem AGT(o:Option Nat)(x:Stage):AV.sl o [AV.agg (x.cf none none none)]=AV.sl o (Es [x]):=rfl
def ZI(n:Int):Pred:=⟨3,Eu,n,0,[]⟩
def Ib:Pred:=⟨2,⟨#[]⟩,0,0,[]⟩
def rx(x y:Pred):Pred:=⟨8,⟨#[]⟩,0,0,[x,y]⟩
def bB(x:Pred):Pred:=⟨6,⟨#[]⟩,0,0,[x]⟩
def Gk(x:Pred):Policy:=⟨1,x,⟨#[]⟩,0,[]⟩
def Xh(s:ByteArray)(n:Int):Policy:=⟨2,Pred.z,s,n,[]⟩
def Jm(x y:Policy):Policy:=⟨3,Pred.z,⟨#[]⟩,0,[x,y]⟩
def Tu(x y:Policy):Policy:=⟨4,Pred.z,⟨#[]⟩,0,[x,y]⟩
def RC(x:Policy):Policy:=⟨5,Pred.z,⟨#[]⟩,0,[x]⟩
def KO{α:Type}(z:α)(two:α->α->α):List α->α
 | []=>z
 | x::l=>l.foldl two x
def Ou(l:List Pred):Pred:=KO Ib rx l
def OC(t:Tenant):Pred:=Ou (t.wires.map λw=>ZI w.src)
def OD(w:Wire):Policy:=Tu (Gk (ZI w.src)) (Xh Eu w.dst)
def Lf(t:Tenant):Policy:=KO (Gk Ib) Jm (t.wires.map OD)
def Fu(t:Tenant)(p:Policy):Policy :=
 if t.wires=[] then p else Tu (Tu p (RC (Tu (Lf t) p))) (Gk (bB (OC t)))
theorem AS2(n:Int):DR AA 117 [.int .i64 n] (.agg (ZI n).c):=by
 refine pB AO4 rfl ?_
 simp only [f117,go_sem]
 rfl
theorem ASf(n:Int):DR AA 317 [.int .i64 n] (.agg (ZI n).c):=by
 refine pB AHh rfl ?_
 simp only [f317,go_sem]
 rfl
theorem U0(x:Pred):DR AA 65 [.agg x.c] (.agg (Gk x).c):=by
 refine pB AUY rfl ?_
 simp only [f65,go_sem]
 rfl
theorem Us(x:Pred):DR AA 279 [.agg x.c] (.agg (Gk x).c):=by
 refine pB AIb rfl ?_
 simp only [f279,go_sem]
 rfl
theorem q7(x y:Policy):DR AA 63 [.agg x.c,.agg y.c] (.agg (Tu x y).c):=by
 refine pB AUf rfl ?_
 simp only [f63,go_sem]
 rfl
theorem AEq(x y:Policy):DR AA 277 [.agg x.c,.agg y.c] (.agg (Tu x y).c):=by
 refine pB AIj rfl ?_
 simp only [f277,go_sem]
 rfl
theorem ACk(x y:Policy):DR AA 319 [.agg x.c,.agg y.c] (.agg (Jm x y).c):=by
 refine pB AHb rfl ?_
 simp only [f319,go_sem]
 rfl
theorem AF4(x:Policy):DR AA 276 [.agg x.c] (.agg (RC x).c):=by
 refine pB AIm rfl ?_
 simp only [f276,go_sem]
 rfl
theorem ASg(s:ByteArray)(n:Int):DR AA 318 [.str s,.int .i64 n] (.agg (Xh s n).c):=by
 refine pB AHe rfl ?_
 simp only [f318,go_sem]
 rfl
theorem s7(x y:Pred):DR AA 193 [.agg x.c,.agg y.c] (.agg (rx x y).c):=by
 refine pB ALf rfl ?_
 simp only [f193,go_sem]
 rfl
theorem yE(x y:Policy):DR AA 119 [.agg x.c,.agg y.c] (.agg (Jm x y).c):=by
 refine pB AOw rfl ?_
 simp only [f119,go_sem]
 rfl
theorem lg(l:List Pred)(hl:l.length<=1073741824)(z:Pred):DR AA 192 [.sl none (Ez l),.agg z.c,.fn (.func 193) [] []] (.agg (KO z rx l).c):=by
 refine pB ALk rfl ?_
 simp only [f192,go_sem]
 cases l with
 | nil =>
  have g0:(((0:Nat):Int)==0)=true:=rfl
  simp only [go_sem,g0]
  rfl
 | cons x r =>
  have g0:(((r.length+1:Nat):Int)==0)=false:=by simp;omega
  have g1:(1:Int)<=((r.length+1:Nat):Int):=DF
  have g2:(0:Int)<((r.length+1:Nat):Int):=DF
  have hx:(x::r)[0]? =some x:=rfl
  have hd:List.drop 1 (x::r)=r:=rfl
  simp only [go_sem,g0,g1,g2,Ea hx,EC,hd,Ae,BO]
  repeat' (first
   | ((first|apply cS|apply gS)<;>(intro hc;simp only [go_sem,hc,g0,g1,g2,Ea hx,hd])))
  refine Ed r (λo l=>l.foldl rx o) (λ_ _=>True) (λk o=>[(2,.fn (.func 193) [] []),(6,.ptr 1 0),(7,.ptr 2 0),(18,.sl none (Ez r)),(19,.int .i64 r.length),(20,.int .i64 k)]) (λk o=>[some z.c,some (Pred.z.cf (some 5)),some o.c]) x (by simp at hl;omega) trivial rfl rfl ?_ ?_
  ·intro k o y ys hd hx _ hF h0 h1 hw
   simp only [go_sem,h0,h1,Ea hx]
   repeat' (first
    | (refine aP (s7 _ _) ?_;simp only [go_sem,h0,h1,hw,Ea hx])
    | ((first|apply cS|apply gS)<;>(intro hc;simp only [go_sem,hc,h0,h1,hw,Ea hx])))
   exact ⟨_,by rw [CF],rfl,rfl⟩
  ·intro o _ hF
   simp only [go_sem,AX,decide_false]
   rw [KO,hF];rfl
theorem Zl(l:List Policy)(hl:l.length<=1073741824)(z:Policy):DR AA 118 [.sl none (Em l),.agg z.c,.fn (.func 119) [] []] (.agg (KO z Jm l).c):=by
 refine pB AO1 rfl ?_
 simp only [f118,go_sem]
 cases l with
 | nil =>
  have g0:(((0:Nat):Int)==0)=true:=rfl
  simp only [go_sem,g0]
  rfl
 | cons x r =>
  have g0:(((r.length+1:Nat):Int)==0)=false:=by simp;omega
  have g1:(1:Int)<=((r.length+1:Nat):Int):=DF
  have g2:(0:Int)<((r.length+1:Nat):Int):=DF
  have hx:(x::r)[0]? =some x:=rfl
  have hd:List.drop 1 (x::r)=r:=rfl
  simp only [go_sem,g0,g1,g2,EQ hx,EC,hd,Ae,BO]
  repeat' (first
   | ((first|apply cS|apply gS)<;>(intro hc;simp only [go_sem,hc,g0,g1,g2,EQ hx,hd])))
  refine Ed r (λo l=>l.foldl Jm o) (λ_ _=>True) (λk o=>[(2,.fn (.func 119) [] []),(6,.ptr 1 0),(7,.ptr 2 0),(18,.sl none (Em r)),(19,.int .i64 r.length),(20,.int .i64 k)]) (λk o=>[some z.c,some (Policy.z.cf (some 5) (some 9)),some o.c]) x (by simp at hl;omega) trivial rfl rfl ?_ ?_
  ·intro k o y ys hd hx _ hF h0 h1 hw
   simp only [go_sem,h0,h1,EQ hx]
   repeat' (first
    | (refine aP (yE _ _) ?_;simp only [go_sem,h0,h1,hw,EQ hx])
    | ((first|apply cS|apply gS)<;>(intro hc;simp only [go_sem,hc,h0,h1,hw,EQ hx])))
   exact ⟨_,by rw [CF],rfl,rfl⟩
  ·intro o _ hF
   simp only [go_sem,AX,decide_false]
   rw [KO,hF];rfl
theorem xe(l:List Pred)(hl:l.length<=1073741824):DR AA 320 [.sl none (Ez l)] (.agg (Ou l).c):=by
 refine pB AHY rfl ?_
 simp only [f320,go_sem]
 cases l with
 | nil =>
  have g0:(((0:Nat):Int)==0)=true:=rfl
  simp only [go_sem,g0]
  rfl
 | cons x r =>
  have g0:(((r.length+1:Nat):Int)==0)=false:=by simp;omega
  have g2:(0:Int)<((r.length+1:Nat):Int):=DF
  have hx:(x::r)[0]? =some x:=rfl
  simp only [go_sem,g0,g2,Ea hx]
  repeat' (first
   | ((first|apply cS|apply gS)<;>(intro hc;simp only [go_sem,hc,g0,g2,Ea hx])))
  refine Ed r (λ(o:Pred×Option Nat) l=>l.foldl rx o.1) (λ_ _=>True) (λk o=>[(0,.sl none (Ez (x::r))),(2,.ptr 0 0),(3,.ptr 1 0),(4,.int .i64 ((k+1:Nat):Int))]) (λk o=>[some (Pred.z.cf (some 5)),some (o.1.cf o.2)]) (x,none) (by simp at hl;omega) trivial rfl rfl ?_ ?_
  ·intro k o y ys hd hy _ hF h0 h1 hw
   have hy2:(x::r)[k+1]? =some y:=by simpa using hy
   have h2:(((k+1:Nat):Int)<((r.length+1:Nat):Int)):=DF
   have h3:(0:Int)<=((k+1:Nat):Int):=DF
   have hw2:=Ln (k:=k+1) (by simp at hl;omega)
   simp only [go_sem,h2,h3,decide_true,Ea hy2,Ae,hw2]
   exact ⟨(rx o.1 y,some 5),by rw [CF],rfl,rfl⟩
  ·intro o _ hF
   simp only [go_sem,AX,decide_false]
   rw [Ou,KO,hF];rfl
theorem yA(l:List Int)(hl:l.length<=1073741824):DR AA 120 [.sl none (E4 l)] (.agg (Ou (l.map ZI)).c):=by
 refine pB AOt rfl ?_
 simp only [f120,go_sem]
 refine Ed l (λo r=>o++r.map ZI) (λk o=>o.length=k) (λk o=>[(2,.ptr 0 0),(3,.sl (some 5) (Ez o)),(6,.sl none (E4 l)),(7,.int .i64 l.length),(8,.int .i64 k)]) (λk o=>[some (Pred.z.cf (some 5))]) [] DF rfl rfl rfl ?_ ?_
 ·intro k o y ys hd hy hI hF h0 h1 hw
  have hk2:=Eb hd
  simp only [go_sem,h0,h1,E1 hy]
  repeat' (first
   | (refine pK (AS2 _) ?_;simp only [go_sem,h0,h1,hw,E1 hy])
   | ((first|apply cS|apply gS)<;>(intro hc;simp only [go_sem,hc,h0,h1,hw,E1 hy])))
  exact ⟨DF,DF,o++[ZI y],sm,by simp [hI],rfl,rfl⟩
 ·intro o hI hF
  have hF:o=l.map ZI:=by simpa using hF.symm
  simp only [go_sem,AX,decide_false]
  repeat' (first
   | (refine pK (DR.lend (lg o DF Ib)) ?_;simp only [go_sem])
   | ((first|apply cS|apply gS)<;>(intro hc;simp only [go_sem,hc])))
  rw [hF];rfl
theorem ACi(t:Tenant)(hl:t.wires.length<=1073741824):DR AA 280 [.agg t.c] (.agg (OC t).c):=by
 refine pB AIX rfl ?_
 simp only [f280,go_sem]
 refine Ed t.wires (λo r=>o++r.map λw=>ZI w.src) (λk o=>o.length=k) (λk o=>[(1,.ptr 0 0),(2,.ptr 1 0),(3,.sl (some 5) (Ez o)),(4,.int .i64 k)]) (λk o=>[some t.c,some (Pred.z.cf (some 5))]) [] DF rfl rfl rfl ?_ ?_
 ·intro k o y ys hd hy hI hF h0 h1 hw
  have hk2:=Eb hd
  simp only [go_sem,h0,h1,hw,FZ hy]
  repeat' (first
   | (refine pK (ASf _) ?_;simp only [go_sem,h0,h1,hw,FZ hy])
   | ((first|apply cS|apply gS)<;>(intro hc;simp only [go_sem,hc,h0,h1,hw,FZ hy])))
  exact ⟨DF,DF,o++[ZI y.src],sm,by simp [hI],rfl,rfl⟩
 ·intro o hI hF
  have hF:o=t.wires.map λw=>ZI w.src:=by simpa using hF.symm
  simp only [go_sem,AX,decide_false]
  repeat' (first
   | (refine pK (DR.lend (xe o DF)) ?_;simp only [go_sem])
   | ((first|apply cS|apply gS)<;>(intro hc;simp only [go_sem,hc])))
  rw [hF];rfl
theorem ACv(t:Tenant)(hl:t.wires.length<=1073741824):DR AA 66 [.agg t.c] (.agg (OC t).c):=by
 refine pB AUV rfl ?_
 simp only [f66,go_sem]
 refine Ed t.wires (λo r=>o++r.map (·.src)) (λk o=>o.length=k) (λk o=>[(2,.ptr 1 0),(3,.sl (some 1) (E4 o)),(7,.sl none (LL t.wires)),(8,.int .i64 t.wires.length),(9,.int .i64 k)]) (λk o=>[some t.c,some (Pred.z.cf (some 5))]) [] DF rfl rfl rfl ?_ ?_
 ·intro k o y ys hd hy hI hF h0 h1 hw
  have hk2:=Eb hd
  simp only [go_sem,h0,h1,hw,FZ hy]
  repeat' (first
   | ((first|apply cS|apply gS)<;>(intro hc;simp only [go_sem,hc,h0,h1,hw,FZ hy])))
  exact ⟨DF,DF,o++[y.src],sm,by simp [hI],rfl,rfl⟩
 ·intro o hI hF
  have hF:o=t.wires.map (·.src):=by simpa using hF.symm
  simp only [go_sem,AX,decide_false]
  repeat' (first
   | (refine pK (DR.lend (yA o DF)) ?_;simp only [go_sem])
   | ((first|apply cS|apply gS)<;>(intro hc;simp only [go_sem,hc])))
  rw [hF,List.map_map];rfl
theorem mf{α:Type}{z:α}{two:α->α->α}(x:α): ∀ {l:List α},l≠[]->KO z two (l++[x])=two (KO z two l) x
 | [],h=>absurd rfl h
 | y::l,_=>by simp [KO]
theorem ACh(t:Tenant)(hl:t.wires.length<=1073741824):DR AA 278 [.agg t.c] (.agg (Lf t).c):=by
 refine pB AIg rfl ?_
 simp only [f278,go_sem]
 repeat' (first
  | (refine pK (DR.lend (Us Ib)) ?_;simp only [go_sem])
  | ((first|apply cS|apply gS)<;>(intro hc;simp only [go_sem,hc])))
 refine Ed t.wires (λ(_:Policy) (_:List Wire)=>()) (λk o=>o=KO (Gk Ib) Jm ((t.wires.take k).map OD)) (λk o=>[(1,.ptr 0 0),(2,.ptr 1 0),(3,.ptr 2 0),(4,.int .i64 k)]) (λk o=>[some t.c,some (Policy.z.cf (some 5) (some 9)),some o.c]) (Gk Ib) DF rfl rfl rfl ?_ ?_
 ·intro k o y ys hd hy hI hF h0 h1 hw
  have hk2:=Eb hd
  have ht:t.wires.take (k+1)=t.wires.take k++[y]:=by rw [List.take_add_one,hy];rfl
  simp only [go_sem,h0,h1,hw,FZ hy]
  repeat' (first
   | ((first|refine pK (ASf _) ?_|refine pK (Us _) ?_|refine pK (ASg _ _) ?_|refine pK (AEq _ _) ?_);simp only [go_sem,h0,h1,hw,FZ hy])
   | ((first|apply cS|apply gS)<;>(intro hc;simp only [go_sem,hc,h0,h1,hw,FZ hy])))
  ·have hk:k=0:=by simp at hc;omega
   subst hk
   refine ⟨OD y, ?_,rfl,rfl⟩
   rw [ht];rfl
  ·have hk:k≠0:=by simp at hc;omega
   refine Wf.intro (ACk _ _) ?_
   simp only [go_sem,hw]
   refine ⟨Jm o (OD y), ?_,rfl,rfl⟩
   rw [ht,List.map_append,hI]
   exact (mf _ (by simp;constructor;omega;intro h;rw [h] at hk2;simp at hk2)).symm
 ·intro o hI hF
  simp only [go_sem,AX,decide_false]
  rw [Lf,hI,BO]
theorem ACu(t:Tenant)(hl:t.wires.length<=1073741824):DR AA 64 [.agg t.c] (.agg (Lf t).c):=by
 refine pB AUc rfl ?_
 simp only [f64,go_sem]
 refine Ed t.wires (λo r=>o++r.map OD) (λk o=>o.length=k) (λk o=>[(2,.ptr 1 0),(3,.sl (some 9) (Em o)),(7,.sl none (LL t.wires)),(8,.int .i64 t.wires.length),(9,.int .i64 k)]) (λk o=>[some t.c,some (Policy.z.cf (some 5) (some 9))]) [] DF rfl rfl rfl ?_ ?_
 ·intro k o y ys hd hy hI hF h0 h1 hw
  have hk2:=Eb hd
  simp only [go_sem,h0,h1,hw,FZ hy]
  repeat' (first
   | ((first|refine pK (AS2 _) ?_|refine pK (U0 _) ?_|refine pK (DR.lend (q7 (Gk (ZI y.src)) (Xh Eu y.dst))) ?_);simp only [go_sem,h0,h1,hw,FZ hy])
   | ((first|apply cS|apply gS)<;>(intro hc;simp only [go_sem,hc,h0,h1,hw,FZ hy])))
  exact ⟨DF,DF,o++[OD y],sm,by simp [hI],rfl,rfl⟩
 ·intro o hI hF
  have hF:o=t.wires.map OD:=by simpa using hF.symm
  simp only [go_sem,AX,decide_false]
  repeat' (first
   | ((first|refine pK (DR.lend (U0 Ib)) ?_|refine pK (DR.lend (Zl o DF (Gk Ib))) ?_);simp only [go_sem])
   | ((first|apply cS|apply gS)<;>(intro hc;simp only [go_sem,hc])))
  rw [hF];rfl
theorem Qa{α:Type}{l:List α}:((l.length:Int)==0)=true↔l=[]:=by
 cases l<;>simp;omega
theorem xg(t:Tenant)(hl:t.wires.length<=1073741824)(p:Policy):DR AA 223 [.agg t.c,.agg p.c] (.agg (Fu t p).c):=by
 refine pB AJ9 rfl ?_
 simp only [f223,go_sem]
 repeat' (first
  | ((first|refine pK (ACh t hl) ?_|refine pK (ACi t hl) ?_|refine pK (AEq _ _) ?_|refine pK (AF4 _) ?_|refine pK (DR.lend (Us (bB (OC t)))) ?_);simp only [go_sem])
  | ((first|apply cS|apply gS)<;>(intro hc;simp only [go_sem,hc])))
 ·rw [Fu,if_pos (Qa.1 hc)]
 ·rw [Fu,if_neg (λh=>by rw [Qa.2 h] at hc;cases hc)]
theorem yL(t:Tenant)(hl:t.wires.length<=1073741824)(p:Policy):DR AA 35 [.agg t.c,.agg p.c] (.agg (Fu t p).c):=by
 refine pB AVd rfl ?_
 simp only [f35,go_sem]
 repeat' (first
  | ((first|refine pK (ACu t hl) ?_|refine pK (ACv t hl) ?_|refine pK (DR.lend (q7 (Tu p (RC (Tu (Lf t) p))) (Gk (bB (OC t))))) ?_|refine pK (DR.lend (q7 p (RC (Tu (Lf t) p)))) ?_|refine pK (q7 (Lf t) p) ?_|refine pK (DR.lend (U0 (bB (OC t)))) ?_);simp only [go_sem])
  | ((first|apply cS|apply gS)<;>(intro hc;simp only [go_sem,hc])))
 ·rw [Fu,if_pos (Qa.1 hc)]
 ·rw [Fu,if_neg (λh=>by rw [Qa.2 h] at hc;cases hc)]
def F9(t:Tenant):List Stage->List Stage->List Stage×Int
 | o,[]=>(o,0)
 | o,x::r=>if UW (Fu t x.policy)=2 then ([],2) else F9 t (o++[{ x with policy:=Fu t x.policy }]) r
def FC(t:Tenant):List Stage×Int:=F9 t [] t.program
theorem ACw(t:Tenant)(hl:t.wires.length<=1073741824)(hp:t.program.length<=1073741824)(hb : ∀ x∈t.program,DT (Fu t x.policy).c<=1073741824):
  DR AA 10 [.agg t.c] (.tup [.sl none (Es (FC t).1),.int .i64 (FC t).2]):=by
 refine pB AWM rfl ?_
 simp only [f10,go_sem]
 refine Ed t.program (λo r=>F9 t o r) (λk o=>o.length=k) (λk o=>[(1,.ptr 0 0),(4,.sl (some 15) (Es o)),(8,.sl none (Es t.program)),(9,.int .i64 t.program.length),(10,.int .i64 k)]) (λk o=>[some t.c]) [] DF rfl rfl rfl ?_ ?_
 ·intro k o y ys hd hy hI hF h0 h1 hw
  have hk2:=Eb hd
  simp only [go_sem,h0,h1,hw,EU hy]
  repeat' (first
   | ((first|refine pK (yL t hl _) ?_|refine pK (XC _ (hb y (AB hy))) ?_);simp only [go_sem,h0,h1,hw,EU hy])
   | ((first|apply cS|apply gS)<;>(intro hc;simp only [go_sem,hc,h0,h1,hw,EU hy])))
  ·have h2:F9 t [] t.program=([],2):=by rw [hF,F9,if_pos (by simpa using hc)]
   rw [FC,h2];rfl
  ·refine ⟨DF,DF,o++[{ y with policy:=Fu t y.policy }], ?_,by simp [hI],rfl,rfl⟩
   rw [F9,if_neg (by simpa using hc)]
 ·intro o hI hF
  simp only [go_sem,AX,decide_false]
  rw [FC,hF];rfl
theorem AY9(x y:Pred):DT (Ez [x,y])=DT x.c+DT y.c:=by rw [GG];simp [DT,AV.bulk]
theorem AZA(x:Pred):DT (Ez [x])=DT x.c:=by rw [GG];simp [DT,AV.bulk]
theorem AA3:DT (Ez [])=0:=by rw [GG];rfl
theorem AFL(x y:Policy):DT (Em [x,y])=DT x.c+DT y.c:=by rw [FO];simp [DT,AV.bulk]
theorem AZC(x:Policy):DT (Em [x])=DT x.c:=by rw [FO];simp [DT,AV.bulk]
theorem AFM:DT (Em [])=0:=by rw [FO];rfl
theorem AFN(n:Int):DT (ZI n).c=9:=by rw [Jl];simp only [ZI,AA3];rfl
theorem iv:DT Ib.c=5:=by rw [Jl];simp only [Ib,AA3];rfl
theorem AZB(x y:Pred):DT (rx x y).c=5+DT x.c+DT y.c:=by rw [Jl];simp only [rx,AY9];show 0+5+_=_;omega
theorem ARC(x:Pred):DT (bB x).c=5+DT x.c:=by rw [Jl];simp only [bB,AZA];show 0+5+_=_;omega
theorem rv:DT Pred.z.c=5:=by rw [Jl];show _+5+DT (Ez [])=5;rw [AA3];rfl
theorem SZ(x:Pred):DT (Gk x).c=DT x.c+4:=by rw [He];simp only [Gk,AFM];show _+0+4+0=_;omega
theorem ARB(n:Int):DT (Xh Eu n).c=13:=by rw [He];simp only [Xh,AFM,rv];rfl
theorem AA2(x y:Policy):DT (Jm x y).c=9+DT x.c+DT y.c:=by rw [He];simp only [Jm,AFL,rv];show 5+0+4+_=_;omega
theorem bA(x y:Policy):DT (Tu x y).c=9+DT x.c+DT y.c:=by rw [He];simp only [Tu,AFL,rv];show 5+0+4+_=_;omega
theorem AD9(x:Policy):DT (RC x).c=9+DT x.c:=by rw [He];simp only [RC,AZC,rv];show 5+0+4+_=_;omega
theorem AA4 : ∀ (l:List Pred) (x:Pred) (B:Nat),(∀ y∈l,DT y.c<=B)->DT (l.foldl rx x).c<=DT x.c+l.length*(B+5)
 | [],x,B,_=>sm
 | y::l,x,B,h=>by
  rw [CF]
  have h1:=AA4 l (rx x y) B λz hz=>h z (by simp [hz])
  have h2:=h y sm
  rw [AZB] at h1
  rw [AC,Nat.succ_mul]
  omega
theorem ZF : ∀ (l:List Policy) (x:Policy) (B:Nat),(∀ y∈l,DT y.c<=B)->DT (l.foldl Jm x).c<=DT x.c+l.length*(B+9)
 | [],x,B,_=>sm
 | y::l,x,B,h=>by
  rw [CF]
  have h1:=ZF l (Jm x y) B λz hz=>h z (by simp [hz])
  have h2:=h y sm
  rw [AA2] at h1
  rw [AC,Nat.succ_mul]
  omega
theorem vV(l:List Pred)(h : ∀ y∈l,DT y.c<=9):DT (Ou l).c<=9+l.length*14:=by
 unfold Ou
 cases l with
 | nil=>rw [KO,iv];omega
 | cons x l =>
  have h1:=AA4 l x 9 λy hy=>h y (by simp [hy])
  have h2:=h x sm
  rw [KO,AC]
  omega
theorem AA1(t:Tenant):DT (OC t).c<=9+t.wires.length*14:=by
 have:=vV (t.wires.map λw=>ZI w.src) (λy hy=>by obtain ⟨w,_,rfl⟩:=List.mem_map.1 hy;rw [AFN];omega)
 rwa [Aq] at this
theorem AA0(t:Tenant):DT (Lf t).c<=35+t.wires.length*44:=by
 unfold Lf
 have hw : ∀ y∈t.wires.map OD,DT y.c<=35:=λy hy=>by
  obtain ⟨w,_,rfl⟩:=List.mem_map.1 hy
  rw [OD,bA,SZ,AFN,ARB];omega
 have hl:(t.wires.map OD).length=t.wires.length:=Aq _
 rw [<- hl]
 generalize t.wires.map OD=l at hw
 cases l with
 | nil=>rw [KO,SZ,iv];omega
 | cons x l =>
  have h1:=ZF l x 35 λy hy=>hw y (by simp [hy])
  have h2:=hw x sm
  rw [KO,AC]
  omega
theorem ZG{t:Tenant}{p:Policy}(hp:DT p.c<=1048576)(hw:t.wires.length<=1048576):DT (Fu t p).c<=1073741824:=by
 unfold Fu
 split
 ·omega
 ·have h1:=AA1 t
  have h2:=AA0 t
  rw [bA,bA,AD9,bA,SZ,ARC]
  omega
theorem AAO : ∀ x:Pred,rY x x=true:=by
 refine IK _ λx ih=>?_
 rw [Ha]
 have : ∀ l:List Pred,(∀ y∈l,rY y y=true)->Tp l l=true:=by
  intro l
  induction l with
  | nil=>intro _;rw [K0]
  | cons y l ihl=>intro h;rw [Hn,h y sm,ihl λz hz=>h z (by simp [hz])];rfl
 rw [this x.args ih];simp
theorem ACj(t:Tenant)(hl:t.wires.length<=1073741824)(hp:t.program.length<=1073741824)(hb : ∀ x∈t.program,DT (Fu t x.policy).c<=1073741824):
  DR AA 163 [.agg t.c] (.tup [.sl none (Es (FC t).1),.int .i64 (FC t).2]):=by
 refine pB AMl rfl ?_
 simp only [f163,go_sem]
 refine Ed t.program (λo r=>F9 t o r) (λk o=>o.length=k) (λk o=>[(1,.ptr 0 0),(4,.sl (some 15) (Es o)),(5,.int .i64 k)]) (λk o=>[some t.c]) [] DF rfl rfl rfl ?_ ?_
 ·intro k o y ys hd hy hI hF h0 h1 hw
  have hk2:=Eb hd
  simp only [go_sem,h0,h1,hw,EU hy]
  repeat' (first
   | ((first|refine pK (xg t hl _) ?_|refine pK (AAn _ (hb y (AB hy))) ?_);simp only [go_sem,h0,h1,hw,EU hy])
   | ((first|apply cS|apply gS)<;>(intro hc;simp only [go_sem,hc,h0,h1,hw,EU hy])))
  ·have h2:F9 t [] t.program=([],2):=by rw [hF,F9,if_pos (by simpa using hc)]
   rw [FC,h2];rfl
  ·refine ⟨DF,DF,o++[{ y with policy:=Fu t y.policy }], ?_,by simp [hI],rfl,rfl⟩
   rw [F9,if_neg (by simpa using hc)]
 ·intro o hI hF
  simp only [go_sem,AX,decide_false]
  rw [FC,hF];rfl
section
variable {P:Program} {K:Kt} {e:Ee} {H:DM} {d:Tmp} {t kt et:TypeId} {o:Nat} {α:Type}
theorem yo (f:α->AV) (l:List α) (k:AV) (hu:P.underlying t=some (.map kt et)) (hz:EW P et=some (.bool false)) (hm:H[o]? =some (some (It (KV f l)))) (hk:LY P kt (k::l.map f)) (hd:Q4 f l)
  (h:K ((d,.bool (l.any λx=>GU (f x) k))::e) H):AGN P t false (.mapr o) k d K e H:=by
 unfold AGN
 rw [hu]
 dsimp only
 rw [ey hm]
 dsimp only
 refine ⟨by rw [dH];exact hk,V2 f hd,_,hz, ?_⟩
 rw [AGO];exact h
end
@[go_sem] theorem AY7(o n:Nat):(AV.mapr o).bnd n=decide (o<n):=rfl
end Go.AI
namespace Go.AI
open Go.Proofs
set_option maxRecDepth 50000
theorem ll {H:DM} (l:List Fld) (hl:l.length<=9223372036854775807) (g:FuncId) (fi ca:List AV) (p:Fld->Bool)
  (h : ∀ x∈l,E5 AA g (fi.map AV.borrow++(.agg x.c::ca.map AV.borrow)) H (.bool (p x))) :
  E5 AA 182 [.sl none (E8 l),.fn (.func g) fi ca] H (.int .i64 (Gq p l)):=by
 unfold E5
 refine aC ALn rfl ?_
 simp only [f182,go_sem]
 refine EP l (λr=>Fw p (l.length - r.length) r) (λk=>[(0,.sl none (E8 l)),(1,.fn (.func g) fi ca),(7,.int .i64 l.length),(8,.int .i64 k)]) hl rfl ?_ ?_
 ·intro k x xs hd hx hF h0 h1 hw
  have hk2:=Eb hd
  have e1:l.length - (xs.length+1)=k:=DF
  have e2:l.length - xs.length=k+1:=DF
  simp only [AC,e1,AQ] at hF
  simp only [go_sem,h0,h1,FP hx,e1,e2]
  repeat' (first
   | (refine aS (h x (AB hx)) ?_;simp only [go_sem,h0,h1,hw,FP hx,e1,e2])
   | ((first|apply cS|apply gS)<;>(intro hc;simp only [go_sem,hc,h0,h1,hw,FP hx,e1,e2])))
  ·rw [Gq,hF,Fw,if_pos hc]
  ·rw [Fw,if_neg (by rw [hc];decide)]
 ·intro hF hlt
  simp only [go_sem,hlt,decide_false]
  rw [AQ] at hF
  rw [Gq,hF];rfl
@[go_sem] theorem AR5(o:Nat):(AV.it o).borrow = .it o:=rfl
@[go_sem] theorem ASh(H:DM)(x y:Option (List AV)):(H++[x]).set H.length y=H++[y]:=sm
def Iv(Pre:Nat->DM->Prop)(n:Nat)(g:DM)(k:Nat)(H:DM):Prop:=∃ pre g',H=pre++(g++g')/\pre.length=n/\Pre k pre
theorem Iv.grow{Pre:Nat->DM->Prop}{n k:Nat}{g H:DM}(h:Iv Pre n g k H)(x:DM):Iv Pre n g k (H++x):=by
 obtain ⟨pre,g',rfl,h1,h2⟩:=h
 exact ⟨pre,g'++x,sm,h1,h2⟩
theorem Iv.at{Pre:Nat->DM->Prop}{n k i:Nat}{g H:DM}(h:Iv Pre n g k H){c:Option (List AV)}(hi:g[i]? =some c):H[n+i]? =some c:=by
 obtain ⟨pre,g',rfl,h1,h2⟩:=h
 have hlt:=(AD.1 hi).1
 rw [AM DF,h1,Nat.add_sub_cancel_left,AW hlt,hi]
theorem xw:DR AA 105 [] (.agg IO.c):=by
 have h:DR AA 105 [] (.agg IO.c):=DR.run AAM 100 rfl kr kr
 exact h
theorem AC1{H:DM}(f:Fld)(s:ByteArray)(o:Nat)(ho:H[o]? =some (some [.str s])):E5 AA 201 [.agg f.c,.ptr o 0] H (.bool (decide (f.name=s))):=by
 refine Dx.drop rfl ?_
 refine aC ALD rfl ?_
 have ho' : ∀ z,(H++z)[o]? =some (some [.str s]):=λz=>by
  have:=(AD.1 ho).1
  rw [AW this];exact ho
 simp only [f201,go_sem,ho',By]
theorem fm{α:Type}(p:α->Bool): ∀ (l:List α) (i:Nat),match l.find? p with
  | some x => ∃ k,Fw p i l=(i+k:Nat)/\l[k]? =some x
  | none=>Fw p i l = -1
 | [],i=>rfl
 | y::l,i=>by
  rw [List.find?_cons,Fw]
  cases h:p y with
  | true=>exact ⟨0,sm,rfl⟩
  | false =>
   have:=fm p l (i+1)
   cases hf:l.find? p with
   | none=>rw [hf] at this;simpa using this
   | some x =>
    rw [hf] at this
    obtain ⟨k,h1,h2⟩:=this
    exact ⟨k+1,by simp only [Bool.false_eq_true,if_false];rw [h1];congr 1;omega,by simpa using h2⟩
theorem Pf(l:List Fld)(hl:l.length<=9223372036854775807)(s:ByteArray):DR AA 131 [.sl none (E8 l),.str s] (.tup [.agg (EO l s).1.c,.bool (EO l s).2]):=by
 have hi:=fm (λf:Fld=>decide (f.name=s)) l 0
 have hport:(IO.name:ByteArray)=Eu:=rfl
 have hidx:=ll (H:=[some [.str s],some Fld.z.c]) l hl 201 [] [.ptr 0 0] (λf=>decide (f.name=s)) (λx _=>AC1 x s 0 rfl)
 refine pB AON rfl ?_
 cases hf:l.find? (λf:Fld=>decide (f.name=s)) with
 | none =>
  rw [hf] at hi
  have hi:Gq (λf:Fld=>decide (f.name=s)) l = -1:=hi
  rw [hi] at hidx
  simp only [f131,go_sem,By]
  repeat' (first
   | ((first|refine pK (xw) ?_|refine aS (hidx) ?_);simp only [go_sem,By])
   | ((first|apply cS|apply gS)<;>(intro hc;simp only [go_sem,hc,By])))
  ·have h5:s=Eu:=by rw [<- hport];exact of_decide_eq_true hc
   rw [EO,if_pos h5]
  ·have h5 : ¬ s=Eu:=by rw [<- hport];exact of_decide_eq_false hc
   rw [EO,if_neg h5,hf]
 | some x =>
  rw [hf] at hi
  obtain ⟨k,hk,hx⟩:=hi
  have hk:Gq (λf:Fld=>decide (f.name=s)) l=((0+k:Nat):Int):=hk
  rw [hk,Nat.zero_add] at hidx
  have g1 : ¬ ((k:Int)<0):=DF
  have g2:(0:Int)<=(k:Int):=DF
  simp only [f131,go_sem,By]
  repeat' (first
   | ((first|refine pK (xw) ?_|refine aS (hidx) ?_);simp only [go_sem,By,g1,g2,FP hx,decide_false])
   | ((first|apply cS|apply gS)<;>(intro hc;simp only [go_sem,hc,By,g1,g2,FP hx,decide_false])))
  ·have h5:s=Eu:=by rw [<- hport];exact of_decide_eq_true hc
   rw [EO,if_pos h5]
  ·have h5 : ¬ s=Eu:=by rw [<- hport];exact of_decide_eq_false hc
   rw [EO,if_neg h5,hf]
@[go_sem] theorem ASA{P:Program}{t:TypeId}{k k':IntKind}{x y:Int}{d:Tmp}{K:Kt}{e:Ee}{H:DM}:HS P .shl t (.int k x) (.int k' y) d K e H=(0<=y/\K ((d,.int k (k.wrap (x*2^(min y.toNat k.bits))))::e) H):=by
 rw [Fz];simp [I8]
theorem tg : ∀ n:Nat,n<17->IntKind.i64.wrap (IntKind.i64.wrap (1*2^(min n IntKind.i64.bits)) - 1)=i64 (W8 n - 1):=by
 decide
theorem rA(f:Fld)(h0:0<=f.width)(h1:f.width<=16):DR AA 202 [.agg f.c] (.int .i64 (JT f)):=by
 have hm:=tg f.width.toNat DF
 refine pC ALA rfl ?_
 simp only [f202,go_sem,h0]
 rw [JT,<- hm];rfl
@[go_sem] theorem AZT{α:Type}(G:List α)(a b:α):(G++[a,b])[(G++[a]).length]? =some b:=by
 rw [AE,AM sm];simp
@[go_sem] theorem AZV{α:Type}(G:List α)(a b:α):(G++[a,b])[G.length]? =some a:=by
 rw [AM (AU _)];simp
@[go_sem] theorem AZU{α:Type}(G:List α)(a b z:α):(G++[a,b]).set (G++[a]).length z=G++[a,z]:=by
 rw [AE,List.set_append_right _ _ sm];simp
end Go.AI
