/- Calls that are computed. -/
import Derived.Test.YtnbekihfchfioaaGreatDoorMy
set_option linter.unusedSimpArgs false
set_option linter.unusedVariables false
set_option linter.defProp false
open Nat renaming beq->CK
open Go.Proofs.Tryz renaming prog->AA
namespace Go.AI
open Go.Proofs
def jG{P:Program}{f:FuncId}{vs:List AV}{v:AV}(h:FO P f vs v):FO P f vs v.borrow:=λH =>
 ⟨(h H).1,λF G w us hc=>Calls.mono ((h H).2 F G w us hc) λe w' he=>by
  obtain ⟨u,rfl,v',H2,G',⟨rfl,rfl⟩,hcr,hext⟩:=he
  exact ⟨u,rfl,_,_,G',⟨rfl,rfl⟩,by simpa using hcr.lend,hext⟩⟩
def Gk {P:Program} {T:EvT} (E:EvOk P T) (k:Nat) {f:FuncId} {vs:List AV} {v:AV} (hp:FQ vs=true)
  (h:(match Ww P T k (.call f vs []) with|some (.val v2 _)=>if v2.pure=true then some v2.borrow else none|_=>none)=some v):FO P f vs v:=by
 cases hr:Ww P T k (.call f vs []) with
 | none=>rw [hr] at h;cases h
 | some q =>
  rw [hr] at h
  cases q with
  | st _ _ _=>cases h
  | val v2 H2 =>
   dsimp only at h
   split at h
   ·rename_i hv
    cases h
    exact jG (FO.run E k hp hv (by rw [hr]))
   ·cases h
set_option maxRecDepth 50000
def dH(es:List AV)(he : ∀ x∈es,x.cells.length=1)(hl:es.length<=1048576)(H:FN):FT AA 31 [.sl none es] H λv H'=>v = .sl (some 1) es/\H'=H:=by
 have h1:(0+es.length)*8<=140737488355328:=FM
 refine aC AXS rfl ?_
 cases es with
 | nil=>simp only [Tryz.f31,go_sem]
 | cons e es =>
  simp only [Tryz.f31,go_sem]
  simp only [List.length_cons] at hl
  exact ⟨⟨he _ sm,λa ha=>he a (by simp [ha])⟩,FM,FM⟩
def Rc:Orc:=λf vs H=>bif CK f 31 then
  match vs with
  | [.sl none es]=>bif es.all (λx=>x.cells.length==1)&&Nat.ble es.length 1048576 then some (.sl (some 1) es,H) else none
  | _=>none
 else kM f vs H
def gI:qB AA Rc:=by
 intro f vs H v H' h
 unfold Rc at h
 cases hf:CK f 31 with
 | false=>rw [hf] at h;exact qX f vs H v H' h
 | true =>
  rw [hf] at h
  have:=Nat.eq_of_beq_eq_true hf
  subst this
  dsimp only [cond_true] at h
  split at h
  ·rename_i es
   cases h3:(es.all (λx=>x.cells.length==1)&&Nat.ble es.length 1048576) with
   | false=>rw [h3] at h;cases h
   | true =>
    rw [h3] at h
    cases h
    simp only [Bool.and_eq_true,List.all_eq_true,beq_iff_eq] at h3
    exact dH es h3.1 (Nat.le_of_ble_eq_true h3.2) H
  ·cases h
def Jo:EvOk AA (Z3.evt [] Rc):=ETree.ok za (λ_ h=>by cases h) gI Vs
set_option maxRecDepth 100000
def AR4:ByteArray:=⟨#[97,108,112,104,97]⟩
def AEw:ByteArray:=⟨#[98,101,116,97]⟩
def thr:Policy:=⟨4,Pred.z,⟨#[]⟩,0,[⟨1,⟨3,⟨#[112,111,114,116]⟩,0,0,[]⟩,⟨#[]⟩,0,[]⟩,⟨2,Pred.z,⟨#[112,111,114,116]⟩,1,[]⟩]⟩
def ten(n:ByteArray)(k:Int):Tenant:=⟨n,[⟨⟨#[105,110]⟩,k⟩,⟨⟨#[111,117,116]⟩,k+1⟩],[],[⟨thr,Stp.z⟩],[],[]⟩
def c19:Contract:=⟨AR4,AEw,1,0,⟨3,⟨#[100,115,116]⟩,5,0,[]⟩,2,10,3⟩
def d19:Contract:=⟨AEw,AR4,0,0,⟨1,⟨#[]⟩,0,0,[]⟩,-1,0,0⟩
def AUV:Network:=⟨[⟨⟨#[97]⟩,false,100,100⟩,⟨⟨#[98]⟩,false,100,100⟩,⟨⟨#[99]⟩,true,100,100⟩,⟨⟨#[100]⟩,false,100,100⟩],
  [⟨0,1,10⟩,⟨1,3,10⟩,⟨0,2,10⟩,⟨2,3,10⟩,⟨1,2,10⟩,⟨3,0,10⟩],[⟨⟨#[101]⟩,0⟩,⟨⟨#[102]⟩,1⟩,⟨⟨#[103]⟩,2⟩,⟨⟨#[104]⟩,3⟩]⟩
def kP:Setup:=⟨AUV,[⟨⟨#[100,115,116]⟩,16,8⟩],[ten AR4 0,ten AEw 2],[c19]⟩
def b19:Setup:={ kP with contracts:=[c19,d19] }
def AD6(a b:Int):Head:={ Head.z with h0:=a,h1:=b }
def dv(t:Int)(h:Head)(ch:List AV):AV:=.agg (.int .i64 t::h.c++[.sl none ch])
def rI:List AV:=[.sl none [],.sl none []]
def lE:List AV:=[dv 0 (AD6 10001 1024) []]
def kE:List AV:=[dv 1 (AD6 10003 1280) [.int .i64 0]]
def Ua:Setup:=⟨⟨[],[],[⟨⟨#[]⟩,0⟩,⟨⟨#[]⟩,0⟩,⟨⟨#[103]⟩,0⟩,⟨⟨#[104]⟩,0⟩]⟩,kP.fields,[ten AEw 2],[{ c19 with via:=-1 }]⟩
theorem ADE:FO AA 19 [.agg kP.c] (.tup [.int .i64 0,.int .i64 0]):=Gk Jo 20000 rfl kr
theorem xZ:FO AA 19 [.agg b19.c] (.tup [.int .i64 0,.int .i64 21]):=Gk Jo 20000 rfl kr
theorem ADD:FO AA 20 [.agg kP.c,.int .i64 3] (.tup [.int .i64 1,.int .i64 1]):=Gk Jo 20000 rfl kr
theorem AC8:FO AA 21 [.agg kP.c] (.sl none rI):=Gk Jo 20000 rfl kr
theorem AGY:FO AA 6 [.agg kP.c,(.sl none rI),.agg (AD6 10000 1024).c,.int .i64 0] (.tup [(.sl none lE),(.sl none rI),.int .i64 0]):=Gk Jo 20000 rfl kr
theorem AGX:FO AA 6 [.agg kP.c,(.sl none rI),.agg (AD6 10000 1280).c,.int .i64 0] (.tup [(.sl none kE),(.sl none rI),.int .i64 0]):=Gk Jo 20000 rfl kr
theorem xa:FO AA 22 [.agg kP.c,.int .i64 0,.int .i64 1] (.tup [.sl none [.sl none [.int .i64 0]],.int .i64 0]):=Gk Jo 20000 rfl kr
theorem qH:FO AA 22 [.agg kP.c,.int .i64 1,.int .i64 0] (.tup [.sl none [],.int .i64 0]):=Gk Jo 20000 rfl kr
theorem xb:FO AA 23 [.agg kP.c,.int .i64 0,.int .i64 1] (.tup [.sl none [.int .i64 2],.int .i64 0]):=Gk Jo 20000 rfl kr
theorem AGW:FO AA 24 [.agg kP.c,.int .i64 1] (.agg Ua.c):=Gk Jo 20000 rfl kr
theorem ADG:FO AA 27 [.agg kP.c,.int .i64 0] (.int .i64 30):=Gk Jo 20000 rfl kr
theorem ADF:FO AA 27 [.agg kP.c,.int .i64 1] (.int .i64 0):=Gk Jo 20000 rfl kr
theorem ADC:FO AA 13 [(.sl none lE),(.sl none lE)] (.bool true):=Gk Jo 20000 rfl kr
theorem ADB:FO AA 13 [(.sl none kE),(.sl none kE)] (.bool true):=Gk Jo 20000 rfl kr
theorem ADA:FO AA 25 [.sl none [.sl none [.int .i64 0]],.sl none [.sl none [.int .i64 0]]] (.bool true):=Gk Jo 20000 rfl kr
theorem AC9:FO AA 26 [.sl none [.int .i64 2],.sl none [.int .i64 2]] (.bool true):=Gk Jo 20000 rfl kr
def nQ{P:Program}{T:EvT}(E:EvOk P T)(k:Nat){hf:FuncId}{h:Hint}{n:Nat}{ar:Option Nat}{c:Code}{Q:Exit->Kt}{e e':Fp}{H H':FN}(hh:T.hs hf=h)(hr:Ww P T k (.code hf n ar c e H)=some (.st .normal e' H'))(hq:Q .normal e' H'):I8 P n h ar c Q e H:=by
 subst hh
 refine GV c _ _ _ _ (λex2 e2 H2 hx=>?_) (show I8 P n (T.hs hf) ar c (λex2 e2 H2=>ex2 = .normal/\e2=e'/\H2=H') e H from kQ E k _ _ hr)
 obtain ⟨rfl,rfl,rfl⟩:=hx
 exact hq
def Rg{P:Program}{T:EvT}(E:EvOk P T)(k:Nat){hf:FuncId}{h:Hint}{n:Nat}{ar:Option Nat}{a b:Code}{Q:Exit->Kt}{e e':Fp}{H H':FN}(hh:T.hs hf=h)(hr:Ww P T k (.code hf n ar a e H)=some (.st .normal e' H'))(hq:I8 P n h ar b Q e' H'):I8 P n h ar (.seq a b) Q e H :=
 nQ (Q:=yK (I8 P n h ar b Q) Q) E k hh hr hq
noncomputable def ATz:EvT:=Z3.evt [] Rc
noncomputable def cN(o:Option ROut):Fp:=match o with|some (.st .normal e _)=>e|_=>[]
noncomputable def Um(o:Option ROut):FN:=match o with|some (.st .normal _ H)=>H|_=>[]
def AAu:Code->List Code
 | .seq a b=>AAu a++AAu b
 | c=>[c]
noncomputable def AbZ(k:Nat):Code:=match Tryz.f5.body with
 | some c=>((AAu c)[k]?).getD .skip
 | none => .skip
noncomputable def san(k:Nat)(e:Fp)(H:FN):Option ROut:=Ww AA ATz 20000 (.code 5 203 none (AbZ k) e H)
noncomputable def r0:Option ROut:=san 0 [] []
noncomputable def r1:Option ROut:=san 1 (cN r0) (Um r0)
noncomputable def r2:Option ROut:=san 2 (cN r1) (Um r1)
noncomputable def r3:Option ROut:=san 3 (cN r2) (Um r2)
theorem hs6:ATz.hs 5=h5:=kr
theorem r3E:cN r3=[(1,.ptr 7 0),(2,.ptr 15 0)]:=kr
theorem r3H:(Um r3)[7]? =some (some kP.c)/\(Um r3)[15]? =some (some b19.c)/\(Um r3).length=17:=⟨kr,kr,kr⟩
def yD(h:Head):Hl [.int .i64 0,.int .i64 0,.int .i64 0,.int .i64 0,.int .i64 0,.int .i64 0,.int .i64 0,.int .i64 0,.int .i64 0,.int .i64 0,.sl (some 1) []] h.c=[.int .i64 h.h0,.int .i64 h.h1,.int .i64 h.h2,.int .i64 h.h3,.int .i64 h.h4,.int .i64 h.h5,.int .i64 h.h6,.int .i64 h.h7,.int .i64 h.h8,.int .i64 h.h9,.sl (some 1) []]:=rfl
def yC(a b c d e f g i j k x y:AV):splice [a,b,c,d,e,f,g,i,j,k,x] 10 [y]=[a,b,c,d,e,f,g,i,j,k,y]:=rfl
def yE(x:Delivery)(w p:Option Nat)(n:Int):splice (x.cf w) 11 [.sl p [.int .i64 n]]=({ x with chain:=[n] }:Delivery).cf p:=rfl
def rR{α:Type}(a:α)(l r:List α):List.append (a::l) r=a::List.append l r:=rfl
def zo{α:Type}(r:List α):List.append [] r=r:=rfl
def AGl(H:FN)(a b:Option (List AV)):(H++[a]).set H.length b=H++[b]:=by rw [List.set_append_right _ _ FM,Nat.sub_self];rfl
def AGm(H:FN)(a:Option (List AV)):(H++[a])[H.length]? =some a:=sm
set_option maxHeartbeats 8000000 in
def m8:FO AA 5 [] (.bool true):=by
 refine pC AcI rfl ?_
 simp only [Tryz.f5,GM,rR,zo]
 refine Rg Jo 20000 (e':=cN r0) (H':=Um r0) hs6 kr ?_
 refine Rg Jo 20000 (e':=cN r1) (H':=Um r1) hs6 kr ?_
 refine Rg Jo 20000 (e':=cN r2) (H':=Um r2) hs6 kr ?_
 refine Rg Jo 20000 (e':=cN r3) (H':=Um r3) hs6 kr ?_
 rw [r3E]
 obtain ⟨h1,h2,h3⟩:=r3H
 generalize Um r3=H at h1 h2 h3 ⊢
 have hlt:=(List.getElem?_eq_some_iff.1 h1).1
 have g1 : ∀ z,(H++z)[7]? =some (some kP.c):=λz=>by rw [List.getElem?_append_left hlt];exact h1
 have gs:=AGl H
 have gg:=AGm H
 have f1:((rI.length:Int) !=2)=false:=rfl
 have f2:((Ua.contracts.length:Int)==1)=true:=rfl
 have f3:(GW Ua.contracts)[0]? =some (.agg ({ c19 with via:=-1 }:Contract).c):=rfl
 have f4:(J0 Ua.network.edges)[1]? =some (.agg (Edge.c ⟨⟨#[]⟩,0⟩)):=rfl
 have f5:(J0 Ua.network.edges)[2]? =some (.agg (Edge.c ⟨⟨#[103]⟩,0⟩)):=rfl
 simp only [go_sem,h1,h2,g1,gs,gg]
 repeat' (first|((first|refine aP (ADE) ?_|refine aP (xZ) ?_|refine aP (ADD) ?_|refine pK (AC8) ?_|refine aP (AGY) ?_|refine aP (AGX) ?_|refine aP (xa) ?_|refine aP (qH) ?_|refine aP (xb) ?_|refine aP (AGW) ?_|refine aP (ADG) ?_|refine aP (ADF) ?_|refine aP (FO.weak ADC) ?_|refine aP (FO.weak ADB) ?_|refine aP (FO.weak ADA) ?_|refine aP (FO.weak AC9) ?_);simp only [go_sem,h1,h2,g1,gs,gg,f1,f2,f3,f4,f5,yD,yC,yE,FL,dT,Int.reduceBEq,Int.reduceBNe])|(first|apply cS|apply gS)<;>intro hc<;>simp only [go_sem,hc,h1,h2,g1,gs,gg,f1,f2,f3,f4,f5,yD,yC,yE,FL,dT,Int.reduceBEq,Int.reduceBNe])
 exact absurd hc dc
end Go.AI
