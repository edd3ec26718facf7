/- Calls that are computed. -/
import Derived.Test.YtofajkggflobkaaGreatDoorMy
set_option linter.unusedSimpArgs false
set_option linter.unusedVariables false
set_option linter.defProp false
open Nat renaming beq->CI
open Go.Proofs.Tryz renaming prog->AA
namespace Go.AI
open Go.Proofs
def ju{P:Program}{f:FuncId}{vs:List AV}{v:AV}(h:FQ P f vs v):FQ P f vs v.borrow:=λH =>
 ⟨(h H).1,λF G w us hc=>Calls.mono ((h H).2 F G w us hc) λe w' he=>by
  obtain ⟨u,rfl,v',H2,G',⟨rfl,rfl⟩,hcr,hext⟩:=he
  exact ⟨u,rfl,_,_,G',⟨rfl,rfl⟩,by simpa using hcr.lend,hext⟩⟩
def Gn {P:Program} {T:EvT} (E:EvOk P T) (k:Nat) {f:FuncId} {vs:List AV} {v:AV} (hp:A' vs=true)
  (h:(match XL P T k (.call f vs []) with|some (.val v2 _)=>if v2.pure=true then some v2.borrow else none|_=>none)=some v):FQ P f vs v:=by
 cases hr:XL P T k (.call f vs []) with
 | none=>rw [hr] at h;cases h
 | some q =>
  rw [hr] at h
  cases q with
  | st _ _ _=>cases h
  | val v2 H2 =>
   dsimp only at h
   split at h
   ·rename_i hv
    cases h
    exact ju (FQ.run E k hp hv (by rw [hr]))
   ·cases h
set_option maxRecDepth 50000
def eI(es:List AV)(he : ∀ x∈es,x.cells.length=1)(hl:es.length<=1048576)(H:FP):FV AA 31 [.sl none es] H λv H'=>v = .sl (some 1) es/\H'=H:=by
 have h1:(0+es.length)*8<=140737488355328:=FO
 refine aC AYW rfl ?_
 cases es with
 | nil=>simp only [Tryz.f31,go_sem]
 | cons e es =>
  simp only [Tryz.f31,go_sem]
  simp only [List.length_cons] at hl
  exact ⟨⟨he _ sm,λa ha=>he a (by simp [ha])⟩,FO,FO⟩
def Rq:Orc:=λf vs H=>bif CI f 31 then
  match vs with
  | [.sl none es]=>bif es.all (λx=>x.cells.length==1)&&Nat.ble es.length 1048576 then some (.sl (some 1) es,H) else none
  | _=>none
 else lG f vs H
def iQ:rB AA Rq:=by
 intro f vs H v H' h
 unfold Rq at h
 cases hf:CI f 31 with
 | false=>rw [hf] at h;exact rY f vs H v H' h
 | true =>
  rw [hf] at h
  have:=Nat.eq_of_beq_eq_true hf
  subst this
  dsimp only [cond_true] at h
  split at h
  ·rename_i es
   cases h3:(es.all (λx=>x.cells.length==1)&&Nat.ble es.length 1048576) with
   | false=>rw [h3] at h;cases h
   | true =>
    rw [h3] at h
    cases h
    simp only [Bool.and_eq_true,List.all_eq_true,beq_iff_eq] at h3
    exact eI es h3.1 (Nat.le_of_ble_eq_true h3.2) H
  ·cases h
def Js:EvOk AA (ac.evt [] Rq):=ETree.ok AAt (λ_ h=>by cases h) iQ WG
set_option maxRecDepth 100000
def ATo:ByteArray:=⟨#[97,108,112,104,97]⟩
def AGD:ByteArray:=⟨#[98,101,116,97]⟩
def thr:Policy:=⟨4,Pred.z,⟨#[]⟩,0,[⟨1,⟨3,⟨#[112,111,114,116]⟩,0,0,[]⟩,⟨#[]⟩,0,[]⟩,⟨2,Pred.z,⟨#[112,111,114,116]⟩,1,[]⟩]⟩
def ten(n:ByteArray)(k:Int):Tenant:=⟨n,[⟨⟨#[105,110]⟩,k⟩,⟨⟨#[111,117,116]⟩,k+1⟩],[],[⟨thr,Stp.z⟩],[],[]⟩
def c19:Contract:=⟨ATo,AGD,1,0,⟨3,⟨#[100,115,116]⟩,5,0,[]⟩,2,10,3⟩
def d19:Contract:=⟨AGD,ATo,0,0,⟨1,⟨#[]⟩,0,0,[]⟩,-1,0,0⟩
def AV8:Network:=⟨[⟨⟨#[97]⟩,false,100,100⟩,⟨⟨#[98]⟩,false,100,100⟩,⟨⟨#[99]⟩,true,100,100⟩,⟨⟨#[100]⟩,false,100,100⟩],
  [⟨0,1,10⟩,⟨1,3,10⟩,⟨0,2,10⟩,⟨2,3,10⟩,⟨1,2,10⟩,⟨3,0,10⟩],[⟨⟨#[101]⟩,0⟩,⟨⟨#[102]⟩,1⟩,⟨⟨#[103]⟩,2⟩,⟨⟨#[104]⟩,3⟩]⟩
def lJ:Setup:=⟨AV8,[⟨⟨#[100,115,116]⟩,16,8⟩],[ten ATo 0,ten AGD 2],[c19]⟩
def b19:Setup:={ lJ with contracts:=[c19,d19] }
def AFK(a b:Int):Head:={ Head.z with h0:=a,h1:=b }
def dv(t:Int)(h:Head)(ch:List AV):AV:=.agg (.int .i64 t::h.c++[.sl none ch])
def sU:List AV:=[.sl none [],.sl none []]
def ly:List AV:=[dv 0 (AFK 10001 1024) []]
def lA:List AV:=[dv 1 (AFK 10003 1280) [.int .i64 0]]
def Uu:Setup:=⟨⟨[],[],[⟨⟨#[]⟩,0⟩,⟨⟨#[]⟩,0⟩,⟨⟨#[103]⟩,0⟩,⟨⟨#[104]⟩,0⟩]⟩,lJ.fields,[ten AGD 2],[{ c19 with via:=-1 }]⟩
theorem AEO:FQ AA 17 [.agg lJ.c] (.tup [.int .i64 0,.int .i64 0]):=Gn Js 20000 rfl kr
theorem yp:FQ AA 17 [.agg b19.c] (.tup [.int .i64 0,.int .i64 21]):=Gn Js 20000 rfl kr
theorem AEN:FQ AA 12 [.agg lJ.c,.int .i64 3] (.tup [.int .i64 1,.int .i64 1]):=Gn Js 20000 rfl kr
theorem AEI:FQ AA 18 [.agg lJ.c] (.sl none sU):=Gn Js 20000 rfl kr
theorem AHn:FQ AA 6 [.agg lJ.c,(.sl none sU),.agg (AFK 10000 1024).c,.int .i64 0] (.tup [(.sl none ly),(.sl none sU),.int .i64 0]):=Gn Js 20000 rfl kr
theorem AHm:FQ AA 6 [.agg lJ.c,(.sl none sU),.agg (AFK 10000 1280).c,.int .i64 0] (.tup [(.sl none lA),(.sl none sU),.int .i64 0]):=Gn Js 20000 rfl kr
theorem yq:FQ AA 9 [.agg lJ.c,.int .i64 0,.int .i64 1] (.tup [.sl none [.sl none [.int .i64 0]],.int .i64 0]):=Gn Js 20000 rfl kr
theorem rH:FQ AA 9 [.agg lJ.c,.int .i64 1,.int .i64 0] (.tup [.sl none [],.int .i64 0]):=Gn Js 20000 rfl kr
theorem yr:FQ AA 19 [.agg lJ.c,.int .i64 0,.int .i64 1] (.tup [.sl none [.int .i64 2],.int .i64 0]):=Gn Js 20000 rfl kr
theorem AHl:FQ AA 20 [.agg lJ.c,.int .i64 1] (.agg Uu.c):=Gn Js 20000 rfl kr
theorem AEQ:FQ AA 23 [.agg lJ.c,.int .i64 0] (.int .i64 30):=Gn Js 20000 rfl kr
theorem AEP:FQ AA 23 [.agg lJ.c,.int .i64 1] (.int .i64 0):=Gn Js 20000 rfl kr
theorem AEM:FQ AA 21 [(.sl none ly),(.sl none ly)] (.bool true):=Gn Js 20000 rfl kr
theorem AEL:FQ AA 21 [(.sl none lA),(.sl none lA)] (.bool true):=Gn Js 20000 rfl kr
theorem AEK:FQ AA 22 [.sl none [.sl none [.int .i64 0]],.sl none [.sl none [.int .i64 0]]] (.bool true):=Gn Js 20000 rfl kr
theorem AEJ:FQ AA 11 [.sl none [.int .i64 2],.sl none [.int .i64 2]] (.bool true):=Gn Js 20000 rfl kr
def oJ{P:Program}{T:EvT}(E:EvOk P T)(k:Nat){hf:FuncId}{h:Hint}{n:Nat}{ar:Option Nat}{c:Code}{Q:Exit->Kt}{e e':Fs}{H H':FP}(hh:T.hs hf=h)(hr:XL P T k (.code hf n ar c e H)=some (.st .normal e' H'))(hq:Q .normal e' H'):I7 P n h ar c Q e H:=by
 subst hh
 refine GX c _ _ _ _ (λex2 e2 H2 hx=>?_) (show I7 P n (T.hs hf) ar c (λex2 e2 H2=>ex2 = .normal/\e2=e'/\H2=H') e H from lK E k _ _ hr)
 obtain ⟨rfl,rfl,rfl⟩:=hx
 exact hq
def Rt{P:Program}{T:EvT}(E:EvOk P T)(k:Nat){hf:FuncId}{h:Hint}{n:Nat}{ar:Option Nat}{a b:Code}{Q:Exit->Kt}{e e':Fs}{H H':FP}(hh:T.hs hf=h)(hr:XL P T k (.code hf n ar a e H)=some (.st .normal e' H'))(hq:I7 P n h ar b Q e' H'):I7 P n h ar (.seq a b) Q e H :=
 oJ (Q:=zb (I7 P n h ar b Q) Q) E k hh hr hq
noncomputable def AVb:EvT:=ac.evt [] Rq
noncomputable def dM(o:Option ROut):Fs:=match o with|some (.st .normal e _)=>e|_=>[]
noncomputable def U7(o:Option ROut):FP:=match o with|some (.st .normal _ H)=>H|_=>[]
def AB4:Code->List Code
 | .seq a b=>AB4 a++AB4 b
 | c=>[c]
noncomputable def Acg(k:Nat):Code:=match Tryz.f5.body with
 | some c=>((AB4 c)[k]?).getD .skip
 | none => .skip
noncomputable def san(k:Nat)(e:Fs)(H:FP):Option ROut:=XL AA AVb 20000 (.code 5 203 none (Acg k) e H)
noncomputable def r0:Option ROut:=san 0 [] []
noncomputable def r1:Option ROut:=san 1 (dM r0) (U7 r0)
noncomputable def r2:Option ROut:=san 2 (dM r1) (U7 r1)
noncomputable def r3:Option ROut:=san 3 (dM r2) (U7 r2)
theorem hs6:AVb.hs 5=h5:=kr
theorem r3E:dM r3=[(1,.ptr 7 0),(2,.ptr 15 0)]:=kr
theorem r3H:(U7 r3)[7]? =some (some lJ.c)/\(U7 r3)[15]? =some (some b19.c)/\(U7 r3).length=17:=⟨kr,kr,kr⟩
def zU(h:Head):Hs [.int .i64 0,.int .i64 0,.int .i64 0,.int .i64 0,.int .i64 0,.int .i64 0,.int .i64 0,.int .i64 0,.int .i64 0,.int .i64 0,.sl (some 1) []] h.c=[.int .i64 h.h0,.int .i64 h.h1,.int .i64 h.h2,.int .i64 h.h3,.int .i64 h.h4,.int .i64 h.h5,.int .i64 h.h6,.int .i64 h.h7,.int .i64 h.h8,.int .i64 h.h9,.sl (some 1) []]:=rfl
def zT(a b c d e f g i j k x y:AV):splice [a,b,c,d,e,f,g,i,j,k,x] 10 [y]=[a,b,c,d,e,f,g,i,j,k,y]:=rfl
def zV(x:Delivery)(w p:Option Nat)(n:Int):splice (x.cf w) 11 [.sl p [.int .i64 n]]=({ x with chain:=[n] }:Delivery).cf p:=rfl
def sd{α:Type}(a:α)(l r:List α):List.append (a::l) r=a::List.append l r:=rfl
def AA4{α:Type}(r:List α):List.append [] r=r:=rfl
def AH2(H:FP)(a b:Option (List AV)):(H++[a]).set H.length b=H++[b]:=by rw [List.set_append_right _ _ FO,Nat.sub_self];rfl
def AH3(H:FP)(a:Option (List AV)):(H++[a])[H.length]? =some a:=sm
set_option maxHeartbeats 8000000 in
def nw:FQ AA 5 [] (.bool true):=by
 refine pC AdR rfl ?_
 simp only [Tryz.f5,GQ,sd,AA4]
 refine Rt Js 20000 (e':=dM r0) (H':=U7 r0) hs6 kr ?_
 refine Rt Js 20000 (e':=dM r1) (H':=U7 r1) hs6 kr ?_
 refine Rt Js 20000 (e':=dM r2) (H':=U7 r2) hs6 kr ?_
 refine Rt Js 20000 (e':=dM r3) (H':=U7 r3) hs6 kr ?_
 rw [r3E]
 obtain ⟨h1,h2,h3⟩:=r3H
 generalize U7 r3=H at h1 h2 h3 ⊢
 have hlt:=(List.getElem?_eq_some_iff.1 h1).1
 have g1 : ∀ z,(H++z)[7]? =some (some lJ.c):=λz=>by rw [List.getElem?_append_left hlt];exact h1
 have gs:=AH2 H
 have gg:=AH3 H
 have f1:((sU.length:Int) !=2)=false:=rfl
 have f2:((Uu.contracts.length:Int)==1)=true:=rfl
 have f3:(GY Uu.contracts)[0]? =some (.agg ({ c19 with via:=-1 }:Contract).c):=rfl
 have f4:(Jp Uu.network.edges)[1]? =some (.agg (Edge.c ⟨⟨#[]⟩,0⟩)):=rfl
 have f5:(Jp Uu.network.edges)[2]? =some (.agg (Edge.c ⟨⟨#[103]⟩,0⟩)):=rfl
 simp only [go_sem,h1,h2,g1,gs,gg]
 repeat' (first|((first|refine aP (AEO) ?_|refine aP (yp) ?_|refine aP (AEN) ?_|refine pK (AEI) ?_|refine aP (AHn) ?_|refine aP (AHm) ?_|refine aP (yq) ?_|refine aP (rH) ?_|refine aP (yr) ?_|refine aP (AHl) ?_|refine aP (AEQ) ?_|refine aP (AEP) ?_|refine aP (FQ.weak AEM) ?_|refine aP (FQ.weak AEL) ?_|refine aP (FQ.weak AEK) ?_|refine aP (FQ.weak AEJ) ?_);simp only [go_sem,h1,h2,g1,gs,gg,f1,f2,f3,f4,f5,zU,zT,zV,FN,dT,Int.reduceBEq,Int.reduceBNe])|(first|apply cS|apply gS)<;>intro hc<;>simp only [go_sem,hc,h1,h2,g1,gs,gg,f1,f2,f3,f4,f5,zU,zT,zV,FN,dT,Int.reduceBEq,Int.reduceBNe])
 exact absurd hc dc
end Go.AI
