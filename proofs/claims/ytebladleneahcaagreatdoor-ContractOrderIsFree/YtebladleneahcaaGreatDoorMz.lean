/- Calls that are computed. -/
import Derived.Test.YtebladleneahcaaGreatDoorMy
set_option linter.unusedSimpArgs false
set_option linter.unusedVariables false
set_option linter.defProp false
open Nat renaming beq->CJ
open Go.Proofs.Tryz renaming prog->AA
namespace Go.AI
open Go.Proofs
def ke{P:Program}{f:FuncId}{vs:List AV}{v:AV}(h:A' P f vs v):A' P f vs v.borrow:=λH =>
 ⟨(h H).1,λF G w us hc=>Calls.mono ((h H).2 F G w us hc) λe w' he=>by
  obtain ⟨u,rfl,v',H2,G',⟨rfl,rfl⟩,hcr,hext⟩:=he
  exact ⟨u,rfl,_,_,G',⟨rfl,rfl⟩,by simpa using hcr.lend,hext⟩⟩
def Gp {P:Program} {T:EvT} (E:EvOk P T) (k:Nat) {f:FuncId} {vs:List AV} {v:AV} (hp:FV vs=true)
  (h:(match Xk P T k (.call f vs []) with|some (.val v2 _)=>if v2.pure=true then some v2.borrow else none|_=>none)=some v):A' P f vs v:=by
 cases hr:Xk P T k (.call f vs []) with
 | none=>rw [hr] at h;cases h
 | some q =>
  rw [hr] at h
  cases q with
  | st _ _ _=>cases h
  | val v2 H2 =>
   dsimp only at h
   split at h
   ·rename_i hv
    cases h
    exact ke (A'.run E k hp hv (by rw [hr]))
   ·cases h
set_option maxRecDepth 50000
def fM(es:List AV)(he : ∀ x∈es,x.cells.length=1)(hl:es.length<=1048576)(H:FR):FZ AA 46 [.sl none es] H λv H'=>v = .sl (some 1) es/\H'=H:=by
 have h1:(0+es.length)*8<=140737488355328:=FQ
 refine aC AYp rfl ?_
 cases es with
 | nil=>simp only [Tryz.f46,go_sem]
 | cons e es =>
  simp only [Tryz.f46,go_sem]
  simp only [List.length_cons] at hl
  exact ⟨⟨he _ sm,λa ha=>he a (by simp [ha])⟩,FQ,FQ⟩
def SB:Orc:=λf vs H=>bif CJ f 46 then
  match vs with
  | [.sl none es]=>bif es.all (λx=>x.cells.length==1)&&Nat.ble es.length 1048576 then some (.sl (some 1) es,H) else none
  | _=>none
 else l6 f vs H
def jK:r5 AA SB:=by
 intro f vs H v H' h
 unfold SB at h
 cases hf:CJ f 46 with
 | false=>rw [hf] at h;exact sW f vs H v H' h
 | true =>
  rw [hf] at h
  have:=Nat.eq_of_beq_eq_true hf
  subst this
  dsimp only [cond_true] at h
  split at h
  ·rename_i es
   cases h3:(es.all (λx=>x.cells.length==1)&&Nat.ble es.length 1048576) with
   | false=>rw [h3] at h;cases h
   | true =>
    rw [h3] at h
    cases h
    simp only [Bool.and_eq_true,List.all_eq_true,beq_iff_eq] at h3
    exact fM es h3.1 (Nat.le_of_ble_eq_true h3.2) H
  ·cases h
def Jk:EvOk AA (bK.evt [] SB):=ETree.ok ABT (λ_ h=>by cases h) jK Wa
set_option maxRecDepth 100000
def AUT:ByteArray:=⟨#[97,108,112,104,97]⟩
def AGi:ByteArray:=⟨#[98,101,116,97]⟩
def thr:Policy:=⟨4,Pred.z,⟨#[]⟩,0,[⟨1,⟨3,⟨#[112,111,114,116]⟩,0,0,[]⟩,⟨#[]⟩,0,[]⟩,⟨2,Pred.z,⟨#[112,111,114,116]⟩,1,[]⟩]⟩
def ten(n:ByteArray)(k:Int):Tenant:=⟨n,[⟨⟨#[105,110]⟩,k⟩,⟨⟨#[111,117,116]⟩,k+1⟩],[],[⟨thr,Stp.z⟩],[],[]⟩
def c19:Contract:=⟨AUT,AGi,1,0,⟨3,⟨#[100,115,116]⟩,5,0,[]⟩,2,10,3⟩
def d19:Contract:=⟨AGi,AUT,0,0,⟨1,⟨#[]⟩,0,0,[]⟩,-1,0,0⟩
def AWs:Network:=⟨[⟨⟨#[97]⟩,false,100,100⟩,⟨⟨#[98]⟩,false,100,100⟩,⟨⟨#[99]⟩,true,100,100⟩,⟨⟨#[100]⟩,false,100,100⟩],
  [⟨0,1,10⟩,⟨1,3,10⟩,⟨0,2,10⟩,⟨2,3,10⟩,⟨1,2,10⟩,⟨3,0,10⟩],[⟨⟨#[101]⟩,0⟩,⟨⟨#[102]⟩,1⟩,⟨⟨#[103]⟩,2⟩,⟨⟨#[104]⟩,3⟩]⟩
def l9:Setup:=⟨AWs,[⟨⟨#[100,115,116]⟩,16,8⟩],[ten AUT 0,ten AGi 2],[c19]⟩
def b19:Setup:={ l9 with contracts:=[c19,d19] }
def AFo(a b:Int):Head:={ Head.z with h0:=a,h1:=b }
def dv(t:Int)(h:Head)(ch:List AV):AV:=.agg (.int .i64 t::h.c++[.sl none ch])
def tU:List AV:=[.sl none [],.sl none []]
def mg:List AV:=[dv 0 (AFo 10001 1024) []]
def lu:List AV:=[dv 1 (AFo 10003 1280) [.int .i64 0]]
def VG:Setup:=⟨⟨[],[],[⟨⟨#[]⟩,0⟩,⟨⟨#[]⟩,0⟩,⟨⟨#[103]⟩,0⟩,⟨⟨#[104]⟩,0⟩]⟩,l9.fields,[ten AGi 2],[{ c19 with via:=-1 }]⟩
theorem AEt:A' AA 15 [.agg l9.c] (.tup [.int .i64 0,.int .i64 0]):=Gp Jk 20000 rfl kr
theorem zg:A' AA 15 [.agg b19.c] (.tup [.int .i64 0,.int .i64 21]):=Gp Jk 20000 rfl kr
theorem AEs:A' AA 16 [.agg l9.c,.int .i64 3] (.tup [.int .i64 1,.int .i64 1]):=Gp Jk 20000 rfl kr
theorem AEn:A' AA 18 [.agg l9.c] (.sl none tU):=Gp Jk 20000 rfl kr
theorem AIN:A' AA 17 [.agg l9.c,(.sl none tU),.agg (AFo 10000 1024).c,.int .i64 0] (.tup [(.sl none mg),(.sl none tU),.int .i64 0]):=Gp Jk 20000 rfl kr
theorem AIM:A' AA 17 [.agg l9.c,(.sl none tU),.agg (AFo 10000 1280).c,.int .i64 0] (.tup [(.sl none lu),(.sl none tU),.int .i64 0]):=Gp Jk 20000 rfl kr
theorem zh:A' AA 19 [.agg l9.c,.int .i64 0,.int .i64 1] (.tup [.sl none [.sl none [.int .i64 0]],.int .i64 0]):=Gp Jk 20000 rfl kr
theorem sE:A' AA 19 [.agg l9.c,.int .i64 1,.int .i64 0] (.tup [.sl none [],.int .i64 0]):=Gp Jk 20000 rfl kr
theorem zi:A' AA 20 [.agg l9.c,.int .i64 0,.int .i64 1] (.tup [.sl none [.int .i64 2],.int .i64 0]):=Gp Jk 20000 rfl kr
theorem AIL:A' AA 21 [.agg l9.c,.int .i64 1] (.agg VG.c):=Gp Jk 20000 rfl kr
theorem AEv:A' AA 25 [.agg l9.c,.int .i64 0] (.int .i64 30):=Gp Jk 20000 rfl kr
theorem AEu:A' AA 25 [.agg l9.c,.int .i64 1] (.int .i64 0):=Gp Jk 20000 rfl kr
theorem AEr:A' AA 22 [(.sl none mg),(.sl none mg)] (.bool true):=Gp Jk 20000 rfl kr
theorem AEq:A' AA 22 [(.sl none lu),(.sl none lu)] (.bool true):=Gp Jk 20000 rfl kr
theorem AEp:A' AA 23 [.sl none [.sl none [.int .i64 0]],.sl none [.sl none [.int .i64 0]]] (.bool true):=Gp Jk 20000 rfl kr
theorem AEo:A' AA 24 [.sl none [.int .i64 2],.sl none [.int .i64 2]] (.bool true):=Gp Jk 20000 rfl kr
def pT{P:Program}{T:EvT}(E:EvOk P T)(k:Nat){hf:FuncId}{h:Hint}{n:Nat}{ar:Option Nat}{c:Code}{Q:Exit->Kt}{e e':Ft}{H H':FR}(hh:T.hs hf=h)(hr:Xk P T k (.code hf n ar c e H)=some (.st .normal e' H'))(hq:Q .normal e' H'):I3 P n h ar c Q e H:=by
 subst hh
 refine GW c _ _ _ _ (λex2 e2 H2 hx=>?_) (show I3 P n (T.hs hf) ar c (λex2 e2 H2=>ex2 = .normal/\e2=e'/\H2=H') e H from mA E k _ _ hr)
 obtain ⟨rfl,rfl,rfl⟩:=hx
 exact hq
def SE{P:Program}{T:EvT}(E:EvOk P T)(k:Nat){hf:FuncId}{h:Hint}{n:Nat}{ar:Option Nat}{a b:Code}{Q:Exit->Kt}{e e':Ft}{H H':FR}(hh:T.hs hf=h)(hr:Xk P T k (.code hf n ar a e H)=some (.st .normal e' H'))(hq:I3 P n h ar b Q e' H'):I3 P n h ar (.seq a b) Q e H :=
 pT (Q:=AAO (I3 P n h ar b Q) Q) E k hh hr hq
noncomputable def AWL:EvT:=bK.evt [] SB
noncomputable def d9(o:Option ROut):Ft:=match o with|some (.st .normal e _)=>e|_=>[]
noncomputable def VU(o:Option ROut):FR:=match o with|some (.st .normal _ H)=>H|_=>[]
def ACZ:Code->List Code
 | .seq a b=>ACZ a++ACZ b
 | c=>[c]
noncomputable def AdM(k:Nat):Code:=match Tryz.f5.body with
 | some c=>((ACZ c)[k]?).getD .skip
 | none => .skip
noncomputable def san(k:Nat)(e:Ft)(H:FR):Option ROut:=Xk AA AWL 20000 (.code 5 203 none (AdM k) e H)
noncomputable def r0:Option ROut:=san 0 [] []
noncomputable def r1:Option ROut:=san 1 (d9 r0) (VU r0)
noncomputable def r2:Option ROut:=san 2 (d9 r1) (VU r1)
noncomputable def r3:Option ROut:=san 3 (d9 r2) (VU r2)
theorem hs6:AWL.hs 5=h5:=kr
theorem r3E:d9 r3=[(1,.ptr 7 0),(2,.ptr 15 0)]:=kr
theorem r3H:(VU r3)[7]? =some (some l9.c)/\(VU r3)[15]? =some (some b19.c)/\(VU r3).length=17:=⟨kr,kr,kr⟩
def AIW(x:Delivery)(w p:Option Nat)(n:Int):splice (x.cf w) 11 [.sl p [.int .i64 n]]=({ x with chain:=[n] }:Delivery).cf p:=rfl
def tf{α:Type}(a:α)(l r:List α):List.append (a::l) r=a::List.append l r:=rfl
def ABe{α:Type}(r:List α):List.append [] r=r:=rfl
def AIb(H:FR)(a b:Option (List AV)):(H++[a]).set H.length b=H++[b]:=by rw [List.set_append_right _ _ FQ,Nat.sub_self];rfl
def AIc(H:FR)(a:Option (List AV)):(H++[a])[H.length]? =some a:=sm
set_option maxHeartbeats 8000000 in
def o9:A' AA 5 [] (.bool true):=by
 refine pC AeA rfl ?_
 simp only [Tryz.f5,GQ,tf,ABe]
 refine SE Jk 20000 (e':=d9 r0) (H':=VU r0) hs6 kr ?_
 refine SE Jk 20000 (e':=d9 r1) (H':=VU r1) hs6 kr ?_
 refine SE Jk 20000 (e':=d9 r2) (H':=VU r2) hs6 kr ?_
 refine SE Jk 20000 (e':=d9 r3) (H':=VU r3) hs6 kr ?_
 rw [r3E]
 obtain ⟨h1,h2,h3⟩:=r3H
 generalize VU r3=H at h1 h2 h3 ⊢
 have hlt:=(List.getElem?_eq_some_iff.1 h1).1
 have g1 : ∀ z,(H++z)[7]? =some (some l9.c):=λz=>by rw [List.getElem?_append_left hlt];exact h1
 have gs:=AIb H
 have gg:=AIc H
 have f1:((tU.length:Int) !=2)=false:=rfl
 have f2:((VG.contracts.length:Int)==1)=true:=rfl
 have f3:(GX VG.contracts)[0]? =some (.agg ({ c19 with via:=-1 }:Contract).c):=rfl
 have f4:(J3 VG.network.edges)[1]? =some (.agg (Edge.c ⟨⟨#[]⟩,0⟩)):=rfl
 have f5:(J3 VG.network.edges)[2]? =some (.agg (Edge.c ⟨⟨#[103]⟩,0⟩)):=rfl
 simp only [go_sem,h1]
 repeat' (first|((first|refine aP (AEt) ?_|refine aP (zg) ?_|refine aP (AEs) ?_|refine pK (AEn) ?_|refine aP (AIN) ?_|refine aP (AIM) ?_|refine aP (zh) ?_|refine aP (sE) ?_|refine aP (zi) ?_|refine aP (AIL) ?_|refine aP (AEv) ?_|refine aP (AEu) ?_|refine aP (A'.weak AEr) ?_|refine aP (A'.weak AEq) ?_|refine aP (A'.weak AEp) ?_|refine aP (A'.weak AEo) ?_);simp only [go_sem,h1,h2,g1,gs,gg,f1,f2,f3,f4,f5,AIW,FU,dT,Int.reduceBEq,Int.reduceBNe])|(first|apply cS|apply gS)<;>intro hc<;>simp only [go_sem,hc])
 exact absurd hc dc
end Go.AI
