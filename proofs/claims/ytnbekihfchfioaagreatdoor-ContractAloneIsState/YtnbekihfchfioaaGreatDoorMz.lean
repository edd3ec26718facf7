/- Calls that are computed. -/
import Derived.Test.YtnbekihfchfioaaGreatDoorMg
import Derived.Test.YtnbekihfchfioaaGreatDoorMe
import Derived.Test.YtnbekihfchfioaaGreatDoorMf
import Derived.Test.YtnbekihfchfioaaGreatDoorMy
import Derived.Test.YtnbekihfchfioaaGreatDoorMp
set_option linter.unusedSimpArgs false
set_option linter.unusedVariables false
open Go.Proofs.Tryz renaming prog->AA
namespace Go.AI
open Go.Proofs
theorem jw{P:Program}{f:FuncId}{vs:List AV}{v:AV}(h:DR P f vs v):DR P f vs v.borrow:=λH =>
 ⟨(h H).1,λF G w us hc=>Calls.mono ((h H).2 F G w us hc) λe w' he=>by
  obtain ⟨u,rfl,v',H2,G',⟨rfl,rfl⟩,hcr,hext⟩:=he
  exact ⟨u,rfl,_,_,G',⟨rfl,rfl⟩,by simpa using hcr.lend,hext⟩⟩
theorem FV {P:Program} {T:EvT} (E:EvOk P T) (k:Nat) {f:FuncId} {vs:List AV} {v:AV} (hp:DY vs=true)
  (h:(match W7 P T k (.call f vs []) with|some (.val v2 _)=>if v2.pure=true then some v2.borrow else none|_=>none)=some v):DR P f vs v:=by
 cases hr:W7 P T k (.call f vs []) with
 | none=>rw [hr] at h;cases h
 | some q =>
  rw [hr] at h
  cases q with
  | st _ _ _=>cases h
  | val v2 H2 =>
   dsimp only at h
   split at h
   ·rename_i hv
    cases h
    exact jw (DR.run E k hp hv (by rw [hr]))
   ·cases h
set_option maxRecDepth 50000
theorem d6(es:List AV)(he : ∀ x∈es,x.cells.length=1)(hl:es.length<=1048576)(H:DM):Dx AA 31 [.sl none es] H λv H'=>v = .sl (some 1) es/\H'=H:=by
 have h1:(0+es.length)*8<=140737488355328:=DF
 refine aC AVp rfl ?_
 cases es with
 | nil=>simp only [Tryz.f31,go_sem]
 | cons e es =>
  simp only [Tryz.f31,go_sem]
  simp only [List.length_cons] at hl
  exact ⟨⟨he _ sm,λa ha=>he a (by simp [ha])⟩,DF,DF⟩
def RA:Orc:=λf vs H=>bif Nat.beq f 31 then
  match vs with
  | [.sl none es]=>bif es.all (λx=>x.cells.length==1)&&Nat.ble es.length 1048576 then some (.sl (some 1) es,H) else none
  | _=>none
 else lK f vs H
theorem iS:sE AA RA:=by
 intro f vs H v H' h
 unfold RA at h
 cases hf:Nat.beq f 31 with
 | false=>rw [hf] at h;exact sd f vs H v H' h
 | true =>
  rw [hf] at h
  have:=Nat.eq_of_beq_eq_true hf
  subst this
  dsimp only [cond_true] at h
  split at h
  ·rename_i es
   cases h3:(es.all (λx=>x.cells.length==1)&&Nat.ble es.length 1048576) with
   | false=>rw [h3] at h;cases h
   | true =>
    rw [h3] at h
    cases h
    simp only [Bool.and_eq_true,List.all_eq_true,beq_iff_eq] at h3
    exact d6 es h3.1 (Nat.le_of_ble_eq_true h3.2) H
  ·cases h
theorem Ij:EvOk AA (ab.evt [] RA):=ETree.ok yg (λ_ h=>by cases h) iS Vy
set_option maxRecDepth 100000
def ARL:ByteArray:=⟨#[97,108,112,104,97]⟩
def AEB:ByteArray:=⟨#[98,101,116,97]⟩
def thr:Policy:=⟨4,Pred.z,⟨#[]⟩,0,[⟨1,⟨3,⟨#[112,111,114,116]⟩,0,0,[]⟩,⟨#[]⟩,0,[]⟩,⟨2,Pred.z,⟨#[112,111,114,116]⟩,1,[]⟩]⟩
def ten(n:ByteArray)(k:Int):Tenant:=⟨n,[⟨⟨#[105,110]⟩,k⟩,⟨⟨#[111,117,116]⟩,k+1⟩],[],[⟨thr,Stp.z⟩],[],[]⟩
def c19:Contract:=⟨ARL,AEB,1,0,⟨3,⟨#[100,115,116]⟩,5,0,[]⟩,2,10,3⟩
def d19:Contract:=⟨AEB,ARL,0,0,⟨1,⟨#[]⟩,0,0,[]⟩,-1,0,0⟩
def AS7:Network:=⟨[⟨⟨#[97]⟩,false,100,100⟩,⟨⟨#[98]⟩,false,100,100⟩,⟨⟨#[99]⟩,true,100,100⟩,⟨⟨#[100]⟩,false,100,100⟩],
  [⟨0,1,10⟩,⟨1,3,10⟩,⟨0,2,10⟩,⟨2,3,10⟩,⟨1,2,10⟩,⟨3,0,10⟩],[⟨⟨#[101]⟩,0⟩,⟨⟨#[102]⟩,1⟩,⟨⟨#[103]⟩,2⟩,⟨⟨#[104]⟩,3⟩]⟩
def lN:Setup:=⟨AS7,[⟨⟨#[100,115,116]⟩,16,8⟩],[ten ARL 0,ten AEB 2],[c19]⟩
def b19:Setup:={ lN with contracts:=[c19,d19] }
def ADI(a b:Int):Head:={ Head.z with h0:=a,h1:=b }
def dv(t:Int)(h:Head)(ch:List AV):AV:=.agg (.int .i64 t::h.c++[.sl none ch])
def tZ:List AV:=[.sl none [],.sl none []]
def l7:List AV:=[dv 0 (ADI 10001 1024) []]
def lC:List AV:=[dv 1 (ADI 10003 1280) [.int .i64 0]]
def Ua:Setup:=⟨⟨[],[],[⟨⟨#[]⟩,0⟩,⟨⟨#[]⟩,0⟩,⟨⟨#[103]⟩,0⟩,⟨⟨#[104]⟩,0⟩]⟩,lN.fields,[ten AEB 2],[{ c19 with via:=-1 }]⟩
theorem ACT:DR AA 19 [.agg lN.c] (.tup [.int .i64 0,.int .i64 0]):=FV Ij 20000 rfl kr
theorem wj:DR AA 19 [.agg b19.c] (.tup [.int .i64 0,.int .i64 21]):=FV Ij 20000 rfl kr
theorem ACS:DR AA 20 [.agg lN.c,.int .i64 3] (.tup [.int .i64 1,.int .i64 1]):=FV Ij 20000 rfl kr
theorem ACN:DR AA 21 [.agg lN.c] (.sl none tZ):=FV Ij 20000 rfl kr
theorem AFo:DR AA 6 [.agg lN.c,(.sl none tZ),.agg (ADI 10000 1024).c,.int .i64 0] (.tup [(.sl none l7),(.sl none tZ),.int .i64 0]):=FV Ij 20000 rfl kr
theorem AFn:DR AA 6 [.agg lN.c,(.sl none tZ),.agg (ADI 10000 1280).c,.int .i64 0] (.tup [(.sl none lC),(.sl none tZ),.int .i64 0]):=FV Ij 20000 rfl kr
theorem wl:DR AA 22 [.agg lN.c,.int .i64 0,.int .i64 1] (.tup [.sl none [.sl none [.int .i64 0]],.int .i64 0]):=FV Ij 20000 rfl kr
theorem sJ:DR AA 22 [.agg lN.c,.int .i64 1,.int .i64 0] (.tup [.sl none [],.int .i64 0]):=FV Ij 20000 rfl kr
theorem wn:DR AA 23 [.agg lN.c,.int .i64 0,.int .i64 1] (.tup [.sl none [.int .i64 2],.int .i64 0]):=FV Ij 20000 rfl kr
theorem AFm:DR AA 24 [.agg lN.c,.int .i64 1] (.agg Ua.c):=FV Ij 20000 rfl kr
theorem ACV:DR AA 27 [.agg lN.c,.int .i64 0] (.int .i64 30):=FV Ij 20000 rfl kr
theorem ACU:DR AA 27 [.agg lN.c,.int .i64 1] (.int .i64 0):=FV Ij 20000 rfl kr
theorem ACR:DR AA 13 [(.sl none l7),(.sl none l7)] (.bool true):=FV Ij 20000 rfl kr
theorem ACQ:DR AA 13 [(.sl none lC),(.sl none lC)] (.bool true):=FV Ij 20000 rfl kr
theorem ACP:DR AA 25 [.sl none [.sl none [.int .i64 0]],.sl none [.sl none [.int .i64 0]]] (.bool true):=FV Ij 20000 rfl kr
theorem ACO:DR AA 26 [.sl none [.int .i64 2],.sl none [.int .i64 2]] (.bool true):=FV Ij 20000 rfl kr
theorem po{P:Program}{T:EvT}(E:EvOk P T)(k:Nat){hf:FuncId}{h:Hint}{n:Nat}{ar:Option Nat}{c:Code}{Q:Exit->Kt}{e e':Ee}{H H':DM}(hh:T.hs hf=h)(hr:W7 P T k (.code hf n ar c e H)=some (.st .normal e' H'))(hq:Q .normal e' H'):Hw P n h ar c Q e H:=by
 subst hh
 refine FH c _ _ _ _ (λex2 e2 H2 hx=>?_) (show Hw P n (T.hs hf) ar c (λex2 e2 H2=>ex2 = .normal/\e2=e'/\H2=H') e H from lO E k _ _ hr)
 obtain ⟨rfl,rfl,rfl⟩:=hx
 exact hq
theorem RD{P:Program}{T:EvT}(E:EvOk P T)(k:Nat){hf:FuncId}{h:Hint}{n:Nat}{ar:Option Nat}{a b:Code}{Q:Exit->Kt}{e e':Ee}{H H':DM}(hh:T.hs hf=h)(hr:W7 P T k (.code hf n ar a e H)=some (.st .normal e' H'))(hq:Hw P n h ar b Q e' H'):Hw P n h ar (.seq a b) Q e H :=
 po (Q:=xS (Hw P n h ar b Q) Q) E k hh hr hq
noncomputable def ASb:EvT:=ab.evt [] RA
noncomputable def dL(o:Option ROut):Ee:=match o with|some (.st .normal e _)=>e|_=>[]
noncomputable def Um(o:Option ROut):DM:=match o with|some (.st .normal _ H)=>H|_=>[]
def z8:Code->List Code
 | .seq a b=>z8 a++z8 b
 | c=>[c]
noncomputable def AaR(k:Nat):Code:=match Tryz.f5.body with
 | some c=>((z8 c)[k]?).getD .skip
 | none => .skip
noncomputable def san(k:Nat)(e:Ee)(H:DM):Option ROut:=W7 AA ASb 20000 (.code 5 203 none (AaR k) e H)
noncomputable def r0:Option ROut:=san 0 [] []
noncomputable def r1:Option ROut:=san 1 (dL r0) (Um r0)
noncomputable def r2:Option ROut:=san 2 (dL r1) (Um r1)
noncomputable def r3:Option ROut:=san 3 (dL r2) (Um r2)
theorem hs6:ASb.hs 5=h5:=kr
theorem r3E:dL r3=[(1,.ptr 7 0),(2,.ptr 15 0)]:=kr
theorem r3H:(Um r3)[7]? =some (some lN.c)/\(Um r3)[15]? =some (some b19.c)/\(Um r3).length=17:=⟨kr,kr,kr⟩
theorem xL(h:Head):GT [.int .i64 0,.int .i64 0,.int .i64 0,.int .i64 0,.int .i64 0,.int .i64 0,.int .i64 0,.int .i64 0,.int .i64 0,.int .i64 0,.sl (some 1) []] h.c=[.int .i64 h.h0,.int .i64 h.h1,.int .i64 h.h2,.int .i64 h.h3,.int .i64 h.h4,.int .i64 h.h5,.int .i64 h.h6,.int .i64 h.h7,.int .i64 h.h8,.int .i64 h.h9,.sl (some 1) []]:=rfl
theorem xJ(a b c d e f g i j k x y:AV):splice [a,b,c,d,e,f,g,i,j,k,x] 10 [y]=[a,b,c,d,e,f,g,i,j,k,y]:=rfl
theorem xM(x:Delivery)(w p:Option Nat)(n:Int):splice (x.cf w) 11 [.sl p [.int .i64 n]]=({ x with chain:=[n] }:Delivery).cf p:=rfl
theorem tj{α:Type}(a:α)(l r:List α):List.append (a::l) r=a::List.append l r:=rfl
theorem yv{α:Type}(r:List α):List.append [] r=r:=rfl
theorem AF1(H:DM)(a b:Option (List AV)):(H++[a]).set H.length b=H++[b]:=by rw [List.set_append_right _ _ DF,Nat.sub_self];rfl
theorem AF2(H:DM)(a:Option (List AV)):(H++[a])[H.length]? =some a:=sm
set_option maxHeartbeats 8000000 in
theorem pS:DR AA 5 [] (.bool true):=by
 refine pC AbC rfl ?_
 simp only [Tryz.f5,E9,tj,yv]
 refine RD Ij 20000 (e':=dL r0) (H':=Um r0) hs6 kr ?_
 refine RD Ij 20000 (e':=dL r1) (H':=Um r1) hs6 kr ?_
 refine RD Ij 20000 (e':=dL r2) (H':=Um r2) hs6 kr ?_
 refine RD Ij 20000 (e':=dL r3) (H':=Um r3) hs6 kr ?_
 rw [r3E]
 obtain ⟨h1,h2,h3⟩:=r3H
 generalize Um r3=H at h1 h2 h3 ⊢
 have hlt:=(List.getElem?_eq_some_iff.1 h1).1
 have g1 : ∀ z,(H++z)[7]? =some (some lN.c):=λz=>by rw [List.getElem?_append_left hlt];exact h1
 have gs:=AF1 H
 have gg:=AF2 H
 have f1:((tZ.length:Int) !=2)=false:=rfl
 have f2:((Ua.contracts.length:Int)==1)=true:=rfl
 have f3:(FI Ua.contracts)[0]? =some (.agg ({ c19 with via:=-1 }:Contract).c):=rfl
 have f4:(Ix Ua.network.edges)[1]? =some (.agg (Edge.c ⟨⟨#[]⟩,0⟩)):=rfl
 have f5:(Ix Ua.network.edges)[2]? =some (.agg (Edge.c ⟨⟨#[103]⟩,0⟩)):=rfl
 simp only [go_sem,h1,h2,g1,gs,gg]
 repeat' (first
  | ((first|refine aP (ACT) ?_|refine aP (wj) ?_|refine aP (ACS) ?_|refine pK (ACN) ?_|refine aP (AFo) ?_|refine aP (AFn) ?_|refine aP (wl) ?_|refine aP (sJ) ?_|refine aP (wn) ?_|refine aP (AFm) ?_|refine aP (ACV) ?_|refine aP (ACU) ?_|refine aP (DR.weak ACR) ?_|refine aP (DR.weak ACQ) ?_|refine aP (DR.weak ACP) ?_|refine aP (DR.weak ACO) ?_);simp only [go_sem,h1,h2,g1,gs,gg,f1,f2,f3,f4,f5,xL,xJ,xM,By,decide_true,Int.reduceBEq,Int.reduceBNe])
  | ((first|apply cS|apply gS)<;>(intro hc;simp only [go_sem,hc,h1,h2,g1,gs,gg,f1,f2,f3,f4,f5,xL,xJ,xM,By,decide_true,Int.reduceBEq,Int.reduceBNe])))
 exact absurd hc dc
end Go.AI
