/- A part. -/
import Derived.Test.YtmejnbhofjcibaaGreatDoorMy
set_option linter.unusedSimpArgs false
set_option linter.unusedVariables false
set_option linter.defProp false
open Nat renaming beq->CG
open Go.Proofs.Tryz renaming prog->AA
namespace Go.AI
open Go.Proofs
def kO{P:Program}{f:FuncId}{vs:List AV}{v:AV}(h:FT P f vs v):FT P f vs v.borrow:=λH =>
 ⟨(h H).1,λF G w us hc=>Calls.mono ((h H).2 F G w us hc) λe w' he=>by
  obtain⟨u,rfl,v',H2,G',⟨rfl,rfl⟩,hcr,hext⟩:=he
  exact⟨u,rfl,_,_,G',⟨rfl,rfl⟩,by simpa using hcr.lend,hext⟩⟩
def Gp {P:Program} {T:EvT} (E:EvOk P T) (k:Nat) {f:FuncId} {vs:List AV} {v:AV} (hp:FW vs=true)
  (h:(match XG P T k (.call f vs [])with|some (.val v2 _)=>if v2.pure=true then some v2.borrow else none|_=>none)=some v):FT P f vs v:=by
 cases hr:XG P T k (.call f vs [])with
 |none=>rw[hr]at h;cases h
 | some q =>
  rw[hr]at h
  cases q with
  |st _ _ _=>cases h
  | val v2 H2 =>
   dsimp only at h
   split at h
   ·rename_i hv
    cases h
    exact kO (FT.run E k hp hv (by rw[hr]))
   ·cases h
set_option maxRecDepth 50000
def ej(es:List AV)(he:∀x∈es,x.cells.length=1)(hl:es.length<=1048576)(H:cj):Fa AA 49 [.sl none es] H λv H'=>v = .sl (some 1) es/\H'=H:=by
 have h1:(0+es.length)*8<=140737488355328:=FR
 refine aC Aae rfl ?_
 cases es with
 |nil=>simp only[Tryz.f49,go_sem]
 |cons e es =>
  simp only[Tryz.f49,go_sem]
  simp only[List.length_cons]at hl
  exact⟨⟨he _ sm,λa ha=>he a (by simp[ha])⟩,FR,FR⟩
def R1:Orc:=λf vs H=>bif CG f 49 then
  match vs with
  |[.sl none es]=>bif es.all (λx=>x.cells.length==1)&&Nat.ble es.length 1048576 then some (.sl (some 1) es,H)else none
  |_=>none
 else lf f vs H
def ix:rX AA R1:=by
 intro f vs H v H' h
 unfold R1 at h
 cases hf:CG f 49 with
 |false=>rw[hf]at h;exact r8 f vs H v H' h
 | true =>
  rw[hf]at h
  have:=Nat.eq_of_beq_eq_true hf
  subst this
  dsimp only[cond_true]at h
  split at h
  ·rename_i es
   cases h3:(es.all (λx=>x.cells.length==1)&&Nat.ble es.length 1048576)with
   |false=>rw[h3]at h;cases h
   |true =>
    rw[h3]at h
    cases h
    simp only[Bool.and_eq_true,List.all_eq_true,beq_iff_eq]at h3
    exact ej es h3.1 (Nat.le_of_ble_eq_true h3.2) H
  ·cases h
def Jt:EvOk AA (al.evt [] R1):=ETree.ok AA5 (λ_ h=>by cases h) ix WB
set_option maxRecDepth 100000
def AVU:ByteArray:=⟨#[97,108,112,104,97]⟩
def AGE:ByteArray:=⟨#[98,101,116,97]⟩
def thr:Policy:=⟨4,Pred.z,⟨#[]⟩,0,[⟨1,⟨3,⟨#[112,111,114,116]⟩,0,0,[]⟩,⟨#[]⟩,0,[]⟩,⟨2,Pred.z,⟨#[112,111,114,116]⟩,1,[]⟩]⟩
def ten(n:ByteArray)(k:Int):Tenant:=⟨n,[⟨⟨#[105,110]⟩,k⟩,⟨⟨#[111,117,116]⟩,k+1⟩],[],[⟨thr,Stp.z⟩],[],[]⟩
def c19:Contract:=⟨AVU,AGE,1,0,⟨3,⟨#[100,115,116]⟩,5,0,[]⟩,2,10,3⟩
def d19:Contract:=⟨AGE,AVU,0,0,⟨1,⟨#[]⟩,0,0,[]⟩,-1,0,0⟩
def AXy:Network:=⟨[⟨⟨#[97]⟩,false,100,100⟩,⟨⟨#[98]⟩,false,100,100⟩,⟨⟨#[99]⟩,true,100,100⟩,⟨⟨#[100]⟩,false,100,100⟩],
  [⟨0,1,10⟩,⟨1,3,10⟩,⟨0,2,10⟩,⟨2,3,10⟩,⟨1,2,10⟩,⟨3,0,10⟩],[⟨⟨#[101]⟩,0⟩,⟨⟨#[102]⟩,1⟩,⟨⟨#[103]⟩,2⟩,⟨⟨#[104]⟩,3⟩]⟩
def li:Setup:=⟨AXy,[⟨⟨#[100,115,116]⟩,16,8⟩],[ten AVU 0,ten AGE 2],[c19]⟩
def b19:Setup:={ li with contracts:=[c19,d19] }
def AFJ(a b:Int):Head:={ Head.z with h0:=a,h1:=b }
def dv(t:Int)(h:Head)(ch:List AV):AV:=.agg (.int .i64 t::h.c++[.sl none ch])
def s9:List AV:=[.sl none [],.sl none []]
def mR:List AV:=[dv 0 (AFJ 10001 1024) []]
def lU:List AV:=[dv 1 (AFJ 10003 1280) [.int .i64 0]]
def Ut:Setup:=⟨⟨[],[],[⟨⟨#[]⟩,0⟩,⟨⟨#[]⟩,0⟩,⟨⟨#[103]⟩,0⟩,⟨⟨#[104]⟩,0⟩]⟩,li.fields,[ten AGE 2],[{ c19 with via:=-1 }]⟩
theorem AEQ:FT AA 23 [.agg li.c] (.tup [.int .i64 0,.int .i64 0]):=Gp Jt 20000 rfl kr
theorem zD:FT AA 23 [.agg b19.c] (.tup [.int .i64 0,.int .i64 21]):=Gp Jt 20000 rfl kr
theorem AEP:FT AA 24 [.agg li.c,.int .i64 3] (.tup [.int .i64 1,.int .i64 1]):=Gp Jt 20000 rfl kr
theorem AEK:FT AA 25 [.agg li.c] (.sl none s9):=Gp Jt 20000 rfl kr
theorem AHv:FT AA 16 [.agg li.c,(.sl none s9),.agg (AFJ 10000 1024).c,.int .i64 0] (.tup [(.sl none mR),(.sl none s9),.int .i64 0]):=Gp Jt 20000 rfl kr
theorem AHu:FT AA 16 [.agg li.c,(.sl none s9),.agg (AFJ 10000 1280).c,.int .i64 0] (.tup [(.sl none lU),(.sl none s9),.int .i64 0]):=Gp Jt 20000 rfl kr
theorem zE:FT AA 26 [.agg li.c,.int .i64 0,.int .i64 1] (.tup [.sl none [.sl none [.int .i64 0]],.int .i64 0]):=Gp Jt 20000 rfl kr
theorem rh:FT AA 26 [.agg li.c,.int .i64 1,.int .i64 0] (.tup [.sl none [],.int .i64 0]):=Gp Jt 20000 rfl kr
theorem zF:FT AA 27 [.agg li.c,.int .i64 0,.int .i64 1] (.tup [.sl none [.int .i64 2],.int .i64 0]):=Gp Jt 20000 rfl kr
theorem AHt:FT AA 8 [.agg li.c,.int .i64 1] (.agg Ut.c):=Gp Jt 20000 rfl kr
theorem AES:FT AA 29 [.agg li.c,.int .i64 0] (.int .i64 30):=Gp Jt 20000 rfl kr
theorem AER:FT AA 29 [.agg li.c,.int .i64 1] (.int .i64 0):=Gp Jt 20000 rfl kr
theorem AEO:FT AA 18 [(.sl none mR),(.sl none mR)] (.bool true):=Gp Jt 20000 rfl kr
theorem AEN:FT AA 18 [(.sl none lU),(.sl none lU)] (.bool true):=Gp Jt 20000 rfl kr
theorem AEM:FT AA 28 [.sl none [.sl none [.int .i64 0]],.sl none [.sl none [.int .i64 0]]] (.bool true):=Gp Jt 20000 rfl kr
theorem AEL:FT AA 17 [.sl none [.int .i64 2],.sl none [.int .i64 2]] (.bool true):=Gp Jt 20000 rfl kr
def ou{P:Program}{T:EvT}(E:EvOk P T)(k:Nat){hf:FuncId}{h:Hint}{n:Nat}{ar:Option Nat}{c:Code}{Q:Exit->Kt}{e e':Fs}{H H':cj}(hh:T.hs hf=h)(hr:XG P T k (.code hf n ar c e H)=some (.st .normal e' H'))(hq:Q .normal e' H'):JF P n h ar c Q e H:=by
 subst hh
 refine GZ c _ _ _ _ (λex2 e2 H2 hx=>?_) (show JF P n (T.hs hf) ar c (λex2 e2 H2=>ex2 = .normal/\e2=e'/\H2=H') e H from lj E k _ _ hr)
 obtain⟨rfl,rfl,rfl⟩:=hx
 exact hq
def R4{P:Program}{T:EvT}(E:EvOk P T)(k:Nat){hf:FuncId}{h:Hint}{n:Nat}{ar:Option Nat}{a b:Code}{Q:Exit->Kt}{e e':Fs}{H H':cj}(hh:T.hs hf=h)(hr:XG P T k (.code hf n ar a e H)=some (.st .normal e' H'))(hq:JF P n h ar b Q e' H'):JF P n h ar (.seq a b) Q e H :=
 ou (Q:=zp (JF P n h ar b Q) Q) E k hh hr hq
noncomputable def AXS:EvT:=al.evt [] R1
noncomputable def di(o:Option ROut):Fs:=match o with|some (.st .normal e _)=>e|_=>[]
noncomputable def U6(o:Option ROut):cj:=match o with|some (.st .normal _ H)=>H|_=>[]
def ACA:Code->List Code
 |.seq a b=>ACA a++ACA b
 |c=>[c]
noncomputable def Af1(k:Nat):Code:=match Tryz.f5.body with
 |some c=>((ACA c)[k]?).getD .skip
 |none => .skip
noncomputable def san(k:Nat)(e:Fs)(H:cj):Option ROut:=XG AA AXS 20000 (.code 5 203 none (Af1 k) e H)
noncomputable def r0:Option ROut:=san 0 [] []
noncomputable def r1:Option ROut:=san 1 (di r0) (U6 r0)
noncomputable def r2:Option ROut:=san 2 (di r1) (U6 r1)
noncomputable def r3:Option ROut:=san 3 (di r2) (U6 r2)
theorem hs6:AXS.hs 5=h5:=kr
theorem r3E:di r3=[(1,.ptr 7 0),(2,.ptr 15 0)]:=kr
theorem r3H:(U6 r3)[7]? =some (some li.c)/\(U6 r3)[15]? =some (some b19.c)/\(U6 r3).length=17:=⟨kr,kr,kr⟩
def zi(h:Head):Hq [.int .i64 0,.int .i64 0,.int .i64 0,.int .i64 0,.int .i64 0,.int .i64 0,.int .i64 0,.int .i64 0,.int .i64 0,.int .i64 0,.sl (some 1) []] h.c=[.int .i64 h.h0,.int .i64 h.h1,.int .i64 h.h2,.int .i64 h.h3,.int .i64 h.h4,.int .i64 h.h5,.int .i64 h.h6,.int .i64 h.h7,.int .i64 h.h8,.int .i64 h.h9,.sl (some 1) []]:=rfl
def zh(a b c d e f g i j k x y:AV):splice [a,b,c,d,e,f,g,i,j,k,x] 10 [y]=[a,b,c,d,e,f,g,i,j,k,y]:=rfl
def zj(x:Delivery)(w p:Option Nat)(n:Int):splice (x.cf w) 11 [.sl p [.int .i64 n]]=({ x with chain:=[n] }:Delivery).cf p:=rfl
def tI{α:Type}(a:α)(l r:List α):List.append (a::l) r=a::List.append l r:=rfl
def ABE{α:Type}(r:List α):List.append [] r=r:=rfl
def AH_(H:cj)(a b:Option (List AV)):(H++[a]).set H.length b=H++[b]:=by rw[List.set_append_right _ _ FR,Nat.sub_self];rfl
def AH'(H:cj)(a:Option (List AV)):(H++[a])[H.length]? =some a:=sm
set_option maxHeartbeats 8000000 in
def oO:FT AA 5 [] (.bool true):=by
 refine pC Agq rfl ?_
 simp only[Tryz.f5,GR,tI,ABE]
 refine R4 Jt 20000 (e':=di r0) (H':=U6 r0) hs6 kr ?_
 refine R4 Jt 20000 (e':=di r1) (H':=U6 r1) hs6 kr ?_
 refine R4 Jt 20000 (e':=di r2) (H':=U6 r2) hs6 kr ?_
 refine R4 Jt 20000 (e':=di r3) (H':=U6 r3) hs6 kr ?_
 rw[r3E]
 obtain⟨h1,h2,h3⟩:=r3H
 generalize U6 r3=H at h1 h2 h3 ⊢
 have hlt:=(List.getElem?_eq_some_iff.1 h1).1
 have g1:∀z,(H++z)[7]? =some (some li.c):=λz=>by rw[List.getElem?_append_left hlt];exact h1
 have gs:=AH_ H
 have gg:=AH' H
 have f1:((s9.length:Int) !=2)=false:=rfl
 have f2:((Ut.contracts.length:Int)==1)=true:=rfl
 have f3:(F8 Ut.contracts)[0]? =some (.agg ({ c19 with via:=-1 }:Contract).c):=rfl
 have f4:(JS Ut.network.edges)[1]? =some (.agg (Edge.c ⟨⟨#[]⟩,0⟩)):=rfl
 have f5:(JS Ut.network.edges)[2]? =some (.agg (Edge.c ⟨⟨#[103]⟩,0⟩)):=rfl
 simp only[go_sem,h1,h2,g1,gs,gg]
 repeat' (first|((first|refine aP (AEQ) ?_|refine aP (zD) ?_|refine aP (AEP) ?_|apply pK AEK|refine aP (AHv) ?_|refine aP (AHu) ?_|refine aP (zE) ?_|refine aP (rh) ?_|refine aP (zF) ?_|refine aP (AHt) ?_|refine aP (AES) ?_|refine aP (AER) ?_|refine aP (FT.weak AEO) ?_|refine aP (FT.weak AEN) ?_|refine aP (FT.weak AEM) ?_|refine aP (FT.weak AEL) ?_);simp only[go_sem,h1,h2,g1,gs,gg,f1,f2,f3,f4,f5,zi,zh,zj,FV,dT,Int.reduceBEq,Int.reduceBNe])|apply cg<;>intro hc<;>simp only[go_sem,hc,h1,h2,g1,gs,gg,f1,f2,f3,f4,f5,zi,zh,zj,FV,dT,Int.reduceBEq,Int.reduceBNe])
 exact absurd hc dc
end Go.AI
