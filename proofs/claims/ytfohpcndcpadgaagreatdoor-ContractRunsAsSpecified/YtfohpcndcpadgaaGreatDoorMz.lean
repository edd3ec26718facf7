/- Calls that are computed. -/
import Derived.Test.YtfohpcndcpadgaaGreatDoorMy
set_option linter.unusedSimpArgs false
set_option linter.unusedVariables false
set_option linter.defProp false
open Nat renaming beq->CJ
open Go.Proofs.Tryz renaming prog->AA
namespace Go.AI
open Go.Proofs
def mz{P:Program}{f:FuncId}{j:List AV}{v:AV}(h:Fm P f j v):Fm P f j v.borrow:=λH =>
 ⟨(h H).1,λF G w o p=>Calls.mono ((h H).2 F G w o p) λe C r=>by
  obtain⟨u,rfl,I,J,t,⟨rfl,rfl⟩,i,g⟩:=r;exact⟨u,rfl,_,_,t,⟨rfl,rfl⟩,by simpa using i.lend,g⟩⟩
def HS {P:Program} {T:EvT} (E:EvOk P T) (k:Nat) {f:FuncId} {g:List AV} {v:AV} (o:Fq g=true)
  (h:(match Y' P T k (.call f g [])with|some (.val i _)=>if i.pure=true then some i.borrow else none|_=>none)=some v):Fm P f g v:=by
 cases j:Y' P T k (.call f g [])with
 |none=>rw[j]at h;cases h
 | some q =>
  rw[j]at h;cases q with
  |st _ _ _=>cases h
  | val i r =>
   dsimp only at h;split at h
   ·rename_i p;cases h;exact mz (Fm.run E k o p (by rw[j]))
   ·cases h
set_option maxRecDepth 50000
def TK:Orc:=λf g H=>bif CJ f 35 then
  match g with
  |[.sl none es]=>bif es.all (λx=>x.cells.length==1)&&Nat.ble es.length 1048576 then some (.sl (some 1) es,H)else none
  |_=>none
 else oE f g H
def lV:uY AA TK:=by
 intro f i H v j h;unfold TK at h;cases g:CJ f 35 with
 |false=>rw[g]at h;exact u6 f i H v j h
 | true =>
  rw[g]at h;have:=Nat.eq_of_beq_eq_true g;subst this;dsimp only[cond_true]at h;split at h
  ·rename_i es;cases h3:(es.all (λx=>x.cells.length==1)&&Nat.ble es.length 1048576)with
   |false=>rw[h3]at h;cases h
   |true =>
    rw[h3]at h;cases h;simp only[Bool.and_eq_true,List.all_eq_true,beq_iff_eq]at h3;exact jA es h3.1 (Nat.le_of_ble_eq_true h3.2) H
  ·cases h
def Kd:EvOk AA (dS.evt [] TK):=ETree.ok ADl (λ_ h=>by cases h) lV Xq
set_option maxRecDepth 100000
def Aaf:ByteArray:=⟨#[97,108,112,104,97]⟩
def AI8:ByteArray:=⟨#[98,101,116,97]⟩
def thr:Policy:=⟨4,Pred.z,⟨#[]⟩,0,[⟨1,⟨3,⟨#[112,111,114,116]⟩,0,0,[]⟩,⟨#[]⟩,0,[]⟩,⟨2,Pred.z,⟨#[112,111,114,116]⟩,1,[]⟩]⟩
def ten(n:ByteArray)(k:Int):Tenant:=⟨n,[⟨⟨#[105,110]⟩,k⟩,⟨⟨#[111,117,116]⟩,k+1⟩],[],[⟨thr,Stp.z⟩],[],[]⟩
def c19:Contract:=⟨Aaf,AI8,1,0,⟨3,⟨#[100,115,116]⟩,5,0,[]⟩,2,10,3⟩
def d19:Contract:=⟨AI8,Aaf,0,0,⟨1,⟨#[]⟩,0,0,[]⟩,-1,0,0⟩
def AdG:Network:=⟨[⟨⟨#[97]⟩,false,100,100⟩,⟨⟨#[98]⟩,false,100,100⟩,⟨⟨#[99]⟩,true,100,100⟩,⟨⟨#[100]⟩,false,100,100⟩],
  [⟨0,1,10⟩,⟨1,3,10⟩,⟨0,2,10⟩,⟨2,3,10⟩,⟨1,2,10⟩,⟨3,0,10⟩],[⟨⟨#[101]⟩,0⟩,⟨⟨#[102]⟩,1⟩,⟨⟨#[103]⟩,2⟩,⟨⟨#[104]⟩,3⟩]⟩
def oH:Setup:=⟨AdG,[⟨⟨#[100,115,116]⟩,16,8⟩],[ten Aaf 0,ten AI8 2],[c19]⟩
def b19:Setup:={ oH with contracts:=[c19,d19] }
def AIB(a b:Int):Head:={ Head.z with h0:=a,h1:=b }
def dv(t:Int)(h:Head)(g:List AV):AV:=.agg (.int .i64 t::h.c++[.sl none g])
def vt:List AV:=[.sl none [],.sl none []]
def pF:List AV:=[dv 0 (AIB 10001 1024) []]
def n8:List AV:=[dv 1 (AIB 10003 1280) [.int .i64 0]]
def Wb:Setup:=⟨⟨[],[],[⟨⟨#[]⟩,0⟩,⟨⟨#[]⟩,0⟩,⟨⟨#[103]⟩,0⟩,⟨⟨#[104]⟩,0⟩]⟩,oH.fields,[ten AI8 2],[{ c19 with via:=-1 }]⟩
theorem AHD:Fm AA 21 [.agg oH.c] (.tup [.int .i64 0,.int .i64 0]):=HS Kd 20000 rfl kr
theorem AB1:Fm AA 21 [.agg b19.c] (.tup [.int .i64 0,.int .i64 21]):=HS Kd 20000 rfl kr
theorem AHC:Fm AA 22 [.agg oH.c,.int .i64 3] (.tup [.int .i64 1,.int .i64 1]):=HS Kd 20000 rfl kr
theorem AG9:Fm AA 13 [.agg oH.c] (.sl none vt):=HS Kd 20000 rfl kr
theorem AK2:Fm AA 6 [.agg oH.c,(.sl none vt),.agg (AIB 10000 1024).c,.int .i64 0] (.tup [(.sl none pF),(.sl none vt),.int .i64 0]):=HS Kd 20000 rfl kr
theorem AK1:Fm AA 6 [.agg oH.c,(.sl none vt),.agg (AIB 10000 1280).c,.int .i64 0] (.tup [(.sl none n8),(.sl none vt),.int .i64 0]):=HS Kd 20000 rfl kr
theorem AB2:Fm AA 23 [.agg oH.c,.int .i64 0,.int .i64 1] (.tup [.sl none [.sl none [.int .i64 0]],.int .i64 0]):=HS Kd 20000 rfl kr
theorem uf:Fm AA 23 [.agg oH.c,.int .i64 1,.int .i64 0] (.tup [.sl none [],.int .i64 0]):=HS Kd 20000 rfl kr
theorem AB3:Fm AA 24 [.agg oH.c,.int .i64 0,.int .i64 1] (.tup [.sl none [.int .i64 2],.int .i64 0]):=HS Kd 20000 rfl kr
theorem AK0:Fm AA 25 [.agg oH.c,.int .i64 1] (.agg Wb.c):=HS Kd 20000 rfl kr
theorem AHF:Fm AA 28 [.agg oH.c,.int .i64 0] (.int .i64 30):=HS Kd 20000 rfl kr
theorem AHE:Fm AA 28 [.agg oH.c,.int .i64 1] (.int .i64 0):=HS Kd 20000 rfl kr
theorem AHB:Fm AA 8 [(.sl none pF),(.sl none pF)] (.bool true):=HS Kd 20000 rfl kr
theorem AHA:Fm AA 8 [(.sl none n8),(.sl none n8)] (.bool true):=HS Kd 20000 rfl kr
theorem AG':Fm AA 26 [.sl none [.sl none [.int .i64 0]],.sl none [.sl none [.int .i64 0]]] (.bool true):=HS Kd 20000 rfl kr
theorem AG_:Fm AA 27 [.sl none [.int .i64 2],.sl none [.int .i64 2]] (.bool true):=HS Kd 20000 rfl kr
def rW{P:Program}{T:EvT}(E:EvOk P T)(k:Nat){i:FuncId}{h:Hint}{n:Nat}{j:Option Nat}{c:Code}{Q:Exit->Kt}{e o:GO}{H p:Fl}(C:T.hs i=h)(I:Y' P T k (.code i n j c e H)=some (.st .normal o p))(J:Q .normal o p):Jw P n h j c Q e H:=by
 subst C;refine G9 c _ _ _ _ (λg r t hx=>?_) (show Jw P n (T.hs i) j c (λg r t=>g = .normal/\r=o/\t=p) e H from oI E k _ _ I);obtain⟨rfl,rfl,rfl⟩:=hx;exact J
def TP{P:Program}{T:EvT}(E:EvOk P T)(k:Nat){i:FuncId}{h:Hint}{n:Nat}{g:Option Nat}{a b:Code}{Q:Exit->Kt}{e e':GO}{H H':Fl}(j:T.hs i=h)(o:Y' P T k (.code i n g a e H)=some (.st .normal e' H'))(p:Jw P n h g b Q e' H'):Jw P n h g (.seq a b) Q e H :=
 rW (Q:=ACd (Jw P n h g b Q) Q) E k j o p
noncomputable def Acj:EvT:=dS.evt [] TK
noncomputable def iJ(o:Option ROut):GO:=match o with|some (.st .normal e _)=>e|_=>[]
noncomputable def Wm(o:Option ROut):Fl:=match o with|some (.st .normal _ H)=>H|_=>[]
def AEr:Code->List Code
 |.seq a b=>AEr a++AEr b
 |c=>[c]
noncomputable def Akr(k:Nat):Code:=match Tryz.f5.body with
 |some c=>((AEr c)[k]?).getD .skip
 |none => .skip
noncomputable def san(k:Nat)(e:GO)(H:Fl):Option ROut:=Y' AA Acj 20000 (.code 5 203 none (Akr k) e H)
noncomputable def r0:Option ROut:=san 0 [] []
noncomputable def r1:Option ROut:=san 1 (iJ r0) (Wm r0)
noncomputable def r2:Option ROut:=san 2 (iJ r1) (Wm r1)
noncomputable def r3:Option ROut:=san 3 (iJ r2) (Wm r2)
theorem hs6:Acj.hs 5=h5:=kr
theorem r3E:iJ r3=[(1,.ptr 7 0),(2,.ptr 15 0)]:=kr
theorem r3H:(Wm r3)[7]? =some (some oH.c)/\(Wm r3)[15]? =some (some b19.c)/\(Wm r3).length=17:=⟨kr,kr,kr⟩
def ACV(h:Head):G8 [.int .i64 0,.int .i64 0,.int .i64 0,.int .i64 0,.int .i64 0,.int .i64 0,.int .i64 0,.int .i64 0,.int .i64 0,.int .i64 0,.sl (some 1) []] h.c=[.int .i64 h.h0,.int .i64 h.h1,.int .i64 h.h2,.int .i64 h.h3,.int .i64 h.h4,.int .i64 h.h5,.int .i64 h.h6,.int .i64 h.h7,.int .i64 h.h8,.int .i64 h.h9,.sl (some 1) []]:=rfl
def ACU(a b c d e f g i j k x y:AV):splice [a,b,c,d,e,f,g,i,j,k,x] 10 [y]=[a,b,c,d,e,f,g,i,j,k,y]:=rfl
def ACW(x:Delivery)(w p:Option Nat)(n:Int):splice (x.cf w) 11 [.sl p [.int .i64 n]]=({ x with chain:=[n] }:Delivery).cf p:=rfl
def wA{α:Type}(a:α)(l r:List α):List.append (a::l) r=a::List.append l r:=rfl
def ADw{α:Type}(r:List α):List.append [] r=r:=rfl
def ALH(H:Fl)(a b:Option (List AV)):(H++[a]).set H.length b=H++[b]:=by rw[List.set_append_right _ _ Fj,Nat.sub_self];rfl
def ALI(H:Fl)(a:Option (List AV)):(H++[a])[H.length]? =some a:=F3
set_option maxHeartbeats 8000000 in
def rC:Fm AA 5 [] (.bool true):=by
 refine pC Alp rfl ?_;simp only[Tryz.f5,Gw,wA,ADw];refine TP Kd 20000 (e':=iJ r0) (H':=Wm r0) hs6 kr ?_;refine TP Kd 20000 (e':=iJ r1) (H':=Wm r1) hs6 kr ?_;refine TP Kd 20000 (e':=iJ r2) (H':=Wm r2) hs6 kr ?_;refine TP Kd 20000 (e':=iJ r3) (H':=Wm r3) hs6 kr ?_;rw[r3E];obtain⟨g,i,h3⟩:=r3H;generalize Wm r3=H at g i h3 ⊢;have j:=(List.getElem?_eq_some_iff.1 g).1;have o:∀z,(H++z)[7]? =some (some oH.c):=λz=>by rw[List.getElem?_append_left j];exact g
 have p:=ALH H;have r:=ALI H;have f1:((vt.length:Int) !=2)=false:=rfl;have f2:((Wb.contracts.length:Int)==1)=true:=rfl;have f3:(HA Wb.contracts)[0]? =some (.agg ({ c19 with via:=-1 }:Contract).c):=rfl;have f4:(Kr Wb.network.edges)[1]? =some (.agg (Edge.c ⟨⟨#[]⟩,0⟩)):=rfl;have f5:(Kr Wb.network.edges)[2]? =some (.agg (Edge.c ⟨⟨#[103]⟩,0⟩)):=rfl;simp only[go_sem,g,i,o,p,r];repeat' (first|((first|refine aP (AHD) ?_|refine aP (AB1) ?_|refine aP (AHC) ?_|apply pK AG9|refine aP (AK2) ?_|refine aP (AK1) ?_|refine aP (AB2) ?_|refine aP (uf) ?_|refine aP (AB3) ?_|refine aP (AK0) ?_|refine aP (AHF) ?_|refine aP (AHE) ?_|refine aP (Fm.weak AHB) ?_|refine aP (Fm.weak AHA) ?_|refine aP (Fm.weak AG') ?_|refine aP (Fm.weak AG_) ?_);simp only[go_sem,g,i,o,p,r,f1,f2,f3,f4,f5,ACV,ACU,ACW,Fk,dT,Int.reduceBEq,Int.reduceBNe])|apply Pz<;>intro t<;>simp only[go_sem,t,g,i,o,p,r,f1,f2,f3,f4,f5,ACV,ACU,ACW,Fk,dT,Int.reduceBEq,Int.reduceBNe])
 exact absurd t dc
end Go.AI
