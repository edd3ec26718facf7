/- A part. -/
import Derived.Test.YtmejnbhofjcibaaGreatDoorProg
import Derived.Test.YtmejnbhofjcibaaGreatDoorLi
set_option linter.unusedSimpArgs false
set_option linter.unusedVariables false
set_option linter.defProp false
open Go.Proofs.Tryz
open Go.AI renaming Hint->Eg
open Eq renaming trans->AG
open Go.Proofs.Tryz renaming prog->AA
namespace Go.AI
open Go.Proofs
def T8{p0 p1 p2 p3 p4 p5 p6 p7 p8 p9 p10 p11:Prop}(hp0:p0 := by kernel_rfl)(hp1:p1 := by kernel_rfl)(hp2:p2 := by kernel_rfl)(hp3:p3 := by kernel_rfl)(hp4:p4 := by kernel_rfl)(hp5:p5 := by kernel_rfl)(hp6:p6 := by kernel_rfl)(hp7:p7 := by kernel_rfl)(hp8:p8 := by kernel_rfl)(hp9:p9 := by kernel_rfl)(hp10:p10 := by kernel_rfl)(hp11:p11 := by kernel_rfl):p0/\p1/\p2/\p3/\p4/\p5/\p6/\p7/\p8/\p9/\p10/\p11:=⟨hp0,hp1,hp2,hp3,hp4,hp5,hp6,hp7,hp8,hp9,hp10,hp11⟩
def Fv:List (List Nat)->Nat->List Nat
 |[],_=>[]
 |x::_,0=>x
 |_::r,k+1=>Fv r k
def AX0(x:List Nat)(r:List (List Nat)):Fv (x::r) 0=x:=AG rfl rfl
def AXz(x:List Nat)(r:List (List Nat))(k:Nat):Fv (x::r) (k+1)=Fv r k:=AG rfl rfl
def AGz:∀(l:List Nat) (j k:Nat),((lvM j l).lookup (j+k)).getD []=Fv (l.map AC3) k
 |[],j,k=>by simp[lvM,Fv]
 |m::l,j,0=>by simp[lvM,Fv]
 |m::l,j,k+1=>by
  have h:(j+(k+1)==j)=false:=sm
  rw[lvM,List.lookup_cons,h]
  have := AGz l (j+1) k
  rw[show j+1+k=j+(k+1) by omega]at this
  exact this
def Fz{h:Eg}{l:List Nat}{L:List (List Nat)}(e:h.live=lvM 0 l)(hL:l.map AC3=L):h.lv=Fv L:=by
 subst hL
 funext k
 have := AGz l 0 k
 rw[Nat.zero_add]at this
 show(h.live.lookup k).getD []=_
 rw[e];exact this
def F3{P:Program}{n:FuncId}{f:Func}{h:Eg}(g:P.funcs[n]? =some f)(m:P.follows .mixedOrders=true := by kernel_rfl)(d:f.body.any (Ga h)=true := by kernel_rfl)(c:HS P n=true := by kernel_rfl):FK P n f h:=⟨m,d,g,c⟩
def F9(h:Eg)(a:h.gc=[] := by rfl)(b:h.fz=[] := by rfl)(c:h.dy=[] := by rfl):(∀k,h.ct k=none)/\(∀k,h.at k=[])/\(∀k,h.dn k=false):=nL h a b c
def ACZ:AA.cellsOf 3=1/\AA.bytesOf 3=8/\JH AA 3=some none/\AA.underlying 3=some (.int .i64)/\GW AA 3=true/\(AA.info? 3).isSome=true/\Fk AA 3=some (.int .i64 0)/\AA.cellsOf 4=1/\AA.bytesOf 4=1/\JH AA 4=some none/\V1 AA 4=true/\(AA.info? 4).isSome=true:=T8
def AEI:Fk AA 4=some (.bool false)/\AA.cellsOf 9=1/\AA.bytesOf 9=16/\JH AA 9=some none/\AA.underlying 9=some .string/\GW AA 9=true/\(AA.info? 9).isSome=true/\AA.cellsOf 22=1/\JH AA 22=some none/\AA.underlying 22=some (.slice 140)/\AA.cellsOf 23=1/\JH AA 23=some none:=T8
def AXQ:AA.underlying 23=some (.slice 152)/\AA.cellsOf 24=1/\JH AA 24=some none/\AA.underlying 24=some (.slice 96)/\AA.cellsOf 26=3/\JH AA 26=some (some 3)/\Fb AA 26 0=some (22,0)/\Fb AA 26 1=some (23,1)/\Fb AA 26 2=some (24,2)/\AA.cellsOf 27=1/\JH AA 27=some none/\AA.underlying 27=some (.slice 99):=T8
def AId:gU AA 27=true/\AA.cellsOf 28=1/\JH AA 28=some none/\AA.underlying 28=some (.slice 56)/\AA.cellsOf 29=1/\JH AA 29=some none/\AA.underlying 29=some (.slice 68)/\AA.cellsOf 31=6/\JH AA 31=some (some 6)/\KE AA 31 = .struct [(0,3),(3,1),(4,1),(5,1)]/\Fb AA 31 0=some (26,0)/\Fb AA 31 1=some (27,3):=T8
def nY:Fb AA 31 2=some (28,4)/\Fb AA 31 3=some (29,5)/\AA.cellsOf 34=10/\AA.bytesOf 34=80/\JH AA 34=some (some 10)/\AA.underlying 34=some (.array 10 3)/\GW AA 34=true/\(AA.info? 34).isSome=true/\KE AA 34 = .array 1/\AA.cellsOf 45=1/\AA.bytesOf 45=24/\JH AA 45=some none:=T8
def AXO:AA.underlying 45=some (.slice 3)/\gU AA 45=true/\GW AA 45=true/\AA.cellsOf 46=1/\JH AA 46=some none/\Fk AA 46=some (.int .i64 0)/\AA.cellsOf 48=1/\JH AA 48=some none/\AA.underlying 48=some (.slice 117)/\AA.cellsOf 51=1/\JH AA 51=some none/\AA.underlying 51=some (.slice 104):=T8
def xc:AA.cellsOf 52=1/\JH AA 52=some none/\AA.underlying 52=some (.slice 155)/\AA.cellsOf 53=1/\JH AA 53=some none/\AA.underlying 53=some (.slice 161)/\AA.cellsOf 54=1/\JH AA 54=some none/\AA.underlying 54=some (.slice 164)/\AA.cellsOf 56=6/\JH AA 56=some (some 6)/\GW AA 56=true:=T8
def nX:Fb AA 56 0=some (9,0)/\Fb AA 56 1=some (51,1)/\Fb AA 56 2=some (52,2)/\Fb AA 56 3=some (48,3)/\Fb AA 56 4=some (53,4)/\Fb AA 56 5=some (54,5)/\AA.cellsOf 64=1/\JH AA 64=some none/\AA.underlying 64=some (.slice 66)/\AA.cellsOf 66=5/\AA.bytesOf 66=64/\JH AA 66=some (some 5):=T8
def zA:GW AA 66=true/\(AA.info? 66).isSome=true/\KE AA 66 = .struct [(0,1),(1,1),(2,1),(3,1),(4,1)]/\Fb AA 66 0=some (3,0)/\Fb AA 66 1=some (9,1)/\Fb AA 66 2=some (3,2)/\Fb AA 66 3=some (3,3)/\Fb AA 66 4=some (64,4)/\AA.cellsOf 68=12/\AA.bytesOf 68=136/\JH AA 68=some (some 12)/\GW AA 68=true:=T8
def AIg:(AA.info? 68).isSome=true/\Fb AA 68 0=some (9,0)/\Fb AA 68 1=some (9,1)/\Fb AA 68 2=some (3,2)/\Fb AA 68 3=some (3,3)/\Fb AA 68 4=some (66,4)/\Fb AA 68 5=some (3,9)/\Fb AA 68 6=some (3,10)/\Fb AA 68 7=some (3,11)/\AA.cellsOf 96=2/\AA.bytesOf 96=24/\JH AA 96=some (some 2):=T8
def AIf:(AA.info? 96).isSome=true/\Fb AA 96 0=some (9,0)/\Fb AA 96 1=some (3,1)/\AA.cellsOf 99=3/\AA.bytesOf 99=32/\JH AA 99=some (some 3)/\GW AA 99=true/\KE AA 99 = .struct [(0,1),(1,1),(2,1)]/\Fb AA 99 0=some (9,0)/\Fb AA 99 1=some (3,1)/\Fb AA 99 2=some (3,2)/\AA.cellsOf 104=2:=T8
def AIW:JH AA 104=some (some 2)/\Fb AA 104 0=some (9,0)/\Fb AA 104 1=some (3,1)/\AA.cellsOf 107=4/\AA.bytesOf 107=56/\JH AA 107=some (some 4)/\GW AA 107=true/\(AA.info? 107).isSome=true/\KE AA 107 = .struct [(0,1),(1,1),(2,1),(3,1)]/\Fb AA 107 0=some (9,0)/\Fb AA 107 1=some (45,1)/\Fb AA 107 2=some (3,2):=T8
def iM:Fb AA 107 3=some (3,3)/\AA.cellsOf 110=1/\JH AA 110=some none/\AA.underlying 110=some (.slice 112)/\AA.cellsOf 112=9/\AA.bytesOf 112=120/\JH AA 112=some (some 9)/\GW AA 112=true/\(AA.info? 112).isSome=true/\KE AA 112 = .struct [(0,1),(1,5),(6,1),(7,1),(8,1)]/\Fb AA 112 0=some (3,0)/\Fb AA 112 1=some (66,1):=T8
def iL:Fb AA 112 2=some (9,6)/\Fb AA 112 3=some (3,7)/\Fb AA 112 4=some (110,8)/\AA.cellsOf 113=1/\JH AA 113=some none/\AA.underlying 113=some (.slice 9)/\AA.cellsOf 115=6/\JH AA 115=some (some 6)/\KE AA 115 = .struct [(0,1),(1,1),(2,1),(3,1),(4,1),(5,1)]/\Fb AA 115 0=some (3,0)/\Fb AA 115 1=some (9,1)/\Fb AA 115 2=some (113,2):=T8
def iK:Fb AA 115 3=some (9,3)/\Fb AA 115 4=some (3,4)/\Fb AA 115 5=some (3,5)/\AA.cellsOf 117=15/\AA.bytesOf 117=200/\JH AA 117=some (some 15)/\GW AA 117=true/\KE AA 117 = .struct [(0,9),(9,6)]/\Fb AA 117 0=some (112,0)/\Fb AA 117 1=some (115,9)/\AA.cellsOf 140=4/\JH AA 140=some (some 4):=T8
def iI:Fb AA 140 0=some (9,0)/\Fb AA 140 1=some (4,1)/\Fb AA 140 2=some (3,2)/\Fb AA 140 3=some (3,3)/\AA.cellsOf 152=3/\JH AA 152=some (some 3)/\Fb AA 152 0=some (3,0)/\Fb AA 152 1=some (3,1)/\Fb AA 152 2=some (3,2)/\AA.cellsOf 155=2/\JH AA 155=some (some 2)/\Fb AA 155 0=some (3,0):=T8
def iH:Fb AA 155 1=some (3,1)/\AA.cellsOf 157=1/\JH AA 157=some none/\AA.underlying 157=some (.slice 159)/\AA.cellsOf 159=3/\JH AA 159=some (some 3)/\Fb AA 159 0=some (3,0)/\Fb AA 159 1=some (9,1)/\Fb AA 159 2=some (157,2)/\AA.cellsOf 161=8/\Fb AA 161 0=some (66,0)/\Fb AA 161 1=some (159,5):=T8
def oG:AA.cellsOf 164=4/\JH AA 164=some (some 4)/\Fb AA 164 0=some (3,0)/\Fb AA 164 1=some (3,1)/\Fb AA 164 2=some (3,2)/\Fb AA 164 3=some (3,3)/\AA.cellsOf 264=2/\JH AA 264=some (some 2)/\KE AA 264 = .struct [(0,1),(1,1)]/\Fb AA 264 0=some (3,0)/\Fb AA 264 1=some (3,1):=⟨kr,kr,kr,kr,kr,kr,kr,kr,kr,kr,kr⟩
def mixed:AA.follows .mixedOrders=true:=kr
def vQ:Eg:=hm [28,16] [] [] []
def ANM:vQ.lv=Fv [[2,3,4],[4]]:=Fz rfl dk
def ANL:=F9 vQ
def ANK:vQ.tk=[]/\vQ.mt=[]/\vQ.pc=[]:=⟨rfl,rfl,rfl⟩
def ANN:FK AA 224 f224 vQ:=F3 func224
def wM:Eg:=hm [6,14,30,1054,30,30,4] [] [] [19,20]
def AQl:wM.lv=Fv [[1,2],[1,2,3],[1,2,3,4],[1,2,3,4,10],[1,2,3,4],[1,2,3,4],[2]]:=Fz rfl dk
def AQk:=F9 wM
def AQj:wM.tk=[]/\wM.mt=[]/\wM.pc=[19,20]:=⟨rfl,rfl,rfl⟩
def ABu:FK AA 162 f162 wM:=F3 func162
def uu:Eg:=hm [6,14,270,14,30,262174,30,30,4] [] [] [12,13,27,28]
def ALb:uu.lv=Fv [[1,2],[1,2,3],[1,2,3,8],[1,2,3],[1,2,3,4],[1,2,3,4,18],[1,2,3,4],[1,2,3,4],[2]]:=Fz rfl dk
def ALa:=F9 uu
def ALZ:uu.tk=[]/\uu.mt=[]/\uu.pc=[12,13,27,28]:=⟨rfl,rfl,rfl⟩
def ABj:FK AA 277 f277 uu:=F3 func277
def vT:Eg:=hm [2,10,24,4] [] [] [6,9]
def ANW:vT.lv=Fv [[1],[1,3],[3,4],[2]]:=Fz rfl dk
def ANV:=F9 vT
def ANU:vT.tk=[]/\vT.mt=[]/\vT.pc=[6,9]:=⟨rfl,rfl,rfl⟩
def ANX:FK AA 221 f221 vT:=F3 func221
def wQ:Eg:=hm [1,9,4105,9,25,4294967305,4,4] [33] [] [20]
def AQz:wQ.lv=Fv [[0],[0,3],[0,3,12],[0,3],[0,3,4],[0,3,32],[2],[2]]:=Fz rfl dk
def AQy:=F9 wQ
def AQx:wQ.tk=[33]/\wQ.mt=[]/\wQ.pc=[20]:=⟨rfl,rfl,rfl⟩
def ABw:FK AA 158 f158 wQ:=F3 func158
def wP:Eg:=hm [2,10,26,538,26,26,4194312,8,4] [] [] [18]
def AQw:wP.lv=Fv [[1],[1,3],[1,3,4],[1,3,4,9],[1,3,4],[1,3,4],[3,22],[3],[2]]:=Fz rfl dk
def AQv:=F9 wP
def AQu:wP.tk=[]/\wP.mt=[]/\wP.pc=[18]:=⟨rfl,rfl,rfl⟩
def ABv:FK AA 159 f159 wP:=F3 func159
def vS:Eg:=hm [2,10,26,538,26,26,4194312,8,4] [] [] [18]
def ANT:vS.lv=Fv [[1],[1,3],[1,3,4],[1,3,4,9],[1,3,4],[1,3,4],[3,22],[3],[2]]:=Fz rfl dk
def ANS:=F9 vS
def ANR:vS.tk=[]/\vS.mt=[]/\vS.pc=[18]:=⟨rfl,rfl,rfl⟩
def ABr:FK AA 222 f222 vS:=F3 func222
def wO:Eg:=hm [2,10,24,4] [] [] [6,8]
def AQs:wO.lv=Fv [[1],[1,3],[3,4],[2]]:=Fz rfl dk
def AQr:=F9 wO
def AQq:wO.tk=[]/\wO.mt=[]/\wO.pc=[6,8]:=⟨rfl,rfl,rfl⟩
def AQt:FK AA 160 f160 wO:=F3 func160
def h92:Eg:=hm [2,8,4] [] [] [5]
def AYf:h92.lv=Fv [[1],[3],[2]]:=Fz rfl dk
def AYe:=F9 h92
def AYd:h92.tk=[]/\h92.mt=[]/\h92.pc=[5]:=⟨rfl,rfl,rfl⟩
def AYg:FK AA 92 f92 h92:=F3 func92
def vR:Eg:=hm [6,14,30,1054,30,30,4] [] [] [19,20]
def ANQ:vR.lv=Fv [[1,2],[1,2,3],[1,2,3,4],[1,2,3,4,10],[1,2,3,4],[1,2,3,4],[2]]:=Fz rfl dk
def ANP:=F9 vR
def ANO:vR.tk=[]/\vR.mt=[]/\vR.pc=[19,20]:=⟨rfl,rfl,rfl⟩
def ABq:FK AA 223 f223 vR:=F3 func223
def wN:Eg:=hm [2,8,4] [] [] [5]
def AQo:wN.lv=Fv [[1],[3],[2]]:=Fz rfl dk
def AQn:=F9 wN
def AQm:wN.tk=[]/\wN.mt=[]/\wN.pc=[5]:=⟨rfl,rfl,rfl⟩
def AQp:FK AA 161 f161 wN:=F3 func161
def h91:Eg:=hm [2,10,68719476738,4,18,2199023255570,18,0x2000000000000012,4,34,0x40000000000000022,34,98,226,0x10000000000000000000022,4,4] [] [] [10,50,59,75,82]
def AYj:h91.lv=Fv [[1],[1,3],[1,36],[2],[1,4],[1,4,41],[1,4],[1,4,61],[2],[1,5],[1,5,66],[1,5],[1,5,6],[1,5,6,7],[1,5,88],[2],[2]]:=Fz rfl dk
def AYi:=F9 h91
def AYh:h91.tk=[]/\h91.mt=[]/\h91.pc=[10,50,59,75,82]:=⟨rfl,rfl,rfl⟩
def AG7:FK AA 91 f91 h91:=F3 func91
def wI:Eg:=hm [1,9,521,9,25,57,0x800000000009,4,4] [] [] []
def AQV:wI.lv=Fv [[0],[0,3],[0,3,9],[0,3],[0,3,4],[0,3,4,5],[0,3,47],[2],[2]]:=Fz rfl dk
def AQU:=F9 wI
def AQT:wI.tk=[]/\wI.mt=[]/\wI.pc=[]:=⟨rfl,rfl,rfl⟩
def AQW:FK AA 166 f166 wI:=F3 func166
def uq:Eg:=hm [6,16] [] [] []
def ALP:uq.lv=Fv [[1,2],[4]]:=Fz rfl dk
def ALO:=F9 uq
def ALN:uq.tk=[]/\uq.mt=[]/\uq.pc=[]:=⟨rfl,rfl,rfl⟩
def ALQ:FK AA 280 f280 uq:=F3 func280
def ut:Eg:=hm [6,16] [] [] [7]
def ALX:ut.lv=Fv [[1,2],[4]]:=Fz rfl dk
def ALW:=F9 ut
def ALV:ut.tk=[]/\ut.mt=[]/\ut.pc=[7]:=⟨rfl,rfl,rfl⟩
def ALY:FK AA 278 f278 ut:=F3 func278
def vP:Eg:=hm [12,44,262156,16,76,8388684,76,204,17179869260,16,332,137438953804,332,4503599627370828,16,524,0x20000000000020c,524,1548,0x800000000000000060c,16,3596,0x40000000000000000e0c,3596,0x100000000000000000000e0c,16,4104,0x2000000000000000000001008,4104,0x800000000000000000000000001008,16,12296,0x4000000000000000000000000003008,12296,0x20000000000000000000000000000003008,16,16] [] [] [16,32,107,117]
def ANI:vP.lv=Fv [[2,3],[2,3,5],[2,3,18],[4],[2,3,6],[2,3,6,23],[2,3,6],[2,3,6,7],[2,3,6,34],[4],[2,3,6,8],[2,3,6,8,37],[2,3,6,8],[2,3,6,8,52],[4],[2,3,9],[2,3,9,57],[2,3,9],[2,3,9,10],[2,3,9,10,75],[4],[2,3,9,10,11],[2,3,9,10,11,78],[2,3,9,10,11],[2,3,9,10,11,92],[4],[3,12],[3,12,97],[3,12],[3,12,119],[4],[3,12,13],[3,12,13,122],[3,12,13],[3,12,13,137],[4],[4]]:=Fz rfl dk
def ANH:=F9 vP
def ANG:vP.tk=[]/\vP.mt=[]/\vP.pc=[16,32,107,117]:=⟨rfl,rfl,rfl⟩
def ANJ:FK AA 225 f225 vP:=F3 func225
def uQ:Eg:=hm [2,1024,4,4] [] [] []
def AJ2:uQ.lv=Fv [[1],[10],[2],[2]]:=Fz rfl dk
def AJ1:=F9 uQ
def AJ0:uQ.tk=[]/\uQ.mt=[]/\uQ.pc=[]:=⟨rfl,rfl,rfl⟩
def AJ3:FK AA 323 f323 uQ:=F3 func323
def uo:Eg:=hm [6,34,8224,16,16] [] [] [7]
def ALI:uo.lv=Fv [[1,2],[1,5],[5,13],[4],[4]]:=Fz rfl dk
def ALH:=F9 uo
def ALG:uo.tk=[]/\uo.mt=[]/\uo.pc=[7]:=⟨rfl,rfl,rfl⟩
def ALJ:FK AA 282 f282 uo:=F3 func282
def h64:Eg:=hm [12,2199023255564,16,44,70368744177708,44,108,0x200000000000002c,16,16] [] [] [59]
def AaF:h64.lv=Fv [[2,3],[2,3,41],[4],[2,3,5],[2,3,5,46],[2,3,5],[2,3,5,6],[2,3,5,61],[4],[4]]:=Fz rfl dk
def AaE:=F9 h64
def AaD:h64.tk=[]/\h64.mt=[]/\h64.pc=[59]:=⟨rfl,rfl,rfl⟩
def AG':FK AA 64 f64 h64:=F3 func64
def uE:Eg:=hm [1,4] [] [] []
def AJG:uE.lv=Fv [[0],[2]]:=Fz rfl dk
def AJF:=F9 uE
def AJE:uE.tk=[]/\uE.mt=[]/\uE.pc=[]:=⟨rfl,rfl,rfl⟩
def AJH:FK AA 354 f354 uE:=F3 func354
def uD:Eg:=hm [1,9,25,537,25,131097,4,4] [] [] [5]
def AJC:uD.lv=Fv [[0],[0,3],[0,3,4],[0,3,4,9],[0,3,4],[0,3,4,17],[2],[2]]:=Fz rfl dk
def AJB:=F9 uD
def AJA:uD.tk=[]/\uD.mt=[]/\uD.pc=[5]:=⟨rfl,rfl,rfl⟩
def AJD:FK AA 355 f355 uD:=F3 func355
def uA:Eg:=hm [1,4] [] [] []
def AI2:uA.lv=Fv [[0],[2]]:=Fz rfl dk
def AI1:=F9 uA
def AI0:uA.tk=[]/\uA.mt=[]/\uA.pc=[]:=⟨rfl,rfl,rfl⟩
def AI3:FK AA 380 f380 uA:=F3 func380
def uB:Eg:=hm [1,9,25,4] [] [] [6,8]
def AI6:uB.lv=Fv [[0],[0,3],[0,3,4],[2]]:=Fz rfl dk
def AI5:=F9 uB
def AI4:uB.tk=[]/\uB.mt=[]/\uB.pc=[6,8]:=⟨rfl,rfl,rfl⟩
def AI7:FK AA 372 f372 uB:=F3 func372
def uC:Eg:=hm [1,9,265,25,16393,9,4] [] [] [12]
def AI_:uC.lv=Fv [[0],[0,3],[0,3,8],[0,3,4],[0,3,14],[0,3],[2]]:=Fz rfl dk
def AI9:=F9 uC
def AI8:uC.tk=[]/\uC.mt=[]/\uC.pc=[12]:=⟨rfl,rfl,rfl⟩
def AI':FK AA 356 f356 uC:=F3 func356
def uF:Eg:=hm [1,4097,4,9,25,4] [] [] [15,17,21]
def AJK:uF.lv=Fv [[0],[0,12],[2],[0,3],[0,3,4],[2]]:=Fz rfl dk
def AJJ:=F9 uF
def AJI:uF.tk=[]/\uF.mt=[]/\uF.pc=[15,17,21]:=⟨rfl,rfl,rfl⟩
def AJL:FK AA 346 f346 uF:=F3 func346
def uP:Eg:=hm [1,4] [] [] [4]
def AJy:uP.lv=Fv [[0],[2]]:=Fz rfl dk
def AJx:=F9 uP
def AJw:uP.tk=[]/\uP.mt=[]/\uP.pc=[4]:=⟨rfl,rfl,rfl⟩
def AJz:FK AA 324 f324 uP:=F3 func324
def uK:Eg:=hm [1,9,4] [] [] [5]
def AJe:uK.lv=Fv [[0],[0,3],[2]]:=Fz rfl dk
def AJd:=F9 uK
def AJc:uK.tk=[]/\uK.mt=[]/\uK.pc=[5]:=⟨rfl,rfl,rfl⟩
def AJf:FK AA 329 f329 uK:=F3 func329
def ue:Eg:=hm [2,10,26,58,122,250,34359738618,103079215354,103079215354,194,1133871366394,194,0x80008000000fa,194,0x800000008000000ea,194,0x80000000000008000000e2,130,194,0x400000000000008000000e2,0x400000000000008000000e2,130,194,0x4000000000000000000000c2,194,0x10000000000000000000000000000042,4,322,0x80000000000000000000000000000142,322,834,0x20000000000000000000000000000000142,4,4] [] [] [12,135]
def AKm:ue.lv=Fv [[1],[1,3],[1,3,4],[1,3,4,5],[1,3,4,5,6],[1,3,4,5,6,7],[1,3,4,5,6,7,35],[1,3,4,5,6,7,35,36],[1,3,4,5,6,7,35,36],[1,6,7],[1,3,4,5,6,7,35,40],[1,6,7],[1,3,4,5,6,7,35,51],[1,6,7],[1,3,5,6,7,35,67],[1,6,7],[1,5,6,7,35,87],[1,7],[1,6,7],[1,5,6,7,35,90],[1,5,6,7,35,90],[1,7],[1,6,7],[1,6,7,94],[1,6,7],[1,6,124],[2],[1,6,8],[1,6,8,127],[1,6,8],[1,6,8,9],[1,6,8,137],[2],[2]]:=Fz rfl dk
def AKl:=F9 ue
def AKk:ue.tk=[]/\ue.mt=[]/\ue.pc=[12,135]:=⟨rfl,rfl,rfl⟩
def AKn:FK AA 290 f290 ue:=F3 func290
def uf:Eg:=hm [2,10,26,58,122,250,67109114,201326842,194,34426847482,194,0x80000040000f2,0x80000040000f2,130,194,0x4000000000000f2,130,194,0x1000000000000000042,4,322,0x8000000000000000142,322,834,0x2000000000000000000142,4,4] [] [] [12,16,31,83]
def AKq:uf.lv=Fv [[1],[1,3],[1,3,4],[1,3,4,5],[1,3,4,5,6],[1,3,4,5,6,7],[1,3,4,5,6,7,26],[1,3,4,5,6,7,26,27],[1,6,7],[1,3,4,5,6,7,26,35],[1,6,7],[1,4,5,6,7,26,51],[1,4,5,6,7,26,51],[1,7],[1,6,7],[1,4,5,6,7,58],[1,7],[1,6,7],[1,6,72],[2],[1,6,8],[1,6,8,75],[1,6,8],[1,6,8,9],[1,6,8,85],[2],[2]]:=Fz rfl dk
def AKp:=F9 uf
def AKo:uf.tk=[]/\uf.mt=[]/\uf.pc=[12,16,31,83]:=⟨rfl,rfl,rfl⟩
def AKr:FK AA 289 f289 uf:=F3 func289
def vJ:Eg:=hm [2,4] [] [] [4,6,7]
def AMv:vJ.lv=Fv [[1],[2]]:=Fz rfl dk
def AMu:=F9 vJ
def AMt:vJ.tk=[]/\vJ.mt=[]/\vJ.pc=[4,6,7]:=⟨rfl,rfl,rfl⟩
def AMw:FK AA 231 f231 vJ:=F3 func231
def wy:Eg:=hm [12,0x80000000000c,16,44,4503599627370540,44,0x2000000000000002c,16,16] [] [] []
def ATD:wy.lv=Fv [[2,3],[2,3,47],[4],[2,3,5],[2,3,5,52],[2,3,5],[2,3,5,65],[4],[4]]:=Fz rfl dk
def ATC:=F9 wy
def ATB:wy.tk=[]/\wy.mt=[]/\wy.pc=[]:=⟨rfl,rfl,rfl⟩
def ABz:FK AA 122 f122 wy:=F3 func122
def uZ:Eg:=hm [2,10,4098,4,18,536870914,4,34,17179869218,34,98,17592186044450,4,130,386,0x200000000000182,0x600000000000182,4,0x200200000000000182,4,0x20000200000000000182,4,0x2000000000200000000000182,4,0x200000000000000200000000000182,4,0x8000000000000000000000000000002,4,4] [] [] [11,15,42,47]
def AKa:uZ.lv=Fv [[1],[1,3],[1,12],[2],[1,4],[1,29],[2],[1,5],[1,5,34],[1,5],[1,5,6],[1,5,44],[2],[1,7],[1,7,8],[1,7,8,57],[1,7,8,57,58],[2],[1,7,8,57,69],[2],[1,7,8,57,77],[2],[1,7,8,57,97],[2],[1,7,8,57,117],[2],[1,123],[2],[2]]:=Fz rfl dk
def AKZ:=F9 uZ
def AKY:uZ.tk=[]/\uZ.mt=[]/\uZ.pc=[11,15,42,47]:=⟨rfl,rfl,rfl⟩
def AKb:FK AA 293 f293 uZ:=F3 func293
def vG:Eg:=hm [2,8,128,4,4] [] [] [5]
def AMj:vG.lv=Fv [[1],[3],[7],[2],[2]]:=Fz rfl dk
def AMi:=F9 vG
def AMh:vG.tk=[]/\vG.mt=[]/\vG.pc=[5]:=⟨rfl,rfl,rfl⟩
def AMk:FK AA 234 f234 vG:=F3 func234
def wB:Eg:=hm [1,257,4,9,4105,9,25,4194329,4,41,2147483689,4,4] [] [] [20,29]
def APu:wB.lv=Fv [[0],[0,8],[2],[0,3],[0,3,12],[0,3],[0,3,4],[0,3,4,22],[2],[0,3,5],[0,3,5,31],[2],[2]]:=Fz rfl dk
def APt:=F9 wB
def APs:wB.tk=[]/\wB.mt=[]/\wB.pc=[20,29]:=⟨rfl,rfl,rfl⟩
def APv:FK AA 175 f175 wB:=F3 func175
def vD:Eg:=hm [19,275,48,83,8275,83,4194387,48,48] [23] [] [9]
def AMc:vD.lv=Fv [[0,1,4],[0,1,4,8],[4,5],[0,1,4,6],[0,1,4,6,13],[0,1,4,6],[0,1,4,6,22],[4,5],[4,5]]:=Fz rfl dk
def AMb:=F9 vD
def AMa:vD.tk=[23]/\vD.mt=[]/\vD.pc=[9]:=⟨rfl,rfl,rfl⟩
def ABo:FK AA 236 f236 vD:=F3 func236
def ud:Eg:=hm [2,10,26,2074,26,26,4] [14,22] [] [20]
def AKi:ud.lv=Fv [[1],[1,3],[1,3,4],[1,3,4,11],[1,3,4],[1,3,4],[2]]:=Fz rfl dk
def AKh:=F9 ud
def AKg:ud.tk=[14,22]/\ud.mt=[]/\ud.pc=[20]:=⟨rfl,rfl,rfl⟩
def AKj:FK AA 291 f291 ud:=F3 func291
def uY:Eg:=hm [1,9,25,153,25,25,4] [] [] []
def AKW:uY.lv=Fv [[0],[0,3],[0,3,4],[0,3,4,7],[0,3,4],[0,3,4],[2]]:=Fz rfl dk
def AKV:=F9 uY
def AKU:uY.tk=[]/\uY.mt=[]/\uY.pc=[]:=⟨rfl,rfl,rfl⟩
def AKX:FK AA 295 f295 uY:=F3 func295
def vB:Eg:=hm [2,4] [] [] [5]
def AMY:vB.lv=Fv [[1],[2]]:=Fz rfl dk
def AMX:=F9 vB
def AMW:vB.tk=[]/\vB.mt=[]/\vB.pc=[5]:=⟨rfl,rfl,rfl⟩
def AMZ:FK AA 237 f237 vB:=F3 func237
def uc:Eg:=hm [9,1048585,16,104,536870952,16,168,17179869352,168,4503599627370496,16,16] [22] [] [25,39]
def AKe:uc.lv=Fv [[0,3],[0,3,20],[4],[3,5,6],[3,5,29],[4],[3,5,7],[3,5,7,34],[3,5,7],[52],[4],[4]]:=Fz rfl dk
def AKd:=F9 uc
def AKc:uc.tk=[22]/\uc.mt=[]/\uc.pc=[25,39]:=⟨rfl,rfl,rfl⟩
def AKf:FK AA 292 f292 uc:=F3 func292
def vH:Eg:=hm [9,33,97,8289,97,225,8388833,16,16] [] [] [9,21]
def AMn:vH.lv=Fv [[0,3],[0,5],[0,5,6],[0,5,6,13],[0,5,6],[0,5,6,7],[0,5,6,7,23],[4],[4]]:=Fz rfl dk
def AMm:=F9 vH
def AMl:vH.tk=[]/\vH.mt=[]/\vH.pc=[9,21]:=⟨rfl,rfl,rfl⟩
def AMo:FK AA 233 f233 vH:=F3 func233
def vF:Eg:=hm [2,10,26,2074,26,26,4] [14,22] [] [20]
def AMf:vF.lv=Fv [[1],[1,3],[1,3,4],[1,3,4,11],[1,3,4],[1,3,4],[2]]:=Fz rfl dk
def AMe:=F9 vF
def AMd:vF.tk=[14,22]/\vF.mt=[]/\vF.pc=[20]:=⟨rfl,rfl,rfl⟩
def AMg:FK AA 235 f235 vF:=F3 func235
def K9:Eg:=hx [9,41,8233,16,97,225,1048801,225,268435681,225,2199023255777,993,9007199254741473,225,0x20000000000000e1,225,0x80000000000000e1,16,16] [] [] [] [11,16,35,49,60] [(7,1)] []
def APp:K9.lv=Fv [[0,3],[0,3,5],[0,3,5,13],[4],[0,5,6],[0,5,6,7],[0,5,6,7,20],[0,5,6,7],[0,5,6,7,28],[0,5,6,7],[0,5,6,7,41],[0,5,6,7,8,9],[0,5,6,7,8,53],[0,5,6,7],[0,5,6,7,61],[0,5,6,7],[0,5,6,7,63],[4],[4]]:=Fz rfl dk
def APr:K9.ct 0=none/\K9.ct 1=none/\K9.ct 2=none/\K9.ct 3=none/\K9.ct 4=none/\K9.ct 5=none/\K9.ct 6=none/\K9.ct 7=some 1/\K9.ct 8=none/\K9.ct 9=none/\K9.ct 10=none/\K9.ct 11=none/\K9.ct 12=none/\K9.ct 13=none/\K9.ct 14=none/\K9.ct 15=none/\K9.ct 16=none/\K9.ct 17=none/\K9.ct 18=none:=dk
def APm(k:Nat):K9.at k=[]:=rfl
def APn(k:Nat):K9.dn k=false:=AG rfl rfl
def APo:K9.tk=[]/\K9.mt=[]/\K9.pc=[11,16,35,49,60]:=⟨rfl,rfl,rfl⟩
def APq:FK AA 176 f176 K9:=F3 func176
def JU:Eg:=hx [9,41,4194345,16,73,1073741897,73,201,549755814089,201,713,4503599627370697,16,1033,0x200000000000409,1033,3081,0x4000000000000c09,3081,0x8000000000000000c09,16,4104,0x100000000000000000000000,16,16] [31,77] [] [] [15,48,80,90] [(9,1)] []
def APj:JU.lv=Fv [[0,3],[0,3,5],[0,3,5,22],[4],[0,3,6],[0,3,6,30],[0,3,6],[0,3,6,7],[0,3,6,7,39],[0,3,6,7],[0,3,6,7,9],[0,3,6,7,52],[4],[0,3,10],[0,3,10,57],[0,3,10],[0,3,10,11],[0,3,10,11,62],[0,3,10,11],[0,3,10,11,75],[4],[3,12],[92],[4],[4]]:=Fz rfl dk
def APl:JU.ct 0=none/\JU.ct 1=none/\JU.ct 2=none/\JU.ct 3=none/\JU.ct 4=none/\JU.ct 5=none/\JU.ct 6=none/\JU.ct 7=none/\JU.ct 8=none/\JU.ct 9=some 1/\JU.ct 10=none/\JU.ct 11=none/\JU.ct 12=none/\JU.ct 13=none/\JU.ct 14=none/\JU.ct 15=none/\JU.ct 16=none/\JU.ct 17=none/\JU.ct 18=none/\JU.ct 19=none/\JU.ct 20=none/\JU.ct 21=none/\JU.ct 22=none/\JU.ct 23=none/\JU.ct 24=none:=dk
def APg(k:Nat):JU.at k=[]:=rfl
def APh(k:Nat):JU.dn k=false:=AG rfl rfl
def APi:JU.tk=[31,77]/\JU.mt=[]/\JU.pc=[15,48,80,90]:=⟨rfl,rfl,rfl⟩
def APk:FK AA 177 f177 JU:=F3 func177
def vA:Eg:=hm [3,1027,16,35,16419,35,33554467,16,16] [] [] []
def AMV:vA.lv=Fv [[0,1],[0,1,10],[4],[0,1,5],[0,1,5,14],[0,1,5],[0,1,5,25],[4],[4]]:=Fz rfl dk
def AMU:=F9 vA
def AMT:vA.tk=[]/\vA.mt=[]/\vA.pc=[]:=⟨rfl,rfl,rfl⟩
def ABn:FK AA 238 f238 vA:=F3 func238
def vt:Eg:=hm [2,4] [] [] []
def AO8:vt.lv=Fv [[1],[2]]:=Fz rfl dk
def AO7:=F9 vt
def AO6:vt.tk=[]/\vt.mt=[]/\vt.pc=[]:=⟨rfl,rfl,rfl⟩
def AO9:FK AA 186 f186 vt:=F3 func186
def Q1:Eg:=hx [3,35,99,4195,99,227,99,16] [24,29] [] [] [21] [(4,0)] []
def APB:Q1.lv=Fv [[0,1],[0,1,5],[0,1,5,6],[0,1,5,6,12],[0,1,5,6],[0,1,5,6,7],[0,1,5,6],[4]]:=Fz rfl dk
def APD:Q1.ct 0=none/\Q1.ct 1=none/\Q1.ct 2=none/\Q1.ct 3=none/\Q1.ct 4=some 0/\Q1.ct 5=none/\Q1.ct 6=none/\Q1.ct 7=none:=dk
def AO_(k:Nat):Q1.at k=[]:=rfl
def AO'(k:Nat):Q1.dn k=false:=AG rfl rfl
def APA:Q1.tk=[24,29]/\Q1.mt=[]/\Q1.pc=[21]:=⟨rfl,rfl,rfl⟩
def APC:FK AA 185 f185 Q1:=F3 func185
def vu:Eg:=hm [1,8,24,4,72,72,4,520,512,4,4] [] [] []
def APG:vu.lv=Fv [[0],[3],[3,4],[2],[3,6],[3,6],[2],[3,9],[9],[2],[2]]:=Fz rfl dk
def APF:=F9 vu
def APE:vu.tk=[]/\vu.mt=[]/\vu.pc=[]:=⟨rfl,rfl,rfl⟩
def APH:FK AA 184 f184 vu:=F3 func184
def wA:Eg:=hm [49,134217777,64,176,64] [] [] [9,12,31,35,36,41,44]
def APe:wA.lv=Fv [[0,4,5],[0,4,5,27],[6],[4,5,7],[6]]:=Fz rfl dk
def APd:=F9 wA
def APc:wA.tk=[]/\wA.mt=[]/\wA.pc=[9,12,31,35,36,41,44]:=⟨rfl,rfl,rfl⟩
def APf:FK AA 178 f178 wA:=F3 func178
def Qz:Eg:=hx [3,35,65571,16,67,2097219,67,195,4294967491,16,323,4398046511427,16,515,0x800000000203,515,1539,4503599627372035,1539,3587,7683,0x4000000000000000000603,16,16] [] [] [] [14,30,40,84] [(18,0)] []
def AYC:Qz.lv=Fv [[0,1],[0,1,5],[0,1,5,16],[4],[0,1,6],[0,1,6,21],[0,1,6],[0,1,6,7],[0,1,6,7,32],[4],[0,1,6,8],[0,1,6,8,42],[4],[0,1,9],[0,1,9,47],[0,1,9],[0,1,9,10],[0,1,9,10,52],[0,1,9,10],[0,1,9,10,11],[0,1,9,10,11,12],[0,1,9,10,86],[4],[4]]:=Fz rfl dk
def AYE:Qz.ct 0=none/\Qz.ct 1=none/\Qz.ct 2=none/\Qz.ct 3=none/\Qz.ct 4=none/\Qz.ct 5=none/\Qz.ct 6=none/\Qz.ct 7=none/\Qz.ct 8=none/\Qz.ct 9=none/\Qz.ct 10=none/\Qz.ct 11=none/\Qz.ct 12=none/\Qz.ct 13=none/\Qz.ct 14=none/\Qz.ct 15=none/\Qz.ct 16=none/\Qz.ct 17=none/\Qz.ct 18=some 0/\Qz.ct 19=none/\Qz.ct 20=none/\Qz.ct 21=none/\Qz.ct 22=none/\Qz.ct 23=none:=dk
def AX'(k:Nat):Qz.at k=[]:=rfl
def AYA(k:Nat):Qz.dn k=false:=AG rfl rfl
def AYB:Qz.tk=[]/\Qz.mt=[]/\Qz.pc=[14,30,40,84]:=⟨rfl,rfl,rfl⟩
def AYD:FK AA 98 f98 Qz:=F3 func98
def uR:Eg:=hm [3,35,99,227,2275,227,8388835,163,227,8589934819,227,4398046511138,32,16] [24,34,43,47] [] []
def AJ6:uR.lv=Fv [[0,1],[0,1,5],[0,1,5,6],[0,1,5,6,7],[0,1,5,6,7,11],[0,1,5,6,7],[0,1,5,6,7,23],[0,1,5,7],[0,1,5,6,7],[0,1,5,6,7,33],[0,1,5,6,7],[1,5,42],[5],[4]]:=Fz rfl dk
def AJ5:=F9 uR
def AJ4:uR.tk=[24,34,43,47]/\uR.mt=[]/\uR.pc=[]:=⟨rfl,rfl,rfl⟩
def AJ7:FK AA 322 f322 uR:=F3 func322
def ur:Eg:=hm [2,10,24,56,2104,56,134217784,56,4] [] [] [7,34]
def ALT:ur.lv=Fv [[1],[1,3],[3,4],[3,4,5],[3,4,5,11],[3,4,5],[3,4,5,27],[3,4,5],[2]]:=Fz rfl dk
def ALS:=F9 ur
def ALR:ur.tk=[]/\ur.mt=[]/\ur.pc=[7,34]:=⟨rfl,rfl,rfl⟩
def ALU:FK AA 279 f279 ur:=F3 func279
def up:Eg:=hm [3,35,547,35,131107,16,16] [] [] []
def ALM:up.lv=Fv [[0,1],[0,1,5],[0,1,5,9],[0,1,5],[0,1,5,17],[4],[4]]:=Fz rfl dk
def ALL:=F9 up
def ALK:up.tk=[]/\up.mt=[]/\up.pc=[]:=⟨rfl,rfl,rfl⟩
def ABi:FK AA 281 f281 up:=F3 func281
def Lb:Eg:=hx [12,40,65576,16,72,4194376,72,200,456,34359738824,456,17592186044872,16,584,0x8000000000000048,16,16] [] [] [] [14,31,43,61] [(6,2)] []
def AND:Lb.lv=Fv [[2,3],[3,5],[3,5,16],[4],[3,6],[3,6,22],[3,6],[3,6,7],[3,6,7,8],[3,6,7,8,35],[3,6,7,8],[3,6,7,8,44],[4],[3,6,9],[3,6,63],[4],[4]]:=Fz rfl dk
def ANF:Lb.ct 0=none/\Lb.ct 1=none/\Lb.ct 2=none/\Lb.ct 3=none/\Lb.ct 4=none/\Lb.ct 5=none/\Lb.ct 6=some 2/\Lb.ct 7=none/\Lb.ct 8=none/\Lb.ct 9=none/\Lb.ct 10=none/\Lb.ct 11=none/\Lb.ct 12=none/\Lb.ct 13=none/\Lb.ct 14=none/\Lb.ct 15=none/\Lb.ct 16=none:=dk
def ANA(k:Nat):Lb.at k=[]:=rfl
def ANB(k:Nat):Lb.dn k=false:=AG rfl rfl
def ANC:Lb.tk=[]/\Lb.mt=[]/\Lb.pc=[14,31,43,61]:=⟨rfl,rfl,rfl⟩
def ANE:FK AA 226 f226 Lb:=F3 func226
def vI:Eg:=hm [2,4] [] [] [4,6,7]
def AMr:vI.lv=Fv [[1],[2]]:=Fz rfl dk
def AMq:=F9 vI
def AMp:vI.tk=[]/\vI.mt=[]/\vI.pc=[4,6,7]:=⟨rfl,rfl,rfl⟩
def AMs:FK AA 232 f232 vI:=F3 func232
def wC:Eg:=hm [9,41,553,16,16] [11] [] [7,13]
def APy:wC.lv=Fv [[0,3],[0,3,5],[0,3,5,9],[4],[4]]:=Fz rfl dk
def APx:=F9 wC
def APw:wC.tk=[11]/\wC.mt=[]/\wC.pc=[7,13]:=⟨rfl,rfl,rfl⟩
def APz:FK AA 174 f174 wC:=F3 func174
def ul:Eg:=hm [2,10,26,58,32826,4,98362,98362,50,557114,50,4227106,4227106,50,33554466,50,34359738386,4,82,274877907026,82,210,281474976710738,4,4] [] [] [10,46]
def ALE:ul.lv=Fv [[1],[1,3],[1,3,4],[1,3,4,5],[1,3,4,5,15],[2],[1,3,4,5,15,16],[1,3,4,5,15,16],[1,4,5],[1,3,4,5,15,19],[1,4,5],[1,5,15,22],[1,5,15,22],[1,4,5],[1,5,25],[1,4,5],[1,4,35],[2],[1,4,6],[1,4,6,38],[1,4,6],[1,4,6,7],[1,4,6,48],[2],[2]]:=Fz rfl dk
def ALD:=F9 ul
def ALC:ul.tk=[]/\ul.mt=[]/\ul.pc=[10,46]:=⟨rfl,rfl,rfl⟩
def ALF:FK AA 283 f283 ul:=F3 func283
def vN:Eg:=hm [2,4] [] [] [4,6,7]
def AM_:vN.lv=Fv [[1],[2]]:=Fz rfl dk
def AM9:=F9 vN
def AM8:vN.tk=[]/\vN.mt=[]/\vN.pc=[4,6,7]:=⟨rfl,rfl,rfl⟩
def AM':FK AA 227 f227 vN:=F3 func227
def wL:Eg:=hm [2,18,50,114,4210,114,114,178,268435634,178,178,12] [15,31,40,41] [] []
def AQh:wL.lv=Fv [[1],[1,4],[1,4,5],[1,4,5,6],[1,4,5,6,12],[1,4,5,6],[1,4,5,6],[1,4,5,7],[1,4,5,7,28],[1,4,5,7],[1,4,5,7],[2,3]]:=Fz rfl dk
def AQg:=F9 wL
def AQf:wL.tk=[15,31,40,41]/\wL.mt=[]/\wL.pc=[]:=⟨rfl,rfl,rfl⟩
def AQi:FK AA 163 f163 wL:=F3 func163
def vM:Eg:=hm [12,44,4194316,16,140,134217868,140,137438953612,16,16] [17] [] [10,20,36]
def AM7:vM.lv=Fv [[2,3],[2,3,5],[2,3,22],[4],[2,3,7],[2,3,7,27],[2,3,7],[2,3,7,37],[4],[4]]:=Fz rfl dk
def AM6:=F9 vM
def AM5:vM.tk=[17]/\vM.mt=[]/\vM.pc=[10,20,36]:=⟨rfl,rfl,rfl⟩
def ABp:FK AA 228 f228 vM:=F3 func228
def vL:Eg:=hm [6,16] [] [] [7]
def AM3:vL.lv=Fv [[1,2],[4]]:=Fz rfl dk
def AM2:=F9 vL
def AM1:vL.tk=[]/\vL.mt=[]/\vL.pc=[7]:=⟨rfl,rfl,rfl⟩
def AM4:FK AA 229 f229 vL:=F3 func229
def Ig:Eg:=hx [12,2147483660,16,44,68719476780,44,2199023255596,16,76,0x80000000004c,76,108,0x100000000000006c,108,0x20000000000000000006c,108,0x80000000000000000006c,16,136,0x20000000000000000000088,136,392,0x1000000000000000000000000000000188,16,904,0x8000000000000000000000000000000388,904,0x2000000000000000000000000000000000000388,16,16] [] [] [] [34,39,58,67,79,100,106] [(20,2)] []
def AQI:Ig.lv=Fv [[2,3],[2,3,31],[4],[2,3,5],[2,3,5,36],[2,3,5],[2,3,5,41],[4],[2,3,6],[2,3,6,47],[2,3,6],[2,3,5,6],[2,3,5,6,60],[2,3,5,6],[2,3,5,6,81],[2,3,5,6],[2,3,5,6,83],[4],[3,7],[3,7,89],[3,7],[3,7,8],[3,7,8,132],[4],[3,7,8,9],[3,7,8,9,135],[3,7,8,9],[3,7,8,9,157],[4],[4]]:=Fz rfl dk
def AQK:Ig.ct 0=none/\Ig.ct 1=none/\Ig.ct 2=none/\Ig.ct 3=none/\Ig.ct 4=none/\Ig.ct 5=none/\Ig.ct 6=none/\Ig.ct 7=none/\Ig.ct 8=none/\Ig.ct 9=none/\Ig.ct 10=none/\Ig.ct 11=none/\Ig.ct 12=none/\Ig.ct 13=none/\Ig.ct 14=none/\Ig.ct 15=none/\Ig.ct 16=none/\Ig.ct 17=none/\Ig.ct 18=none/\Ig.ct 19=none/\Ig.ct 20=some 2/\Ig.ct 21=none/\Ig.ct 22=none/\Ig.ct 23=none/\Ig.ct 24=none/\Ig.ct 25=none/\Ig.ct 26=none/\Ig.ct 27=none/\Ig.ct 28=none/\Ig.ct 29=none:=dk
def AQF(k:Nat):Ig.at k=[]:=rfl
def AQG(k:Nat):Ig.dn k=false:=AG rfl rfl
def AQH:Ig.tk=[]/\Ig.mt=[]/\Ig.pc=[34,39,58,67,79,100,106]:=⟨rfl,rfl,rfl⟩
def AQJ:FK AA 169 f169 Ig:=F3 func169
def h90:Eg:=hm [30,256] [] [] []
def AYm:h90.lv=Fv [[1,2,3,4],[8]]:=Fz rfl dk
def AYl:=F9 h90
def AYk:h90.tk=[]/\h90.mt=[]/\h90.pc=[]:=⟨rfl,rfl,rfl⟩
def AYn:FK AA 90 f90 h90:=F3 func90
def wK:Eg:=hm [1,9,521,9,25,262153,4,41,2097193,41,4294967337,4,4] [] [] [16]
def AQd:wK.lv=Fv [[0],[0,3],[0,3,9],[0,3],[0,3,4],[0,3,18],[2],[0,3,5],[0,3,5,21],[0,3,5],[0,3,5,32],[2],[2]]:=Fz rfl dk
def AQc:=F9 wK
def AQb:wK.tk=[]/\wK.mt=[]/\wK.pc=[16]:=⟨rfl,rfl,rfl⟩
def AQe:FK AA 164 f164 wK:=F3 func164
def wJ:Eg:=hm [6,16] [] [] []
def AQZ:wJ.lv=Fv [[1,2],[4]]:=Fz rfl dk
def AQY:=F9 wJ
def AQX:wJ.tk=[]/\wJ.mt=[]/\wJ.pc=[]:=⟨rfl,rfl,rfl⟩
def AQa:FK AA 165 f165 wJ:=F3 func165
def P2:Eg:=hx [2,134217730,4,26,50,98,4398046511106,4,130,0x800000000082,130,386,0x1000000000000000082,4,514,0x20000000000000000202,514,1538,0x20000000000000000000000000202,4,2050,0x400000000000000000000000000802,2050,0x200000000000000000000000000000802,4,4] [33,35] [] [] [30,34,36,88,94,128] [(10,1),(16,1)] []
def AYa:P2.lv=Fv [[1],[1,27],[2],[1,3,4],[1,4,5],[1,5,6],[1,42],[2],[1,7],[1,7,47],[1,7],[1,7,8],[1,7,72],[2],[1,9],[1,9,77],[1,9],[1,9,10],[1,9,113],[2],[1,11],[1,11,118],[1,11],[1,11,129],[2],[2]]:=Fz rfl dk
def AYc:P2.ct 0=none/\P2.ct 1=none/\P2.ct 2=none/\P2.ct 3=none/\P2.ct 4=none/\P2.ct 5=none/\P2.ct 6=none/\P2.ct 7=none/\P2.ct 8=none/\P2.ct 9=none/\P2.ct 10=some 1/\P2.ct 11=none/\P2.ct 12=none/\P2.ct 13=none/\P2.ct 14=none/\P2.ct 15=none/\P2.ct 16=some 1/\P2.ct 17=none/\P2.ct 18=none/\P2.ct 19=none/\P2.ct 20=none/\P2.ct 21=none/\P2.ct 22=none/\P2.ct 23=none/\P2.ct 24=none/\P2.ct 25=none:=dk
def AYX(k:Nat):P2.at k=[]:=rfl
def AYY(k:Nat):P2.dn k=false:=AG rfl rfl
def AYZ:P2.tk=[33,35]/\P2.mt=[]/\P2.pc=[30,34,36,88,94,128]:=⟨rfl,rfl,rfl⟩
def AYb:FK AA 93 f93 P2:=F3 func93
def wH:Eg:=hm [2,4] [] [] []
def AQR:wH.lv=Fv [[1],[2]]:=Fz rfl dk
def AQQ:=F9 wH
def AQP:wH.tk=[]/\wH.mt=[]/\wH.pc=[]:=⟨rfl,rfl,rfl⟩
def AQS:FK AA 167 f167 wH:=F3 func167
def wG:Eg:=hm [12,16] [] [] []
def AQN:wG.lv=Fv [[2,3],[4]]:=Fz rfl dk
def AQM:=F9 wG
def AQL:wG.tk=[]/\wG.mt=[]/\wG.pc=[]:=⟨rfl,rfl,rfl⟩
def AQO:FK AA 168 f168 wG:=F3 func168
def h94:Eg:=hm [1,2049,4,9,32777,9,25,8589934601,4,41,68719476777,41,562949953421353,4,73,72057594037927945,4,137,0x800000000000089,137,393,0x800000000000000089,4,4] [] [] [23,54,70]
def AYV:h94.lv=Fv [[0],[0,11],[2],[0,3],[0,3,15],[0,3],[0,3,4],[0,3,33],[2],[0,3,5],[0,3,5,36],[0,3,5],[0,3,5,49],[2],[0,3,6],[0,3,56],[2],[0,3,7],[0,3,7,59],[0,3,7],[0,3,7,8],[0,3,7,71],[2],[2]]:=Fz rfl dk
def AYU:=F9 h94
def AYT:h94.tk=[]/\h94.mt=[]/\h94.pc=[23,54,70]:=⟨rfl,rfl,rfl⟩
def AYW:FK AA 94 f94 h94:=F3 func94
def h54:Eg:=hm [2,10,42,10,131082,4,4] [] [] []
def AaM:h54.lv=Fv [[1],[1,3],[1,3,5],[1,3],[1,3,17],[2],[2]]:=Fz rfl dk
def AaL:=F9 h54
def AaK:h54.tk=[]/\h54.mt=[]/\h54.pc=[]:=⟨rfl,rfl,rfl⟩
def AaN:FK AA 54 f54 h54:=F3 func54
def wi:Eg:=hm [449,961,473,8389057,449] [] [] []
def ASC:wi.lv=Fv [[0,6,7,8],[0,6,7,8,9],[0,3,4,6,7,8],[0,6,7,8,23],[0,6,7,8]]:=Fz rfl dk
def ASB:=F9 wi
def ASA:wi.tk=[]/\wi.mt=[]/\wi.pc=[]:=⟨rfl,rfl,rfl⟩
def ASD:FK AA 138 f138 wi:=F3 func138
def h77:Eg:=hm [2,4] [] [] []
def AZR:h77.lv=Fv [[1],[2]]:=Fz rfl dk
def AZQ:=F9 h77
def AZS:FK AA 77 f77 h77:=F3 func77
def h39:Eg:=hm [28,280,1080,120,8240,1,16] [] [] []
def AbI:h39.lv=Fv [[2,3,4],[3,4,8],[3,4,5,10],[3,4,5,6],[4,5,13],[0],[4]]:=Fz rfl dk
def AbH:=F9 h39
def AbG:h39.tk=[]/\h39.mt=[]/\h39.pc=[]:=⟨rfl,rfl,rfl⟩
def AbJ:FK AA 39 f39 h39:=F3 func39
def h12:Eg:=hm [28,88,8280,48,24,48] [] [] [11]
def AcP:h12.lv=Fv [[2,3,4],[3,4,6],[3,4,6,13],[4,5],[3,4],[4,5]]:=Fz rfl dk
def AcO:=F9 h12
def AcN:h12.tk=[]/\h12.mt=[]/\h12.pc=[11]:=⟨rfl,rfl,rfl⟩
def AcQ:FK AA 12 f12 h12:=F3 func12
def wF:Eg:=hm [6,38,1062,38,16777254,16,16] [] [] []
def AP_:wF.lv=Fv [[1,2],[1,2,5],[1,2,5,10],[1,2,5],[1,2,5,24],[4],[4]]:=Fz rfl dk
def AP9:=F9 wF
def AP8:wF.tk=[]/\wF.mt=[]/\wF.pc=[]:=⟨rfl,rfl,rfl⟩
def ABt:FK AA 171 f171 wF:=F3 func171
def h42:Eg:=hm [7,64] [] [] []
def Aa5:h42.lv=Fv [[0,1,2],[6]]:=Fz rfl dk
def Aa4:=F9 h42
def Aa3:h42.tk=[]/\h42.mt=[]/\h42.pc=[]:=⟨rfl,rfl,rfl⟩
def Aa6:FK AA 42 f42 h42:=F3 func42
def lA:Eg:=hm [6,2054,16,16] [] [] [10]
def AcI:lA.lv=Fv [[1,2],[1,2,11],[4],[4]]:=Fz rfl dk
def AcH:=F9 lA
def AcG:lA.tk=[]/\lA.mt=[]/\lA.pc=[10]:=⟨rfl,rfl,rfl⟩
def AHF:FK AA 14 f14 lA:=F3 func14
def h48:Eg:=hm [28,88,4184,48,24,48] [] [] [10]
def Aah:h48.lv=Fv [[2,3,4],[3,4,6],[3,4,6,12],[4,5],[3,4],[4,5]]:=Fz rfl dk
def Aag:=F9 h48
def Aaf:h48.tk=[]/\h48.mt=[]/\h48.pc=[10]:=⟨rfl,rfl,rfl⟩
def Aai:FK AA 48 f48 h48:=F3 func48
def oF:AA.cellsOf 173=2/\JH AA 173=some (some 2)/\KE AA 173 = .struct [(0,1),(1,1)]/\Fb AA 173 0=some (3,0)/\Fb AA 173 1=some (3,1)/\Fk AA 173=some (.agg [.int .i64 0,.int .i64 0])/\AA.cellsOf 176=1/\JH AA 176=some none/\Fk AA 176=some (.nilf)/\AA.cellsOf 200=1/\JH AA 200=some none/\Fk AA 200=some (.nilf):=T8
def AIV:JH AA 215=some none/\AA.underlying 341=some (.int .u64)/\AA.underlying 368=some (.array 49 9):=⟨kr,kr,kr⟩
def Agw:Eg:=hm [12,44,17592186044428,16,76,562949953421388,76,204,0x1000000000000004c,16,16] [] [] [12,62]
def AB0:FK AA 121 f121 Agw:=F3 func121
def uO:Eg:=hm [5,4] [] [] []
def AJu:uO.lv=Fv [[0,2],[2]]:=Fz rfl dk
def AJt:=F9 uO
def AJs:uO.tk=[]/\uO.mt=[]/\uO.pc=[]:=⟨rfl,rfl,rfl⟩
def AJv:FK AA 325 f325 uO:=F3 func325
def uL:Eg:=hm [5,133,4,13,29,32797,29,29,4] [] [] []
def AJi:uL.lv=Fv [[0,2],[0,2,7],[2],[0,2,3],[0,2,3,4],[0,2,3,4,15],[0,2,3,4],[0,2,3,4],[2]]:=Fz rfl dk
def AJh:=F9 uL
def AJg:uL.tk=[]/\uL.mt=[]/\uL.pc=[]:=⟨rfl,rfl,rfl⟩
def AJj:FK AA 328 f328 uL:=F3 func328
def ug:Eg:=hm [6,14,30,542,30,30,4] [12,22] [] [19,23]
def AKu:ug.lv=Fv [[1,2],[1,2,3],[1,2,3,4],[1,2,3,4,9],[1,2,3,4],[1,2,3,4],[2]]:=Fz rfl dk
def AKt:=F9 ug
def AKs:ug.tk=[12,22]/\ug.mt=[]/\ug.pc=[19,23]:=⟨rfl,rfl,rfl⟩
def AKv:FK AA 288 f288 ug:=F3 func288
def uN:Eg:=hm [19,16] [] [] []
def AJq:uN.lv=Fv [[0,1,4],[4]]:=Fz rfl dk
def AJp:=F9 uN
def AJo:uN.tk=[]/\uN.mt=[]/\uN.pc=[]:=⟨rfl,rfl,rfl⟩
def AJr:FK AA 326 f326 uN:=F3 func326
def ui:Eg:=hm [28,16] [] [] []
def AK8:ui.lv=Fv [[2,3,4],[4]]:=Fz rfl dk
def AK7:=F9 ui
def AK6:ui.tk=[]/\ui.mt=[]/\ui.pc=[]:=⟨rfl,rfl,rfl⟩
def AK9:FK AA 285 f285 ui:=F3 func285
def uh:Eg:=hm [6,4] [] [] []
def AKy:uh.lv=Fv [[1,2],[2]]:=Fz rfl dk
def AKx:=F9 uh
def AKw:uh.tk=[]/\uh.mt=[]/\uh.pc=[]:=⟨rfl,rfl,rfl⟩
def AKz:FK AA 287 f287 uh:=F3 func287
def uM:Eg:=hm [28,16] [] [] []
def AJm:uM.lv=Fv [[2,3,4],[4]]:=Fz rfl dk
def AJl:=F9 uM
def AJk:uM.tk=[]/\uM.mt=[]/\uM.pc=[]:=⟨rfl,rfl,rfl⟩
def AJn:FK AA 327 f327 uM:=F3 func327
def O1:Eg:=hx [6,14,30,4126,30,62,4294967358,30,30,4] [] [] [] [7,21,22,29,30,36] [(4,3)] []
def AK3:O1.lv=Fv [[1,2],[1,2,3],[1,2,3,4],[1,2,3,4,12],[1,2,3,4],[1,2,3,4,5],[1,2,3,4,5,32],[1,2,3,4],[1,2,3,4],[2]]:=Fz rfl dk
def AK5:O1.ct 0=none/\O1.ct 1=none/\O1.ct 2=none/\O1.ct 3=none/\O1.ct 4=some 3/\O1.ct 5=none/\O1.ct 6=none/\O1.ct 7=none/\O1.ct 8=none/\O1.ct 9=none:=dk
def AK0(k:Nat):O1.at k=[]:=rfl
def AK1(k:Nat):O1.dn k=false:=AG rfl rfl
def AK2:O1.tk=[]/\O1.mt=[]/\O1.pc=[7,21,22,29,30,36]:=⟨rfl,rfl,rfl⟩
def AK4:FK AA 286 f286 O1:=F3 func286
def uj:Eg:=hm [6,4] [] [] []
def ALA:uj.lv=Fv [[1,2],[2]]:=Fz rfl dk
def AK':=F9 uj
def AK_:uj.tk=[]/\uj.mt=[]/\uj.pc=[]:=⟨rfl,rfl,rfl⟩
def ALB:FK AA 284 f284 uj:=F3 func284
def vK:Eg:=hm [28,1052,16,60,120,16] [] [] [13,15,16,18,21,24,26]
def AMz:vK.lv=Fv [[2,3,4],[2,3,4,10],[4],[2,3,4,5],[3,4,5,6],[4]]:=Fz rfl dk
def AMy:=F9 vK
def AMx:vK.tk=[]/\vK.mt=[]/\vK.pc=[13,15,16,18,21,24,26]:=⟨rfl,rfl,rfl⟩
def AM0:FK AA 230 f230 vK:=F3 func230
def O3:Eg:=hx [2,18,50,2098,50,114,16777330,12,50,12] [25,36] [] [] [21,23] [(4,1)] []
def AQC:O3.lv=Fv [[1],[1,4],[1,4,5],[1,4,5,11],[1,4,5],[1,4,5,6],[1,4,5,6,24],[2,3],[1,4,5],[2,3]]:=Fz rfl dk
def AQE:O3.ct 0=none/\O3.ct 1=none/\O3.ct 2=none/\O3.ct 3=none/\O3.ct 4=some 1/\O3.ct 5=none/\O3.ct 6=none/\O3.ct 7=none/\O3.ct 8=none/\O3.ct 9=none:=dk
def AP'(k:Nat):O3.at k=[]:=rfl
def AQA(k:Nat):O3.dn k=false:=AG rfl rfl
def AQB:O3.tk=[25,36]/\O3.mt=[]/\O3.pc=[21,23]:=⟨rfl,rfl,rfl⟩
def AQD:FK AA 170 f170 O3:=F3 func170
def yp:Eg:=hm [3,4099,16,35,65571,35,99,227,70368744177699,16,16] [] [] [29,40]
def AaI:yp.lv=Fv [[0,1],[0,1,12],[4],[0,1,5],[0,1,5,16],[0,1,5],[0,1,5,6],[0,1,5,6,7],[0,1,5,46],[4],[4]]:=Fz rfl dk
def AaH:=F9 yp
def AaG:yp.tk=[]/\yp.mt=[]/\yp.pc=[29,40]:=⟨rfl,rfl,rfl⟩
def AaJ:FK AA 63 f63 yp:=F3 func63
def wv:Eg:=hm [5,4] [] [] []
def AS3:wv.lv=Fv [[0,2],[2]]:=Fz rfl dk
def AS2:=F9 wv
def AS1:wv.tk=[]/\wv.mt=[]/\wv.pc=[]:=⟨rfl,rfl,rfl⟩
def AS4:FK AA 125 f125 wv:=F3 func125
def O2:Eg:=hx [85,4181,64,197,1835204,3932356,1835716,1835204,1835204,64] [17] [] [] [] [(8,3)] []
def AOu:O2.lv=Fv [[0,2,4,6],[0,2,4,6,12],[6],[0,2,6,7],[2,6,7,18,19,20],[2,6,7,18,19,20,21],[2,6,7,9,18,19,20],[2,6,7,18,19,20],[2,6,7,18,19,20],[6]]:=Fz rfl dk
def AOw:O2.ct 0=none/\O2.ct 1=none/\O2.ct 2=none/\O2.ct 3=none/\O2.ct 4=none/\O2.ct 5=none/\O2.ct 6=none/\O2.ct 7=none/\O2.ct 8=some 3/\O2.ct 9=none:=dk
def AOr(k:Nat):O2.at k=[]:=rfl
def AOs(k:Nat):O2.dn k=false:=AG rfl rfl
def AOt:O2.tk=[17]/\O2.mt=[]/\O2.pc=[]:=⟨rfl,rfl,rfl⟩
def AOv:FK AA 200 f200 O2:=F3 func200
def vp:Eg:=hm [28,16] [] [] []
def AOp:vp.lv=Fv [[2,3,4],[4]]:=Fz rfl dk
def AOo:=F9 vp
def AOn:vp.tk=[]/\vp.mt=[]/\vp.pc=[]:=⟨rfl,rfl,rfl⟩
def AOq:FK AA 201 f201 vp:=F3 func201
def wt:Eg:=hm [5,13,460,972,492,460,460,4] [6,12,18] [] [14,20]
def ASp:wt.lv=Fv [[0,2],[0,2,3],[2,3,6,7,8],[2,3,6,7,8,9],[2,3,5,6,7,8],[2,3,6,7,8],[2,3,6,7,8],[2]]:=Fz rfl dk
def ASo:=F9 wt
def ASn:wt.tk=[6,12,18]/\wt.mt=[]/\wt.pc=[14,20]:=⟨rfl,rfl,rfl⟩
def ASq:FK AA 128 f128 wt:=F3 func128
def nO:Eg:=hx [6,14,908,1932,940,908,908,4] [13,19] [] [] [20] [(6,2)] []
def AZk:nO.lv=Fv [[1,2],[1,2,3],[2,3,7,8,9],[2,3,7,8,9,10],[2,3,5,7,8,9],[2,3,7,8,9],[2,3,7,8,9],[2]]:=Fz rfl dk
def AZm:nO.ct 0=none/\nO.ct 1=none/\nO.ct 2=none/\nO.ct 3=none/\nO.ct 4=none/\nO.ct 5=none/\nO.ct 6=some 2/\nO.ct 7=none:=dk
def AZh(k:Nat):nO.at k=[]:=rfl
def AZi(k:Nat):nO.dn k=false:=AG rfl rfl
def AZj:nO.tk=[13,19]/\nO.mt=[]/\nO.pc=[20]:=⟨rfl,rfl,rfl⟩
def AZl:FK AA 72 f72 nO:=F3 func72
def h69:Eg:=hm [28,16] [] [] []
def AZz:h69.lv=Fv [[2,3,4],[4]]:=Fz rfl dk
def AZy:=F9 h69
def AZx:h69.tk=[]/\h69.mt=[]/\h69.pc=[]:=⟨rfl,rfl,rfl⟩
def AZ0:FK AA 69 f69 h69:=F3 func69
def h71:Eg:=hm [6,4] [] [] []
def AZp:h71.lv=Fv [[1,2],[2]]:=Fz rfl dk
def AZo:=F9 h71
def AZn:h71.tk=[]/\h71.mt=[]/\h71.pc=[]:=⟨rfl,rfl,rfl⟩
def AZq:FK AA 71 f71 h71:=F3 func71
def O4:Eg:=hx [85,4181,64,197,1835204,3932356,1835716,1835204,1835204,64] [17] [] [] [] [(8,3)] []
def ASy:O4.lv=Fv [[0,2,4,6],[0,2,4,6,12],[6],[0,2,6,7],[2,6,7,18,19,20],[2,6,7,18,19,20,21],[2,6,7,9,18,19,20],[2,6,7,18,19,20],[2,6,7,18,19,20],[6]]:=Fz rfl dk
def AS0:O4.ct 0=none/\O4.ct 1=none/\O4.ct 2=none/\O4.ct 3=none/\O4.ct 4=none/\O4.ct 5=none/\O4.ct 6=none/\O4.ct 7=none/\O4.ct 8=some 3/\O4.ct 9=none:=dk
def ASv(k:Nat):O4.at k=[]:=rfl
def ASw(k:Nat):O4.dn k=false:=AG rfl rfl
def ASx:O4.tk=[17]/\O4.mt=[]/\O4.pc=[]:=⟨rfl,rfl,rfl⟩
def ASz:FK AA 126 f126 O4:=F3 func126
def wu:Eg:=hm [28,16] [] [] []
def ASt:wu.lv=Fv [[2,3,4],[4]]:=Fz rfl dk
def ASs:=F9 wu
def ASr:wu.tk=[]/\wu.mt=[]/\wu.pc=[]:=⟨rfl,rfl,rfl⟩
def ASu:FK AA 127 f127 wu:=F3 func127
def nP:Eg:=hx [6,14,908,1932,940,908,908,4] [13,25] [] [] [16,17,21,27,28] [(6,2)] []
def AZu:nP.lv=Fv [[1,2],[1,2,3],[2,3,7,8,9],[2,3,7,8,9,10],[2,3,5,7,8,9],[2,3,7,8,9],[2,3,7,8,9],[2]]:=Fz rfl dk
def AZw:nP.ct 0=none/\nP.ct 1=none/\nP.ct 2=none/\nP.ct 3=none/\nP.ct 4=none/\nP.ct 5=none/\nP.ct 6=some 2/\nP.ct 7=none:=dk
def AZr(k:Nat):nP.at k=[]:=rfl
def AZs(k:Nat):nP.dn k=false:=AG rfl rfl
def AZt:nP.tk=[13,25]/\nP.mt=[]/\nP.pc=[16,17,21,27,28]:=⟨rfl,rfl,rfl⟩
def AZv:FK AA 70 f70 nP:=F3 func70
def h37:Eg:=hm [28,540,16,60,16] [] [] [12,14,19,21,24,25]
def AbQ:h37.lv=Fv [[2,3,4],[2,3,4,9],[4],[2,3,4,5],[4]]:=Fz rfl dk
def AbP:=F9 h37
def AbO:h37.tk=[]/\h37.mt=[]/\h37.pc=[12,14,19,21,24,25]:=⟨rfl,rfl,rfl⟩
def AbR:FK AA 37 f37 h37:=F3 func37
def wq:Eg:=hm [2,1024,4,4] [] [] []
def ASY:wq.lv=Fv [[1],[10],[2],[2]]:=Fz rfl dk
def ASX:=F9 wq
def ASW:wq.tk=[]/\wq.mt=[]/\wq.pc=[]:=⟨rfl,rfl,rfl⟩
def ASZ:FK AA 132 f132 wq:=F3 func132
def h74:Eg:=hm [6,34,546,16,8192,16,16] [] [] [7]
def AZc:h74.lv=Fv [[1,2],[1,5],[1,5,9],[4],[13],[4],[4]]:=Fz rfl dk
def AZb:=F9 h74
def AZa:h74.tk=[]/\h74.mt=[]/\h74.pc=[7]:=⟨rfl,rfl,rfl⟩
def AZd:FK AA 74 f74 h74:=F3 func74
def ws:Eg:=hm [28,16] [] [] []
def ASf:ws.lv=Fv [[2,3,4],[4]]:=Fz rfl dk
def ASe:=F9 ws
def ASd:ws.tk=[]/\ws.mt=[]/\ws.pc=[]:=⟨rfl,rfl,rfl⟩
def ASg:FK AA 130 f130 ws:=F3 func130
def Q0:Eg:=hx [19,51,3634,7730,3762,3634,3634,16] [9] [] [] [18,19] [(6,2)] []
def AOk:Q0.lv=Fv [[0,1,4],[0,1,4,5],[1,4,5,9,10,11],[1,4,5,9,10,11,12],[1,4,5,7,9,10,11],[1,4,5,9,10,11],[1,4,5,9,10,11],[4]]:=Fz rfl dk
def AOm:Q0.ct 0=none/\Q0.ct 1=none/\Q0.ct 2=none/\Q0.ct 3=none/\Q0.ct 4=none/\Q0.ct 5=none/\Q0.ct 6=some 2/\Q0.ct 7=none:=dk
def AOh(k:Nat):Q0.at k=[]:=rfl
def AOi(k:Nat):Q0.dn k=false:=AG rfl rfl
def AOj:Q0.tk=[9]/\Q0.mt=[]/\Q0.pc=[18,19]:=⟨rfl,rfl,rfl⟩
def AOl:FK AA 202 f202 Q0:=F3 func202
def wr:Eg:=hm [6,4] [] [] [5]
def ASc:wr.lv=Fv [[1,2],[2]]:=Fz rfl dk
def ASb:=F9 wr
def ASa:wr.tk=[]/\wr.mt=[]/\wr.pc=[5]:=⟨rfl,rfl,rfl⟩
def ABy:FK AA 131 f131 wr:=F3 func131
def Q2:Eg:=hx [19,51,3634,7730,3762,3634,3634,16] [9] [] [] [18,19] [(6,2)] []
def ASk:Q2.lv=Fv [[0,1,4],[0,1,4,5],[1,4,5,9,10,11],[1,4,5,9,10,11,12],[1,4,5,7,9,10,11],[1,4,5,9,10,11],[1,4,5,9,10,11],[4]]:=Fz rfl dk
def ASm:Q2.ct 0=none/\Q2.ct 1=none/\Q2.ct 2=none/\Q2.ct 3=none/\Q2.ct 4=none/\Q2.ct 5=none/\Q2.ct 6=some 2/\Q2.ct 7=none:=dk
def ASh(k:Nat):Q2.at k=[]:=rfl
def ASi(k:Nat):Q2.dn k=false:=AG rfl rfl
def ASj:Q2.tk=[9]/\Q2.mt=[]/\Q2.pc=[18,19]:=⟨rfl,rfl,rfl⟩
def ASl:FK AA 129 f129 Q2:=F3 func129
def h73:Eg:=hm [6,14,526,12,4] [] [] [6,13,14]
def AZg:h73.lv=Fv [[1,2],[1,2,3],[1,2,3,9],[2,3],[2]]:=Fz rfl dk
def AZf:=F9 h73
def AZe:h73.tk=[]/\h73.mt=[]/\h73.pc=[6,13,14]:=⟨rfl,rfl,rfl⟩
def AG8:FK AA 73 f73 h73:=F3 func73
def uJ:Eg:=hm [7,64] [] [] []
def AJa:uJ.lv=Fv [[0,1,2],[6]]:=Fz rfl dk
def AJZ:=F9 uJ
def AJY:uJ.tk=[]/\uJ.mt=[]/\uJ.pc=[]:=⟨rfl,rfl,rfl⟩
def AJb:FK AA 341 f341 uJ:=F3 func341
def uW:Eg:=hm [1,4] [] [] [4]
def AKO:uW.lv=Fv [[0],[2]]:=Fz rfl dk
def AKN:=F9 uW
def AKM:uW.tk=[]/\uW.mt=[]/\uW.pc=[4]:=⟨rfl,rfl,rfl⟩
def AKP:FK AA 315 f315 uW:=F3 func315
def wx:Eg:=hm [1,4] [] [] []
def AS':wx.lv=Fv [[0],[2]]:=Fz rfl dk
def AS_:=F9 wx
def AS9:wx.tk=[]/\wx.mt=[]/\wx.pc=[]:=⟨rfl,rfl,rfl⟩
def ATA:FK AA 123 f123 wx:=F3 func123
def uI:Eg:=hm [3,16] [] [] [6,9]
def AJW:uI.lv=Fv [[0,1],[4]]:=Fz rfl dk
def AJV:=F9 uI
def AJU:uI.tk=[]/\uI.mt=[]/\uI.pc=[6,9]:=⟨rfl,rfl,rfl⟩
def AJX:FK AA 342 f342 uI:=F3 func342
def uH:Eg:=hm [1,4] [] [] []
def AJS:uH.lv=Fv [[0],[2]]:=Fz rfl dk
def AJR:=F9 uH
def AJQ:uH.tk=[]/\uH.mt=[]/\uH.pc=[]:=⟨rfl,rfl,rfl⟩
def AJT:FK AA 343 f343 uH:=F3 func343
def uV:Eg:=hm [3,67,451,33219,963,134218691,451,451,48] [43] [] [27,47,50]
def AKK:uV.lv=Fv [[0,1],[0,1,6],[0,1,6,7,8],[0,1,6,7,8,15],[0,1,6,7,8,9],[0,1,6,7,8,9,27],[0,1,6,7,8],[0,1,6,7,8],[4,5]]:=Fz rfl dk
def AKJ:=F9 uV
def AKI:uV.tk=[43]/\uV.mt=[]/\uV.pc=[27,47,50]:=⟨rfl,rfl,rfl⟩
def AKL:FK AA 316 f316 uV:=F3 func316
def uU:Eg:=hm [3,35,65571,35,16] [] [] []
def AKG:uU.lv=Fv [[0,1],[0,1,5],[0,1,5,16],[0,1,5],[4]]:=Fz rfl dk
def AKF:=F9 uU
def AKE:uU.tk=[]/\uU.mt=[]/\uU.pc=[]:=⟨rfl,rfl,rfl⟩
def AKH:FK AA 317 f317 uU:=F3 func317
def uG:Eg:=hm [1,4] [] [] [4]
def AJO:uG.lv=Fv [[0],[2]]:=Fz rfl dk
def AJN:=F9 uG
def AJM:uG.tk=[]/\uG.mt=[]/\uG.pc=[4]:=⟨rfl,rfl,rfl⟩
def AJP:FK AA 344 f344 uG:=F3 func344
def uS:Eg:=hm [1,4] [] [] [4,7]
def AJ_:uS.lv=Fv [[0],[2]]:=Fz rfl dk
def AJ9:=F9 uS
def AJ8:uS.tk=[]/\uS.mt=[]/\uS.pc=[4,7]:=⟨rfl,rfl,rfl⟩
def AJ':FK AA 319 f319 uS:=F3 func319
def uT:Eg:=hm [1,4] [] [] [5]
def AKC:uT.lv=Fv [[0],[2]]:=Fz rfl dk
def AKB:=F9 uT
def AKA:uT.tk=[]/\uT.mt=[]/\uT.pc=[5]:=⟨rfl,rfl,rfl⟩
def AKD:FK AA 318 f318 uT:=F3 func318
def u5:Eg:=hm [1,131073,4,17,4] [] [] [15,21,28]
def AMB:u5.lv=Fv [[0],[0,17],[2],[0,4],[2]]:=Fz rfl dk
def AMA:=F9 u5
def AL':u5.tk=[]/\u5.mt=[]/\u5.pc=[15,21,28]:=⟨rfl,rfl,rfl⟩
def AMC:FK AA 267 f267 u5:=F3 func267
def vl:Eg:=hm [1,4] [] [] [4]
def AOR:vl.lv=Fv [[0],[2]]:=Fz rfl dk
def AOQ:=F9 vl
def AOP:vl.tk=[]/\vl.mt=[]/\vl.pc=[4]:=⟨rfl,rfl,rfl⟩
def AOS:FK AA 206 f206 vl:=F3 func206
def wn:Eg:=hm [1,4] [] [] [7]
def ASO:wn.lv=Fv [[0],[2]]:=Fz rfl dk
def ASN:=F9 wn
def ASM:wn.tk=[]/\wn.mt=[]/\wn.pc=[7]:=⟨rfl,rfl,rfl⟩
def ASP:FK AA 135 f135 wn:=F3 func135
def wl:Eg:=hm [1,4] [] [] []
def ASK:wl.lv=Fv [[0],[2]]:=Fz rfl dk
def ASJ:=F9 wl
def ASI:wl.tk=[]/\wl.mt=[]/\wl.pc=[]:=⟨rfl,rfl,rfl⟩
def ASL:FK AA 136 f136 wl:=F3 func136
def vn:Eg:=hm [1,4] [] [] []
def AOZ:vn.lv=Fv [[0],[2]]:=Fz rfl dk
def AOY:=F9 vn
def AOX:vn.tk=[]/\vn.mt=[]/\vn.pc=[]:=⟨rfl,rfl,rfl⟩
def AOa:FK AA 204 f204 vn:=F3 func204
def uX:Eg:=hm [3,387,899,419,65955,16,387,16] [] [] []
def AKS:uX.lv=Fv [[0,1],[0,1,7,8],[0,1,7,8,9],[0,1,5,7,8],[0,1,5,7,8,16],[4],[0,1,7,8],[4]]:=Fz rfl dk
def AKR:=F9 uX
def AKQ:uX.tk=[]/\uX.mt=[]/\uX.pc=[]:=⟨rfl,rfl,rfl⟩
def AKT:FK AA 314 f314 uX:=F3 func314
def u7:Eg:=hm [3,16] [5] [] []
def AMJ:u7.lv=Fv [[0,1],[4]]:=Fz rfl dk
def AMI:=F9 u7
def AMH:u7.tk=[5]/\u7.mt=[]/\u7.pc=[]:=⟨rfl,rfl,rfl⟩
def AMK:FK AA 265 f265 u7:=F3 func265
def u6:Eg:=hm [6,8] [] [] []
def AMF:u6.lv=Fv [[1,2],[3]]:=Fz rfl dk
def AME:=F9 u6
def AMD:u6.tk=[]/\u6.mt=[]/\u6.pc=[]:=⟨rfl,rfl,rfl⟩
def AMG:FK AA 266 f266 u6:=F3 func266
def vm:Eg:=hm [35,64] [12] [] []
def AOV:vm.lv=Fv [[0,1,5],[6]]:=Fz rfl dk
def AOU:=F9 vm
def AOT:vm.tk=[12]/\vm.mt=[]/\vm.pc=[]:=⟨rfl,rfl,rfl⟩
def AOW:FK AA 205 f205 vm:=F3 func205
def wo:Eg:=hm [2,10,262154,786442,786442,4,537133066,4,0x400000004000a,4,0x1000000000000004000a,4,0x10000000000000000000004000a,4,0x100000000000000000000000000004000a,4,0x10000000000000000000000000000004000a,0x10000000000000000000000000000000000a,4,4] [] [] [33,37,54,58,80,84,89,112,117,138,147]
def ASS:wo.lv=Fv [[1],[1,3],[1,3,18],[1,3,18,19],[1,3,18,19],[2],[1,3,18,29],[2],[1,3,18,50],[2],[1,3,18,76],[2],[1,3,18,104],[2],[1,3,18,132],[2],[1,3,18,140],[1,3,140],[2],[2]]:=Fz rfl dk
def ASR:=F9 wo
def ASQ:wo.tk=[]/\wo.mt=[]/\wo.pc=[33,37,54,58,80,84,89,112,117,138,147]:=⟨rfl,rfl,rfl⟩
def Mt:FK AA 134 f134 wo:=F3 func134
def OP:Eg:=hx [7,16391,64,229382,491526,229766,230150,1073971206,64,229382,64] [15] [] [] [] [(9,0)] []
def AOe:OP.lv=Fv [[0,1,2],[0,1,2,14],[6],[1,2,15,16,17],[1,2,15,16,17,18],[1,2,7,8,15,16,17],[1,2,8,9,15,16,17],[1,2,15,16,17,30],[6],[1,2,15,16,17],[6]]:=Fz rfl dk
def AOg:OP.ct 0=none/\OP.ct 1=none/\OP.ct 2=none/\OP.ct 3=none/\OP.ct 4=none/\OP.ct 5=none/\OP.ct 6=none/\OP.ct 7=none/\OP.ct 8=none/\OP.ct 9=some 0/\OP.ct 10=none:=dk
def AOb(k:Nat):OP.at k=[]:=rfl
def AOc(k:Nat):OP.dn k=false:=AG rfl rfl
def AOd:OP.tk=[15]/\OP.mt=[]/\OP.pc=[]:=⟨rfl,rfl,rfl⟩
def AOf:FK AA 203 f203 OP:=F3 func203
def wp:Eg:=hm [12,16] [] [] [36]
def ASV:wp.lv=Fv [[2,3],[4]]:=Fz rfl dk
def ASU:=F9 wp
def AST:wp.tk=[]/\wp.mt=[]/\wp.pc=[36]:=⟨rfl,rfl,rfl⟩
def ABx:FK AA 133 f133 wp:=F3 func133
def u4:Eg:=hm [3,387,899,419,65955,16,387,16] [] [] []
def AL9:u4.lv=Fv [[0,1],[0,1,7,8],[0,1,7,8,9],[0,1,5,7,8],[0,1,5,7,8,16],[4],[0,1,7,8],[4]]:=Fz rfl dk
def AL8:=F9 u4
def AL7:u4.tk=[]/\u4.mt=[]/\u4.pc=[]:=⟨rfl,rfl,rfl⟩
def AL_:FK AA 268 f268 u4:=F3 func268
def vj:Eg:=hm [3,16] [5] [] []
def AON:vj.lv=Fv [[0,1],[4]]:=Fz rfl dk
def AOM:=F9 vj
def AOL:vj.tk=[5]/\vj.mt=[]/\vj.pc=[]:=⟨rfl,rfl,rfl⟩
def AOO:FK AA 207 f207 vj:=F3 func207
def vi:Eg:=hm [6,8] [] [] []
def AOJ:vi.lv=Fv [[1,2],[3]]:=Fz rfl dk
def AOI:=F9 vi
def AOH:vi.tk=[]/\vi.mt=[]/\vi.pc=[]:=⟨rfl,rfl,rfl⟩
def AOK:FK AA 208 f208 vi:=F3 func208
def wj:Eg:=hm [35,64] [12] [] []
def ASG:wj.lv=Fv [[0,1,5],[6]]:=Fz rfl dk
def ASF:=F9 wj
def ASE:wj.tk=[12]/\wj.mt=[]/\wj.pc=[]:=⟨rfl,rfl,rfl⟩
def ASH:FK AA 137 f137 wj:=F3 func137
def h76:Eg:=hm [2,26,262170,786458,4,8590196762,4,4503599627632666,4,0x800000000004001a,0x800000000000001a,4,4] [] [] [8,31,45,50,61,73]
def AZV:h76.lv=Fv [[1],[1,3,4],[1,3,4,18],[1,3,4,18,19],[2],[1,3,4,18,33],[2],[1,3,4,18,52],[2],[1,3,4,18,63],[1,3,4,63],[2],[2]]:=Fz rfl dk
def AZU:=F9 h76
def AZT:h76.tk=[]/\h76.mt=[]/\h76.pc=[8,31,45,50,61,73]:=⟨rfl,rfl,rfl⟩
def Y5:FK AA 76 f76 h76:=F3 func76
def h75:Eg:=hm [1,2] [] [] [3]
def AZY:h75.lv=Fv [[0],[1]]:=Fz rfl dk
def AZX:=F9 h75
def AZW:h75.tk=[]/\h75.mt=[]/\h75.pc=[3]:=⟨rfl,rfl,rfl⟩
def AZZ:FK AA 75 f75 h75:=F3 func75
def h38:Eg:=hm [2,4] [] [] [4]
def AbM:h38.lv=Fv [[1],[2]]:=Fz rfl dk
def AbL:=F9 h38
def AbK:h38.tk=[]/\h38.mt=[]/\h38.pc=[4]:=⟨rfl,rfl,rfl⟩
def AbN:FK AA 38 f38 h38:=F3 func38
def Xh:Eg:=hx [2,18,1810,3858,1874,1874,4196178,12,1810,1810,12] [23,28] [] [] [17,21] [(9,1)] []
def AcU:Xh.lv=Fv [[1],[1,4],[1,4,8,9,10],[1,4,8,9,10,11],[1,4,6,8,9,10],[1,4,6,8,9,10],[1,4,6,8,9,10,22],[2,3],[1,4,8,9,10],[1,4,8,9,10],[2,3]]:=Fz rfl dk
def AcW:Xh.ct 0=none/\Xh.ct 1=none/\Xh.ct 2=none/\Xh.ct 3=none/\Xh.ct 4=none/\Xh.ct 5=none/\Xh.ct 6=none/\Xh.ct 7=none/\Xh.ct 8=none/\Xh.ct 9=some 1/\Xh.ct 10=none:=dk
def AcR(k:Nat):Xh.at k=[]:=rfl
def AcS(k:Nat):Xh.dn k=false:=AG rfl rfl
def AcT:Xh.tk=[23,28]/\Xh.mt=[]/\Xh.pc=[17,21]:=⟨rfl,rfl,rfl⟩
def AcV:FK AA 11 f11 Xh:=F3 func11
def oH:AA.cellsOf 144=1/\JH AA 144=some none/\AA.cellsOf 247=20/\JH AA 247=some (some 20)/\Fb AA 247 0=some (34,0)/\Fb AA 247 1=some (34,10)/\Fk AA 247=some (.agg [.int .i64 0,.int .i64 0,.int .i64 0,.int .i64 0,.int .i64 0,.int .i64 0,.int .i64 0,.int .i64 0,.int .i64 0,.int .i64 0,.int .i64 0,.int .i64 0,.int .i64 0,.int .i64 0,.int .i64 0,.int .i64 0,.int .i64 0,.int .i64 0,.int .i64 0,.int .i64 0])/\JH AA 257=some none/\JH AA 262=some none/\AA.cellsOf 278=5/\AA.bytesOf 278=64/\JH AA 278=some (some 5):=T8
def re:GW AA 278=true/\KE AA 278 = .struct [(0,1),(1,1),(2,1),(3,1),(4,1)]/\Fb AA 278 0=some (9,0)/\Fb AA 278 1=some (3,1)/\Fb AA 278 2=some (45,2)/\Fb AA 278 3=some (3,3)/\Fb AA 278 4=some (3,4):=⟨kr,kr,kr,kr,kr,kr,kr⟩
def vr:Eg:=hm [3,387,899,419,65955,16,387,16] [] [] []
def AO4:vr.lv=Fv [[0,1],[0,1,7,8],[0,1,7,8,9],[0,1,5,7,8],[0,1,5,7,8,16],[4],[0,1,7,8],[4]]:=Fz rfl dk
def AO3:=F9 vr
def AO2:vr.tk=[]/\vr.mt=[]/\vr.pc=[]:=⟨rfl,rfl,rfl⟩
def AO5:FK AA 189 f189 vr:=F3 func189
def vh:Eg:=hm [6,8] [] [] []
def AOF:vh.lv=Fv [[1,2],[3]]:=Fz rfl dk
def AOE:=F9 vh
def AOD:vh.tk=[]/\vh.mt=[]/\vh.pc=[]:=⟨rfl,rfl,rfl⟩
def AOG:FK AA 209 f209 vh:=F3 func209
def wg:Eg:=hm [25,1049,48,81,65617,48,48] [18] [] [8,11]
def AR7:wg.lv=Fv [[0,3,4],[0,3,4,10],[4,5],[0,4,6],[0,4,6,16],[4,5],[4,5]]:=Fz rfl dk
def AR6:=F9 wg
def AR5:wg.tk=[18]/\wg.mt=[]/\wg.pc=[8,11]:=⟨rfl,rfl,rfl⟩
def AR8:FK AA 140 f140 wg:=F3 func140
def vg:Eg:=hm [2,4] [] [] []
def AOB:vg.lv=Fv [[1],[2]]:=Fz rfl dk
def AOA:=F9 vg
def AN':vg.tk=[]/\vg.mt=[]/\vg.pc=[]:=⟨rfl,rfl,rfl⟩
def AOC:FK AA 210 f210 vg:=F3 func210
def xb:AA.cellsOf 59=1/\JH AA 59=some none/\AA.underlying 59=some (.slice 34)/\Fk AA 59=some (.sl (some 10) [])/\AA.cellsOf 182=1/\JH AA 182=some none/\AA.cellsOf 183=1/\JH AA 183=some none/\KE AA 185 = .struct [(0,1),(1,1)]/\Fb AA 185 0=some (182,0)/\Fb AA 185 1=some (183,1)/\Fk AA 185=some (.agg [.nilf,.nilf]):=T8
def oE:AA.cellsOf 186=1/\JH AA 186=some none/\Fk AA 186=some (.nilp)/\AA.cellsOf 242=20/\JH AA 242=some (some 20)/\KE AA 242 = .struct [(0,10),(10,10)]/\Fb AA 242 0=some (34,0)/\Fb AA 242 1=some (34,10):=⟨kr,kr,kr,kr,kr,kr,kr,kr⟩
def h78:Eg:=hm [3,129,48,48] [8] [] []
def AZO:h78.lv=Fv [[0,1],[0,7],[4,5],[4,5]]:=Fz rfl dk
def AZN:=F9 h78
def AZM:h78.tk=[8]/\h78.mt=[]/\h78.pc=[]:=⟨rfl,rfl,rfl⟩
def AZP:FK AA 78 f78 h78:=F3 func78
def we:Eg:=hm [12,76,204,108,4194380,16,76,16] [] [] []
def AR3:we.lv=Fv [[2,3],[2,3,6],[2,3,6,7],[2,3,5,6],[2,3,6,22],[4],[2,3,6],[4]]:=Fz rfl dk
def AR2:=F9 we
def AR1:we.tk=[]/\we.mt=[]/\we.pc=[]:=⟨rfl,rfl,rfl⟩
def AR4:FK AA 141 f141 we:=F3 func141
def ve:Eg:=hm [2,4] [] [] []
def AN5:ve.lv=Fv [[1],[2]]:=Fz rfl dk
def AN4:=F9 ve
def AN3:ve.tk=[]/\ve.mt=[]/\ve.pc=[]:=⟨rfl,rfl,rfl⟩
def AN6:FK AA 212 f212 ve:=F3 func212
def vf:Eg:=hm [92,220,80,64] [] [] [17,19,24]
def AN9:vf.lv=Fv [[2,3,4,6],[2,3,4,6,7],[4,6],[6]]:=Fz rfl dk
def AN8:=F9 vf
def AN7:vf.tk=[]/\vf.mt=[]/\vf.pc=[17,19,24]:=⟨rfl,rfl,rfl⟩
def AN_:FK AA 211 f211 vf:=F3 func211
def wc:Eg:=hm [78,202,64] [] [] [9,20,26]
def ARv:wc.lv=Fv [[1,2,3,6],[1,3,6,7],[6]]:=Fz rfl dk
def ARu:=F9 wc
def ARt:wc.tk=[]/\wc.mt=[]/\wc.pc=[9,20,26]:=⟨rfl,rfl,rfl⟩
def ARw:FK AA 143 f143 wc:=F3 func143
def wd:Eg:=hm [22,16] [] [] [9]
def ARz:wd.lv=Fv [[1,2,4],[4]]:=Fz rfl dk
def ARy:=F9 wd
def ARx:wd.tk=[]/\wd.mt=[]/\wd.pc=[9]:=⟨rfl,rfl,rfl⟩
def AR0:FK AA 142 f142 wd:=F3 func142
def wb:Eg:=hm [12,16] [] [] [11,14]
def ARr:wb.lv=Fv [[2,3],[4]]:=Fz rfl dk
def ARq:=F9 wb
def ARp:wb.tk=[]/\wb.mt=[]/\wb.pc=[11,14]:=⟨rfl,rfl,rfl⟩
def ARs:FK AA 144 f144 wb:=F3 func144
def wh:Eg:=hm [124,4220,12412,12412,128,528508,128,2147487864,128,17592186048632,17592186044536,0x1000000000000068,128,128,352,0x400000000000000000160,0xc00000000000000000160,128,0x80000000000000000000160,128,1056,128] [] [42,56,73] [42,56,73,78,88,90,98,100,103]
def AR':wh.lv=Fv [[2,3,4,5,6],[2,3,4,5,6,12],[2,3,4,5,6,12,13],[2,3,4,5,6,12,13],[7],[2,3,4,5,6,12,19],[7],[3,4,5,6,12,31],[7],[3,4,5,6,12,44],[3,4,5,6,44],[3,5,6,60],[7],[7],[5,6,8],[5,6,8,82],[5,6,8,82,83],[7],[5,6,8,91],[7],[5,10],[7]]:=Fz rfl dk
def AR_:=F9 wh
def AR9:wh.tk=[]/\wh.mt=[42,56,73]/\wh.pc=[42,56,73,78,88,90,98,100,103]:=⟨rfl,rfl,rfl⟩
def Nw:FK AA 139 f139 wh:=F3 func139
def wZ:Eg:=hm [28,92,220,124,92,92,16] [] [] []
def ARk:wZ.lv=Fv [[2,3,4],[2,3,4,6],[2,3,4,6,7],[2,3,4,5,6],[2,3,4,6],[2,3,4,6],[4]]:=Fz rfl dk
def ARj:=F9 wZ
def ARi:wZ.tk=[]/\wZ.mt=[]/\wZ.pc=[]:=⟨rfl,rfl,rfl⟩
def ARl:FK AA 146 f146 wZ:=F3 func146
def wY:Eg:=hm [22,16] [] [] [7]
def ARg:wY.lv=Fv [[1,2,4],[4]]:=Fz rfl dk
def ARf:=F9 wY
def ARe:wY.tk=[]/\wY.mt=[]/\wY.pc=[7]:=⟨rfl,rfl,rfl⟩
def ARh:FK AA 147 f147 wY:=F3 func147
def wX:Eg:=hm [3,4097,48,48] [13] [] []
def ARd:wX.lv=Fv [[0,1],[0,12],[4,5],[4,5]]:=Fz rfl dk
def ARc:=F9 wX
def ARb:wX.tk=[13]/\wX.mt=[]/\wX.pc=[]:=⟨rfl,rfl,rfl⟩
def nR:FK AA 148 f148 wX:=F3 func148
def ww:Eg:=hm [3,35,99,2115,4096,16,16,8195,16,65539,16,524288,16,16] [] [] [8,10]
def AS7:ww.lv=Fv [[0,1],[0,1,5],[0,1,5,6],[0,1,6,11],[12],[4],[4],[0,1,13],[4],[0,1,16],[4],[19],[4],[4]]:=Fz rfl dk
def AS6:=F9 ww
def AS5:ww.tk=[]/\ww.mt=[]/\ww.pc=[8,10]:=⟨rfl,rfl,rfl⟩
def AS8:FK AA 124 f124 ww:=F3 func124
def h68:Eg:=hm [3,3587,7683,3683,527971,16,3779,3843,268439299,16,3587,34359738368,16,16] [31,33] [] [26]
def AZ3:h68.lv=Fv [[0,1],[0,1,9,10,11],[0,1,9,10,11,12],[0,1,5,6,9,10,11],[0,1,5,6,9,10,11,19],[4],[0,1,6,7,9,10,11],[0,1,8,9,10,11],[0,1,8,9,10,11,28],[4],[0,1,9,10,11],[35],[4],[4]]:=Fz rfl dk
def AZ2:=F9 h68
def AZ1:h68.tk=[31,33]/\h68.mt=[]/\h68.pc=[26]:=⟨rfl,rfl,rfl⟩
def AG9:FK AA 68 f68 h68:=F3 func68
def u3:Eg:=hm [12,16] [] [5,6] []
def ALz:u3.lv=Fv [[2,3],[4]]:=Fz rfl dk
def ALy:=F9 u3
def ALx:u3.tk=[]/\u3.mt=[5,6]/\u3.pc=[]:=⟨rfl,rfl,rfl⟩
def AL0:FK AA 270 f270 u3:=F3 func270
def NH:Eg:=hx [8199,7,23,2097159,23,33554439,23,55,1073741879,55,137438953511,39,70368744177671] [] [] [] [20] [] [9,11]
def AL4:NH.lv=Fv [[0,1,2,13],[0,1,2],[0,1,2,4],[0,1,2,21],[0,1,2,4],[0,1,2,25],[0,1,2,4],[0,1,2,4,5],[0,1,2,4,5,30],[0,1,2,4,5],[0,1,2,5,37],[0,1,2,5],[0,1,2,46]]:=Fz rfl dk
def AL6(k:Nat):NH.ct k=none:=rfl
def AL1(k:Nat):NH.at k=[]:=rfl
def AL2:NH.dn 0=false/\NH.dn 1=false/\NH.dn 2=false/\NH.dn 3=false/\NH.dn 4=false/\NH.dn 5=false/\NH.dn 6=false/\NH.dn 7=false/\NH.dn 8=false/\NH.dn 9=true/\NH.dn 10=false/\NH.dn 11=true/\NH.dn 12=false:=dk
def AL3:NH.tk=[]/\NH.mt=[]/\NH.pc=[20]:=⟨rfl,rfl,rfl⟩
def AL5:FK AA 269 f269 NH:=F3 func269
def AN2:Eg:=hm [12,16] [] [] []
def AN0:AN2.lv=Fv [[2,3],[4]]:=Fz rfl dk
def ANz:=F9 AN2
def AN1:FK AA 213 f213 AN2:=F3 func213
def iB:Eg:=hm [3,35,544,96,1,16] [7,8,11] [5,14] []
def ARZ:iB.lv=Fv [[0,1],[0,1,5],[5,9],[5,6],[0],[4]]:=Fz rfl dk
def ARY:=F9 iB
def ARX:iB.tk=[7,8,11]/\iB.mt=[5,14]/\iB.pc=[]:=⟨rfl,rfl,rfl⟩
def ARa:FK AA 149 f149 iB:=F3 func149
def OR:Eg:=hx [21,277,789,115473,246545,117009,127249,115473,549755929361,115473,192] [14,31,32,41] [27] [(6,[(8,none,true)])] [27] [] []
def ARU:OR.lv=Fv [[0,2,4],[0,2,4,8],[0,2,4,8,9],[0,4,8,9,14,15,16],[0,4,8,9,14,15,16,17],[0,4,8,11,14,15,16],[0,4,8,12,13,14,15,16],[0,4,8,9,14,15,16],[0,4,8,9,14,15,16,39],[0,4,8,9,14,15,16],[6,7]]:=Fz rfl dk
def ARW(k:Nat):OR.ct k=none:=rfl
def ARR:OR.at 0=[]/\OR.at 1=[]/\OR.at 2=[]/\OR.at 3=[]/\OR.at 4=[]/\OR.at 5=[]/\OR.at 6=[(8,none,true)]/\OR.at 7=[]/\OR.at 8=[]/\OR.at 9=[]/\OR.at 10=[]:=dk
def ARS(k:Nat):OR.dn k=false:=AG rfl rfl
def ART:OR.tk=[14,31,32,41]/\OR.mt=[27]/\OR.pc=[27]:=⟨rfl,rfl,rfl⟩
def ARV:FK AA 150 f150 OR:=F3 func150
def u1:Eg:=hm [3,387,899,419,65955,16,387,16] [] [] []
def ALw:u1.lv=Fv [[0,1],[0,1,7,8],[0,1,7,8,9],[0,1,5,7,8],[0,1,5,7,8,16],[4],[0,1,7,8],[4]]:=Fz rfl dk
def ALv:=F9 u1
def ALu:u1.tk=[]/\u1.mt=[]/\u1.pc=[]:=⟨rfl,rfl,rfl⟩
def ABm:FK AA 271 f271 u1:=F3 func271
def vd:Eg:=hm [3,35,4131,16,99,524387,99,227,536871139,99,99,33,16] [13,39] [] []
def ANy:vd.lv=Fv [[0,1],[0,1,5],[0,1,5,12],[4],[0,1,5,6],[0,1,5,6,19],[0,1,5,6],[0,1,5,6,7],[0,1,5,6,7,29],[0,1,5,6],[0,1,5,6],[0,5],[4]]:=Fz rfl dk
def ANx:=F9 vd
def ANw:vd.tk=[13,39]/\vd.mt=[]/\vd.pc=[]:=⟨rfl,rfl,rfl⟩
def ABs:FK AA 214 f214 vd:=F3 func214
def uz:Eg:=hm [21,277,1813,132885,3861,2147487509,1813,1813,192] [41] [] [30,46]
def ALs:uz.lv=Fv [[0,2,4],[0,2,4,8],[0,2,4,8,9,10],[0,2,4,8,9,10,17],[0,2,4,8,9,10,11],[0,2,4,8,9,10,11,31],[0,2,4,8,9,10],[0,2,4,8,9,10],[6,7]]:=Fz rfl dk
def ALr:=F9 uz
def ALq:uz.tk=[41]/\uz.mt=[]/\uz.pc=[30,46]:=⟨rfl,rfl,rfl⟩
def ALt:FK AA 272 f272 uz:=F3 func272
def vZ:Eg:=hm [9,64,16] [8] [] [10]
def ANq:vZ.lv=Fv [[0,3],[6],[4]]:=Fz rfl dk
def ANp:=F9 vZ
def ANo:vZ.tk=[8]/\vZ.mt=[]/\vZ.pc=[10]:=⟨rfl,rfl,rfl⟩
def ANr:FK AA 216 f216 vZ:=F3 func216
def vc:Eg:=hm [6,8] [] [] [6]
def ANu:vc.lv=Fv [[1,2],[3]]:=Fz rfl dk
def ANt:=F9 vc
def ANs:vc.tk=[]/\vc.mt=[]/\vc.pc=[6]:=⟨rfl,rfl,rfl⟩
def ANv:FK AA 215 f215 vc:=F3 func215
def OQ:Eg:=hx [49,529,3601,3601,13841,11793,11793,274877910545,448,2199023259153,448] [22,26] [] [(5,[(11,none,true)])] [] [] []
def ARO:OQ.lv=Fv [[0,4,5],[0,4,9],[0,4,9,10,11],[0,4,9,10,11],[0,4,9,10,12,13],[0,4,9,10,11,13],[0,4,9,10,11,13],[0,4,9,10,11,38],[6,7,8],[0,4,9,10,11,41],[6,7,8]]:=Fz rfl dk
def ARQ(k:Nat):OQ.ct k=none:=rfl
def ARL:OQ.at 0=[]/\OQ.at 1=[]/\OQ.at 2=[]/\OQ.at 3=[]/\OQ.at 4=[]/\OQ.at 5=[(11,none,true)]/\OQ.at 6=[]/\OQ.at 7=[]/\OQ.at 8=[]/\OQ.at 9=[]/\OQ.at 10=[]:=dk
def ARM(k:Nat):OQ.dn k=false:=AG rfl rfl
def ARN:OQ.tk=[22,26]/\OQ.mt=[]/\OQ.pc=[]:=⟨rfl,rfl,rfl⟩
def ARP:FK AA 151 f151 OQ:=F3 func151
def wa:Eg:=hm [60,1048636,3145788,2147483680,192,192,17180917820,304,192,0x4000000100034,3124,15360,192,0x10000000000000000000034,49172,0x100000000000000000000004014,192,192,327680,192] [78,79,110,125] [30,62,75,100,111,121] [30,40,46,48,62,75,85,100]
def ARo:wa.lv=Fv [[2,3,4,5],[2,3,4,5,20],[2,3,4,5,20,21],[5,31],[6,7],[6,7],[2,3,4,5,20,34],[4,5,8],[6,7],[2,4,5,20,50],[2,4,5,10,11],[10,11,12,13],[6,7],[2,4,5,88],[2,4,14,15],[2,4,14,104],[6,7],[6,7],[16,18],[6,7]]:=Fz rfl dk
def ARn:=F9 wa
def ARm:wa.tk=[78,79,110,125]/\wa.mt=[30,62,75,100,111,121]/\wa.pc=[30,40,46,48,62,75,85,100]:=⟨rfl,rfl,rfl⟩
def LL:FK AA 145 f145 wa:=F3 func145
def h79:Eg:=hm [12,44,36,32,16] [] [] []
def AZK:h79.lv=Fv [[2,3],[2,3,5],[2,5],[5],[4]]:=Fz rfl dk
def AZJ:=F9 h79
def AZI:h79.tk=[]/\h79.mt=[]/\h79.pc=[]:=⟨rfl,rfl,rfl⟩
def AZL:FK AA 79 f79 h79:=F3 func79
def h40:Eg:=hx [105,768] [10] [12,18] [] [18,21] [] [2006,2007]
def AbE:h40.lv=Fv [[0,3,5,6],[8,9]]:=Fz rfl dk
def AbF(k:Nat):h40.ct k=none:=rfl
def AbB(k:Nat):h40.at k=[]:=rfl
def AbC:h40.dn 0=false/\h40.dn 1=true:=dk
def AbD:h40.tk=[10]/\h40.mt=[12,18]/\h40.pc=[18,21]:=⟨rfl,rfl,rfl⟩
def AHC:FK AA 40 f40 h40:=F3 func40
def vq:Eg:=hm [1,4] [] [] []
def AO0:vq.lv=Fv [[0],[2]]:=Fz rfl dk
def AOz:=F9 vq
def AOy:vq.tk=[]/\vq.mt=[]/\vq.pc=[]:=⟨rfl,rfl,rfl⟩
def AO1:FK AA 199 f199 vq:=F3 func199
def AXP:AA.underlying 32=some (.slice 43)/\gU AA 32=true/\AA.cellsOf 36=11/\JH AA 36=some (some 11)/\GW AA 36=true/\Fb AA 36 0=some (34,0)/\Fb AA 36 1=some (3,10)/\AA.cellsOf 43=1/\AA.bytesOf 43=24/\JH AA 43=some none/\AA.underlying 43=some (.slice 107)/\gU AA 43=true:=T8
def zB:GW AA 43=true/\AA.underlying 44=some (.slice 72)/\AA.cellsOf 72=12/\AA.bytesOf 72=112/\JH AA 72=some (some 12)/\GW AA 72=true/\KE AA 72 = .struct [(0,1),(1,10),(11,1)]/\Fb AA 72 0=some (3,0)/\Fb AA 72 1=some (34,1)/\Fb AA 72 2=some (45,11)/\AA.underlying 78=some (.slice 36)/\AA.cellsOf 88=1:=T8
def AX1:JH AA 88=some none/\AA.underlying 88=some (.slice 45)/\Fk AA 88=some (.sl (some 1) [])/\AA.cellsOf 128=1/\JH AA 128=some none/\AA.underlying 128=some (.slice 130)/\Fk AA 128=some (.sl (some 12) [])/\AA.cellsOf 130=12/\AA.bytesOf 130=112/\JH AA 130=some (some 12)/\GW AA 130=true/\KE AA 130 = .struct [(0,1),(1,10),(11,1)]:=T8
def iJ:Fb AA 130 0=some (3,0)/\Fb AA 130 1=some (34,1)/\Fb AA 130 2=some (45,11)/\AA.cellsOf 188=1/\JH AA 188=some none/\JH AA 189=some none/\AA.cellsOf 190=7/\AA.underlying 190=some (.array 7 188)/\KE AA 190 = .array 1/\Fk AA 190=some (.agg [.nilf,.nilf,.nilf,.nilf,.nilf,.nilf,.nilf])/\KE AA 194 = .struct [(0,1),(1,6),(7,1),(8,10),(18,1),(19,4),(23,1)]/\Fb AA 194 0=some (27,0):=T8
def iG:Fb AA 194 1=some (115,1)/\Fb AA 194 2=some (43,7)/\Fb AA 194 3=some (34,8)/\Fb AA 194 4=some (3,18)/\Fb AA 194 5=some (107,19)/\Fb AA 194 6=some (4,23)/\AA.underlying 202=some (.slice 4)/\AA.underlying 206=some (.slice 278)/\JH AA 223=some none/\AA.cellsOf 224=1/\JH AA 224=some none/\Fk AA 224=some (.nilf):=T8
def h51:Eg:=hm [2,10,1073741826,4,18,34359738386,18,50,35184372088850,4,66,0x4000000000042,66,194,0x2000000000000042,4,4] [] [] [10,43,59]
def AaW:h51.lv=Fv [[1],[1,3],[1,30],[2],[1,4],[1,4,35],[1,4],[1,4,5],[1,4,45],[2],[1,6],[1,6,50],[1,6],[1,6,7],[1,6,61],[2],[2]]:=Fz rfl dk
def AaV:=F9 h51
def AaU:h51.tk=[]/\h51.mt=[]/\h51.pc=[10,43,59]:=⟨rfl,rfl,rfl⟩
def AHA:FK AA 51 f51 h51:=F3 func51
def h95:Eg:=hm [6,38,102,2097254,16,294,536871206,16,17592186044454,16,550,562949953421862,550,1574,0x40000000000626,1574,3622,0x8000000000000e26,3622,0x20000000000000000626,16,16] [] [] [19,25,75]
def AYR:h95.lv=Fv [[1,2],[1,2,5],[1,2,5,6],[1,2,5,6,21],[4],[1,2,5,8],[1,2,5,8,29],[4],[1,2,5,44],[4],[1,2,5,9],[1,2,5,9,49],[1,2,5,9],[1,2,5,9,10],[1,2,5,9,10,54],[1,2,5,9,10],[1,2,5,9,10,11],[1,2,5,9,10,11,63],[1,2,5,9,10,11],[1,2,5,9,10,77],[4],[4]]:=Fz rfl dk
def AYQ:=F9 h95
def AYP:h95.tk=[]/\h95.mt=[]/\h95.pc=[19,25,75]:=⟨rfl,rfl,rfl⟩
def AYS:FK AA 95 f95 h95:=F3 func95
def wE:Eg:=hm [6,70,2118,70,2097222,48,48] [] [] []
def AP6:wE.lv=Fv [[1,2],[1,2,6],[1,2,6,11],[1,2,6],[1,2,6,21],[4,5],[4,5]]:=Fz rfl dk
def AP5:=F9 wE
def AP4:wE.tk=[]/\wE.mt=[]/\wE.pc=[]:=⟨rfl,rfl,rfl⟩
def AP7:FK AA 172 f172 wE:=F3 func172
def wD:Eg:=hm [6,16] [] [] []
def AP2:wD.lv=Fv [[1,2],[4]]:=Fz rfl dk
def AP1:=F9 wD
def AP0:wD.tk=[]/\wD.mt=[]/\wD.pc=[]:=⟨rfl,rfl,rfl⟩
def AP3:FK AA 173 f173 wD:=F3 func173
def h96:Eg:=hm [12,108,492,2147483820,16,684,1708,0x40000000000000c,16,2060,0x2000000000000080c,16,0x40000000000000000000000000000,16,16] [] [] [16,23,39,47,63]
def AYN:h96.lv=Fv [[2,3],[2,3,5,6],[2,3,5,6,7,8],[2,3,5,7,31],[4],[2,3,5,7,9],[2,3,5,7,9,10],[2,3,58],[4],[2,3,11],[2,3,11,65],[4],[114],[4],[4]]:=Fz rfl dk
def AYM:=F9 h96
def AYL:h96.tk=[]/\h96.mt=[]/\h96.pc=[16,23,39,47,63]:=⟨rfl,rfl,rfl⟩
def AYO:FK AA 96 f96 h96:=F3 func96
def Xg:Eg:=hx [6,38,100,228,1048804,228,484,134218212,484,996,0x80000000000003e4,996,484,16] [67,71] [] [(13,[(4,none,false)])] [38] [] []
def AYI:Xg.lv=Fv [[1,2],[1,2,5],[2,5,6],[2,5,6,7],[2,5,6,7,20],[2,5,6,7],[2,5,6,7,8],[2,5,6,7,8,27],[2,5,6,7,8],[2,5,6,7,8,9],[2,5,6,7,8,9,63],[2,5,6,7,8,9],[2,5,6,7,8],[4]]:=Fz rfl dk
def AYK(k:Nat):Xg.ct k=none:=rfl
def AYF:Xg.at 0=[]/\Xg.at 1=[]/\Xg.at 2=[]/\Xg.at 3=[]/\Xg.at 4=[]/\Xg.at 5=[]/\Xg.at 6=[]/\Xg.at 7=[]/\Xg.at 8=[]/\Xg.at 9=[]/\Xg.at 10=[]/\Xg.at 11=[]/\Xg.at 12=[]/\Xg.at 13=[(4,none,false)]:=dk
def AYG(k:Nat):Xg.dn k=false:=AG rfl rfl
def AYH:Xg.tk=[67,71]/\Xg.mt=[]/\Xg.pc=[38]:=⟨rfl,rfl,rfl⟩
def AYJ:FK AA 97 f97 Xg:=F3 func97
def h52:Eg:=hm [2,18,8210,12,18,524306,12,1073741826,12,34,34359738402,34,50,4398046511154,12,66,562949953421378,66,82,0x1000000000000052,12,130,0x80000000000000082,130,386,0x10000000000000000082,12,12] [73] [] [11,17,40,58,72]
def AaS:h52.lv=Fv [[1],[1,4],[1,4,13],[2,3],[1,4],[1,4,19],[2,3],[1,30],[2,3],[1,5],[1,5,35],[1,5],[1,4,5],[1,4,5,42],[2,3],[1,6],[1,6,49],[1,6],[1,4,6],[1,4,6,60],[2,3],[1,7],[1,7,67],[1,7],[1,7,8],[1,7,76],[2,3],[2,3]]:=Fz rfl dk
def AaR:=F9 h52
def AaQ:h52.tk=[73]/\h52.mt=[]/\h52.pc=[11,17,40,58,72]:=⟨rfl,rfl,rfl⟩
def AaT:FK AA 52 f52 h52:=F3 func52
def h19:Eg:=hm [2,10,514,4,32,4] [] [] [7,12]
def Ab2:h19.lv=Fv [[1],[1,3],[1,9],[2],[5],[2]]:=Fz rfl dk
def Ab1:=F9 h19
def Ab0:h19.tk=[]/\h19.mt=[]/\h19.pc=[7,12]:=⟨rfl,rfl,rfl⟩
def Ab3:FK AA 19 f19 h19:=F3 func19
def v_:Eg:=hm [3,35,547,35,262179,16,16] [] [] []
def APa:v_.lv=Fv [[0,1],[0,1,5],[0,1,5,9],[0,1,5],[0,1,5,18],[4],[4]]:=Fz rfl dk
def APZ:=F9 v_
def APY:v_.tk=[]/\v_.mt=[]/\v_.pc=[]:=⟨rfl,rfl,rfl⟩
def APb:FK AA 179 f179 v_:=F3 func179
def u_:Eg:=hm [1,9,25,153,25,25,4] [] [] []
def AMR:u_.lv=Fv [[0],[0,3],[0,3,4],[0,3,4,7],[0,3,4],[0,3,4],[2]]:=Fz rfl dk
def AMQ:=F9 u_
def AMP:u_.tk=[]/\u_.mt=[]/\u_.pc=[]:=⟨rfl,rfl,rfl⟩
def AMS:FK AA 239 f239 u_:=F3 func239
def vz:Eg:=hm [28,34359738396,64,156,1099511627932,156,0x400000000000009c,64,0x1000000000000001c,0x3000000000000001c,64,0x41000000000000001c,284,0x800000000000000011c,284,0x80000000000000000000011c,64,64,0x1000000000000000000000000018,64,64] [] [] [60]
def APW:vz.lv=Fv [[2,3,4],[2,3,4,35],[6],[2,3,4,7],[2,3,4,7,40],[2,3,4,7],[2,3,4,7,62],[6],[2,3,4,64],[2,3,4,64,65],[6],[2,3,4,64,70],[2,3,4,8],[2,3,4,8,75],[2,3,4,8],[2,3,4,8,95],[6],[6],[3,4,108],[6],[6]]:=Fz rfl dk
def APV:=F9 vz
def APU:vz.tk=[]/\vz.mt=[]/\vz.pc=[60]:=⟨rfl,rfl,rfl⟩
def APX:FK AA 180 f180 vz:=F3 func180
def u9:Eg:=hm [3,35,32803,35,67108899,16,34359738403,16,1099511627779,16,35184372088832,16,16] [41,43] [] []
def AMN:u9.lv=Fv [[0,1],[0,1,5],[0,1,5,15],[0,1,5],[0,1,5,26],[4],[0,1,5,35],[4],[0,1,40],[4],[45],[4],[4]]:=Fz rfl dk
def AMM:=F9 u9
def AML:u9.tk=[41,43]/\u9.mt=[]/\u9.pc=[]:=⟨rfl,rfl,rfl⟩
def AMO:FK AA 240 f240 u9:=F3 func240
def vy:Eg:=hm [12,524,16,16396,16,16] [] [] [19]
def APS:vy.lv=Fv [[2,3],[2,3,9],[4],[2,3,14],[4],[4]]:=Fz rfl dk
def APR:=F9 vy
def APQ:vy.tk=[]/\vy.mt=[]/\vy.pc=[19]:=⟨rfl,rfl,rfl⟩
def APT:FK AA 181 f181 vy:=F3 func181
def vx:Eg:=hm [3,35,99,1123,99,524387,99,16] [] [] []
def APO:vx.lv=Fv [[0,1],[0,1,5],[0,1,5,6],[0,1,5,6,10],[0,1,5,6],[0,1,5,6,19],[0,1,5,6],[4]]:=Fz rfl dk
def APN:=F9 vx
def APM:vx.tk=[]/\vx.mt=[]/\vx.pc=[]:=⟨rfl,rfl,rfl⟩
def APP:FK AA 182 f182 vx:=F3 func182
def h99:Eg:=hm [3,35,2083,35,99,4194403,16,163,68719476771,16,0x8000000000023,16,0x2000000000000023,16,16] [] [] [20,34,49,60]
def AX_:h99.lv=Fv [[0,1],[0,1,5],[0,1,5,11],[0,1,5],[0,1,5,6],[0,1,5,6,22],[4],[0,1,5,7],[0,1,5,36],[4],[0,1,5,51],[4],[0,1,5,61],[4],[4]]:=Fz rfl dk
def AX9:=F9 h99
def vw:Eg:=hm [3,35,99,227,2275,227,8388835,163,227,8589934819,227,4398046511138,32,16] [24,34,43,47] [] []
def APK:vw.lv=Fv [[0,1],[0,1,5],[0,1,5,6],[0,1,5,6,7],[0,1,5,6,7,11],[0,1,5,6,7],[0,1,5,6,7,23],[0,1,5,7],[0,1,5,6,7],[0,1,5,6,7,33],[0,1,5,6,7],[1,5,42],[5],[4]]:=Fz rfl dk
def APJ:=F9 vw
def API:vw.tk=[24,34,43,47]/\vw.mt=[]/\vw.pc=[]:=⟨rfl,rfl,rfl⟩
def APL:FK AA 183 f183 vw:=F3 func183
def nS:Eg:=hm [3,35,99,65635,99,33554531,99,163,419,137438953891,419,931,1955,4003,281474976714659,4003,8099,0x80000000000001fa3,8099,8099,0x400000000000000001fa3,7075,2979,4003,419,16] [26,89,93] [] [33,70,75,78]
def ATF:nS.lv=Fv [[0,1],[0,1,5],[0,1,5,6],[0,1,5,6,16],[0,1,5,6],[0,1,5,6,25],[0,1,5,6],[0,1,5,7],[0,1,5,7,8],[0,1,5,7,8,37],[0,1,5,7,8],[0,1,5,7,8,9],[0,1,5,7,8,9,10],[0,1,5,7,8,9,10,11],[0,1,5,7,8,9,10,11,48],[0,1,5,7,8,9,10,11],[0,1,5,7,8,9,10,11,12],[0,1,5,7,8,9,10,11,12,67],[0,1,5,7,8,9,10,11,12],[0,1,5,7,8,9,10,11,12],[0,1,5,7,8,9,10,11,12,82],[0,1,5,7,8,9,11,12],[0,1,5,7,8,9,11],[0,1,5,7,8,9,10,11],[0,1,5,7,8],[4]]:=Fz rfl dk
def ATE:=F9 nS
def h53:Eg:=hm [7,135,262151,64,256,64] [19,20,22] [] [11,21,23]
def AaP:h53.lv=Fv [[0,1,2],[0,1,2,7],[0,1,2,18],[6],[8],[6]]:=Fz rfl dk
def AaO:=F9 h53
def h20:Eg:=hm [6,4102,16,38,65574,38,102,2199023255590,16,16] [] [] [31]
def Abz:h20.lv=Fv [[1,2],[1,2,12],[4],[1,2,5],[1,2,5,16],[1,2,5],[1,2,5,6],[1,2,5,41],[4],[4]]:=Fz rfl dk
def Aby:=F9 h20
def h21:Eg:=hm [2,10,4] [] [] [6]
def Abw:h21.lv=Fv [[1],[1,3],[2]]:=Fz rfl dk
def Abv:=F9 h21
def Abu:h21.tk=[]/\h21.mt=[]/\h21.pc=[6]:=⟨rfl,rfl,rfl⟩
def Abx:FK AA 21 f21 h21:=F3 func21
def h4:Eg:=hm [14,131076,64,1835008,3932160,1835264,68943872,64,1835008,64] [14,18] [] [10,15,25]
def Agt:h4.lv=Fv [[1,2,3],[2,17],[6],[18,19,20],[18,19,20,21],[8,18,19,20],[18,19,20,26],[6],[18,19,20],[6]]:=Fz rfl dk
def Ags:=F9 h4
def h33:Eg:=hm [1,17,4,4] [6] [] []
def Abg:h33.lv=Fv [[0],[0,4],[2],[2]]:=Fz rfl dk
def Abf:=F9 h33
def Abe:h33.tk=[6]/\h33.mt=[]/\h33.pc=[]:=⟨rfl,rfl,rfl⟩
def Abh:FK AA 33 f33 h33:=F3 func33
def h8:Eg:=hx [22,52,116,116,7516192884,16106127476,7516193140,282394100084,7516192884,7516192884,0x700000000000070,0xf00000000000070,0x700000000000470,0x8700000000000470,0x18700000000000470,0x700000000000470,0x200700000000000470,0x700000000000070,0x700000000000070,16] [74] [] [(10,[(6,some 2,true)])] [18] [(9,5),(18,5)] []
def Aga:h8.lv=Fv [[1,2,4],[2,4,5],[2,4,5,6],[2,4,5,6],[2,4,5,6,30,31,32],[2,4,5,6,30,31,32,33],[2,4,5,6,8,30,31,32],[2,4,5,6,8,30,31,32,38],[2,4,5,6,30,31,32],[2,4,5,6,30,31,32],[4,5,6,56,57,58],[4,5,6,56,57,58,59],[4,5,6,10,56,57,58],[4,5,6,10,56,57,58,63],[4,5,6,10,56,57,58,63,64],[4,5,6,10,56,57,58],[4,5,6,10,56,57,58,69],[4,5,6,56,57,58],[4,5,6,56,57,58],[4]]:=Fz rfl dk
def Agc:h8.ct 0=none/\h8.ct 1=none/\h8.ct 2=none/\h8.ct 3=none/\h8.ct 4=none/\h8.ct 5=none/\h8.ct 6=none/\h8.ct 7=none/\h8.ct 8=none/\h8.ct 9=some 5/\h8.ct 10=none/\h8.ct 11=none/\h8.ct 12=none/\h8.ct 13=none/\h8.ct 14=none/\h8.ct 15=none/\h8.ct 16=none/\h8.ct 17=none/\h8.ct 18=some 5/\h8.ct 19=none:=dk
def AgX:h8.at 0=[]/\h8.at 1=[]/\h8.at 2=[]/\h8.at 3=[]/\h8.at 4=[]/\h8.at 5=[]/\h8.at 6=[]/\h8.at 7=[]/\h8.at 8=[]/\h8.at 9=[]/\h8.at 10=[(6,some 2,true)]/\h8.at 11=[]/\h8.at 12=[]/\h8.at 13=[]/\h8.at 14=[]/\h8.at 15=[]/\h8.at 16=[]/\h8.at 17=[]/\h8.at 18=[]/\h8.at 19=[]:=dk
def AgY(k:Nat):h8.dn k=false:=AG rfl rfl
def AgZ:h8.tk=[74]/\h8.mt=[]/\h8.pc=[18]:=⟨rfl,rfl,rfl⟩
def Agb:FK AA 8 f8 h8:=F3 func8
def uy:Eg:=hm [1,17,4,4] [6] [5,7] []
def ALo:uy.lv=Fv [[0],[0,4],[2],[2]]:=Fz rfl dk
def ALn:=F9 uy
def ALm:uy.tk=[6]/\uy.mt=[5,7]/\uy.pc=[]:=⟨rfl,rfl,rfl⟩
def ALp:FK AA 273 f273 uy:=F3 func273
def wT:Eg:=hm [3,387,899,419,65955,16,387,16] [] [] []
def AQ_:wT.lv=Fv [[0,1],[0,1,7,8],[0,1,7,8,9],[0,1,5,7,8],[0,1,5,7,8,16],[4],[0,1,7,8],[4]]:=Fz rfl dk
def AQ9:=F9 wT
def AQ8:wT.tk=[]/\wT.mt=[]/\wT.pc=[]:=⟨rfl,rfl,rfl⟩
def nQ:FK AA 155 f155 wT:=F3 func155
def ux:Eg:=hm [3,35,4131,16,99,524387,99,227,536871139,99,99,33,16] [13,39] [] []
def ALi:ux.lv=Fv [[0,1],[0,1,5],[0,1,5,12],[4],[0,1,5,6],[0,1,5,6,19],[0,1,5,6],[0,1,5,6,7],[0,1,5,6,7,29],[0,1,5,6],[0,1,5,6],[0,5],[4]]:=Fz rfl dk
def ALh:=F9 ux
def ALg:ux.tk=[13,39]/\ux.mt=[]/\ux.pc=[]:=⟨rfl,rfl,rfl⟩
def ABk:FK AA 275 f275 ux:=F3 func275
def uw:Eg:=hm [6,8] [] [] []
def ALe:uw.lv=Fv [[1,2],[3]]:=Fz rfl dk
def ALd:=F9 uw
def ALc:uw.tk=[]/\uw.mt=[]/\uw.pc=[]:=⟨rfl,rfl,rfl⟩
def ALf:FK AA 276 f276 uw:=F3 func276
def vX:Eg:=hm [9,16] [5] [] []
def ANi:vX.lv=Fv [[0,3],[4]]:=Fz rfl dk
def ANh:=F9 vX
def ANg:vX.tk=[5]/\vX.mt=[]/\vX.pc=[]:=⟨rfl,rfl,rfl⟩
def ANj:FK AA 218 f218 vX:=F3 func218
def vV:Eg:=hm [6,8] [] [] []
def ANe:vV.lv=Fv [[1,2],[3]]:=Fz rfl dk
def ANd:=F9 vV
def ANc:vV.tk=[]/\vV.mt=[]/\vV.pc=[]:=⟨rfl,rfl,rfl⟩
def ANf:FK AA 219 f219 vV:=F3 func219
def wU:Eg:=hm [9,16] [5] [] []
def ARB:wU.lv=Fv [[0,3],[4]]:=Fz rfl dk
def ARA:=F9 wU
def AQ':wU.tk=[5]/\wU.mt=[]/\wU.pc=[]:=⟨rfl,rfl,rfl⟩
def ARC:FK AA 154 f154 wU:=F3 func154
def h66:Eg:=hm [1,9,456,968,488,16872,4,456,4] [6] [] []
def AZ_:h66.lv=Fv [[0],[0,3],[3,6,7,8],[3,6,7,8,9],[3,5,6,7,8],[3,5,6,7,8,14],[2],[3,6,7,8],[2]]:=Fz rfl dk
def AZ9:=F9 h66
def AZ8:h66.tk=[6]/\h66.mt=[]/\h66.pc=[]:=⟨rfl,rfl,rfl⟩
def AZ':FK AA 66 f66 h66:=F3 func66
def h67:Eg:=hm [3,35,99,2115,4096,16,16,8195,16,65539,16,524288,16,16] [] [] [8,10]
def AZ6:h67.lv=Fv [[0,1],[0,1,5],[0,1,5,6],[0,1,6,11],[12],[4],[4],[0,1,13],[4],[0,1,16],[4],[19],[4],[4]]:=Fz rfl dk
def AZ5:=F9 h67
def AZ4:h67.tk=[]/\h67.mt=[]/\h67.pc=[8,10]:=⟨rfl,rfl,rfl⟩
def AZ7:FK AA 67 f67 h67:=F3 func67
def h36:Eg:=hm [12,16] [] [] [9,14,16]
def AbU:h36.lv=Fv [[2,3],[4]]:=Fz rfl dk
def AbT:=F9 h36
def AbS:h36.tk=[]/\h36.mt=[]/\h36.pc=[9,14,16]:=⟨rfl,rfl,rfl⟩
def AbV:FK AA 36 f36 h36:=F3 func36
def vU:Eg:=hm [21,277,1813,132885,3861,2147487509,1813,1813,192] [41] [] [30,46]
def ANa:vU.lv=Fv [[0,2,4],[0,2,4,8],[0,2,4,8,9,10],[0,2,4,8,9,10,17],[0,2,4,8,9,10,11],[0,2,4,8,9,10,11,31],[0,2,4,8,9,10],[0,2,4,8,9,10],[6,7]]:=Fz rfl dk
def ANZ:=F9 vU
def ANY:vU.tk=[41]/\vU.mt=[]/\vU.pc=[30,46]:=⟨rfl,rfl,rfl⟩
def ANb:FK AA 220 f220 vU:=F3 func220
def wR:Eg:=hm [21,192] [8] [] [11]
def AQ2:wR.lv=Fv [[0,2,4],[6,7]]:=Fz rfl dk
def AQ1:=F9 wR
def AQ0:wR.tk=[8]/\wR.mt=[]/\wR.pc=[11]:=⟨rfl,rfl,rfl⟩
def AQ3:FK AA 157 f157 wR:=F3 func157
def ac:Eg:=hm [7,7,135,65671,64,391,4194695,64,2147484039,647,643,512,64,391,0x100000000000000187,7,1,64,131,1,64] [17,23,24,44,51,55,56,81,83,87,94] [25,40,67] [67,93]
def ALl:ac.lv=Fv [[0,1,2],[0,1,2],[0,1,2,7],[0,1,2,7,16],[6],[0,1,2,7,8],[0,1,2,7,8,22],[6],[0,1,2,7,8,31],[0,1,2,7,9],[0,1,7,9],[9],[6],[0,1,2,7,8],[0,1,2,7,8,68],[0,1,2],[0],[6],[0,1,7],[0],[6]]:=Fz rfl dk
def ALk:=F9 ac
def ALj:ac.tk=[17,23,24,44,51,55,56,81,83,87,94]/\ac.mt=[25,40,67]/\ac.pc=[67,93]:=⟨rfl,rfl,rfl⟩
def ABl:FK AA 274 f274 ac:=F3 func274
def vY:Eg:=hm [9,105,232,65704,128,16,16] [14,21,22] [25] [11]
def ANm:vY.lv=Fv [[0,3],[0,3,5,6],[3,5,6,7],[3,5,7,16],[7],[4],[4]]:=Fz rfl dk
def ANl:=F9 vY
def ANk:vY.tk=[14,21,22]/\vY.mt=[25]/\vY.pc=[11]:=⟨rfl,rfl,rfl⟩
def ANn:FK AA 217 f217 vY:=F3 func217
def wW:Eg:=hm [1,2097153,4,1,4] [] [] [18,31]
def ARJ:wW.lv=Fv [[0],[0,21],[2],[0],[2]]:=Fz rfl dk
def ARI:=F9 wW
def ARH:wW.tk=[]/\wW.mt=[]/\wW.pc=[18,31]:=⟨rfl,rfl,rfl⟩
def ARK:FK AA 152 f152 wW:=F3 func152
def wV:Eg:=hm [197,131141,1] [] [] [14,26,28]
def ARF:wV.lv=Fv [[0,2,6,7],[0,2,6,17],[0]]:=Fz rfl dk
def ARE:=F9 wV
def ARD:wV.tk=[]/\wV.mt=[]/\wV.pc=[14,26,28]:=⟨rfl,rfl,rfl⟩
def ARG:FK AA 153 f153 wV:=F3 func153
def h80:Eg:=hm [1,1,16777217,4,1,4] [] [] [23,36]
def AZH:h80.lv=Fv [[0],[0],[0,24],[2],[0],[2]]:=Fz rfl dk
def AZG:=F9 h80
def h81:Eg:=hm [1,1,4] [] [] [12]
def AZF:h81.lv=Fv [[0],[0],[2]]:=Fz rfl dk
def AZE:=F9 h81
def h82:Eg:=hm [1,4] [] [] []
def AZC:h82.lv=Fv [[0],[2]]:=Fz rfl dk
def AZB:=F9 h82
def AZA:h82.tk=[]/\h82.mt=[]/\h82.pc=[]:=⟨rfl,rfl,rfl⟩
def AZD:FK AA 82 f82 h82:=F3 func82
def h83:Eg:=hm [1,1,262145,9,3758096393,8053063689,3758096425,3758096393,3758096393,9,0x40000000000009,9,0x4000000000000000001,4,0x20000000000000000001,4,1,4] [] [] [29,76,89]
def AY':h83.lv=Fv [[0],[0],[0,18],[0,3],[0,3,29,30,31],[0,3,29,30,31,32],[0,3,5,29,30,31],[0,3,29,30,31],[0,3,29,30,31],[0,3],[0,3,54],[0,3],[0,74],[2],[0,77],[2],[0],[2]]:=Fz rfl dk
def AY_:=F9 h83
def wS:Eg:=hm [14,16] [] [] []
def AQ6:wS.lv=Fv [[1,2,3],[4]]:=Fz rfl dk
def AQ5:=F9 wS
def AQ4:wS.tk=[]/\wS.mt=[]/\wS.pc=[]:=⟨rfl,rfl,rfl⟩
def AQ7:FK AA 156 f156 wS:=F3 func156
def h84:Eg:=hm [2,10,34,66,34359738434,4,7696581394498,0xf0000000042,7696581394882,7696581394498,7696581394498,4] [] [] [19,27,33,60]
def AY9:h84.lv=Fv [[1],[1,3],[1,5],[1,6],[1,6,35],[2],[1,6,40,41,42],[1,6,40,41,42,43],[1,6,7,8,40,41,42],[1,6,40,41,42],[1,6,40,41,42],[2]]:=Fz rfl dk
def AY8:=F9 h84
def Y4:Eg:=hx [1,25,262169,25,57,4503599627370553,9,9,73,0x80000000000000000000049,65,4] [] [] [] [100] [] [7]
def AY6:Y4.lv=Fv [[0],[0,3,4],[0,3,4,18],[0,3,4],[0,3,4,5],[0,3,4,5,52],[0,3],[0,3],[0,3,6],[0,3,6,91],[0,6],[2]]:=Fz rfl dk
def AY7(k:Nat):Y4.ct k=none:=rfl
def AY4(k:Nat):Y4.at k=[]:=rfl
def AY5:Y4.dn 0=false/\Y4.dn 1=false/\Y4.dn 2=false/\Y4.dn 3=false/\Y4.dn 4=false/\Y4.dn 5=false/\Y4.dn 6=false/\Y4.dn 7=true/\Y4.dn 8=false/\Y4.dn 9=false/\Y4.dn 10=false/\Y4.dn 11=false:=dk
def h86:Eg:=hm [35,291,57633,123169,58657,63777,67168545,192,57633,57633,192] [13,27,34] [] [22,30]
def AY2:h86.lv=Fv [[0,1,5],[0,1,5,8],[0,5,8,13,14,15],[0,5,8,13,14,15,16],[0,5,8,10,13,14,15],[0,5,8,11,12,13,14,15],[0,5,8,11,13,14,15,26],[6,7],[0,5,8,13,14,15],[0,5,8,13,14,15],[6,7]]:=Fz rfl dk
def AY1:=F9 h86
def AY0:h86.tk=[13,27,34]/\h86.mt=[]/\h86.pc=[22,30]:=⟨rfl,rfl,rfl⟩
def AY3:FK AA 86 f86 h86:=F3 func86
def h87:Eg:=hm [71,833,524609,192,192] [13,21] [] [15]
def AYy:h87.lv=Fv [[0,1,2,6],[0,6,8,9],[0,6,8,19],[6,7],[6,7]]:=Fz rfl dk
def AYx:=F9 h87
def AYw:h87.tk=[13,21]/\h87.mt=[]/\h87.pc=[15]:=⟨rfl,rfl,rfl⟩
def AYz:FK AA 87 f87 h87:=F3 func87
def ab:Eg:=hx [1365,525653,7168,9557,25941,91460,91456,72057594038019392,75072,0x400000000000010500,7168,7168] [21,31,41,60] [] [] [28,45] [] [10,11]
def Aa_:ab.lv=Fv [[0,2,4,6,8,10],[0,2,4,6,8,10,19],[10,11,12],[0,2,4,6,8,10,13],[0,2,4,6,8,10,13,14],[2,6,8,10,13,14,16],[6,8,10,13,14,16],[6,8,10,13,14,16,56],[6,8,10,13,16],[8,10,16,70],[10,11,12],[10,11,12]]:=Fz rfl dk
def AbA(k:Nat):ab.ct k=none:=rfl
def Aa7(k:Nat):ab.at k=[]:=rfl
def Aa8:ab.dn 0=false/\ab.dn 1=false/\ab.dn 2=false/\ab.dn 3=false/\ab.dn 4=false/\ab.dn 5=false/\ab.dn 6=false/\ab.dn 7=false/\ab.dn 8=false/\ab.dn 9=false/\ab.dn 10=true/\ab.dn 11=true:=dk
def Aa9:ab.tk=[21,31,41,60]/\ab.mt=[]/\ab.pc=[28,45]:=⟨rfl,rfl,rfl⟩
def Aa':FK AA 41 f41 ab:=F3 func41
def OS:Eg:=hm [279,24599,1879072789,4026556437,1879138325,1879269397,122138345493,259577298965,122138869781,122141491221,122140442645,0x400001c70034015,7168,122138345493,1879269397,0xe000000070016015,0x1e000000070016015,0xe000000070816015,0xe000000070816015,0xe000000071816015,0x4000e000000070816015,0xe000000070016015,0xe000000070016015,1879072789,7168] [28,34,49,50,59,61,71,79,85,86] [] [46,74]
def AcL:OS.lv=Fv [[0,1,2,4,8],[0,1,2,4,13,14],[0,2,4,13,14,28,29,30],[0,2,4,13,14,28,29,30,31],[0,2,4,13,14,16,28,29,30],[0,2,4,13,14,16,17,28,29,30],[0,2,4,14,16,17,28,29,30,34,35,36],[0,2,4,14,16,17,28,29,30,34,35,36,37],[0,2,4,14,16,17,19,28,29,30,34,35,36],[0,2,4,14,16,17,20,21,28,29,30,34,35,36],[0,2,4,14,16,17,21,28,29,30,34,35,36],[0,2,4,14,16,17,28,29,30,34,35,36,58],[10,11,12],[0,2,4,14,16,17,28,29,30,34,35,36],[0,2,4,13,14,16,17,28,29,30],[0,2,4,13,14,16,28,29,30,61,62,63],[0,2,4,13,14,16,28,29,30,61,62,63,64],[0,2,4,13,14,16,23,28,29,30,61,62,63],[0,2,4,13,14,16,23,28,29,30,61,62,63],[0,2,4,13,14,16,23,24,28,29,30,61,62,63],[0,2,4,13,14,16,23,28,29,30,61,62,63,78],[0,2,4,13,14,16,28,29,30,61,62,63],[0,2,4,13,14,16,28,29,30,61,62,63],[0,2,4,13,14,28,29,30],[10,11,12]]:=Fz rfl dk
def AcK:=F9 OS
def AcJ:OS.tk=[28,34,49,50,59,61,71,79,85,86]/\OS.mt=[]/\OS.pc=[46,74]:=⟨rfl,rfl,rfl⟩
def AcM:FK AA 13 f13 OS:=F3 func13
def h43:Eg:=hm [3,387,899,419,65955,16,387,16] [] [] []
def Aa1:h43.lv=Fv [[0,1],[0,1,7,8],[0,1,7,8,9],[0,1,5,7,8],[0,1,5,7,8,16],[4],[0,1,7,8],[4]]:=Fz rfl dk
def Aa0:=F9 h43
def Aaz:h43.tk=[]/\h43.mt=[]/\h43.pc=[]:=⟨rfl,rfl,rfl⟩
def Aa2:FK AA 43 f43 h43:=F3 func43
def h45:Eg:=hx [105,256] [9] [11,17] [] [17] [] [2006,2007]
def Aas:h45.lv=Fv [[0,3,5,6],[8]]:=Fz rfl dk
def Aau(k:Nat):h45.ct k=none:=rfl
def Aap(k:Nat):h45.at k=[]:=rfl
def Aaq:h45.dn 0=false/\h45.dn 1=true:=dk
def Aar:h45.tk=[9]/\h45.mt=[11,17]/\h45.pc=[17]:=⟨rfl,rfl,rfl⟩
def Aat:FK AA 45 f45 h45:=F3 func45
def h44:Eg:=hm [62,64] [] [] [30]
def Aax:h44.lv=Fv [[1,2,3,4,5],[6]]:=Fz rfl dk
def Aaw:=F9 h44
def Aav:h44.tk=[]/\h44.mt=[]/\h44.pc=[30]:=⟨rfl,rfl,rfl⟩
def Aay:FK AA 44 f44 h44:=F3 func44
def h15:Eg:=hm [240,256] [] [] []
def AcE:h15.lv=Fv [[4,5,6,7],[8]]:=Fz rfl dk
def AcD:=F9 h15
def AcC:h15.tk=[]/\h15.mt=[]/\h15.pc=[]:=⟨rfl,rfl,rfl⟩
def AcF:FK AA 15 f15 h15:=F3 func15
def h46:Eg:=hm [6,1] [3] [] []
def Aan:h46.lv=Fv [[1,2],[0]]:=Fz rfl dk
def Aam:=F9 h46
def Aal:h46.tk=[3]/\h46.mt=[]/\h46.pc=[]:=⟨rfl,rfl,rfl⟩
def Aao:FK AA 46 f46 h46:=F3 func46
def h47:Eg:=hm [1,17,4,4] [6] [] []
def Aak:h47.lv=Fv [[0],[0,4],[2],[2]]:=Fz rfl dk
def Aaj:=F9 h47
def h49:Eg:=hm [1,17,4,4] [6] [] []
def Aad:h49.lv=Fv [[0],[0,4],[2],[2]]:=Fz rfl dk
def Aac:=F9 h49
def Aab:h49.tk=[6]/\h49.mt=[]/\h49.pc=[]:=⟨rfl,rfl,rfl⟩
def Aae:FK AA 49 f49 h49:=F3 func49
def h88:Eg:=hm [3,387,899,419,65955,16,387,16] [] [] []
def AYu:h88.lv=Fv [[0,1],[0,1,7,8],[0,1,7,8,9],[0,1,5,7,8],[0,1,5,7,8,16],[4],[0,1,7,8],[4]]:=Fz rfl dk
def AYt:=F9 h88
def AYs:h88.tk=[]/\h88.mt=[]/\h88.pc=[]:=⟨rfl,rfl,rfl⟩
def AYv:FK AA 88 f88 h88:=F3 func88
def h89:Eg:=hm [6,8] [] [] []
def AYq:h89.lv=Fv [[1,2],[3]]:=Fz rfl dk
def AYp:=F9 h89
def AYo:h89.tk=[]/\h89.mt=[]/\h89.pc=[]:=⟨rfl,rfl,rfl⟩
def AYr:FK AA 89 f89 h89:=F3 func89
def h50:Eg:=hm [12,64,48] [] [] []
def AaZ:h50.lv=Fv [[2,3],[6],[4,5]]:=Fz rfl dk
def AaY:=F9 h50
def AaX:h50.tk=[]/\h50.mt=[]/\h50.pc=[]:=⟨rfl,rfl,rfl⟩
def Aaa:FK AA 50 f50 h50:=F3 func50
def h16:Eg:=hm [90,2138,6234,481036343386,0xf00000185a,481036367962,481036449882,563430989805658,481036343386,481036343386,137242,399386,923674,0x20000000000e181a,923674,1972250,4069402,8263706,121509914,0x10000000000000000033e181a,1792,20846618,0x3800000000000000000003e181a,0x7800000000000000000003e181a,0x3800000000000000000103e181a,0x3800000000000000000703e181a,0x1003800000000000000000303e181a,0x3800000000000000000b03e181a,0x100003800000000000000000b03e181a,0x3800000000000000000003e181a,0x3800000000000000001903e181a,0x3800000000000000001903e181a,0x3800000000000000000003e181a,0x3800000000000000000003e181a,0x8000000000000000000000000000000000000e181a,1792,1792] [82,97,101,103,125,168,169,170] [] [46,57,76,91,112,122,131,143,158]
def AcB:h16.lv=Fv [[1,3,4,6],[1,3,4,6,11],[1,3,4,6,11,12],[1,3,4,6,11,12,36,37,38],[1,3,4,6,11,12,36,37,38,39],[1,3,4,6,11,12,13,14,36,37,38],[1,3,4,6,11,12,13,15,16,36,37,38],[1,3,4,6,11,12,13,15,36,37,38,49],[1,3,4,6,11,12,36,37,38],[1,3,4,6,11,12,36,37,38],[1,3,4,11,12,17],[1,3,4,11,12,17,18],[1,3,4,11,12,17,18,19],[1,3,4,11,12,17,18,19,61],[1,3,4,11,12,17,18,19],[1,3,4,11,12,17,18,19,20],[1,3,4,11,12,17,18,19,20,21],[1,3,4,11,12,17,18,19,20,21,22],[1,3,4,11,12,17,18,19,20,21,24,25,26],[1,3,4,11,12,17,18,19,20,21,24,25,96],[8,9,10],[1,3,4,11,12,17,18,19,20,21,24],[1,3,4,11,12,17,18,19,20,21,103,104,105],[1,3,4,11,12,17,18,19,20,21,103,104,105,106],[1,3,4,11,12,17,18,19,20,21,28,103,104,105],[1,3,4,11,12,17,18,19,20,21,28,29,30,103,104,105],[1,3,4,11,12,17,18,19,20,21,28,29,103,104,105,116],[1,3,4,11,12,17,18,19,20,21,28,29,31,103,104,105],[1,3,4,11,12,17,18,19,20,21,28,29,31,103,104,105,124],[1,3,4,11,12,17,18,19,20,21,103,104,105],[1,3,4,11,12,17,18,19,20,21,28,31,32,103,104,105],[1,3,4,11,12,17,18,19,20,21,28,31,32,103,104,105],[1,3,4,11,12,17,18,19,20,21,103,104,105],[1,3,4,11,12,17,18,19,20,21,103,104,105],[1,3,4,11,12,17,18,19,167],[8,9,10],[8,9,10]]:=Fz rfl dk
def AcA:=F9 h16
def h17:Eg:=hm [3,1027,16,35,16419,35,33554467,16,16] [] [] []
def Ab_:h17.lv=Fv [[0,1],[0,1,10],[4],[0,1,5],[0,1,5,14],[0,1,5],[0,1,5,25],[4],[4]]:=Fz rfl dk
def Ab9:=F9 h17
def Ab8:h17.tk=[]/\h17.mt=[]/\h17.pc=[]:=⟨rfl,rfl,rfl⟩
def Ab':FK AA 17 f17 h17:=F3 func17
def h18:Eg:=hm [3,2051,16,35,32803,35,99,72057594037927971,16,16] [] [] [28]
def Ab6:h18.lv=Fv [[0,1],[0,1,11],[4],[0,1,5],[0,1,5,15],[0,1,5],[0,1,5,6],[0,1,5,56],[4],[4]]:=Fz rfl dk
def Ab5:=F9 h18
def Ab4:h18.tk=[]/\h18.mt=[]/\h18.pc=[28]:=⟨rfl,rfl,rfl⟩
def Ab7:FK AA 18 f18 h18:=F3 func18
def h5:Eg:=hx [1,2,6,6,30,122,506,4090,24570,122874,516090,2088954,0x800000000000000000000000000a9202,1,2789890,6984194,15372802,1] [124,137,138,141,142,146,152,157] [31] [(1,[(1,some 5,true)]),(3,[(2,some 5,true)])] [51,60] [] []
def Agp:h5.lv=Fv [[0],[1],[1,2],[1,2],[1,2,3,4],[1,3,4,5,6],[1,3,4,5,6,7,8],[1,3,4,5,6,7,8,9,10,11],[1,3,4,5,6,7,8,9,10,11,12,14],[1,3,4,5,6,7,8,9,10,11,12,14,15,16],[1,3,4,5,6,7,8,9,10,11,12,14,15,16,17,18],[1,3,4,5,6,7,8,9,10,11,12,14,15,16,17,18,19,20],[1,9,12,15,17,19,127],[0],[1,9,12,15,17,19,21],[1,9,12,15,17,19,21,22],[1,9,12,15,17,19,21,22,23],[0]]:=Fz rfl dk
def Agr(k:Nat):h5.ct k=none:=rfl
def Agm:h5.at 0=[]/\h5.at 1=[(1,some 5,true)]/\h5.at 2=[]/\h5.at 3=[(2,some 5,true)]/\h5.at 4=[]/\h5.at 5=[]/\h5.at 6=[]/\h5.at 7=[]/\h5.at 8=[]/\h5.at 9=[]/\h5.at 10=[]/\h5.at 11=[]/\h5.at 12=[]/\h5.at 13=[]/\h5.at 14=[]/\h5.at 15=[]/\h5.at 16=[]/\h5.at 17=[]:=dk
def Agn(k:Nat):h5.dn k=false:=AG rfl rfl
def Ago:h5.tk=[124,137,138,141,142,146,152,157]/\h5.mt=[31]/\h5.pc=[51,60]:=⟨rfl,rfl,rfl⟩
def Agq:FK AA 5 f5 h5:=F3 func5
def h6:Eg:=hm [12,7176,15368,7272,7464,8395816,16,7176,16] [] [] [20]
def Agk:h6.lv=Fv [[2,3],[3,10,11,12],[3,10,11,12,13],[3,5,6,10,11,12],[3,5,8,10,11,12],[3,5,10,11,12,23],[4],[3,10,11,12],[4]]:=Fz rfl dk
def Agj:=F9 h6
def Agi:h6.tk=[]/\h6.mt=[]/\h6.pc=[20]:=⟨rfl,rfl,rfl⟩
def Agl:FK AA 6 f6 h6:=F3 func6
def h30:Eg:=hm [12,4294967308,16,44,137438953516,44,0x400000000002c,16,76,0x8000000000004c,76,0x10000000000000004c,16,140,0x200000000000000008c,140,0x400000000000000000008c,16,16] [] [] []
def Abs:h30.lv=Fv [[2,3],[2,3,32],[4],[2,3,5],[2,3,5,37],[2,3,5],[2,3,5,50],[4],[2,3,6],[2,3,6,55],[2,3,6],[2,3,6,68],[4],[2,3,7],[2,3,7,73],[2,3,7],[2,3,7,86],[4],[4]]:=Fz rfl dk
def Abr:=F9 h30
def Abq:h30.tk=[]/\h30.mt=[]/\h30.pc=[]:=⟨rfl,rfl,rfl⟩
def Abt:FK AA 30 f30 h30:=F3 func30
def h65:Eg:=hm [12,134217740,16,44,4294967340,44,108,0x80000000002c,16,16] [] [] [45]
def AaC:h65.lv=Fv [[2,3],[2,3,27],[4],[2,3,5],[2,3,5,32],[2,3,5],[2,3,5,6],[2,3,5,47],[4],[4]]:=Fz rfl dk
def AaB:=F9 h65
def AaA:h65.tk=[]/\h65.mt=[]/\h65.pc=[45]:=⟨rfl,rfl,rfl⟩
def AG_:FK AA 65 f65 h65:=F3 func65
def h31:Eg:=hm [12,44,0x200000000000000c,16,76,0x4000000000000004c,76,0x8000000000000000004c,16,140,0x100000000000000000008c,140,0x200000000000000000000008c,16,268,0x4000000000000000000000010c,268,780,1804,0x1000000000000000000000000000000010c,16,2060,0x20000000000000000000000000000000080c,2060,0x40000000000000000000000000000000000080c,16,16] [] [] [16,117,130]
def Abo:h31.lv=Fv [[2,3],[2,3,5],[2,3,61],[4],[2,3,6],[2,3,6,66],[2,3,6],[2,3,6,79],[4],[2,3,7],[2,3,7,84],[2,3,7],[2,3,7,97],[4],[2,3,8],[2,3,8,102],[2,3,8],[2,3,8,9],[2,3,8,9,10],[2,3,8,136],[4],[2,3,11],[2,3,11,141],[2,3,11],[2,3,11,154],[4],[4]]:=Fz rfl dk
def Abn:=F9 h31
def Abm:h31.tk=[]/\h31.mt=[]/\h31.pc=[16,117,130]:=⟨rfl,rfl,rfl⟩
def Abp:FK AA 31 f31 h31:=F3 func31
def h32:Eg:=hm [12,44,16] [] [] [10]
def Abk:h32.lv=Fv [[2,3],[2,3,5],[4]]:=Fz rfl dk
def Abj:=F9 h32
def Abi:h32.tk=[]/\h32.mt=[]/\h32.pc=[10]:=⟨rfl,rfl,rfl⟩
def Abl:FK AA 32 f32 h32:=F3 func32
def h7:Eg:=hm [12,44,17592186044428,16,76,562949953421388,76,0x400000000000004c,16,140,0x8000000000000008c,140,396,0x40000000000000000008c,16,524,0x800000000000000000020c,524,1548,0x4000000000000000000000020c,16,16] [] [] [15,80,100]
def Agf:h7.lv=Fv [[2,3],[2,3,5],[2,3,44],[4],[2,3,6],[2,3,6,49],[2,3,6],[2,3,6,62],[4],[2,3,7],[2,3,7,67],[2,3,7],[2,3,7,8],[2,3,7,82],[4],[2,3,9],[2,3,9,87],[2,3,9],[2,3,9,10],[2,3,9,102],[4],[4]]:=Fz rfl dk
def Age:=F9 h7
def Agd:h7.tk=[]/\h7.mt=[]/\h7.pc=[15,80,100]:=⟨rfl,rfl,rfl⟩
def Agg:FK AA 7 f7 h7:=F3 func7
def cz:Eg:=hx [7,16391,64,229382,491526,229766,230150,1073971206,64,229382,64] [15] [] [] [] [(9,0)] []
def Abc:cz.lv=Fv [[0,1,2],[0,1,2,14],[6],[1,2,15,16,17],[1,2,15,16,17,18],[1,2,7,8,15,16,17],[1,2,8,9,15,16,17],[1,2,15,16,17,30],[6],[1,2,15,16,17],[6]]:=Fz rfl dk
def Abd:cz.ct 0=none/\cz.ct 1=none/\cz.ct 2=none/\cz.ct 3=none/\cz.ct 4=none/\cz.ct 5=none/\cz.ct 6=none/\cz.ct 7=none/\cz.ct 8=none/\cz.ct 9=some 0/\cz.ct 10=none:=dk
def AbZ(k:Nat):cz.at k=[]:=rfl
def Aba(k:Nat):cz.dn k=false:=AG rfl rfl
def Abb:cz.tk=[15]/\cz.mt=[]/\cz.pc=[]:=⟨rfl,rfl,rfl⟩
def AHE:FK AA 34 f34 cz:=F3 func34
def h35:Eg:=hm [12,16] [] [] [7]
def AbY:h35.lv=Fv [[2,3],[4]]:=Fz rfl dk
def AbX:=F9 h35
def AbW:h35.tk=[]/\h35.mt=[]/\h35.pc=[7]:=⟨rfl,rfl,rfl⟩
def AHD:FK AA 35 f35 h35:=F3 func35
def h9:Eg:=hm [3,16] [5,6] [] [7]
def AgW:h9.lv=Fv [[0,1],[4]]:=Fz rfl dk
def AgV:=F9 h9
def AgU:h9.tk=[5,6]/\h9.mt=[]/\h9.pc=[7]:=⟨rfl,rfl,rfl⟩
def AX8:FK AA 9 f9 h9:=F3 func9
def wz:Eg:=hm [414,2462,10654,34206,0x3800000000000059e,0x7800000000000059e,0x3800000000004059e,0x380000000000c059e,0x200380000000000c059e,0x3800000000008059e,0x200003800000000008059e,0x3800000000018059e,0xe000003800000000010059e,0x1e000003800000000010059e,0xe000003800000000050059e,0x400000e000003800000000010059e,0xe000003800000000010059e,0xe000003800000000010059e,0x3800000000008059e,0x3800000000000059e,0x3800000000000059e,58721668,0x10000000000000000000000000003800584,25167236,0x1c0000000000000000000000000001000584,0x3c0000000000000000000000000001000584,0x1c0000000000000000000000000009000584,0x81c0000000000000000000000000009000584,0x1c0000000000000000000000000009000584,0x1c0000000000000000000000000001000584,0x1c0000000000000000000000000001000584,1920] [51,63,119,126,138,149,154,155,156] [] [34,45,59,76,83,131]
def AcZ:wz.lv=Fv [[1,2,3,4,7,8],[1,2,3,4,7,8,11],[1,2,3,4,7,8,11,13],[1,2,3,4,7,8,10,15],[1,2,3,4,7,8,10,63,64,65],[1,2,3,4,7,8,10,63,64,65,66],[1,2,3,4,7,8,10,18,63,64,65],[1,2,3,4,7,8,10,18,19,63,64,65],[1,2,3,4,7,8,10,18,19,63,64,65,77],[1,2,3,4,7,8,10,19,63,64,65],[1,2,3,4,7,8,10,19,63,64,65,85],[1,2,3,4,7,8,10,19,20,63,64,65],[1,2,3,4,7,8,10,20,63,64,65,89,90,91],[1,2,3,4,7,8,10,20,63,64,65,89,90,91,92],[1,2,3,4,7,8,10,20,22,63,64,65,89,90,91],[1,2,3,4,7,8,10,20,63,64,65,89,90,91,114],[1,2,3,4,7,8,10,20,63,64,65,89,90,91],[1,2,3,4,7,8,10,20,63,64,65,89,90,91],[1,2,3,4,7,8,10,19,63,64,65],[1,2,3,4,7,8,10,63,64,65],[1,2,3,4,7,8,10,63,64,65],[2,7,8,10,23,24,25],[2,7,8,10,23,24,25,136],[2,7,8,10,23,24],[2,7,8,10,24,138,139,140],[2,7,8,10,24,138,139,140,141],[2,7,8,10,24,27,138,139,140],[2,7,8,10,24,27,138,139,140,147],[2,7,8,10,24,27,138,139,140],[2,7,8,10,24,138,139,140],[2,7,8,10,24,138,139,140],[7,8,9,10]]:=Fz rfl dk
def AcY:=F9 wz
def AcX:wz.tk=[51,63,119,126,138,149,154,155,156]/\wz.mt=[]/\wz.pc=[34,45,59,76,83,131]:=⟨rfl,rfl,rfl⟩
def Aca:FK AA 10 f10 wz:=F3 func10
def h3:Eg:=hm [620,34359738988,1024,6764,0x1000000000000001a6c,1024,14444,258120,4177920,0x4000000000000000000374000,1024,1024] [78,88,95,96,108,109,112,113] [] [26,33,36,40,44,54,57,58,70,73,97,99,110,114]
def Agv:h3.lv=Fv [[2,3,5,6,9],[2,3,5,6,9,35],[10],[2,3,5,6,9,11,12],[2,3,5,6,9,11,12,72],[10],[2,3,5,6,11,12,13],[3,6,12,13,14,15,16,17],[14,15,16,17,18,19,20,21],[14,16,17,18,20,21,98],[10],[10]]:=Fz rfl dk
def Agu:=F9 h3
attribute [go_sem] AX0 AXz ACZ AEI AXQ AId nY AXO xc nX zA AIg AIf AIW iM iL iK iI iH oG ANM ANL ANK AQl AQk AQj ALb ALa ALZ ANW ANV ANU AQz AQy AQx AQw AQv AQu ANT ANS ANR AQs AQr AQq AYf AYe AYd ANQ ANP ANO AQo AQn AQm AYj AYi AYh AQV AQU AQT ALP ALO ALN ALX ALW ALV ANI ANH ANG AJ2 AJ1 AJ0 ALI ALH ALG AaF AaE AaD AJG AJF AJE AJC AJB AJA AI2 AI1 AI0 AI6 AI5 AI4 AI_ AI9 AI8 AJK AJJ AJI AJy AJx AJw AJe AJd AJc AKm AKl AKk AKq AKp AKo AMv AMu AMt ATD ATC ATB AKa AKZ AKY AMj AMi AMh APu APt APs AMc AMb AMa AKi AKh AKg AKW AKV AKU AMY AMX AMW AKe AKd AKc AMn AMm AMl AMf AMe AMd APp APr APm APn APo APj APl APg APh APi AMV AMU AMT AO8 AO7 AO6 APB APD AO_ AO' APA APG APF APE APe APd APc AYC AYE AX' AYA AYB AJ6 AJ5 AJ4 ALT ALS ALR ALM ALL ALK AND ANF ANA ANB ANC AMr AMq AMp APy APx APw ALE ALD ALC AM_ AM9 AM8 AQh AQg AQf AM7 AM6 AM5 AM3 AM2 AM1 AQI AQK AQF AQG AQH AYm AYl AYk AQd AQc AQb AQZ AQY AQX AYa AYc AYX AYY AYZ AQR AQQ AQP AQN AQM AQL AYV AYU AYT AaM AaL AaK ASC ASB ASA AZR AZQ AbI AbH AbG AcP AcO AcN AP_ AP9 AP8 Aa5 Aa4 Aa3 AcI AcH AcG Aah Aag Aaf oF AIV AJu AJt AJs AJi AJh AJg AKu AKt AKs AJq AJp AJo AK8 AK7 AK6 AKy AKx AKw AJm AJl AJk AK3 AK5 AK0 AK1 AK2 ALA AK' AK_ AMz AMy AMx AQC AQE AP' AQA AQB AaI AaH AaG AS3 AS2 AS1 AOu AOw AOr AOs AOt AOp AOo AOn ASp ASo ASn AZk AZm AZh AZi AZj AZz AZy AZx AZp AZo AZn ASy AS0 ASv ASw ASx ASt ASs ASr AZu AZw AZr AZs AZt AbQ AbP AbO ASY ASX ASW AZc AZb AZa ASf ASe ASd AOk AOm AOh AOi AOj ASc ASb ASa ASk ASm ASh ASi ASj AZg AZf AZe AJa AJZ AJY AKO AKN AKM AS' AS_ AS9 AJW AJV AJU AJS AJR AJQ AKK AKJ AKI AKG AKF AKE AJO AJN AJM AJ_ AJ9 AJ8 AKC AKB AKA AMB AMA AL' AOR AOQ AOP ASO ASN ASM ASK ASJ ASI AOZ AOY AOX AKS AKR AKQ AMJ AMI AMH AMF AME AMD AOV AOU AOT ASS ASR ASQ AOe AOg AOb AOc AOd ASV ASU AST AL9 AL8 AL7 AON AOM AOL AOJ AOI AOH ASG ASF ASE AZV AZU AZT AZY AZX AZW AbM AbL AbK AcU AcW AcR AcS AcT oH re AO4 AO3 AO2 AOF AOE AOD AR7 AR6 AR5 AOB AOA AN' xb oE AZO AZN AZM AR3 AR2 AR1 AN5 AN4 AN3 AN9 AN8 AN7 ARv ARu ARt ARz ARy ARx ARr ARq ARp AR' AR_ AR9 ARk ARj ARi ARg ARf ARe ARd ARc ARb AS7 AS6 AS5 AZ3 AZ2 AZ1 ALz ALy ALx AL4 AL6 AL1 AL2 AL3 AN0 ANz ARZ ARY ARX ARU ARW ARR ARS ART ALw ALv ALu ANy ANx ANw ALs ALr ALq ANq ANp ANo ANu ANt ANs ARO ARQ ARL ARM ARN ARo ARn ARm AZK AZJ AZI AbE AbF AbB AbC AbD AO0 AOz AOy AXP zB AX1 iJ iG AaW AaV AaU AYR AYQ AYP AP6 AP5 AP4 AP2 AP1 AP0 AYN AYM AYL AYI AYK AYF AYG AYH AaS AaR AaQ Ab2 Ab1 Ab0 APa APZ APY AMR AMQ AMP APW APV APU AMN AMM AML APS APR APQ APO APN APM AX_ AX9 APK APJ API ATF ATE AaP AaO Abz Aby Abw Abv Abu Agt Ags Abg Abf Abe Aga Agc AgX AgY AgZ ALo ALn ALm AQ_ AQ9 AQ8 ALi ALh ALg ALe ALd ALc ANi ANh ANg ANe ANd ANc ARB ARA AQ' AZ_ AZ9 AZ8 AZ6 AZ5 AZ4 AbU AbT AbS ANa ANZ ANY AQ2 AQ1 AQ0 ALl ALk ALj ANm ANl ANk ARJ ARI ARH ARF ARE ARD AZH AZG AZF AZE AZC AZB AZA AY' AY_ AQ6 AQ5 AQ4 AY9 AY8 AY6 AY7 AY4 AY5 AY2 AY1 AY0 AYy AYx AYw Aa_ AbA Aa7 Aa8 Aa9 AcL AcK AcJ Aa1 Aa0 Aaz Aas Aau Aap Aaq Aar Aax Aaw Aav AcE AcD AcC Aan Aam Aal Aak Aaj Aad Aac Aab AYu AYt AYs AYq AYp AYo AaZ AaY AaX AcB AcA Ab_ Ab9 Ab8 Ab6 Ab5 Ab4 Agp Agr Agm Agn Ago Agk Agj Agi Abs Abr Abq AaC AaB AaA Abo Abn Abm Abk Abj Abi Agf Age Agd Abc Abd AbZ Aba Abb AbY AbX AbW AgW AgV AgU AcZ AcY AcX Agv Agu
end Go.AI
