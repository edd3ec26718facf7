/- Closed facts about the program's types. Printed by fa.py. -/
import Derived.Test.YtofajkggflobkaaGreatDoorProg
import Derived.Test.YtofajkggflobkaaGreatDoorLi
set_option linter.unusedSimpArgs false
set_option linter.unusedVariables false
set_option linter.defProp false
open Go.Proofs.Tryz
open Go.AI renaming Hint->Ef
open Eq renaming trans->AG
open Go.Proofs.Tryz renaming prog->AA
namespace Go.AI
open Go.Proofs
def Tf{p0 p1 p2 p3 p4 p5 p6 p7 p8 p9 p10 p11:Prop}(hp0:p0 := by kernel_rfl)(hp1:p1 := by kernel_rfl)(hp2:p2 := by kernel_rfl)(hp3:p3 := by kernel_rfl)(hp4:p4 := by kernel_rfl)(hp5:p5 := by kernel_rfl)(hp6:p6 := by kernel_rfl)(hp7:p7 := by kernel_rfl)(hp8:p8 := by kernel_rfl)(hp9:p9 := by kernel_rfl)(hp10:p10 := by kernel_rfl)(hp11:p11 := by kernel_rfl):p0/\p1/\p2/\p3/\p4/\p5/\p6/\p7/\p8/\p9/\p10/\p11:=⟨hp0,hp1,hp2,hp3,hp4,hp5,hp6,hp7,hp8,hp9,hp10,hp11⟩
def Fu:List (List Nat)->Nat->List Nat
 | [],_=>[]
 | x::_,0=>x
 | _::r,k+1=>Fu r k
def AWA(x:List Nat)(r:List (List Nat)):Fu (x::r) 0=x:=AG rfl rfl
def AV9(x:List Nat)(r:List (List Nat))(k:Nat):Fu (x::r) (k+1)=Fu r k:=AG rfl rfl
def AGw : ∀ (l:List Nat) (j k:Nat),((lvM j l).lookup (j+k)).getD []=Fu (l.map AC0) k
 | [],j,k=>by simp [lvM,Fu]
 | m::l,j,0=>by simp [lvM,Fu]
 | m::l,j,k+1=>by
  have h:(j+(k+1)==j)=false:=sm
  rw [lvM,List.lookup_cons,h]
  have := AGw l (j+1) k
  rw [show j+1+k=j+(k+1) by omega] at this
  exact this
def Fy{h:Ef}{l:List Nat}{L:List (List Nat)}(e:h.live=lvM 0 l)(hL:l.map AC0=L):h.lv=Fu L:=by
 subst hL
 funext k
 have := AGw l 0 k
 rw [Nat.zero_add] at this
 show (h.live.lookup k).getD []=_
 rw [e];exact this
def F0{P:Program}{n:FuncId}{f:Func}{h:Ef}(g:P.funcs[n]? =some f)(m:P.follows .mixedOrders=true := by kernel_rfl)(d:f.body.any (GZ h)=true := by kernel_rfl)(c:HW P n=true := by kernel_rfl):FK P n f h:=⟨m,d,g,c⟩
def F5(h:Ef)(a:h.gc=[] := by rfl)(b:h.fz=[] := by rfl)(c:h.dy=[] := by rfl):(∀ k,h.ct k=none)/\(∀ k,h.at k=[])/\(∀ k,h.dn k=false):=mj h a b c
def ACV:AA.cellsOf 3=1/\AA.bytesOf 3=8/\JG AA 3=some none/\AA.underlying 3=some (.int .i64)/\Gj AA 3=true/\(AA.info? 3).isSome=true/\Fi AA 3=some (.int .i64 0)/\AA.cellsOf 4=1/\AA.bytesOf 4=1/\JG AA 4=some none/\V4 AA 4=true/\(AA.info? 4).isSome=true:=Tf
def AEG:Fi AA 4=some (.bool false)/\AA.cellsOf 9=1/\AA.bytesOf 9=16/\JG AA 9=some none/\AA.underlying 9=some .string/\Gj AA 9=true/\(AA.info? 9).isSome=true/\AA.cellsOf 22=1/\JG AA 22=some none/\AA.underlying 22=some (.slice 117)/\AA.cellsOf 23=1/\JG AA 23=some none:=Tf
def AVZ:AA.underlying 23=some (.slice 166)/\AA.cellsOf 24=1/\JG AA 24=some none/\AA.underlying 24=some (.slice 77)/\AA.cellsOf 26=3/\JG AA 26=some (some 3)/\FW AA 26 0=some (22,0)/\FW AA 26 1=some (23,1)/\FW AA 26 2=some (24,2)/\AA.cellsOf 27=1/\JG AA 27=some none/\AA.underlying 27=some (.slice 115):=Tf
def xP:AA.cellsOf 28=1/\JG AA 28=some none/\AA.underlying 28=some (.slice 89)/\AA.cellsOf 29=1/\JG AA 29=some none/\AA.underlying 29=some (.slice 66)/\AA.cellsOf 31=6/\JG AA 31=some (some 6)/\FW AA 31 0=some (26,0)/\FW AA 31 1=some (27,3)/\FW AA 31 2=some (28,4)/\FW AA 31 3=some (29,5):=Tf
def xO:AA.cellsOf 34=10/\AA.bytesOf 34=80/\JG AA 34=some (some 10)/\AA.underlying 34=some (.array 10 3)/\Gj AA 34=true/\(AA.info? 34).isSome=true/\KK AA 34 = .array 1/\AA.cellsOf 40=1/\JG AA 40=some none/\Fi AA 40=some (.int .i64 0)/\AA.cellsOf 50=1/\AA.bytesOf 50=24:=Tf
def AWB:JG AA 50=some none/\AA.underlying 50=some (.slice 3)/\mf AA 50=true/\Gj AA 50=true/\AA.cellsOf 62=1/\JG AA 62=some none/\AA.underlying 62=some (.slice 64)/\AA.cellsOf 64=5/\AA.bytesOf 64=64/\JG AA 64=some (some 5)/\Gj AA 64=true/\(AA.info? 64).isSome=true:=Tf
def AGA:KK AA 64 = .struct [(0,1),(1,1),(2,1),(3,1),(4,1)]/\FW AA 64 0=some (3,0)/\FW AA 64 1=some (9,1)/\FW AA 64 2=some (3,2)/\FW AA 64 3=some (3,3)/\FW AA 64 4=some (62,4)/\AA.cellsOf 66=12/\JG AA 66=some (some 12)/\FW AA 66 0=some (9,0)/\FW AA 66 1=some (9,1)/\FW AA 66 2=some (3,2)/\FW AA 66 3=some (3,3):=Tf
def nE:FW AA 66 4=some (64,4)/\FW AA 66 5=some (3,9)/\FW AA 66 6=some (3,10)/\FW AA 66 7=some (3,11)/\AA.cellsOf 77=2/\FW AA 77 0=some (9,0)/\FW AA 77 1=some (3,1)/\AA.cellsOf 82=1/\JG AA 82=some none/\AA.underlying 82=some (.slice 120)/\AA.cellsOf 83=1/\JG AA 83=some none:=Tf
def AVX:AA.underlying 83=some (.slice 252)/\AA.cellsOf 85=1/\JG AA 85=some none/\AA.underlying 85=some (.slice 128)/\AA.cellsOf 86=1/\JG AA 86=some none/\AA.underlying 86=some (.slice 216)/\AA.cellsOf 87=1/\JG AA 87=some none/\AA.underlying 87=some (.slice 246)/\AA.cellsOf 89=6/\JG AA 89=some (some 6):=Tf
def nC:FW AA 89 0=some (9,0)/\FW AA 89 1=some (82,1)/\FW AA 89 2=some (83,2)/\FW AA 89 3=some (85,3)/\FW AA 89 4=some (86,4)/\FW AA 89 5=some (87,5)/\AA.cellsOf 107=4/\AA.bytesOf 107=56/\JG AA 107=some (some 4)/\Gj AA 107=true/\(AA.info? 107).isSome=true/\KK AA 107 = .struct [(0,1),(1,1),(2,1),(3,1)]:=Tf
def gX:FW AA 107 0=some (9,0)/\FW AA 107 1=some (50,1)/\FW AA 107 2=some (3,2)/\FW AA 107 3=some (3,3)/\AA.cellsOf 115=3/\JG AA 115=some (some 3)/\KK AA 115 = .struct [(0,1),(1,1),(2,1)]/\FW AA 115 0=some (9,0)/\FW AA 115 1=some (3,1)/\FW AA 115 2=some (3,2)/\AA.cellsOf 117=4/\JG AA 117=some (some 4):=Tf
def gW:FW AA 117 0=some (9,0)/\FW AA 117 1=some (4,1)/\FW AA 117 2=some (3,2)/\FW AA 117 3=some (3,3)/\AA.cellsOf 118=1/\JG AA 118=some none/\AA.underlying 118=some (.slice 9)/\AA.cellsOf 120=2/\JG AA 120=some (some 2)/\FW AA 120 0=some (9,0)/\FW AA 120 1=some (3,1)/\AA.cellsOf 121=1:=Tf
def AIS:JG AA 121=some none/\AA.underlying 121=some (.slice 123)/\AA.cellsOf 123=9/\AA.bytesOf 123=120/\JG AA 123=some (some 9)/\Gj AA 123=true/\(AA.info? 123).isSome=true/\KK AA 123 = .struct [(0,1),(1,5),(6,1),(7,1),(8,1)]/\FW AA 123 0=some (3,0)/\FW AA 123 1=some (64,1)/\FW AA 123 2=some (9,6)/\FW AA 123 3=some (3,7):=Tf
def gV:FW AA 123 4=some (121,8)/\AA.cellsOf 126=6/\JG AA 126=some (some 6)/\KK AA 126 = .struct [(0,1),(1,1),(2,1),(3,1),(4,1),(5,1)]/\FW AA 126 0=some (3,0)/\FW AA 126 1=some (9,1)/\FW AA 126 2=some (118,2)/\FW AA 126 3=some (9,3)/\FW AA 126 4=some (3,4)/\FW AA 126 5=some (3,5)/\AA.cellsOf 128=15/\AA.bytesOf 128=200:=Tf
def AIR:JG AA 128=some (some 15)/\Gj AA 128=true/\KK AA 128 = .struct [(0,9),(9,6)]/\FW AA 128 0=some (123,0)/\FW AA 128 1=some (126,9)/\AA.cellsOf 166=3/\JG AA 166=some (some 3)/\FW AA 166 0=some (3,0)/\FW AA 166 1=some (3,1)/\FW AA 166 2=some (3,2)/\AA.cellsOf 212=1/\JG AA 212=some none:=Tf
def AHr:AA.underlying 212=some (.slice 214)/\AA.cellsOf 214=3/\JG AA 214=some (some 3)/\FW AA 214 0=some (3,0)/\FW AA 214 1=some (9,1)/\FW AA 214 2=some (212,2)/\AA.cellsOf 216=8/\FW AA 216 0=some (64,0)/\FW AA 216 1=some (214,5)/\AA.cellsOf 219=2/\JG AA 219=some (some 2)/\KK AA 219 = .struct [(0,1),(1,1)]:=Tf
def gU:FW AA 219 0=some (3,0)/\FW AA 219 1=some (3,1)/\AA.cellsOf 246=4/\JG AA 246=some (some 4)/\FW AA 246 0=some (3,0)/\FW AA 246 1=some (3,1)/\FW AA 246 2=some (3,2)/\FW AA 246 3=some (3,3)/\AA.cellsOf 252=2/\JG AA 252=some (some 2)/\FW AA 252 0=some (3,0)/\FW AA 252 1=some (3,1):=Tf
def mixed:AA.follows .mixedOrders=true:=kr
def vJ:Ef:=hm [28,16] [] [] []
def ANQ:vJ.lv=Fu [[2,3,4],[4]]:=Fy rfl dk
@[go_sem] def Aeu:=F5 vJ
def ANP:vJ.tk=[]/\vJ.mt=[]/\vJ.pc=[]:=⟨rfl,rfl,rfl⟩
def ANR:FK AA 196 f196 vJ:=F0 func196
def wR:Ef:=hm [6,14,30,1054,30,30,4] [] [] [19,20]
def AQh:wR.lv=Fu [[1,2],[1,2,3],[1,2,3,4],[1,2,3,4,10],[1,2,3,4],[1,2,3,4],[2]]:=Fy rfl dk
@[go_sem] def Afl:=F5 wR
def AQg:wR.tk=[]/\wR.mt=[]/\wR.pc=[19,20]:=⟨rfl,rfl,rfl⟩
def ABp:FK AA 123 f123 wR:=F0 func123
def uh:Ef:=hm [6,14,270,14,30,262174,30,30,4] [] [] [12,13,27,28]
def ALW:uh.lv=Fu [[1,2],[1,2,3],[1,2,3,8],[1,2,3],[1,2,3,4],[1,2,3,4,18],[1,2,3,4],[1,2,3,4],[2]]:=Fy rfl dk
@[go_sem] def AeN:=F5 uh
def ALV:uh.tk=[]/\uh.mt=[]/\uh.pc=[12,13,27,28]:=⟨rfl,rfl,rfl⟩
def ABe:FK AA 257 f257 uh:=F0 func257
def vM:Ef:=hm [2,10,24,4] [] [] [6,9]
def ANX:vM.lv=Fu [[1],[1,3],[3,4],[2]]:=Fy rfl dk
@[go_sem] def Aex:=F5 vM
def ANW:vM.tk=[]/\vM.mt=[]/\vM.pc=[6,9]:=⟨rfl,rfl,rfl⟩
def ANY:FK AA 193 f193 vM:=F0 func193
def wV:Ef:=hm [1,9,4105,9,25,4294967305,4,4] [33] [] [20]
def AQr:wV.lv=Fu [[0],[0,3],[0,3,12],[0,3],[0,3,4],[0,3,32],[2],[2]]:=Fy rfl dk
@[go_sem] def Afp:=F5 wV
def AQq:wV.tk=[33]/\wV.mt=[]/\wV.pc=[20]:=⟨rfl,rfl,rfl⟩
def ABr:FK AA 119 f119 wV:=F0 func119
def wU:Ef:=hm [2,10,26,538,26,26,4194312,8,4] [] [] [18]
def AQp:wU.lv=Fu [[1],[1,3],[1,3,4],[1,3,4,9],[1,3,4],[1,3,4],[3,22],[3],[2]]:=Fy rfl dk
@[go_sem] def Afo:=F5 wU
def AQo:wU.tk=[]/\wU.mt=[]/\wU.pc=[18]:=⟨rfl,rfl,rfl⟩
def ABq:FK AA 120 f120 wU:=F0 func120
def vL:Ef:=hm [2,10,26,538,26,26,4194312,8,4] [] [] [18]
def ANV:vL.lv=Fu [[1],[1,3],[1,3,4],[1,3,4,9],[1,3,4],[1,3,4],[3,22],[3],[2]]:=Fy rfl dk
@[go_sem] def Aew:=F5 vL
def ANU:vL.tk=[]/\vL.mt=[]/\vL.pc=[18]:=⟨rfl,rfl,rfl⟩
def ABk:FK AA 194 f194 vL:=F0 func194
def wT:Ef:=hm [2,10,24,4] [] [] [6,8]
def AQm:wT.lv=Fu [[1],[1,3],[3,4],[2]]:=Fy rfl dk
@[go_sem] def Afn:=F5 wT
def AQl:wT.tk=[]/\wT.mt=[]/\wT.pc=[6,8]:=⟨rfl,rfl,rfl⟩
def AQn:FK AA 121 f121 wT:=F0 func121
def h70:Ef:=hm [2,8,4] [] [] [5]
def AWx:h70.lv=Fu [[1],[3],[2]]:=Fy rfl dk
@[go_sem] def AgT:=F5 h70
def AWw:h70.tk=[]/\h70.mt=[]/\h70.pc=[5]:=⟨rfl,rfl,rfl⟩
def AWy:FK AA 70 f70 h70:=F0 func70
def vK:Ef:=hm [6,14,30,1054,30,30,4] [] [] [19,20]
def ANT:vK.lv=Fu [[1,2],[1,2,3],[1,2,3,4],[1,2,3,4,10],[1,2,3,4],[1,2,3,4],[2]]:=Fy rfl dk
@[go_sem] def Aev:=F5 vK
def ANS:vK.tk=[]/\vK.mt=[]/\vK.pc=[19,20]:=⟨rfl,rfl,rfl⟩
def ABj:FK AA 195 f195 vK:=F0 func195
def wS:Ef:=hm [2,8,4] [] [] [5]
def AQj:wS.lv=Fu [[1],[3],[2]]:=Fy rfl dk
@[go_sem] def Afm:=F5 wS
def AQi:wS.tk=[]/\wS.mt=[]/\wS.pc=[5]:=⟨rfl,rfl,rfl⟩
def AQk:FK AA 122 f122 wS:=F0 func122
def h69:Ef:=hm [2,10,68719476738,4,18,2199023255570,18,0x2000000000000012,4,34,0x40000000000000022,34,98,226,0x10000000000000000000022,4,4] [] [] [10,50,59,75,82]
def AW0:h69.lv=Fu [[1],[1,3],[1,36],[2],[1,4],[1,4,41],[1,4],[1,4,61],[2],[1,5],[1,5,66],[1,5],[1,5,6],[1,5,6,7],[1,5,88],[2],[2]]:=Fy rfl dk
@[go_sem] def AgU:=F5 h69
def AWz:h69.tk=[]/\h69.mt=[]/\h69.pc=[10,50,59,75,82]:=⟨rfl,rfl,rfl⟩
def AG3:FK AA 69 f69 h69:=F0 func69
def wN:Ef:=hm [1,9,521,9,25,57,0x800000000009,4,4] [] [] []
def AQV:wN.lv=Fu [[0],[0,3],[0,3,9],[0,3],[0,3,4],[0,3,4,5],[0,3,47],[2],[2]]:=Fy rfl dk
@[go_sem] def Afh:=F5 wN
def AQU:wN.tk=[]/\wN.mt=[]/\wN.pc=[]:=⟨rfl,rfl,rfl⟩
def AQW:FK AA 127 f127 wN:=F0 func127
def ue:Ef:=hm [6,16] [] [] []
def ALM:ue.lv=Fu [[1,2],[4]]:=Fy rfl dk
@[go_sem] def AeK:=F5 ue
def ALL:ue.tk=[]/\ue.mt=[]/\ue.pc=[]:=⟨rfl,rfl,rfl⟩
def ALN:FK AA 260 f260 ue:=F0 func260
def ug:Ef:=hm [6,16] [] [] [7]
def ALT:ug.lv=Fu [[1,2],[4]]:=Fy rfl dk
@[go_sem] def AeM:=F5 ug
def ALS:ug.tk=[]/\ug.mt=[]/\ug.pc=[7]:=⟨rfl,rfl,rfl⟩
def ALU:FK AA 258 f258 ug:=F0 func258
def vI:Ef:=hm [12,44,262156,16,76,8388684,76,204,17179869260,16,332,137438953804,332,4503599627370828,16,524,0x20000000000020c,524,1548,0x800000000000000060c,16,3596,0x40000000000000000e0c,3596,0x100000000000000000000e0c,16,4104,0x2000000000000000000001008,4104,0x800000000000000000000000001008,16,12296,0x4000000000000000000000000003008,12296,0x20000000000000000000000000000003008,16,16] [] [] [16,32,107,117]
def ANN:vI.lv=Fu [[2,3],[2,3,5],[2,3,18],[4],[2,3,6],[2,3,6,23],[2,3,6],[2,3,6,7],[2,3,6,34],[4],[2,3,6,8],[2,3,6,8,37],[2,3,6,8],[2,3,6,8,52],[4],[2,3,9],[2,3,9,57],[2,3,9],[2,3,9,10],[2,3,9,10,75],[4],[2,3,9,10,11],[2,3,9,10,11,78],[2,3,9,10,11],[2,3,9,10,11,92],[4],[3,12],[3,12,97],[3,12],[3,12,119],[4],[3,12,13],[3,12,13,122],[3,12,13],[3,12,13,137],[4],[4]]:=Fy rfl dk
@[go_sem] def Aet:=F5 vI
def ANM:vI.tk=[]/\vI.mt=[]/\vI.pc=[16,32,107,117]:=⟨rfl,rfl,rfl⟩
def ANO:FK AA 197 f197 vI:=F0 func197
def uD:Ef:=hm [2,1024,4,4] [] [] []
def AJy:uD.lv=Fu [[1],[10],[2],[2]]:=Fy rfl dk
@[go_sem] def Adu:=F5 uD
def AJx:uD.tk=[]/\uD.mt=[]/\uD.pc=[]:=⟨rfl,rfl,rfl⟩
def AJz:FK AA 307 f307 uD:=F0 func307
def uc:Ef:=hm [6,34,8224,16,16] [] [] [7]
def ALH:uc.lv=Fu [[1,2],[1,5],[5,13],[4],[4]]:=Fy rfl dk
@[go_sem] def AeI:=F5 uc
def ALG:uc.tk=[]/\uc.mt=[]/\uc.pc=[7]:=⟨rfl,rfl,rfl⟩
def ALI:FK AA 262 f262 uc:=F0 func262
def tt:Ef:=hm [12,2199023255564,16,44,70368744177708,44,108,0x200000000000002c,16,16] [] [] [59]
def AJe:tt.lv=Fu [[2,3],[2,3,41],[4],[2,3,5],[2,3,5,46],[2,3,5],[2,3,5,6],[2,3,5,61],[4],[4]]:=Fy rfl dk
@[go_sem] def Adn:=F5 tt
def AJd:tt.tk=[]/\tt.mt=[]/\tt.pc=[59]:=⟨rfl,rfl,rfl⟩
def ABZ:FK AA 314 f314 tt:=F0 func314
def tZ:Ef:=hm [1,4] [] [] []
def AI2:tZ.lv=Fu [[0],[2]]:=Fy rfl dk
@[go_sem] def AdZ:=F5 tZ
def AI1:tZ.tk=[]/\tZ.mt=[]/\tZ.pc=[]:=⟨rfl,rfl,rfl⟩
def AI3:FK AA 347 f347 tZ:=F0 func347
def tY:Ef:=hm [1,9,25,537,25,131097,4,4] [] [] [5]
def AIz:tY.lv=Fu [[0],[0,3],[0,3,4],[0,3,4,9],[0,3,4],[0,3,4,17],[2],[2]]:=Fy rfl dk
@[go_sem] def AdY:=F5 tY
def AIy:tY.tk=[]/\tY.mt=[]/\tY.pc=[5]:=⟨rfl,rfl,rfl⟩
def AI0:FK AA 348 f348 tY:=F0 func348
def tU:Ef:=hm [1,4] [] [] []
def AIq:tU.lv=Fu [[0],[2]]:=Fy rfl dk
@[go_sem] def AdV:=F5 tU
def AIp:tU.tk=[]/\tU.mt=[]/\tU.pc=[]:=⟨rfl,rfl,rfl⟩
def AIr:FK AA 374 f374 tU:=F0 func374
def tW:Ef:=hm [1,9,25,4] [] [] [6,8]
def AIt:tW.lv=Fu [[0],[0,3],[0,3,4],[2]]:=Fy rfl dk
@[go_sem] def AdW:=F5 tW
def AIs:tW.tk=[]/\tW.mt=[]/\tW.pc=[6,8]:=⟨rfl,rfl,rfl⟩
def AIu:FK AA 366 f366 tW:=F0 func366
def tX:Ef:=hm [1,9,265,25,16393,9,4] [] [] [12]
def AIw:tX.lv=Fu [[0],[0,3],[0,3,8],[0,3,4],[0,3,14],[0,3],[2]]:=Fy rfl dk
@[go_sem] def AdX:=F5 tX
def AIv:tX.tk=[]/\tX.mt=[]/\tX.pc=[12]:=⟨rfl,rfl,rfl⟩
def AIx:FK AA 349 f349 tX:=F0 func349
def tg:Ef:=hm [1,4097,4,9,25,4] [] [] [15,17,21]
def AJH:tg.lv=Fu [[0],[0,12],[2],[0,3],[0,3,4],[2]]:=Fy rfl dk
@[go_sem] def Adf:=F5 tg
def AJG:tg.tk=[]/\tg.mt=[]/\tg.pc=[15,17,21]:=⟨rfl,rfl,rfl⟩
def AJI:FK AA 335 f335 tg:=F0 func335
def uC:Ef:=hm [1,4] [] [] [4]
def AJv:uC.lv=Fu [[0],[2]]:=Fy rfl dk
@[go_sem] def Adt:=F5 uC
def AJu:uC.tk=[]/\uC.mt=[]/\uC.pc=[4]:=⟨rfl,rfl,rfl⟩
def AJw:FK AA 308 f308 uC:=F0 func308
def tw:Ef:=hm [1,9,4] [] [] [5]
def AJg:tw.lv=Fu [[0],[0,3],[2]]:=Fy rfl dk
@[go_sem] def Ado:=F5 tw
def AJf:tw.tk=[]/\tw.mt=[]/\tw.pc=[5]:=⟨rfl,rfl,rfl⟩
def AJh:FK AA 313 f313 tw:=F0 func313
def uT:Ef:=hm [2,10,26,58,122,250,34359738618,103079215354,103079215354,194,1133871366394,194,0x80008000000fa,194,0x800000008000000ea,194,0x80000000000008000000e2,130,194,0x400000000000008000000e2,0x400000000000008000000e2,130,194,0x4000000000000000000000c2,194,0x10000000000000000000000000000042,4,322,0x80000000000000000000000000000142,322,834,0x20000000000000000000000000000000142,4,4] [] [] [12,135]
def AKq:uT.lv=Fu [[1],[1,3],[1,3,4],[1,3,4,5],[1,3,4,5,6],[1,3,4,5,6,7],[1,3,4,5,6,7,35],[1,3,4,5,6,7,35,36],[1,3,4,5,6,7,35,36],[1,6,7],[1,3,4,5,6,7,35,40],[1,6,7],[1,3,4,5,6,7,35,51],[1,6,7],[1,3,5,6,7,35,67],[1,6,7],[1,5,6,7,35,87],[1,7],[1,6,7],[1,5,6,7,35,90],[1,5,6,7,35,90],[1,7],[1,6,7],[1,6,7,94],[1,6,7],[1,6,124],[2],[1,6,8],[1,6,8,127],[1,6,8],[1,6,8,9],[1,6,8,137],[2],[2]]:=Fy rfl dk
@[go_sem] def AeB:=F5 uT
def AKp:uT.tk=[]/\uT.mt=[]/\uT.pc=[12,135]:=⟨rfl,rfl,rfl⟩
def AKr:FK AA 270 f270 uT:=F0 func270
def uU:Ef:=hm [2,10,26,58,122,250,67109114,201326842,194,34426847482,194,0x80000040000f2,0x80000040000f2,130,194,0x4000000000000f2,130,194,0x1000000000000000042,4,322,0x8000000000000000142,322,834,0x2000000000000000000142,4,4] [] [] [12,16,31,83]
def AKt:uU.lv=Fu [[1],[1,3],[1,3,4],[1,3,4,5],[1,3,4,5,6],[1,3,4,5,6,7],[1,3,4,5,6,7,26],[1,3,4,5,6,7,26,27],[1,6,7],[1,3,4,5,6,7,26,35],[1,6,7],[1,4,5,6,7,26,51],[1,4,5,6,7,26,51],[1,7],[1,6,7],[1,4,5,6,7,58],[1,7],[1,6,7],[1,6,72],[2],[1,6,8],[1,6,8,75],[1,6,8],[1,6,8,9],[1,6,8,85],[2],[2]]:=Fy rfl dk
@[go_sem] def AeC:=F5 uU
def AKs:uU.tk=[]/\uU.mt=[]/\uU.pc=[12,16,31,83]:=⟨rfl,rfl,rfl⟩
def AKu:FK AA 269 f269 uU:=F0 func269
def vE:Ef:=hm [2,4] [] [] [4,6,7]
def AM3:vE.lv=Fu [[1],[2]]:=Fy rfl dk
@[go_sem] def Aeo:=F5 vE
def AM2:vE.tk=[]/\vE.mt=[]/\vE.pc=[4,6,7]:=⟨rfl,rfl,rfl⟩
def AM4:FK AA 203 f203 vE:=F0 func203
def tq:Ef:=hm [12,0x80000000000c,16,44,4503599627370540,44,0x2000000000000002c,16,16] [] [] []
def AJc:tq.lv=Fu [[2,3],[2,3,47],[4],[2,3,5],[2,3,5,52],[2,3,5],[2,3,5,65],[4],[4]]:=Fy rfl dk
@[go_sem] def Adm:=F5 tq
def AJb:tq.tk=[]/\tq.mt=[]/\tq.pc=[]:=⟨rfl,rfl,rfl⟩
def ABY:FK AA 315 f315 tq:=F0 func315
def uQ:Ef:=hm [2,10,4098,4,18,536870914,4,34,17179869218,34,98,17592186044450,4,130,386,0x200000000000182,0x600000000000182,4,0x200200000000000182,4,0x20000200000000000182,4,0x2000000000200000000000182,4,0x200000000000000200000000000182,4,0x8000000000000000000000000000002,4,4] [] [] [11,15,42,47]
def AKh:uQ.lv=Fu [[1],[1,3],[1,12],[2],[1,4],[1,29],[2],[1,5],[1,5,34],[1,5],[1,5,6],[1,5,44],[2],[1,7],[1,7,8],[1,7,8,57],[1,7,8,57,58],[2],[1,7,8,57,69],[2],[1,7,8,57,77],[2],[1,7,8,57,97],[2],[1,7,8,57,117],[2],[1,123],[2],[2]]:=Fy rfl dk
@[go_sem] def Ad8:=F5 uQ
def AKg:uQ.tk=[]/\uQ.mt=[]/\uQ.pc=[11,15,42,47]:=⟨rfl,rfl,rfl⟩
def AKi:FK AA 273 f273 uQ:=F0 func273
def vB:Ef:=hm [2,8,128,4,4] [] [] [5]
def AMu:vB.lv=Fu [[1],[3],[7],[2],[2]]:=Fy rfl dk
@[go_sem] def Ael:=F5 vB
def AMt:vB.tk=[]/\vB.mt=[]/\vB.pc=[5]:=⟨rfl,rfl,rfl⟩
def AMv:FK AA 206 f206 vB:=F0 func206
def wG:Ef:=hm [1,257,4,9,4105,9,25,4194329,4,41,2147483689,4,4] [] [] [20,29]
def APz:wG.lv=Fu [[0],[0,8],[2],[0,3],[0,3,12],[0,3],[0,3,4],[0,3,4,22],[2],[0,3,5],[0,3,5,31],[2],[2]]:=Fy rfl dk
@[go_sem] def Afa:=F5 wG
def APy:wG.tk=[]/\wG.mt=[]/\wG.pc=[20,29]:=⟨rfl,rfl,rfl⟩
def AP0:FK AA 136 f136 wG:=F0 func136
def u9:Ef:=hm [19,275,48,83,8275,83,4194387,48,48] [23] [] [9]
def AMp:u9.lv=Fu [[0,1,4],[0,1,4,8],[4,5],[0,1,4,6],[0,1,4,6,13],[0,1,4,6],[0,1,4,6,22],[4,5],[4,5]]:=Fy rfl dk
@[go_sem] def Aej:=F5 u9
def AMo:u9.tk=[23]/\u9.mt=[]/\u9.pc=[9]:=⟨rfl,rfl,rfl⟩
def ABh:FK AA 208 f208 u9:=F0 func208
def uS:Ef:=hm [2,10,26,2074,26,26,4] [14,22] [] [20]
def AKn:uS.lv=Fu [[1],[1,3],[1,3,4],[1,3,4,11],[1,3,4],[1,3,4],[2]]:=Fy rfl dk
@[go_sem] def AeA:=F5 uS
def AKm:uS.tk=[14,22]/\uS.mt=[]/\uS.pc=[20]:=⟨rfl,rfl,rfl⟩
def AKo:FK AA 271 f271 uS:=F0 func271
def uP:Ef:=hm [1,9,25,153,25,25,4] [] [] []
def AKe:uP.lv=Fu [[0],[0,3],[0,3,4],[0,3,4,7],[0,3,4],[0,3,4],[2]]:=Fy rfl dk
@[go_sem] def Ad7:=F5 uP
def AKd:uP.tk=[]/\uP.mt=[]/\uP.pc=[]:=⟨rfl,rfl,rfl⟩
def AKf:FK AA 275 f275 uP:=F0 func275
def u7:Ef:=hm [2,4] [] [] [5]
def AMm:u7.lv=Fu [[1],[2]]:=Fy rfl dk
@[go_sem] def Aei:=F5 u7
def AMl:u7.tk=[]/\u7.mt=[]/\u7.pc=[5]:=⟨rfl,rfl,rfl⟩
def AMn:FK AA 209 f209 u7:=F0 func209
def uR:Ef:=hm [9,1048585,16,104,536870952,16,168,17179869352,168,4503599627370496,16,16] [22] [] [25,39]
def AKk:uR.lv=Fu [[0,3],[0,3,20],[4],[3,5,6],[3,5,29],[4],[3,5,7],[3,5,7,34],[3,5,7],[52],[4],[4]]:=Fy rfl dk
@[go_sem] def Ad9:=F5 uR
def AKj:uR.tk=[22]/\uR.mt=[]/\uR.pc=[25,39]:=⟨rfl,rfl,rfl⟩
def AKl:FK AA 272 f272 uR:=F0 func272
def vC:Ef:=hm [9,33,97,8289,97,225,8388833,16,16] [] [] [9,21]
def AMx:vC.lv=Fu [[0,3],[0,5],[0,5,6],[0,5,6,13],[0,5,6],[0,5,6,7],[0,5,6,7,23],[4],[4]]:=Fy rfl dk
@[go_sem] def Aem:=F5 vC
def AMw:vC.tk=[]/\vC.mt=[]/\vC.pc=[9,21]:=⟨rfl,rfl,rfl⟩
def AMy:FK AA 205 f205 vC:=F0 func205
def vA:Ef:=hm [2,10,26,2074,26,26,4] [14,22] [] [20]
def AMr:vA.lv=Fu [[1],[1,3],[1,3,4],[1,3,4,11],[1,3,4],[1,3,4],[2]]:=Fy rfl dk
@[go_sem] def Aek:=F5 vA
def AMq:vA.tk=[14,22]/\vA.mt=[]/\vA.pc=[20]:=⟨rfl,rfl,rfl⟩
def AMs:FK AA 207 f207 vA:=F0 func207
def K6:Ef:=hx [9,41,8233,16,97,225,1048801,225,268435681,225,2199023255777,993,9007199254741473,225,0x20000000000000e1,225,0x80000000000000e1,16,16] [] [] [] [11,16,35,49,60] [(7,1)] []
def APv:K6.lv=Fu [[0,3],[0,3,5],[0,3,5,13],[4],[0,5,6],[0,5,6,7],[0,5,6,7,20],[0,5,6,7],[0,5,6,7,28],[0,5,6,7],[0,5,6,7,41],[0,5,6,7,8,9],[0,5,6,7,8,53],[0,5,6,7],[0,5,6,7,61],[0,5,6,7],[0,5,6,7,63],[4],[4]]:=Fy rfl dk
def APx:K6.ct 0=none/\K6.ct 1=none/\K6.ct 2=none/\K6.ct 3=none/\K6.ct 4=none/\K6.ct 5=none/\K6.ct 6=none/\K6.ct 7=some 1/\K6.ct 8=none/\K6.ct 9=none/\K6.ct 10=none/\K6.ct 11=none/\K6.ct 12=none/\K6.ct 13=none/\K6.ct 14=none/\K6.ct 15=none/\K6.ct 16=none/\K6.ct 17=none/\K6.ct 18=none:=dk
def APs(k:Nat):K6.at k=[]:=rfl
def APt(k:Nat):K6.dn k=false:=AG rfl rfl
def APu:K6.tk=[]/\K6.mt=[]/\K6.pc=[11,16,35,49,60]:=⟨rfl,rfl,rfl⟩
def APw:FK AA 137 f137 K6:=F0 func137
def JQ:Ef:=hx [9,41,4194345,16,73,1073741897,73,201,549755814089,201,713,4503599627370697,16,1033,0x200000000000409,1033,3081,0x4000000000000c09,3081,0x8000000000000000c09,16,4104,0x100000000000000000000000,16,16] [31,77] [] [] [15,48,80,90] [(9,1)] []
def APp:JQ.lv=Fu [[0,3],[0,3,5],[0,3,5,22],[4],[0,3,6],[0,3,6,30],[0,3,6],[0,3,6,7],[0,3,6,7,39],[0,3,6,7],[0,3,6,7,9],[0,3,6,7,52],[4],[0,3,10],[0,3,10,57],[0,3,10],[0,3,10,11],[0,3,10,11,62],[0,3,10,11],[0,3,10,11,75],[4],[3,12],[92],[4],[4]]:=Fy rfl dk
def APr:JQ.ct 0=none/\JQ.ct 1=none/\JQ.ct 2=none/\JQ.ct 3=none/\JQ.ct 4=none/\JQ.ct 5=none/\JQ.ct 6=none/\JQ.ct 7=none/\JQ.ct 8=none/\JQ.ct 9=some 1/\JQ.ct 10=none/\JQ.ct 11=none/\JQ.ct 12=none/\JQ.ct 13=none/\JQ.ct 14=none/\JQ.ct 15=none/\JQ.ct 16=none/\JQ.ct 17=none/\JQ.ct 18=none/\JQ.ct 19=none/\JQ.ct 20=none/\JQ.ct 21=none/\JQ.ct 22=none/\JQ.ct 23=none/\JQ.ct 24=none:=dk
def APm(k:Nat):JQ.at k=[]:=rfl
def APn(k:Nat):JQ.dn k=false:=AG rfl rfl
def APo:JQ.tk=[31,77]/\JQ.mt=[]/\JQ.pc=[15,48,80,90]:=⟨rfl,rfl,rfl⟩
def APq:FK AA 138 f138 JQ:=F0 func138
def u6:Ef:=hm [3,1027,16,35,16419,35,33554467,16,16] [] [] []
def AMk:u6.lv=Fu [[0,1],[0,1,10],[4],[0,1,5],[0,1,5,14],[0,1,5],[0,1,5,25],[4],[4]]:=Fy rfl dk
@[go_sem] def Aeh:=F5 u6
def AMj:u6.tk=[]/\u6.mt=[]/\u6.pc=[]:=⟨rfl,rfl,rfl⟩
def ABg:FK AA 210 f210 u6:=F0 func210
def vy:Ef:=hm [2,4] [] [] []
def APJ:vy.lv=Fu [[1],[2]]:=Fy rfl dk
@[go_sem] def AfS:=F5 vy
def API:vy.tk=[]/\vy.mt=[]/\vy.pc=[]:=⟨rfl,rfl,rfl⟩
def APK:FK AA 147 f147 vy:=F0 func147
def Qn:Ef:=hx [3,35,99,4195,99,227,99,16] [24,29] [] [] [21] [(4,0)] []
def APO:Qn.lv=Fu [[0,1],[0,1,5],[0,1,5,6],[0,1,5,6,12],[0,1,5,6],[0,1,5,6,7],[0,1,5,6],[4]]:=Fy rfl dk
def APQ:Qn.ct 0=none/\Qn.ct 1=none/\Qn.ct 2=none/\Qn.ct 3=none/\Qn.ct 4=some 0/\Qn.ct 5=none/\Qn.ct 6=none/\Qn.ct 7=none:=dk
def APL(k:Nat):Qn.at k=[]:=rfl
def APM(k:Nat):Qn.dn k=false:=AG rfl rfl
def APN:Qn.tk=[24,29]/\Qn.mt=[]/\Qn.pc=[21]:=⟨rfl,rfl,rfl⟩
def APP:FK AA 146 f146 Qn:=F0 func146
def vz:Ef:=hm [1,8,24,4,72,72,4,520,512,4,4] [] [] []
def APS:vz.lv=Fu [[0],[3],[3,4],[2],[3,6],[3,6],[2],[3,9],[9],[2],[2]]:=Fy rfl dk
@[go_sem] def AfT:=F5 vz
def APR:vz.tk=[]/\vz.mt=[]/\vz.pc=[]:=⟨rfl,rfl,rfl⟩
def APT:FK AA 145 f145 vz:=F0 func145
def wF:Ef:=hm [49,134217777,64,176,64] [] [] [9,12,31,35,36,41,44]
def APk:wF.lv=Fu [[0,4,5],[0,4,5,27],[6],[4,5,7],[6]]:=Fy rfl dk
@[go_sem] def AfZ:=F5 wF
def APj:wF.tk=[]/\wF.mt=[]/\wF.pc=[9,12,31,35,36,41,44]:=⟨rfl,rfl,rfl⟩
def APl:FK AA 139 f139 wF:=F0 func139
def Qk:Ef:=hx [3,35,65571,16,67,2097219,67,195,4294967491,16,323,4398046511427,16,515,0x800000000203,515,1539,4503599627372035,1539,3587,7683,0x4000000000000000000603,16,16] [] [] [] [14,30,40,84] [(18,0)] []
def AWY:Qk.lv=Fu [[0,1],[0,1,5],[0,1,5,16],[4],[0,1,6],[0,1,6,21],[0,1,6],[0,1,6,7],[0,1,6,7,32],[4],[0,1,6,8],[0,1,6,8,42],[4],[0,1,9],[0,1,9,47],[0,1,9],[0,1,9,10],[0,1,9,10,52],[0,1,9,10],[0,1,9,10,11],[0,1,9,10,11,12],[0,1,9,10,86],[4],[4]]:=Fy rfl dk
def AWa:Qk.ct 0=none/\Qk.ct 1=none/\Qk.ct 2=none/\Qk.ct 3=none/\Qk.ct 4=none/\Qk.ct 5=none/\Qk.ct 6=none/\Qk.ct 7=none/\Qk.ct 8=none/\Qk.ct 9=none/\Qk.ct 10=none/\Qk.ct 11=none/\Qk.ct 12=none/\Qk.ct 13=none/\Qk.ct 14=none/\Qk.ct 15=none/\Qk.ct 16=none/\Qk.ct 17=none/\Qk.ct 18=some 0/\Qk.ct 19=none/\Qk.ct 20=none/\Qk.ct 21=none/\Qk.ct 22=none/\Qk.ct 23=none:=dk
def AWV(k:Nat):Qk.at k=[]:=rfl
def AWW(k:Nat):Qk.dn k=false:=AG rfl rfl
def AWX:Qk.tk=[]/\Qk.mt=[]/\Qk.pc=[14,30,40,84]:=⟨rfl,rfl,rfl⟩
def AWZ:FK AA 76 f76 Qk:=F0 func76
def uE:Ef:=hm [3,35,99,227,2275,227,8388835,163,227,8589934819,227,4398046511138,32,16] [24,34,43,47] [] []
def AJ1:uE.lv=Fu [[0,1],[0,1,5],[0,1,5,6],[0,1,5,6,7],[0,1,5,6,7,11],[0,1,5,6,7],[0,1,5,6,7,23],[0,1,5,7],[0,1,5,6,7],[0,1,5,6,7,33],[0,1,5,6,7],[1,5,42],[5],[4]]:=Fy rfl dk
@[go_sem] def Adv:=F5 uE
def AJ0:uE.tk=[24,34,43,47]/\uE.mt=[]/\uE.pc=[]:=⟨rfl,rfl,rfl⟩
def AJ2:FK AA 306 f306 uE:=F0 func306
def uf:Ef:=hm [2,10,24,56,2104,56,134217784,56,4] [] [] [7,34]
def ALQ:uf.lv=Fu [[1],[1,3],[3,4],[3,4,5],[3,4,5,11],[3,4,5],[3,4,5,27],[3,4,5],[2]]:=Fy rfl dk
@[go_sem] def AeL:=F5 uf
def ALP:uf.tk=[]/\uf.mt=[]/\uf.pc=[7,34]:=⟨rfl,rfl,rfl⟩
def ALR:FK AA 259 f259 uf:=F0 func259
def ud:Ef:=hm [3,35,547,35,131107,16,16] [] [] []
def ALK:ud.lv=Fu [[0,1],[0,1,5],[0,1,5,9],[0,1,5],[0,1,5,17],[4],[4]]:=Fy rfl dk
@[go_sem] def AeJ:=F5 ud
def ALJ:ud.tk=[]/\ud.mt=[]/\ud.pc=[]:=⟨rfl,rfl,rfl⟩
def ABd:FK AA 261 f261 ud:=F0 func261
def La:Ef:=hx [12,40,65576,16,72,4194376,72,200,456,34359738824,456,17592186044872,16,584,0x8000000000000048,16,16] [] [] [] [14,31,43,61] [(6,2)] []
def ANJ:La.lv=Fu [[2,3],[3,5],[3,5,16],[4],[3,6],[3,6,22],[3,6],[3,6,7],[3,6,7,8],[3,6,7,8,35],[3,6,7,8],[3,6,7,8,44],[4],[3,6,9],[3,6,63],[4],[4]]:=Fy rfl dk
def ANL:La.ct 0=none/\La.ct 1=none/\La.ct 2=none/\La.ct 3=none/\La.ct 4=none/\La.ct 5=none/\La.ct 6=some 2/\La.ct 7=none/\La.ct 8=none/\La.ct 9=none/\La.ct 10=none/\La.ct 11=none/\La.ct 12=none/\La.ct 13=none/\La.ct 14=none/\La.ct 15=none/\La.ct 16=none:=dk
def ANG(k:Nat):La.at k=[]:=rfl
def ANH(k:Nat):La.dn k=false:=AG rfl rfl
def ANI:La.tk=[]/\La.mt=[]/\La.pc=[14,31,43,61]:=⟨rfl,rfl,rfl⟩
def ANK:FK AA 198 f198 La:=F0 func198
def vD:Ef:=hm [2,4] [] [] [4,6,7]
def AM0:vD.lv=Fu [[1],[2]]:=Fy rfl dk
@[go_sem] def Aen:=F5 vD
def AMz:vD.tk=[]/\vD.mt=[]/\vD.pc=[4,6,7]:=⟨rfl,rfl,rfl⟩
def AM1:FK AA 204 f204 vD:=F0 func204
def wH:Ef:=hm [9,41,553,16,16] [11] [] [7,13]
def AP2:wH.lv=Fu [[0,3],[0,3,5],[0,3,5,9],[4],[4]]:=Fy rfl dk
@[go_sem] def Afb:=F5 wH
def AP1:wH.tk=[11]/\wH.mt=[]/\wH.pc=[7,13]:=⟨rfl,rfl,rfl⟩
def AP3:FK AA 135 f135 wH:=F0 func135
def uZ:Ef:=hm [2,10,26,58,32826,4,98362,98362,50,557114,50,4227106,4227106,50,33554466,50,34359738386,4,82,274877907026,82,210,281474976710738,4,4] [] [] [10,46]
def ALE:uZ.lv=Fu [[1],[1,3],[1,3,4],[1,3,4,5],[1,3,4,5,15],[2],[1,3,4,5,15,16],[1,3,4,5,15,16],[1,4,5],[1,3,4,5,15,19],[1,4,5],[1,5,15,22],[1,5,15,22],[1,4,5],[1,5,25],[1,4,5],[1,4,35],[2],[1,4,6],[1,4,6,38],[1,4,6],[1,4,6,7],[1,4,6,48],[2],[2]]:=Fy rfl dk
@[go_sem] def AeH:=F5 uZ
def ALD:uZ.tk=[]/\uZ.mt=[]/\uZ.pc=[10,46]:=⟨rfl,rfl,rfl⟩
def ALF:FK AA 263 f263 uZ:=F0 func263
def vH:Ef:=hm [2,4] [] [] [4,6,7]
def ANE:vH.lv=Fu [[1],[2]]:=Fy rfl dk
@[go_sem] def Aes:=F5 vH
def AND:vH.tk=[]/\vH.mt=[]/\vH.pc=[4,6,7]:=⟨rfl,rfl,rfl⟩
def ANF:FK AA 199 f199 vH:=F0 func199
def wQ:Ef:=hm [2,18,50,114,4210,114,114,178,268435634,178,178,12] [15,31,40,41] [] []
def AQe:wQ.lv=Fu [[1],[1,4],[1,4,5],[1,4,5,6],[1,4,5,6,12],[1,4,5,6],[1,4,5,6],[1,4,5,7],[1,4,5,7,28],[1,4,5,7],[1,4,5,7],[2,3]]:=Fy rfl dk
@[go_sem] def Afk:=F5 wQ
def AQd:wQ.tk=[15,31,40,41]/\wQ.mt=[]/\wQ.pc=[]:=⟨rfl,rfl,rfl⟩
def AQf:FK AA 124 f124 wQ:=F0 func124
def Xi:Ef:=hm [12,44,4194316,16,140,134217868,140,137438953612,16,16] [17] [] [10,20,36]
def ANC:Xi.lv=Fu [[2,3],[2,3,5],[2,3,22],[4],[2,3,7],[2,3,7,27],[2,3,7],[2,3,7,37],[4],[4]]:=Fy rfl dk
@[go_sem] def Aer:=F5 Xi
def ANB:Xi.tk=[17]/\Xi.mt=[]/\Xi.pc=[10,20,36]:=⟨rfl,rfl,rfl⟩
def ABi:FK AA 200 f200 Xi:=F0 func200
def vG:Ef:=hm [6,16] [] [] [7]
def AM9:vG.lv=Fu [[1,2],[4]]:=Fy rfl dk
@[go_sem] def Aeq:=F5 vG
def AM8:vG.tk=[]/\vG.mt=[]/\vG.pc=[7]:=⟨rfl,rfl,rfl⟩
def ANA:FK AA 201 f201 vG:=F0 func201
def Ie:Ef:=hx [12,2147483660,16,44,68719476780,44,2199023255596,16,76,0x80000000004c,76,108,0x100000000000006c,108,0x20000000000000000006c,108,0x80000000000000000006c,16,136,0x20000000000000000000088,136,392,0x1000000000000000000000000000000188,16,904,0x8000000000000000000000000000000388,904,0x2000000000000000000000000000000000000388,16,16] [] [] [] [34,39,58,67,79,100,106] [(20,2)] []
def AQL:Ie.lv=Fu [[2,3],[2,3,31],[4],[2,3,5],[2,3,5,36],[2,3,5],[2,3,5,41],[4],[2,3,6],[2,3,6,47],[2,3,6],[2,3,5,6],[2,3,5,6,60],[2,3,5,6],[2,3,5,6,81],[2,3,5,6],[2,3,5,6,83],[4],[3,7],[3,7,89],[3,7],[3,7,8],[3,7,8,132],[4],[3,7,8,9],[3,7,8,9,135],[3,7,8,9],[3,7,8,9,157],[4],[4]]:=Fy rfl dk
def AQN:Ie.ct 0=none/\Ie.ct 1=none/\Ie.ct 2=none/\Ie.ct 3=none/\Ie.ct 4=none/\Ie.ct 5=none/\Ie.ct 6=none/\Ie.ct 7=none/\Ie.ct 8=none/\Ie.ct 9=none/\Ie.ct 10=none/\Ie.ct 11=none/\Ie.ct 12=none/\Ie.ct 13=none/\Ie.ct 14=none/\Ie.ct 15=none/\Ie.ct 16=none/\Ie.ct 17=none/\Ie.ct 18=none/\Ie.ct 19=none/\Ie.ct 20=some 2/\Ie.ct 21=none/\Ie.ct 22=none/\Ie.ct 23=none/\Ie.ct 24=none/\Ie.ct 25=none/\Ie.ct 26=none/\Ie.ct 27=none/\Ie.ct 28=none/\Ie.ct 29=none:=dk
def AQI(k:Nat):Ie.at k=[]:=rfl
def AQJ(k:Nat):Ie.dn k=false:=AG rfl rfl
def AQK:Ie.tk=[]/\Ie.mt=[]/\Ie.pc=[34,39,58,67,79,100,106]:=⟨rfl,rfl,rfl⟩
def AQM:FK AA 130 f130 Ie:=F0 func130
def h68:Ef:=hm [30,256] [] [] []
def AW2:h68.lv=Fu [[1,2,3,4],[8]]:=Fy rfl dk
@[go_sem] def AgV:=F5 h68
def AW1:h68.tk=[]/\h68.mt=[]/\h68.pc=[]:=⟨rfl,rfl,rfl⟩
def AW3:FK AA 68 f68 h68:=F0 func68
def wP:Ef:=hm [1,9,521,9,25,262153,4,41,2097193,41,4294967337,4,4] [] [] [16]
def AQb:wP.lv=Fu [[0],[0,3],[0,3,9],[0,3],[0,3,4],[0,3,18],[2],[0,3,5],[0,3,5,21],[0,3,5],[0,3,5,32],[2],[2]]:=Fy rfl dk
@[go_sem] def Afj:=F5 wP
def AQa:wP.tk=[]/\wP.mt=[]/\wP.pc=[16]:=⟨rfl,rfl,rfl⟩
def AQc:FK AA 125 f125 wP:=F0 func125
def wO:Ef:=hm [6,16] [] [] []
def AQY:wO.lv=Fu [[1,2],[4]]:=Fy rfl dk
@[go_sem] def Afi:=F5 wO
def AQX:wO.tk=[]/\wO.mt=[]/\wO.pc=[]:=⟨rfl,rfl,rfl⟩
def AQZ:FK AA 126 f126 wO:=F0 func126
def Pp:Ef:=hx [2,134217730,4,26,50,98,4398046511106,4,130,0x800000000082,130,386,0x1000000000000000082,4,514,0x20000000000000000202,514,1538,0x20000000000000000000000000202,4,2050,0x400000000000000000000000000802,2050,0x200000000000000000000000000000802,4,4] [33,35] [] [] [30,34,36,88,94,128] [(10,1),(16,1)] []
def AWt:Pp.lv=Fu [[1],[1,27],[2],[1,3,4],[1,4,5],[1,5,6],[1,42],[2],[1,7],[1,7,47],[1,7],[1,7,8],[1,7,72],[2],[1,9],[1,9,77],[1,9],[1,9,10],[1,9,113],[2],[1,11],[1,11,118],[1,11],[1,11,129],[2],[2]]:=Fy rfl dk
def AWv:Pp.ct 0=none/\Pp.ct 1=none/\Pp.ct 2=none/\Pp.ct 3=none/\Pp.ct 4=none/\Pp.ct 5=none/\Pp.ct 6=none/\Pp.ct 7=none/\Pp.ct 8=none/\Pp.ct 9=none/\Pp.ct 10=some 1/\Pp.ct 11=none/\Pp.ct 12=none/\Pp.ct 13=none/\Pp.ct 14=none/\Pp.ct 15=none/\Pp.ct 16=some 1/\Pp.ct 17=none/\Pp.ct 18=none/\Pp.ct 19=none/\Pp.ct 20=none/\Pp.ct 21=none/\Pp.ct 22=none/\Pp.ct 23=none/\Pp.ct 24=none/\Pp.ct 25=none:=dk
def AWq(k:Nat):Pp.at k=[]:=rfl
def AWr(k:Nat):Pp.dn k=false:=AG rfl rfl
def AWs:Pp.tk=[33,35]/\Pp.mt=[]/\Pp.pc=[30,34,36,88,94,128]:=⟨rfl,rfl,rfl⟩
def AWu:FK AA 71 f71 Pp:=F0 func71
def wM:Ef:=hm [2,4] [] [] []
def AQS:wM.lv=Fu [[1],[2]]:=Fy rfl dk
@[go_sem] def Afg:=F5 wM
def AQR:wM.tk=[]/\wM.mt=[]/\wM.pc=[]:=⟨rfl,rfl,rfl⟩
def AQT:FK AA 128 f128 wM:=F0 func128
def wL:Ef:=hm [12,16] [] [] []
def AQP:wL.lv=Fu [[2,3],[4]]:=Fy rfl dk
@[go_sem] def Aff:=F5 wL
def AQO:wL.tk=[]/\wL.mt=[]/\wL.pc=[]:=⟨rfl,rfl,rfl⟩
def AQQ:FK AA 129 f129 wL:=F0 func129
def h72:Ef:=hm [1,2049,4,9,32777,9,25,8589934601,4,41,68719476777,41,562949953421353,4,73,72057594037927945,4,137,0x800000000000089,137,393,0x800000000000000089,4,4] [] [] [23,54,70]
def AWo:h72.lv=Fu [[0],[0,11],[2],[0,3],[0,3,15],[0,3],[0,3,4],[0,3,33],[2],[0,3,5],[0,3,5,36],[0,3,5],[0,3,5,49],[2],[0,3,6],[0,3,56],[2],[0,3,7],[0,3,7,59],[0,3,7],[0,3,7,8],[0,3,7,71],[2],[2]]:=Fy rfl dk
@[go_sem] def AgS:=F5 h72
def AWn:h72.tk=[]/\h72.mt=[]/\h72.pc=[23,54,70]:=⟨rfl,rfl,rfl⟩
def AWp:FK AA 72 f72 h72:=F0 func72
def h42:Ef:=hm [2,10,42,10,131082,4,4] [] [] []
def AXz:h42.lv=Fu [[1],[1,3],[1,3,5],[1,3],[1,3,17],[2],[2]]:=Fy rfl dk
@[go_sem] def Agk:=F5 h42
def AXy:h42.tk=[]/\h42.mt=[]/\h42.pc=[]:=⟨rfl,rfl,rfl⟩
def AX0:FK AA 42 f42 h42:=F0 func42
def wW:Ef:=hm [449,961,473,8389057,449] [] [] []
def AQt:wW.lv=Fu [[0,6,7,8],[0,6,7,8,9],[0,3,4,6,7,8],[0,6,7,8,23],[0,6,7,8]]:=Fy rfl dk
@[go_sem] def Afq:=F5 wW
def AQs:wW.tk=[]/\wW.mt=[]/\wW.pc=[]:=⟨rfl,rfl,rfl⟩
def AQu:FK AA 118 f118 wW:=F0 func118
def h67:Ef:=hm [2,4] [] [] []
def AW4:h67.lv=Fu [[1],[2]]:=Fy rfl dk
@[go_sem] def AgW:=F5 h67
def AW5:FK AA 67 f67 h67:=F0 func67
def h38:Ef:=hm [28,280,1080,120,8240,1,16] [] [] []
def AX8:h38.lv=Fu [[2,3,4],[3,4,8],[3,4,5,10],[3,4,5,6],[4,5,13],[0],[4]]:=Fy rfl dk
@[go_sem] def Ago:=F5 h38
def AX7:h38.tk=[]/\h38.mt=[]/\h38.pc=[]:=⟨rfl,rfl,rfl⟩
def AX9:FK AA 38 f38 h38:=F0 func38
def h25:Ef:=hm [28,88,8280,48,24,48] [] [] [11]
def AYo:h25.lv=Fu [[2,3,4],[3,4,6],[3,4,6,13],[4,5],[3,4],[4,5]]:=Fy rfl dk
@[go_sem] def Agz:=F5 h25
def AYn:h25.tk=[]/\h25.mt=[]/\h25.pc=[11]:=⟨rfl,rfl,rfl⟩
def AYp:FK AA 25 f25 h25:=F0 func25
def wK:Ef:=hm [6,38,1062,38,16777254,16,16] [] [] []
def AQB:wK.lv=Fu [[1,2],[1,2,5],[1,2,5,10],[1,2,5],[1,2,5,24],[4],[4]]:=Fy rfl dk
@[go_sem] def Afe:=F5 wK
def AQA:wK.tk=[]/\wK.mt=[]/\wK.pc=[]:=⟨rfl,rfl,rfl⟩
def ABo:FK AA 132 f132 wK:=F0 func132
def wZ:Ef:=hm [7,64] [] [] []
def AQ2:wZ.lv=Fu [[0,1,2],[6]]:=Fy rfl dk
@[go_sem] def Aft:=F5 wZ
def AQ1:wZ.tk=[]/\wZ.mt=[]/\wZ.pc=[]:=⟨rfl,rfl,rfl⟩
def AQ3:FK AA 115 f115 wZ:=F0 func115
def h55:Ef:=hm [6,2054,16,16] [] [] [10]
def AXg:h55.lv=Fu [[1,2],[1,2,11],[4],[4]]:=Fy rfl dk
@[go_sem] def Agh:=F5 h55
def AXf:h55.tk=[]/\h55.mt=[]/\h55.pc=[10]:=⟨rfl,rfl,rfl⟩
def AG5:FK AA 55 f55 h55:=F0 func55
def h29:Ef:=hm [28,88,4184,48,24,48] [] [] [10]
def AYb:h29.lv=Fu [[2,3,4],[3,4,6],[3,4,6,12],[4,5],[3,4],[4,5]]:=Fy rfl dk
@[go_sem] def Agw:=F5 h29
def AYa:h29.tk=[]/\h29.mt=[]/\h29.pc=[10]:=⟨rfl,rfl,rfl⟩
def AYc:FK AA 29 f29 h29:=F0 func29
def nk:AA.cellsOf 156=1/\JG AA 156=some none/\Fi AA 156=some (.nilf)/\JG AA 174=some none/\AA.cellsOf 187=2/\JG AA 187=some (some 2)/\KK AA 187 = .struct [(0,1),(1,1)]/\FW AA 187 0=some (3,0)/\FW AA 187 1=some (3,1)/\Fi AA 187=some (.agg [.int .i64 0,.int .i64 0])/\AA.cellsOf 190=1/\JG AA 190=some none:=Tf
def rG:Fi AA 190=some (.nilf)/\AA.underlying 355=some (.int .u64)/\AA.underlying 367=some (.array 49 9):=⟨kr,kr,kr⟩
def uB:Ef:=hm [5,4] [] [] []
def AJs:uB.lv=Fu [[0,2],[2]]:=Fy rfl dk
@[go_sem] def Ads:=F5 uB
def AJr:uB.tk=[]/\uB.mt=[]/\uB.pc=[]:=⟨rfl,rfl,rfl⟩
def AJt:FK AA 309 f309 uB:=F0 func309
def tx:Ef:=hm [5,133,4,13,29,32797,29,29,4] [] [] []
def AJj:tx.lv=Fu [[0,2],[0,2,7],[2],[0,2,3],[0,2,3,4],[0,2,3,4,15],[0,2,3,4],[0,2,3,4],[2]]:=Fy rfl dk
@[go_sem] def Adp:=F5 tx
def AJi:tx.tk=[]/\tx.mt=[]/\tx.pc=[]:=⟨rfl,rfl,rfl⟩
def AJk:FK AA 312 f312 tx:=F0 func312
def uV:Ef:=hm [6,14,30,542,30,30,4] [12,22] [] [19,23]
def AKw:uV.lv=Fu [[1,2],[1,2,3],[1,2,3,4],[1,2,3,4,9],[1,2,3,4],[1,2,3,4],[2]]:=Fy rfl dk
@[go_sem] def AeD:=F5 uV
def AKv:uV.tk=[12,22]/\uV.mt=[]/\uV.pc=[19,23]:=⟨rfl,rfl,rfl⟩
def AKx:FK AA 268 f268 uV:=F0 func268
def uA:Ef:=hm [19,16] [] [] []
def AJp:uA.lv=Fu [[0,1,4],[4]]:=Fy rfl dk
@[go_sem] def Adr:=F5 uA
def AJo:uA.tk=[]/\uA.mt=[]/\uA.pc=[]:=⟨rfl,rfl,rfl⟩
def AJq:FK AA 310 f310 uA:=F0 func310
def uX:Ef:=hm [28,16] [] [] []
def AK8:uX.lv=Fu [[2,3,4],[4]]:=Fy rfl dk
@[go_sem] def AeF:=F5 uX
def AK7:uX.tk=[]/\uX.mt=[]/\uX.pc=[]:=⟨rfl,rfl,rfl⟩
def AK9:FK AA 265 f265 uX:=F0 func265
def uW:Ef:=hm [6,4] [] [] []
def AKz:uW.lv=Fu [[1,2],[2]]:=Fy rfl dk
@[go_sem] def AeE:=F5 uW
def AKy:uW.tk=[]/\uW.mt=[]/\uW.pc=[]:=⟨rfl,rfl,rfl⟩
def AK0:FK AA 267 f267 uW:=F0 func267
def tz:Ef:=hm [28,16] [] [] []
def AJm:tz.lv=Fu [[2,3,4],[4]]:=Fy rfl dk
@[go_sem] def Adq:=F5 tz
def AJl:tz.tk=[]/\tz.mt=[]/\tz.pc=[]:=⟨rfl,rfl,rfl⟩
def AJn:FK AA 311 f311 tz:=F0 func311
def On:Ef:=hx [6,14,30,4126,30,62,4294967358,30,30,4] [] [] [] [7,21,22,29,30,36] [(4,3)] []
def AK4:On.lv=Fu [[1,2],[1,2,3],[1,2,3,4],[1,2,3,4,12],[1,2,3,4],[1,2,3,4,5],[1,2,3,4,5,32],[1,2,3,4],[1,2,3,4],[2]]:=Fy rfl dk
def AK6:On.ct 0=none/\On.ct 1=none/\On.ct 2=none/\On.ct 3=none/\On.ct 4=some 3/\On.ct 5=none/\On.ct 6=none/\On.ct 7=none/\On.ct 8=none/\On.ct 9=none:=dk
def AK1(k:Nat):On.at k=[]:=rfl
def AK2(k:Nat):On.dn k=false:=AG rfl rfl
def AK3:On.tk=[]/\On.mt=[]/\On.pc=[7,21,22,29,30,36]:=⟨rfl,rfl,rfl⟩
def AK5:FK AA 266 f266 On:=F0 func266
def uY:Ef:=hm [6,4] [] [] []
def ALB:uY.lv=Fu [[1,2],[2]]:=Fy rfl dk
@[go_sem] def AeG:=F5 uY
def ALA:uY.tk=[]/\uY.mt=[]/\uY.pc=[]:=⟨rfl,rfl,rfl⟩
def ALC:FK AA 264 f264 uY:=F0 func264
def vF:Ef:=hm [28,1052,16,60,120,16] [] [] [13,15,16,18,21,24,26]
def AM6:vF.lv=Fu [[2,3,4],[2,3,4,10],[4],[2,3,4,5],[3,4,5,6],[4]]:=Fy rfl dk
@[go_sem] def Aep:=F5 vF
def AM5:vF.tk=[]/\vF.mt=[]/\vF.pc=[13,15,16,18,21,24,26]:=⟨rfl,rfl,rfl⟩
def AM7:FK AA 202 f202 vF:=F0 func202
def Ot:Ef:=hx [2,18,50,2098,50,114,16777330,12,50,12] [25,36] [] [] [21,23] [(4,1)] []
def AQF:Ot.lv=Fu [[1],[1,4],[1,4,5],[1,4,5,11],[1,4,5],[1,4,5,6],[1,4,5,6,24],[2,3],[1,4,5],[2,3]]:=Fy rfl dk
def AQH:Ot.ct 0=none/\Ot.ct 1=none/\Ot.ct 2=none/\Ot.ct 3=none/\Ot.ct 4=some 1/\Ot.ct 5=none/\Ot.ct 6=none/\Ot.ct 7=none/\Ot.ct 8=none/\Ot.ct 9=none:=dk
def AQC(k:Nat):Ot.at k=[]:=rfl
def AQD(k:Nat):Ot.dn k=false:=AG rfl rfl
def AQE:Ot.tk=[25,36]/\Ot.mt=[]/\Ot.pc=[21,23]:=⟨rfl,rfl,rfl⟩
def AQG:FK AA 131 f131 Ot:=F0 func131
def vw:Ef:=hm [5,4] [] [] []
def APD:vw.lv=Fu [[0,2],[2]]:=Fy rfl dk
@[go_sem] def AfQ:=F5 vw
def APC:vw.tk=[]/\vw.mt=[]/\vw.pc=[]:=⟨rfl,rfl,rfl⟩
def APE:FK AA 160 f160 vw:=F0 func160
def Oo:Ef:=hx [85,4181,64,197,1835204,3932356,1835716,1835204,1835204,64] [17] [] [] [] [(8,3)] []
def AMa:Oo.lv=Fu [[0,2,4,6],[0,2,4,6,12],[6],[0,2,6,7],[2,6,7,18,19,20],[2,6,7,18,19,20,21],[2,6,7,9,18,19,20],[2,6,7,18,19,20],[2,6,7,18,19,20],[6]]:=Fy rfl dk
def AMc:Oo.ct 0=none/\Oo.ct 1=none/\Oo.ct 2=none/\Oo.ct 3=none/\Oo.ct 4=none/\Oo.ct 5=none/\Oo.ct 6=none/\Oo.ct 7=none/\Oo.ct 8=some 3/\Oo.ct 9=none:=dk
def AMX(k:Nat):Oo.at k=[]:=rfl
def AMY(k:Nat):Oo.dn k=false:=AG rfl rfl
def AMZ:Oo.tk=[17]/\Oo.mt=[]/\Oo.pc=[]:=⟨rfl,rfl,rfl⟩
def AMb:FK AA 237 f237 Oo:=F0 func237
def u3:Ef:=hm [28,16] [] [] []
def AMV:u3.lv=Fu [[2,3,4],[4]]:=Fy rfl dk
@[go_sem] def Aee:=F5 u3
def AMU:u3.tk=[]/\u3.mt=[]/\u3.pc=[]:=⟨rfl,rfl,rfl⟩
def AMW:FK AA 238 f238 u3:=F0 func238
def vt:Ef:=hm [5,13,460,972,492,460,460,4] [6,12,18] [] [14,20]
def AO1:vt.lv=Fu [[0,2],[0,2,3],[2,3,6,7,8],[2,3,6,7,8,9],[2,3,5,6,7,8],[2,3,6,7,8],[2,3,6,7,8],[2]]:=Fy rfl dk
@[go_sem] def AfO:=F5 vt
def AO0:vt.tk=[6,12,18]/\vt.mt=[]/\vt.pc=[14,20]:=⟨rfl,rfl,rfl⟩
def AO2:FK AA 163 f163 vt:=F0 func163
def Qo:Ef:=hx [6,14,908,1932,940,908,908,4] [13,19] [] [] [20] [(6,2)] []
def ARe:Qo.lv=Fu [[1,2],[1,2,3],[2,3,7,8,9],[2,3,7,8,9,10],[2,3,5,7,8,9],[2,3,7,8,9],[2,3,7,8,9],[2]]:=Fy rfl dk
def ARg:Qo.ct 0=none/\Qo.ct 1=none/\Qo.ct 2=none/\Qo.ct 3=none/\Qo.ct 4=none/\Qo.ct 5=none/\Qo.ct 6=some 2/\Qo.ct 7=none:=dk
def ARb(k:Nat):Qo.at k=[]:=rfl
def ARc(k:Nat):Qo.dn k=false:=AG rfl rfl
def ARd:Qo.tk=[13,19]/\Qo.mt=[]/\Qo.pc=[20]:=⟨rfl,rfl,rfl⟩
def ARf:FK AA 100 f100 Qo:=F0 func100
def h97:Ef:=hm [28,16] [] [] []
def AWR:h97.lv=Fu [[2,3,4],[4]]:=Fy rfl dk
@[go_sem] def AgN:=F5 h97
def AWQ:h97.tk=[]/\h97.mt=[]/\h97.pc=[]:=⟨rfl,rfl,rfl⟩
def AWS:FK AA 97 f97 h97:=F0 func97
def h99:Ef:=hm [6,4] [] [] []
def AWI:h99.lv=Fu [[1,2],[2]]:=Fy rfl dk
@[go_sem] def AgM:=F5 h99
def AWH:h99.tk=[]/\h99.mt=[]/\h99.pc=[]:=⟨rfl,rfl,rfl⟩
def AWJ:FK AA 99 f99 h99:=F0 func99
def Oq:Ef:=hx [85,4181,64,197,1835204,3932356,1835716,1835204,1835204,64] [17] [] [] [] [(8,3)] []
def AO9:Oq.lv=Fu [[0,2,4,6],[0,2,4,6,12],[6],[0,2,6,7],[2,6,7,18,19,20],[2,6,7,18,19,20,21],[2,6,7,9,18,19,20],[2,6,7,18,19,20],[2,6,7,18,19,20],[6]]:=Fy rfl dk
def APB:Oq.ct 0=none/\Oq.ct 1=none/\Oq.ct 2=none/\Oq.ct 3=none/\Oq.ct 4=none/\Oq.ct 5=none/\Oq.ct 6=none/\Oq.ct 7=none/\Oq.ct 8=some 3/\Oq.ct 9=none:=dk
def AO6(k:Nat):Oq.at k=[]:=rfl
def AO7(k:Nat):Oq.dn k=false:=AG rfl rfl
def AO8:Oq.tk=[17]/\Oq.mt=[]/\Oq.pc=[]:=⟨rfl,rfl,rfl⟩
def APA:FK AA 161 f161 Oq:=F0 func161
def vu:Ef:=hm [28,16] [] [] []
def AO4:vu.lv=Fu [[2,3,4],[4]]:=Fy rfl dk
@[go_sem] def AfP:=F5 vu
def AO3:vu.tk=[]/\vu.mt=[]/\vu.pc=[]:=⟨rfl,rfl,rfl⟩
def AO5:FK AA 162 f162 vu:=F0 func162
def mq:Ef:=hx [6,14,908,1932,940,908,908,4] [13,25] [] [] [16,17,21,27,28] [(6,2)] []
def AWN:mq.lv=Fu [[1,2],[1,2,3],[2,3,7,8,9],[2,3,7,8,9,10],[2,3,5,7,8,9],[2,3,7,8,9],[2,3,7,8,9],[2]]:=Fy rfl dk
def AWP:mq.ct 0=none/\mq.ct 1=none/\mq.ct 2=none/\mq.ct 3=none/\mq.ct 4=none/\mq.ct 5=none/\mq.ct 6=some 2/\mq.ct 7=none:=dk
def AWK(k:Nat):mq.at k=[]:=rfl
def AWL(k:Nat):mq.dn k=false:=AG rfl rfl
def AWM:mq.tk=[13,25]/\mq.mt=[]/\mq.pc=[16,17,21,27,28]:=⟨rfl,rfl,rfl⟩
def AWO:FK AA 98 f98 mq:=F0 func98
def h51:Ef:=hm [28,540,16,60,16] [] [] [12,14,19,21,24,25]
def AXw:h51.lv=Fu [[2,3,4],[2,3,4,9],[4],[2,3,4,5],[4]]:=Fy rfl dk
@[go_sem] def Agj:=F5 h51
def AXv:h51.tk=[]/\h51.mt=[]/\h51.pc=[12,14,19,21,24,25]:=⟨rfl,rfl,rfl⟩
def AXx:FK AA 51 f51 h51:=F0 func51
def vp:Ef:=hm [2,1024,4,4] [] [] []
def AOn:vp.lv=Fu [[1],[10],[2],[2]]:=Fy rfl dk
@[go_sem] def AfL:=F5 vp
def AOm:vp.tk=[]/\vp.mt=[]/\vp.pc=[]:=⟨rfl,rfl,rfl⟩
def AOo:FK AA 167 f167 vp:=F0 func167
def wi:Ef:=hm [6,34,546,16,8192,16,16] [] [] [7]
def ARX:wi.lv=Fu [[1,2],[1,5],[1,5,9],[4],[13],[4],[4]]:=Fy rfl dk
@[go_sem] def Af5:=F5 wi
def ARW:wi.tk=[]/\wi.mt=[]/\wi.pc=[7]:=⟨rfl,rfl,rfl⟩
def ARY:FK AA 102 f102 wi:=F0 func102
def vr:Ef:=hm [28,16] [] [] []
def AOs:vr.lv=Fu [[2,3,4],[4]]:=Fy rfl dk
@[go_sem] def AfN:=F5 vr
def AOr:vr.tk=[]/\vr.mt=[]/\vr.pc=[]:=⟨rfl,rfl,rfl⟩
def AOt:FK AA 165 f165 vr:=F0 func165
def Ql:Ef:=hx [19,51,3634,7730,3762,3634,3634,16] [9] [] [] [18,19] [(6,2)] []
def AMR:Ql.lv=Fu [[0,1,4],[0,1,4,5],[1,4,5,9,10,11],[1,4,5,9,10,11,12],[1,4,5,7,9,10,11],[1,4,5,9,10,11],[1,4,5,9,10,11],[4]]:=Fy rfl dk
def AMT:Ql.ct 0=none/\Ql.ct 1=none/\Ql.ct 2=none/\Ql.ct 3=none/\Ql.ct 4=none/\Ql.ct 5=none/\Ql.ct 6=some 2/\Ql.ct 7=none:=dk
def AMO(k:Nat):Ql.at k=[]:=rfl
def AMP(k:Nat):Ql.dn k=false:=AG rfl rfl
def AMQ:Ql.tk=[9]/\Ql.mt=[]/\Ql.pc=[18,19]:=⟨rfl,rfl,rfl⟩
def AMS:FK AA 239 f239 Ql:=F0 func239
def vq:Ef:=hm [6,4] [] [] [5]
def AOq:vq.lv=Fu [[1,2],[2]]:=Fy rfl dk
@[go_sem] def AfM:=F5 vq
def AOp:vq.tk=[]/\vq.mt=[]/\vq.pc=[5]:=⟨rfl,rfl,rfl⟩
def ABm:FK AA 166 f166 vq:=F0 func166
def Qm:Ef:=hx [19,51,3634,7730,3762,3634,3634,16] [9] [] [] [18,19] [(6,2)] []
def AOx:Qm.lv=Fu [[0,1,4],[0,1,4,5],[1,4,5,9,10,11],[1,4,5,9,10,11,12],[1,4,5,7,9,10,11],[1,4,5,9,10,11],[1,4,5,9,10,11],[4]]:=Fy rfl dk
def AOz:Qm.ct 0=none/\Qm.ct 1=none/\Qm.ct 2=none/\Qm.ct 3=none/\Qm.ct 4=none/\Qm.ct 5=none/\Qm.ct 6=some 2/\Qm.ct 7=none:=dk
def AOu(k:Nat):Qm.at k=[]:=rfl
def AOv(k:Nat):Qm.dn k=false:=AG rfl rfl
def AOw:Qm.tk=[9]/\Qm.mt=[]/\Qm.pc=[18,19]:=⟨rfl,rfl,rfl⟩
def AOy:FK AA 164 f164 Qm:=F0 func164
def wj:Ef:=hm [6,14,526,12,4] [] [] [6,13,14]
def ARa:wj.lv=Fu [[1,2],[1,2,3],[1,2,3,9],[2,3],[2]]:=Fy rfl dk
@[go_sem] def Af6:=F5 wj
def ARZ:wj.tk=[]/\wj.mt=[]/\wj.pc=[6,13,14]:=⟨rfl,rfl,rfl⟩
def ABs:FK AA 101 f101 wj:=F0 func101
def tf:Ef:=hm [7,64] [] [] []
def AJE:tf.lv=Fu [[0,1,2],[6]]:=Fy rfl dk
@[go_sem] def Add:=F5 tf
def AJD:tf.tk=[]/\tf.mt=[]/\tf.pc=[]:=⟨rfl,rfl,rfl⟩
def AJF:FK AA 342 f342 tf:=F0 func342
def tn:Ef:=hm [1,4] [] [] [4]
def AJW:tn.lv=Fu [[0],[2]]:=Fy rfl dk
@[go_sem] def Adk:=F5 tn
def AJV:tn.tk=[]/\tn.mt=[]/\tn.pc=[4]:=⟨rfl,rfl,rfl⟩
def AJX:FK AA 328 f328 tn:=F0 func328
def wY:Ef:=hm [1,4] [] [] []
def AQz:wY.lv=Fu [[0],[2]]:=Fy rfl dk
@[go_sem] def Afs:=F5 wY
def AQy:wY.tk=[]/\wY.mt=[]/\wY.pc=[]:=⟨rfl,rfl,rfl⟩
def AQ0:FK AA 116 f116 wY:=F0 func116
def te:Ef:=hm [3,16] [] [] [6,9]
def AJB:te.lv=Fu [[0,1],[4]]:=Fy rfl dk
@[go_sem] def Adc:=F5 te
def AJA:te.tk=[]/\te.mt=[]/\te.pc=[6,9]:=⟨rfl,rfl,rfl⟩
def AJC:FK AA 343 f343 te:=F0 func343
def td:Ef:=hm [1,4] [] [] []
def AI8:td.lv=Fu [[0],[2]]:=Fy rfl dk
@[go_sem] def Adb:=F5 td
def AI7:td.tk=[]/\td.mt=[]/\td.pc=[]:=⟨rfl,rfl,rfl⟩
def AI9:FK AA 344 f344 td:=F0 func344
def tl:Ef:=hm [3,67,451,33219,963,134218691,451,451,48] [43] [] [27,47,50]
def AJT:tl.lv=Fu [[0,1],[0,1,6],[0,1,6,7,8],[0,1,6,7,8,15],[0,1,6,7,8,9],[0,1,6,7,8,9,27],[0,1,6,7,8],[0,1,6,7,8],[4,5]]:=Fy rfl dk
@[go_sem] def Adj:=F5 tl
def AJS:tl.tk=[43]/\tl.mt=[]/\tl.pc=[27,47,50]:=⟨rfl,rfl,rfl⟩
def AJU:FK AA 329 f329 tl:=F0 func329
def tj:Ef:=hm [3,35,65571,35,16] [] [] []
def AJQ:tj.lv=Fu [[0,1],[0,1,5],[0,1,5,16],[0,1,5],[4]]:=Fy rfl dk
@[go_sem] def Adi:=F5 tj
def AJP:tj.tk=[]/\tj.mt=[]/\tj.pc=[]:=⟨rfl,rfl,rfl⟩
def AJR:FK AA 330 f330 tj:=F0 func330
def tc:Ef:=hm [1,4] [] [] [4]
def AI5:tc.lv=Fu [[0],[2]]:=Fy rfl dk
@[go_sem] def Ada:=F5 tc
def AI4:tc.tk=[]/\tc.mt=[]/\tc.pc=[4]:=⟨rfl,rfl,rfl⟩
def AI6:FK AA 345 f345 tc:=F0 func345
def th:Ef:=hm [1,4] [] [] [4,7]
def AJK:th.lv=Fu [[0],[2]]:=Fy rfl dk
@[go_sem] def Adg:=F5 th
def AJJ:th.tk=[]/\th.mt=[]/\th.pc=[4,7]:=⟨rfl,rfl,rfl⟩
def AJL:FK AA 332 f332 th:=F0 func332
def ti:Ef:=hm [1,4] [] [] [5]
def AJN:ti.lv=Fu [[0],[2]]:=Fy rfl dk
@[go_sem] def Adh:=F5 ti
def AJM:ti.tk=[]/\ti.mt=[]/\ti.pc=[5]:=⟨rfl,rfl,rfl⟩
def AJO:FK AA 331 f331 ti:=F0 func331
def uM:Ef:=hm [1,131073,4,17,4] [] [] [15,21,28]
def AKV:uM.lv=Fu [[0],[0,17],[2],[0,4],[2]]:=Fy rfl dk
@[go_sem] def Ad4:=F5 uM
def AKU:uM.tk=[]/\uM.mt=[]/\uM.pc=[15,21,28]:=⟨rfl,rfl,rfl⟩
def AKW:FK AA 296 f296 uM:=F0 func296
def uy:Ef:=hm [1,4] [] [] [4]
def AMA:uy.lv=Fu [[0],[2]]:=Fy rfl dk
@[go_sem] def Aeb:=F5 uy
def AL9:uy.tk=[]/\uy.mt=[]/\uy.pc=[4]:=⟨rfl,rfl,rfl⟩
def AMB:FK AA 243 f243 uy:=F0 func243
def vl:Ef:=hm [1,4] [] [] [7]
def AOg:vl.lv=Fu [[0],[2]]:=Fy rfl dk
@[go_sem] def AfI:=F5 vl
def AOf:vl.tk=[]/\vl.mt=[]/\vl.pc=[7]:=⟨rfl,rfl,rfl⟩
def AOh:FK AA 170 f170 vl:=F0 func170
def vj:Ef:=hm [1,4] [] [] []
def AOd:vj.lv=Fu [[0],[2]]:=Fy rfl dk
@[go_sem] def AfH:=F5 vj
def AOc:vj.tk=[]/\vj.mt=[]/\vj.pc=[]:=⟨rfl,rfl,rfl⟩
def AOe:FK AA 171 f171 vj:=F0 func171
def u1:Ef:=hm [1,4] [] [] []
def AMG:u1.lv=Fu [[0],[2]]:=Fy rfl dk
@[go_sem] def Aed:=F5 u1
def AMF:u1.tk=[]/\u1.mt=[]/\u1.pc=[]:=⟨rfl,rfl,rfl⟩
def AMH:FK AA 241 f241 u1:=F0 func241
def tp:Ef:=hm [3,387,899,419,65955,16,387,16] [] [] []
def AJZ:tp.lv=Fu [[0,1],[0,1,7,8],[0,1,7,8,9],[0,1,5,7,8],[0,1,5,7,8,16],[4],[0,1,7,8],[4]]:=Fy rfl dk
@[go_sem] def Adl:=F5 tp
def AJY:tp.tk=[]/\tp.mt=[]/\tp.pc=[]:=⟨rfl,rfl,rfl⟩
def AJa:FK AA 327 f327 tp:=F0 func327
def uO:Ef:=hm [3,16] [5] [] []
def AKb:uO.lv=Fu [[0,1],[4]]:=Fy rfl dk
@[go_sem] def Ad6:=F5 uO
def AKa:uO.tk=[5]/\uO.mt=[]/\uO.pc=[]:=⟨rfl,rfl,rfl⟩
def AKc:FK AA 294 f294 uO:=F0 func294
def uN:Ef:=hm [6,8] [] [] []
def AKY:uN.lv=Fu [[1,2],[3]]:=Fy rfl dk
@[go_sem] def Ad5:=F5 uN
def AKX:uN.tk=[]/\uN.mt=[]/\uN.pc=[]:=⟨rfl,rfl,rfl⟩
def AKZ:FK AA 295 f295 uN:=F0 func295
def uz:Ef:=hm [35,64] [12] [] []
def AMD:uz.lv=Fu [[0,1,5],[6]]:=Fy rfl dk
@[go_sem] def Aec:=F5 uz
def AMC:uz.tk=[12]/\uz.mt=[]/\uz.pc=[]:=⟨rfl,rfl,rfl⟩
def AME:FK AA 242 f242 uz:=F0 func242
def vm:Ef:=hm [2,10,262154,786442,786442,4,537133066,4,0x400000004000a,4,0x1000000000000004000a,4,0x10000000000000000000004000a,4,0x100000000000000000000000000004000a,4,0x10000000000000000000000000000004000a,0x10000000000000000000000000000000000a,4,4] [] [] [33,37,54,58,80,84,89,112,117,138,147]
def AOj:vm.lv=Fu [[1],[1,3],[1,3,18],[1,3,18,19],[1,3,18,19],[2],[1,3,18,29],[2],[1,3,18,50],[2],[1,3,18,76],[2],[1,3,18,104],[2],[1,3,18,132],[2],[1,3,18,140],[1,3,140],[2],[2]]:=Fy rfl dk
@[go_sem] def AfJ:=F5 vm
def AOi:vm.tk=[]/\vm.mt=[]/\vm.pc=[33,37,54,58,80,84,89,112,117,138,147]:=⟨rfl,rfl,rfl⟩
def MY:FK AA 169 f169 vm:=F0 func169
def OF:Ef:=hx [7,16391,64,229382,491526,229766,230150,1073971206,64,229382,64] [15] [] [] [] [(9,0)] []
def AML:OF.lv=Fu [[0,1,2],[0,1,2,14],[6],[1,2,15,16,17],[1,2,15,16,17,18],[1,2,7,8,15,16,17],[1,2,8,9,15,16,17],[1,2,15,16,17,30],[6],[1,2,15,16,17],[6]]:=Fy rfl dk
def AMN:OF.ct 0=none/\OF.ct 1=none/\OF.ct 2=none/\OF.ct 3=none/\OF.ct 4=none/\OF.ct 5=none/\OF.ct 6=none/\OF.ct 7=none/\OF.ct 8=none/\OF.ct 9=some 0/\OF.ct 10=none:=dk
def AMI(k:Nat):OF.at k=[]:=rfl
def AMJ(k:Nat):OF.dn k=false:=AG rfl rfl
def AMK:OF.tk=[15]/\OF.mt=[]/\OF.pc=[]:=⟨rfl,rfl,rfl⟩
def AMM:FK AA 240 f240 OF:=F0 func240
def vn:Ef:=hm [12,16] [] [] [36]
def AOl:vn.lv=Fu [[2,3],[4]]:=Fy rfl dk
@[go_sem] def AfK:=F5 vn
def AOk:vn.tk=[]/\vn.mt=[]/\vn.pc=[36]:=⟨rfl,rfl,rfl⟩
def ABl:FK AA 168 f168 vn:=F0 func168
def uL:Ef:=hm [3,387,899,419,65955,16,387,16] [] [] []
def AKS:uL.lv=Fu [[0,1],[0,1,7,8],[0,1,7,8,9],[0,1,5,7,8],[0,1,5,7,8,16],[4],[0,1,7,8],[4]]:=Fy rfl dk
@[go_sem] def Ad3:=F5 uL
def AKR:uL.tk=[]/\uL.mt=[]/\uL.pc=[]:=⟨rfl,rfl,rfl⟩
def AKT:FK AA 297 f297 uL:=F0 func297
def ux:Ef:=hm [3,16] [5] [] []
def AL7:ux.lv=Fu [[0,1],[4]]:=Fy rfl dk
@[go_sem] def Aea:=F5 ux
def AL6:ux.tk=[5]/\ux.mt=[]/\ux.pc=[]:=⟨rfl,rfl,rfl⟩
def AL8:FK AA 244 f244 ux:=F0 func244
def uw:Ef:=hm [6,8] [] [] []
def AL4:uw.lv=Fu [[1,2],[3]]:=Fy rfl dk
@[go_sem] def AeZ:=F5 uw
def AL3:uw.tk=[]/\uw.mt=[]/\uw.pc=[]:=⟨rfl,rfl,rfl⟩
def AL5:FK AA 245 f245 uw:=F0 func245
def vi:Ef:=hm [35,64] [12] [] []
def AOa:vi.lv=Fu [[0,1,5],[6]]:=Fy rfl dk
@[go_sem] def AfG:=F5 vi
def AOZ:vi.tk=[12]/\vi.mt=[]/\vi.pc=[]:=⟨rfl,rfl,rfl⟩
def AOb:FK AA 172 f172 vi:=F0 func172
def wg:Ef:=hm [2,26,262170,786458,4,8590196762,4,4503599627632666,4,0x800000000004001a,0x800000000000001a,4,4] [] [] [8,31,45,50,61,73]
def ARS:wg.lv=Fu [[1],[1,3,4],[1,3,4,18],[1,3,4,18,19],[2],[1,3,4,18,33],[2],[1,3,4,18,52],[2],[1,3,4,18,63],[1,3,4,63],[2],[2]]:=Fy rfl dk
@[go_sem] def Af3:=F5 wg
def ARR:wg.tk=[]/\wg.mt=[]/\wg.pc=[8,31,45,50,61,73]:=⟨rfl,rfl,rfl⟩
def Su:FK AA 104 f104 wg:=F0 func104
def wh:Ef:=hm [1,2] [] [] [3]
def ARU:wh.lv=Fu [[0],[1]]:=Fy rfl dk
@[go_sem] def Af4:=F5 wh
def ART:wh.tk=[]/\wh.mt=[]/\wh.pc=[3]:=⟨rfl,rfl,rfl⟩
def ARV:FK AA 103 f103 wh:=F0 func103
def h52:Ef:=hm [2,4] [] [] [4]
def AXt:h52.lv=Fu [[1],[2]]:=Fy rfl dk
@[go_sem] def Agi:=F5 h52
def AXs:h52.tk=[]/\h52.mt=[]/\h52.pc=[4]:=⟨rfl,rfl,rfl⟩
def AXu:FK AA 52 f52 h52:=F0 func52
def cW:Ef:=hx [2,18,1810,3858,1874,1874,4196178,12,1810,1810,12] [23,28] [] [] [17,21] [(9,1)] []
def AYj:cW.lv=Fu [[1],[1,4],[1,4,8,9,10],[1,4,8,9,10,11],[1,4,6,8,9,10],[1,4,6,8,9,10],[1,4,6,8,9,10,22],[2,3],[1,4,8,9,10],[1,4,8,9,10],[2,3]]:=Fy rfl dk
def AYl:cW.ct 0=none/\cW.ct 1=none/\cW.ct 2=none/\cW.ct 3=none/\cW.ct 4=none/\cW.ct 5=none/\cW.ct 6=none/\cW.ct 7=none/\cW.ct 8=none/\cW.ct 9=some 1/\cW.ct 10=none:=dk
def AYg(k:Nat):cW.at k=[]:=rfl
def AYh(k:Nat):cW.dn k=false:=AG rfl rfl
def AYi:cW.tk=[23,28]/\cW.mt=[]/\cW.pc=[17,21]:=⟨rfl,rfl,rfl⟩
def AYk:FK AA 27 f27 cW:=F0 func27
def no:AA.cellsOf 131=1/\JG AA 131=some none/\JG AA 217=some none/\AA.cellsOf 233=5/\AA.bytesOf 233=64/\JG AA 233=some (some 5)/\Gj AA 233=true/\KK AA 233 = .struct [(0,1),(1,1),(2,1),(3,1),(4,1)]/\FW AA 233 0=some (9,0)/\FW AA 233 1=some (3,1)/\FW AA 233 2=some (50,2)/\FW AA 233 3=some (3,3):=Tf
def gT:FW AA 233 4=some (3,4):=kr
def vx:Ef:=hm [3,387,899,419,65955,16,387,16] [] [] []
def APG:vx.lv=Fu [[0,1],[0,1,7,8],[0,1,7,8,9],[0,1,5,7,8],[0,1,5,7,8,16],[4],[0,1,7,8],[4]]:=Fy rfl dk
@[go_sem] def AfR:=F5 vx
def APF:vx.tk=[]/\vx.mt=[]/\vx.pc=[]:=⟨rfl,rfl,rfl⟩
def APH:FK AA 150 f150 vx:=F0 func150
def uu:Ef:=hm [6,8] [] [] []
def AL1:uu.lv=Fu [[1,2],[3]]:=Fy rfl dk
@[go_sem] def AeY:=F5 uu
def AL0:uu.tk=[]/\uu.mt=[]/\uu.pc=[]:=⟨rfl,rfl,rfl⟩
def AL2:FK AA 246 f246 uu:=F0 func246
def vg:Ef:=hm [25,1049,48,81,65617,48,48] [18] [] [8,11]
def AOV:vg.lv=Fu [[0,3,4],[0,3,4,10],[4,5],[0,4,6],[0,4,6,16],[4,5],[4,5]]:=Fy rfl dk
@[go_sem] def AfE:=F5 vg
def AOU:vg.tk=[18]/\vg.mt=[]/\vg.pc=[8,11]:=⟨rfl,rfl,rfl⟩
def AOW:FK AA 174 f174 vg:=F0 func174
def u4:Ef:=hm [2,4] [] [] []
def AMe:u4.lv=Fu [[1],[2]]:=Fy rfl dk
@[go_sem] def Aef:=F5 u4
def AMd:u4.tk=[]/\u4.mt=[]/\u4.pc=[]:=⟨rfl,rfl,rfl⟩
def AMf:FK AA 236 f236 u4:=F0 func236
def xM:AA.cellsOf 95=1/\JG AA 95=some none/\AA.underlying 95=some (.slice 34)/\Fi AA 95=some (.sl (some 10) [])/\AA.cellsOf 193=1/\JG AA 193=some none/\AA.cellsOf 194=1/\JG AA 194=some none/\KK AA 196 = .struct [(0,1),(1,1)]/\FW AA 196 0=some (193,0)/\FW AA 196 1=some (194,1)/\Fi AA 196=some (.agg [.nilf,.nilf]):=Tf
def nj:AA.cellsOf 197=1/\JG AA 197=some none/\Fi AA 197=some (.nilp)/\AA.cellsOf 267=20/\JG AA 267=some (some 20)/\KK AA 267 = .struct [(0,10),(10,10)]/\FW AA 267 0=some (34,0)/\FW AA 267 1=some (34,10)/\AA.cellsOf 272=20/\JG AA 272=some (some 20)/\FW AA 272 0=some (34,0)/\FW AA 272 1=some (34,10):=Tf
def rF:Fi AA 272=some (.agg [.int .i64 0,.int .i64 0,.int .i64 0,.int .i64 0,.int .i64 0,.int .i64 0,.int .i64 0,.int .i64 0,.int .i64 0,.int .i64 0,.int .i64 0,.int .i64 0,.int .i64 0,.int .i64 0,.int .i64 0,.int .i64 0,.int .i64 0,.int .i64 0,.int .i64 0,.int .i64 0]):=kr
def we:Ef:=hm [3,129,48,48] [8] [] []
def ARP:we.lv=Fu [[0,1],[0,7],[4,5],[4,5]]:=Fy rfl dk
@[go_sem] def Af2:=F5 we
def ARO:we.tk=[8]/\we.mt=[]/\we.pc=[]:=⟨rfl,rfl,rfl⟩
def ARQ:FK AA 105 f105 we:=F0 func105
def vf:Ef:=hm [12,76,204,108,4194380,16,76,16] [] [] []
def AOS:vf.lv=Fu [[2,3],[2,3,6],[2,3,6,7],[2,3,5,6],[2,3,6,22],[4],[2,3,6],[4]]:=Fy rfl dk
@[go_sem] def AfD:=F5 vf
def AOR:vf.tk=[]/\vf.mt=[]/\vf.pc=[]:=⟨rfl,rfl,rfl⟩
def AOT:FK AA 175 f175 vf:=F0 func175
def ur:Ef:=hm [2,4] [] [] []
def ALv:ur.lv=Fu [[1],[2]]:=Fy rfl dk
@[go_sem] def AeW:=F5 ur
def ALu:ur.tk=[]/\ur.mt=[]/\ur.pc=[]:=⟨rfl,rfl,rfl⟩
def ALw:FK AA 248 f248 ur:=F0 func248
def ut:Ef:=hm [92,220,80,64] [] [] [17,19,24]
def ALy:ut.lv=Fu [[2,3,4,6],[2,3,4,6,7],[4,6],[6]]:=Fy rfl dk
@[go_sem] def AeX:=F5 ut
def ALx:ut.tk=[]/\ut.mt=[]/\ut.pc=[17,19,24]:=⟨rfl,rfl,rfl⟩
def ALz:FK AA 247 f247 ut:=F0 func247
def vd:Ef:=hm [78,202,64] [] [] [9,20,26]
def AOM:vd.lv=Fu [[1,2,3,6],[1,3,6,7],[6]]:=Fy rfl dk
@[go_sem] def AfB:=F5 vd
def AOL:vd.tk=[]/\vd.mt=[]/\vd.pc=[9,20,26]:=⟨rfl,rfl,rfl⟩
def AON:FK AA 177 f177 vd:=F0 func177
def ve:Ef:=hm [22,16] [] [] [9]
def AOP:ve.lv=Fu [[1,2,4],[4]]:=Fy rfl dk
@[go_sem] def AfC:=F5 ve
def AOO:ve.tk=[]/\ve.mt=[]/\ve.pc=[9]:=⟨rfl,rfl,rfl⟩
def AOQ:FK AA 176 f176 ve:=F0 func176
def vc:Ef:=hm [12,16] [] [] [11,14]
def AOJ:vc.lv=Fu [[2,3],[4]]:=Fy rfl dk
@[go_sem] def AfA:=F5 vc
def AOI:vc.tk=[]/\vc.mt=[]/\vc.pc=[11,14]:=⟨rfl,rfl,rfl⟩
def AOK:FK AA 178 f178 vc:=F0 func178
def vh:Ef:=hm [124,4220,12412,12412,128,528508,128,2147487864,128,17592186048632,17592186044536,0x1000000000000068,128,128,352,0x400000000000000000160,0xc00000000000000000160,128,0x80000000000000000000160,128,1056,128] [] [42,56,73] [42,56,73,78,88,90,98,100,103]
def AOY:vh.lv=Fu [[2,3,4,5,6],[2,3,4,5,6,12],[2,3,4,5,6,12,13],[2,3,4,5,6,12,13],[7],[2,3,4,5,6,12,19],[7],[3,4,5,6,12,31],[7],[3,4,5,6,12,44],[3,4,5,6,44],[3,5,6,60],[7],[7],[5,6,8],[5,6,8,82],[5,6,8,82,83],[7],[5,6,8,91],[7],[5,10],[7]]:=Fy rfl dk
@[go_sem] def AfF:=F5 vh
def AOX:vh.tk=[]/\vh.mt=[42,56,73]/\vh.pc=[42,56,73,78,88,90,98,100,103]:=⟨rfl,rfl,rfl⟩
def Ni:FK AA 173 f173 vh:=F0 func173
def vY:Ef:=hm [28,92,220,124,92,92,16] [] [] []
def AOE:vY.lv=Fu [[2,3,4],[2,3,4,6],[2,3,4,6,7],[2,3,4,5,6],[2,3,4,6],[2,3,4,6],[4]]:=Fy rfl dk
@[go_sem] def Ae8:=F5 vY
def AOD:vY.tk=[]/\vY.mt=[]/\vY.pc=[]:=⟨rfl,rfl,rfl⟩
def AOF:FK AA 180 f180 vY:=F0 func180
def vX:Ef:=hm [22,16] [] [] [7]
def AOB:vX.lv=Fu [[1,2,4],[4]]:=Fy rfl dk
@[go_sem] def Ae7:=F5 vX
def AOA:vX.tk=[]/\vX.mt=[]/\vX.pc=[7]:=⟨rfl,rfl,rfl⟩
def AOC:FK AA 181 f181 vX:=F0 func181
def vV:Ef:=hm [3,4097,48,48] [13] [] []
def AN9:vV.lv=Fu [[0,1],[0,12],[4,5],[4,5]]:=Fy rfl dk
@[go_sem] def Ae6:=F5 vV
def AN8:vV.tk=[13]/\vV.mt=[]/\vV.pc=[]:=⟨rfl,rfl,rfl⟩
def mu:FK AA 182 f182 vV:=F0 func182
def wX:Ef:=hm [3,35,99,2115,4096,16,16,8195,16,65539,16,524288,16,16] [] [] [8,10]
def AQw:wX.lv=Fu [[0,1],[0,1,5],[0,1,5,6],[0,1,6,11],[12],[4],[4],[0,1,13],[4],[0,1,16],[4],[19],[4],[4]]:=Fy rfl dk
@[go_sem] def Afr:=F5 wX
def AQv:wX.tk=[]/\wX.mt=[]/\wX.pc=[8,10]:=⟨rfl,rfl,rfl⟩
def AQx:FK AA 117 f117 wX:=F0 func117
def h66:Ef:=hm [3,3587,7683,3683,527971,16,3779,3843,268439299,16,3587,34359738368,16,16] [31,33] [] [26]
def AW7:h66.lv=Fu [[0,1],[0,1,9,10,11],[0,1,9,10,11,12],[0,1,5,6,9,10,11],[0,1,5,6,9,10,11,19],[4],[0,1,6,7,9,10,11],[0,1,8,9,10,11],[0,1,8,9,10,11,28],[4],[0,1,9,10,11],[35],[4],[4]]:=Fy rfl dk
@[go_sem] def AgX:=F5 h66
def AW6:h66.tk=[31,33]/\h66.mt=[]/\h66.pc=[26]:=⟨rfl,rfl,rfl⟩
def AG4:FK AA 66 f66 h66:=F0 func66
def uK:Ef:=hm [12,16] [] [5,6] []
def AKJ:uK.lv=Fu [[2,3],[4]]:=Fy rfl dk
@[go_sem] def Ad2:=F5 uK
def AKI:uK.tk=[]/\uK.mt=[5,6]/\uK.pc=[]:=⟨rfl,rfl,rfl⟩
def AKK:FK AA 299 f299 uK:=F0 func299
def M5:Ef:=hx [8199,7,23,2097159,23,33554439,23,55,1073741879,55,137438953511,39,70368744177671] [] [] [] [20] [] [9,11]
def AKO:M5.lv=Fu [[0,1,2,13],[0,1,2],[0,1,2,4],[0,1,2,21],[0,1,2,4],[0,1,2,25],[0,1,2,4],[0,1,2,4,5],[0,1,2,4,5,30],[0,1,2,4,5],[0,1,2,5,37],[0,1,2,5],[0,1,2,46]]:=Fy rfl dk
def AKQ(k:Nat):M5.ct k=none:=rfl
def AKL(k:Nat):M5.at k=[]:=rfl
def AKM:M5.dn 0=false/\M5.dn 1=false/\M5.dn 2=false/\M5.dn 3=false/\M5.dn 4=false/\M5.dn 5=false/\M5.dn 6=false/\M5.dn 7=false/\M5.dn 8=false/\M5.dn 9=true/\M5.dn 10=false/\M5.dn 11=true/\M5.dn 12=false:=dk
def AKN:M5.tk=[]/\M5.mt=[]/\M5.pc=[20]:=⟨rfl,rfl,rfl⟩
def AKP:FK AA 298 f298 M5:=F0 func298
def ALt:Ef:=hm [12,16] [] [] []
def ALr:ALt.lv=Fu [[2,3],[4]]:=Fy rfl dk
@[go_sem] def AeV:=F5 ALt
def ALs:FK AA 249 f249 ALt:=F0 func249
def gK:Ef:=hm [3,35,544,96,1,16] [7,8,11] [5,14] []
def AN6:gK.lv=Fu [[0,1],[0,1,5],[5,9],[5,6],[0],[4]]:=Fy rfl dk
@[go_sem] def Ae5:=F5 gK
def AN5:gK.tk=[7,8,11]/\gK.mt=[5,14]/\gK.pc=[]:=⟨rfl,rfl,rfl⟩
def AN7:FK AA 183 f183 gK:=F0 func183
def OH:Ef:=hx [21,277,789,115473,246545,117009,127249,115473,549755929361,115473,192] [14,31,32,41] [27] [(6,[(8,none,true)])] [27] [] []
def AN2:OH.lv=Fu [[0,2,4],[0,2,4,8],[0,2,4,8,9],[0,4,8,9,14,15,16],[0,4,8,9,14,15,16,17],[0,4,8,11,14,15,16],[0,4,8,12,13,14,15,16],[0,4,8,9,14,15,16],[0,4,8,9,14,15,16,39],[0,4,8,9,14,15,16],[6,7]]:=Fy rfl dk
def AN4(k:Nat):OH.ct k=none:=rfl
def ANz:OH.at 0=[]/\OH.at 1=[]/\OH.at 2=[]/\OH.at 3=[]/\OH.at 4=[]/\OH.at 5=[]/\OH.at 6=[(8,none,true)]/\OH.at 7=[]/\OH.at 8=[]/\OH.at 9=[]/\OH.at 10=[]:=dk
def AN0(k:Nat):OH.dn k=false:=AG rfl rfl
def AN1:OH.tk=[14,31,32,41]/\OH.mt=[27]/\OH.pc=[27]:=⟨rfl,rfl,rfl⟩
def AN3:FK AA 184 f184 OH:=F0 func184
def uJ:Ef:=hm [3,387,899,419,65955,16,387,16] [] [] []
def AKH:uJ.lv=Fu [[0,1],[0,1,7,8],[0,1,7,8,9],[0,1,5,7,8],[0,1,5,7,8,16],[4],[0,1,7,8],[4]]:=Fy rfl dk
@[go_sem] def Ad1:=F5 uJ
def AKG:uJ.tk=[]/\uJ.mt=[]/\uJ.pc=[]:=⟨rfl,rfl,rfl⟩
def ABc:FK AA 300 f300 uJ:=F0 func300
def uq:Ef:=hm [3,35,4131,16,99,524387,99,227,536871139,99,99,33,16] [13,39] [] []
def ALq:uq.lv=Fu [[0,1],[0,1,5],[0,1,5,12],[4],[0,1,5,6],[0,1,5,6,19],[0,1,5,6],[0,1,5,6,7],[0,1,5,6,7,29],[0,1,5,6],[0,1,5,6],[0,5],[4]]:=Fy rfl dk
@[go_sem] def AeU:=F5 uq
def ALp:uq.tk=[13,39]/\uq.mt=[]/\uq.pc=[]:=⟨rfl,rfl,rfl⟩
def ABf:FK AA 250 f250 uq:=F0 func250
def uI:Ef:=hm [21,277,1813,132885,3861,2147487509,1813,1813,192] [41] [] [30,46]
def AKE:uI.lv=Fu [[0,2,4],[0,2,4,8],[0,2,4,8,9,10],[0,2,4,8,9,10,17],[0,2,4,8,9,10,11],[0,2,4,8,9,10,11,31],[0,2,4,8,9,10],[0,2,4,8,9,10],[6,7]]:=Fy rfl dk
@[go_sem] def Ad0:=F5 uI
def AKD:uI.tk=[41]/\uI.mt=[]/\uI.pc=[30,46]:=⟨rfl,rfl,rfl⟩
def AKF:FK AA 301 f301 uI:=F0 func301
def uo:Ef:=hm [9,64,16] [8] [] [10]
def ALk:uo.lv=Fu [[0,3],[6],[4]]:=Fy rfl dk
@[go_sem] def AeS:=F5 uo
def ALj:uo.tk=[8]/\uo.mt=[]/\uo.pc=[10]:=⟨rfl,rfl,rfl⟩
def ALl:FK AA 252 f252 uo:=F0 func252
def up:Ef:=hm [6,8] [] [] [6]
def ALn:up.lv=Fu [[1,2],[3]]:=Fy rfl dk
@[go_sem] def AeT:=F5 up
def ALm:up.tk=[]/\up.mt=[]/\up.pc=[6]:=⟨rfl,rfl,rfl⟩
def ALo:FK AA 251 f251 up:=F0 func251
def OG:Ef:=hx [49,529,3601,3601,13841,11793,11793,274877910545,448,2199023259153,448] [22,26] [] [(5,[(11,none,true)])] [] [] []
def ANw:OG.lv=Fu [[0,4,5],[0,4,9],[0,4,9,10,11],[0,4,9,10,11],[0,4,9,10,12,13],[0,4,9,10,11,13],[0,4,9,10,11,13],[0,4,9,10,11,38],[6,7,8],[0,4,9,10,11,41],[6,7,8]]:=Fy rfl dk
def ANy(k:Nat):OG.ct k=none:=rfl
def ANt:OG.at 0=[]/\OG.at 1=[]/\OG.at 2=[]/\OG.at 3=[]/\OG.at 4=[]/\OG.at 5=[(11,none,true)]/\OG.at 6=[]/\OG.at 7=[]/\OG.at 8=[]/\OG.at 9=[]/\OG.at 10=[]:=dk
def ANu(k:Nat):OG.dn k=false:=AG rfl rfl
def ANv:OG.tk=[22,26]/\OG.mt=[]/\OG.pc=[]:=⟨rfl,rfl,rfl⟩
def ANx:FK AA 185 f185 OG:=F0 func185
def vZ:Ef:=hm [60,1048636,3145788,2147483680,192,192,17180917820,304,192,0x4000000100034,3124,15360,192,0x10000000000000000000034,49172,0x100000000000000000000004014,192,192,327680,192] [78,79,110,125] [30,62,75,100,111,121] [30,40,46,48,62,75,85,100]
def AOH:vZ.lv=Fu [[2,3,4,5],[2,3,4,5,20],[2,3,4,5,20,21],[5,31],[6,7],[6,7],[2,3,4,5,20,34],[4,5,8],[6,7],[2,4,5,20,50],[2,4,5,10,11],[10,11,12,13],[6,7],[2,4,5,88],[2,4,14,15],[2,4,14,104],[6,7],[6,7],[16,18],[6,7]]:=Fy rfl dk
@[go_sem] def Ae9:=F5 vZ
def AOG:vZ.tk=[78,79,110,125]/\vZ.mt=[30,62,75,100,111,121]/\vZ.pc=[30,40,46,48,62,75,85,100]:=⟨rfl,rfl,rfl⟩
def LJ:FK AA 179 f179 vZ:=F0 func179
def wd:Ef:=hm [12,44,36,32,16] [] [] []
def ARM:wd.lv=Fu [[2,3],[2,3,5],[2,5],[5],[4]]:=Fy rfl dk
@[go_sem] def Af1:=F5 wd
def ARL:wd.tk=[]/\wd.mt=[]/\wd.pc=[]:=⟨rfl,rfl,rfl⟩
def ARN:FK AA 106 f106 wd:=F0 func106
def h53:Ef:=hx [105,768] [10] [12,18] [] [18,21] [] [2006,2007]
def AXq:h53.lv=Fu [[0,3,5,6],[8,9]]:=Fy rfl dk
def AXr(k:Nat):h53.ct k=none:=rfl
def AXn(k:Nat):h53.at k=[]:=rfl
def AXo:h53.dn 0=false/\h53.dn 1=true:=dk
def AXp:h53.tk=[10]/\h53.mt=[12,18]/\h53.pc=[18,21]:=⟨rfl,rfl,rfl⟩
def AG6:FK AA 53 f53 h53:=F0 func53
def vN:Ef:=hm [1,4] [] [] []
def ANa:vN.lv=Fu [[0],[2]]:=Fy rfl dk
@[go_sem] def Aey:=F5 vN
def ANZ:vN.tk=[]/\vN.mt=[]/\vN.pc=[]:=⟨rfl,rfl,rfl⟩
def ANb:FK AA 192 f192 vN:=F0 func192
def AVY:AA.underlying 32=some (.slice 49)/\mf AA 32=true/\AA.cellsOf 36=11/\JG AA 36=some (some 11)/\Gj AA 36=true/\FW AA 36 0=some (34,0)/\FW AA 36 1=some (3,10)/\AA.underlying 39=some (.slice 52)/\AA.cellsOf 45=1/\JG AA 45=some none/\AA.underlying 45=some (.slice 50)/\Fi AA 45=some (.sl (some 1) []):=Tf
def xN:AA.cellsOf 49=1/\AA.bytesOf 49=24/\JG AA 49=some none/\AA.underlying 49=some (.slice 107)/\mf AA 49=true/\Gj AA 49=true/\AA.cellsOf 52=12/\AA.bytesOf 52=112/\JG AA 52=some (some 12)/\Gj AA 52=true/\KK AA 52 = .struct [(0,1),(1,10),(11,1)]/\FW AA 52 0=some (3,0):=Tf
def nF:FW AA 52 1=some (34,1)/\FW AA 52 2=some (50,11)/\AA.underlying 57=some (.slice 36)/\AA.cellsOf 78=1/\JG AA 78=some none/\AA.underlying 78=some (.slice 80)/\Fi AA 78=some (.sl (some 12) [])/\AA.cellsOf 80=12/\AA.bytesOf 80=112/\JG AA 80=some (some 12)/\Gj AA 80=true/\KK AA 80 = .struct [(0,1),(1,10),(11,1)]:=Tf
def nD:FW AA 80 0=some (3,0)/\FW AA 80 1=some (34,1)/\FW AA 80 2=some (50,11)/\JG AA 148=some none/\AA.cellsOf 149=1/\JG AA 149=some none/\Fi AA 149=some (.nilf)/\AA.underlying 158=some (.slice 4)/\AA.underlying 162=some (.slice 233)/\AA.cellsOf 199=1/\JG AA 199=some none/\JG AA 200=some none:=Tf
def ni:AA.cellsOf 201=7/\AA.underlying 201=some (.array 7 199)/\KK AA 201 = .array 1/\Fi AA 201=some (.agg [.nilf,.nilf,.nilf,.nilf,.nilf,.nilf,.nilf])/\KK AA 205 = .struct [(0,1),(1,6),(7,1),(8,10),(18,1),(19,4),(23,1)]/\FW AA 205 0=some (27,0)/\FW AA 205 1=some (126,1)/\FW AA 205 2=some (49,7)/\FW AA 205 3=some (34,8)/\FW AA 205 4=some (3,18)/\FW AA 205 5=some (107,19)/\FW AA 205 6=some (4,23):=Tf
def AIQ:JG AA 282=some none:=kr
def h39:Ef:=hm [2,10,1073741826,4,18,34359738386,18,50,35184372088850,4,66,0x4000000000042,66,194,0x2000000000000042,4,4] [] [] [10,43,59]
def AX6:h39.lv=Fu [[1],[1,3],[1,30],[2],[1,4],[1,4,35],[1,4],[1,4,5],[1,4,45],[2],[1,6],[1,6,50],[1,6],[1,6,7],[1,6,61],[2],[2]]:=Fy rfl dk
@[go_sem] def Agn:=F5 h39
def AX5:h39.tk=[]/\h39.mt=[]/\h39.pc=[10,43,59]:=⟨rfl,rfl,rfl⟩
def AG7:FK AA 39 f39 h39:=F0 func39
def h73:Ef:=hm [6,38,102,2097254,16,294,536871206,16,17592186044454,16,550,562949953421862,550,1574,0x40000000000626,1574,3622,0x8000000000000e26,3622,0x20000000000000000626,16,16] [] [] [19,25,75]
def AWl:h73.lv=Fu [[1,2],[1,2,5],[1,2,5,6],[1,2,5,6,21],[4],[1,2,5,8],[1,2,5,8,29],[4],[1,2,5,44],[4],[1,2,5,9],[1,2,5,9,49],[1,2,5,9],[1,2,5,9,10],[1,2,5,9,10,54],[1,2,5,9,10],[1,2,5,9,10,11],[1,2,5,9,10,11,63],[1,2,5,9,10,11],[1,2,5,9,10,77],[4],[4]]:=Fy rfl dk
@[go_sem] def AgR:=F5 h73
def AWk:h73.tk=[]/\h73.mt=[]/\h73.pc=[19,25,75]:=⟨rfl,rfl,rfl⟩
def AWm:FK AA 73 f73 h73:=F0 func73
def wJ:Ef:=hm [6,70,2118,70,2097222,48,48] [] [] []
def AP8:wJ.lv=Fu [[1,2],[1,2,6],[1,2,6,11],[1,2,6],[1,2,6,21],[4,5],[4,5]]:=Fy rfl dk
@[go_sem] def Afd:=F5 wJ
def AP7:wJ.tk=[]/\wJ.mt=[]/\wJ.pc=[]:=⟨rfl,rfl,rfl⟩
def AP9:FK AA 133 f133 wJ:=F0 func133
def wI:Ef:=hm [6,16] [] [] []
def AP5:wI.lv=Fu [[1,2],[4]]:=Fy rfl dk
@[go_sem] def Afc:=F5 wI
def AP4:wI.tk=[]/\wI.mt=[]/\wI.pc=[]:=⟨rfl,rfl,rfl⟩
def AP6:FK AA 134 f134 wI:=F0 func134
def h74:Ef:=hm [12,108,492,2147483820,16,684,1708,0x40000000000000c,16,2060,0x2000000000000080c,16,0x40000000000000000000000000000,16,16] [] [] [16,23,39,47,63]
def AWi:h74.lv=Fu [[2,3],[2,3,5,6],[2,3,5,6,7,8],[2,3,5,7,31],[4],[2,3,5,7,9],[2,3,5,7,9,10],[2,3,58],[4],[2,3,11],[2,3,11,65],[4],[114],[4],[4]]:=Fy rfl dk
@[go_sem] def AgQ:=F5 h74
def AWh:h74.tk=[]/\h74.mt=[]/\h74.pc=[16,23,39,47,63]:=⟨rfl,rfl,rfl⟩
def AWj:FK AA 74 f74 h74:=F0 func74
def Xh:Ef:=hx [6,38,100,228,1048804,228,484,134218212,484,996,0x80000000000003e4,996,484,16] [67,71] [] [(13,[(4,none,false)])] [38] [] []
def AWe:Xh.lv=Fu [[1,2],[1,2,5],[2,5,6],[2,5,6,7],[2,5,6,7,20],[2,5,6,7],[2,5,6,7,8],[2,5,6,7,8,27],[2,5,6,7,8],[2,5,6,7,8,9],[2,5,6,7,8,9,63],[2,5,6,7,8,9],[2,5,6,7,8],[4]]:=Fy rfl dk
def AWg(k:Nat):Xh.ct k=none:=rfl
def AWb:Xh.at 0=[]/\Xh.at 1=[]/\Xh.at 2=[]/\Xh.at 3=[]/\Xh.at 4=[]/\Xh.at 5=[]/\Xh.at 6=[]/\Xh.at 7=[]/\Xh.at 8=[]/\Xh.at 9=[]/\Xh.at 10=[]/\Xh.at 11=[]/\Xh.at 12=[]/\Xh.at 13=[(4,none,false)]:=dk
def AWc(k:Nat):Xh.dn k=false:=AG rfl rfl
def AWd:Xh.tk=[67,71]/\Xh.mt=[]/\Xh.pc=[38]:=⟨rfl,rfl,rfl⟩
def AWf:FK AA 75 f75 Xh:=F0 func75
def h40:Ef:=hm [2,18,8210,12,18,524306,12,1073741826,12,34,34359738402,34,50,4398046511154,12,66,562949953421378,66,82,0x1000000000000052,12,130,0x80000000000000082,130,386,0x10000000000000000082,12,12] [73] [] [11,17,40,58,72]
def AX3:h40.lv=Fu [[1],[1,4],[1,4,13],[2,3],[1,4],[1,4,19],[2,3],[1,30],[2,3],[1,5],[1,5,35],[1,5],[1,4,5],[1,4,5,42],[2,3],[1,6],[1,6,49],[1,6],[1,4,6],[1,4,6,60],[2,3],[1,7],[1,7,67],[1,7],[1,7,8],[1,7,76],[2,3],[2,3]]:=Fy rfl dk
@[go_sem] def Agm:=F5 h40
def AX2:h40.tk=[73]/\h40.mt=[]/\h40.pc=[11,17,40,58,72]:=⟨rfl,rfl,rfl⟩
def AX4:FK AA 40 f40 h40:=F0 func40
def Lb:Ef:=hm [2,10,514,4,32,4] [] [] [7,12]
def AYy:Lb.lv=Fu [[1],[1,3],[1,9],[2],[5],[2]]:=Fy rfl dk
@[go_sem] def Ag3:=F5 Lb
def AYx:Lb.tk=[]/\Lb.mt=[]/\Lb.pc=[7,12]:=⟨rfl,rfl,rfl⟩
def AYz:FK AA 13 f13 Lb:=F0 func13
def wE:Ef:=hm [3,35,547,35,262179,16,16] [] [] []
def APh:wE.lv=Fu [[0,1],[0,1,5],[0,1,5,9],[0,1,5],[0,1,5,18],[4],[4]]:=Fy rfl dk
@[go_sem] def AfY:=F5 wE
def APg:wE.tk=[]/\wE.mt=[]/\wE.pc=[]:=⟨rfl,rfl,rfl⟩
def APi:FK AA 140 f140 wE:=F0 func140
def u5:Ef:=hm [1,9,25,153,25,25,4] [] [] []
def AMh:u5.lv=Fu [[0],[0,3],[0,3,4],[0,3,4,7],[0,3,4],[0,3,4],[2]]:=Fy rfl dk
@[go_sem] def Aeg:=F5 u5
def AMg:u5.tk=[]/\u5.mt=[]/\u5.pc=[]:=⟨rfl,rfl,rfl⟩
def AMi:FK AA 211 f211 u5:=F0 func211
def wD:Ef:=hm [28,34359738396,64,156,1099511627932,156,0x400000000000009c,64,0x1000000000000001c,0x3000000000000001c,64,0x41000000000000001c,284,0x800000000000000011c,284,0x80000000000000000000011c,64,64,0x1000000000000000000000000018,64,64] [] [] [60]
def APe:wD.lv=Fu [[2,3,4],[2,3,4,35],[6],[2,3,4,7],[2,3,4,7,40],[2,3,4,7],[2,3,4,7,62],[6],[2,3,4,64],[2,3,4,64,65],[6],[2,3,4,64,70],[2,3,4,8],[2,3,4,8,75],[2,3,4,8],[2,3,4,8,95],[6],[6],[3,4,108],[6],[6]]:=Fy rfl dk
@[go_sem] def AfX:=F5 wD
def APd:wD.tk=[]/\wD.mt=[]/\wD.pc=[60]:=⟨rfl,rfl,rfl⟩
def APf:FK AA 141 f141 wD:=F0 func141
def h61:Ef:=hm [3,35,32803,35,67108899,16,34359738403,16,1099511627779,16,35184372088832,16,16] [41,43] [] []
def AXL:h61.lv=Fu [[0,1],[0,1,5],[0,1,5,15],[0,1,5],[0,1,5,26],[4],[0,1,5,35],[4],[0,1,40],[4],[45],[4],[4]]:=Fy rfl dk
@[go_sem] def Agc:=F5 h61
def AXK:h61.tk=[41,43]/\h61.mt=[]/\h61.pc=[]:=⟨rfl,rfl,rfl⟩
def AXM:FK AA 61 f61 h61:=F0 func61
def wC:Ef:=hm [12,524,16,16396,16,16] [] [] [19]
def APb:wC.lv=Fu [[2,3],[2,3,9],[4],[2,3,14],[4],[4]]:=Fy rfl dk
@[go_sem] def AfW:=F5 wC
def APa:wC.tk=[]/\wC.mt=[]/\wC.pc=[19]:=⟨rfl,rfl,rfl⟩
def APc:FK AA 142 f142 wC:=F0 func142
def wB:Ef:=hm [3,35,99,1123,99,524387,99,16] [] [] []
def APY:wB.lv=Fu [[0,1],[0,1,5],[0,1,5,6],[0,1,5,6,10],[0,1,5,6],[0,1,5,6,19],[0,1,5,6],[4]]:=Fy rfl dk
@[go_sem] def AfV:=F5 wB
def APX:wB.tk=[]/\wB.mt=[]/\wB.pc=[]:=⟨rfl,rfl,rfl⟩
def APZ:FK AA 143 f143 wB:=F0 func143
def h77:Ef:=hm [3,35,2083,35,99,4194403,16,163,68719476771,16,0x8000000000023,16,0x2000000000000023,16,16] [] [] [20,34,49,60]
def AWU:h77.lv=Fu [[0,1],[0,1,5],[0,1,5,11],[0,1,5],[0,1,5,6],[0,1,5,6,22],[4],[0,1,5,7],[0,1,5,36],[4],[0,1,5,51],[4],[0,1,5,61],[4],[4]]:=Fy rfl dk
@[go_sem] def AgP:=F5 h77
def wA:Ef:=hm [3,35,99,227,2275,227,8388835,163,227,8589934819,227,4398046511138,32,16] [24,34,43,47] [] []
def APV:wA.lv=Fu [[0,1],[0,1,5],[0,1,5,6],[0,1,5,6,7],[0,1,5,6,7,11],[0,1,5,6,7],[0,1,5,6,7,23],[0,1,5,7],[0,1,5,6,7],[0,1,5,6,7,33],[0,1,5,6,7],[1,5,42],[5],[4]]:=Fy rfl dk
@[go_sem] def AfU:=F5 wA
def APU:wA.tk=[24,34,43,47]/\wA.mt=[]/\wA.pc=[]:=⟨rfl,rfl,rfl⟩
def APW:FK AA 144 f144 wA:=F0 func144
def h78:Ef:=hm [3,35,99,65635,99,33554531,99,163,419,137438953891,419,931,1955,4003,281474976714659,4003,8099,0x80000000000001fa3,8099,8099,0x400000000000000001fa3,7075,2979,4003,419,16] [26,89,93] [] [33,70,75,78]
def AWT:h78.lv=Fu [[0,1],[0,1,5],[0,1,5,6],[0,1,5,6,16],[0,1,5,6],[0,1,5,6,25],[0,1,5,6],[0,1,5,7],[0,1,5,7,8],[0,1,5,7,8,37],[0,1,5,7,8],[0,1,5,7,8,9],[0,1,5,7,8,9,10],[0,1,5,7,8,9,10,11],[0,1,5,7,8,9,10,11,48],[0,1,5,7,8,9,10,11],[0,1,5,7,8,9,10,11,12],[0,1,5,7,8,9,10,11,12,67],[0,1,5,7,8,9,10,11,12],[0,1,5,7,8,9,10,11,12],[0,1,5,7,8,9,10,11,12,82],[0,1,5,7,8,9,11,12],[0,1,5,7,8,9,11],[0,1,5,7,8,9,10,11],[0,1,5,7,8],[4]]:=Fy rfl dk
@[go_sem] def AgO:=F5 h78
def h41:Ef:=hm [7,135,262151,64,256,64] [19,20,22] [] [11,21,23]
def AX1:h41.lv=Fu [[0,1,2],[0,1,2,7],[0,1,2,18],[6],[8],[6]]:=Fy rfl dk
@[go_sem] def Agl:=F5 h41
def Nj:Ef:=hm [6,4102,16,38,65574,38,102,2199023255590,16,16] [] [] [31]
def AYw:Nj.lv=Fu [[1,2],[1,2,12],[4],[1,2,5],[1,2,5,16],[1,2,5],[1,2,5,6],[1,2,5,41],[4],[4]]:=Fy rfl dk
@[go_sem] def Ag2:=F5 Nj
def h15:Ef:=hm [2,10,4] [] [] [6]
def AYu:h15.lv=Fu [[1],[1,3],[2]]:=Fy rfl dk
@[go_sem] def Ag1:=F5 h15
def AYt:h15.tk=[]/\h15.mt=[]/\h15.pc=[6]:=⟨rfl,rfl,rfl⟩
def AYv:FK AA 15 f15 h15:=F0 func15
def h4:Ef:=hm [14,131076,64,1835008,3932160,1835264,68943872,64,1835008,64] [14,18] [] [10,15,25]
def AdT:h4.lv=Fu [[1,2,3],[2,17],[6],[18,19,20],[18,19,20,21],[8,18,19,20],[18,19,20,26],[6],[18,19,20],[6]]:=Fy rfl dk
@[go_sem] def AiF:=F5 h4
def h24:Ef:=hm [6,1] [3] [] []
def AYr:h24.lv=Fu [[1,2],[0]]:=Fy rfl dk
@[go_sem] def Ag0:=F5 h24
def AYq:h24.tk=[3]/\h24.mt=[]/\h24.pc=[]:=⟨rfl,rfl,rfl⟩
def AYs:FK AA 24 f24 h24:=F0 func24
def h26:Ef:=hm [1,17,4,4] [6] [] []
def AYm:h26.lv=Fu [[0],[0,4],[2],[2]]:=Fy rfl dk
@[go_sem] def Agy:=F5 h26
def uH:Ef:=hm [1,17,4,4] [6] [5,7] []
def AKB:uH.lv=Fu [[0],[0,4],[2],[2]]:=Fy rfl dk
@[go_sem] def Adz:=F5 uH
def AKA:uH.tk=[6]/\uH.mt=[5,7]/\uH.pc=[]:=⟨rfl,rfl,rfl⟩
def AKC:FK AA 302 f302 uH:=F0 func302
def vR:Ef:=hm [3,387,899,419,65955,16,387,16] [] [] []
def ANj:vR.lv=Fu [[0,1],[0,1,7,8],[0,1,7,8,9],[0,1,5,7,8],[0,1,5,7,8,16],[4],[0,1,7,8],[4]]:=Fy rfl dk
@[go_sem] def Ae1:=F5 vR
def ANi:vR.tk=[]/\vR.mt=[]/\vR.pc=[]:=⟨rfl,rfl,rfl⟩
def mr:FK AA 189 f189 vR:=F0 func189
def uG:Ef:=hm [3,35,4131,16,99,524387,99,227,536871139,99,99,33,16] [13,39] [] []
def AJ7:uG.lv=Fu [[0,1],[0,1,5],[0,1,5,12],[4],[0,1,5,6],[0,1,5,6,19],[0,1,5,6],[0,1,5,6,7],[0,1,5,6,7,29],[0,1,5,6],[0,1,5,6],[0,5],[4]]:=Fy rfl dk
@[go_sem] def Adx:=F5 uG
def AJ6:uG.tk=[13,39]/\uG.mt=[]/\uG.pc=[]:=⟨rfl,rfl,rfl⟩
def ABa:FK AA 304 f304 uG:=F0 func304
def uF:Ef:=hm [6,8] [] [] []
def AJ4:uF.lv=Fu [[1,2],[3]]:=Fy rfl dk
@[go_sem] def Adw:=F5 uF
def AJ3:uF.tk=[]/\uF.mt=[]/\uF.pc=[]:=⟨rfl,rfl,rfl⟩
def AJ5:FK AA 305 f305 uF:=F0 func305
def uj:Ef:=hm [9,16] [5] [] []
def ALe:uj.lv=Fu [[0,3],[4]]:=Fy rfl dk
@[go_sem] def AeQ:=F5 uj
def ALd:uj.tk=[5]/\uj.mt=[]/\uj.pc=[]:=⟨rfl,rfl,rfl⟩
def ALf:FK AA 254 f254 uj:=F0 func254
def ui:Ef:=hm [6,8] [] [] []
def ALb:ui.lv=Fu [[1,2],[3]]:=Fy rfl dk
@[go_sem] def AeP:=F5 ui
def ALa:ui.tk=[]/\ui.mt=[]/\ui.pc=[]:=⟨rfl,rfl,rfl⟩
def ALc:FK AA 255 f255 ui:=F0 func255
def vS:Ef:=hm [9,16] [5] [] []
def ANl:vS.lv=Fu [[0,3],[4]]:=Fy rfl dk
@[go_sem] def Ae2:=F5 vS
def ANk:vS.tk=[5]/\vS.mt=[]/\vS.pc=[]:=⟨rfl,rfl,rfl⟩
def ANm:FK AA 188 f188 vS:=F0 func188
def h64:Ef:=hm [1,9,456,968,488,16872,4,456,4] [6] [] []
def AXC:h64.lv=Fu [[0],[0,3],[3,6,7,8],[3,6,7,8,9],[3,5,6,7,8],[3,5,6,7,8,14],[2],[3,6,7,8],[2]]:=Fy rfl dk
@[go_sem] def AgZ:=F5 h64
def AXB:h64.tk=[6]/\h64.mt=[]/\h64.pc=[]:=⟨rfl,rfl,rfl⟩
def AXD:FK AA 64 f64 h64:=F0 func64
def h65:Ef:=hm [3,35,99,2115,4096,16,16,8195,16,65539,16,524288,16,16] [] [] [8,10]
def AW9:h65.lv=Fu [[0,1],[0,1,5],[0,1,5,6],[0,1,6,11],[12],[4],[4],[0,1,13],[4],[0,1,16],[4],[19],[4],[4]]:=Fy rfl dk
@[go_sem] def AgY:=F5 h65
def AW8:h65.tk=[]/\h65.mt=[]/\h65.pc=[8,10]:=⟨rfl,rfl,rfl⟩
def AXA:FK AA 65 f65 h65:=F0 func65
def h37:Ef:=hm [12,16] [] [] [9,14,16]
def AYB:h37.lv=Fu [[2,3],[4]]:=Fy rfl dk
@[go_sem] def Agp:=F5 h37
def AYA:h37.tk=[]/\h37.mt=[]/\h37.pc=[9,14,16]:=⟨rfl,rfl,rfl⟩
def AYC:FK AA 37 f37 h37:=F0 func37
def Pq:Ef:=hm [21,277,1813,132885,3861,2147487509,1813,1813,192] [41] [] [30,46]
def ALY:Pq.lv=Fu [[0,2,4],[0,2,4,8],[0,2,4,8,9,10],[0,2,4,8,9,10,17],[0,2,4,8,9,10,11],[0,2,4,8,9,10,11,31],[0,2,4,8,9,10],[0,2,4,8,9,10],[6,7]]:=Fy rfl dk
@[go_sem] def AeO:=F5 Pq
def ALX:Pq.tk=[41]/\Pq.mt=[]/\Pq.pc=[30,46]:=⟨rfl,rfl,rfl⟩
def ALZ:FK AA 256 f256 Pq:=F0 func256
def vP:Ef:=hm [21,192] [8] [] [11]
def ANd:vP.lv=Fu [[0,2,4],[6,7]]:=Fy rfl dk
@[go_sem] def Aez:=F5 vP
def ANc:vP.tk=[8]/\vP.mt=[]/\vP.pc=[11]:=⟨rfl,rfl,rfl⟩
def ANe:FK AA 191 f191 vP:=F0 func191
def aW:Ef:=hm [7,7,135,65671,64,391,4194695,64,2147484039,647,643,512,64,391,0x100000000000000187,7,1,64,131,1,64] [17,23,24,44,51,55,56,81,83,87,94] [25,40,67] [67,93]
def AJ9:aW.lv=Fu [[0,1,2],[0,1,2],[0,1,2,7],[0,1,2,7,16],[6],[0,1,2,7,8],[0,1,2,7,8,22],[6],[0,1,2,7,8,31],[0,1,2,7,9],[0,1,7,9],[9],[6],[0,1,2,7,8],[0,1,2,7,8,68],[0,1,2],[0],[6],[0,1,7],[0],[6]]:=Fy rfl dk
@[go_sem] def Ady:=F5 aW
def AJ8:aW.tk=[17,23,24,44,51,55,56,81,83,87,94]/\aW.mt=[25,40,67]/\aW.pc=[67,93]:=⟨rfl,rfl,rfl⟩
def ABb:FK AA 303 f303 aW:=F0 func303
def ul:Ef:=hm [9,105,232,65704,128,16,16] [14,21,22] [25] [11]
def ALh:ul.lv=Fu [[0,3],[0,3,5,6],[3,5,6,7],[3,5,7,16],[7],[4],[4]]:=Fy rfl dk
@[go_sem] def AeR:=F5 ul
def ALg:ul.tk=[14,21,22]/\ul.mt=[25]/\ul.pc=[11]:=⟨rfl,rfl,rfl⟩
def ALi:FK AA 253 f253 ul:=F0 func253
def vU:Ef:=hm [1,2097153,4,1,4] [] [] [18,31]
def ANr:vU.lv=Fu [[0],[0,21],[2],[0],[2]]:=Fy rfl dk
@[go_sem] def Ae4:=F5 vU
def ANq:vU.tk=[]/\vU.mt=[]/\vU.pc=[18,31]:=⟨rfl,rfl,rfl⟩
def ANs:FK AA 186 f186 vU:=F0 func186
def vT:Ef:=hm [197,131141,1] [] [] [14,26,28]
def ANo:vT.lv=Fu [[0,2,6,7],[0,2,6,17],[0]]:=Fy rfl dk
@[go_sem] def Ae3:=F5 vT
def ANn:vT.tk=[]/\vT.mt=[]/\vT.pc=[14,26,28]:=⟨rfl,rfl,rfl⟩
def ANp:FK AA 187 f187 vT:=F0 func187
def m5:Ef:=hm [1,1,16777217,4,1,4] [] [] [23,36]
def ARK:m5.lv=Fu [[0],[0],[0,24],[2],[0],[2]]:=Fy rfl dk
@[go_sem] def Af0:=F5 m5
def mz:Ef:=hm [1,1,4] [] [] [12]
def ARJ:mz.lv=Fu [[0],[0],[2]]:=Fy rfl dk
@[go_sem] def Afz:=F5 mz
def wc:Ef:=hm [1,4] [] [] []
def ARH:wc.lv=Fu [[0],[2]]:=Fy rfl dk
@[go_sem] def Afy:=F5 wc
def ARG:wc.tk=[]/\wc.mt=[]/\wc.pc=[]:=⟨rfl,rfl,rfl⟩
def ARI:FK AA 109 f109 wc:=F0 func109
def my:Ef:=hm [1,1,262145,9,3758096393,8053063689,3758096425,3758096393,3758096393,9,0x40000000000009,9,0x4000000000000000001,4,0x20000000000000000001,4,1,4] [] [] [29,76,89]
def ARF:my.lv=Fu [[0],[0],[0,18],[0,3],[0,3,29,30,31],[0,3,29,30,31,32],[0,3,5,29,30,31],[0,3,29,30,31],[0,3,29,30,31],[0,3],[0,3,54],[0,3],[0,74],[2],[0,77],[2],[0],[2]]:=Fy rfl dk
@[go_sem] def Afx:=F5 my
def vQ:Ef:=hm [14,16] [] [] []
def ANg:vQ.lv=Fu [[1,2,3],[4]]:=Fy rfl dk
@[go_sem] def Ae0:=F5 vQ
def ANf:vQ.tk=[]/\vQ.mt=[]/\vQ.pc=[]:=⟨rfl,rfl,rfl⟩
def ANh:FK AA 190 f190 vQ:=F0 func190
def mw:Ef:=hm [2,10,34,66,34359738434,4,7696581394498,0xf0000000042,7696581394882,7696581394498,7696581394498,4] [] [] [19,27,33,60]
def ARE:mw.lv=Fu [[1],[1,3],[1,5],[1,6],[1,6,35],[2],[1,6,40,41,42],[1,6,40,41,42,43],[1,6,7,8,40,41,42],[1,6,40,41,42],[1,6,40,41,42],[2]]:=Fy rfl dk
@[go_sem] def Afw:=F5 mw
def M6:Ef:=hx [1,25,262169,25,57,4503599627370553,9,9,73,0x80000000000000000000049,65,4] [] [] [] [100] [] [7]
def ARC:M6.lv=Fu [[0],[0,3,4],[0,3,4,18],[0,3,4],[0,3,4,5],[0,3,4,5,52],[0,3],[0,3],[0,3,6],[0,3,6,91],[0,6],[2]]:=Fy rfl dk
def ARD(k:Nat):M6.ct k=none:=rfl
def ARA(k:Nat):M6.at k=[]:=rfl
def ARB:M6.dn 0=false/\M6.dn 1=false/\M6.dn 2=false/\M6.dn 3=false/\M6.dn 4=false/\M6.dn 5=false/\M6.dn 6=false/\M6.dn 7=true/\M6.dn 8=false/\M6.dn 9=false/\M6.dn 10=false/\M6.dn 11=false:=dk
def wb:Ef:=hm [35,291,57633,123169,58657,63777,67168545,192,57633,57633,192] [13,27,34] [] [22,30]
def AQ8:wb.lv=Fu [[0,1,5],[0,1,5,8],[0,5,8,13,14,15],[0,5,8,13,14,15,16],[0,5,8,10,13,14,15],[0,5,8,11,12,13,14,15],[0,5,8,11,13,14,15,26],[6,7],[0,5,8,13,14,15],[0,5,8,13,14,15],[6,7]]:=Fy rfl dk
@[go_sem] def Afv:=F5 wb
def AQ7:wb.tk=[13,27,34]/\wb.mt=[]/\wb.pc=[22,30]:=⟨rfl,rfl,rfl⟩
def AQ9:FK AA 113 f113 wb:=F0 func113
def wa:Ef:=hm [71,833,524609,192,192] [13,21] [] [15]
def AQ5:wa.lv=Fu [[0,1,2,6],[0,6,8,9],[0,6,8,19],[6,7],[6,7]]:=Fy rfl dk
@[go_sem] def Afu:=F5 wa
def AQ4:wa.tk=[13,21]/\wa.mt=[]/\wa.pc=[15]:=⟨rfl,rfl,rfl⟩
def AQ6:FK AA 114 f114 wa:=F0 func114
def aV:Ef:=hx [1365,525653,7168,9557,25941,91460,91456,72057594038019392,75072,0x400000000000010500,7168,7168] [21,31,41,60] [] [] [28,45] [] [10,11]
def AXk:aV.lv=Fu [[0,2,4,6,8,10],[0,2,4,6,8,10,19],[10,11,12],[0,2,4,6,8,10,13],[0,2,4,6,8,10,13,14],[2,6,8,10,13,14,16],[6,8,10,13,14,16],[6,8,10,13,14,16,56],[6,8,10,13,16],[8,10,16,70],[10,11,12],[10,11,12]]:=Fy rfl dk
def AXm(k:Nat):aV.ct k=none:=rfl
def AXh(k:Nat):aV.at k=[]:=rfl
def AXi:aV.dn 0=false/\aV.dn 1=false/\aV.dn 2=false/\aV.dn 3=false/\aV.dn 4=false/\aV.dn 5=false/\aV.dn 6=false/\aV.dn 7=false/\aV.dn 8=false/\aV.dn 9=false/\aV.dn 10=true/\aV.dn 11=true:=dk
def AXj:aV.tk=[21,31,41,60]/\aV.mt=[]/\aV.pc=[28,45]:=⟨rfl,rfl,rfl⟩
def AXl:FK AA 54 f54 aV:=F0 func54
def h28:Ef:=hm [279,24599,1879072789,4026556437,1879138325,1879269397,122138345493,259577298965,122138869781,122141491221,122140442645,0x400001c70034015,7168,122138345493,1879269397,0xe000000070016015,0x1e000000070016015,0xe000000070816015,0xe000000070816015,0xe000000071816015,0x4000e000000070816015,0xe000000070016015,0xe000000070016015,1879072789,7168] [28,34,49,50,59,61,71,79,85,86] [] [46,74]
def AYe:h28.lv=Fu [[0,1,2,4,8],[0,1,2,4,13,14],[0,2,4,13,14,28,29,30],[0,2,4,13,14,28,29,30,31],[0,2,4,13,14,16,28,29,30],[0,2,4,13,14,16,17,28,29,30],[0,2,4,14,16,17,28,29,30,34,35,36],[0,2,4,14,16,17,28,29,30,34,35,36,37],[0,2,4,14,16,17,19,28,29,30,34,35,36],[0,2,4,14,16,17,20,21,28,29,30,34,35,36],[0,2,4,14,16,17,21,28,29,30,34,35,36],[0,2,4,14,16,17,28,29,30,34,35,36,58],[10,11,12],[0,2,4,14,16,17,28,29,30,34,35,36],[0,2,4,13,14,16,17,28,29,30],[0,2,4,13,14,16,28,29,30,61,62,63],[0,2,4,13,14,16,28,29,30,61,62,63,64],[0,2,4,13,14,16,23,28,29,30,61,62,63],[0,2,4,13,14,16,23,28,29,30,61,62,63],[0,2,4,13,14,16,23,24,28,29,30,61,62,63],[0,2,4,13,14,16,23,28,29,30,61,62,63,78],[0,2,4,13,14,16,28,29,30,61,62,63],[0,2,4,13,14,16,28,29,30,61,62,63],[0,2,4,13,14,28,29,30],[10,11,12]]:=Fy rfl dk
@[go_sem] def Agx:=F5 h28
def AYd:h28.tk=[28,34,49,50,59,61,71,79,85,86]/\h28.mt=[]/\h28.pc=[46,74]:=⟨rfl,rfl,rfl⟩
def AYf:FK AA 28 f28 h28:=F0 func28
def h56:Ef:=hm [3,387,899,419,65955,16,387,16] [] [] []
def AXd:h56.lv=Fu [[0,1],[0,1,7,8],[0,1,7,8,9],[0,1,5,7,8],[0,1,5,7,8,16],[4],[0,1,7,8],[4]]:=Fy rfl dk
@[go_sem] def Agg:=F5 h56
def AXc:h56.tk=[]/\h56.mt=[]/\h56.pc=[]:=⟨rfl,rfl,rfl⟩
def AXe:FK AA 56 f56 h56:=F0 func56
def h58:Ef:=hx [105,256] [9] [11,17] [] [17] [] [2006,2007]
def AXW:h58.lv=Fu [[0,3,5,6],[8]]:=Fy rfl dk
def AXY(k:Nat):h58.ct k=none:=rfl
def AXT(k:Nat):h58.at k=[]:=rfl
def AXU:h58.dn 0=false/\h58.dn 1=true:=dk
def AXV:h58.tk=[9]/\h58.mt=[11,17]/\h58.pc=[17]:=⟨rfl,rfl,rfl⟩
def AXX:FK AA 58 f58 h58:=F0 func58
def h57:Ef:=hm [62,64] [] [] [30]
def AXa:h57.lv=Fu [[1,2,3,4,5],[6]]:=Fy rfl dk
@[go_sem] def Agf:=F5 h57
def AXZ:h57.tk=[]/\h57.mt=[]/\h57.pc=[30]:=⟨rfl,rfl,rfl⟩
def AXb:FK AA 57 f57 h57:=F0 func57
def h30:Ef:=hm [240,256] [] [] []
def AYY:h30.lv=Fu [[4,5,6,7],[8]]:=Fy rfl dk
@[go_sem] def Agv:=F5 h30
def AYX:h30.tk=[]/\h30.mt=[]/\h30.pc=[]:=⟨rfl,rfl,rfl⟩
def AYZ:FK AA 30 f30 h30:=F0 func30
def h31:Ef:=hm [1,17,4,4] [6] [] []
def AYV:h31.lv=Fu [[0],[0,4],[2],[2]]:=Fy rfl dk
@[go_sem] def Agu:=F5 h31
def AYU:h31.tk=[6]/\h31.mt=[]/\h31.pc=[]:=⟨rfl,rfl,rfl⟩
def AYW:FK AA 31 f31 h31:=F0 func31
def h59:Ef:=hm [3,387,899,419,65955,16,387,16] [] [] []
def AXR:h59.lv=Fu [[0,1],[0,1,7,8],[0,1,7,8,9],[0,1,5,7,8],[0,1,5,7,8,16],[4],[0,1,7,8],[4]]:=Fy rfl dk
@[go_sem] def Age:=F5 h59
def AXQ:h59.tk=[]/\h59.mt=[]/\h59.pc=[]:=⟨rfl,rfl,rfl⟩
def AXS:FK AA 59 f59 h59:=F0 func59
def h60:Ef:=hm [6,8] [] [] []
def AXO:h60.lv=Fu [[1,2],[3]]:=Fy rfl dk
@[go_sem] def Agd:=F5 h60
def AXN:h60.tk=[]/\h60.mt=[]/\h60.pc=[]:=⟨rfl,rfl,rfl⟩
def AXP:FK AA 60 f60 h60:=F0 func60
def h32:Ef:=hm [12,64,48] [] [] []
def AYS:h32.lv=Fu [[2,3],[6],[4,5]]:=Fy rfl dk
@[go_sem] def Agt:=F5 h32
def AYR:h32.tk=[]/\h32.mt=[]/\h32.pc=[]:=⟨rfl,rfl,rfl⟩
def AYT:FK AA 32 f32 h32:=F0 func32
def h6:Ef:=hm [90,2138,6234,481036343386,0xf00000185a,481036367962,481036449882,563430989805658,481036343386,481036343386,137242,399386,923674,0x20000000000e181a,923674,1972250,4069402,8263706,121509914,0x10000000000000000033e181a,1792,20846618,0x3800000000000000000003e181a,0x7800000000000000000003e181a,0x3800000000000000000103e181a,0x3800000000000000000703e181a,0x1003800000000000000000303e181a,0x3800000000000000000b03e181a,0x100003800000000000000000b03e181a,0x3800000000000000000003e181a,0x3800000000000000001903e181a,0x3800000000000000001903e181a,0x3800000000000000000003e181a,0x3800000000000000000003e181a,0x8000000000000000000000000000000000000e181a,1792,1792] [82,97,101,103,125,168,169,170] [] [46,57,76,91,112,122,131,143,158]
def AdL:h6.lv=Fu [[1,3,4,6],[1,3,4,6,11],[1,3,4,6,11,12],[1,3,4,6,11,12,36,37,38],[1,3,4,6,11,12,36,37,38,39],[1,3,4,6,11,12,13,14,36,37,38],[1,3,4,6,11,12,13,15,16,36,37,38],[1,3,4,6,11,12,13,15,36,37,38,49],[1,3,4,6,11,12,36,37,38],[1,3,4,6,11,12,36,37,38],[1,3,4,11,12,17],[1,3,4,11,12,17,18],[1,3,4,11,12,17,18,19],[1,3,4,11,12,17,18,19,61],[1,3,4,11,12,17,18,19],[1,3,4,11,12,17,18,19,20],[1,3,4,11,12,17,18,19,20,21],[1,3,4,11,12,17,18,19,20,21,22],[1,3,4,11,12,17,18,19,20,21,24,25,26],[1,3,4,11,12,17,18,19,20,21,24,25,96],[8,9,10],[1,3,4,11,12,17,18,19,20,21,24],[1,3,4,11,12,17,18,19,20,21,103,104,105],[1,3,4,11,12,17,18,19,20,21,103,104,105,106],[1,3,4,11,12,17,18,19,20,21,28,103,104,105],[1,3,4,11,12,17,18,19,20,21,28,29,30,103,104,105],[1,3,4,11,12,17,18,19,20,21,28,29,103,104,105,116],[1,3,4,11,12,17,18,19,20,21,28,29,31,103,104,105],[1,3,4,11,12,17,18,19,20,21,28,29,31,103,104,105,124],[1,3,4,11,12,17,18,19,20,21,103,104,105],[1,3,4,11,12,17,18,19,20,21,28,31,32,103,104,105],[1,3,4,11,12,17,18,19,20,21,28,31,32,103,104,105],[1,3,4,11,12,17,18,19,20,21,103,104,105],[1,3,4,11,12,17,18,19,20,21,103,104,105],[1,3,4,11,12,17,18,19,167],[8,9,10],[8,9,10]]:=Fy rfl dk
@[go_sem] def AiE:=F5 h6
def yc:Ef:=hm [63,32827,256,14680115,31457331,14681651,68734158387,14682675,72057594052608051,256,14680115,256] [17] [] [18,41]
def AXF:yc.lv=Fu [[0,1,2,3,4,5],[0,1,3,4,5,15],[8],[0,1,4,5,21,22,23],[0,1,4,5,21,22,23,24],[0,1,4,5,9,10,21,22,23],[0,1,4,5,9,10,21,22,23,36],[0,1,4,5,9,11,21,22,23],[0,1,4,5,21,22,23,56],[8],[0,1,4,5,21,22,23],[8]]:=Fy rfl dk
@[go_sem] def Aga:=F5 yc
def AXE:yc.tk=[17]/\yc.mt=[]/\yc.pc=[18,41]:=⟨rfl,rfl,rfl⟩
def AXG:FK AA 63 f63 yc:=F0 func63
def h62:Ef:=hm [30,62,40,1] [] [] []
def AXI:h62.lv=Fu [[1,2,3,4],[1,2,3,4,5],[3,5],[0]]:=Fy rfl dk
@[go_sem] def Agb:=F5 h62
def AXH:h62.tk=[]/\h62.mt=[]/\h62.pc=[]:=⟨rfl,rfl,rfl⟩
def AXJ:FK AA 62 f62 h62:=F0 func62
def h34:Ef:=hm [56,64] [] [] []
def AYM:h34.lv=Fu [[3,4,5],[6]]:=Fy rfl dk
@[go_sem] def Agr:=F5 h34
def AYN:FK AA 34 f34 h34:=F0 func34
def h9:Ef:=hm [206,462,8640,960,448,2097344,1,192] [15,16] [] []
def AdD:h9.lv=Fu [[1,2,3,6,7],[1,2,3,6,7,8],[6,7,8,13],[6,7,8,9],[6,7,8],[6,7,21],[0],[6,7]]:=Fy rfl dk
@[go_sem] def AiB:=F5 h9
def AdC:h9.tk=[15,16]/\h9.mt=[]/\h9.pc=[]:=⟨rfl,rfl,rfl⟩
def AdE:FK AA 9 f9 h9:=F0 func9
def h11:Ef:=hm [3,1027,16,35,16419,35,33554467,16,16] [] [] []
def AY7:h11.lv=Fu [[0,1],[0,1,10],[4],[0,1,5],[0,1,5,14],[0,1,5],[0,1,5,25],[4],[4]]:=Fy rfl dk
@[go_sem] def Ag4:=F5 h11
def AY6:h11.tk=[]/\h11.mt=[]/\h11.pc=[]:=⟨rfl,rfl,rfl⟩
def AY8:FK AA 11 f11 h11:=F0 func11
def aX:Ef:=hx [6,7170,15362,7362,7490,2104642,48,7170,48] [] [] [] [19] [(7,1)] []
def AY3:aX.lv=Fu [[1,2],[1,10,11,12],[1,10,11,12,13],[1,6,7,10,11,12],[1,6,8,10,11,12],[1,6,8,10,11,12,21],[4,5],[1,10,11,12],[4,5]]:=Fy rfl dk
def AY5:aX.ct 0=none/\aX.ct 1=none/\aX.ct 2=none/\aX.ct 3=none/\aX.ct 4=none/\aX.ct 5=none/\aX.ct 6=none/\aX.ct 7=some 1/\aX.ct 8=none:=dk
def AY0(k:Nat):aX.at k=[]:=rfl
def AY1(k:Nat):aX.dn k=false:=AG rfl rfl
def AY2:aX.tk=[]/\aX.mt=[]/\aX.pc=[19]:=⟨rfl,rfl,rfl⟩
def AY4:FK AA 12 f12 aX:=F0 func12
def h5:Ef:=hx [1,2,6,6,30,122,506,4090,24570,122874,516090,2088954,0x800000000000000000000000000a9202,1,2789890,6984194,15372802,1] [124,137,138,141,142,146,152,157] [31] [(1,[(1,some 5,true)]),(3,[(2,some 5,true)])] [51,60] [] []
def AdQ:h5.lv=Fu [[0],[1],[1,2],[1,2],[1,2,3,4],[1,3,4,5,6],[1,3,4,5,6,7,8],[1,3,4,5,6,7,8,9,10,11],[1,3,4,5,6,7,8,9,10,11,12,14],[1,3,4,5,6,7,8,9,10,11,12,14,15,16],[1,3,4,5,6,7,8,9,10,11,12,14,15,16,17,18],[1,3,4,5,6,7,8,9,10,11,12,14,15,16,17,18,19,20],[1,9,12,15,17,19,127],[0],[1,9,12,15,17,19,21],[1,9,12,15,17,19,21,22],[1,9,12,15,17,19,21,22,23],[0]]:=Fy rfl dk
def AdS(k:Nat):h5.ct k=none:=rfl
def AdN:h5.at 0=[]/\h5.at 1=[(1,some 5,true)]/\h5.at 2=[]/\h5.at 3=[(2,some 5,true)]/\h5.at 4=[]/\h5.at 5=[]/\h5.at 6=[]/\h5.at 7=[]/\h5.at 8=[]/\h5.at 9=[]/\h5.at 10=[]/\h5.at 11=[]/\h5.at 12=[]/\h5.at 13=[]/\h5.at 14=[]/\h5.at 15=[]/\h5.at 16=[]/\h5.at 17=[]:=dk
def AdO(k:Nat):h5.dn k=false:=AG rfl rfl
def AdP:h5.tk=[124,137,138,141,142,146,152,157]/\h5.mt=[31]/\h5.pc=[51,60]:=⟨rfl,rfl,rfl⟩
def AdR:FK AA 5 f5 h5:=F0 func5
def h7:Ef:=hm [12,7176,15368,7272,7464,8395816,16,7176,16] [] [] [20]
def AdJ:h7.lv=Fu [[2,3],[3,10,11,12],[3,10,11,12,13],[3,5,6,10,11,12],[3,5,8,10,11,12],[3,5,10,11,12,23],[4],[3,10,11,12],[4]]:=Fy rfl dk
@[go_sem] def AiD:=F5 h7
def AdI:h7.tk=[]/\h7.mt=[]/\h7.pc=[20]:=⟨rfl,rfl,rfl⟩
def AdK:FK AA 7 f7 h7:=F0 func7
def h33:Ef:=hm [3,1027,16,35,16419,35,0x80000000000000023,16,16] [] [] [65]
def AYP:h33.lv=Fu [[0,1],[0,1,10],[4],[0,1,5],[0,1,5,14],[0,1,5],[0,1,5,67],[4],[4]]:=Fy rfl dk
@[go_sem] def Ags:=F5 h33
def AYO:h33.tk=[]/\h33.mt=[]/\h33.pc=[65]:=⟨rfl,rfl,rfl⟩
def AYQ:FK AA 33 f33 h33:=F0 func33
def h8:Ef:=hm [3,2051,16,35,32803,35,99,268435491,16,16] [] [] [26]
def AdG:h8.lv=Fu [[0,1],[0,1,11],[4],[0,1,5],[0,1,5,15],[0,1,5],[0,1,5,6],[0,1,5,28],[4],[4]]:=Fy rfl dk
@[go_sem] def AiC:=F5 h8
def AdF:h8.tk=[]/\h8.mt=[]/\h8.pc=[26]:=⟨rfl,rfl,rfl⟩
def AdH:FK AA 8 f8 h8:=F0 func8
def cV:Ef:=hx [7,16391,64,229382,491526,229766,230150,1073971206,64,229382,64] [15] [] [] [] [(9,0)] []
def AYJ:cV.lv=Fu [[0,1,2],[0,1,2,14],[6],[1,2,15,16,17],[1,2,15,16,17,18],[1,2,7,8,15,16,17],[1,2,8,9,15,16,17],[1,2,15,16,17,30],[6],[1,2,15,16,17],[6]]:=Fy rfl dk
def AYL:cV.ct 0=none/\cV.ct 1=none/\cV.ct 2=none/\cV.ct 3=none/\cV.ct 4=none/\cV.ct 5=none/\cV.ct 6=none/\cV.ct 7=none/\cV.ct 8=none/\cV.ct 9=some 0/\cV.ct 10=none:=dk
def AYG(k:Nat):cV.at k=[]:=rfl
def AYH(k:Nat):cV.dn k=false:=AG rfl rfl
def AYI:cV.tk=[15]/\cV.mt=[]/\cV.pc=[]:=⟨rfl,rfl,rfl⟩
def AYK:FK AA 35 f35 cV:=F0 func35
def h36:Ef:=hm [12,16] [] [] [7]
def AYE:h36.lv=Fu [[2,3],[4]]:=Fy rfl dk
@[go_sem] def Agq:=F5 h36
def AYD:h36.tk=[]/\h36.mt=[]/\h36.pc=[7]:=⟨rfl,rfl,rfl⟩
def AYF:FK AA 36 f36 h36:=F0 func36
def wl:Ef:=hm [3,16] [5,6] [] [7]
def AZA:wl.lv=Fu [[0,1],[4]]:=Fy rfl dk
@[go_sem] def Ag5:=F5 wl
def AY9:wl.tk=[5,6]/\wl.mt=[]/\wl.pc=[7]:=⟨rfl,rfl,rfl⟩
def AZB:FK AA 10 f10 wl:=F0 func10
def h3:Ef:=hm [42,67108906,64,938,1930,281474976712074,64,0xc00000000000058a,0x1c00000000000058a,0xc000000000000d8a,0xc000000000003d8a,0x400c000000000001d8a,0x2000000c000000000001d8a,64,0x1c000000c000000000001d8a,0x3c000000c000000000001d8a,0x1c000000c000000000009d8a,0x81c000000c000000000009d8a,0x1c000000c000000000019d8a,0x701c000000c000000000019d8a,0xf01c000000c000000000019d8a,0x701c000000c000000000059d8a,0x701c000000c000000000019d8a,0x701c000000c000000000019d8a,0x1c000000c000000000091d8a,0x2000000001c000000c000000000001d8a,64,0x1c000000c000000000001d8a,0xc00000000000058a,64] [51,56,57,108] [] [25,27,35,42,49,58,70,87,111,120,132]
def AdU:h3.lv=Fu [[1,3,5],[1,3,5,26],[6],[1,3,5,7,8,9],[1,3,7,8,9,10],[1,3,7,8,10,48],[6],[1,3,7,8,10,62,63],[1,3,7,8,10,62,63,64],[1,3,7,8,10,11,62,63],[1,3,7,8,10,11,12,13,62,63],[1,3,7,8,10,11,12,62,63,74],[1,3,7,8,10,11,12,62,63,89],[6],[1,3,7,8,10,11,12,62,63,90,91,92],[1,3,7,8,10,11,12,62,63,90,91,92,93],[1,3,7,8,10,11,12,15,62,63,90,91,92],[1,3,7,8,10,11,12,15,62,63,90,91,92,99],[1,3,7,8,10,11,12,15,16,62,63,90,91,92],[1,3,7,8,10,11,12,15,16,62,63,90,91,92,100,101,102],[1,3,7,8,10,11,12,15,16,62,63,90,91,92,100,101,102,103],[1,3,7,8,10,11,12,15,16,18,62,63,90,91,92,100,101,102],[1,3,7,8,10,11,12,15,16,62,63,90,91,92,100,101,102],[1,3,7,8,10,11,12,15,16,62,63,90,91,92,100,101,102],[1,3,7,8,10,11,12,16,19,62,63,90,91,92],[1,3,7,8,10,11,12,62,63,90,91,92,129],[6],[1,3,7,8,10,11,12,62,63,90,91,92],[1,3,7,8,10,62,63],[6]]:=Fy rfl dk
@[go_sem] def AiG:=F5 h3
attribute [go_sem] AWA AV9 ACV AEG AVZ xP xO AWB AGA nE AVX nC gX gW AIS gV AIR AHr gU ANQ ANP AQh AQg ALW ALV ANX ANW AQr AQq AQp AQo ANV ANU AQm AQl AWx AWw ANT ANS AQj AQi AW0 AWz AQV AQU ALM ALL ALT ALS ANN ANM AJy AJx ALH ALG AJe AJd AI2 AI1 AIz AIy AIq AIp AIt AIs AIw AIv AJH AJG AJv AJu AJg AJf AKq AKp AKt AKs AM3 AM2 AJc AJb AKh AKg AMu AMt APz APy AMp AMo AKn AKm AKe AKd AMm AMl AKk AKj AMx AMw AMr AMq APv APx APs APt APu APp APr APm APn APo AMk AMj APJ API APO APQ APL APM APN APS APR APk APj AWY AWa AWV AWW AWX AJ1 AJ0 ALQ ALP ALK ALJ ANJ ANL ANG ANH ANI AM0 AMz AP2 AP1 ALE ALD ANE AND AQe AQd ANC ANB AM9 AM8 AQL AQN AQI AQJ AQK AW2 AW1 AQb AQa AQY AQX AWt AWv AWq AWr AWs AQS AQR AQP AQO AWo AWn AXz AXy AQt AQs AW4 AX8 AX7 AYo AYn AQB AQA AQ2 AQ1 AXg AXf AYb AYa nk rG AJs AJr AJj AJi AKw AKv AJp AJo AK8 AK7 AKz AKy AJm AJl AK4 AK6 AK1 AK2 AK3 ALB ALA AM6 AM5 AQF AQH AQC AQD AQE APD APC AMa AMc AMX AMY AMZ AMV AMU AO1 AO0 ARe ARg ARb ARc ARd AWR AWQ AWI AWH AO9 APB AO6 AO7 AO8 AO4 AO3 AWN AWP AWK AWL AWM AXw AXv AOn AOm ARX ARW AOs AOr AMR AMT AMO AMP AMQ AOq AOp AOx AOz AOu AOv AOw ARa ARZ AJE AJD AJW AJV AQz AQy AJB AJA AI8 AI7 AJT AJS AJQ AJP AI5 AI4 AJK AJJ AJN AJM AKV AKU AMA AL9 AOg AOf AOd AOc AMG AMF AJZ AJY AKb AKa AKY AKX AMD AMC AOj AOi AML AMN AMI AMJ AMK AOl AOk AKS AKR AL7 AL6 AL4 AL3 AOa AOZ ARS ARR ARU ART AXt AXs AYj AYl AYg AYh AYi no gT APG APF AL1 AL0 AOV AOU AMe AMd xM nj rF ARP ARO AOS AOR ALv ALu ALy ALx AOM AOL AOP AOO AOJ AOI AOY AOX AOE AOD AOB AOA AN9 AN8 AQw AQv AW7 AW6 AKJ AKI AKO AKQ AKL AKM AKN ALr AN6 AN5 AN2 AN4 ANz AN0 AN1 AKH AKG ALq ALp AKE AKD ALk ALj ALn ALm ANw ANy ANt ANu ANv AOH AOG ARM ARL AXq AXr AXn AXo AXp ANa ANZ AVY xN nF nD ni AIQ AX6 AX5 AWl AWk AP8 AP7 AP5 AP4 AWi AWh AWe AWg AWb AWc AWd AX3 AX2 AYy AYx APh APg AMh AMg APe APd AXL AXK APb APa APY APX AWU APV APU AWT AX1 AYw AYu AYt AdT AYr AYq AYm AKB AKA ANj ANi AJ7 AJ6 AJ4 AJ3 ALe ALd ALb ALa ANl ANk AXC AXB AW9 AW8 AYB AYA ALY ALX ANd ANc AJ9 AJ8 ALh ALg ANr ANq ANo ANn ARK ARJ ARH ARG ARF ANg ANf ARE ARC ARD ARA ARB AQ8 AQ7 AQ5 AQ4 AXk AXm AXh AXi AXj AYe AYd AXd AXc AXW AXY AXT AXU AXV AXa AXZ AYY AYX AYV AYU AXR AXQ AXO AXN AYS AYR AdL AXF AXE AXI AXH AYM AdD AdC AY7 AY6 AY3 AY5 AY0 AY1 AY2 AdQ AdS AdN AdO AdP AdJ AdI AYP AYO AdG AdF AYJ AYL AYG AYH AYI AYE AYD AZA AY9 AdU
end Go.AI
