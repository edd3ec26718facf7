/- Closed facts about the program's types. Printed by fa.py. -/
import Derived.Test.YtnbekihfchfioaaGreatDoorProg
import Derived.Test.YtnbekihfchfioaaGreatDoorLi
set_option linter.unusedSimpArgs false
set_option linter.unusedVariables false
set_option linter.defProp false
open Go.Proofs.Tryz
open Go.AI renaming Hint->Ee
open Eq renaming trans->AH
open Go.Proofs.Tryz renaming prog->AA
namespace Go.AI
open Go.Proofs
def Tm{p0 p1 p2 p3 p4 p5 p6 p7 p8 p9 p10 p11:Prop}(hp0:p0 := by kernel_rfl)(hp1:p1 := by kernel_rfl)(hp2:p2 := by kernel_rfl)(hp3:p3 := by kernel_rfl)(hp4:p4 := by kernel_rfl)(hp5:p5 := by kernel_rfl)(hp6:p6 := by kernel_rfl)(hp7:p7 := by kernel_rfl)(hp8:p8 := by kernel_rfl)(hp9:p9 := by kernel_rfl)(hp10:p10 := by kernel_rfl)(hp11:p11 := by kernel_rfl):p0/\p1/\p2/\p3/\p4/\p5/\p6/\p7/\p8/\p9/\p10/\p11:=⟨hp0,hp1,hp2,hp3,hp4,hp5,hp6,hp7,hp8,hp9,hp10,hp11⟩
def Ft:List (List Nat)->Nat->List Nat
 | [],_=>[]
 | x::_,0=>x
 | _::r,k+1=>Ft r k
def AUX(x:List Nat)(r:List (List Nat)):Ft (x::r) 0=x:=AH rfl rfl
def AUW(x:List Nat)(r:List (List Nat))(k:Nat):Ft (x::r) (k+1)=Ft r k:=AH rfl rfl
def AFh : ∀ (l:List Nat) (j k:Nat),((lvM j l).lookup (j+k)).getD []=Ft (l.map ABq) k
 | [],j,k=>by simp [lvM,Ft]
 | m::l,j,0=>by simp [lvM,Ft]
 | m::l,j,k+1=>by
  have h:(j+(k+1)==j)=false:=sm
  rw [lvM,List.lookup_cons,h]
  have := AFh l (j+1) k
  rw [show j+1+k=j+(k+1) by omega] at this
  exact this
def Fx{h:Ee}{l:List Nat}{L:List (List Nat)}(e:h.live=lvM 0 l)(hL:l.map ABq=L):h.lv=Ft L:=by
 subst hL
 funext k
 have := AFh l 0 k
 rw [Nat.zero_add] at this
 show (h.live.lookup k).getD []=_
 rw [e];exact this
def F2{P:Program}{n:FuncId}{f:Func}{h:Ee}(g:P.funcs[n]? =some f)(m:P.follows .mixedOrders=true := by kernel_rfl)(d:f.body.any (GX h)=true := by kernel_rfl)(c:HP P n=true := by kernel_rfl):FK P n f h:=⟨m,d,g,c⟩
def F4(h:Ee)(a:h.gc=[] := by rfl)(b:h.fz=[] := by rfl)(c:h.dy=[] := by rfl):(∀ k,h.ct k=none)/\(∀ k,h.at k=[])/\(∀ k,h.dn k=false):=l7 h a b c
def ABK:AA.cellsOf 3=1/\AA.bytesOf 3=8/\JC AA 3=some none/\AA.underlying 3=some (.int .i64)/\Gg AA 3=true/\(AA.info? 3).isSome=true/\Fg AA 3=some (.int .i64 0)/\AA.cellsOf 4=1/\AA.bytesOf 4=1/\JC AA 4=some none/\Vf AA 4=true/\(AA.info? 4).isSome=true:=Tm
def AC6:Fg AA 4=some (.bool false)/\AA.cellsOf 9=1/\AA.bytesOf 9=16/\JC AA 9=some none/\AA.underlying 9=some .string/\Gg AA 9=true/\(AA.info? 9).isSome=true/\AA.cellsOf 22=1/\JC AA 22=some none/\AA.underlying 22=some (.slice 128)/\AA.cellsOf 23=1/\JC AA 23=some none:=Tm
def ATx:AA.underlying 23=some (.slice 191)/\AA.cellsOf 24=1/\JC AA 24=some none/\AA.underlying 24=some (.slice 92)/\AA.cellsOf 26=3/\JC AA 26=some (some 3)/\FU AA 26 0=some (22,0)/\FU AA 26 1=some (23,1)/\FU AA 26 2=some (24,2)/\AA.cellsOf 27=1/\JC AA 27=some none/\AA.underlying 27=some (.slice 126):=Tm
def wD:AA.cellsOf 28=1/\JC AA 28=some none/\AA.underlying 28=some (.slice 54)/\AA.cellsOf 29=1/\JC AA 29=some none/\AA.underlying 29=some (.slice 76)/\AA.cellsOf 31=6/\JC AA 31=some (some 6)/\FU AA 31 0=some (26,0)/\FU AA 31 1=some (27,3)/\FU AA 31 2=some (28,4)/\FU AA 31 3=some (29,5):=Tm
def wC:AA.cellsOf 34=10/\AA.bytesOf 34=80/\JC AA 34=some (some 10)/\AA.underlying 34=some (.array 10 3)/\Gg AA 34=true/\(AA.info? 34).isSome=true/\KF AA 34 = .array 1/\AA.cellsOf 40=1/\JC AA 40=some none/\Fg AA 40=some (.int .i64 0)/\AA.cellsOf 47=1/\JC AA 47=some none:=Tm
def ATv:AA.underlying 47=some (.slice 130)/\AA.cellsOf 48=1/\JC AA 48=some none/\AA.underlying 48=some (.slice 210)/\AA.cellsOf 50=1/\JC AA 50=some none/\AA.underlying 50=some (.slice 110)/\AA.cellsOf 51=1/\JC AA 51=some none/\AA.underlying 51=some (.slice 250)/\AA.cellsOf 52=1/\JC AA 52=some none:=Tm
def ATu:AA.underlying 52=some (.slice 280)/\AA.cellsOf 54=6/\JC AA 54=some (some 6)/\FU AA 54 0=some (9,0)/\FU AA 54 1=some (47,1)/\FU AA 54 2=some (48,2)/\FU AA 54 3=some (50,3)/\FU AA 54 4=some (51,4)/\FU AA 54 5=some (52,5)/\AA.cellsOf 61=1/\AA.bytesOf 61=24/\JC AA 61=some none:=Tm
def ATt:AA.underlying 61=some (.slice 3)/\ly AA 61=true/\Gg AA 61=true/\AA.cellsOf 72=1/\JC AA 72=some none/\AA.underlying 72=some (.slice 74)/\AA.cellsOf 74=5/\AA.bytesOf 74=64/\JC AA 74=some (some 5)/\Gg AA 74=true/\(AA.info? 74).isSome=true/\KF AA 74 = .struct [(0,1),(1,1),(2,1),(3,1),(4,1)]:=Tm
def mK:FU AA 74 0=some (3,0)/\FU AA 74 1=some (9,1)/\FU AA 74 2=some (3,2)/\FU AA 74 3=some (3,3)/\FU AA 74 4=some (72,4)/\AA.cellsOf 76=12/\JC AA 76=some (some 12)/\FU AA 76 0=some (9,0)/\FU AA 76 1=some (9,1)/\FU AA 76 2=some (3,2)/\FU AA 76 3=some (3,3)/\FU AA 76 4=some (74,4):=Tm
def mJ:FU AA 76 5=some (3,9)/\FU AA 76 6=some (3,10)/\FU AA 76 7=some (3,11)/\AA.cellsOf 92=2/\FU AA 92 0=some (9,0)/\FU AA 92 1=some (3,1)/\AA.cellsOf 103=1/\JC AA 103=some none/\AA.underlying 103=some (.slice 105)/\AA.cellsOf 105=9/\AA.bytesOf 105=120/\JC AA 105=some (some 9):=Tm
def qG:Gg AA 105=true/\(AA.info? 105).isSome=true/\KF AA 105 = .struct [(0,1),(1,5),(6,1),(7,1),(8,1)]/\FU AA 105 0=some (3,0)/\FU AA 105 1=some (74,1)/\FU AA 105 2=some (9,6)/\FU AA 105 3=some (3,7)/\FU AA 105 4=some (103,8)/\AA.cellsOf 106=1/\JC AA 106=some none/\AA.underlying 106=some (.slice 9)/\AA.cellsOf 108=6:=Tm
def AHB:JC AA 108=some (some 6)/\KF AA 108 = .struct [(0,1),(1,1),(2,1),(3,1),(4,1),(5,1)]/\FU AA 108 0=some (3,0)/\FU AA 108 1=some (9,1)/\FU AA 108 2=some (106,2)/\FU AA 108 3=some (9,3)/\FU AA 108 4=some (3,4)/\FU AA 108 5=some (3,5)/\AA.cellsOf 110=15/\AA.bytesOf 110=200/\JC AA 110=some (some 15)/\Gg AA 110=true:=Tm
def ABk:KF AA 110 = .struct [(0,9),(9,6)]/\FU AA 110 0=some (105,0)/\FU AA 110 1=some (108,9)/\AA.cellsOf 119=4/\AA.bytesOf 119=56/\JC AA 119=some (some 4)/\Gg AA 119=true/\(AA.info? 119).isSome=true/\KF AA 119 = .struct [(0,1),(1,1),(2,1),(3,1)]/\FU AA 119 0=some (9,0)/\FU AA 119 1=some (61,1)/\FU AA 119 2=some (3,2):=Tm
def fU:FU AA 119 3=some (3,3)/\AA.cellsOf 126=3/\JC AA 126=some (some 3)/\KF AA 126 = .struct [(0,1),(1,1),(2,1)]/\FU AA 126 0=some (9,0)/\FU AA 126 1=some (3,1)/\FU AA 126 2=some (3,2)/\AA.cellsOf 128=4/\JC AA 128=some (some 4)/\FU AA 128 0=some (9,0)/\FU AA 128 1=some (4,1)/\FU AA 128 2=some (3,2):=Tm
def fT:FU AA 128 3=some (3,3)/\AA.cellsOf 130=2/\JC AA 130=some (some 2)/\FU AA 130 0=some (9,0)/\FU AA 130 1=some (3,1)/\AA.cellsOf 191=3/\JC AA 191=some (some 3)/\FU AA 191 0=some (3,0)/\FU AA 191 1=some (3,1)/\FU AA 191 2=some (3,2)/\AA.cellsOf 210=2/\JC AA 210=some (some 2):=Tm
def fQ:FU AA 210 0=some (3,0)/\FU AA 210 1=some (3,1)/\AA.cellsOf 246=1/\JC AA 246=some none/\AA.underlying 246=some (.slice 248)/\AA.cellsOf 248=3/\JC AA 248=some (some 3)/\FU AA 248 0=some (3,0)/\FU AA 248 1=some (9,1)/\FU AA 248 2=some (246,2)/\AA.cellsOf 250=8/\FU AA 250 0=some (74,0):=Tm
def fP:FU AA 250 1=some (248,5)/\AA.cellsOf 253=2/\JC AA 253=some (some 2)/\KF AA 253 = .struct [(0,1),(1,1)]/\FU AA 253 0=some (3,0)/\FU AA 253 1=some (3,1)/\AA.cellsOf 280=4/\JC AA 280=some (some 4)/\FU AA 280 0=some (3,0)/\FU AA 280 1=some (3,1)/\FU AA 280 2=some (3,2)/\FU AA 280 3=some (3,3):=Tm
def mixed:AA.follows .mixedOrders=true:=kr
def tn:Ee:=hm [28,16] [] [] []
def AK6:tn.lv=Ft [[2,3,4],[4]]:=Fx rfl dk
@[go_sem] def AdT:=F4 tn
def AK5:tn.tk=[]/\tn.mt=[]/\tn.pc=[]:=⟨rfl,rfl,rfl⟩
def AK7:FK AA 217 f217 tn:=F2 func217
def uo:Ee:=hm [6,14,30,1054,30,30,4] [] [] [19,20]
def ANu:uo.lv=Ft [[1,2],[1,2,3],[1,2,3,4],[1,2,3,4,10],[1,2,3,4],[1,2,3,4],[2]]:=Fx rfl dk
@[go_sem] def AeA:=F4 uo
def ANt:uo.tk=[]/\uo.mt=[]/\uo.pc=[19,20]:=⟨rfl,rfl,rfl⟩
def AAd:FK AA 155 f155 uo:=F2 func155
def tH:Ee:=hm [6,14,270,14,30,262174,30,30,4] [] [] [12,13,27,28]
def AJl:tH.lv=Ft [[1,2],[1,2,3],[1,2,3,8],[1,2,3],[1,2,3,4],[1,2,3,4,18],[1,2,3,4],[1,2,3,4],[2]]:=Fx rfl dk
@[go_sem] def Ac3:=F4 tH
def AJk:tH.tk=[]/\tH.mt=[]/\tH.pc=[12,13,27,28]:=⟨rfl,rfl,rfl⟩
def AAS:FK AA 269 f269 tH:=F2 func269
def tt:Ee:=hm [2,10,24,4] [] [] [6,9]
def ALD:tt.lv=Ft [[1],[1,3],[3,4],[2]]:=Fx rfl dk
@[go_sem] def AdW:=F4 tt
def ALC:tt.tk=[]/\tt.mt=[]/\tt.pc=[6,9]:=⟨rfl,rfl,rfl⟩
def ALE:FK AA 214 f214 tt:=F2 func214
def ut:Ee:=hm [1,9,4105,9,25,4294967305,4,4] [33] [] [20]
def AN4:ut.lv=Ft [[0],[0,3],[0,3,12],[0,3],[0,3,4],[0,3,32],[2],[2]]:=Fx rfl dk
@[go_sem] def AeE:=F4 ut
def AN3:ut.tk=[33]/\ut.mt=[]/\ut.pc=[20]:=⟨rfl,rfl,rfl⟩
def AAf:FK AA 151 f151 ut:=F2 func151
def ur:Ee:=hm [2,10,26,538,26,26,4194312,8,4] [] [] [18]
def AN2:ur.lv=Ft [[1],[1,3],[1,3,4],[1,3,4,9],[1,3,4],[1,3,4],[3,22],[3],[2]]:=Fx rfl dk
@[go_sem] def AeD:=F4 ur
def AN1:ur.tk=[]/\ur.mt=[]/\ur.pc=[18]:=⟨rfl,rfl,rfl⟩
def AAe:FK AA 152 f152 ur:=F2 func152
def tq:Ee:=hm [2,10,26,538,26,26,4194312,8,4] [] [] [18]
def ALB:tq.lv=Ft [[1],[1,3],[1,3,4],[1,3,4,9],[1,3,4],[1,3,4],[3,22],[3],[2]]:=Fx rfl dk
@[go_sem] def AdV:=F4 tq
def ALA:tq.tk=[]/\tq.mt=[]/\tq.pc=[18]:=⟨rfl,rfl,rfl⟩
def AAa:FK AA 215 f215 tq:=F2 func215
def uq:Ee:=hm [2,10,24,4] [] [] [6,8]
def ANz:uq.lv=Ft [[1],[1,3],[3,4],[2]]:=Fx rfl dk
@[go_sem] def AeC:=F4 uq
def ANy:uq.tk=[]/\uq.mt=[]/\uq.pc=[6,8]:=⟨rfl,rfl,rfl⟩
def AN0:FK AA 153 f153 uq:=F2 func153
def h87:Ee:=hm [2,8,4] [] [] [5]
def AU9:h87.lv=Ft [[1],[3],[2]]:=Fx rfl dk
@[go_sem] def Ae6:=F4 h87
def AU8:h87.tk=[]/\h87.mt=[]/\h87.pc=[5]:=⟨rfl,rfl,rfl⟩
def AVA:FK AA 87 f87 h87:=F2 func87
def tp:Ee:=hm [6,14,30,1054,30,30,4] [] [] [19,20]
def AK9:tp.lv=Ft [[1,2],[1,2,3],[1,2,3,4],[1,2,3,4,10],[1,2,3,4],[1,2,3,4],[2]]:=Fx rfl dk
@[go_sem] def AdU:=F4 tp
def AK8:tp.tk=[]/\tp.mt=[]/\tp.pc=[19,20]:=⟨rfl,rfl,rfl⟩
def AAZ:FK AA 216 f216 tp:=F2 func216
def up:Ee:=hm [2,8,4] [] [] [5]
def ANw:up.lv=Ft [[1],[3],[2]]:=Fx rfl dk
@[go_sem] def AeB:=F4 up
def ANv:up.tk=[]/\up.mt=[]/\up.pc=[5]:=⟨rfl,rfl,rfl⟩
def ANx:FK AA 154 f154 up:=F2 func154
def h86:Ee:=hm [2,10,68719476738,4,18,2199023255570,18,0x2000000000000012,4,34,0x40000000000000022,34,98,226,0x10000000000000000000022,4,4] [] [] [10,50,59,75,82]
def AVC:h86.lv=Ft [[1],[1,3],[1,36],[2],[1,4],[1,4,41],[1,4],[1,4,61],[2],[1,5],[1,5,66],[1,5],[1,5,6],[1,5,6,7],[1,5,88],[2],[2]]:=Fx rfl dk
@[go_sem] def Ae7:=F4 h86
def AVB:h86.tk=[]/\h86.mt=[]/\h86.pc=[10,50,59,75,82]:=⟨rfl,rfl,rfl⟩
def AFo:FK AA 86 f86 h86:=F2 func86
def uh:Ee:=hm [1,9,521,9,25,57,0x800000000009,4,4] [] [] []
def ANi:uh.lv=Ft [[0],[0,3],[0,3,9],[0,3],[0,3,4],[0,3,4,5],[0,3,47],[2],[2]]:=Fx rfl dk
@[go_sem] def Ad6:=F4 uh
def ANh:uh.tk=[]/\uh.mt=[]/\uh.pc=[]:=⟨rfl,rfl,rfl⟩
def ANj:FK AA 159 f159 uh:=F2 func159
def tE:Ee:=hm [6,16] [] [] []
def AJc:tE.lv=Ft [[1,2],[4]]:=Fx rfl dk
@[go_sem] def Ac0:=F4 tE
def AJb:tE.tk=[]/\tE.mt=[]/\tE.pc=[]:=⟨rfl,rfl,rfl⟩
def AJd:FK AA 272 f272 tE:=F2 func272
def tG:Ee:=hm [6,16] [] [] [7]
def AJi:tG.lv=Ft [[1,2],[4]]:=Fx rfl dk
@[go_sem] def Ac2:=F4 tG
def AJh:tG.tk=[]/\tG.mt=[]/\tG.pc=[7]:=⟨rfl,rfl,rfl⟩
def AJj:FK AA 270 f270 tG:=F2 func270
def tl:Ee:=hm [12,44,262156,16,76,8388684,76,204,17179869260,16,332,137438953804,332,4503599627370828,16,524,0x20000000000020c,524,1548,0x800000000000000060c,16,3596,0x40000000000000000e0c,3596,0x100000000000000000000e0c,16,4104,0x2000000000000000000001008,4104,0x800000000000000000000000001008,16,12296,0x4000000000000000000000000003008,12296,0x20000000000000000000000000000003008,16,16] [] [] [16,32,107,117]
def AK3:tl.lv=Ft [[2,3],[2,3,5],[2,3,18],[4],[2,3,6],[2,3,6,23],[2,3,6],[2,3,6,7],[2,3,6,34],[4],[2,3,6,8],[2,3,6,8,37],[2,3,6,8],[2,3,6,8,52],[4],[2,3,9],[2,3,9,57],[2,3,9],[2,3,9,10],[2,3,9,10,75],[4],[2,3,9,10,11],[2,3,9,10,11,78],[2,3,9,10,11],[2,3,9,10,11,92],[4],[3,12],[3,12,97],[3,12],[3,12,119],[4],[3,12,13],[3,12,13,122],[3,12,13],[3,12,13,137],[4],[4]]:=Fx rfl dk
@[go_sem] def AdS:=F4 tl
def AK2:tl.tk=[]/\tl.mt=[]/\tl.pc=[16,32,107,117]:=⟨rfl,rfl,rfl⟩
def AK4:FK AA 218 f218 tl:=F2 func218
def sa:Ee:=hm [2,1024,4,4] [] [] []
def AIV:sa.lv=Ft [[1],[10],[2],[2]]:=Fx rfl dk
@[go_sem] def Ace:=F4 sa
def AIU:sa.tk=[]/\sa.mt=[]/\sa.pc=[]:=⟨rfl,rfl,rfl⟩
def AIW:FK AA 315 f315 sa:=F2 func315
def tC:Ee:=hm [6,34,8224,16,16] [] [] [7]
def AJX:tC.lv=Ft [[1,2],[1,5],[5,13],[4],[4]]:=Fx rfl dk
@[go_sem] def Acy:=F4 tC
def AJW:tC.tk=[]/\tC.mt=[]/\tC.pc=[7]:=⟨rfl,rfl,rfl⟩
def AJY:FK AA 274 f274 tC:=F2 func274
def sT:Ee:=hm [12,2199023255564,16,44,70368744177708,44,108,0x200000000000002c,16,16] [] [] [59]
def AIB:sT.lv=Ft [[2,3],[2,3,41],[4],[2,3,5],[2,3,5,46],[2,3,5],[2,3,5,6],[2,3,5,61],[4],[4]]:=Fx rfl dk
@[go_sem] def AcX:=F4 sT
def AIA:sT.tk=[]/\sT.mt=[]/\sT.pc=[59]:=⟨rfl,rfl,rfl⟩
def AAQ:FK AA 322 f322 sT:=F2 func322
def sJ:Ee:=hm [1,4] [] [] []
def AHq:sJ.lv=Ft [[0],[2]]:=Fx rfl dk
@[go_sem] def AcQ:=F4 sJ
def AHp:sJ.tk=[]/\sJ.mt=[]/\sJ.pc=[]:=⟨rfl,rfl,rfl⟩
def AHr:FK AA 348 f348 sJ:=F2 func348
def sI:Ee:=hm [1,9,25,537,25,131097,4,4] [] [] [5]
def AHn:sI.lv=Ft [[0],[0,3],[0,3,4],[0,3,4,9],[0,3,4],[0,3,4,17],[2],[2]]:=Fx rfl dk
@[go_sem] def AcP:=F4 sI
def AHm:sI.tk=[]/\sI.mt=[]/\sI.pc=[5]:=⟨rfl,rfl,rfl⟩
def AHo:FK AA 349 f349 sI:=F2 func349
def sF:Ee:=hm [1,4] [] [] []
def AHe:sF.lv=Ft [[0],[2]]:=Fx rfl dk
@[go_sem] def AcM:=F4 sF
def AHd:sF.tk=[]/\sF.mt=[]/\sF.pc=[]:=⟨rfl,rfl,rfl⟩
def AHf:FK AA 374 f374 sF:=F2 func374
def sG:Ee:=hm [1,9,25,4] [] [] [6,8]
def AHh:sG.lv=Ft [[0],[0,3],[0,3,4],[2]]:=Fx rfl dk
@[go_sem] def AcN:=F4 sG
def AHg:sG.tk=[]/\sG.mt=[]/\sG.pc=[6,8]:=⟨rfl,rfl,rfl⟩
def AHi:FK AA 366 f366 sG:=F2 func366
def sH:Ee:=hm [1,9,265,25,16393,9,4] [] [] [12]
def AHk:sH.lv=Ft [[0],[0,3],[0,3,8],[0,3,4],[0,3,14],[0,3],[2]]:=Fx rfl dk
@[go_sem] def AcO:=F4 sH
def AHj:sH.tk=[]/\sH.mt=[]/\sH.pc=[12]:=⟨rfl,rfl,rfl⟩
def AHl:FK AA 350 f350 sH:=F2 func350
def sK:Ee:=hm [1,4097,4,9,25,4] [] [] [15,17,21]
def AHt:sK.lv=Ft [[0],[0,12],[2],[0,3],[0,3,4],[2]]:=Fx rfl dk
@[go_sem] def AcR:=F4 sK
def AHs:sK.tk=[]/\sK.mt=[]/\sK.pc=[15,17,21]:=⟨rfl,rfl,rfl⟩
def AHu:FK AA 340 f340 sK:=F2 func340
def sZ:Ee:=hm [1,4] [] [] [4]
def AIS:sZ.lv=Ft [[0],[2]]:=Fx rfl dk
@[go_sem] def Acd:=F4 sZ
def AIR:sZ.tk=[]/\sZ.mt=[]/\sZ.pc=[4]:=⟨rfl,rfl,rfl⟩
def AIT:FK AA 316 f316 sZ:=F2 func316
def sU:Ee:=hm [1,9,4] [] [] [5]
def AID:sU.lv=Ft [[0],[0,3],[2]]:=Fx rfl dk
@[go_sem] def AcY:=F4 sU
def AIC:sU.tk=[]/\sU.mt=[]/\sU.pc=[5]:=⟨rfl,rfl,rfl⟩
def AIE:FK AA 321 f321 sU:=F2 func321
def sy:Ee:=hm [2,10,26,58,122,250,34359738618,103079215354,103079215354,194,1133871366394,194,0x80008000000fa,194,0x800000008000000ea,194,0x80000000000008000000e2,130,194,0x400000000000008000000e2,0x400000000000008000000e2,130,194,0x4000000000000000000000c2,194,0x10000000000000000000000000000042,4,322,0x80000000000000000000000000000142,322,834,0x20000000000000000000000000000000142,4,4] [] [] [12,135]
def AI6:sy.lv=Ft [[1],[1,3],[1,3,4],[1,3,4,5],[1,3,4,5,6],[1,3,4,5,6,7],[1,3,4,5,6,7,35],[1,3,4,5,6,7,35,36],[1,3,4,5,6,7,35,36],[1,6,7],[1,3,4,5,6,7,35,40],[1,6,7],[1,3,4,5,6,7,35,51],[1,6,7],[1,3,5,6,7,35,67],[1,6,7],[1,5,6,7,35,87],[1,7],[1,6,7],[1,5,6,7,35,90],[1,5,6,7,35,90],[1,7],[1,6,7],[1,6,7,94],[1,6,7],[1,6,124],[2],[1,6,8],[1,6,8,127],[1,6,8],[1,6,8,9],[1,6,8,137],[2],[2]]:=Fx rfl dk
@[go_sem] def Acq:=F4 sy
def AI5:sy.tk=[]/\sy.mt=[]/\sy.pc=[12,135]:=⟨rfl,rfl,rfl⟩
def AI7:FK AA 282 f282 sy:=F2 func282
def s4:Ee:=hm [2,10,26,58,122,250,67109114,201326842,194,34426847482,194,0x80000040000f2,0x80000040000f2,130,194,0x4000000000000f2,130,194,0x1000000000000000042,4,322,0x8000000000000000142,322,834,0x2000000000000000000142,4,4] [] [] [12,16,31,83]
def AI9:s4.lv=Ft [[1],[1,3],[1,3,4],[1,3,4,5],[1,3,4,5,6],[1,3,4,5,6,7],[1,3,4,5,6,7,26],[1,3,4,5,6,7,26,27],[1,6,7],[1,3,4,5,6,7,26,35],[1,6,7],[1,4,5,6,7,26,51],[1,4,5,6,7,26,51],[1,7],[1,6,7],[1,4,5,6,7,58],[1,7],[1,6,7],[1,6,72],[2],[1,6,8],[1,6,8,75],[1,6,8],[1,6,8,9],[1,6,8,85],[2],[2]]:=Fx rfl dk
@[go_sem] def Acr:=F4 s4
def AI8:s4.tk=[]/\s4.mt=[]/\s4.pc=[12,16,31,83]:=⟨rfl,rfl,rfl⟩
def AJA:FK AA 281 f281 s4:=F2 func281
def tf:Ee:=hm [2,4] [] [] [4,6,7]
def AKj:tf.lv=Ft [[1],[2]]:=Fx rfl dk
@[go_sem] def AdN:=F4 tf
def AKi:tf.tk=[]/\tf.mt=[]/\tf.pc=[4,6,7]:=⟨rfl,rfl,rfl⟩
def AKk:FK AA 224 f224 tf:=F2 func224
def sR:Ee:=hm [12,0x80000000000c,16,44,4503599627370540,44,0x2000000000000002c,16,16] [] [] []
def AH9:sR.lv=Ft [[2,3],[2,3,47],[4],[2,3,5],[2,3,5,52],[2,3,5],[2,3,5,65],[4],[4]]:=Fx rfl dk
@[go_sem] def AcW:=F4 sR
def AH8:sR.tk=[]/\sR.mt=[]/\sR.pc=[]:=⟨rfl,rfl,rfl⟩
def AAP:FK AA 323 f323 sR:=F2 func323
def sq:Ee:=hm [2,10,4098,4,18,536870914,4,34,17179869218,34,98,17592186044450,4,130,386,0x200000000000182,0x600000000000182,4,0x200200000000000182,4,0x20000200000000000182,4,0x2000000000200000000000182,4,0x200000000000000200000000000182,4,0x8000000000000000000000000000002,4,4] [] [] [11,15,42,47]
def AIx:sq.lv=Ft [[1],[1,3],[1,12],[2],[1,4],[1,29],[2],[1,5],[1,5,34],[1,5],[1,5,6],[1,5,44],[2],[1,7],[1,7,8],[1,7,8,57],[1,7,8,57,58],[2],[1,7,8,57,69],[2],[1,7,8,57,77],[2],[1,7,8,57,97],[2],[1,7,8,57,117],[2],[1,123],[2],[2]]:=Fx rfl dk
@[go_sem] def Acn:=F4 sq
def AIw:sq.tk=[]/\sq.mt=[]/\sq.pc=[11,15,42,47]:=⟨rfl,rfl,rfl⟩
def AIy:FK AA 285 f285 sq:=F2 func285
def tc:Ee:=hm [2,8,128,4,4] [] [] [5]
def AKa:tc.lv=Ft [[1],[3],[7],[2],[2]]:=Fx rfl dk
@[go_sem] def AdK:=F4 tc
def AKZ:tc.tk=[]/\tc.mt=[]/\tc.pc=[5]:=⟨rfl,rfl,rfl⟩
def AKb:FK AA 227 f227 tc:=F2 func227
def uY:Ee:=hm [1,257,4,9,4105,9,25,4194329,4,41,2147483689,4,4] [] [] [20,29]
def ANB:uY.lv=Ft [[0],[0,8],[2],[0,3],[0,3,12],[0,3],[0,3,4],[0,3,4,22],[2],[0,3,5],[0,3,5,31],[2],[2]]:=Fx rfl dk
@[go_sem] def Adz:=F4 uY
def ANA:uY.tk=[]/\uY.mt=[]/\uY.pc=[20,29]:=⟨rfl,rfl,rfl⟩
def ANC:FK AA 168 f168 uY:=F2 func168
def tY:Ee:=hm [19,275,48,83,8275,83,4194387,48,48] [23] [] [9]
def AKV:tY.lv=Ft [[0,1,4],[0,1,4,8],[4,5],[0,1,4,6],[0,1,4,6,13],[0,1,4,6],[0,1,4,6,22],[4,5],[4,5]]:=Fx rfl dk
@[go_sem] def AdI:=F4 tY
def AKU:tY.tk=[23]/\tY.mt=[]/\tY.pc=[9]:=⟨rfl,rfl,rfl⟩
def AAX:FK AA 229 f229 tY:=F2 func229
def sw:Ee:=hm [2,10,26,2074,26,26,4] [14,22] [] [20]
def AI3:sw.lv=Ft [[1],[1,3],[1,3,4],[1,3,4,11],[1,3,4],[1,3,4],[2]]:=Fx rfl dk
@[go_sem] def Acp:=F4 sw
def AI2:sw.tk=[14,22]/\sw.mt=[]/\sw.pc=[20]:=⟨rfl,rfl,rfl⟩
def AI4:FK AA 283 f283 sw:=F2 func283
def so:Ee:=hm [1,9,25,153,25,25,4] [] [] []
def AIu:so.lv=Ft [[0],[0,3],[0,3,4],[0,3,4,7],[0,3,4],[0,3,4],[2]]:=Fx rfl dk
@[go_sem] def Acm:=F4 so
def AIt:so.tk=[]/\so.mt=[]/\so.pc=[]:=⟨rfl,rfl,rfl⟩
def AIv:FK AA 287 f287 so:=F2 func287
def tX:Ee:=hm [2,4] [] [] [5]
def AKS:tX.lv=Ft [[1],[2]]:=Fx rfl dk
@[go_sem] def AdH:=F4 tX
def AKR:tX.tk=[]/\tX.mt=[]/\tX.pc=[5]:=⟨rfl,rfl,rfl⟩
def AKT:FK AA 230 f230 tX:=F2 func230
def sr:Ee:=hm [9,1048585,16,104,536870952,16,168,17179869352,168,4503599627370496,16,16] [22] [] [25,39]
def AI0:sr.lv=Ft [[0,3],[0,3,20],[4],[3,5,6],[3,5,29],[4],[3,5,7],[3,5,7,34],[3,5,7],[52],[4],[4]]:=Fx rfl dk
@[go_sem] def Aco:=F4 sr
def AIz:sr.tk=[22]/\sr.mt=[]/\sr.pc=[25,39]:=⟨rfl,rfl,rfl⟩
def AI1:FK AA 284 f284 sr:=F2 func284
def td:Ee:=hm [9,33,97,8289,97,225,8388833,16,16] [] [] [9,21]
def AKd:td.lv=Ft [[0,3],[0,5],[0,5,6],[0,5,6,13],[0,5,6],[0,5,6,7],[0,5,6,7,23],[4],[4]]:=Fx rfl dk
@[go_sem] def AdL:=F4 td
def AKc:td.tk=[]/\td.mt=[]/\td.pc=[9,21]:=⟨rfl,rfl,rfl⟩
def AKe:FK AA 226 f226 td:=F2 func226
def tZ:Ee:=hm [2,10,26,2074,26,26,4] [14,22] [] [20]
def AKX:tZ.lv=Ft [[1],[1,3],[1,3,4],[1,3,4,11],[1,3,4],[1,3,4],[2]]:=Fx rfl dk
@[go_sem] def AdJ:=F4 tZ
def AKW:tZ.tk=[14,22]/\tZ.mt=[]/\tZ.pc=[20]:=⟨rfl,rfl,rfl⟩
def AKY:FK AA 228 f228 tZ:=F2 func228
def Kw:Ee:=hx [9,41,8233,16,97,225,1048801,225,268435681,225,2199023255777,993,9007199254741473,225,0x20000000000000e1,225,0x80000000000000e1,16,16] [] [] [] [11,16,35,49,60] [(7,1)] []
def AM7:Kw.lv=Ft [[0,3],[0,3,5],[0,3,5,13],[4],[0,5,6],[0,5,6,7],[0,5,6,7,20],[0,5,6,7],[0,5,6,7,28],[0,5,6,7],[0,5,6,7,41],[0,5,6,7,8,9],[0,5,6,7,8,53],[0,5,6,7],[0,5,6,7,61],[0,5,6,7],[0,5,6,7,63],[4],[4]]:=Fx rfl dk
def AM9:Kw.ct 0=none/\Kw.ct 1=none/\Kw.ct 2=none/\Kw.ct 3=none/\Kw.ct 4=none/\Kw.ct 5=none/\Kw.ct 6=none/\Kw.ct 7=some 1/\Kw.ct 8=none/\Kw.ct 9=none/\Kw.ct 10=none/\Kw.ct 11=none/\Kw.ct 12=none/\Kw.ct 13=none/\Kw.ct 14=none/\Kw.ct 15=none/\Kw.ct 16=none/\Kw.ct 17=none/\Kw.ct 18=none:=dk
def AM4(k:Nat):Kw.at k=[]:=rfl
def AM5(k:Nat):Kw.dn k=false:=AH rfl rfl
def AM6:Kw.tk=[]/\Kw.mt=[]/\Kw.pc=[11,16,35,49,60]:=⟨rfl,rfl,rfl⟩
def AM8:FK AA 169 f169 Kw:=F2 func169
def JN:Ee:=hx [9,41,4194345,16,73,1073741897,73,201,549755814089,201,713,4503599627370697,16,1033,0x200000000000409,1033,3081,0x4000000000000c09,3081,0x8000000000000000c09,16,4104,0x100000000000000000000000,16,16] [31,77] [] [] [15,48,80,90] [(9,1)] []
def AM1:JN.lv=Ft [[0,3],[0,3,5],[0,3,5,22],[4],[0,3,6],[0,3,6,30],[0,3,6],[0,3,6,7],[0,3,6,7,39],[0,3,6,7],[0,3,6,7,9],[0,3,6,7,52],[4],[0,3,10],[0,3,10,57],[0,3,10],[0,3,10,11],[0,3,10,11,62],[0,3,10,11],[0,3,10,11,75],[4],[3,12],[92],[4],[4]]:=Fx rfl dk
def AM3:JN.ct 0=none/\JN.ct 1=none/\JN.ct 2=none/\JN.ct 3=none/\JN.ct 4=none/\JN.ct 5=none/\JN.ct 6=none/\JN.ct 7=none/\JN.ct 8=none/\JN.ct 9=some 1/\JN.ct 10=none/\JN.ct 11=none/\JN.ct 12=none/\JN.ct 13=none/\JN.ct 14=none/\JN.ct 15=none/\JN.ct 16=none/\JN.ct 17=none/\JN.ct 18=none/\JN.ct 19=none/\JN.ct 20=none/\JN.ct 21=none/\JN.ct 22=none/\JN.ct 23=none/\JN.ct 24=none:=dk
def AMy(k:Nat):JN.at k=[]:=rfl
def AMz(k:Nat):JN.dn k=false:=AH rfl rfl
def AM0:JN.tk=[31,77]/\JN.mt=[]/\JN.pc=[15,48,80,90]:=⟨rfl,rfl,rfl⟩
def AM2:FK AA 170 f170 JN:=F2 func170
def tW:Ee:=hm [3,1027,16,35,16419,35,33554467,16,16] [] [] []
def AKQ:tW.lv=Ft [[0,1],[0,1,10],[4],[0,1,5],[0,1,5,14],[0,1,5],[0,1,5,25],[4],[4]]:=Fx rfl dk
@[go_sem] def AdG:=F4 tW
def AKP:tW.tk=[]/\tW.mt=[]/\tW.pc=[]:=⟨rfl,rfl,rfl⟩
def AAW:FK AA 231 f231 tW:=F2 func231
def uQ:Ee:=hm [2,4] [] [] []
def AMV:uQ.lv=Ft [[1],[2]]:=Fx rfl dk
@[go_sem] def Adr:=F4 uQ
def AMU:uQ.tk=[]/\uQ.mt=[]/\uQ.pc=[]:=⟨rfl,rfl,rfl⟩
def AMW:FK AA 179 f179 uQ:=F2 func179
def Qe:Ee:=hx [3,35,99,4195,99,227,99,16] [24,29] [] [] [21] [(4,0)] []
def AMa:Qe.lv=Ft [[0,1],[0,1,5],[0,1,5,6],[0,1,5,6,12],[0,1,5,6],[0,1,5,6,7],[0,1,5,6],[4]]:=Fx rfl dk
def AMc:Qe.ct 0=none/\Qe.ct 1=none/\Qe.ct 2=none/\Qe.ct 3=none/\Qe.ct 4=some 0/\Qe.ct 5=none/\Qe.ct 6=none/\Qe.ct 7=none:=dk
def AMX(k:Nat):Qe.at k=[]:=rfl
def AMY(k:Nat):Qe.dn k=false:=AH rfl rfl
def AMZ:Qe.tk=[24,29]/\Qe.mt=[]/\Qe.pc=[21]:=⟨rfl,rfl,rfl⟩
def AMb:FK AA 178 f178 Qe:=F2 func178
def uR:Ee:=hm [1,8,24,4,72,72,4,520,512,4,4] [] [] []
def AMe:uR.lv=Ft [[0],[3],[3,4],[2],[3,6],[3,6],[2],[3,9],[9],[2],[2]]:=Fx rfl dk
@[go_sem] def Ads:=F4 uR
def AMd:uR.tk=[]/\uR.mt=[]/\uR.pc=[]:=⟨rfl,rfl,rfl⟩
def AMf:FK AA 177 f177 uR:=F2 func177
def uX:Ee:=hm [49,134217777,64,176,64] [] [] [9,12,31,35,36,41,44]
def AMw:uX.lv=Ft [[0,4,5],[0,4,5,27],[6],[4,5,7],[6]]:=Fx rfl dk
@[go_sem] def Ady:=F4 uX
def AMv:uX.tk=[]/\uX.mt=[]/\uX.pc=[9,12,31,35,36,41,44]:=⟨rfl,rfl,rfl⟩
def AMx:FK AA 171 f171 uX:=F2 func171
def Qc:Ee:=hx [3,35,65571,16,67,2097219,67,195,4294967491,16,323,4398046511427,16,515,0x800000000203,515,1539,4503599627372035,1539,3587,7683,0x4000000000000000000603,16,16] [] [] [] [14,30,40,84] [(18,0)] []
def AUk:Qc.lv=Ft [[0,1],[0,1,5],[0,1,5,16],[4],[0,1,6],[0,1,6,21],[0,1,6],[0,1,6,7],[0,1,6,7,32],[4],[0,1,6,8],[0,1,6,8,42],[4],[0,1,9],[0,1,9,47],[0,1,9],[0,1,9,10],[0,1,9,10,52],[0,1,9,10],[0,1,9,10,11],[0,1,9,10,11,12],[0,1,9,10,86],[4],[4]]:=Fx rfl dk
def AUm:Qc.ct 0=none/\Qc.ct 1=none/\Qc.ct 2=none/\Qc.ct 3=none/\Qc.ct 4=none/\Qc.ct 5=none/\Qc.ct 6=none/\Qc.ct 7=none/\Qc.ct 8=none/\Qc.ct 9=none/\Qc.ct 10=none/\Qc.ct 11=none/\Qc.ct 12=none/\Qc.ct 13=none/\Qc.ct 14=none/\Qc.ct 15=none/\Qc.ct 16=none/\Qc.ct 17=none/\Qc.ct 18=some 0/\Qc.ct 19=none/\Qc.ct 20=none/\Qc.ct 21=none/\Qc.ct 22=none/\Qc.ct 23=none:=dk
def AUh(k:Nat):Qc.at k=[]:=rfl
def AUi(k:Nat):Qc.dn k=false:=AH rfl rfl
def AUj:Qc.tk=[]/\Qc.mt=[]/\Qc.pc=[14,30,40,84]:=⟨rfl,rfl,rfl⟩
def AUl:FK AA 93 f93 Qc:=F2 func93
def sb:Ee:=hm [3,35,99,227,2275,227,8388835,163,227,8589934819,227,4398046511138,32,16] [24,34,43,47] [] []
def AIY:sb.lv=Ft [[0,1],[0,1,5],[0,1,5,6],[0,1,5,6,7],[0,1,5,6,7,11],[0,1,5,6,7],[0,1,5,6,7,23],[0,1,5,7],[0,1,5,6,7],[0,1,5,6,7,33],[0,1,5,6,7],[1,5,42],[5],[4]]:=Fx rfl dk
@[go_sem] def Acf:=F4 sb
def AIX:sb.tk=[24,34,43,47]/\sb.mt=[]/\sb.pc=[]:=⟨rfl,rfl,rfl⟩
def AIZ:FK AA 314 f314 sb:=F2 func314
def tF:Ee:=hm [2,10,24,56,2104,56,134217784,56,4] [] [] [7,34]
def AJf:tF.lv=Ft [[1],[1,3],[3,4],[3,4,5],[3,4,5,11],[3,4,5],[3,4,5,27],[3,4,5],[2]]:=Fx rfl dk
@[go_sem] def Ac1:=F4 tF
def AJe:tF.tk=[]/\tF.mt=[]/\tF.pc=[7,34]:=⟨rfl,rfl,rfl⟩
def AJg:FK AA 271 f271 tF:=F2 func271
def tD:Ee:=hm [3,35,547,35,131107,16,16] [] [] []
def AJa:tD.lv=Ft [[0,1],[0,1,5],[0,1,5,9],[0,1,5],[0,1,5,17],[4],[4]]:=Fx rfl dk
@[go_sem] def Acz:=F4 tD
def AJZ:tD.tk=[]/\tD.mt=[]/\tD.pc=[]:=⟨rfl,rfl,rfl⟩
def AAR:FK AA 273 f273 tD:=F2 func273
def LO:Ee:=hx [12,40,65576,16,72,4194376,72,200,456,34359738824,456,17592186044872,16,584,0x8000000000000048,16,16] [] [] [] [14,31,43,61] [(6,2)] []
def AKz:LO.lv=Ft [[2,3],[3,5],[3,5,16],[4],[3,6],[3,6,22],[3,6],[3,6,7],[3,6,7,8],[3,6,7,8,35],[3,6,7,8],[3,6,7,8,44],[4],[3,6,9],[3,6,63],[4],[4]]:=Fx rfl dk
def AK1:LO.ct 0=none/\LO.ct 1=none/\LO.ct 2=none/\LO.ct 3=none/\LO.ct 4=none/\LO.ct 5=none/\LO.ct 6=some 2/\LO.ct 7=none/\LO.ct 8=none/\LO.ct 9=none/\LO.ct 10=none/\LO.ct 11=none/\LO.ct 12=none/\LO.ct 13=none/\LO.ct 14=none/\LO.ct 15=none/\LO.ct 16=none:=dk
def AKw(k:Nat):LO.at k=[]:=rfl
def AKx(k:Nat):LO.dn k=false:=AH rfl rfl
def AKy:LO.tk=[]/\LO.mt=[]/\LO.pc=[14,31,43,61]:=⟨rfl,rfl,rfl⟩
def AK0:FK AA 219 f219 LO:=F2 func219
def te:Ee:=hm [2,4] [] [] [4,6,7]
def AKg:te.lv=Ft [[1],[2]]:=Fx rfl dk
@[go_sem] def AdM:=F4 te
def AKf:te.tk=[]/\te.mt=[]/\te.pc=[4,6,7]:=⟨rfl,rfl,rfl⟩
def AKh:FK AA 225 f225 te:=F2 func225
def uZ:Ee:=hm [9,41,553,16,16] [11] [] [7,13]
def ANE:uZ.lv=Ft [[0,3],[0,3,5],[0,3,5,9],[4],[4]]:=Fx rfl dk
@[go_sem] def Ad0:=F4 uZ
def AND:uZ.tk=[11]/\uZ.mt=[]/\uZ.pc=[7,13]:=⟨rfl,rfl,rfl⟩
def ANF:FK AA 167 f167 uZ:=F2 func167
def s9:Ee:=hm [2,10,26,58,32826,4,98362,98362,50,557114,50,4227106,4227106,50,33554466,50,34359738386,4,82,274877907026,82,210,281474976710738,4,4] [] [] [10,46]
def AJU:s9.lv=Ft [[1],[1,3],[1,3,4],[1,3,4,5],[1,3,4,5,15],[2],[1,3,4,5,15,16],[1,3,4,5,15,16],[1,4,5],[1,3,4,5,15,19],[1,4,5],[1,5,15,22],[1,5,15,22],[1,4,5],[1,5,25],[1,4,5],[1,4,35],[2],[1,4,6],[1,4,6,38],[1,4,6],[1,4,6,7],[1,4,6,48],[2],[2]]:=Fx rfl dk
@[go_sem] def Acx:=F4 s9
def AJT:s9.tk=[]/\s9.mt=[]/\s9.pc=[10,46]:=⟨rfl,rfl,rfl⟩
def AJV:FK AA 275 f275 s9:=F2 func275
def tj:Ee:=hm [2,4] [] [] [4,6,7]
def AKu:tj.lv=Ft [[1],[2]]:=Fx rfl dk
@[go_sem] def AdR:=F4 tj
def AKt:tj.tk=[]/\tj.mt=[]/\tj.pc=[4,6,7]:=⟨rfl,rfl,rfl⟩
def AKv:FK AA 220 f220 tj:=F2 func220
def ul:Ee:=hm [2,18,50,114,4210,114,114,178,268435634,178,178,12] [15,31,40,41] [] []
def ANr:ul.lv=Ft [[1],[1,4],[1,4,5],[1,4,5,6],[1,4,5,6,12],[1,4,5,6],[1,4,5,6],[1,4,5,7],[1,4,5,7,28],[1,4,5,7],[1,4,5,7],[2,3]]:=Fx rfl dk
@[go_sem] def Ad9:=F4 ul
def ANq:ul.tk=[15,31,40,41]/\ul.mt=[]/\ul.pc=[]:=⟨rfl,rfl,rfl⟩
def ANs:FK AA 156 f156 ul:=F2 func156
def ti:Ee:=hm [12,44,4194316,16,140,134217868,140,137438953612,16,16] [17] [] [10,20,36]
def AKs:ti.lv=Ft [[2,3],[2,3,5],[2,3,22],[4],[2,3,7],[2,3,7,27],[2,3,7],[2,3,7,37],[4],[4]]:=Fx rfl dk
@[go_sem] def AdQ:=F4 ti
def AKr:ti.tk=[17]/\ti.mt=[]/\ti.pc=[10,20,36]:=⟨rfl,rfl,rfl⟩
def AAY:FK AA 221 f221 ti:=F2 func221
def th:Ee:=hm [6,16] [] [] [7]
def AKp:th.lv=Ft [[1,2],[4]]:=Fx rfl dk
@[go_sem] def AdP:=F4 th
def AKo:th.tk=[]/\th.mt=[]/\th.pc=[7]:=⟨rfl,rfl,rfl⟩
def AKq:FK AA 222 f222 th:=F2 func222
def IZ:Ee:=hx [12,2147483660,16,44,68719476780,44,2199023255596,16,76,0x80000000004c,76,108,0x100000000000006c,108,0x20000000000000000006c,108,0x80000000000000000006c,16,136,0x20000000000000000000088,136,392,0x1000000000000000000000000000000188,16,904,0x8000000000000000000000000000000388,904,0x2000000000000000000000000000000000000388,16,16] [] [] [] [34,39,58,67,79,100,106] [(20,2)] []
def ANX:IZ.lv=Ft [[2,3],[2,3,31],[4],[2,3,5],[2,3,5,36],[2,3,5],[2,3,5,41],[4],[2,3,6],[2,3,6,47],[2,3,6],[2,3,5,6],[2,3,5,6,60],[2,3,5,6],[2,3,5,6,81],[2,3,5,6],[2,3,5,6,83],[4],[3,7],[3,7,89],[3,7],[3,7,8],[3,7,8,132],[4],[3,7,8,9],[3,7,8,9,135],[3,7,8,9],[3,7,8,9,157],[4],[4]]:=Fx rfl dk
def ANZ:IZ.ct 0=none/\IZ.ct 1=none/\IZ.ct 2=none/\IZ.ct 3=none/\IZ.ct 4=none/\IZ.ct 5=none/\IZ.ct 6=none/\IZ.ct 7=none/\IZ.ct 8=none/\IZ.ct 9=none/\IZ.ct 10=none/\IZ.ct 11=none/\IZ.ct 12=none/\IZ.ct 13=none/\IZ.ct 14=none/\IZ.ct 15=none/\IZ.ct 16=none/\IZ.ct 17=none/\IZ.ct 18=none/\IZ.ct 19=none/\IZ.ct 20=some 2/\IZ.ct 21=none/\IZ.ct 22=none/\IZ.ct 23=none/\IZ.ct 24=none/\IZ.ct 25=none/\IZ.ct 26=none/\IZ.ct 27=none/\IZ.ct 28=none/\IZ.ct 29=none:=dk
def ANU(k:Nat):IZ.at k=[]:=rfl
def ANV(k:Nat):IZ.dn k=false:=AH rfl rfl
def ANW:IZ.tk=[]/\IZ.mt=[]/\IZ.pc=[34,39,58,67,79,100,106]:=⟨rfl,rfl,rfl⟩
def ANY:FK AA 162 f162 IZ:=F2 func162
def h85:Ee:=hm [30,256] [] [] []
def AVE:h85.lv=Ft [[1,2,3,4],[8]]:=Fx rfl dk
@[go_sem] def Ae8:=F4 h85
def AVD:h85.tk=[]/\h85.mt=[]/\h85.pc=[]:=⟨rfl,rfl,rfl⟩
def AVF:FK AA 85 f85 h85:=F2 func85
def uj:Ee:=hm [1,9,521,9,25,262153,4,41,2097193,41,4294967337,4,4] [] [] [16]
def ANo:uj.lv=Ft [[0],[0,3],[0,3,9],[0,3],[0,3,4],[0,3,18],[2],[0,3,5],[0,3,5,21],[0,3,5],[0,3,5,32],[2],[2]]:=Fx rfl dk
@[go_sem] def Ad8:=F4 uj
def ANn:uj.tk=[]/\uj.mt=[]/\uj.pc=[16]:=⟨rfl,rfl,rfl⟩
def ANp:FK AA 157 f157 uj:=F2 func157
def ui:Ee:=hm [6,16] [] [] []
def ANl:ui.lv=Ft [[1,2],[4]]:=Fx rfl dk
@[go_sem] def Ad7:=F4 ui
def ANk:ui.tk=[]/\ui.mt=[]/\ui.pc=[]:=⟨rfl,rfl,rfl⟩
def ANm:FK AA 158 f158 ui:=F2 func158
def Pg:Ee:=hx [2,134217730,4,26,50,98,4398046511106,4,130,0x800000000082,130,386,0x1000000000000000082,4,514,0x20000000000000000202,514,1538,0x20000000000000000000000000202,4,2050,0x400000000000000000000000000802,2050,0x200000000000000000000000000000802,4,4] [33,35] [] [] [30,34,36,88,94,128] [(10,1),(16,1)] []
def AU5:Pg.lv=Ft [[1],[1,27],[2],[1,3,4],[1,4,5],[1,5,6],[1,42],[2],[1,7],[1,7,47],[1,7],[1,7,8],[1,7,72],[2],[1,9],[1,9,77],[1,9],[1,9,10],[1,9,113],[2],[1,11],[1,11,118],[1,11],[1,11,129],[2],[2]]:=Fx rfl dk
def AU7:Pg.ct 0=none/\Pg.ct 1=none/\Pg.ct 2=none/\Pg.ct 3=none/\Pg.ct 4=none/\Pg.ct 5=none/\Pg.ct 6=none/\Pg.ct 7=none/\Pg.ct 8=none/\Pg.ct 9=none/\Pg.ct 10=some 1/\Pg.ct 11=none/\Pg.ct 12=none/\Pg.ct 13=none/\Pg.ct 14=none/\Pg.ct 15=none/\Pg.ct 16=some 1/\Pg.ct 17=none/\Pg.ct 18=none/\Pg.ct 19=none/\Pg.ct 20=none/\Pg.ct 21=none/\Pg.ct 22=none/\Pg.ct 23=none/\Pg.ct 24=none/\Pg.ct 25=none:=dk
def AU2(k:Nat):Pg.at k=[]:=rfl
def AU3(k:Nat):Pg.dn k=false:=AH rfl rfl
def AU4:Pg.tk=[33,35]/\Pg.mt=[]/\Pg.pc=[30,34,36,88,94,128]:=⟨rfl,rfl,rfl⟩
def AU6:FK AA 88 f88 Pg:=F2 func88
def ug:Ee:=hm [2,4] [] [] []
def ANe:ug.lv=Ft [[1],[2]]:=Fx rfl dk
@[go_sem] def Ad5:=F4 ug
def ANd:ug.tk=[]/\ug.mt=[]/\ug.pc=[]:=⟨rfl,rfl,rfl⟩
def ANf:FK AA 160 f160 ug:=F2 func160
def uf:Ee:=hm [12,16] [] [] []
def ANb:uf.lv=Ft [[2,3],[4]]:=Fx rfl dk
@[go_sem] def Ad4:=F4 uf
def ANa:uf.tk=[]/\uf.mt=[]/\uf.pc=[]:=⟨rfl,rfl,rfl⟩
def ANc:FK AA 161 f161 uf:=F2 func161
def h89:Ee:=hm [1,2049,4,9,32777,9,25,8589934601,4,41,68719476777,41,562949953421353,4,73,72057594037927945,4,137,0x800000000000089,137,393,0x800000000000000089,4,4] [] [] [23,54,70]
def AU0:h89.lv=Ft [[0],[0,11],[2],[0,3],[0,3,15],[0,3],[0,3,4],[0,3,33],[2],[0,3,5],[0,3,5,36],[0,3,5],[0,3,5,49],[2],[0,3,6],[0,3,56],[2],[0,3,7],[0,3,7,59],[0,3,7],[0,3,7,8],[0,3,7,71],[2],[2]]:=Fx rfl dk
@[go_sem] def Ae5:=F4 h89
def AUz:h89.tk=[]/\h89.mt=[]/\h89.pc=[23,54,70]:=⟨rfl,rfl,rfl⟩
def AU1:FK AA 89 f89 h89:=F2 func89
def h46:Ee:=hm [2,10,42,10,131082,4,4] [] [] []
def AWe:h46.lv=Ft [[1],[1,3],[1,3,5],[1,3],[1,3,17],[2],[2]]:=Fx rfl dk
@[go_sem] def AfY:=F4 h46
def AWd:h46.tk=[]/\h46.mt=[]/\h46.pc=[]:=⟨rfl,rfl,rfl⟩
def AWf:FK AA 46 f46 h46:=F2 func46
def vS:Ee:=hm [449,961,473,8389057,449] [] [] []
def APp:vS.lv=Ft [[0,6,7,8],[0,6,7,8,9],[0,3,4,6,7,8],[0,6,7,8,23],[0,6,7,8]]:=Fx rfl dk
@[go_sem] def Aej:=F4 vS
def APo:vS.tk=[]/\vS.mt=[]/\vS.pc=[]:=⟨rfl,rfl,rfl⟩
def APq:FK AA 116 f116 vS:=F2 func116
def h62:Ee:=hm [2,4] [] [] []
def AWG:h62.lv=Ft [[1],[2]]:=Fx rfl dk
@[go_sem] def AfS:=F4 h62
def AWH:FK AA 62 f62 h62:=F2 func62
def h34:Ee:=hm [28,280,1080,120,8240,1,16] [] [] []
def AXI:h34.lv=Ft [[2,3,4],[3,4,8],[3,4,5,10],[3,4,5,6],[4,5,13],[0],[4]]:=Fx rfl dk
@[go_sem] def Afh:=F4 h34
def AXH:h34.tk=[]/\h34.mt=[]/\h34.pc=[]:=⟨rfl,rfl,rfl⟩
def AXJ:FK AA 34 f34 h34:=F2 func34
def h9:Ee:=hm [28,88,8280,48,24,48] [] [] [11]
def Ab4:h9.lv=Ft [[2,3,4],[3,4,6],[3,4,6,13],[4,5],[3,4],[4,5]]:=Fx rfl dk
@[go_sem] def Ags:=F4 h9
def Ab3:h9.tk=[]/\h9.mt=[]/\h9.pc=[11]:=⟨rfl,rfl,rfl⟩
def Ab5:FK AA 9 f9 h9:=F2 func9
def ue:Ee:=hm [6,38,1062,38,16777254,16,16] [] [] []
def ANN:ue.lv=Ft [[1,2],[1,2,5],[1,2,5,10],[1,2,5],[1,2,5,24],[4],[4]]:=Fx rfl dk
@[go_sem] def Ad3:=F4 ue
def ANM:ue.tk=[]/\ue.mt=[]/\ue.pc=[]:=⟨rfl,rfl,rfl⟩
def AAc:FK AA 164 f164 ue:=F2 func164
def h81:Ee:=hm [7,64] [] [] []
def AVP:h81.lv=Ft [[0,1,2],[6]]:=Fx rfl dk
@[go_sem] def AfC:=F4 h81
def AVO:h81.tk=[]/\h81.mt=[]/\h81.pc=[]:=⟨rfl,rfl,rfl⟩
def AVQ:FK AA 81 f81 h81:=F2 func81
def h39:Ee:=hm [6,2054,16,16] [] [] [10]
def AWz:h39.lv=Ft [[1,2],[1,2,11],[4],[4]]:=Fx rfl dk
@[go_sem] def Afe:=F4 h39
def AWy:h39.tk=[]/\h39.mt=[]/\h39.pc=[10]:=⟨rfl,rfl,rfl⟩
def AFs:FK AA 39 f39 h39:=F2 func39
def h12:Ee:=hm [28,88,4184,48,24,48] [] [] [10]
def AXr:h12.lv=Ft [[2,3,4],[3,4,6],[3,4,6,12],[4,5],[3,4],[4,5]]:=Fx rfl dk
@[go_sem] def Afu:=F4 h12
def AXq:h12.tk=[]/\h12.mt=[]/\h12.pc=[10]:=⟨rfl,rfl,rfl⟩
def AXs:FK AA 12 f12 h12:=F2 func12
def mr:AA.cellsOf 156=2/\JC AA 156=some (some 2)/\KF AA 156 = .struct [(0,1),(1,1)]/\FU AA 156 0=some (3,0)/\FU AA 156 1=some (3,1)/\Fg AA 156=some (.agg [.int .i64 0,.int .i64 0])/\AA.cellsOf 159=1/\JC AA 159=some none/\Fg AA 159=some (.nilf)/\AA.cellsOf 181=1/\JC AA 181=some none/\Fg AA 181=some (.nilf):=Tm
def AHA:JC AA 198=some none/\AA.underlying 332=some (.int .u64)/\AA.underlying 359=some (.array 49 9):=⟨kr,kr,kr⟩
def sY:Ee:=hm [5,4] [] [] []
def AIP:sY.lv=Ft [[0,2],[2]]:=Fx rfl dk
@[go_sem] def Acc:=F4 sY
def AIO:sY.tk=[]/\sY.mt=[]/\sY.pc=[]:=⟨rfl,rfl,rfl⟩
def AIQ:FK AA 317 f317 sY:=F2 func317
def sV:Ee:=hm [5,133,4,13,29,32797,29,29,4] [] [] []
def AIG:sV.lv=Ft [[0,2],[0,2,7],[2],[0,2,3],[0,2,3,4],[0,2,3,4,15],[0,2,3,4],[0,2,3,4],[2]]:=Fx rfl dk
@[go_sem] def AcZ:=F4 sV
def AIF:sV.tk=[]/\sV.mt=[]/\sV.pc=[]:=⟨rfl,rfl,rfl⟩
def AIH:FK AA 320 f320 sV:=F2 func320
def s5:Ee:=hm [6,14,30,542,30,30,4] [12,22] [] [19,23]
def AJC:s5.lv=Ft [[1,2],[1,2,3],[1,2,3,4],[1,2,3,4,9],[1,2,3,4],[1,2,3,4],[2]]:=Fx rfl dk
@[go_sem] def Acs:=F4 s5
def AJB:s5.tk=[12,22]/\s5.mt=[]/\s5.pc=[19,23]:=⟨rfl,rfl,rfl⟩
def AJD:FK AA 280 f280 s5:=F2 func280
def sX:Ee:=hm [19,16] [] [] []
def AIM:sX.lv=Ft [[0,1,4],[4]]:=Fx rfl dk
@[go_sem] def Acb:=F4 sX
def AIL:sX.tk=[]/\sX.mt=[]/\sX.pc=[]:=⟨rfl,rfl,rfl⟩
def AIN:FK AA 318 f318 sX:=F2 func318
def s7:Ee:=hm [28,16] [] [] []
def AJO:s7.lv=Ft [[2,3,4],[4]]:=Fx rfl dk
@[go_sem] def Acv:=F4 s7
def AJN:s7.tk=[]/\s7.mt=[]/\s7.pc=[]:=⟨rfl,rfl,rfl⟩
def AJP:FK AA 277 f277 s7:=F2 func277
def s6:Ee:=hm [6,4] [] [] []
def AJF:s6.lv=Ft [[1,2],[2]]:=Fx rfl dk
@[go_sem] def Acu:=F4 s6
def AJE:s6.tk=[]/\s6.mt=[]/\s6.pc=[]:=⟨rfl,rfl,rfl⟩
def AJG:FK AA 279 f279 s6:=F2 func279
def sW:Ee:=hm [28,16] [] [] []
def AIJ:sW.lv=Ft [[2,3,4],[4]]:=Fx rfl dk
@[go_sem] def Aca:=F4 sW
def AII:sW.tk=[]/\sW.mt=[]/\sW.pc=[]:=⟨rfl,rfl,rfl⟩
def AIK:FK AA 319 f319 sW:=F2 func319
def Od:Ee:=hx [6,14,30,4126,30,62,4294967358,30,30,4] [] [] [] [7,21,22,29,30,36] [(4,3)] []
def AJK:Od.lv=Ft [[1,2],[1,2,3],[1,2,3,4],[1,2,3,4,12],[1,2,3,4],[1,2,3,4,5],[1,2,3,4,5,32],[1,2,3,4],[1,2,3,4],[2]]:=Fx rfl dk
def AJM:Od.ct 0=none/\Od.ct 1=none/\Od.ct 2=none/\Od.ct 3=none/\Od.ct 4=some 3/\Od.ct 5=none/\Od.ct 6=none/\Od.ct 7=none/\Od.ct 8=none/\Od.ct 9=none:=dk
def AJH(k:Nat):Od.at k=[]:=rfl
def AJI(k:Nat):Od.dn k=false:=AH rfl rfl
def AJJ:Od.tk=[]/\Od.mt=[]/\Od.pc=[7,21,22,29,30,36]:=⟨rfl,rfl,rfl⟩
def AJL:FK AA 278 f278 Od:=F2 func278
def s8:Ee:=hm [6,4] [] [] []
def AJR:s8.lv=Ft [[1,2],[2]]:=Fx rfl dk
@[go_sem] def Acw:=F4 s8
def AJQ:s8.tk=[]/\s8.mt=[]/\s8.pc=[]:=⟨rfl,rfl,rfl⟩
def AJS:FK AA 276 f276 s8:=F2 func276
def tg:Ee:=hm [28,1052,16,60,120,16] [] [] [13,15,16,18,21,24,26]
def AKm:tg.lv=Ft [[2,3,4],[2,3,4,10],[4],[2,3,4,5],[3,4,5,6],[4]]:=Fx rfl dk
@[go_sem] def AdO:=F4 tg
def AKl:tg.tk=[]/\tg.mt=[]/\tg.pc=[13,15,16,18,21,24,26]:=⟨rfl,rfl,rfl⟩
def AKn:FK AA 223 f223 tg:=F2 func223
def Of:Ee:=hx [2,18,50,2098,50,114,16777330,12,50,12] [25,36] [] [] [21,23] [(4,1)] []
def ANR:Of.lv=Ft [[1],[1,4],[1,4,5],[1,4,5,11],[1,4,5],[1,4,5,6],[1,4,5,6,24],[2,3],[1,4,5],[2,3]]:=Fx rfl dk
def ANT:Of.ct 0=none/\Of.ct 1=none/\Of.ct 2=none/\Of.ct 3=none/\Of.ct 4=some 1/\Of.ct 5=none/\Of.ct 6=none/\Of.ct 7=none/\Of.ct 8=none/\Of.ct 9=none:=dk
def ANO(k:Nat):Of.at k=[]:=rfl
def ANP(k:Nat):Of.dn k=false:=AH rfl rfl
def ANQ:Of.tk=[25,36]/\Of.mt=[]/\Of.pc=[21,23]:=⟨rfl,rfl,rfl⟩
def ANS:FK AA 163 f163 Of:=F2 func163
def vR:Ee:=hm [5,4] [] [] []
def APm:vR.lv=Ft [[0,2],[2]]:=Fx rfl dk
@[go_sem] def Aei:=F4 vR
def APl:vR.tk=[]/\vR.mt=[]/\vR.pc=[]:=⟨rfl,rfl,rfl⟩
def APn:FK AA 117 f117 vR:=F2 func117
def Oe:Ee:=hx [85,4181,64,197,1835204,3932356,1835716,1835204,1835204,64] [17] [] [] [] [(8,3)] []
def AMO:Oe.lv=Ft [[0,2,4,6],[0,2,4,6,12],[6],[0,2,6,7],[2,6,7,18,19,20],[2,6,7,18,19,20,21],[2,6,7,9,18,19,20],[2,6,7,18,19,20],[2,6,7,18,19,20],[6]]:=Fx rfl dk
def AMQ:Oe.ct 0=none/\Oe.ct 1=none/\Oe.ct 2=none/\Oe.ct 3=none/\Oe.ct 4=none/\Oe.ct 5=none/\Oe.ct 6=none/\Oe.ct 7=none/\Oe.ct 8=some 3/\Oe.ct 9=none:=dk
def AML(k:Nat):Oe.at k=[]:=rfl
def AMM(k:Nat):Oe.dn k=false:=AH rfl rfl
def AMN:Oe.tk=[17]/\Oe.mt=[]/\Oe.pc=[]:=⟨rfl,rfl,rfl⟩
def AMP:FK AA 192 f192 Oe:=F2 func192
def uO:Ee:=hm [28,16] [] [] []
def AMJ:uO.lv=Ft [[2,3,4],[4]]:=Fx rfl dk
@[go_sem] def Adp:=F4 uO
def AMI:uO.tk=[]/\uO.mt=[]/\uO.pc=[]:=⟨rfl,rfl,rfl⟩
def AMK:FK AA 193 f193 uO:=F2 func193
def vP:Ee:=hm [5,13,460,972,492,460,460,4] [6,12,18] [] [14,20]
def APa:vP.lv=Ft [[0,2],[0,2,3],[2,3,6,7,8],[2,3,6,7,8,9],[2,3,5,6,7,8],[2,3,6,7,8],[2,3,6,7,8],[2]]:=Fx rfl dk
@[go_sem] def Aeg:=F4 vP
def APZ:vP.tk=[6,12,18]/\vP.mt=[]/\vP.pc=[14,20]:=⟨rfl,rfl,rfl⟩
def APb:FK AA 120 f120 vP:=F2 func120
def mA:Ee:=hx [6,14,908,1932,940,908,908,4] [13,19] [] [] [20] [(6,2)] []
def AV1:mA.lv=Ft [[1,2],[1,2,3],[2,3,7,8,9],[2,3,7,8,9,10],[2,3,5,7,8,9],[2,3,7,8,9],[2,3,7,8,9],[2]]:=Fx rfl dk
def AV3:mA.ct 0=none/\mA.ct 1=none/\mA.ct 2=none/\mA.ct 3=none/\mA.ct 4=none/\mA.ct 5=none/\mA.ct 6=some 2/\mA.ct 7=none:=dk
def AVy(k:Nat):mA.at k=[]:=rfl
def AVz(k:Nat):mA.dn k=false:=AH rfl rfl
def AV0:mA.tk=[13,19]/\mA.mt=[]/\mA.pc=[20]:=⟨rfl,rfl,rfl⟩
def AV2:FK AA 66 f66 mA:=F2 func66
def xP:Ee:=hm [28,16] [] [] []
def AWE:xP.lv=Ft [[2,3,4],[4]]:=Fx rfl dk
@[go_sem] def AfR:=F4 xP
def AWD:xP.tk=[]/\xP.mt=[]/\xP.pc=[]:=⟨rfl,rfl,rfl⟩
def AWF:FK AA 63 f63 xP:=F2 func63
def h65:Ee:=hm [6,4] [] [] []
def AV5:h65.lv=Ft [[1,2],[2]]:=Fx rfl dk
@[go_sem] def AfQ:=F4 h65
def AV4:h65.tk=[]/\h65.mt=[]/\h65.pc=[]:=⟨rfl,rfl,rfl⟩
def AV6:FK AA 65 f65 h65:=F2 func65
def Og:Ee:=hx [85,4181,64,197,1835204,3932356,1835716,1835204,1835204,64] [17] [] [] [] [(8,3)] []
def APi:Og.lv=Ft [[0,2,4,6],[0,2,4,6,12],[6],[0,2,6,7],[2,6,7,18,19,20],[2,6,7,18,19,20,21],[2,6,7,9,18,19,20],[2,6,7,18,19,20],[2,6,7,18,19,20],[6]]:=Fx rfl dk
def APk:Og.ct 0=none/\Og.ct 1=none/\Og.ct 2=none/\Og.ct 3=none/\Og.ct 4=none/\Og.ct 5=none/\Og.ct 6=none/\Og.ct 7=none/\Og.ct 8=some 3/\Og.ct 9=none:=dk
def APf(k:Nat):Og.at k=[]:=rfl
def APg(k:Nat):Og.dn k=false:=AH rfl rfl
def APh:Og.tk=[17]/\Og.mt=[]/\Og.pc=[]:=⟨rfl,rfl,rfl⟩
def APj:FK AA 118 f118 Og:=F2 func118
def vQ:Ee:=hm [28,16] [] [] []
def APd:vQ.lv=Ft [[2,3,4],[4]]:=Fx rfl dk
@[go_sem] def Aeh:=F4 vQ
def APc:vQ.tk=[]/\vQ.mt=[]/\vQ.pc=[]:=⟨rfl,rfl,rfl⟩
def APe:FK AA 119 f119 vQ:=F2 func119
def mB:Ee:=hx [6,14,908,1932,940,908,908,4] [13,25] [] [] [16,17,21,27,28] [(6,2)] []
def AWA:mB.lv=Ft [[1,2],[1,2,3],[2,3,7,8,9],[2,3,7,8,9,10],[2,3,5,7,8,9],[2,3,7,8,9],[2,3,7,8,9],[2]]:=Fx rfl dk
def AWC:mB.ct 0=none/\mB.ct 1=none/\mB.ct 2=none/\mB.ct 3=none/\mB.ct 4=none/\mB.ct 5=none/\mB.ct 6=some 2/\mB.ct 7=none:=dk
def AV7(k:Nat):mB.at k=[]:=rfl
def AV8(k:Nat):mB.dn k=false:=AH rfl rfl
def AV9:mB.tk=[13,25]/\mB.mt=[]/\mB.pc=[16,17,21,27,28]:=⟨rfl,rfl,rfl⟩
def AWB:FK AA 64 f64 mB:=F2 func64
def h35:Ee:=hm [28,540,16,60,16] [] [] [12,14,19,21,24,25]
def AXF:h35.lv=Ft [[2,3,4],[2,3,4,9],[4],[2,3,4,5],[4]]:=Fx rfl dk
@[go_sem] def Afg:=F4 h35
def AXE:h35.tk=[]/\h35.mt=[]/\h35.pc=[12,14,19,21,24,25]:=⟨rfl,rfl,rfl⟩
def AXG:FK AA 35 f35 h35:=F2 func35
def vL:Ee:=hm [2,1024,4,4] [] [] []
def APM:vL.lv=Ft [[1],[10],[2],[2]]:=Fx rfl dk
@[go_sem] def Aed:=F4 vL
def APL:vL.tk=[]/\vL.mt=[]/\vL.pc=[]:=⟨rfl,rfl,rfl⟩
def APN:FK AA 124 f124 vL:=F2 func124
def h68:Ee:=hm [6,34,546,16,8192,16,16] [] [] [7]
def AVu:h68.lv=Ft [[1,2],[1,5],[1,5,9],[4],[13],[4],[4]]:=Fx rfl dk
@[go_sem] def AfO:=F4 h68
def AVt:h68.tk=[]/\h68.mt=[]/\h68.pc=[7]:=⟨rfl,rfl,rfl⟩
def AVv:FK AA 68 f68 h68:=F2 func68
def vN:Ee:=hm [28,16] [] [] []
def APR:vN.lv=Ft [[2,3,4],[4]]:=Fx rfl dk
@[go_sem] def Aef:=F4 vN
def APQ:vN.tk=[]/\vN.mt=[]/\vN.pc=[]:=⟨rfl,rfl,rfl⟩
def APS:FK AA 122 f122 vN:=F2 func122
def Qd:Ee:=hx [19,51,3634,7730,3762,3634,3634,16] [9] [] [] [18,19] [(6,2)] []
def AMF:Qd.lv=Ft [[0,1,4],[0,1,4,5],[1,4,5,9,10,11],[1,4,5,9,10,11,12],[1,4,5,7,9,10,11],[1,4,5,9,10,11],[1,4,5,9,10,11],[4]]:=Fx rfl dk
def AMH:Qd.ct 0=none/\Qd.ct 1=none/\Qd.ct 2=none/\Qd.ct 3=none/\Qd.ct 4=none/\Qd.ct 5=none/\Qd.ct 6=some 2/\Qd.ct 7=none:=dk
def AMC(k:Nat):Qd.at k=[]:=rfl
def AMD(k:Nat):Qd.dn k=false:=AH rfl rfl
def AME:Qd.tk=[9]/\Qd.mt=[]/\Qd.pc=[18,19]:=⟨rfl,rfl,rfl⟩
def AMG:FK AA 194 f194 Qd:=F2 func194
def vM:Ee:=hm [6,4] [] [] [5]
def APP:vM.lv=Ft [[1,2],[2]]:=Fx rfl dk
@[go_sem] def Aee:=F4 vM
def APO:vM.tk=[]/\vM.mt=[]/\vM.pc=[5]:=⟨rfl,rfl,rfl⟩
def AAi:FK AA 123 f123 vM:=F2 func123
def Qf:Ee:=hx [19,51,3634,7730,3762,3634,3634,16] [9] [] [] [18,19] [(6,2)] []
def APW:Qf.lv=Ft [[0,1,4],[0,1,4,5],[1,4,5,9,10,11],[1,4,5,9,10,11,12],[1,4,5,7,9,10,11],[1,4,5,9,10,11],[1,4,5,9,10,11],[4]]:=Fx rfl dk
def APY:Qf.ct 0=none/\Qf.ct 1=none/\Qf.ct 2=none/\Qf.ct 3=none/\Qf.ct 4=none/\Qf.ct 5=none/\Qf.ct 6=some 2/\Qf.ct 7=none:=dk
def APT(k:Nat):Qf.at k=[]:=rfl
def APU(k:Nat):Qf.dn k=false:=AH rfl rfl
def APV:Qf.tk=[9]/\Qf.mt=[]/\Qf.pc=[18,19]:=⟨rfl,rfl,rfl⟩
def APX:FK AA 121 f121 Qf:=F2 func121
def h67:Ee:=hm [6,14,526,12,4] [] [] [6,13,14]
def AVx:h67.lv=Ft [[1,2],[1,2,3],[1,2,3,9],[2,3],[2]]:=Fx rfl dk
@[go_sem] def AfP:=F4 h67
def AVw:h67.tk=[]/\h67.mt=[]/\h67.pc=[6,13,14]:=⟨rfl,rfl,rfl⟩
def AFq:FK AA 67 f67 h67:=F2 func67
def sQ:Ee:=hm [7,64] [] [] []
def AH6:sQ.lv=Ft [[0,1,2],[6]]:=Fx rfl dk
@[go_sem] def AcV:=F4 sQ
def AH5:sQ.tk=[]/\sQ.mt=[]/\sQ.pc=[]:=⟨rfl,rfl,rfl⟩
def AH7:FK AA 335 f335 sQ:=F2 func335
def sj:Ee:=hm [1,4] [] [] [4]
def AIn:sj.lv=Ft [[0],[2]]:=Fx rfl dk
@[go_sem] def Ack:=F4 sj
def AIm:sj.tk=[]/\sj.mt=[]/\sj.pc=[4]:=⟨rfl,rfl,rfl⟩
def AIo:FK AA 307 f307 sj:=F2 func307
def uw:Ee:=hm [1,4] [] [] []
def AN9:uw.lv=Ft [[0],[2]]:=Fx rfl dk
@[go_sem] def AeG:=F4 uw
def AN8:uw.tk=[]/\uw.mt=[]/\uw.pc=[]:=⟨rfl,rfl,rfl⟩
def AOA:FK AA 149 f149 uw:=F2 func149
def sP:Ee:=hm [3,16] [] [] [6,9]
def AH3:sP.lv=Ft [[0,1],[4]]:=Fx rfl dk
@[go_sem] def AcU:=F4 sP
def AH2:sP.tk=[]/\sP.mt=[]/\sP.pc=[6,9]:=⟨rfl,rfl,rfl⟩
def AH4:FK AA 336 f336 sP:=F2 func336
def sO:Ee:=hm [1,4] [] [] []
def AH0:sO.lv=Ft [[0],[2]]:=Fx rfl dk
@[go_sem] def AcT:=F4 sO
def AHz:sO.tk=[]/\sO.mt=[]/\sO.pc=[]:=⟨rfl,rfl,rfl⟩
def AH1:FK AA 337 f337 sO:=F2 func337
def sh:Ee:=hm [3,67,451,33219,963,134218691,451,451,48] [43] [] [27,47,50]
def AIk:sh.lv=Ft [[0,1],[0,1,6],[0,1,6,7,8],[0,1,6,7,8,15],[0,1,6,7,8,9],[0,1,6,7,8,9,27],[0,1,6,7,8],[0,1,6,7,8],[4,5]]:=Fx rfl dk
@[go_sem] def Acj:=F4 sh
def AIj:sh.tk=[43]/\sh.mt=[]/\sh.pc=[27,47,50]:=⟨rfl,rfl,rfl⟩
def AIl:FK AA 308 f308 sh:=F2 func308
def sg:Ee:=hm [3,35,65571,35,16] [] [] []
def AIh:sg.lv=Ft [[0,1],[0,1,5],[0,1,5,16],[0,1,5],[4]]:=Fx rfl dk
@[go_sem] def Aci:=F4 sg
def AIg:sg.tk=[]/\sg.mt=[]/\sg.pc=[]:=⟨rfl,rfl,rfl⟩
def AIi:FK AA 309 f309 sg:=F2 func309
def sL:Ee:=hm [1,4] [] [] [4]
def AHx:sL.lv=Ft [[0],[2]]:=Fx rfl dk
@[go_sem] def AcS:=F4 sL
def AHw:sL.tk=[]/\sL.mt=[]/\sL.pc=[4]:=⟨rfl,rfl,rfl⟩
def AHy:FK AA 338 f338 sL:=F2 func338
def sd:Ee:=hm [1,4] [] [] [4,7]
def AIb:sd.lv=Ft [[0],[2]]:=Fx rfl dk
@[go_sem] def Acg:=F4 sd
def AIa:sd.tk=[]/\sd.mt=[]/\sd.pc=[4,7]:=⟨rfl,rfl,rfl⟩
def AIc:FK AA 311 f311 sd:=F2 func311
def sf:Ee:=hm [1,4] [] [] [5]
def AIe:sf.lv=Ft [[0],[2]]:=Fx rfl dk
@[go_sem] def Ach:=F4 sf
def AId:sf.tk=[]/\sf.mt=[]/\sf.pc=[5]:=⟨rfl,rfl,rfl⟩
def AIf:FK AA 310 f310 sf:=F2 func310
def tP:Ee:=hm [1,131073,4,17,4] [] [] [15,21,28]
def AKE:tP.lv=Ft [[0],[0,17],[2],[0,4],[2]]:=Fx rfl dk
@[go_sem] def AdC:=F4 tP
def AKD:tP.tk=[]/\tP.mt=[]/\tP.pc=[15,21,28]:=⟨rfl,rfl,rfl⟩
def AKF:FK AA 259 f259 tP:=F2 func259
def uL:Ee:=hm [1,4] [] [] [4]
def ALy:uL.lv=Ft [[0],[2]]:=Fx rfl dk
@[go_sem] def Adm:=F4 uL
def ALx:uL.tk=[]/\uL.mt=[]/\uL.pc=[4]:=⟨rfl,rfl,rfl⟩
def ALz:FK AA 198 f198 uL:=F2 func198
def vI:Ee:=hm [1,4] [] [] [7]
def APF:vI.lv=Ft [[0],[2]]:=Fx rfl dk
@[go_sem] def Aea:=F4 vI
def APE:vI.tk=[]/\vI.mt=[]/\vI.pc=[7]:=⟨rfl,rfl,rfl⟩
def APG:FK AA 127 f127 vI:=F2 func127
def vH:Ee:=hm [1,4] [] [] []
def APC:vH.lv=Ft [[0],[2]]:=Fx rfl dk
@[go_sem] def AeZ:=F4 vH
def APB:vH.tk=[]/\vH.mt=[]/\vH.pc=[]:=⟨rfl,rfl,rfl⟩
def APD:FK AA 128 f128 vH:=F2 func128
def uN:Ee:=hm [1,4] [] [] []
def AL4:uN.lv=Ft [[0],[2]]:=Fx rfl dk
@[go_sem] def Ado:=F4 uN
def AL3:uN.tk=[]/\uN.mt=[]/\uN.pc=[]:=⟨rfl,rfl,rfl⟩
def AL5:FK AA 196 f196 uN:=F2 func196
def sk:Ee:=hm [3,387,899,419,65955,16,387,16] [] [] []
def AIq:sk.lv=Ft [[0,1],[0,1,7,8],[0,1,7,8,9],[0,1,5,7,8],[0,1,5,7,8,16],[4],[0,1,7,8],[4]]:=Fx rfl dk
@[go_sem] def Acl:=F4 sk
def AIp:sk.tk=[]/\sk.mt=[]/\sk.pc=[]:=⟨rfl,rfl,rfl⟩
def AIr:FK AA 306 f306 sk:=F2 func306
def tT:Ee:=hm [3,16] [5] [] []
def AKK:tT.lv=Ft [[0,1],[4]]:=Fx rfl dk
@[go_sem] def AdE:=F4 tT
def AKJ:tT.tk=[5]/\tT.mt=[]/\tT.pc=[]:=⟨rfl,rfl,rfl⟩
def AKL:FK AA 257 f257 tT:=F2 func257
def tQ:Ee:=hm [6,8] [] [] []
def AKH:tQ.lv=Ft [[1,2],[3]]:=Fx rfl dk
@[go_sem] def AdD:=F4 tQ
def AKG:tQ.tk=[]/\tQ.mt=[]/\tQ.pc=[]:=⟨rfl,rfl,rfl⟩
def AKI:FK AA 258 f258 tQ:=F2 func258
def uM:Ee:=hm [35,64] [12] [] []
def AL1:uM.lv=Ft [[0,1,5],[6]]:=Fx rfl dk
@[go_sem] def Adn:=F4 uM
def AL0:uM.tk=[12]/\uM.mt=[]/\uM.pc=[]:=⟨rfl,rfl,rfl⟩
def AL2:FK AA 197 f197 uM:=F2 func197
def vJ:Ee:=hm [2,10,262154,786442,786442,4,537133066,4,0x400000004000a,4,0x1000000000000004000a,4,0x10000000000000000000004000a,4,0x100000000000000000000000000004000a,4,0x10000000000000000000000000000004000a,0x10000000000000000000000000000000000a,4,4] [] [] [33,37,54,58,80,84,89,112,117,138,147]
def API:vJ.lv=Ft [[1],[1,3],[1,3,18],[1,3,18,19],[1,3,18,19],[2],[1,3,18,29],[2],[1,3,18,50],[2],[1,3,18,76],[2],[1,3,18,104],[2],[1,3,18,132],[2],[1,3,18,140],[1,3,140],[2],[2]]:=Fx rfl dk
@[go_sem] def Aeb:=F4 vJ
def APH:vJ.tk=[]/\vJ.mt=[]/\vJ.pc=[33,37,54,58,80,84,89,112,117,138,147]:=⟨rfl,rfl,rfl⟩
def MP:FK AA 126 f126 vJ:=F2 func126
def N4:Ee:=hx [7,16391,64,229382,491526,229766,230150,1073971206,64,229382,64] [15] [] [] [] [(9,0)] []
def AL9:N4.lv=Ft [[0,1,2],[0,1,2,14],[6],[1,2,15,16,17],[1,2,15,16,17,18],[1,2,7,8,15,16,17],[1,2,8,9,15,16,17],[1,2,15,16,17,30],[6],[1,2,15,16,17],[6]]:=Fx rfl dk
def AMB:N4.ct 0=none/\N4.ct 1=none/\N4.ct 2=none/\N4.ct 3=none/\N4.ct 4=none/\N4.ct 5=none/\N4.ct 6=none/\N4.ct 7=none/\N4.ct 8=none/\N4.ct 9=some 0/\N4.ct 10=none:=dk
def AL6(k:Nat):N4.at k=[]:=rfl
def AL7(k:Nat):N4.dn k=false:=AH rfl rfl
def AL8:N4.tk=[15]/\N4.mt=[]/\N4.pc=[]:=⟨rfl,rfl,rfl⟩
def AMA:FK AA 195 f195 N4:=F2 func195
def vK:Ee:=hm [12,16] [] [] [36]
def APK:vK.lv=Ft [[2,3],[4]]:=Fx rfl dk
@[go_sem] def Aec:=F4 vK
def APJ:vK.tk=[]/\vK.mt=[]/\vK.pc=[36]:=⟨rfl,rfl,rfl⟩
def AAh:FK AA 125 f125 vK:=F2 func125
def tO:Ee:=hm [3,387,899,419,65955,16,387,16] [] [] []
def AKB:tO.lv=Ft [[0,1],[0,1,7,8],[0,1,7,8,9],[0,1,5,7,8],[0,1,5,7,8,16],[4],[0,1,7,8],[4]]:=Fx rfl dk
@[go_sem] def AdB:=F4 tO
def AKA:tO.tk=[]/\tO.mt=[]/\tO.pc=[]:=⟨rfl,rfl,rfl⟩
def AKC:FK AA 260 f260 tO:=F2 func260
def uK:Ee:=hm [3,16] [5] [] []
def ALv:uK.lv=Ft [[0,1],[4]]:=Fx rfl dk
@[go_sem] def Adl:=F4 uK
def ALu:uK.tk=[5]/\uK.mt=[]/\uK.pc=[]:=⟨rfl,rfl,rfl⟩
def ALw:FK AA 199 f199 uK:=F2 func199
def uJ:Ee:=hm [6,8] [] [] []
def ALs:uJ.lv=Ft [[1,2],[3]]:=Fx rfl dk
@[go_sem] def Adk:=F4 uJ
def ALr:uJ.tk=[]/\uJ.mt=[]/\uJ.pc=[]:=⟨rfl,rfl,rfl⟩
def ALt:FK AA 200 f200 uJ:=F2 func200
def vG:Ee:=hm [35,64] [12] [] []
def AO9:vG.lv=Ft [[0,1,5],[6]]:=Fx rfl dk
@[go_sem] def AeY:=F4 vG
def AO8:vG.tk=[12]/\vG.mt=[]/\vG.pc=[]:=⟨rfl,rfl,rfl⟩
def APA:FK AA 129 f129 vG:=F2 func129
def h70:Ee:=hm [2,26,262170,786458,4,8590196762,4,4503599627632666,4,0x800000000004001a,0x800000000000001a,4,4] [] [] [8,31,45,50,61,73]
def AVp:h70.lv=Ft [[1],[1,3,4],[1,3,4,18],[1,3,4,18,19],[2],[1,3,4,18,33],[2],[1,3,4,18,52],[2],[1,3,4,18,63],[1,3,4,63],[2],[2]]:=Fx rfl dk
@[go_sem] def AfM:=F4 h70
def AVo:h70.tk=[]/\h70.mt=[]/\h70.pc=[8,31,45,50,61,73]:=⟨rfl,rfl,rfl⟩
def Yc:FK AA 70 f70 h70:=F2 func70
def h69:Ee:=hm [1,2] [] [] [3]
def AVr:h69.lv=Ft [[0],[1]]:=Fx rfl dk
@[go_sem] def AfN:=F4 h69
def AVq:h69.tk=[]/\h69.mt=[]/\h69.pc=[3]:=⟨rfl,rfl,rfl⟩
def AVs:FK AA 69 f69 h69:=F2 func69
def h36:Ee:=hm [2,4] [] [] [4]
def AXC:h36.lv=Ft [[1],[2]]:=Fx rfl dk
@[go_sem] def Aff:=F4 h36
def AXB:h36.tk=[]/\h36.mt=[]/\h36.pc=[4]:=⟨rfl,rfl,rfl⟩
def AXD:FK AA 36 f36 h36:=F2 func36
def Tn:Ee:=hx [2,18,1810,3858,1874,1874,4196178,12,1810,1810,12] [23,28] [] [] [17,21] [(9,1)] []
def AXz:Tn.lv=Ft [[1],[1,4],[1,4,8,9,10],[1,4,8,9,10,11],[1,4,6,8,9,10],[1,4,6,8,9,10],[1,4,6,8,9,10,22],[2,3],[1,4,8,9,10],[1,4,8,9,10],[2,3]]:=Fx rfl dk
def AX1:Tn.ct 0=none/\Tn.ct 1=none/\Tn.ct 2=none/\Tn.ct 3=none/\Tn.ct 4=none/\Tn.ct 5=none/\Tn.ct 6=none/\Tn.ct 7=none/\Tn.ct 8=none/\Tn.ct 9=some 1/\Tn.ct 10=none:=dk
def AXw(k:Nat):Tn.at k=[]:=rfl
def AXx(k:Nat):Tn.dn k=false:=AH rfl rfl
def AXy:Tn.tk=[23,28]/\Tn.mt=[]/\Tn.pc=[17,21]:=⟨rfl,rfl,rfl⟩
def AX0:FK AA 10 f10 Tn:=F2 func10
def mu:AA.cellsOf 134=1/\JC AA 134=some none/\JC AA 251=some none/\AA.cellsOf 267=5/\AA.bytesOf 267=64/\JC AA 267=some (some 5)/\Gg AA 267=true/\KF AA 267 = .struct [(0,1),(1,1),(2,1),(3,1),(4,1)]/\FU AA 267 0=some (9,0)/\FU AA 267 1=some (3,1)/\FU AA 267 2=some (61,2)/\FU AA 267 3=some (3,3):=Tm
def fN:FU AA 267 4=some (3,4):=kr
def uP:Ee:=hm [3,387,899,419,65955,16,387,16] [] [] []
def AMS:uP.lv=Ft [[0,1],[0,1,7,8],[0,1,7,8,9],[0,1,5,7,8],[0,1,5,7,8,16],[4],[0,1,7,8],[4]]:=Fx rfl dk
@[go_sem] def Adq:=F4 uP
def AMR:uP.tk=[]/\uP.mt=[]/\uP.pc=[]:=⟨rfl,rfl,rfl⟩
def AMT:FK AA 182 f182 uP:=F2 func182
def uI:Ee:=hm [6,8] [] [] []
def ALp:uI.lv=Ft [[1,2],[3]]:=Fx rfl dk
@[go_sem] def Adj:=F4 uI
def ALo:uI.tk=[]/\uI.mt=[]/\uI.pc=[]:=⟨rfl,rfl,rfl⟩
def ALq:FK AA 201 f201 uI:=F2 func201
def vE:Ee:=hm [25,1049,48,81,65617,48,48] [18] [] [8,11]
def AO4:vE.lv=Ft [[0,3,4],[0,3,4,10],[4,5],[0,4,6],[0,4,6,16],[4,5],[4,5]]:=Fx rfl dk
@[go_sem] def AeW:=F4 vE
def AO3:vE.tk=[18]/\vE.mt=[]/\vE.pc=[8,11]:=⟨rfl,rfl,rfl⟩
def AO5:FK AA 131 f131 vE:=F2 func131
def uH:Ee:=hm [2,4] [] [] []
def ALm:uH.lv=Ft [[1],[2]]:=Fx rfl dk
@[go_sem] def Adi:=F4 uH
def ALl:uH.tk=[]/\uH.mt=[]/\uH.pc=[]:=⟨rfl,rfl,rfl⟩
def ALn:FK AA 202 f202 uH:=F2 func202
def wB:AA.cellsOf 57=1/\JC AA 57=some none/\AA.underlying 57=some (.slice 34)/\Fg AA 57=some (.sl (some 10) [])/\AA.cellsOf 162=1/\JC AA 162=some none/\AA.cellsOf 163=1/\JC AA 163=some none/\KF AA 165 = .struct [(0,1),(1,1)]/\FU AA 165 0=some (162,0)/\FU AA 165 1=some (163,1)/\Fg AA 165=some (.agg [.nilf,.nilf]):=Tm
def mq:AA.cellsOf 166=1/\JC AA 166=some none/\Fg AA 166=some (.nilp)/\AA.cellsOf 207=1/\JC AA 207=some none/\Fg AA 207=some (.nilf)/\AA.cellsOf 225=20/\JC AA 225=some (some 20)/\KF AA 225 = .struct [(0,10),(10,10)]/\FU AA 225 0=some (34,0)/\FU AA 225 1=some (34,10)/\AA.cellsOf 230=20:=Tm
def AG9:JC AA 230=some (some 20)/\FU AA 230 0=some (34,0)/\FU AA 230 1=some (34,10)/\Fg AA 230=some (.agg [.int .i64 0,.int .i64 0,.int .i64 0,.int .i64 0,.int .i64 0,.int .i64 0,.int .i64 0,.int .i64 0,.int .i64 0,.int .i64 0,.int .i64 0,.int .i64 0,.int .i64 0,.int .i64 0,.int .i64 0,.int .i64 0,.int .i64 0,.int .i64 0,.int .i64 0,.int .i64 0]):=⟨kr,kr,kr,kr⟩
def h71:Ee:=hm [3,129,48,48] [8] [] []
def AVm:h71.lv=Ft [[0,1],[0,7],[4,5],[4,5]]:=Fx rfl dk
@[go_sem] def AfL:=F4 h71
def AVl:h71.tk=[8]/\h71.mt=[]/\h71.pc=[]:=⟨rfl,rfl,rfl⟩
def AVn:FK AA 71 f71 h71:=F2 func71
def vD:Ee:=hm [12,76,204,108,4194380,16,76,16] [] [] []
def AO1:vD.lv=Ft [[2,3],[2,3,6],[2,3,6,7],[2,3,5,6],[2,3,6,22],[4],[2,3,6],[4]]:=Fx rfl dk
@[go_sem] def AeV:=F4 vD
def AO0:vD.tk=[]/\vD.mt=[]/\vD.pc=[]:=⟨rfl,rfl,rfl⟩
def AO2:FK AA 132 f132 vD:=F2 func132
def uF:Ee:=hm [2,4] [] [] []
def ALg:uF.lv=Ft [[1],[2]]:=Fx rfl dk
@[go_sem] def Adg:=F4 uF
def ALf:uF.tk=[]/\uF.mt=[]/\uF.pc=[]:=⟨rfl,rfl,rfl⟩
def ALh:FK AA 204 f204 uF:=F2 func204
def uG:Ee:=hm [92,220,80,64] [] [] [17,19,24]
def ALj:uG.lv=Ft [[2,3,4,6],[2,3,4,6,7],[4,6],[6]]:=Fx rfl dk
@[go_sem] def Adh:=F4 uG
def ALi:uG.tk=[]/\uG.mt=[]/\uG.pc=[17,19,24]:=⟨rfl,rfl,rfl⟩
def ALk:FK AA 203 f203 uG:=F2 func203
def vB:Ee:=hm [78,202,64] [] [] [9,20,26]
def AOv:vB.lv=Ft [[1,2,3,6],[1,3,6,7],[6]]:=Fx rfl dk
@[go_sem] def AeT:=F4 vB
def AOu:vB.tk=[]/\vB.mt=[]/\vB.pc=[9,20,26]:=⟨rfl,rfl,rfl⟩
def AOw:FK AA 134 f134 vB:=F2 func134
def vC:Ee:=hm [22,16] [] [] [9]
def AOy:vC.lv=Ft [[1,2,4],[4]]:=Fx rfl dk
@[go_sem] def AeU:=F4 vC
def AOx:vC.tk=[]/\vC.mt=[]/\vC.pc=[9]:=⟨rfl,rfl,rfl⟩
def AOz:FK AA 133 f133 vC:=F2 func133
def vA:Ee:=hm [12,16] [] [] [11,14]
def AOs:vA.lv=Ft [[2,3],[4]]:=Fx rfl dk
@[go_sem] def AeS:=F4 vA
def AOr:vA.tk=[]/\vA.mt=[]/\vA.pc=[11,14]:=⟨rfl,rfl,rfl⟩
def AOt:FK AA 135 f135 vA:=F2 func135
def vF:Ee:=hm [124,4220,12412,12412,128,528508,128,2147487864,128,17592186048632,17592186044536,0x1000000000000068,128,128,352,0x400000000000000000160,0xc00000000000000000160,128,0x80000000000000000000160,128,1056,128] [] [42,56,73] [42,56,73,78,88,90,98,100,103]
def AO7:vF.lv=Ft [[2,3,4,5,6],[2,3,4,5,6,12],[2,3,4,5,6,12,13],[2,3,4,5,6,12,13],[7],[2,3,4,5,6,12,19],[7],[3,4,5,6,12,31],[7],[3,4,5,6,12,44],[3,4,5,6,44],[3,5,6,60],[7],[7],[5,6,8],[5,6,8,82],[5,6,8,82,83],[7],[5,6,8,91],[7],[5,10],[7]]:=Fx rfl dk
@[go_sem] def AeX:=F4 vF
def AO6:vF.tk=[]/\vF.mt=[42,56,73]/\vF.pc=[42,56,73,78,88,90,98,100,103]:=⟨rfl,rfl,rfl⟩
def NY:FK AA 130 f130 vF:=F2 func130
def u7:Ee:=hm [28,92,220,124,92,92,16] [] [] []
def AOn:u7.lv=Ft [[2,3,4],[2,3,4,6],[2,3,4,6,7],[2,3,4,5,6],[2,3,4,6],[2,3,4,6],[4]]:=Fx rfl dk
@[go_sem] def AeQ:=F4 u7
def AOm:u7.tk=[]/\u7.mt=[]/\u7.pc=[]:=⟨rfl,rfl,rfl⟩
def AOo:FK AA 137 f137 u7:=F2 func137
def u6:Ee:=hm [22,16] [] [] [7]
def AOk:u6.lv=Ft [[1,2,4],[4]]:=Fx rfl dk
@[go_sem] def AeP:=F4 u6
def AOj:u6.tk=[]/\u6.mt=[]/\u6.pc=[7]:=⟨rfl,rfl,rfl⟩
def AOl:FK AA 138 f138 u6:=F2 func138
def u5:Ee:=hm [3,4097,48,48] [13] [] []
def AOi:u5.lv=Ft [[0,1],[0,12],[4,5],[4,5]]:=Fx rfl dk
@[go_sem] def AeO:=F4 u5
def AOh:u5.tk=[13]/\u5.mt=[]/\u5.pc=[]:=⟨rfl,rfl,rfl⟩
def mD:FK AA 139 f139 u5:=F2 func139
def uu:Ee:=hm [3,35,99,2115,4096,16,16,8195,16,65539,16,524288,16,16] [] [] [8,10]
def AN6:uu.lv=Ft [[0,1],[0,1,5],[0,1,5,6],[0,1,6,11],[12],[4],[4],[0,1,13],[4],[0,1,16],[4],[19],[4],[4]]:=Fx rfl dk
@[go_sem] def AeF:=F4 uu
def AN5:uu.tk=[]/\uu.mt=[]/\uu.pc=[8,10]:=⟨rfl,rfl,rfl⟩
def AN7:FK AA 150 f150 uu:=F2 func150
def h84:Ee:=hm [3,3587,7683,3683,527971,16,3779,3843,268439299,16,3587,34359738368,16,16] [31,33] [] [26]
def AVH:h84.lv=Ft [[0,1],[0,1,9,10,11],[0,1,9,10,11,12],[0,1,5,6,9,10,11],[0,1,5,6,9,10,11,19],[4],[0,1,6,7,9,10,11],[0,1,8,9,10,11],[0,1,8,9,10,11,28],[4],[0,1,9,10,11],[35],[4],[4]]:=Fx rfl dk
@[go_sem] def Ae9:=F4 h84
def AVG:h84.tk=[31,33]/\h84.mt=[]/\h84.pc=[26]:=⟨rfl,rfl,rfl⟩
def AFp:FK AA 84 f84 h84:=F2 func84
def tN:Ee:=hm [12,16] [] [5,6] []
def AJ2:tN.lv=Ft [[2,3],[4]]:=Fx rfl dk
@[go_sem] def AdA:=F4 tN
def AJ1:tN.tk=[]/\tN.mt=[5,6]/\tN.pc=[]:=⟨rfl,rfl,rfl⟩
def AJ3:FK AA 262 f262 tN:=F2 func262
def Mw:Ee:=hx [8199,7,23,2097159,23,33554439,23,55,1073741879,55,137438953511,39,70368744177671] [] [] [] [20] [] [9,11]
def AJ7:Mw.lv=Ft [[0,1,2,13],[0,1,2],[0,1,2,4],[0,1,2,21],[0,1,2,4],[0,1,2,25],[0,1,2,4],[0,1,2,4,5],[0,1,2,4,5,30],[0,1,2,4,5],[0,1,2,5,37],[0,1,2,5],[0,1,2,46]]:=Fx rfl dk
def AJ9(k:Nat):Mw.ct k=none:=rfl
def AJ4(k:Nat):Mw.at k=[]:=rfl
def AJ5:Mw.dn 0=false/\Mw.dn 1=false/\Mw.dn 2=false/\Mw.dn 3=false/\Mw.dn 4=false/\Mw.dn 5=false/\Mw.dn 6=false/\Mw.dn 7=false/\Mw.dn 8=false/\Mw.dn 9=true/\Mw.dn 10=false/\Mw.dn 11=true/\Mw.dn 12=false:=dk
def AJ6:Mw.tk=[]/\Mw.mt=[]/\Mw.pc=[20]:=⟨rfl,rfl,rfl⟩
def AJ8:FK AA 261 f261 Mw:=F2 func261
def ALe:Ee:=hm [12,16] [] [] []
def ALc:ALe.lv=Ft [[2,3],[4]]:=Fx rfl dk
@[go_sem] def Adf:=F4 ALe
def ALd:FK AA 205 f205 ALe:=F2 func205
def fF:Ee:=hm [3,35,544,96,1,16] [7,8,11] [5,14] []
def AOf:fF.lv=Ft [[0,1],[0,1,5],[5,9],[5,6],[0],[4]]:=Fx rfl dk
@[go_sem] def AeN:=F4 fF
def AOe:fF.tk=[7,8,11]/\fF.mt=[5,14]/\fF.pc=[]:=⟨rfl,rfl,rfl⟩
def AOg:FK AA 140 f140 fF:=F2 func140
def N6:Ee:=hx [21,277,789,115473,246545,117009,127249,115473,549755929361,115473,192] [14,31,32,41] [27] [(6,[(8,none,true)])] [27] [] []
def AOb:N6.lv=Ft [[0,2,4],[0,2,4,8],[0,2,4,8,9],[0,4,8,9,14,15,16],[0,4,8,9,14,15,16,17],[0,4,8,11,14,15,16],[0,4,8,12,13,14,15,16],[0,4,8,9,14,15,16],[0,4,8,9,14,15,16,39],[0,4,8,9,14,15,16],[6,7]]:=Fx rfl dk
def AOd(k:Nat):N6.ct k=none:=rfl
def AOY:N6.at 0=[]/\N6.at 1=[]/\N6.at 2=[]/\N6.at 3=[]/\N6.at 4=[]/\N6.at 5=[]/\N6.at 6=[(8,none,true)]/\N6.at 7=[]/\N6.at 8=[]/\N6.at 9=[]/\N6.at 10=[]:=dk
def AOZ(k:Nat):N6.dn k=false:=AH rfl rfl
def AOa:N6.tk=[14,31,32,41]/\N6.mt=[27]/\N6.pc=[27]:=⟨rfl,rfl,rfl⟩
def AOc:FK AA 141 f141 N6:=F2 func141
def tM:Ee:=hm [3,387,899,419,65955,16,387,16] [] [] []
def AJ0:tM.lv=Ft [[0,1],[0,1,7,8],[0,1,7,8,9],[0,1,5,7,8],[0,1,5,7,8,16],[4],[0,1,7,8],[4]]:=Fx rfl dk
@[go_sem] def Ac9:=F4 tM
def AJz:tM.tk=[]/\tM.mt=[]/\tM.pc=[]:=⟨rfl,rfl,rfl⟩
def AAV:FK AA 263 f263 tM:=F2 func263
def uE:Ee:=hm [3,35,4131,16,99,524387,99,227,536871139,99,99,33,16] [13,39] [] []
def ALb:uE.lv=Ft [[0,1],[0,1,5],[0,1,5,12],[4],[0,1,5,6],[0,1,5,6,19],[0,1,5,6],[0,1,5,6,7],[0,1,5,6,7,29],[0,1,5,6],[0,1,5,6],[0,5],[4]]:=Fx rfl dk
@[go_sem] def Ade:=F4 uE
def ALa:uE.tk=[13,39]/\uE.mt=[]/\uE.pc=[]:=⟨rfl,rfl,rfl⟩
def AAb:FK AA 206 f206 uE:=F2 func206
def tL:Ee:=hm [21,277,1813,132885,3861,2147487509,1813,1813,192] [41] [] [30,46]
def AJx:tL.lv=Ft [[0,2,4],[0,2,4,8],[0,2,4,8,9,10],[0,2,4,8,9,10,17],[0,2,4,8,9,10,11],[0,2,4,8,9,10,11,31],[0,2,4,8,9,10],[0,2,4,8,9,10],[6,7]]:=Fx rfl dk
@[go_sem] def Ac8:=F4 tL
def AJw:tL.tk=[41]/\tL.mt=[]/\tL.pc=[30,46]:=⟨rfl,rfl,rfl⟩
def AJy:FK AA 264 f264 tL:=F2 func264
def uC:Ee:=hm [9,64,16] [8] [] [10]
def ALV:uC.lv=Ft [[0,3],[6],[4]]:=Fx rfl dk
@[go_sem] def Adc:=F4 uC
def ALU:uC.tk=[8]/\uC.mt=[]/\uC.pc=[10]:=⟨rfl,rfl,rfl⟩
def ALW:FK AA 208 f208 uC:=F2 func208
def uD:Ee:=hm [6,8] [] [] [6]
def ALY:uD.lv=Ft [[1,2],[3]]:=Fx rfl dk
@[go_sem] def Add:=F4 uD
def ALX:uD.tk=[]/\uD.mt=[]/\uD.pc=[6]:=⟨rfl,rfl,rfl⟩
def ALZ:FK AA 207 f207 uD:=F2 func207
def N5:Ee:=hx [49,529,3601,3601,13841,11793,11793,274877910545,448,2199023259153,448] [22,26] [] [(5,[(11,none,true)])] [] [] []
def AOV:N5.lv=Ft [[0,4,5],[0,4,9],[0,4,9,10,11],[0,4,9,10,11],[0,4,9,10,12,13],[0,4,9,10,11,13],[0,4,9,10,11,13],[0,4,9,10,11,38],[6,7,8],[0,4,9,10,11,41],[6,7,8]]:=Fx rfl dk
def AOX(k:Nat):N5.ct k=none:=rfl
def AOS:N5.at 0=[]/\N5.at 1=[]/\N5.at 2=[]/\N5.at 3=[]/\N5.at 4=[]/\N5.at 5=[(11,none,true)]/\N5.at 6=[]/\N5.at 7=[]/\N5.at 8=[]/\N5.at 9=[]/\N5.at 10=[]:=dk
def AOT(k:Nat):N5.dn k=false:=AH rfl rfl
def AOU:N5.tk=[22,26]/\N5.mt=[]/\N5.pc=[]:=⟨rfl,rfl,rfl⟩
def AOW:FK AA 142 f142 N5:=F2 func142
def u9:Ee:=hm [60,1048636,3145788,2147483680,192,192,17180917820,304,192,0x4000000100034,3124,15360,192,0x10000000000000000000034,49172,0x100000000000000000000004014,192,192,327680,192] [78,79,110,125] [30,62,75,100,111,121] [30,40,46,48,62,75,85,100]
def AOq:u9.lv=Ft [[2,3,4,5],[2,3,4,5,20],[2,3,4,5,20,21],[5,31],[6,7],[6,7],[2,3,4,5,20,34],[4,5,8],[6,7],[2,4,5,20,50],[2,4,5,10,11],[10,11,12,13],[6,7],[2,4,5,88],[2,4,14,15],[2,4,14,104],[6,7],[6,7],[16,18],[6,7]]:=Fx rfl dk
@[go_sem] def AeR:=F4 u9
def AOp:u9.tk=[78,79,110,125]/\u9.mt=[30,62,75,100,111,121]/\u9.pc=[30,40,46,48,62,75,85,100]:=⟨rfl,rfl,rfl⟩
def K9:FK AA 136 f136 u9:=F2 func136
def h72:Ee:=hm [12,44,36,32,16] [] [] []
def AVj:h72.lv=Ft [[2,3],[2,3,5],[2,5],[5],[4]]:=Fx rfl dk
@[go_sem] def AfK:=F4 h72
def AVi:h72.tk=[]/\h72.mt=[]/\h72.pc=[]:=⟨rfl,rfl,rfl⟩
def AVk:FK AA 72 f72 h72:=F2 func72
def h37:Ee:=hx [105,768] [10] [12,18] [] [18,21] [] [2006,2007]
def AW9:h37.lv=Ft [[0,3,5,6],[8,9]]:=Fx rfl dk
def AXA(k:Nat):h37.ct k=none:=rfl
def AW6(k:Nat):h37.at k=[]:=rfl
def AW7:h37.dn 0=false/\h37.dn 1=true:=dk
def AW8:h37.tk=[10]/\h37.mt=[12,18]/\h37.pc=[18,21]:=⟨rfl,rfl,rfl⟩
def AFt:FK AA 37 f37 h37:=F2 func37
def tw:Ee:=hm [1,4] [] [] []
def ALG:tw.lv=Ft [[0],[2]]:=Fx rfl dk
@[go_sem] def AdX:=F4 tw
def ALF:tw.tk=[]/\tw.mt=[]/\tw.pc=[]:=⟨rfl,rfl,rfl⟩
def ALH:FK AA 213 f213 tw:=F2 func213
def ATw:AA.underlying 32=some (.slice 58)/\ly AA 32=true/\AA.cellsOf 36=11/\JC AA 36=some (some 11)/\Gg AA 36=true/\FU AA 36 0=some (34,0)/\FU AA 36 1=some (3,10)/\AA.underlying 39=some (.slice 63)/\AA.cellsOf 58=1/\AA.bytesOf 58=24/\JC AA 58=some none/\AA.underlying 58=some (.slice 119):=Tm
def AHI:ly AA 58=true/\Gg AA 58=true/\AA.cellsOf 63=12/\AA.bytesOf 63=112/\JC AA 63=some (some 12)/\Gg AA 63=true/\KF AA 63 = .struct [(0,1),(1,10),(11,1)]/\FU AA 63 0=some (3,0)/\FU AA 63 1=some (34,1)/\FU AA 63 2=some (61,11)/\AA.underlying 67=some (.slice 36)/\AA.cellsOf 82=1:=Tm
def AUY:JC AA 82=some none/\AA.underlying 82=some (.slice 61)/\Fg AA 82=some (.sl (some 1) [])/\AA.cellsOf 93=1/\JC AA 93=some none/\AA.underlying 93=some (.slice 95)/\Fg AA 93=some (.sl (some 12) [])/\AA.cellsOf 95=12/\AA.bytesOf 95=112/\JC AA 95=some (some 12)/\Gg AA 95=true/\KF AA 95 = .struct [(0,1),(1,10),(11,1)]:=Tm
def mI:FU AA 95 0=some (3,0)/\FU AA 95 1=some (34,1)/\FU AA 95 2=some (61,11)/\AA.cellsOf 168=1/\JC AA 168=some none/\JC AA 169=some none/\AA.cellsOf 170=7/\AA.underlying 170=some (.array 7 168)/\KF AA 170 = .array 1/\Fg AA 170=some (.agg [.nilf,.nilf,.nilf,.nilf,.nilf,.nilf,.nilf])/\KF AA 174 = .struct [(0,1),(1,6),(7,1),(8,10),(18,1),(19,4),(23,1)]/\FU AA 174 0=some (27,0):=Tm
def fR:FU AA 174 1=some (108,1)/\FU AA 174 2=some (58,7)/\FU AA 174 3=some (34,8)/\FU AA 174 4=some (3,18)/\FU AA 174 5=some (119,19)/\FU AA 174 6=some (4,23)/\AA.underlying 183=some (.slice 4)/\AA.underlying 187=some (.slice 267)/\JC AA 206=some none/\JC AA 240=some none:=⟨kr,kr,kr,kr,kr,kr,kr,kr,kr,kr⟩
def h43:Ee:=hm [2,10,1073741826,4,18,34359738386,18,50,35184372088850,4,66,0x4000000000042,66,194,0x2000000000000042,4,4] [] [] [10,43,59]
def AWl:h43.lv=Ft [[1],[1,3],[1,30],[2],[1,4],[1,4,35],[1,4],[1,4,5],[1,4,45],[2],[1,6],[1,6,50],[1,6],[1,6,7],[1,6,61],[2],[2]]:=Fx rfl dk
@[go_sem] def Afb:=F4 h43
def AWk:h43.tk=[]/\h43.mt=[]/\h43.pc=[10,43,59]:=⟨rfl,rfl,rfl⟩
def AFr:FK AA 43 f43 h43:=F2 func43
def h90:Ee:=hm [6,38,102,2097254,16,294,536871206,16,17592186044454,16,550,562949953421862,550,1574,0x40000000000626,1574,3622,0x8000000000000e26,3622,0x20000000000000000626,16,16] [] [] [19,25,75]
def AUx:h90.lv=Ft [[1,2],[1,2,5],[1,2,5,6],[1,2,5,6,21],[4],[1,2,5,8],[1,2,5,8,29],[4],[1,2,5,44],[4],[1,2,5,9],[1,2,5,9,49],[1,2,5,9],[1,2,5,9,10],[1,2,5,9,10,54],[1,2,5,9,10],[1,2,5,9,10,11],[1,2,5,9,10,11,63],[1,2,5,9,10,11],[1,2,5,9,10,77],[4],[4]]:=Fx rfl dk
@[go_sem] def Ae4:=F4 h90
def AUw:h90.tk=[]/\h90.mt=[]/\h90.pc=[19,25,75]:=⟨rfl,rfl,rfl⟩
def AUy:FK AA 90 f90 h90:=F2 func90
def ud:Ee:=hm [6,70,2118,70,2097222,48,48] [] [] []
def ANK:ud.lv=Ft [[1,2],[1,2,6],[1,2,6,11],[1,2,6],[1,2,6,21],[4,5],[4,5]]:=Fx rfl dk
@[go_sem] def Ad2:=F4 ud
def ANJ:ud.tk=[]/\ud.mt=[]/\ud.pc=[]:=⟨rfl,rfl,rfl⟩
def ANL:FK AA 165 f165 ud:=F2 func165
def uc:Ee:=hm [6,16] [] [] []
def ANH:uc.lv=Ft [[1,2],[4]]:=Fx rfl dk
@[go_sem] def Ad1:=F4 uc
def ANG:uc.tk=[]/\uc.mt=[]/\uc.pc=[]:=⟨rfl,rfl,rfl⟩
def ANI:FK AA 166 f166 uc:=F2 func166
def h91:Ee:=hm [12,108,492,2147483820,16,684,1708,0x40000000000000c,16,2060,0x2000000000000080c,16,0x40000000000000000000000000000,16,16] [] [] [16,23,39,47,63]
def AUu:h91.lv=Ft [[2,3],[2,3,5,6],[2,3,5,6,7,8],[2,3,5,7,31],[4],[2,3,5,7,9],[2,3,5,7,9,10],[2,3,58],[4],[2,3,11],[2,3,11,65],[4],[114],[4],[4]]:=Fx rfl dk
@[go_sem] def Ae3:=F4 h91
def AUt:h91.tk=[]/\h91.mt=[]/\h91.pc=[16,23,39,47,63]:=⟨rfl,rfl,rfl⟩
def AUv:FK AA 91 f91 h91:=F2 func91
def XJ:Ee:=hx [6,38,100,228,1048804,228,484,134218212,484,996,0x80000000000003e4,996,484,16] [67,71] [] [(13,[(4,none,false)])] [38] [] []
def AUq:XJ.lv=Ft [[1,2],[1,2,5],[2,5,6],[2,5,6,7],[2,5,6,7,20],[2,5,6,7],[2,5,6,7,8],[2,5,6,7,8,27],[2,5,6,7,8],[2,5,6,7,8,9],[2,5,6,7,8,9,63],[2,5,6,7,8,9],[2,5,6,7,8],[4]]:=Fx rfl dk
def AUs(k:Nat):XJ.ct k=none:=rfl
def AUn:XJ.at 0=[]/\XJ.at 1=[]/\XJ.at 2=[]/\XJ.at 3=[]/\XJ.at 4=[]/\XJ.at 5=[]/\XJ.at 6=[]/\XJ.at 7=[]/\XJ.at 8=[]/\XJ.at 9=[]/\XJ.at 10=[]/\XJ.at 11=[]/\XJ.at 12=[]/\XJ.at 13=[(4,none,false)]:=dk
def AUo(k:Nat):XJ.dn k=false:=AH rfl rfl
def AUp:XJ.tk=[67,71]/\XJ.mt=[]/\XJ.pc=[38]:=⟨rfl,rfl,rfl⟩
def AUr:FK AA 92 f92 XJ:=F2 func92
def h44:Ee:=hm [2,18,8210,12,18,524306,12,1073741826,12,34,34359738402,34,50,4398046511154,12,66,562949953421378,66,82,0x1000000000000052,12,130,0x80000000000000082,130,386,0x10000000000000000082,12,12] [73] [] [11,17,40,58,72]
def AWi:h44.lv=Ft [[1],[1,4],[1,4,13],[2,3],[1,4],[1,4,19],[2,3],[1,30],[2,3],[1,5],[1,5,35],[1,5],[1,4,5],[1,4,5,42],[2,3],[1,6],[1,6,49],[1,6],[1,4,6],[1,4,6,60],[2,3],[1,7],[1,7,67],[1,7],[1,7,8],[1,7,76],[2,3],[2,3]]:=Fx rfl dk
@[go_sem] def Afa:=F4 h44
def AWh:h44.tk=[73]/\h44.mt=[]/\h44.pc=[11,17,40,58,72]:=⟨rfl,rfl,rfl⟩
def AWj:FK AA 44 f44 h44:=F2 func44
def h15:Ee:=hm [2,10,514,4,32,4] [] [] [7,12]
def AXi:h15.lv=Ft [[1],[1,3],[1,9],[2],[5],[2]]:=Fx rfl dk
@[go_sem] def Afr:=F4 h15
def AXh:h15.tk=[]/\h15.mt=[]/\h15.pc=[7,12]:=⟨rfl,rfl,rfl⟩
def AXj:FK AA 15 f15 h15:=F2 func15
def uW:Ee:=hm [3,35,547,35,262179,16,16] [] [] []
def AMt:uW.lv=Ft [[0,1],[0,1,5],[0,1,5,9],[0,1,5],[0,1,5,18],[4],[4]]:=Fx rfl dk
@[go_sem] def Adx:=F4 uW
def AMs:uW.tk=[]/\uW.mt=[]/\uW.pc=[]:=⟨rfl,rfl,rfl⟩
def AMu:FK AA 172 f172 uW:=F2 func172
def tU:Ee:=hm [1,9,25,153,25,25,4] [] [] []
def AKN:tU.lv=Ft [[0],[0,3],[0,3,4],[0,3,4,7],[0,3,4],[0,3,4],[2]]:=Fx rfl dk
@[go_sem] def AdF:=F4 tU
def AKM:tU.tk=[]/\tU.mt=[]/\tU.pc=[]:=⟨rfl,rfl,rfl⟩
def AKO:FK AA 232 f232 tU:=F2 func232
def uV:Ee:=hm [28,34359738396,64,156,1099511627932,156,0x400000000000009c,64,0x1000000000000001c,0x3000000000000001c,64,0x41000000000000001c,284,0x800000000000000011c,284,0x80000000000000000000011c,64,64,0x1000000000000000000000000018,64,64] [] [] [60]
def AMq:uV.lv=Ft [[2,3,4],[2,3,4,35],[6],[2,3,4,7],[2,3,4,7,40],[2,3,4,7],[2,3,4,7,62],[6],[2,3,4,64],[2,3,4,64,65],[6],[2,3,4,64,70],[2,3,4,8],[2,3,4,8,75],[2,3,4,8],[2,3,4,8,95],[6],[6],[3,4,108],[6],[6]]:=Fx rfl dk
@[go_sem] def Adw:=F4 uV
def AMp:uV.tk=[]/\uV.mt=[]/\uV.pc=[60]:=⟨rfl,rfl,rfl⟩
def AMr:FK AA 173 f173 uV:=F2 func173
def h61:Ee:=hm [3,35,32803,35,67108899,16,34359738403,16,1099511627779,16,35184372088832,16,16] [41,43] [] []
def AWJ:h61.lv=Ft [[0,1],[0,1,5],[0,1,5,15],[0,1,5],[0,1,5,26],[4],[0,1,5,35],[4],[0,1,40],[4],[45],[4],[4]]:=Fx rfl dk
@[go_sem] def AfT:=F4 h61
def AWI:h61.tk=[41,43]/\h61.mt=[]/\h61.pc=[]:=⟨rfl,rfl,rfl⟩
def AWK:FK AA 61 f61 h61:=F2 func61
def uU:Ee:=hm [12,524,16,16396,16,16] [] [] [19]
def AMn:uU.lv=Ft [[2,3],[2,3,9],[4],[2,3,14],[4],[4]]:=Fx rfl dk
@[go_sem] def Adv:=F4 uU
def AMm:uU.tk=[]/\uU.mt=[]/\uU.pc=[19]:=⟨rfl,rfl,rfl⟩
def AMo:FK AA 174 f174 uU:=F2 func174
def uT:Ee:=hm [3,35,99,1123,99,524387,99,16] [] [] []
def AMk:uT.lv=Ft [[0,1],[0,1,5],[0,1,5,6],[0,1,5,6,10],[0,1,5,6],[0,1,5,6,19],[0,1,5,6],[4]]:=Fx rfl dk
@[go_sem] def Adu:=F4 uT
def AMj:uT.tk=[]/\uT.mt=[]/\uT.pc=[]:=⟨rfl,rfl,rfl⟩
def AMl:FK AA 175 f175 uT:=F2 func175
def h94:Ee:=hm [3,35,2083,35,99,4194403,16,163,68719476771,16,0x8000000000023,16,0x2000000000000023,16,16] [] [] [20,34,49,60]
def AUg:h94.lv=Ft [[0,1],[0,1,5],[0,1,5,11],[0,1,5],[0,1,5,6],[0,1,5,6,22],[4],[0,1,5,7],[0,1,5,36],[4],[0,1,5,51],[4],[0,1,5,61],[4],[4]]:=Fx rfl dk
@[go_sem] def Ae2:=F4 h94
def uS:Ee:=hm [3,35,99,227,2275,227,8388835,163,227,8589934819,227,4398046511138,32,16] [24,34,43,47] [] []
def AMh:uS.lv=Ft [[0,1],[0,1,5],[0,1,5,6],[0,1,5,6,7],[0,1,5,6,7,11],[0,1,5,6,7],[0,1,5,6,7,23],[0,1,5,7],[0,1,5,6,7],[0,1,5,6,7,33],[0,1,5,6,7],[1,5,42],[5],[4]]:=Fx rfl dk
@[go_sem] def Adt:=F4 uS
def AMg:uS.tk=[24,34,43,47]/\uS.mt=[]/\uS.pc=[]:=⟨rfl,rfl,rfl⟩
def AMi:FK AA 176 f176 uS:=F2 func176
def h95:Ee:=hm [3,35,99,65635,99,33554531,99,163,419,137438953891,419,931,1955,4003,281474976714659,4003,8099,0x80000000000001fa3,8099,8099,0x400000000000000001fa3,7075,2979,4003,419,16] [26,89,93] [] [33,70,75,78]
def AUf:h95.lv=Ft [[0,1],[0,1,5],[0,1,5,6],[0,1,5,6,16],[0,1,5,6],[0,1,5,6,25],[0,1,5,6],[0,1,5,7],[0,1,5,7,8],[0,1,5,7,8,37],[0,1,5,7,8],[0,1,5,7,8,9],[0,1,5,7,8,9,10],[0,1,5,7,8,9,10,11],[0,1,5,7,8,9,10,11,48],[0,1,5,7,8,9,10,11],[0,1,5,7,8,9,10,11,12],[0,1,5,7,8,9,10,11,12,67],[0,1,5,7,8,9,10,11,12],[0,1,5,7,8,9,10,11,12],[0,1,5,7,8,9,10,11,12,82],[0,1,5,7,8,9,11,12],[0,1,5,7,8,9,11],[0,1,5,7,8,9,10,11],[0,1,5,7,8],[4]]:=Fx rfl dk
@[go_sem] def Ae1:=F4 h95
def h45:Ee:=hm [7,135,262151,64,256,64] [19,20,22] [] [11,21,23]
def AWg:h45.lv=Ft [[0,1,2],[0,1,2,7],[0,1,2,18],[6],[8],[6]]:=Fx rfl dk
@[go_sem] def AfZ:=F4 h45
def h16:Ee:=hm [6,4102,16,38,65574,38,102,2199023255590,16,16] [] [] [31]
def AXg:h16.lv=Ft [[1,2],[1,2,12],[4],[1,2,5],[1,2,5,16],[1,2,5],[1,2,5,6],[1,2,5,41],[4],[4]]:=Fx rfl dk
@[go_sem] def Afq:=F4 h16
def h17:Ee:=hm [2,10,4] [] [] [6]
def AXe:h17.lv=Ft [[1],[1,3],[2]]:=Fx rfl dk
@[go_sem] def Afp:=F4 h17
def AXd:h17.tk=[]/\h17.mt=[]/\h17.pc=[6]:=⟨rfl,rfl,rfl⟩
def AXf:FK AA 17 f17 h17:=F2 func17
def h4:Ee:=hm [14,131076,64,1835008,3932160,1835264,68943872,64,1835008,64] [14,18] [] [10,15,25]
def AcK:h4.lv=Ft [[1,2,3],[2,17],[6],[18,19,20],[18,19,20,21],[8,18,19,20],[18,19,20,26],[6],[18,19,20],[6]]:=Fx rfl dk
@[go_sem] def Agw:=F4 h4
def tK:Ee:=hm [1,17,4,4] [6] [5,7] []
def AJu:tK.lv=Ft [[0],[0,4],[2],[2]]:=Fx rfl dk
@[go_sem] def Ac7:=F4 tK
def AJt:tK.tk=[6]/\tK.mt=[5,7]/\tK.pc=[]:=⟨rfl,rfl,rfl⟩
def AJv:FK AA 265 f265 tK:=F2 func265
def uz:Ee:=hm [3,387,899,419,65955,16,387,16] [] [] []
def AOI:uz.lv=Ft [[0,1],[0,1,7,8],[0,1,7,8,9],[0,1,5,7,8],[0,1,5,7,8,16],[4],[0,1,7,8],[4]]:=Fx rfl dk
@[go_sem] def AeJ:=F4 uz
def AOH:uz.tk=[]/\uz.mt=[]/\uz.pc=[]:=⟨rfl,rfl,rfl⟩
def mC:FK AA 146 f146 uz:=F2 func146
def tJ:Ee:=hm [3,35,4131,16,99,524387,99,227,536871139,99,99,33,16] [13,39] [] []
def AJq:tJ.lv=Ft [[0,1],[0,1,5],[0,1,5,12],[4],[0,1,5,6],[0,1,5,6,19],[0,1,5,6],[0,1,5,6,7],[0,1,5,6,7,29],[0,1,5,6],[0,1,5,6],[0,5],[4]]:=Fx rfl dk
@[go_sem] def Ac5:=F4 tJ
def AJp:tJ.tk=[13,39]/\tJ.mt=[]/\tJ.pc=[]:=⟨rfl,rfl,rfl⟩
def AAT:FK AA 267 f267 tJ:=F2 func267
def tI:Ee:=hm [6,8] [] [] []
def AJn:tI.lv=Ft [[1,2],[3]]:=Fx rfl dk
@[go_sem] def Ac4:=F4 tI
def AJm:tI.tk=[]/\tI.mt=[]/\tI.pc=[]:=⟨rfl,rfl,rfl⟩
def AJo:FK AA 268 f268 tI:=F2 func268
def uA:Ee:=hm [9,16] [5] [] []
def ALP:uA.lv=Ft [[0,3],[4]]:=Fx rfl dk
@[go_sem] def Ada:=F4 uA
def ALO:uA.tk=[5]/\uA.mt=[]/\uA.pc=[]:=⟨rfl,rfl,rfl⟩
def ALQ:FK AA 210 f210 uA:=F2 func210
def tz:Ee:=hm [6,8] [] [] []
def ALM:tz.lv=Ft [[1,2],[3]]:=Fx rfl dk
@[go_sem] def AdZ:=F4 tz
def ALL:tz.tk=[]/\tz.mt=[]/\tz.pc=[]:=⟨rfl,rfl,rfl⟩
def ALN:FK AA 211 f211 tz:=F2 func211
def u1:Ee:=hm [9,16] [5] [] []
def AOK:u1.lv=Ft [[0,3],[4]]:=Fx rfl dk
@[go_sem] def AeK:=F4 u1
def AOJ:u1.tk=[5]/\u1.mt=[]/\u1.pc=[]:=⟨rfl,rfl,rfl⟩
def AOL:FK AA 145 f145 u1:=F2 func145
def h82:Ee:=hm [1,9,456,968,488,16872,4,456,4] [6] [] []
def AVM:h82.lv=Ft [[0],[0,3],[3,6,7,8],[3,6,7,8,9],[3,5,6,7,8],[3,5,6,7,8,14],[2],[3,6,7,8],[2]]:=Fx rfl dk
@[go_sem] def AfB:=F4 h82
def AVL:h82.tk=[6]/\h82.mt=[]/\h82.pc=[]:=⟨rfl,rfl,rfl⟩
def AVN:FK AA 82 f82 h82:=F2 func82
def h83:Ee:=hm [3,35,99,2115,4096,16,16,8195,16,65539,16,524288,16,16] [] [] [8,10]
def AVJ:h83.lv=Ft [[0,1],[0,1,5],[0,1,5,6],[0,1,6,11],[12],[4],[4],[0,1,13],[4],[0,1,16],[4],[19],[4],[4]]:=Fx rfl dk
@[go_sem] def AfA:=F4 h83
def AVI:h83.tk=[]/\h83.mt=[]/\h83.pc=[8,10]:=⟨rfl,rfl,rfl⟩
def AVK:FK AA 83 f83 h83:=F2 func83
def h42:Ee:=hm [12,16] [] [] [9,14,16]
def AWn:h42.lv=Ft [[2,3],[4]]:=Fx rfl dk
@[go_sem] def Afc:=F4 h42
def AWm:h42.tk=[]/\h42.mt=[]/\h42.pc=[9,14,16]:=⟨rfl,rfl,rfl⟩
def AWo:FK AA 42 f42 h42:=F2 func42
def tx:Ee:=hm [21,277,1813,132885,3861,2147487509,1813,1813,192] [41] [] [30,46]
def ALJ:tx.lv=Ft [[0,2,4],[0,2,4,8],[0,2,4,8,9,10],[0,2,4,8,9,10,17],[0,2,4,8,9,10,11],[0,2,4,8,9,10,11,31],[0,2,4,8,9,10],[0,2,4,8,9,10],[6,7]]:=Fx rfl dk
@[go_sem] def AdY:=F4 tx
def ALI:tx.tk=[41]/\tx.mt=[]/\tx.pc=[30,46]:=⟨rfl,rfl,rfl⟩
def ALK:FK AA 212 f212 tx:=F2 func212
def ux:Ee:=hm [21,192] [8] [] [11]
def AOC:ux.lv=Ft [[0,2,4],[6,7]]:=Fx rfl dk
@[go_sem] def AeH:=F4 ux
def AOB:ux.tk=[8]/\ux.mt=[]/\ux.pc=[11]:=⟨rfl,rfl,rfl⟩
def AOD:FK AA 148 f148 ux:=F2 func148
def Zy:Ee:=hm [7,7,135,65671,64,391,4194695,64,2147484039,647,643,512,64,391,0x100000000000000187,7,1,64,131,1,64] [17,23,24,44,51,55,56,81,83,87,94] [25,40,67] [67,93]
def AJs:Zy.lv=Ft [[0,1,2],[0,1,2],[0,1,2,7],[0,1,2,7,16],[6],[0,1,2,7,8],[0,1,2,7,8,22],[6],[0,1,2,7,8,31],[0,1,2,7,9],[0,1,7,9],[9],[6],[0,1,2,7,8],[0,1,2,7,8,68],[0,1,2],[0],[6],[0,1,7],[0],[6]]:=Fx rfl dk
@[go_sem] def Ac6:=F4 Zy
def AJr:Zy.tk=[17,23,24,44,51,55,56,81,83,87,94]/\Zy.mt=[25,40,67]/\Zy.pc=[67,93]:=⟨rfl,rfl,rfl⟩
def AAU:FK AA 266 f266 Zy:=F2 func266
def uB:Ee:=hm [9,105,232,65704,128,16,16] [14,21,22] [25] [11]
def ALS:uB.lv=Ft [[0,3],[0,3,5,6],[3,5,6,7],[3,5,7,16],[7],[4],[4]]:=Fx rfl dk
@[go_sem] def Adb:=F4 uB
def ALR:uB.tk=[14,21,22]/\uB.mt=[25]/\uB.pc=[11]:=⟨rfl,rfl,rfl⟩
def ALT:FK AA 209 f209 uB:=F2 func209
def u4:Ee:=hm [1,2097153,4,1,4] [] [] [18,31]
def AOQ:u4.lv=Ft [[0],[0,21],[2],[0],[2]]:=Fx rfl dk
@[go_sem] def AeM:=F4 u4
def AOP:u4.tk=[]/\u4.mt=[]/\u4.pc=[18,31]:=⟨rfl,rfl,rfl⟩
def AOR:FK AA 143 f143 u4:=F2 func143
def u3:Ee:=hm [197,131141,1] [] [] [14,26,28]
def AON:u3.lv=Ft [[0,2,6,7],[0,2,6,17],[0]]:=Fx rfl dk
@[go_sem] def AeL:=F4 u3
def AOM:u3.tk=[]/\u3.mt=[]/\u3.pc=[14,26,28]:=⟨rfl,rfl,rfl⟩
def AOO:FK AA 144 f144 u3:=F2 func144
def h73:Ee:=hm [1,1,16777217,4,1,4] [] [] [23,36]
def AVh:h73.lv=Ft [[0],[0],[0,24],[2],[0],[2]]:=Fx rfl dk
@[go_sem] def AfJ:=F4 h73
def h74:Ee:=hm [1,1,4] [] [] [12]
def AVg:h74.lv=Ft [[0],[0],[2]]:=Fx rfl dk
@[go_sem] def AfI:=F4 h74
def h75:Ee:=hm [1,4] [] [] []
def AVe:h75.lv=Ft [[0],[2]]:=Fx rfl dk
@[go_sem] def AfH:=F4 h75
def AVd:h75.tk=[]/\h75.mt=[]/\h75.pc=[]:=⟨rfl,rfl,rfl⟩
def AVf:FK AA 75 f75 h75:=F2 func75
def h76:Ee:=hm [1,1,262145,9,3758096393,8053063689,3758096425,3758096393,3758096393,9,0x40000000000009,9,0x4000000000000000001,4,0x20000000000000000001,4,1,4] [] [] [29,76,89]
def AVc:h76.lv=Ft [[0],[0],[0,18],[0,3],[0,3,29,30,31],[0,3,29,30,31,32],[0,3,5,29,30,31],[0,3,29,30,31],[0,3,29,30,31],[0,3],[0,3,54],[0,3],[0,74],[2],[0,77],[2],[0],[2]]:=Fx rfl dk
@[go_sem] def AfG:=F4 h76
def uy:Ee:=hm [14,16] [] [] []
def AOF:uy.lv=Ft [[1,2,3],[4]]:=Fx rfl dk
@[go_sem] def AeI:=F4 uy
def AOE:uy.tk=[]/\uy.mt=[]/\uy.pc=[]:=⟨rfl,rfl,rfl⟩
def AOG:FK AA 147 f147 uy:=F2 func147
def h77:Ee:=hm [2,10,34,66,34359738434,4,7696581394498,0xf0000000042,7696581394882,7696581394498,7696581394498,4] [] [] [19,27,33,60]
def AVb:h77.lv=Ft [[1],[1,3],[1,5],[1,6],[1,6,35],[2],[1,6,40,41,42],[1,6,40,41,42,43],[1,6,7,8,40,41,42],[1,6,40,41,42],[1,6,40,41,42],[2]]:=Fx rfl dk
@[go_sem] def AfF:=F4 h77
def Yb:Ee:=hx [1,25,262169,25,57,4503599627370553,9,9,73,0x80000000000000000000049,65,4] [] [] [] [100] [] [7]
def AVZ:Yb.lv=Ft [[0],[0,3,4],[0,3,4,18],[0,3,4],[0,3,4,5],[0,3,4,5,52],[0,3],[0,3],[0,3,6],[0,3,6,91],[0,6],[2]]:=Fx rfl dk
def AVa(k:Nat):Yb.ct k=none:=rfl
def AVX(k:Nat):Yb.at k=[]:=rfl
def AVY:Yb.dn 0=false/\Yb.dn 1=false/\Yb.dn 2=false/\Yb.dn 3=false/\Yb.dn 4=false/\Yb.dn 5=false/\Yb.dn 6=false/\Yb.dn 7=true/\Yb.dn 8=false/\Yb.dn 9=false/\Yb.dn 10=false/\Yb.dn 11=false:=dk
def h79:Ee:=hm [35,291,57633,123169,58657,63777,67168545,192,57633,57633,192] [13,27,34] [] [22,30]
def AVV:h79.lv=Ft [[0,1,5],[0,1,5,8],[0,5,8,13,14,15],[0,5,8,13,14,15,16],[0,5,8,10,13,14,15],[0,5,8,11,12,13,14,15],[0,5,8,11,13,14,15,26],[6,7],[0,5,8,13,14,15],[0,5,8,13,14,15],[6,7]]:=Fx rfl dk
@[go_sem] def AfE:=F4 h79
def AVU:h79.tk=[13,27,34]/\h79.mt=[]/\h79.pc=[22,30]:=⟨rfl,rfl,rfl⟩
def AVW:FK AA 79 f79 h79:=F2 func79
def h80:Ee:=hm [71,833,524609,192,192] [13,21] [] [15]
def AVS:h80.lv=Ft [[0,1,2,6],[0,6,8,9],[0,6,8,19],[6,7],[6,7]]:=Fx rfl dk
@[go_sem] def AfD:=F4 h80
def AVR:h80.tk=[13,21]/\h80.mt=[]/\h80.pc=[15]:=⟨rfl,rfl,rfl⟩
def AVT:FK AA 80 f80 h80:=F2 func80
def Zx:Ee:=hx [1365,525653,7168,9557,25941,91460,91456,72057594038019392,75072,0x400000000000010500,7168,7168] [21,31,41,60] [] [] [28,45] [] [10,11]
def AW3:Zx.lv=Ft [[0,2,4,6,8,10],[0,2,4,6,8,10,19],[10,11,12],[0,2,4,6,8,10,13],[0,2,4,6,8,10,13,14],[2,6,8,10,13,14,16],[6,8,10,13,14,16],[6,8,10,13,14,16,56],[6,8,10,13,16],[8,10,16,70],[10,11,12],[10,11,12]]:=Fx rfl dk
def AW5(k:Nat):Zx.ct k=none:=rfl
def AW0(k:Nat):Zx.at k=[]:=rfl
def AW1:Zx.dn 0=false/\Zx.dn 1=false/\Zx.dn 2=false/\Zx.dn 3=false/\Zx.dn 4=false/\Zx.dn 5=false/\Zx.dn 6=false/\Zx.dn 7=false/\Zx.dn 8=false/\Zx.dn 9=false/\Zx.dn 10=true/\Zx.dn 11=true:=dk
def AW2:Zx.tk=[21,31,41,60]/\Zx.mt=[]/\Zx.pc=[28,45]:=⟨rfl,rfl,rfl⟩
def AW4:FK AA 38 f38 Zx:=F2 func38
def h11:Ee:=hm [279,24599,1879072789,4026556437,1879138325,1879269397,122138345493,259577298965,122138869781,122141491221,122140442645,0x400001c70034015,7168,122138345493,1879269397,0xe000000070016015,0x1e000000070016015,0xe000000070816015,0xe000000070816015,0xe000000071816015,0x4000e000000070816015,0xe000000070016015,0xe000000070016015,1879072789,7168] [28,34,49,50,59,61,71,79,85,86] [] [46,74]
def AXu:h11.lv=Ft [[0,1,2,4,8],[0,1,2,4,13,14],[0,2,4,13,14,28,29,30],[0,2,4,13,14,28,29,30,31],[0,2,4,13,14,16,28,29,30],[0,2,4,13,14,16,17,28,29,30],[0,2,4,14,16,17,28,29,30,34,35,36],[0,2,4,14,16,17,28,29,30,34,35,36,37],[0,2,4,14,16,17,19,28,29,30,34,35,36],[0,2,4,14,16,17,20,21,28,29,30,34,35,36],[0,2,4,14,16,17,21,28,29,30,34,35,36],[0,2,4,14,16,17,28,29,30,34,35,36,58],[10,11,12],[0,2,4,14,16,17,28,29,30,34,35,36],[0,2,4,13,14,16,17,28,29,30],[0,2,4,13,14,16,28,29,30,61,62,63],[0,2,4,13,14,16,28,29,30,61,62,63,64],[0,2,4,13,14,16,23,28,29,30,61,62,63],[0,2,4,13,14,16,23,28,29,30,61,62,63],[0,2,4,13,14,16,23,24,28,29,30,61,62,63],[0,2,4,13,14,16,23,28,29,30,61,62,63,78],[0,2,4,13,14,16,28,29,30,61,62,63],[0,2,4,13,14,16,28,29,30,61,62,63],[0,2,4,13,14,28,29,30],[10,11,12]]:=Fx rfl dk
@[go_sem] def Afv:=F4 h11
def AXt:h11.tk=[28,34,49,50,59,61,71,79,85,86]/\h11.mt=[]/\h11.pc=[46,74]:=⟨rfl,rfl,rfl⟩
def AXv:FK AA 11 f11 h11:=F2 func11
def h28:Ee:=hm [6,1] [3] [] []
def AXY:h28.lv=Ft [[1,2],[0]]:=Fx rfl dk
@[go_sem] def Afn:=F4 h28
def AXX:h28.tk=[3]/\h28.mt=[]/\h28.pc=[]:=⟨rfl,rfl,rfl⟩
def AXZ:FK AA 28 f28 h28:=F2 func28
def h29:Ee:=hm [1,17,4,4] [6] [] []
def AXW:h29.lv=Ft [[0],[0,4],[2],[2]]:=Fx rfl dk
@[go_sem] def Afm:=F4 h29
def h56:Ee:=hm [3,387,899,419,65955,16,387,16] [] [] []
def AWb:h56.lv=Ft [[0,1],[0,1,7,8],[0,1,7,8,9],[0,1,5,7,8],[0,1,5,7,8,16],[4],[0,1,7,8],[4]]:=Fx rfl dk
@[go_sem] def AfX:=F4 h56
def AWa:h56.tk=[]/\h56.mt=[]/\h56.pc=[]:=⟨rfl,rfl,rfl⟩
def AWc:FK AA 56 f56 h56:=F2 func56
def h58:Ee:=hx [105,256] [9] [11,17] [] [17] [] [2006,2007]
def AWU:h58.lv=Ft [[0,3,5,6],[8]]:=Fx rfl dk
def AWW(k:Nat):h58.ct k=none:=rfl
def AWR(k:Nat):h58.at k=[]:=rfl
def AWS:h58.dn 0=false/\h58.dn 1=true:=dk
def AWT:h58.tk=[9]/\h58.mt=[11,17]/\h58.pc=[17]:=⟨rfl,rfl,rfl⟩
def AWV:FK AA 58 f58 h58:=F2 func58
def h57:Ee:=hm [62,64] [] [] [30]
def AWY:h57.lv=Ft [[1,2,3,4,5],[6]]:=Fx rfl dk
@[go_sem] def AfW:=F4 h57
def AWX:h57.tk=[]/\h57.mt=[]/\h57.pc=[30]:=⟨rfl,rfl,rfl⟩
def AWZ:FK AA 57 f57 h57:=F2 func57
def h30:Ee:=hm [240,256] [] [] []
def AXU:h30.lv=Ft [[4,5,6,7],[8]]:=Fx rfl dk
@[go_sem] def Afl:=F4 h30
def AXT:h30.tk=[]/\h30.mt=[]/\h30.pc=[]:=⟨rfl,rfl,rfl⟩
def AXV:FK AA 30 f30 h30:=F2 func30
def h31:Ee:=hm [1,17,4,4] [6] [] []
def AXR:h31.lv=Ft [[0],[0,4],[2],[2]]:=Fx rfl dk
@[go_sem] def Afk:=F4 h31
def AXQ:h31.tk=[6]/\h31.mt=[]/\h31.pc=[]:=⟨rfl,rfl,rfl⟩
def AXS:FK AA 31 f31 h31:=F2 func31
def h59:Ee:=hm [3,387,899,419,65955,16,387,16] [] [] []
def AWP:h59.lv=Ft [[0,1],[0,1,7,8],[0,1,7,8,9],[0,1,5,7,8],[0,1,5,7,8,16],[4],[0,1,7,8],[4]]:=Fx rfl dk
@[go_sem] def AfV:=F4 h59
def AWO:h59.tk=[]/\h59.mt=[]/\h59.pc=[]:=⟨rfl,rfl,rfl⟩
def AWQ:FK AA 59 f59 h59:=F2 func59
def h60:Ee:=hm [6,8] [] [] []
def AWM:h60.lv=Ft [[1,2],[3]]:=Fx rfl dk
@[go_sem] def AfU:=F4 h60
def AWL:h60.tk=[]/\h60.mt=[]/\h60.pc=[]:=⟨rfl,rfl,rfl⟩
def AWN:FK AA 60 f60 h60:=F2 func60
def h32:Ee:=hm [12,64,48] [] [] []
def AXO:h32.lv=Ft [[2,3],[6],[4,5]]:=Fx rfl dk
@[go_sem] def Afj:=F4 h32
def AXN:h32.tk=[]/\h32.mt=[]/\h32.pc=[]:=⟨rfl,rfl,rfl⟩
def AXP:FK AA 32 f32 h32:=F2 func32
def h6:Ee:=hm [90,2138,6234,481036343386,0xf00000185a,481036367962,481036449882,563430989805658,481036343386,481036343386,137242,399386,923674,0x20000000000e181a,923674,1972250,4069402,8263706,121509914,0x10000000000000000033e181a,1792,20846618,0x3800000000000000000003e181a,0x7800000000000000000003e181a,0x3800000000000000000103e181a,0x3800000000000000000703e181a,0x1003800000000000000000303e181a,0x3800000000000000000b03e181a,0x100003800000000000000000b03e181a,0x3800000000000000000003e181a,0x3800000000000000001903e181a,0x3800000000000000001903e181a,0x3800000000000000000003e181a,0x3800000000000000000003e181a,0x8000000000000000000000000000000000000e181a,1792,1792] [82,97,101,103,125,168,169,170] [] [46,57,76,91,112,122,131,143,158]
def AcC:h6.lv=Ft [[1,3,4,6],[1,3,4,6,11],[1,3,4,6,11,12],[1,3,4,6,11,12,36,37,38],[1,3,4,6,11,12,36,37,38,39],[1,3,4,6,11,12,13,14,36,37,38],[1,3,4,6,11,12,13,15,16,36,37,38],[1,3,4,6,11,12,13,15,36,37,38,49],[1,3,4,6,11,12,36,37,38],[1,3,4,6,11,12,36,37,38],[1,3,4,11,12,17],[1,3,4,11,12,17,18],[1,3,4,11,12,17,18,19],[1,3,4,11,12,17,18,19,61],[1,3,4,11,12,17,18,19],[1,3,4,11,12,17,18,19,20],[1,3,4,11,12,17,18,19,20,21],[1,3,4,11,12,17,18,19,20,21,22],[1,3,4,11,12,17,18,19,20,21,24,25,26],[1,3,4,11,12,17,18,19,20,21,24,25,96],[8,9,10],[1,3,4,11,12,17,18,19,20,21,24],[1,3,4,11,12,17,18,19,20,21,103,104,105],[1,3,4,11,12,17,18,19,20,21,103,104,105,106],[1,3,4,11,12,17,18,19,20,21,28,103,104,105],[1,3,4,11,12,17,18,19,20,21,28,29,30,103,104,105],[1,3,4,11,12,17,18,19,20,21,28,29,103,104,105,116],[1,3,4,11,12,17,18,19,20,21,28,29,31,103,104,105],[1,3,4,11,12,17,18,19,20,21,28,29,31,103,104,105,124],[1,3,4,11,12,17,18,19,20,21,103,104,105],[1,3,4,11,12,17,18,19,20,21,28,31,32,103,104,105],[1,3,4,11,12,17,18,19,20,21,28,31,32,103,104,105],[1,3,4,11,12,17,18,19,20,21,103,104,105],[1,3,4,11,12,17,18,19,20,21,103,104,105],[1,3,4,11,12,17,18,19,167],[8,9,10],[8,9,10]]:=Fx rfl dk
@[go_sem] def Agv:=F4 h6
def h26:Ee:=hm [3,1027,16,35,16419,35,33554467,16,16] [] [] []
def AXb:h26.lv=Ft [[0,1],[0,1,10],[4],[0,1,5],[0,1,5,14],[0,1,5],[0,1,5,25],[4],[4]]:=Fx rfl dk
@[go_sem] def Afo:=F4 h26
def AXa:h26.tk=[]/\h26.mt=[]/\h26.pc=[]:=⟨rfl,rfl,rfl⟩
def AXc:FK AA 26 f26 h26:=F2 func26
def LP:Ee:=hm [3,2051,16,35,32803,35,99,72057594037927971,16,16] [] [] [28]
def AXo:LP.lv=Ft [[0,1],[0,1,11],[4],[0,1,5],[0,1,5,15],[0,1,5],[0,1,5,6],[0,1,5,56],[4],[4]]:=Fx rfl dk
@[go_sem] def Aft:=F4 LP
def AXn:LP.tk=[]/\LP.mt=[]/\LP.pc=[28]:=⟨rfl,rfl,rfl⟩
def AXp:FK AA 13 f13 LP:=F2 func13
def h5:Ee:=hx [1,2,6,6,30,122,506,4090,24570,122874,516090,2088954,0x800000000000000000000000000a9202,1,2789890,6984194,15372802,1] [124,137,138,141,142,146,152,157] [31] [(1,[(1,some 5,true)]),(3,[(2,some 5,true)])] [51,60] [] []
def AcH:h5.lv=Ft [[0],[1],[1,2],[1,2],[1,2,3,4],[1,3,4,5,6],[1,3,4,5,6,7,8],[1,3,4,5,6,7,8,9,10,11],[1,3,4,5,6,7,8,9,10,11,12,14],[1,3,4,5,6,7,8,9,10,11,12,14,15,16],[1,3,4,5,6,7,8,9,10,11,12,14,15,16,17,18],[1,3,4,5,6,7,8,9,10,11,12,14,15,16,17,18,19,20],[1,9,12,15,17,19,127],[0],[1,9,12,15,17,19,21],[1,9,12,15,17,19,21,22],[1,9,12,15,17,19,21,22,23],[0]]:=Fx rfl dk
def AcJ(k:Nat):h5.ct k=none:=rfl
def AcE:h5.at 0=[]/\h5.at 1=[(1,some 5,true)]/\h5.at 2=[]/\h5.at 3=[(2,some 5,true)]/\h5.at 4=[]/\h5.at 5=[]/\h5.at 6=[]/\h5.at 7=[]/\h5.at 8=[]/\h5.at 9=[]/\h5.at 10=[]/\h5.at 11=[]/\h5.at 12=[]/\h5.at 13=[]/\h5.at 14=[]/\h5.at 15=[]/\h5.at 16=[]/\h5.at 17=[]:=dk
def AcF(k:Nat):h5.dn k=false:=AH rfl rfl
def AcG:h5.tk=[124,137,138,141,142,146,152,157]/\h5.mt=[31]/\h5.pc=[51,60]:=⟨rfl,rfl,rfl⟩
def AcI:FK AA 5 f5 h5:=F2 func5
def h7:Ee:=hm [12,7176,15368,7272,7464,8395816,16,7176,16] [] [] [20]
def AcA:h7.lv=Ft [[2,3],[3,10,11,12],[3,10,11,12,13],[3,5,6,10,11,12],[3,5,8,10,11,12],[3,5,10,11,12,23],[4],[3,10,11,12],[4]]:=Fx rfl dk
@[go_sem] def Agu:=F4 h7
def Ab9:h7.tk=[]/\h7.mt=[]/\h7.pc=[20]:=⟨rfl,rfl,rfl⟩
def AcB:FK AA 7 f7 h7:=F2 func7
def h33:Ee:=hm [3,1027,16,35,16419,35,0x80000000000000023,16,16] [] [] [65]
def AXL:h33.lv=Ft [[0,1],[0,1,10],[4],[0,1,5],[0,1,5,14],[0,1,5],[0,1,5,67],[4],[4]]:=Fx rfl dk
@[go_sem] def Afi:=F4 h33
def AXK:h33.tk=[]/\h33.mt=[]/\h33.pc=[65]:=⟨rfl,rfl,rfl⟩
def AXM:FK AA 33 f33 h33:=F2 func33
def h8:Ee:=hm [3,2051,16,35,32803,35,99,268435491,16,16] [] [] [26]
def Ab7:h8.lv=Ft [[0,1],[0,1,11],[4],[0,1,5],[0,1,5,15],[0,1,5],[0,1,5,6],[0,1,5,28],[4],[4]]:=Fx rfl dk
@[go_sem] def Agt:=F4 h8
def Ab6:h8.tk=[]/\h8.mt=[]/\h8.pc=[26]:=⟨rfl,rfl,rfl⟩
def Ab8:FK AA 8 f8 h8:=F2 func8
def bq:Ee:=hx [7,16391,64,229382,491526,229766,230150,1073971206,64,229382,64] [15] [] [] [] [(9,0)] []
def AWv:bq.lv=Ft [[0,1,2],[0,1,2,14],[6],[1,2,15,16,17],[1,2,15,16,17,18],[1,2,7,8,15,16,17],[1,2,8,9,15,16,17],[1,2,15,16,17,30],[6],[1,2,15,16,17],[6]]:=Fx rfl dk
def AWx:bq.ct 0=none/\bq.ct 1=none/\bq.ct 2=none/\bq.ct 3=none/\bq.ct 4=none/\bq.ct 5=none/\bq.ct 6=none/\bq.ct 7=none/\bq.ct 8=none/\bq.ct 9=some 0/\bq.ct 10=none:=dk
def AWs(k:Nat):bq.at k=[]:=rfl
def AWt(k:Nat):bq.dn k=false:=AH rfl rfl
def AWu:bq.tk=[15]/\bq.mt=[]/\bq.pc=[]:=⟨rfl,rfl,rfl⟩
def AWw:FK AA 40 f40 bq:=F2 func40
def h41:Ee:=hm [12,16] [] [] [7]
def AWq:h41.lv=Ft [[2,3],[4]]:=Fx rfl dk
@[go_sem] def Afd:=F4 h41
def AWp:h41.tk=[]/\h41.mt=[]/\h41.pc=[7]:=⟨rfl,rfl,rfl⟩
def AWr:FK AA 41 f41 h41:=F2 func41
def Nu:Ee:=hm [3,16] [5,6] [] [7]
def AXl:Nu.lv=Ft [[0,1],[4]]:=Fx rfl dk
@[go_sem] def Afs:=F4 Nu
def AXk:Nu.tk=[5,6]/\Nu.mt=[]/\Nu.pc=[7]:=⟨rfl,rfl,rfl⟩
def AXm:FK AA 14 f14 Nu:=F2 func14
def h3:Ee:=hm [42,42,1073741866,64,938,1962,281474976712618,64,4010,28586,247690,0x80000000000000000000001878a,64,0x200000000000000000000001878a,64,361866,0xe000000000000000000000000005058a,0x1e000000000000000000000000005058a,0xe000000000000000000000000015058a,0xe000000000000000000000000065058a,0x2000e000000000000000000000000025058a,0xe000000000000000000000000005058a,0xe000000000000000000000000005058a,0x8000000000000000000000000000000000010502,64,0x60000000000000000000000000000000000010502,0xe0000000000000000000000000000000000010502,0x60000000000000000000000000000000000810502,0x2000000060000000000000000000000000000000000010502,64,0x60000000000000000000000000000000000010502,64] [55,60,61,87,116,121,122,125,142,149,150] [] [29,31,39,46,49,62,72,81,95,110,123,138,151,174,190,195]
def AcL:h3.lv=Ft [[1,3,5],[1,3,5],[1,3,5,30],[6],[1,3,5,7,8,9],[1,3,5,7,8,9,10],[1,3,5,7,8,9,10,48],[6],[1,3,5,7,8,9,10,11],[1,3,5,7,8,9,10,11,13,14],[1,3,7,8,9,10,14,15,16,17],[1,3,7,8,9,10,15,16,107],[6],[1,3,7,8,9,10,15,16,109],[6],[1,3,7,8,10,15,16,18],[1,3,7,8,10,16,18,125,126,127],[1,3,7,8,10,16,18,125,126,127,128],[1,3,7,8,10,16,18,20,125,126,127],[1,3,7,8,10,16,18,21,22,125,126,127],[1,3,7,8,10,16,18,21,125,126,127,141],[1,3,7,8,10,16,18,125,126,127],[1,3,7,8,10,16,18,125,126,127],[1,8,10,16,159],[6],[1,8,10,16,161,162],[1,8,10,16,161,162,163],[1,8,10,16,23,161,162],[1,8,10,16,161,162,193],[6],[1,8,10,16,161,162],[6]]:=Fx rfl dk
@[go_sem] def Agx:=F4 h3
attribute [go_sem] AUX AUW ABK AC6 ATx wD wC ATv ATu ATt mK mJ qG AHB ABk fU fT fQ fP AK6 AK5 ANu ANt AJl AJk ALD ALC AN4 AN3 AN2 AN1 ALB ALA ANz ANy AU9 AU8 AK9 AK8 ANw ANv AVC AVB ANi ANh AJc AJb AJi AJh AK3 AK2 AIV AIU AJX AJW AIB AIA AHq AHp AHn AHm AHe AHd AHh AHg AHk AHj AHt AHs AIS AIR AID AIC AI6 AI5 AI9 AI8 AKj AKi AH9 AH8 AIx AIw AKa AKZ ANB ANA AKV AKU AI3 AI2 AIu AIt AKS AKR AI0 AIz AKd AKc AKX AKW AM7 AM9 AM4 AM5 AM6 AM1 AM3 AMy AMz AM0 AKQ AKP AMV AMU AMa AMc AMX AMY AMZ AMe AMd AMw AMv AUk AUm AUh AUi AUj AIY AIX AJf AJe AJa AJZ AKz AK1 AKw AKx AKy AKg AKf ANE AND AJU AJT AKu AKt ANr ANq AKs AKr AKp AKo ANX ANZ ANU ANV ANW AVE AVD ANo ANn ANl ANk AU5 AU7 AU2 AU3 AU4 ANe ANd ANb ANa AU0 AUz AWe AWd APp APo AWG AXI AXH Ab4 Ab3 ANN ANM AVP AVO AWz AWy AXr AXq mr AHA AIP AIO AIG AIF AJC AJB AIM AIL AJO AJN AJF AJE AIJ AII AJK AJM AJH AJI AJJ AJR AJQ AKm AKl ANR ANT ANO ANP ANQ APm APl AMO AMQ AML AMM AMN AMJ AMI APa APZ AV1 AV3 AVy AVz AV0 AWE AWD AV5 AV4 APi APk APf APg APh APd APc AWA AWC AV7 AV8 AV9 AXF AXE APM APL AVu AVt APR APQ AMF AMH AMC AMD AME APP APO APW APY APT APU APV AVx AVw AH6 AH5 AIn AIm AN9 AN8 AH3 AH2 AH0 AHz AIk AIj AIh AIg AHx AHw AIb AIa AIe AId AKE AKD ALy ALx APF APE APC APB AL4 AL3 AIq AIp AKK AKJ AKH AKG AL1 AL0 API APH AL9 AMB AL6 AL7 AL8 APK APJ AKB AKA ALv ALu ALs ALr AO9 AO8 AVp AVo AVr AVq AXC AXB AXz AX1 AXw AXx AXy mu fN AMS AMR ALp ALo AO4 AO3 ALm ALl wB mq AG9 AVm AVl AO1 AO0 ALg ALf ALj ALi AOv AOu AOy AOx AOs AOr AO7 AO6 AOn AOm AOk AOj AOi AOh AN6 AN5 AVH AVG AJ2 AJ1 AJ7 AJ9 AJ4 AJ5 AJ6 ALc AOf AOe AOb AOd AOY AOZ AOa AJ0 AJz ALb ALa AJx AJw ALV ALU ALY ALX AOV AOX AOS AOT AOU AOq AOp AVj AVi AW9 AXA AW6 AW7 AW8 ALG ALF ATw AHI AUY mI fR AWl AWk AUx AUw ANK ANJ ANH ANG AUu AUt AUq AUs AUn AUo AUp AWi AWh AXi AXh AMt AMs AKN AKM AMq AMp AWJ AWI AMn AMm AMk AMj AUg AMh AMg AUf AWg AXg AXe AXd AcK AJu AJt AOI AOH AJq AJp AJn AJm ALP ALO ALM ALL AOK AOJ AVM AVL AVJ AVI AWn AWm ALJ ALI AOC AOB AJs AJr ALS ALR AOQ AOP AON AOM AVh AVg AVe AVd AVc AOF AOE AVb AVZ AVa AVX AVY AVV AVU AVS AVR AW3 AW5 AW0 AW1 AW2 AXu AXt AXY AXX AXW AWb AWa AWU AWW AWR AWS AWT AWY AWX AXU AXT AXR AXQ AWP AWO AWM AWL AXO AXN AcC AXb AXa AXo AXn AcH AcJ AcE AcF AcG AcA Ab9 AXL AXK Ab7 Ab6 AWv AWx AWs AWt AWu AWq AWp AXl AXk AcL
end Go.AI
