/- Closed facts about the program's types. Printed by fa.py. -/
import Derived.Test.YtnbekihfchfioaaGreatDoorProg
import Derived.Test.YtnbekihfchfioaaGreatDoorLi
import Derived.KernelRfl
set_option linter.unusedSimpArgs false
set_option linter.unusedVariables false
open Go.Proofs.Tryz
open Eq renaming trans->AH
open Go.Proofs.Tryz renaming prog->AA
namespace Go.AI
open Go.Proofs
theorem AAZ:Tryz.prog.cellsOf 3=1/\Tryz.prog.bytesOf 3=8/\H6 AA 3=some none/\Tryz.prog.underlying 3=some (.int .i64)/\FS AA 3=true/\(Tryz.prog.info? 3).isSome=true/\EW AA 3=some (.int .i64 0)/\Tryz.prog.cellsOf 4=1/\Tryz.prog.bytesOf 4=1/\H6 AA 4=some none/\Vi AA 4=true/\(Tryz.prog.info? 4).isSome=true:=⟨kr,kr,kr,kr,kr,kr,kr,kr,kr,kr,kr,kr⟩
theorem ACL:EW AA 4=some (.bool false)/\Tryz.prog.cellsOf 9=1/\Tryz.prog.bytesOf 9=16/\H6 AA 9=some none/\Tryz.prog.underlying 9=some .string/\FS AA 9=true/\(Tryz.prog.info? 9).isSome=true/\Tryz.prog.cellsOf 22=1/\H6 AA 22=some none/\Tryz.prog.underlying 22=some (.slice 128)/\Tryz.prog.cellsOf 23=1/\H6 AA 23=some none:=⟨kr,kr,kr,kr,kr,kr,kr,kr,kr,kr,kr,kr⟩
theorem ASZ:Tryz.prog.underlying 23=some (.slice 191)/\Tryz.prog.cellsOf 24=1/\H6 AA 24=some none/\Tryz.prog.underlying 24=some (.slice 92)/\Tryz.prog.cellsOf 26=3/\H6 AA 26=some (some 3)/\Dy AA 26 0=some (22,0)/\Dy AA 26 1=some (23,1)/\Dy AA 26 2=some (24,2)/\Tryz.prog.cellsOf 27=1/\H6 AA 27=some none/\Tryz.prog.underlying 27=some (.slice 126):=⟨kr,kr,kr,kr,kr,kr,kr,kr,kr,kr,kr,kr⟩
theorem vD:Tryz.prog.cellsOf 28=1/\H6 AA 28=some none/\Tryz.prog.underlying 28=some (.slice 54)/\Tryz.prog.cellsOf 29=1/\H6 AA 29=some none/\Tryz.prog.underlying 29=some (.slice 76)/\Tryz.prog.cellsOf 31=6/\H6 AA 31=some (some 6)/\Dy AA 31 0=some (26,0)/\Dy AA 31 1=some (27,3)/\Dy AA 31 2=some (28,4)/\Dy AA 31 3=some (29,5):=⟨kr,kr,kr,kr,kr,kr,kr,kr,kr,kr,kr,kr⟩
theorem vC:Tryz.prog.cellsOf 34=10/\Tryz.prog.bytesOf 34=80/\H6 AA 34=some (some 10)/\Tryz.prog.underlying 34=some (.array 10 3)/\FS AA 34=true/\(Tryz.prog.info? 34).isSome=true/\JI AA 34 = .array 1/\Tryz.prog.cellsOf 40=1/\H6 AA 40=some none/\EW AA 40=some (.int .i64 0)/\Tryz.prog.cellsOf 47=1/\H6 AA 47=some none:=⟨kr,kr,kr,kr,kr,kr,kr,kr,kr,kr,kr,kr⟩
theorem ASX:Tryz.prog.underlying 47=some (.slice 130)/\Tryz.prog.cellsOf 48=1/\H6 AA 48=some none/\Tryz.prog.underlying 48=some (.slice 210)/\Tryz.prog.cellsOf 50=1/\H6 AA 50=some none/\Tryz.prog.underlying 50=some (.slice 110)/\Tryz.prog.cellsOf 51=1/\H6 AA 51=some none/\Tryz.prog.underlying 51=some (.slice 250)/\Tryz.prog.cellsOf 52=1/\H6 AA 52=some none:=⟨kr,kr,kr,kr,kr,kr,kr,kr,kr,kr,kr,kr⟩
theorem ASW:Tryz.prog.underlying 52=some (.slice 280)/\Tryz.prog.cellsOf 54=6/\H6 AA 54=some (some 6)/\Dy AA 54 0=some (9,0)/\Dy AA 54 1=some (47,1)/\Dy AA 54 2=some (48,2)/\Dy AA 54 3=some (50,3)/\Dy AA 54 4=some (51,4)/\Dy AA 54 5=some (52,5)/\Tryz.prog.cellsOf 61=1/\Tryz.prog.bytesOf 61=24/\H6 AA 61=some none:=⟨kr,kr,kr,kr,kr,kr,kr,kr,kr,kr,kr,kr⟩
theorem ASV:Tryz.prog.underlying 61=some (.slice 3)/\mi AA 61=true/\FS AA 61=true/\Tryz.prog.cellsOf 72=1/\H6 AA 72=some none/\Tryz.prog.underlying 72=some (.slice 74)/\Tryz.prog.cellsOf 74=5/\Tryz.prog.bytesOf 74=64/\H6 AA 74=some (some 5)/\FS AA 74=true/\(Tryz.prog.info? 74).isSome=true/\JI AA 74 = .struct [(0,1),(1,1),(2,1),(3,1),(4,1)]:=⟨kr,kr,kr,kr,kr,kr,kr,kr,kr,kr,kr,kr⟩
theorem oQ:Dy AA 74 0=some (3,0)/\Dy AA 74 1=some (9,1)/\Dy AA 74 2=some (3,2)/\Dy AA 74 3=some (3,3)/\Dy AA 74 4=some (72,4)/\Tryz.prog.cellsOf 76=12/\H6 AA 76=some (some 12)/\Dy AA 76 0=some (9,0)/\Dy AA 76 1=some (9,1)/\Dy AA 76 2=some (3,2)/\Dy AA 76 3=some (3,3)/\Dy AA 76 4=some (74,4):=⟨kr,kr,kr,kr,kr,kr,kr,kr,kr,kr,kr,kr⟩
theorem oP:Dy AA 76 5=some (3,9)/\Dy AA 76 6=some (3,10)/\Dy AA 76 7=some (3,11)/\Tryz.prog.cellsOf 92=2/\Dy AA 92 0=some (9,0)/\Dy AA 92 1=some (3,1)/\Tryz.prog.cellsOf 103=1/\H6 AA 103=some none/\Tryz.prog.underlying 103=some (.slice 105)/\Tryz.prog.cellsOf 105=9/\Tryz.prog.bytesOf 105=120/\H6 AA 105=some (some 9):=⟨kr,kr,kr,kr,kr,kr,kr,kr,kr,kr,kr,kr⟩
theorem sI:FS AA 105=true/\(Tryz.prog.info? 105).isSome=true/\JI AA 105 = .struct [(0,1),(1,5),(6,1),(7,1),(8,1)]/\Dy AA 105 0=some (3,0)/\Dy AA 105 1=some (74,1)/\Dy AA 105 2=some (9,6)/\Dy AA 105 3=some (3,7)/\Dy AA 105 4=some (103,8)/\Tryz.prog.cellsOf 106=1/\H6 AA 106=some none/\Tryz.prog.underlying 106=some (.slice 9)/\Tryz.prog.cellsOf 108=6:=⟨kr,kr,kr,kr,kr,kr,kr,kr,kr,kr,kr,kr⟩
theorem AGR:H6 AA 108=some (some 6)/\JI AA 108 = .struct [(0,1),(1,1),(2,1),(3,1),(4,1),(5,1)]/\Dy AA 108 0=some (3,0)/\Dy AA 108 1=some (9,1)/\Dy AA 108 2=some (106,2)/\Dy AA 108 3=some (9,3)/\Dy AA 108 4=some (3,4)/\Dy AA 108 5=some (3,5)/\Tryz.prog.cellsOf 110=15/\Tryz.prog.bytesOf 110=200/\H6 AA 110=some (some 15)/\FS AA 110=true:=⟨kr,kr,kr,kr,kr,kr,kr,kr,kr,kr,kr,kr⟩
theorem AAz:JI AA 110 = .struct [(0,9),(9,6)]/\Dy AA 110 0=some (105,0)/\Dy AA 110 1=some (108,9)/\Tryz.prog.cellsOf 119=4/\Tryz.prog.bytesOf 119=56/\H6 AA 119=some (some 4)/\FS AA 119=true/\(Tryz.prog.info? 119).isSome=true/\JI AA 119 = .struct [(0,1),(1,1),(2,1),(3,1)]/\Dy AA 119 0=some (9,0)/\Dy AA 119 1=some (61,1)/\Dy AA 119 2=some (3,2):=⟨kr,kr,kr,kr,kr,kr,kr,kr,kr,kr,kr,kr⟩
theorem gh:Dy AA 119 3=some (3,3)/\Tryz.prog.cellsOf 126=3/\H6 AA 126=some (some 3)/\JI AA 126 = .struct [(0,1),(1,1),(2,1)]/\Dy AA 126 0=some (9,0)/\Dy AA 126 1=some (3,1)/\Dy AA 126 2=some (3,2)/\Tryz.prog.cellsOf 128=4/\H6 AA 128=some (some 4)/\Dy AA 128 0=some (9,0)/\Dy AA 128 1=some (4,1)/\Dy AA 128 2=some (3,2):=⟨kr,kr,kr,kr,kr,kr,kr,kr,kr,kr,kr,kr⟩
theorem gf:Dy AA 128 3=some (3,3)/\Tryz.prog.cellsOf 130=2/\H6 AA 130=some (some 2)/\Dy AA 130 0=some (9,0)/\Dy AA 130 1=some (3,1)/\Tryz.prog.cellsOf 191=3/\H6 AA 191=some (some 3)/\Dy AA 191 0=some (3,0)/\Dy AA 191 1=some (3,1)/\Dy AA 191 2=some (3,2)/\Tryz.prog.cellsOf 210=2/\H6 AA 210=some (some 2):=⟨kr,kr,kr,kr,kr,kr,kr,kr,kr,kr,kr,kr⟩
theorem gd:Dy AA 210 0=some (3,0)/\Dy AA 210 1=some (3,1)/\Tryz.prog.cellsOf 246=1/\H6 AA 246=some none/\Tryz.prog.underlying 246=some (.slice 248)/\Tryz.prog.cellsOf 248=3/\H6 AA 248=some (some 3)/\Dy AA 248 0=some (3,0)/\Dy AA 248 1=some (9,1)/\Dy AA 248 2=some (246,2)/\Tryz.prog.cellsOf 250=8/\Dy AA 250 0=some (74,0):=⟨kr,kr,kr,kr,kr,kr,kr,kr,kr,kr,kr,kr⟩
theorem gY:Dy AA 250 1=some (248,5)/\Tryz.prog.cellsOf 253=2/\H6 AA 253=some (some 2)/\JI AA 253 = .struct [(0,1),(1,1)]/\Dy AA 253 0=some (3,0)/\Dy AA 253 1=some (3,1)/\Tryz.prog.cellsOf 280=4/\H6 AA 280=some (some 4)/\Dy AA 280 0=some (3,0)/\Dy AA 280 1=some (3,1)/\Dy AA 280 2=some (3,2)/\Dy AA 280 3=some (3,3):=⟨kr,kr,kr,kr,kr,kr,kr,kr,kr,kr,kr,kr⟩
theorem mixed:Tryz.prog.follows .mixedOrders=true:=kr
def nU:Hint:=hm [28,16] [] [] []
theorem AKT:nU.lv 0=[2,3,4]/\nU.lv 1=[4]/\nU.tk=[]/\nU.mt=[]/\nU.pc=[]:=dk
def AKS:=DV nU rfl rfl rfl
theorem AKU:FK AA 217 f217 nU:=⟨kr,kr,func217,kr⟩
def Tl:Hint:=hm [6,14,30,1054,30,30,4] [] [] [19,20]
theorem ANB:Tl.lv 0=[1,2]/\Tl.lv 1=[1,2,3]/\Tl.lv 2=[1,2,3,4]/\Tl.lv 3=[1,2,3,4,10]/\Tl.lv 4=[1,2,3,4]/\Tl.lv 5=[1,2,3,4]/\Tl.lv 6=[2]/\Tl.tk=[]/\Tl.mt=[]/\Tl.pc=[19,20]:=dk
def ANA:=DV Tl rfl rfl rfl
theorem zi:FK AA 155 f155 Tl:=⟨kr,kr,func155,kr⟩
def Qp:Hint:=hm [6,14,270,14,30,262174,30,30,4] [] [] [12,13,27,28]
theorem AI6:Qp.lv 0=[1,2]/\Qp.lv 1=[1,2,3]/\Qp.lv 2=[1,2,3,8]/\Qp.lv 3=[1,2,3]/\Qp.lv 4=[1,2,3,4]/\Qp.lv 5=[1,2,3,4,18]/\Qp.lv 6=[1,2,3,4]/\Qp.lv 7=[1,2,3,4]/\Qp.lv 8=[2]/\Qp.tk=[]/\Qp.mt=[]/\Qp.pc=[12,13,27,28]:=dk
def AI5:=DV Qp rfl rfl rfl
theorem zW:FK AA 269 f269 Qp:=⟨kr,kr,func269,kr⟩
def aR:Hint:=hm [2,10,24,4] [] [] [6,9]
theorem AKa:aR.lv 0=[1]/\aR.lv 1=[1,3]/\aR.lv 2=[3,4]/\aR.lv 3=[2]/\aR.tk=[]/\aR.mt=[]/\aR.pc=[6,9]:=dk
def AKZ:=DV aR rfl rfl rfl
theorem AKb:FK AA 214 f214 aR:=⟨kr,kr,func214,kr⟩
def SL:Hint:=hm [1,9,4105,9,25,4294967305,4,4] [33] [] [20]
theorem ANL:SL.lv 0=[0]/\SL.lv 1=[0,3]/\SL.lv 2=[0,3,12]/\SL.lv 3=[0,3]/\SL.lv 4=[0,3,4]/\SL.lv 5=[0,3,32]/\SL.lv 6=[2]/\SL.lv 7=[2]/\SL.tk=[33]/\SL.mt=[]/\SL.pc=[20]:=dk
def ANK:=DV SL rfl rfl rfl
theorem zm:FK AA 151 f151 SL:=⟨kr,kr,func151,kr⟩
def Qx:Hint:=hm [2,10,26,538,26,26,4194312,8,4] [] [] [18]
theorem ANJ:Qx.lv 0=[1]/\Qx.lv 1=[1,3]/\Qx.lv 2=[1,3,4]/\Qx.lv 3=[1,3,4,9]/\Qx.lv 4=[1,3,4]/\Qx.lv 5=[1,3,4]/\Qx.lv 6=[3,22]/\Qx.lv 7=[3]/\Qx.lv 8=[2]/\Qx.tk=[]/\Qx.mt=[]/\Qx.pc=[18]:=dk
def ANI:=DV Qx rfl rfl rfl
theorem zj:FK AA 152 f152 Qx:=⟨kr,kr,func152,kr⟩
def Qu:Hint:=hm [2,10,26,538,26,26,4194312,8,4] [] [] [18]
theorem AKY:Qu.lv 0=[1]/\Qu.lv 1=[1,3]/\Qu.lv 2=[1,3,4]/\Qu.lv 3=[1,3,4,9]/\Qu.lv 4=[1,3,4]/\Qu.lv 5=[1,3,4]/\Qu.lv 6=[3,22]/\Qu.lv 7=[3]/\Qu.lv 8=[2]/\Qu.tk=[]/\Qu.mt=[]/\Qu.pc=[18]:=dk
def AKX:=DV Qu rfl rfl rfl
theorem zf:FK AA 215 f215 Qu:=⟨kr,kr,func215,kr⟩
def aU:Hint:=hm [2,10,24,4] [] [] [6,8]
theorem ANG:aU.lv 0=[1]/\aU.lv 1=[1,3]/\aU.lv 2=[3,4]/\aU.lv 3=[2]/\aU.tk=[]/\aU.mt=[]/\aU.pc=[6,8]:=dk
def ANF:=DV aU rfl rfl rfl
theorem ANH:FK AA 153 f153 aU:=⟨kr,kr,func153,kr⟩
def h87:Hint:=hm [2,8,4] [] [] [5]
theorem ATl:h87.lv 0=[1]/\h87.lv 1=[3]/\h87.lv 2=[2]/\h87.tk=[]/\h87.mt=[]/\h87.pc=[5]:=dk
def ATk:=DV h87 rfl rfl rfl
theorem ATm:FK AA 87 f87 h87:=⟨kr,kr,func87,kr⟩
def Tg:Hint:=hm [6,14,30,1054,30,30,4] [] [] [19,20]
theorem AKW:Tg.lv 0=[1,2]/\Tg.lv 1=[1,2,3]/\Tg.lv 2=[1,2,3,4]/\Tg.lv 3=[1,2,3,4,10]/\Tg.lv 4=[1,2,3,4]/\Tg.lv 5=[1,2,3,4]/\Tg.lv 6=[2]/\Tg.tk=[]/\Tg.mt=[]/\Tg.pc=[19,20]:=dk
def AKV:=DV Tg rfl rfl rfl
theorem ze:FK AA 216 f216 Tg:=⟨kr,kr,func216,kr⟩
def gP:Hint:=hm [2,8,4] [] [] [5]
theorem AND:gP.lv 0=[1]/\gP.lv 1=[3]/\gP.lv 2=[2]/\gP.tk=[]/\gP.mt=[]/\gP.pc=[5]:=dk
def ANC:=DV gP rfl rfl rfl
theorem ANE:FK AA 154 f154 gP:=⟨kr,kr,func154,kr⟩
def Wy:Hint:=hm [2,10,68719476738,4,18,2199023255570,18,0x2000000000000012,4,34,0x40000000000000022,34,98,226,0x10000000000000000000022,4,4] [] [] [10,50,59,75,82]
theorem ATo:Wy.lv 0=[1]/\Wy.lv 1=[1,3]/\Wy.lv 2=[1,36]/\Wy.lv 3=[2]/\Wy.lv 4=[1,4]/\Wy.lv 5=[1,4,41]/\Wy.lv 6=[1,4]/\Wy.lv 7=[1,4,61]/\Wy.lv 8=[2]/\Wy.lv 9=[1,5]/\Wy.lv 10=[1,5,66]/\Wy.lv 11=[1,5]/\Wy.lv 12=[1,5,6]/\Wy.lv 13=[1,5,6,7]/\Wy.lv 14=[1,5,88]/\Wy.lv 15=[2]/\Wy.lv 16=[2]/\Wy.tk=[]/\Wy.mt=[]/\Wy.pc=[10,50,59,75,82]:=dk
def ATn:=DV Wy rfl rfl rfl
theorem AE2:FK AA 86 f86 Wy:=⟨kr,kr,func86,kr⟩
def Qw:Hint:=hm [1,9,521,9,25,57,0x800000000009,4,4] [] [] []
theorem AMz:Qw.lv 0=[0]/\Qw.lv 1=[0,3]/\Qw.lv 2=[0,3,9]/\Qw.lv 3=[0,3]/\Qw.lv 4=[0,3,4]/\Qw.lv 5=[0,3,4,5]/\Qw.lv 6=[0,3,47]/\Qw.lv 7=[2]/\Qw.lv 8=[2]/\Qw.tk=[]/\Qw.mt=[]/\Qw.pc=[]:=dk
def AMy:=DV Qw rfl rfl rfl
theorem AM0:FK AA 159 f159 Qw:=⟨kr,kr,func159,kr⟩
def nJ:Hint:=hm [6,16] [] [] []
theorem AIx:nJ.lv 0=[1,2]/\nJ.lv 1=[4]/\nJ.tk=[]/\nJ.mt=[]/\nJ.pc=[]:=dk
def AIw:=DV nJ rfl rfl rfl
theorem AIy:FK AA 272 f272 nJ:=⟨kr,kr,func272,kr⟩
def nK:Hint:=hm [6,16] [] [] [7]
theorem AI3:nK.lv 0=[1,2]/\nK.lv 1=[4]/\nK.tk=[]/\nK.mt=[]/\nK.pc=[7]:=dk
def AI2:=DV nK rfl rfl rfl
theorem AI4:FK AA 270 f270 nK:=⟨kr,kr,func270,kr⟩
def Gj:Hint:=hm [12,44,262156,16,76,8388684,76,204,17179869260,16,332,137438953804,332,4503599627370828,16,524,0x20000000000020c,524,1548,0x800000000000000060c,16,3596,0x40000000000000000e0c,3596,0x100000000000000000000e0c,16,4104,0x2000000000000000000001008,4104,0x800000000000000000000000001008,16,12296,0x4000000000000000000000000003008,12296,0x20000000000000000000000000000003008,16,16] [] [] [16,32,107,117]
theorem AKQ:Gj.lv 0=[2,3]/\Gj.lv 1=[2,3,5]/\Gj.lv 2=[2,3,18]/\Gj.lv 3=[4]/\Gj.lv 4=[2,3,6]/\Gj.lv 5=[2,3,6,23]/\Gj.lv 6=[2,3,6]/\Gj.lv 7=[2,3,6,7]/\Gj.lv 8=[2,3,6,34]/\Gj.lv 9=[4]/\Gj.lv 10=[2,3,6,8]/\Gj.lv 11=[2,3,6,8,37]/\Gj.lv 12=[2,3,6,8]/\Gj.lv 13=[2,3,6,8,52]/\Gj.lv 14=[4]/\Gj.lv 15=[2,3,9]/\Gj.lv 16=[2,3,9,57]/\Gj.lv 17=[2,3,9]/\Gj.lv 18=[2,3,9,10]/\Gj.lv 19=[2,3,9,10,75]/\Gj.lv 20=[4]/\Gj.lv 21=[2,3,9,10,11]/\Gj.lv 22=[2,3,9,10,11,78]/\Gj.lv 23=[2,3,9,10,11]/\Gj.lv 24=[2,3,9,10,11,92]/\Gj.lv 25=[4]/\Gj.lv 26=[3,12]/\Gj.lv 27=[3,12,97]/\Gj.lv 28=[3,12]/\Gj.lv 29=[3,12,119]/\Gj.lv 30=[4]/\Gj.lv 31=[3,12,13]/\Gj.lv 32=[3,12,13,122]/\Gj.lv 33=[3,12,13]/\Gj.lv 34=[3,12,13,137]/\Gj.lv 35=[4]/\Gj.lv 36=[4]:=dk
def AKP:=DV Gj rfl rfl rfl
theorem AKO:Gj.tk=[]/\Gj.mt=[]/\Gj.pc=[16,32,107,117]:=⟨rfl,rfl,rfl⟩
theorem AKR:FK AA 218 f218 Gj:=⟨kr,kr,func218,kr⟩
def aO:Hint:=hm [2,1024,4,4] [] [] []
theorem AHm:aO.lv 0=[1]/\aO.lv 1=[10]/\aO.lv 2=[2]/\aO.lv 3=[2]/\aO.tk=[]/\aO.mt=[]/\aO.pc=[]:=dk
def AHl:=DV aO rfl rfl rfl
theorem AHn:FK AA 315 f315 aO:=⟨kr,kr,func315,kr⟩
def XV:Hint:=hm [6,34,8224,16,16] [] [] [7]
theorem AIs:XV.lv 0=[1,2]/\XV.lv 1=[1,5]/\XV.lv 2=[5,13]/\XV.lv 3=[4]/\XV.lv 4=[4]/\XV.tk=[]/\XV.mt=[]/\XV.pc=[7]:=dk
def AIr:=DV XV rfl rfl rfl
theorem AIt:FK AA 274 f274 XV:=⟨kr,kr,func274,kr⟩
def Pv:Hint:=hm [12,2199023255564,16,44,70368744177708,44,108,0x200000000000002c,16,16] [] [] [59]
theorem AHS:Pv.lv 0=[2,3]/\Pv.lv 1=[2,3,41]/\Pv.lv 2=[4]/\Pv.lv 3=[2,3,5]/\Pv.lv 4=[2,3,5,46]/\Pv.lv 5=[2,3,5]/\Pv.lv 6=[2,3,5,6]/\Pv.lv 7=[2,3,5,61]/\Pv.lv 8=[4]/\Pv.lv 9=[4]/\Pv.tk=[]/\Pv.mt=[]/\Pv.pc=[59]:=dk
def AHR:=DV Pv rfl rfl rfl
theorem zU:FK AA 322 f322 Pv:=⟨kr,kr,func322,kr⟩
def mw:Hint:=hm [1,4] [] [] []
theorem AG8:mw.lv 0=[0]/\mw.lv 1=[2]/\mw.tk=[]/\mw.mt=[]/\mw.pc=[]:=dk
def AG7:=DV mw rfl rfl rfl
theorem AG9:FK AA 348 f348 mw:=⟨kr,kr,func348,kr⟩
def SF:Hint:=hm [1,9,25,537,25,131097,4,4] [] [] [5]
theorem AG5:SF.lv 0=[0]/\SF.lv 1=[0,3]/\SF.lv 2=[0,3,4]/\SF.lv 3=[0,3,4,9]/\SF.lv 4=[0,3,4]/\SF.lv 5=[0,3,4,17]/\SF.lv 6=[2]/\SF.lv 7=[2]/\SF.tk=[]/\SF.mt=[]/\SF.pc=[5]:=dk
def AG4:=DV SF rfl rfl rfl
theorem AG6:FK AA 349 f349 SF:=⟨kr,kr,func349,kr⟩
def mu:Hint:=hm [1,4] [] [] []
theorem AGv:mu.lv 0=[0]/\mu.lv 1=[2]/\mu.tk=[]/\mu.mt=[]/\mu.pc=[]:=dk
def AGu:=DV mu rfl rfl rfl
theorem AGw:FK AA 374 f374 mu:=⟨kr,kr,func374,kr⟩
def aM:Hint:=hm [1,9,25,4] [] [] [6,8]
theorem AGy:aM.lv 0=[0]/\aM.lv 1=[0,3]/\aM.lv 2=[0,3,4]/\aM.lv 3=[2]/\aM.tk=[]/\aM.mt=[]/\aM.pc=[6,8]:=dk
def AGx:=DV aM rfl rfl rfl
theorem AGz:FK AA 366 f366 aM:=⟨kr,kr,func366,kr⟩
def TZ:Hint:=hm [1,9,265,25,16393,9,4] [] [] [12]
theorem AG2:TZ.lv 0=[0]/\TZ.lv 1=[0,3]/\TZ.lv 2=[0,3,8]/\TZ.lv 3=[0,3,4]/\TZ.lv 4=[0,3,14]/\TZ.lv 5=[0,3]/\TZ.lv 6=[2]/\TZ.tk=[]/\TZ.mt=[]/\TZ.pc=[12]:=dk
def AG1:=DV TZ rfl rfl rfl
theorem AG3:FK AA 350 f350 TZ:=⟨kr,kr,func350,kr⟩
def Vn:Hint:=hm [1,4097,4,9,25,4] [] [] [15,17,21]
theorem AHB:Vn.lv 0=[0]/\Vn.lv 1=[0,12]/\Vn.lv 2=[2]/\Vn.lv 3=[0,3]/\Vn.lv 4=[0,3,4]/\Vn.lv 5=[2]/\Vn.tk=[]/\Vn.mt=[]/\Vn.pc=[15,17,21]:=dk
def AHA:=DV Vn rfl rfl rfl
theorem AHC:FK AA 340 f340 Vn:=⟨kr,kr,func340,kr⟩
def nC:Hint:=hm [1,4] [] [] [4]
theorem AHj:nC.lv 0=[0]/\nC.lv 1=[2]/\nC.tk=[]/\nC.mt=[]/\nC.pc=[4]:=dk
def AHi:=DV nC rfl rfl rfl
theorem AHk:FK AA 316 f316 nC:=⟨kr,kr,func316,kr⟩
def gK:Hint:=hm [1,9,4] [] [] [5]
theorem AHU:gK.lv 0=[0]/\gK.lv 1=[0,3]/\gK.lv 2=[2]/\gK.tk=[]/\gK.mt=[]/\gK.pc=[5]:=dk
def AHT:=DV gK rfl rfl rfl
theorem AHV:FK AA 321 f321 gK:=⟨kr,kr,func321,kr⟩
def G6:Hint:=hm [2,10,26,58,122,250,34359738618,103079215354,103079215354,194,1133871366394,194,0x80008000000fa,194,0x800000008000000ea,194,0x80000000000008000000e2,130,194,0x400000000000008000000e2,0x400000000000008000000e2,130,194,0x4000000000000000000000c2,194,0x10000000000000000000000000000042,4,322,0x80000000000000000000000000000142,322,834,0x20000000000000000000000000000000142,4,4] [] [] [12,135]
theorem AIP:G6.lv 0=[1]/\G6.lv 1=[1,3]/\G6.lv 2=[1,3,4]/\G6.lv 3=[1,3,4,5]/\G6.lv 4=[1,3,4,5,6]/\G6.lv 5=[1,3,4,5,6,7]/\G6.lv 6=[1,3,4,5,6,7,35]/\G6.lv 7=[1,3,4,5,6,7,35,36]/\G6.lv 8=[1,3,4,5,6,7,35,36]/\G6.lv 9=[1,6,7]/\G6.lv 10=[1,3,4,5,6,7,35,40]/\G6.lv 11=[1,6,7]/\G6.lv 12=[1,3,4,5,6,7,35,51]/\G6.lv 13=[1,6,7]/\G6.lv 14=[1,3,5,6,7,35,67]/\G6.lv 15=[1,6,7]/\G6.lv 16=[1,5,6,7,35,87]/\G6.lv 17=[1,7]/\G6.lv 18=[1,6,7]/\G6.lv 19=[1,5,6,7,35,90]/\G6.lv 20=[1,5,6,7,35,90]/\G6.lv 21=[1,7]/\G6.lv 22=[1,6,7]/\G6.lv 23=[1,6,7,94]/\G6.lv 24=[1,6,7]/\G6.lv 25=[1,6,124]/\G6.lv 26=[2]/\G6.lv 27=[1,6,8]/\G6.lv 28=[1,6,8,127]/\G6.lv 29=[1,6,8]/\G6.lv 30=[1,6,8,9]/\G6.lv 31=[1,6,8,137]/\G6.lv 32=[2]/\G6.lv 33=[2]:=dk
def AIO:=DV G6 rfl rfl rfl
theorem AIN:G6.tk=[]/\G6.mt=[]/\G6.pc=[12,135]:=⟨rfl,rfl,rfl⟩
theorem AIQ:FK AA 282 f282 G6:=⟨kr,kr,func282,kr⟩
def IH:Hint:=hm [2,10,26,58,122,250,67109114,201326842,194,34426847482,194,0x80000040000f2,0x80000040000f2,130,194,0x4000000000000f2,130,194,0x1000000000000000042,4,322,0x8000000000000000142,322,834,0x2000000000000000000142,4,4] [] [] [12,16,31,83]
theorem AIT:IH.lv 0=[1]/\IH.lv 1=[1,3]/\IH.lv 2=[1,3,4]/\IH.lv 3=[1,3,4,5]/\IH.lv 4=[1,3,4,5,6]/\IH.lv 5=[1,3,4,5,6,7]/\IH.lv 6=[1,3,4,5,6,7,26]/\IH.lv 7=[1,3,4,5,6,7,26,27]/\IH.lv 8=[1,6,7]/\IH.lv 9=[1,3,4,5,6,7,26,35]/\IH.lv 10=[1,6,7]/\IH.lv 11=[1,4,5,6,7,26,51]/\IH.lv 12=[1,4,5,6,7,26,51]/\IH.lv 13=[1,7]/\IH.lv 14=[1,6,7]/\IH.lv 15=[1,4,5,6,7,58]/\IH.lv 16=[1,7]/\IH.lv 17=[1,6,7]/\IH.lv 18=[1,6,72]/\IH.lv 19=[2]/\IH.lv 20=[1,6,8]/\IH.lv 21=[1,6,8,75]/\IH.lv 22=[1,6,8]/\IH.lv 23=[1,6,8,9]/\IH.lv 24=[1,6,8,85]/\IH.lv 25=[2]/\IH.lv 26=[2]:=dk
def AIS:=DV IH rfl rfl rfl
theorem AIR:IH.tk=[]/\IH.mt=[]/\IH.pc=[12,16,31,83]:=⟨rfl,rfl,rfl⟩
theorem AIU:FK AA 281 f281 IH:=⟨kr,kr,func281,kr⟩
def nR:Hint:=hm [2,4] [] [] [4,6,7]
theorem AJ5:nR.lv 0=[1]/\nR.lv 1=[2]/\nR.tk=[]/\nR.mt=[]/\nR.pc=[4,6,7]:=dk
def AJ4:=DV nR rfl rfl rfl
theorem AJ6:FK AA 224 f224 nR:=⟨kr,kr,func224,kr⟩
def Ql:Hint:=hm [12,0x80000000000c,16,44,4503599627370540,44,0x2000000000000002c,16,16] [] [] []
theorem AHQ:Ql.lv 0=[2,3]/\Ql.lv 1=[2,3,47]/\Ql.lv 2=[4]/\Ql.lv 3=[2,3,5]/\Ql.lv 4=[2,3,5,52]/\Ql.lv 5=[2,3,5]/\Ql.lv 6=[2,3,5,65]/\Ql.lv 7=[4]/\Ql.lv 8=[4]/\Ql.tk=[]/\Ql.mt=[]/\Ql.pc=[]:=dk
def AHP:=DV Ql rfl rfl rfl
theorem zT:FK AA 323 f323 Ql:=⟨kr,kr,func323,kr⟩
def Hm:Hint:=hm [2,10,4098,4,18,536870914,4,34,17179869218,34,98,17592186044450,4,130,386,0x200000000000182,0x600000000000182,4,0x200200000000000182,4,0x20000200000000000182,4,0x2000000000200000000000182,4,0x200000000000000200000000000182,4,0x8000000000000000000000000000002,4,4] [] [] [11,15,42,47]
theorem AIF:Hm.lv 0=[1]/\Hm.lv 1=[1,3]/\Hm.lv 2=[1,12]/\Hm.lv 3=[2]/\Hm.lv 4=[1,4]/\Hm.lv 5=[1,29]/\Hm.lv 6=[2]/\Hm.lv 7=[1,5]/\Hm.lv 8=[1,5,34]/\Hm.lv 9=[1,5]/\Hm.lv 10=[1,5,6]/\Hm.lv 11=[1,5,44]/\Hm.lv 12=[2]/\Hm.lv 13=[1,7]/\Hm.lv 14=[1,7,8]/\Hm.lv 15=[1,7,8,57]/\Hm.lv 16=[1,7,8,57,58]/\Hm.lv 17=[2]/\Hm.lv 18=[1,7,8,57,69]/\Hm.lv 19=[2]/\Hm.lv 20=[1,7,8,57,77]/\Hm.lv 21=[2]/\Hm.lv 22=[1,7,8,57,97]/\Hm.lv 23=[2]/\Hm.lv 24=[1,7,8,57,117]/\Hm.lv 25=[2]/\Hm.lv 26=[1,123]/\Hm.lv 27=[2]/\Hm.lv 28=[2]:=dk
def AIE:=DV Hm rfl rfl rfl
theorem AID:Hm.tk=[]/\Hm.mt=[]/\Hm.pc=[11,15,42,47]:=⟨rfl,rfl,rfl⟩
theorem AIG:FK AA 285 f285 Hm:=⟨kr,kr,func285,kr⟩
def XX:Hint:=hm [2,8,128,4,4] [] [] [5]
theorem AJw:XX.lv 0=[1]/\XX.lv 1=[3]/\XX.lv 2=[7]/\XX.lv 3=[2]/\XX.lv 4=[2]/\XX.tk=[]/\XX.mt=[]/\XX.pc=[5]:=dk
def AJv:=DV XX rfl rfl rfl
theorem AJx:FK AA 227 f227 XX:=⟨kr,kr,func227,kr⟩
def NL:Hint:=hm [1,257,4,9,4105,9,25,4194329,4,41,2147483689,4,4] [] [] [20,29]
theorem AMU:NL.lv 0=[0]/\NL.lv 1=[0,8]/\NL.lv 2=[2]/\NL.lv 3=[0,3]/\NL.lv 4=[0,3,12]/\NL.lv 5=[0,3]/\NL.lv 6=[0,3,4]/\NL.lv 7=[0,3,4,22]/\NL.lv 8=[2]/\NL.lv 9=[0,3,5]/\NL.lv 10=[0,3,5,31]/\NL.lv 11=[2]/\NL.lv 12=[2]/\NL.tk=[]/\NL.mt=[]/\NL.pc=[20,29]:=dk
def AMT:=DV NL rfl rfl rfl
theorem AMV:FK AA 168 f168 NL:=⟨kr,kr,func168,kr⟩
def Qs:Hint:=hm [19,275,48,83,8275,83,4194387,48,48] [23] [] [9]
theorem AJr:Qs.lv 0=[0,1,4]/\Qs.lv 1=[0,1,4,8]/\Qs.lv 2=[4,5]/\Qs.lv 3=[0,1,4,6]/\Qs.lv 4=[0,1,4,6,13]/\Qs.lv 5=[0,1,4,6]/\Qs.lv 6=[0,1,4,6,22]/\Qs.lv 7=[4,5]/\Qs.lv 8=[4,5]/\Qs.tk=[23]/\Qs.mt=[]/\Qs.pc=[9]:=dk
def AJq:=DV Qs rfl rfl rfl
theorem zb:FK AA 229 f229 Qs:=⟨kr,kr,func229,kr⟩
def Tb:Hint:=hm [2,10,26,2074,26,26,4] [14,22] [] [20]
theorem AIL:Tb.lv 0=[1]/\Tb.lv 1=[1,3]/\Tb.lv 2=[1,3,4]/\Tb.lv 3=[1,3,4,11]/\Tb.lv 4=[1,3,4]/\Tb.lv 5=[1,3,4]/\Tb.lv 6=[2]/\Tb.tk=[14,22]/\Tb.mt=[]/\Tb.pc=[20]:=dk
def AIK:=DV Tb rfl rfl rfl
theorem AIM:FK AA 283 f283 Tb:=⟨kr,kr,func283,kr⟩
def Ta:Hint:=hm [1,9,25,153,25,25,4] [] [] []
theorem AIB:Ta.lv 0=[0]/\Ta.lv 1=[0,3]/\Ta.lv 2=[0,3,4]/\Ta.lv 3=[0,3,4,7]/\Ta.lv 4=[0,3,4]/\Ta.lv 5=[0,3,4]/\Ta.lv 6=[2]/\Ta.tk=[]/\Ta.mt=[]/\Ta.pc=[]:=dk
def AIA:=DV Ta rfl rfl rfl
theorem AIC:FK AA 287 f287 Ta:=⟨kr,kr,func287,kr⟩
def nP:Hint:=hm [2,4] [] [] [5]
theorem AJo:nP.lv 0=[1]/\nP.lv 1=[2]/\nP.tk=[]/\nP.mt=[]/\nP.pc=[5]:=dk
def AJn:=DV nP rfl rfl rfl
theorem AJp:FK AA 230 f230 nP:=⟨kr,kr,func230,kr⟩
def Nu:Hint:=hm [9,1048585,16,104,536870952,16,168,17179869352,168,4503599627370496,16,16] [22] [] [25,39]
theorem AII:Nu.lv 0=[0,3]/\Nu.lv 1=[0,3,20]/\Nu.lv 2=[4]/\Nu.lv 3=[3,5,6]/\Nu.lv 4=[3,5,29]/\Nu.lv 5=[4]/\Nu.lv 6=[3,5,7]/\Nu.lv 7=[3,5,7,34]/\Nu.lv 8=[3,5,7]/\Nu.lv 9=[52]/\Nu.lv 10=[4]/\Nu.lv 11=[4]/\Nu.tk=[22]/\Nu.mt=[]/\Nu.pc=[25,39]:=dk
def AIH:=DV Nu rfl rfl rfl
theorem AIJ:FK AA 284 f284 Nu:=⟨kr,kr,func284,kr⟩
def Qt:Hint:=hm [9,33,97,8289,97,225,8388833,16,16] [] [] [9,21]
theorem AJz:Qt.lv 0=[0,3]/\Qt.lv 1=[0,5]/\Qt.lv 2=[0,5,6]/\Qt.lv 3=[0,5,6,13]/\Qt.lv 4=[0,5,6]/\Qt.lv 5=[0,5,6,7]/\Qt.lv 6=[0,5,6,7,23]/\Qt.lv 7=[4]/\Qt.lv 8=[4]/\Qt.tk=[]/\Qt.mt=[]/\Qt.pc=[9,21]:=dk
def AJy:=DV Qt rfl rfl rfl
theorem AJ0:FK AA 226 f226 Qt:=⟨kr,kr,func226,kr⟩
def Tf:Hint:=hm [2,10,26,2074,26,26,4] [14,22] [] [20]
theorem AJt:Tf.lv 0=[1]/\Tf.lv 1=[1,3]/\Tf.lv 2=[1,3,4]/\Tf.lv 3=[1,3,4,11]/\Tf.lv 4=[1,3,4]/\Tf.lv 5=[1,3,4]/\Tf.lv 6=[2]/\Tf.tk=[14,22]/\Tf.mt=[]/\Tf.pc=[20]:=dk
def AJs:=DV Tf rfl rfl rfl
theorem AJu:FK AA 228 f228 Tf:=⟨kr,kr,func228,kr⟩
def Gb:Hint:=hx [9,41,8233,16,97,225,1048801,225,268435681,225,2199023255777,993,9007199254741473,225,0x20000000000000e1,225,0x80000000000000e1,16,16] [] [] [] [11,16,35,49,60] [(7,1)] []
theorem AMQ:Gb.lv 0=[0,3]/\Gb.lv 1=[0,3,5]/\Gb.lv 2=[0,3,5,13]/\Gb.lv 3=[4]/\Gb.lv 4=[0,5,6]/\Gb.lv 5=[0,5,6,7]/\Gb.lv 6=[0,5,6,7,20]/\Gb.lv 7=[0,5,6,7]/\Gb.lv 8=[0,5,6,7,28]/\Gb.lv 9=[0,5,6,7]/\Gb.lv 10=[0,5,6,7,41]/\Gb.lv 11=[0,5,6,7,8,9]/\Gb.lv 12=[0,5,6,7,8,53]/\Gb.lv 13=[0,5,6,7]/\Gb.lv 14=[0,5,6,7,61]/\Gb.lv 15=[0,5,6,7]/\Gb.lv 16=[0,5,6,7,63]/\Gb.lv 17=[4]/\Gb.lv 18=[4]:=dk
theorem AMS:Gb.ct 0=none/\Gb.ct 1=none/\Gb.ct 2=none/\Gb.ct 3=none/\Gb.ct 4=none/\Gb.ct 5=none/\Gb.ct 6=none/\Gb.ct 7=some 1/\Gb.ct 8=none/\Gb.ct 9=none/\Gb.ct 10=none/\Gb.ct 11=none/\Gb.ct 12=none/\Gb.ct 13=none/\Gb.ct 14=none/\Gb.ct 15=none/\Gb.ct 16=none/\Gb.ct 17=none/\Gb.ct 18=none:=dk
theorem AMN(k:Nat):Gb.at k=[]:=rfl
theorem AMO(k:Nat):Gb.dn k=false:=AH rfl rfl
theorem AMP:Gb.tk=[]/\Gb.mt=[]/\Gb.pc=[11,16,35,49,60]:=⟨rfl,rfl,rfl⟩
theorem AMR:FK AA 169 f169 Gb:=⟨kr,kr,func169,kr⟩
def Fx:Hint:=hx [9,41,4194345,16,73,1073741897,73,201,549755814089,201,713,4503599627370697,16,1033,0x200000000000409,1033,3081,0x4000000000000c09,3081,0x8000000000000000c09,16,4104,0x100000000000000000000000,16,16] [31,77] [] [] [15,48,80,90] [(9,1)] []
theorem AMK:Fx.lv 0=[0,3]/\Fx.lv 1=[0,3,5]/\Fx.lv 2=[0,3,5,22]/\Fx.lv 3=[4]/\Fx.lv 4=[0,3,6]/\Fx.lv 5=[0,3,6,30]/\Fx.lv 6=[0,3,6]/\Fx.lv 7=[0,3,6,7]/\Fx.lv 8=[0,3,6,7,39]/\Fx.lv 9=[0,3,6,7]/\Fx.lv 10=[0,3,6,7,9]/\Fx.lv 11=[0,3,6,7,52]/\Fx.lv 12=[4]/\Fx.lv 13=[0,3,10]/\Fx.lv 14=[0,3,10,57]/\Fx.lv 15=[0,3,10]/\Fx.lv 16=[0,3,10,11]/\Fx.lv 17=[0,3,10,11,62]/\Fx.lv 18=[0,3,10,11]/\Fx.lv 19=[0,3,10,11,75]/\Fx.lv 20=[4]/\Fx.lv 21=[3,12]/\Fx.lv 22=[92]/\Fx.lv 23=[4]/\Fx.lv 24=[4]:=dk
theorem AMM:Fx.ct 0=none/\Fx.ct 1=none/\Fx.ct 2=none/\Fx.ct 3=none/\Fx.ct 4=none/\Fx.ct 5=none/\Fx.ct 6=none/\Fx.ct 7=none/\Fx.ct 8=none/\Fx.ct 9=some 1/\Fx.ct 10=none/\Fx.ct 11=none/\Fx.ct 12=none/\Fx.ct 13=none/\Fx.ct 14=none/\Fx.ct 15=none/\Fx.ct 16=none/\Fx.ct 17=none/\Fx.ct 18=none/\Fx.ct 19=none/\Fx.ct 20=none/\Fx.ct 21=none/\Fx.ct 22=none/\Fx.ct 23=none/\Fx.ct 24=none:=dk
theorem AMH(k:Nat):Fx.at k=[]:=rfl
theorem AMI(k:Nat):Fx.dn k=false:=AH rfl rfl
theorem AMJ:Fx.tk=[31,77]/\Fx.mt=[]/\Fx.pc=[15,48,80,90]:=⟨rfl,rfl,rfl⟩
theorem AML:FK AA 170 f170 Fx:=⟨kr,kr,func170,kr⟩
def Qr:Hint:=hm [3,1027,16,35,16419,35,33554467,16,16] [] [] []
theorem AJm:Qr.lv 0=[0,1]/\Qr.lv 1=[0,1,10]/\Qr.lv 2=[4]/\Qr.lv 3=[0,1,5]/\Qr.lv 4=[0,1,5,14]/\Qr.lv 5=[0,1,5]/\Qr.lv 6=[0,1,5,25]/\Qr.lv 7=[4]/\Qr.lv 8=[4]/\Qr.tk=[]/\Qr.mt=[]/\Qr.pc=[]:=dk
def AJl:=DV Qr rfl rfl rfl
theorem za:FK AA 231 f231 Qr:=⟨kr,kr,func231,kr⟩
def nk:Hint:=hm [2,4] [] [] []
theorem ALp:nk.lv 0=[1]/\nk.lv 1=[2]/\nk.tk=[]/\nk.mt=[]/\nk.pc=[]:=dk
def ALo:=DV nk rfl rfl rfl
theorem ALq:FK AA 179 f179 nk:=⟨kr,kr,func179,kr⟩
def LD:Hint:=hx [3,35,99,4195,99,227,99,16] [24,29] [] [] [21] [(4,0)] []
theorem ALt:LD.lv 0=[0,1]/\LD.lv 1=[0,1,5]/\LD.lv 2=[0,1,5,6]/\LD.lv 3=[0,1,5,6,12]/\LD.lv 4=[0,1,5,6]/\LD.lv 5=[0,1,5,6,7]/\LD.lv 6=[0,1,5,6]/\LD.lv 7=[4]/\LD.ct 0=none/\LD.ct 1=none/\LD.ct 2=none/\LD.ct 3=none/\LD.ct 4=some 0/\LD.ct 5=none/\LD.ct 6=none/\LD.ct 7=none/\LD.tk=[24,29]/\LD.mt=[]/\LD.pc=[21]:=dk
theorem ALr(k:Nat):LD.at k=[]:=rfl
theorem ALs(k:Nat):LD.dn k=false:=AH rfl rfl
theorem ALu:FK AA 178 f178 LD:=⟨kr,kr,func178,kr⟩
def Oz:Hint:=hm [1,8,24,4,72,72,4,520,512,4,4] [] [] []
theorem ALw:Oz.lv 0=[0]/\Oz.lv 1=[3]/\Oz.lv 2=[3,4]/\Oz.lv 3=[2]/\Oz.lv 4=[3,6]/\Oz.lv 5=[3,6]/\Oz.lv 6=[2]/\Oz.lv 7=[3,9]/\Oz.lv 8=[9]/\Oz.lv 9=[2]/\Oz.lv 10=[2]/\Oz.tk=[]/\Oz.mt=[]/\Oz.pc=[]:=dk
def ALv:=DV Oz rfl rfl rfl
theorem ALx:FK AA 177 f177 Oz:=⟨kr,kr,func177,kr⟩
def XY:Hint:=hm [49,134217777,64,176,64] [] [] [9,12,31,35,36,41,44]
theorem AMF:XY.lv 0=[0,4,5]/\XY.lv 1=[0,4,5,27]/\XY.lv 2=[6]/\XY.lv 3=[4,5,7]/\XY.lv 4=[6]/\XY.tk=[]/\XY.mt=[]/\XY.pc=[9,12,31,35,36,41,44]:=dk
def AME:=DV XY rfl rfl rfl
theorem AMG:FK AA 171 f171 XY:=⟨kr,kr,func171,kr⟩
def Jr:Hint:=hx [3,35,65571,16,67,2097219,67,195,4294967491,16,323,4398046511427,16,515,0x800000000203,515,1539,4503599627372035,1539,3587,7683,0x4000000000000000000603,16,16] [] [] [] [14,30,40,84] [(18,0)] []
theorem ATK:Jr.lv 0=[0,1]/\Jr.lv 1=[0,1,5]/\Jr.lv 2=[0,1,5,16]/\Jr.lv 3=[4]/\Jr.lv 4=[0,1,6]/\Jr.lv 5=[0,1,6,21]/\Jr.lv 6=[0,1,6]/\Jr.lv 7=[0,1,6,7]/\Jr.lv 8=[0,1,6,7,32]/\Jr.lv 9=[4]/\Jr.lv 10=[0,1,6,8]/\Jr.lv 11=[0,1,6,8,42]/\Jr.lv 12=[4]/\Jr.lv 13=[0,1,9]/\Jr.lv 14=[0,1,9,47]/\Jr.lv 15=[0,1,9]/\Jr.lv 16=[0,1,9,10]/\Jr.lv 17=[0,1,9,10,52]/\Jr.lv 18=[0,1,9,10]/\Jr.lv 19=[0,1,9,10,11]/\Jr.lv 20=[0,1,9,10,11,12]/\Jr.lv 21=[0,1,9,10,86]/\Jr.lv 22=[4]/\Jr.lv 23=[4]:=dk
theorem ATM:Jr.ct 0=none/\Jr.ct 1=none/\Jr.ct 2=none/\Jr.ct 3=none/\Jr.ct 4=none/\Jr.ct 5=none/\Jr.ct 6=none/\Jr.ct 7=none/\Jr.ct 8=none/\Jr.ct 9=none/\Jr.ct 10=none/\Jr.ct 11=none/\Jr.ct 12=none/\Jr.ct 13=none/\Jr.ct 14=none/\Jr.ct 15=none/\Jr.ct 16=none/\Jr.ct 17=none/\Jr.ct 18=some 0/\Jr.ct 19=none/\Jr.ct 20=none/\Jr.ct 21=none/\Jr.ct 22=none/\Jr.ct 23=none:=dk
theorem ATH(k:Nat):Jr.at k=[]:=rfl
theorem ATI(k:Nat):Jr.dn k=false:=AH rfl rfl
theorem ATJ:Jr.tk=[]/\Jr.mt=[]/\Jr.pc=[14,30,40,84]:=⟨rfl,rfl,rfl⟩
theorem ATL:FK AA 93 f93 Jr:=⟨kr,kr,func93,kr⟩
def Ml:Hint:=hm [3,35,99,227,2275,227,8388835,163,227,8589934819,227,4398046511138,32,16] [24,34,43,47] [] []
theorem AHp:Ml.lv 0=[0,1]/\Ml.lv 1=[0,1,5]/\Ml.lv 2=[0,1,5,6]/\Ml.lv 3=[0,1,5,6,7]/\Ml.lv 4=[0,1,5,6,7,11]/\Ml.lv 5=[0,1,5,6,7]/\Ml.lv 6=[0,1,5,6,7,23]/\Ml.lv 7=[0,1,5,7]/\Ml.lv 8=[0,1,5,6,7]/\Ml.lv 9=[0,1,5,6,7,33]/\Ml.lv 10=[0,1,5,6,7]/\Ml.lv 11=[1,5,42]/\Ml.lv 12=[5]/\Ml.lv 13=[4]/\Ml.tk=[24,34,43,47]/\Ml.mt=[]/\Ml.pc=[]:=dk
def AHo:=DV Ml rfl rfl rfl
theorem AHq:FK AA 314 f314 Ml:=⟨kr,kr,func314,kr⟩
def Qo:Hint:=hm [2,10,24,56,2104,56,134217784,56,4] [] [] [7,34]
theorem AI0:Qo.lv 0=[1]/\Qo.lv 1=[1,3]/\Qo.lv 2=[3,4]/\Qo.lv 3=[3,4,5]/\Qo.lv 4=[3,4,5,11]/\Qo.lv 5=[3,4,5]/\Qo.lv 6=[3,4,5,27]/\Qo.lv 7=[3,4,5]/\Qo.lv 8=[2]/\Qo.tk=[]/\Qo.mt=[]/\Qo.pc=[7,34]:=dk
def AIz:=DV Qo rfl rfl rfl
theorem AI1:FK AA 271 f271 Qo:=⟨kr,kr,func271,kr⟩
def Td:Hint:=hm [3,35,547,35,131107,16,16] [] [] []
theorem AIv:Td.lv 0=[0,1]/\Td.lv 1=[0,1,5]/\Td.lv 2=[0,1,5,9]/\Td.lv 3=[0,1,5]/\Td.lv 4=[0,1,5,17]/\Td.lv 5=[4]/\Td.lv 6=[4]/\Td.tk=[]/\Td.mt=[]/\Td.pc=[]:=dk
def AIu:=DV Td rfl rfl rfl
theorem zV:FK AA 273 f273 Td:=⟨kr,kr,func273,kr⟩
def Gv:Hint:=hx [12,40,65576,16,72,4194376,72,200,456,34359738824,456,17592186044872,16,584,0x8000000000000048,16,16] [] [] [] [14,31,43,61] [(6,2)] []
theorem AKL:Gv.lv 0=[2,3]/\Gv.lv 1=[3,5]/\Gv.lv 2=[3,5,16]/\Gv.lv 3=[4]/\Gv.lv 4=[3,6]/\Gv.lv 5=[3,6,22]/\Gv.lv 6=[3,6]/\Gv.lv 7=[3,6,7]/\Gv.lv 8=[3,6,7,8]/\Gv.lv 9=[3,6,7,8,35]/\Gv.lv 10=[3,6,7,8]/\Gv.lv 11=[3,6,7,8,44]/\Gv.lv 12=[4]/\Gv.lv 13=[3,6,9]/\Gv.lv 14=[3,6,63]/\Gv.lv 15=[4]/\Gv.lv 16=[4]:=dk
theorem AKN:Gv.ct 0=none/\Gv.ct 1=none/\Gv.ct 2=none/\Gv.ct 3=none/\Gv.ct 4=none/\Gv.ct 5=none/\Gv.ct 6=some 2/\Gv.ct 7=none/\Gv.ct 8=none/\Gv.ct 9=none/\Gv.ct 10=none/\Gv.ct 11=none/\Gv.ct 12=none/\Gv.ct 13=none/\Gv.ct 14=none/\Gv.ct 15=none/\Gv.ct 16=none:=dk
theorem AKI(k:Nat):Gv.at k=[]:=rfl
theorem AKJ(k:Nat):Gv.dn k=false:=AH rfl rfl
theorem AKK:Gv.tk=[]/\Gv.mt=[]/\Gv.pc=[14,31,43,61]:=⟨rfl,rfl,rfl⟩
theorem AKM:FK AA 219 f219 Gv:=⟨kr,kr,func219,kr⟩
def nQ:Hint:=hm [2,4] [] [] [4,6,7]
theorem AJ2:nQ.lv 0=[1]/\nQ.lv 1=[2]/\nQ.tk=[]/\nQ.mt=[]/\nQ.pc=[4,6,7]:=dk
def AJ1:=DV nQ rfl rfl rfl
theorem AJ3:FK AA 225 f225 nQ:=⟨kr,kr,func225,kr⟩
def XZ:Hint:=hm [9,41,553,16,16] [11] [] [7,13]
theorem AMX:XZ.lv 0=[0,3]/\XZ.lv 1=[0,3,5]/\XZ.lv 2=[0,3,5,9]/\XZ.lv 3=[4]/\XZ.lv 4=[4]/\XZ.tk=[11]/\XZ.mt=[]/\XZ.pc=[7,13]:=dk
def AMW:=DV XZ rfl rfl rfl
theorem AMY:FK AA 167 f167 XZ:=⟨kr,kr,func167,kr⟩
def Im:Hint:=hm [2,10,26,58,32826,4,98362,98362,50,557114,50,4227106,4227106,50,33554466,50,34359738386,4,82,274877907026,82,210,281474976710738,4,4] [] [] [10,46]
theorem AIp:Im.lv 0=[1]/\Im.lv 1=[1,3]/\Im.lv 2=[1,3,4]/\Im.lv 3=[1,3,4,5]/\Im.lv 4=[1,3,4,5,15]/\Im.lv 5=[2]/\Im.lv 6=[1,3,4,5,15,16]/\Im.lv 7=[1,3,4,5,15,16]/\Im.lv 8=[1,4,5]/\Im.lv 9=[1,3,4,5,15,19]/\Im.lv 10=[1,4,5]/\Im.lv 11=[1,5,15,22]/\Im.lv 12=[1,5,15,22]/\Im.lv 13=[1,4,5]/\Im.lv 14=[1,5,25]/\Im.lv 15=[1,4,5]/\Im.lv 16=[1,4,35]/\Im.lv 17=[2]/\Im.lv 18=[1,4,6]/\Im.lv 19=[1,4,6,38]/\Im.lv 20=[1,4,6]/\Im.lv 21=[1,4,6,7]/\Im.lv 22=[1,4,6,48]/\Im.lv 23=[2]/\Im.lv 24=[2]:=dk
def AIo:=DV Im rfl rfl rfl
theorem AIn:Im.tk=[]/\Im.mt=[]/\Im.pc=[10,46]:=⟨rfl,rfl,rfl⟩
theorem AIq:FK AA 275 f275 Im:=⟨kr,kr,func275,kr⟩
def nT:Hint:=hm [2,4] [] [] [4,6,7]
theorem AKG:nT.lv 0=[1]/\nT.lv 1=[2]/\nT.tk=[]/\nT.mt=[]/\nT.pc=[4,6,7]:=dk
def AKF:=DV nT rfl rfl rfl
theorem AKH:FK AA 220 f220 nT:=⟨kr,kr,func220,kr⟩
def Nv:Hint:=hm [2,18,50,114,4210,114,114,178,268435634,178,178,12] [15,31,40,41] [] []
theorem AM8:Nv.lv 0=[1]/\Nv.lv 1=[1,4]/\Nv.lv 2=[1,4,5]/\Nv.lv 3=[1,4,5,6]/\Nv.lv 4=[1,4,5,6,12]/\Nv.lv 5=[1,4,5,6]/\Nv.lv 6=[1,4,5,6]/\Nv.lv 7=[1,4,5,7]/\Nv.lv 8=[1,4,5,7,28]/\Nv.lv 9=[1,4,5,7]/\Nv.lv 10=[1,4,5,7]/\Nv.lv 11=[2,3]/\Nv.tk=[15,31,40,41]/\Nv.mt=[]/\Nv.pc=[]:=dk
def AM7:=DV Nv rfl rfl rfl
theorem AM9:FK AA 156 f156 Nv:=⟨kr,kr,func156,kr⟩
def Pw:Hint:=hm [12,44,4194316,16,140,134217868,140,137438953612,16,16] [17] [] [10,20,36]
theorem AKE:Pw.lv 0=[2,3]/\Pw.lv 1=[2,3,5]/\Pw.lv 2=[2,3,22]/\Pw.lv 3=[4]/\Pw.lv 4=[2,3,7]/\Pw.lv 5=[2,3,7,27]/\Pw.lv 6=[2,3,7]/\Pw.lv 7=[2,3,7,37]/\Pw.lv 8=[4]/\Pw.lv 9=[4]/\Pw.tk=[17]/\Pw.mt=[]/\Pw.pc=[10,20,36]:=dk
def AKD:=DV Pw rfl rfl rfl
theorem zd:FK AA 221 f221 Pw:=⟨kr,kr,func221,kr⟩
def nS:Hint:=hm [6,16] [] [] [7]
theorem AKB:nS.lv 0=[1,2]/\nS.lv 1=[4]/\nS.tk=[]/\nS.mt=[]/\nS.pc=[7]:=dk
def AKA:=DV nS rfl rfl rfl
theorem AKC:FK AA 222 f222 nS:=⟨kr,kr,func222,kr⟩
def FY:Hint:=hx [12,2147483660,16,44,68719476780,44,2199023255596,16,76,0x80000000004c,76,108,0x100000000000006c,108,0x20000000000000000006c,108,0x80000000000000000006c,16,136,0x20000000000000000000088,136,392,0x1000000000000000000000000000000188,16,904,0x8000000000000000000000000000000388,904,0x2000000000000000000000000000000000000388,16,16] [] [] [] [34,39,58,67,79,100,106] [(20,2)] []
theorem AMp:FY.lv 0=[2,3]/\FY.lv 1=[2,3,31]/\FY.lv 2=[4]/\FY.lv 3=[2,3,5]/\FY.lv 4=[2,3,5,36]/\FY.lv 5=[2,3,5]/\FY.lv 6=[2,3,5,41]/\FY.lv 7=[4]/\FY.lv 8=[2,3,6]/\FY.lv 9=[2,3,6,47]/\FY.lv 10=[2,3,6]/\FY.lv 11=[2,3,5,6]/\FY.lv 12=[2,3,5,6,60]/\FY.lv 13=[2,3,5,6]/\FY.lv 14=[2,3,5,6,81]/\FY.lv 15=[2,3,5,6]/\FY.lv 16=[2,3,5,6,83]/\FY.lv 17=[4]/\FY.lv 18=[3,7]/\FY.lv 19=[3,7,89]/\FY.lv 20=[3,7]/\FY.lv 21=[3,7,8]/\FY.lv 22=[3,7,8,132]/\FY.lv 23=[4]/\FY.lv 24=[3,7,8,9]/\FY.lv 25=[3,7,8,9,135]/\FY.lv 26=[3,7,8,9]/\FY.lv 27=[3,7,8,9,157]/\FY.lv 28=[4]/\FY.lv 29=[4]:=dk
theorem AMr:FY.ct 0=none/\FY.ct 1=none/\FY.ct 2=none/\FY.ct 3=none/\FY.ct 4=none/\FY.ct 5=none/\FY.ct 6=none/\FY.ct 7=none/\FY.ct 8=none/\FY.ct 9=none/\FY.ct 10=none/\FY.ct 11=none/\FY.ct 12=none/\FY.ct 13=none/\FY.ct 14=none/\FY.ct 15=none/\FY.ct 16=none/\FY.ct 17=none/\FY.ct 18=none/\FY.ct 19=none/\FY.ct 20=some 2/\FY.ct 21=none/\FY.ct 22=none/\FY.ct 23=none/\FY.ct 24=none/\FY.ct 25=none/\FY.ct 26=none/\FY.ct 27=none/\FY.ct 28=none/\FY.ct 29=none:=dk
theorem AMm(k:Nat):FY.at k=[]:=rfl
theorem AMn(k:Nat):FY.dn k=false:=AH rfl rfl
theorem AMo:FY.tk=[]/\FY.mt=[]/\FY.pc=[34,39,58,67,79,100,106]:=⟨rfl,rfl,rfl⟩
theorem AMq:FK AA 162 f162 FY:=⟨kr,kr,func162,kr⟩
def h85:Hint:=hm [30,256] [] [] []
theorem ATq:h85.lv 0=[1,2,3,4]/\h85.lv 1=[8]/\h85.tk=[]/\h85.mt=[]/\h85.pc=[]:=dk
def ATp:=DV h85 rfl rfl rfl
theorem ATr:FK AA 85 f85 h85:=⟨kr,kr,func85,kr⟩
def NM:Hint:=hm [1,9,521,9,25,262153,4,41,2097193,41,4294967337,4,4] [] [] [16]
theorem AM5:NM.lv 0=[0]/\NM.lv 1=[0,3]/\NM.lv 2=[0,3,9]/\NM.lv 3=[0,3]/\NM.lv 4=[0,3,4]/\NM.lv 5=[0,3,18]/\NM.lv 6=[2]/\NM.lv 7=[0,3,5]/\NM.lv 8=[0,3,5,21]/\NM.lv 9=[0,3,5]/\NM.lv 10=[0,3,5,32]/\NM.lv 11=[2]/\NM.lv 12=[2]/\NM.tk=[]/\NM.mt=[]/\NM.pc=[16]:=dk
def AM4:=DV NM rfl rfl rfl
theorem AM6:FK AA 157 f157 NM:=⟨kr,kr,func157,kr⟩
def nr:Hint:=hm [6,16] [] [] []
theorem AM2:nr.lv 0=[1,2]/\nr.lv 1=[4]/\nr.tk=[]/\nr.mt=[]/\nr.pc=[]:=dk
def AM1:=DV nr rfl rfl rfl
theorem AM3:FK AA 158 f158 nr:=⟨kr,kr,func158,kr⟩
def I9:Hint:=hx [2,134217730,4,26,50,98,4398046511106,4,130,0x800000000082,130,386,0x1000000000000000082,4,514,0x20000000000000000202,514,1538,0x20000000000000000000000000202,4,2050,0x400000000000000000000000000802,2050,0x200000000000000000000000000000802,4,4] [33,35] [] [] [30,34,36,88,94,128] [(10,1),(16,1)] []
theorem ATh:I9.lv 0=[1]/\I9.lv 1=[1,27]/\I9.lv 2=[2]/\I9.lv 3=[1,3,4]/\I9.lv 4=[1,4,5]/\I9.lv 5=[1,5,6]/\I9.lv 6=[1,42]/\I9.lv 7=[2]/\I9.lv 8=[1,7]/\I9.lv 9=[1,7,47]/\I9.lv 10=[1,7]/\I9.lv 11=[1,7,8]/\I9.lv 12=[1,7,72]/\I9.lv 13=[2]/\I9.lv 14=[1,9]/\I9.lv 15=[1,9,77]/\I9.lv 16=[1,9]/\I9.lv 17=[1,9,10]/\I9.lv 18=[1,9,113]/\I9.lv 19=[2]/\I9.lv 20=[1,11]/\I9.lv 21=[1,11,118]/\I9.lv 22=[1,11]/\I9.lv 23=[1,11,129]/\I9.lv 24=[2]/\I9.lv 25=[2]:=dk
theorem ATj:I9.ct 0=none/\I9.ct 1=none/\I9.ct 2=none/\I9.ct 3=none/\I9.ct 4=none/\I9.ct 5=none/\I9.ct 6=none/\I9.ct 7=none/\I9.ct 8=none/\I9.ct 9=none/\I9.ct 10=some 1/\I9.ct 11=none/\I9.ct 12=none/\I9.ct 13=none/\I9.ct 14=none/\I9.ct 15=none/\I9.ct 16=some 1/\I9.ct 17=none/\I9.ct 18=none/\I9.ct 19=none/\I9.ct 20=none/\I9.ct 21=none/\I9.ct 22=none/\I9.ct 23=none/\I9.ct 24=none/\I9.ct 25=none:=dk
theorem ATe(k:Nat):I9.at k=[]:=rfl
theorem ATf(k:Nat):I9.dn k=false:=AH rfl rfl
theorem ATg:I9.tk=[33,35]/\I9.mt=[]/\I9.pc=[30,34,36,88,94,128]:=⟨rfl,rfl,rfl⟩
theorem ATi:FK AA 88 f88 I9:=⟨kr,kr,func88,kr⟩
def nq:Hint:=hm [2,4] [] [] []
theorem AMw:nq.lv 0=[1]/\nq.lv 1=[2]/\nq.tk=[]/\nq.mt=[]/\nq.pc=[]:=dk
def AMv:=DV nq rfl rfl rfl
theorem AMx:FK AA 160 f160 nq:=⟨kr,kr,func160,kr⟩
def np:Hint:=hm [12,16] [] [] []
theorem AMt:np.lv 0=[2,3]/\np.lv 1=[4]/\np.tk=[]/\np.mt=[]/\np.pc=[]:=dk
def AMs:=DV np rfl rfl rfl
theorem AMu:FK AA 161 f161 np:=⟨kr,kr,func161,kr⟩
def Qk:Hint:=hm [1,2049,4,9,32777,9,25,8589934601,4,41,68719476777,41,562949953421353,4,73,72057594037927945,4,137,0x800000000000089,137,393,0x800000000000000089,4,4] [] [] [23,54,70]
theorem ATc:Qk.lv 0=[0]/\Qk.lv 1=[0,11]/\Qk.lv 2=[2]/\Qk.lv 3=[0,3]/\Qk.lv 4=[0,3,15]/\Qk.lv 5=[0,3]/\Qk.lv 6=[0,3,4]/\Qk.lv 7=[0,3,33]/\Qk.lv 8=[2]/\Qk.lv 9=[0,3,5]/\Qk.lv 10=[0,3,5,36]/\Qk.lv 11=[0,3,5]/\Qk.lv 12=[0,3,5,49]/\Qk.lv 13=[2]/\Qk.lv 14=[0,3,6]/\Qk.lv 15=[0,3,56]/\Qk.lv 16=[2]/\Qk.lv 17=[0,3,7]/\Qk.lv 18=[0,3,7,59]/\Qk.lv 19=[0,3,7]/\Qk.lv 20=[0,3,7,8]/\Qk.lv 21=[0,3,7,71]/\Qk.lv 22=[2]/\Qk.lv 23=[2]:=dk
def ATb:=DV Qk rfl rfl rfl
theorem ATa:Qk.tk=[]/\Qk.mt=[]/\Qk.pc=[23,54,70]:=⟨rfl,rfl,rfl⟩
theorem ATd:FK AA 89 f89 Qk:=⟨kr,kr,func89,kr⟩
def wY:Hint:=hm [2,10,42,10,131082,4,4] [] [] []
theorem AU3:wY.lv 0=[1]/\wY.lv 1=[1,3]/\wY.lv 2=[1,3,5]/\wY.lv 3=[1,3]/\wY.lv 4=[1,3,17]/\wY.lv 5=[2]/\wY.lv 6=[2]/\wY.tk=[]/\wY.mt=[]/\wY.pc=[]:=dk
def AU2:=DV wY rfl rfl rfl
theorem AU4:FK AA 46 f46 wY:=⟨kr,kr,func46,kr⟩
def Xb:Hint:=hm [449,961,473,8389057,449] [] [] []
theorem AO6:Xb.lv 0=[0,6,7,8]/\Xb.lv 1=[0,6,7,8,9]/\Xb.lv 2=[0,3,4,6,7,8]/\Xb.lv 3=[0,6,7,8,23]/\Xb.lv 4=[0,6,7,8]/\Xb.tk=[]/\Xb.mt=[]/\Xb.pc=[]:=dk
def AO5:=DV Xb rfl rfl rfl
theorem AO7:FK AA 116 f116 Xb:=⟨kr,kr,func116,kr⟩
def h62:Hint:=hm [2,4] [] [] []
theorem AUh:h62.lv 0=[1]/\h62.lv 1=[2]:=dk
def AUg:=DV h62 rfl rfl rfl
theorem AUi:FK AA 62 f62 h62:=⟨kr,kr,func62,kr⟩
def uZ:Hint:=hm [28,280,1080,120,8240,1,16] [] [] []
theorem AVf:uZ.lv 0=[2,3,4]/\uZ.lv 1=[3,4,8]/\uZ.lv 2=[3,4,5,10]/\uZ.lv 3=[3,4,5,6]/\uZ.lv 4=[4,5,13]/\uZ.lv 5=[0]/\uZ.lv 6=[4]/\uZ.tk=[]/\uZ.mt=[]/\uZ.pc=[]:=dk
def AVe:=DV uZ rfl rfl rfl
theorem AVg:FK AA 34 f34 uZ:=⟨kr,kr,func34,kr⟩
def h9:Hint:=hm [28,88,8280,48,24,48] [] [] [11]
theorem Aa0:h9.lv 0=[2,3,4]/\h9.lv 1=[3,4,6]/\h9.lv 2=[3,4,6,13]/\h9.lv 3=[4,5]/\h9.lv 4=[3,4]/\h9.lv 5=[4,5]/\h9.tk=[]/\h9.mt=[]/\h9.pc=[11]:=dk
def Aaz:=DV h9 rfl rfl rfl
theorem Aa1:FK AA 9 f9 h9:=⟨kr,kr,func9,kr⟩
def Tk:Hint:=hm [6,38,1062,38,16777254,16,16] [] [] []
theorem AMg:Tk.lv 0=[1,2]/\Tk.lv 1=[1,2,5]/\Tk.lv 2=[1,2,5,10]/\Tk.lv 3=[1,2,5]/\Tk.lv 4=[1,2,5,24]/\Tk.lv 5=[4]/\Tk.lv 6=[4]/\Tk.tk=[]/\Tk.mt=[]/\Tk.pc=[]:=dk
def AMf:=DV Tk rfl rfl rfl
theorem zh:FK AA 164 f164 Tk:=⟨kr,kr,func164,kr⟩
def h81:Hint:=hm [7,64] [] [] []
theorem AT1:h81.lv 0=[0,1,2]/\h81.lv 1=[6]/\h81.tk=[]/\h81.mt=[]/\h81.pc=[]:=dk
def AT0:=DV h81 rfl rfl rfl
theorem AT2:FK AA 81 f81 h81:=⟨kr,kr,func81,kr⟩
def h39:Hint:=hm [6,2054,16,16] [] [] [10]
theorem AVO:h39.lv 0=[1,2]/\h39.lv 1=[1,2,11]/\h39.lv 2=[4]/\h39.lv 3=[4]/\h39.tk=[]/\h39.mt=[]/\h39.pc=[10]:=dk
def AVN:=DV h39 rfl rfl rfl
theorem AE6:FK AA 39 f39 h39:=⟨kr,kr,func39,kr⟩
def oH:Hint:=hm [28,88,4184,48,24,48] [] [] [10]
theorem AWC:oH.lv 0=[2,3,4]/\oH.lv 1=[3,4,6]/\oH.lv 2=[3,4,6,12]/\oH.lv 3=[4,5]/\oH.lv 4=[3,4]/\oH.lv 5=[4,5]/\oH.tk=[]/\oH.mt=[]/\oH.pc=[10]:=dk
def AWB:=DV oH rfl rfl rfl
theorem AWD:FK AA 12 f12 oH:=⟨kr,kr,func12,kr⟩
theorem pJ:Tryz.prog.cellsOf 156=2/\H6 AA 156=some (some 2)/\JI AA 156 = .struct [(0,1),(1,1)]/\Dy AA 156 0=some (3,0)/\Dy AA 156 1=some (3,1)/\EW AA 156=some (.agg [.int .i64 0,.int .i64 0])/\Tryz.prog.cellsOf 159=1/\H6 AA 159=some none/\EW AA 159=some (.nilf)/\Tryz.prog.cellsOf 181=1/\H6 AA 181=some none/\EW AA 181=some (.nilf):=⟨kr,kr,kr,kr,kr,kr,kr,kr,kr,kr,kr,kr⟩
theorem AGQ:H6 AA 198=some none/\Tryz.prog.underlying 332=some (.int .u64)/\Tryz.prog.underlying 359=some (.array 49 9):=⟨kr,kr,kr⟩
def m9:Hint:=hm [5,4] [] [] []
theorem AHg:m9.lv 0=[0,2]/\m9.lv 1=[2]/\m9.tk=[]/\m9.mt=[]/\m9.pc=[]:=dk
def AHf:=DV m9 rfl rfl rfl
theorem AHh:FK AA 317 f317 m9:=⟨kr,kr,func317,kr⟩
def Qm:Hint:=hm [5,133,4,13,29,32797,29,29,4] [] [] []
theorem AHX:Qm.lv 0=[0,2]/\Qm.lv 1=[0,2,7]/\Qm.lv 2=[2]/\Qm.lv 3=[0,2,3]/\Qm.lv 4=[0,2,3,4]/\Qm.lv 5=[0,2,3,4,15]/\Qm.lv 6=[0,2,3,4]/\Qm.lv 7=[0,2,3,4]/\Qm.lv 8=[2]/\Qm.tk=[]/\Qm.mt=[]/\Qm.pc=[]:=dk
def AHW:=DV Qm rfl rfl rfl
theorem AHY:FK AA 320 f320 Qm:=⟨kr,kr,func320,kr⟩
def Tc:Hint:=hm [6,14,30,542,30,30,4] [12,22] [] [19,23]
theorem AIW:Tc.lv 0=[1,2]/\Tc.lv 1=[1,2,3]/\Tc.lv 2=[1,2,3,4]/\Tc.lv 3=[1,2,3,4,9]/\Tc.lv 4=[1,2,3,4]/\Tc.lv 5=[1,2,3,4]/\Tc.lv 6=[2]/\Tc.tk=[12,22]/\Tc.mt=[]/\Tc.pc=[19,23]:=dk
def AIV:=DV Tc rfl rfl rfl
theorem AIX:FK AA 280 f280 Tc:=⟨kr,kr,func280,kr⟩
def m8:Hint:=hm [19,16] [] [] []
theorem AHd:m8.lv 0=[0,1,4]/\m8.lv 1=[4]/\m8.tk=[]/\m8.mt=[]/\m8.pc=[]:=dk
def AHc:=DV m8 rfl rfl rfl
theorem AHe:FK AA 318 f318 m8:=⟨kr,kr,func318,kr⟩
def nH:Hint:=hm [28,16] [] [] []
theorem AIi:nH.lv 0=[2,3,4]/\nH.lv 1=[4]/\nH.tk=[]/\nH.mt=[]/\nH.pc=[]:=dk
def AIh:=DV nH rfl rfl rfl
theorem AIj:FK AA 277 f277 nH:=⟨kr,kr,func277,kr⟩
def nG:Hint:=hm [6,4] [] [] []
theorem AIa:nG.lv 0=[1,2]/\nG.lv 1=[2]/\nG.tk=[]/\nG.mt=[]/\nG.pc=[]:=dk
def AIZ:=DV nG rfl rfl rfl
theorem AIb:FK AA 279 f279 nG:=⟨kr,kr,func279,kr⟩
def m7:Hint:=hm [28,16] [] [] []
theorem AHa:m7.lv 0=[2,3,4]/\m7.lv 1=[4]/\m7.tk=[]/\m7.mt=[]/\m7.pc=[]:=dk
def AHZ:=DV m7 rfl rfl rfl
theorem AHb:FK AA 319 f319 m7:=⟨kr,kr,func319,kr⟩
def J0:Hint:=hx [6,14,30,4126,30,62,4294967358,30,30,4] [] [] [] [7,21,22,29,30,36] [(4,3)] []
theorem AIf:J0.lv 0=[1,2]/\J0.lv 1=[1,2,3]/\J0.lv 2=[1,2,3,4]/\J0.lv 3=[1,2,3,4,12]/\J0.lv 4=[1,2,3,4]/\J0.lv 5=[1,2,3,4,5]/\J0.lv 6=[1,2,3,4,5,32]/\J0.lv 7=[1,2,3,4]/\J0.lv 8=[1,2,3,4]/\J0.lv 9=[2]/\J0.ct 0=none/\J0.ct 1=none/\J0.ct 2=none/\J0.ct 3=none/\J0.ct 4=some 3/\J0.ct 5=none/\J0.ct 6=none/\J0.ct 7=none/\J0.ct 8=none/\J0.ct 9=none:=dk
theorem AIc(k:Nat):J0.at k=[]:=rfl
theorem AId(k:Nat):J0.dn k=false:=AH rfl rfl
theorem AIe:J0.tk=[]/\J0.mt=[]/\J0.pc=[7,21,22,29,30,36]:=⟨rfl,rfl,rfl⟩
theorem AIg:FK AA 278 f278 J0:=⟨kr,kr,func278,kr⟩
def nI:Hint:=hm [6,4] [] [] []
theorem AIl:nI.lv 0=[1,2]/\nI.lv 1=[2]/\nI.tk=[]/\nI.mt=[]/\nI.pc=[]:=dk
def AIk:=DV nI rfl rfl rfl
theorem AIm:FK AA 276 f276 nI:=⟨kr,kr,func276,kr⟩
def Vo:Hint:=hm [28,1052,16,60,120,16] [] [] [13,15,16,18,21,24,26]
theorem AJ8:Vo.lv 0=[2,3,4]/\Vo.lv 1=[2,3,4,10]/\Vo.lv 2=[4]/\Vo.lv 3=[2,3,4,5]/\Vo.lv 4=[3,4,5,6]/\Vo.lv 5=[4]/\Vo.tk=[]/\Vo.mt=[]/\Vo.pc=[13,15,16,18,21,24,26]:=dk
def AJ7:=DV Vo rfl rfl rfl
theorem AJ9:FK AA 223 f223 Vo:=⟨kr,kr,func223,kr⟩
def J3:Hint:=hx [2,18,50,2098,50,114,16777330,12,50,12] [25,36] [] [] [21,23] [(4,1)] []
theorem AMk:J3.lv 0=[1]/\J3.lv 1=[1,4]/\J3.lv 2=[1,4,5]/\J3.lv 3=[1,4,5,11]/\J3.lv 4=[1,4,5]/\J3.lv 5=[1,4,5,6]/\J3.lv 6=[1,4,5,6,24]/\J3.lv 7=[2,3]/\J3.lv 8=[1,4,5]/\J3.lv 9=[2,3]/\J3.ct 0=none/\J3.ct 1=none/\J3.ct 2=none/\J3.ct 3=none/\J3.ct 4=some 1/\J3.ct 5=none/\J3.ct 6=none/\J3.ct 7=none/\J3.ct 8=none/\J3.ct 9=none:=dk
theorem AMh(k:Nat):J3.at k=[]:=rfl
theorem AMi(k:Nat):J3.dn k=false:=AH rfl rfl
theorem AMj:J3.tk=[25,36]/\J3.mt=[]/\J3.pc=[21,23]:=⟨rfl,rfl,rfl⟩
theorem AMl:FK AA 163 f163 J3:=⟨kr,kr,func163,kr⟩
def oJ:Hint:=hm [5,4] [] [] []
theorem AO3:oJ.lv 0=[0,2]/\oJ.lv 1=[2]/\oJ.tk=[]/\oJ.mt=[]/\oJ.pc=[]:=dk
def AO2:=DV oJ rfl rfl rfl
theorem AO4:FK AA 117 f117 oJ:=⟨kr,kr,func117,kr⟩
def J1:Hint:=hx [85,4181,64,197,1835204,3932356,1835716,1835204,1835204,64] [17] [] [] [] [(8,3)] []
theorem ALj:J1.lv 0=[0,2,4,6]/\J1.lv 1=[0,2,4,6,12]/\J1.lv 2=[6]/\J1.lv 3=[0,2,6,7]/\J1.lv 4=[2,6,7,18,19,20]/\J1.lv 5=[2,6,7,18,19,20,21]/\J1.lv 6=[2,6,7,9,18,19,20]/\J1.lv 7=[2,6,7,18,19,20]/\J1.lv 8=[2,6,7,18,19,20]/\J1.lv 9=[6]/\J1.ct 0=none/\J1.ct 1=none/\J1.ct 2=none/\J1.ct 3=none/\J1.ct 4=none/\J1.ct 5=none/\J1.ct 6=none/\J1.ct 7=none/\J1.ct 8=some 3/\J1.ct 9=none:=dk
theorem ALg(k:Nat):J1.at k=[]:=rfl
theorem ALh(k:Nat):J1.dn k=false:=AH rfl rfl
theorem ALi:J1.tk=[17]/\J1.mt=[]/\J1.pc=[]:=⟨rfl,rfl,rfl⟩
theorem ALk:FK AA 192 f192 J1:=⟨kr,kr,func192,kr⟩
def nj:Hint:=hm [28,16] [] [] []
theorem ALe:nj.lv 0=[2,3,4]/\nj.lv 1=[4]/\nj.tk=[]/\nj.mt=[]/\nj.pc=[]:=dk
def ALd:=DV nj rfl rfl rfl
theorem ALf:FK AA 193 f193 nj:=⟨kr,kr,func193,kr⟩
def SP:Hint:=hm [5,13,460,972,492,460,460,4] [6,12,18] [] [14,20]
theorem AOs:SP.lv 0=[0,2]/\SP.lv 1=[0,2,3]/\SP.lv 2=[2,3,6,7,8]/\SP.lv 3=[2,3,6,7,8,9]/\SP.lv 4=[2,3,5,6,7,8]/\SP.lv 5=[2,3,6,7,8]/\SP.lv 6=[2,3,6,7,8]/\SP.lv 7=[2]/\SP.tk=[6,12,18]/\SP.mt=[]/\SP.pc=[14,20]:=dk
def AOr:=DV SP rfl rfl rfl
theorem AOt:FK AA 120 f120 SP:=⟨kr,kr,func120,kr⟩
def Wz:Hint:=hx [6,14,908,1932,940,908,908,4] [13,19] [] [] [20] [(6,2)] []
theorem AUU:Wz.lv 0=[1,2]/\Wz.lv 1=[1,2,3]/\Wz.lv 2=[2,3,7,8,9]/\Wz.lv 3=[2,3,7,8,9,10]/\Wz.lv 4=[2,3,5,7,8,9]/\Wz.lv 5=[2,3,7,8,9]/\Wz.lv 6=[2,3,7,8,9]/\Wz.lv 7=[2]/\Wz.ct 0=none/\Wz.ct 1=none/\Wz.ct 2=none/\Wz.ct 3=none/\Wz.ct 4=none/\Wz.ct 5=none/\Wz.ct 6=some 2/\Wz.ct 7=none/\Wz.tk=[13,19]/\Wz.mt=[]/\Wz.pc=[20]:=dk
theorem AUS(k:Nat):Wz.at k=[]:=rfl
theorem AUT(k:Nat):Wz.dn k=false:=AH rfl rfl
theorem AUV:FK AA 66 f66 Wz:=⟨kr,kr,func66,kr⟩
def uW:Hint:=hm [28,16] [] [] []
theorem AUe:uW.lv 0=[2,3,4]/\uW.lv 1=[4]/\uW.tk=[]/\uW.mt=[]/\uW.pc=[]:=dk
def AUd:=DV uW rfl rfl rfl
theorem AUf:FK AA 63 f63 uW:=⟨kr,kr,func63,kr⟩
def h65:Hint:=hm [6,4] [] [] []
theorem AUX:h65.lv 0=[1,2]/\h65.lv 1=[2]/\h65.tk=[]/\h65.mt=[]/\h65.pc=[]:=dk
def AUW:=DV h65 rfl rfl rfl
theorem AUY:FK AA 65 f65 h65:=⟨kr,kr,func65,kr⟩
def J4:Hint:=hx [85,4181,64,197,1835204,3932356,1835716,1835204,1835204,64] [17] [] [] [] [(8,3)] []
theorem AO0:J4.lv 0=[0,2,4,6]/\J4.lv 1=[0,2,4,6,12]/\J4.lv 2=[6]/\J4.lv 3=[0,2,6,7]/\J4.lv 4=[2,6,7,18,19,20]/\J4.lv 5=[2,6,7,18,19,20,21]/\J4.lv 6=[2,6,7,9,18,19,20]/\J4.lv 7=[2,6,7,18,19,20]/\J4.lv 8=[2,6,7,18,19,20]/\J4.lv 9=[6]/\J4.ct 0=none/\J4.ct 1=none/\J4.ct 2=none/\J4.ct 3=none/\J4.ct 4=none/\J4.ct 5=none/\J4.ct 6=none/\J4.ct 7=none/\J4.ct 8=some 3/\J4.ct 9=none:=dk
theorem AOx(k:Nat):J4.at k=[]:=rfl
theorem AOy(k:Nat):J4.dn k=false:=AH rfl rfl
theorem AOz:J4.tk=[17]/\J4.mt=[]/\J4.pc=[]:=⟨rfl,rfl,rfl⟩
theorem AO1:FK AA 118 f118 J4:=⟨kr,kr,func118,kr⟩
def oI:Hint:=hm [28,16] [] [] []
theorem AOv:oI.lv 0=[2,3,4]/\oI.lv 1=[4]/\oI.tk=[]/\oI.mt=[]/\oI.pc=[]:=dk
def AOu:=DV oI rfl rfl rfl
theorem AOw:FK AA 119 f119 oI:=⟨kr,kr,func119,kr⟩
def W0:Hint:=hx [6,14,908,1932,940,908,908,4] [13,25] [] [] [16,17,21,27,28] [(6,2)] []
theorem AUb:W0.lv 0=[1,2]/\W0.lv 1=[1,2,3]/\W0.lv 2=[2,3,7,8,9]/\W0.lv 3=[2,3,7,8,9,10]/\W0.lv 4=[2,3,5,7,8,9]/\W0.lv 5=[2,3,7,8,9]/\W0.lv 6=[2,3,7,8,9]/\W0.lv 7=[2]/\W0.ct 0=none/\W0.ct 1=none/\W0.ct 2=none/\W0.ct 3=none/\W0.ct 4=none/\W0.ct 5=none/\W0.ct 6=some 2/\W0.ct 7=none/\W0.tk=[13,25]/\W0.mt=[]/\W0.pc=[16,17,21,27,28]:=dk
theorem AUZ(k:Nat):W0.at k=[]:=rfl
theorem AUa(k:Nat):W0.dn k=false:=AH rfl rfl
theorem AUc:FK AA 64 f64 W0:=⟨kr,kr,func64,kr⟩
def h35:Hint:=hm [28,540,16,60,16] [] [] [12,14,19,21,24,25]
theorem AVc:h35.lv 0=[2,3,4]/\h35.lv 1=[2,3,4,9]/\h35.lv 2=[4]/\h35.lv 3=[2,3,4,5]/\h35.lv 4=[4]/\h35.tk=[]/\h35.mt=[]/\h35.pc=[12,14,19,21,24,25]:=dk
def AVb:=DV h35 rfl rfl rfl
theorem AVd:FK AA 35 f35 h35:=⟨kr,kr,func35,kr⟩
def aW:Hint:=hm [2,1024,4,4] [] [] []
theorem AOg:aW.lv 0=[1]/\aW.lv 1=[10]/\aW.lv 2=[2]/\aW.lv 3=[2]/\aW.tk=[]/\aW.mt=[]/\aW.pc=[]:=dk
def AOf:=DV aW rfl rfl rfl
theorem AOh:FK AA 124 f124 aW:=⟨kr,kr,func124,kr⟩
def wX:Hint:=hm [6,34,546,16,8192,16,16] [] [] [7]
theorem AUO:wX.lv 0=[1,2]/\wX.lv 1=[1,5]/\wX.lv 2=[1,5,9]/\wX.lv 3=[4]/\wX.lv 4=[13]/\wX.lv 5=[4]/\wX.lv 6=[4]/\wX.tk=[]/\wX.mt=[]/\wX.pc=[7]:=dk
def AUN:=DV wX rfl rfl rfl
theorem AUP:FK AA 68 f68 wX:=⟨kr,kr,func68,kr⟩
def oG:Hint:=hm [28,16] [] [] []
theorem AOl:oG.lv 0=[2,3,4]/\oG.lv 1=[4]/\oG.tk=[]/\oG.mt=[]/\oG.pc=[]:=dk
def AOk:=DV oG rfl rfl rfl
theorem AOm:FK AA 122 f122 oG:=⟨kr,kr,func122,kr⟩
def LC:Hint:=hx [19,51,3634,7730,3762,3634,3634,16] [9] [] [] [18,19] [(6,2)] []
theorem ALb:LC.lv 0=[0,1,4]/\LC.lv 1=[0,1,4,5]/\LC.lv 2=[1,4,5,9,10,11]/\LC.lv 3=[1,4,5,9,10,11,12]/\LC.lv 4=[1,4,5,7,9,10,11]/\LC.lv 5=[1,4,5,9,10,11]/\LC.lv 6=[1,4,5,9,10,11]/\LC.lv 7=[4]/\LC.ct 0=none/\LC.ct 1=none/\LC.ct 2=none/\LC.ct 3=none/\LC.ct 4=none/\LC.ct 5=none/\LC.ct 6=some 2/\LC.ct 7=none/\LC.tk=[9]/\LC.mt=[]/\LC.pc=[18,19]:=dk
theorem ALZ(k:Nat):LC.at k=[]:=rfl
theorem ALa(k:Nat):LC.dn k=false:=AH rfl rfl
theorem ALc:FK AA 194 f194 LC:=⟨kr,kr,func194,kr⟩
def oF:Hint:=hm [6,4] [] [] [5]
theorem AOj:oF.lv 0=[1,2]/\oF.lv 1=[2]/\oF.tk=[]/\oF.mt=[]/\oF.pc=[5]:=dk
def AOi:=DV oF rfl rfl rfl
theorem zo:FK AA 123 f123 oF:=⟨kr,kr,func123,kr⟩
def LE:Hint:=hx [19,51,3634,7730,3762,3634,3634,16] [9] [] [] [18,19] [(6,2)] []
theorem AOp:LE.lv 0=[0,1,4]/\LE.lv 1=[0,1,4,5]/\LE.lv 2=[1,4,5,9,10,11]/\LE.lv 3=[1,4,5,9,10,11,12]/\LE.lv 4=[1,4,5,7,9,10,11]/\LE.lv 5=[1,4,5,9,10,11]/\LE.lv 6=[1,4,5,9,10,11]/\LE.lv 7=[4]/\LE.ct 0=none/\LE.ct 1=none/\LE.ct 2=none/\LE.ct 3=none/\LE.ct 4=none/\LE.ct 5=none/\LE.ct 6=some 2/\LE.ct 7=none/\LE.tk=[9]/\LE.mt=[]/\LE.pc=[18,19]:=dk
theorem AOn(k:Nat):LE.at k=[]:=rfl
theorem AOo(k:Nat):LE.dn k=false:=AH rfl rfl
theorem AOq:FK AA 121 f121 LE:=⟨kr,kr,func121,kr⟩
def h67:Hint:=hm [6,14,526,12,4] [] [] [6,13,14]
theorem AUR:h67.lv 0=[1,2]/\h67.lv 1=[1,2,3]/\h67.lv 2=[1,2,3,9]/\h67.lv 3=[2,3]/\h67.lv 4=[2]/\h67.tk=[]/\h67.mt=[]/\h67.pc=[6,13,14]:=dk
def AUQ:=DV h67 rfl rfl rfl
theorem AE4:FK AA 67 f67 h67:=⟨kr,kr,func67,kr⟩
def m6:Hint:=hm [7,64] [] [] []
theorem AHN:m6.lv 0=[0,1,2]/\m6.lv 1=[6]/\m6.tk=[]/\m6.mt=[]/\m6.pc=[]:=dk
def AHM:=DV m6 rfl rfl rfl
theorem AHO:FK AA 335 f335 m6:=⟨kr,kr,func335,kr⟩
def nF:Hint:=hm [1,4] [] [] [4]
theorem AH4:nF.lv 0=[0]/\nF.lv 1=[2]/\nF.tk=[]/\nF.mt=[]/\nF.pc=[4]:=dk
def AH3:=DV nF rfl rfl rfl
theorem AH5:FK AA 307 f307 nF:=⟨kr,kr,func307,kr⟩
def ns:Hint:=hm [1,4] [] [] []
theorem ANQ:ns.lv 0=[0]/\ns.lv 1=[2]/\ns.tk=[]/\ns.mt=[]/\ns.pc=[]:=dk
def ANP:=DV ns rfl rfl rfl
theorem ANR:FK AA 149 f149 ns:=⟨kr,kr,func149,kr⟩
def m5:Hint:=hm [3,16] [] [] [6,9]
theorem AHK:m5.lv 0=[0,1]/\m5.lv 1=[4]/\m5.tk=[]/\m5.mt=[]/\m5.pc=[6,9]:=dk
def AHJ:=DV m5 rfl rfl rfl
theorem AHL:FK AA 336 f336 m5:=⟨kr,kr,func336,kr⟩
def mz:Hint:=hm [1,4] [] [] []
theorem AHH:mz.lv 0=[0]/\mz.lv 1=[2]/\mz.tk=[]/\mz.mt=[]/\mz.pc=[]:=dk
def AHG:=DV mz rfl rfl rfl
theorem AHI:FK AA 337 f337 mz:=⟨kr,kr,func337,kr⟩
def Qn:Hint:=hm [3,67,451,33219,963,134218691,451,451,48] [43] [] [27,47,50]
theorem AH1:Qn.lv 0=[0,1]/\Qn.lv 1=[0,1,6]/\Qn.lv 2=[0,1,6,7,8]/\Qn.lv 3=[0,1,6,7,8,15]/\Qn.lv 4=[0,1,6,7,8,9]/\Qn.lv 5=[0,1,6,7,8,9,27]/\Qn.lv 6=[0,1,6,7,8]/\Qn.lv 7=[0,1,6,7,8]/\Qn.lv 8=[4,5]/\Qn.tk=[43]/\Qn.mt=[]/\Qn.pc=[27,47,50]:=dk
def AH0:=DV Qn rfl rfl rfl
theorem AH2:FK AA 308 f308 Qn:=⟨kr,kr,func308,kr⟩
def XU:Hint:=hm [3,35,65571,35,16] [] [] []
theorem AHy:XU.lv 0=[0,1]/\XU.lv 1=[0,1,5]/\XU.lv 2=[0,1,5,16]/\XU.lv 3=[0,1,5]/\XU.lv 4=[4]/\XU.tk=[]/\XU.mt=[]/\XU.pc=[]:=dk
def AHx:=DV XU rfl rfl rfl
theorem AHz:FK AA 309 f309 XU:=⟨kr,kr,func309,kr⟩
def my:Hint:=hm [1,4] [] [] [4]
theorem AHE:my.lv 0=[0]/\my.lv 1=[2]/\my.tk=[]/\my.mt=[]/\my.pc=[4]:=dk
def AHD:=DV my rfl rfl rfl
theorem AHF:FK AA 338 f338 my:=⟨kr,kr,func338,kr⟩
def nD:Hint:=hm [1,4] [] [] [4,7]
theorem AHs:nD.lv 0=[0]/\nD.lv 1=[2]/\nD.tk=[]/\nD.mt=[]/\nD.pc=[4,7]:=dk
def AHr:=DV nD rfl rfl rfl
theorem AHt:FK AA 311 f311 nD:=⟨kr,kr,func311,kr⟩
def nE:Hint:=hm [1,4] [] [] [5]
theorem AHv:nE.lv 0=[0]/\nE.lv 1=[2]/\nE.tk=[]/\nE.mt=[]/\nE.pc=[5]:=dk
def AHu:=DV nE rfl rfl rfl
theorem AHw:FK AA 310 f310 nE:=⟨kr,kr,func310,kr⟩
def XW:Hint:=hm [1,131073,4,17,4] [] [] [15,21,28]
theorem AJa:XW.lv 0=[0]/\XW.lv 1=[0,17]/\XW.lv 2=[2]/\XW.lv 3=[0,4]/\XW.lv 4=[2]/\XW.tk=[]/\XW.mt=[]/\XW.pc=[15,21,28]:=dk
def AJZ:=DV XW rfl rfl rfl
theorem AJb:FK AA 259 f259 XW:=⟨kr,kr,func259,kr⟩
def ng:Hint:=hm [1,4] [] [] [4]
theorem ALL:ng.lv 0=[0]/\ng.lv 1=[2]/\ng.tk=[]/\ng.mt=[]/\ng.pc=[4]:=dk
def ALK:=DV ng rfl rfl rfl
theorem ALM:FK AA 198 f198 ng:=⟨kr,kr,func198,kr⟩
def oD:Hint:=hm [1,4] [] [] [7]
theorem AOY:oD.lv 0=[0]/\oD.lv 1=[2]/\oD.tk=[]/\oD.mt=[]/\oD.pc=[7]:=dk
def AOX:=DV oD rfl rfl rfl
theorem AOZ:FK AA 127 f127 oD:=⟨kr,kr,func127,kr⟩
def oC:Hint:=hm [1,4] [] [] []
theorem AOV:oC.lv 0=[0]/\oC.lv 1=[2]/\oC.tk=[]/\oC.mt=[]/\oC.pc=[]:=dk
def AOU:=DV oC rfl rfl rfl
theorem AOW:FK AA 128 f128 oC:=⟨kr,kr,func128,kr⟩
def ni:Hint:=hm [1,4] [] [] []
theorem ALR:ni.lv 0=[0]/\ni.lv 1=[2]/\ni.tk=[]/\ni.mt=[]/\ni.pc=[]:=dk
def ALQ:=DV ni rfl rfl rfl
theorem ALS:FK AA 196 f196 ni:=⟨kr,kr,func196,kr⟩
def SG:Hint:=hm [3,387,899,419,65955,16,387,16] [] [] []
theorem AH7:SG.lv 0=[0,1]/\SG.lv 1=[0,1,7,8]/\SG.lv 2=[0,1,7,8,9]/\SG.lv 3=[0,1,5,7,8]/\SG.lv 4=[0,1,5,7,8,16]/\SG.lv 5=[4]/\SG.lv 6=[0,1,7,8]/\SG.lv 7=[4]/\SG.tk=[]/\SG.mt=[]/\SG.pc=[]:=dk
def AH6:=DV SG rfl rfl rfl
theorem AH8:FK AA 306 f306 SG:=⟨kr,kr,func306,kr⟩
def nO:Hint:=hm [3,16] [5] [] []
theorem AJg:nO.lv 0=[0,1]/\nO.lv 1=[4]/\nO.tk=[5]/\nO.mt=[]/\nO.pc=[]:=dk
def AJf:=DV nO rfl rfl rfl
theorem AJh:FK AA 257 f257 nO:=⟨kr,kr,func257,kr⟩
def nN:Hint:=hm [6,8] [] [] []
theorem AJd:nN.lv 0=[1,2]/\nN.lv 1=[3]/\nN.tk=[]/\nN.mt=[]/\nN.pc=[]:=dk
def AJc:=DV nN rfl rfl rfl
theorem AJe:FK AA 258 f258 nN:=⟨kr,kr,func258,kr⟩
def nh:Hint:=hm [35,64] [12] [] []
theorem ALO:nh.lv 0=[0,1,5]/\nh.lv 1=[6]/\nh.tk=[12]/\nh.mt=[]/\nh.pc=[]:=dk
def ALN:=DV nh rfl rfl rfl
theorem ALP:FK AA 197 f197 nh:=⟨kr,kr,func197,kr⟩
def KJ:Hint:=hm [2,10,262154,786442,786442,4,537133066,4,0x400000004000a,4,0x1000000000000004000a,4,0x10000000000000000000004000a,4,0x100000000000000000000000000004000a,4,0x10000000000000000000000000000004000a,0x10000000000000000000000000000000000a,4,4] [] [] [33,37,54,58,80,84,89,112,117,138,147]
theorem AOc:KJ.lv 0=[1]/\KJ.lv 1=[1,3]/\KJ.lv 2=[1,3,18]/\KJ.lv 3=[1,3,18,19]/\KJ.lv 4=[1,3,18,19]/\KJ.lv 5=[2]/\KJ.lv 6=[1,3,18,29]/\KJ.lv 7=[2]/\KJ.lv 8=[1,3,18,50]/\KJ.lv 9=[2]/\KJ.lv 10=[1,3,18,76]/\KJ.lv 11=[2]/\KJ.lv 12=[1,3,18,104]/\KJ.lv 13=[2]/\KJ.lv 14=[1,3,18,132]/\KJ.lv 15=[2]/\KJ.lv 16=[1,3,18,140]/\KJ.lv 17=[1,3,140]/\KJ.lv 18=[2]/\KJ.lv 19=[2]:=dk
def AOb:=DV KJ rfl rfl rfl
theorem AOa:KJ.tk=[]/\KJ.mt=[]/\KJ.pc=[33,37,54,58,80,84,89,112,117,138,147]:=⟨rfl,rfl,rfl⟩
theorem La:FK AA 126 f126 KJ:=⟨kr,kr,func126,kr⟩
def JB:Hint:=hx [7,16391,64,229382,491526,229766,230150,1073971206,64,229382,64] [15] [] [] [] [(9,0)] []
theorem ALW:JB.lv 0=[0,1,2]/\JB.lv 1=[0,1,2,14]/\JB.lv 2=[6]/\JB.lv 3=[1,2,15,16,17]/\JB.lv 4=[1,2,15,16,17,18]/\JB.lv 5=[1,2,7,8,15,16,17]/\JB.lv 6=[1,2,8,9,15,16,17]/\JB.lv 7=[1,2,15,16,17,30]/\JB.lv 8=[6]/\JB.lv 9=[1,2,15,16,17]/\JB.lv 10=[6]:=dk
theorem ALY:JB.ct 0=none/\JB.ct 1=none/\JB.ct 2=none/\JB.ct 3=none/\JB.ct 4=none/\JB.ct 5=none/\JB.ct 6=none/\JB.ct 7=none/\JB.ct 8=none/\JB.ct 9=some 0/\JB.ct 10=none:=dk
theorem ALT(k:Nat):JB.at k=[]:=rfl
theorem ALU(k:Nat):JB.dn k=false:=AH rfl rfl
theorem ALV:JB.tk=[15]/\JB.mt=[]/\JB.pc=[]:=⟨rfl,rfl,rfl⟩
theorem ALX:FK AA 195 f195 JB:=⟨kr,kr,func195,kr⟩
def oE:Hint:=hm [12,16] [] [] [36]
theorem AOe:oE.lv 0=[2,3]/\oE.lv 1=[4]/\oE.tk=[]/\oE.mt=[]/\oE.pc=[36]:=dk
def AOd:=DV oE rfl rfl rfl
theorem zn:FK AA 125 f125 oE:=⟨kr,kr,func125,kr⟩
def SI:Hint:=hm [3,387,899,419,65955,16,387,16] [] [] []
theorem AJX:SI.lv 0=[0,1]/\SI.lv 1=[0,1,7,8]/\SI.lv 2=[0,1,7,8,9]/\SI.lv 3=[0,1,5,7,8]/\SI.lv 4=[0,1,5,7,8,16]/\SI.lv 5=[4]/\SI.lv 6=[0,1,7,8]/\SI.lv 7=[4]/\SI.tk=[]/\SI.mt=[]/\SI.pc=[]:=dk
def AJW:=DV SI rfl rfl rfl
theorem AJY:FK AA 260 f260 SI:=⟨kr,kr,func260,kr⟩
def nf:Hint:=hm [3,16] [5] [] []
theorem ALI:nf.lv 0=[0,1]/\nf.lv 1=[4]/\nf.tk=[5]/\nf.mt=[]/\nf.pc=[]:=dk
def ALH:=DV nf rfl rfl rfl
theorem ALJ:FK AA 199 f199 nf:=⟨kr,kr,func199,kr⟩
def nc:Hint:=hm [6,8] [] [] []
theorem ALF:nc.lv 0=[1,2]/\nc.lv 1=[3]/\nc.tk=[]/\nc.mt=[]/\nc.pc=[]:=dk
def ALE:=DV nc rfl rfl rfl
theorem ALG:FK AA 200 f200 nc:=⟨kr,kr,func200,kr⟩
def oB:Hint:=hm [35,64] [12] [] []
theorem AOS:oB.lv 0=[0,1,5]/\oB.lv 1=[6]/\oB.tk=[12]/\oB.mt=[]/\oB.pc=[]:=dk
def AOR:=DV oB rfl rfl rfl
theorem AOT:FK AA 129 f129 oB:=⟨kr,kr,func129,kr⟩
def cV:Hint:=hm [2,26,262170,786458,4,8590196762,4,4503599627632666,4,0x800000000004001a,0x800000000000001a,4,4] [] [] [8,31,45,50,61,73]
theorem AUJ:cV.lv 0=[1]/\cV.lv 1=[1,3,4]/\cV.lv 2=[1,3,4,18]/\cV.lv 3=[1,3,4,18,19]/\cV.lv 4=[2]/\cV.lv 5=[1,3,4,18,33]/\cV.lv 6=[2]/\cV.lv 7=[1,3,4,18,52]/\cV.lv 8=[2]/\cV.lv 9=[1,3,4,18,63]/\cV.lv 10=[1,3,4,63]/\cV.lv 11=[2]/\cV.lv 12=[2]/\cV.tk=[]/\cV.mt=[]/\cV.pc=[8,31,45,50,61,73]:=dk
def AUI:=DV cV rfl rfl rfl
theorem Yy:FK AA 70 f70 cV:=⟨kr,kr,func70,kr⟩
def h69:Hint:=hm [1,2] [] [] [3]
theorem AUL:h69.lv 0=[0]/\h69.lv 1=[1]/\h69.tk=[]/\h69.mt=[]/\h69.pc=[3]:=dk
def AUK:=DV h69 rfl rfl rfl
theorem AUM:FK AA 69 f69 h69:=⟨kr,kr,func69,kr⟩
def h36:Hint:=hm [2,4] [] [] [4]
theorem AVZ:h36.lv 0=[1]/\h36.lv 1=[2]/\h36.tk=[]/\h36.mt=[]/\h36.pc=[4]:=dk
def AVY:=DV h36 rfl rfl rfl
theorem AVa:FK AA 36 f36 h36:=⟨kr,kr,func36,kr⟩
def Nw:Hint:=hx [2,18,1810,3858,1874,1874,4196178,12,1810,1810,12] [23,28] [] [] [17,21] [(9,1)] []
theorem AWL:Nw.lv 0=[1]/\Nw.lv 1=[1,4]/\Nw.lv 2=[1,4,8,9,10]/\Nw.lv 3=[1,4,8,9,10,11]/\Nw.lv 4=[1,4,6,8,9,10]/\Nw.lv 5=[1,4,6,8,9,10]/\Nw.lv 6=[1,4,6,8,9,10,22]/\Nw.lv 7=[2,3]/\Nw.lv 8=[1,4,8,9,10]/\Nw.lv 9=[1,4,8,9,10]/\Nw.lv 10=[2,3]:=dk
theorem AWN:Nw.ct 0=none/\Nw.ct 1=none/\Nw.ct 2=none/\Nw.ct 3=none/\Nw.ct 4=none/\Nw.ct 5=none/\Nw.ct 6=none/\Nw.ct 7=none/\Nw.ct 8=none/\Nw.ct 9=some 1/\Nw.ct 10=none:=dk
theorem AWI(k:Nat):Nw.at k=[]:=rfl
theorem AWJ(k:Nat):Nw.dn k=false:=AH rfl rfl
theorem AWK:Nw.tk=[23,28]/\Nw.mt=[]/\Nw.pc=[17,21]:=⟨rfl,rfl,rfl⟩
theorem AWM:FK AA 10 f10 Nw:=⟨kr,kr,func10,kr⟩
theorem pL:Tryz.prog.cellsOf 134=1/\H6 AA 134=some none/\H6 AA 251=some none/\Tryz.prog.cellsOf 267=5/\Tryz.prog.bytesOf 267=64/\H6 AA 267=some (some 5)/\FS AA 267=true/\JI AA 267 = .struct [(0,1),(1,1),(2,1),(3,1),(4,1)]/\Dy AA 267 0=some (9,0)/\Dy AA 267 1=some (3,1)/\Dy AA 267 2=some (61,2)/\Dy AA 267 3=some (3,3):=⟨kr,kr,kr,kr,kr,kr,kr,kr,kr,kr,kr,kr⟩
theorem gX:Dy AA 267 4=some (3,4):=kr
def SJ:Hint:=hm [3,387,899,419,65955,16,387,16] [] [] []
theorem ALm:SJ.lv 0=[0,1]/\SJ.lv 1=[0,1,7,8]/\SJ.lv 2=[0,1,7,8,9]/\SJ.lv 3=[0,1,5,7,8]/\SJ.lv 4=[0,1,5,7,8,16]/\SJ.lv 5=[4]/\SJ.lv 6=[0,1,7,8]/\SJ.lv 7=[4]/\SJ.tk=[]/\SJ.mt=[]/\SJ.pc=[]:=dk
def ALl:=DV SJ rfl rfl rfl
theorem ALn:FK AA 182 f182 SJ:=⟨kr,kr,func182,kr⟩
def nb:Hint:=hm [6,8] [] [] []
theorem ALC:nb.lv 0=[1,2]/\nb.lv 1=[3]/\nb.tk=[]/\nb.mt=[]/\nb.pc=[]:=dk
def ALB:=DV nb rfl rfl rfl
theorem ALD:FK AA 201 f201 nb:=⟨kr,kr,func201,kr⟩
def Tn:Hint:=hm [25,1049,48,81,65617,48,48] [18] [] [8,11]
theorem AOM:Tn.lv 0=[0,3,4]/\Tn.lv 1=[0,3,4,10]/\Tn.lv 2=[4,5]/\Tn.lv 3=[0,4,6]/\Tn.lv 4=[0,4,6,16]/\Tn.lv 5=[4,5]/\Tn.lv 6=[4,5]/\Tn.tk=[18]/\Tn.mt=[]/\Tn.pc=[8,11]:=dk
def AOL:=DV Tn rfl rfl rfl
theorem AON:FK AA 131 f131 Tn:=⟨kr,kr,func131,kr⟩
def na:Hint:=hm [2,4] [] [] []
theorem AK9:na.lv 0=[1]/\na.lv 1=[2]/\na.tk=[]/\na.mt=[]/\na.pc=[]:=dk
def AK8:=DV na rfl rfl rfl
theorem ALA:FK AA 202 f202 na:=⟨kr,kr,func202,kr⟩
theorem vB:Tryz.prog.cellsOf 57=1/\H6 AA 57=some none/\Tryz.prog.underlying 57=some (.slice 34)/\EW AA 57=some (.sl (some 10) [])/\Tryz.prog.cellsOf 162=1/\H6 AA 162=some none/\Tryz.prog.cellsOf 163=1/\H6 AA 163=some none/\JI AA 165 = .struct [(0,1),(1,1)]/\Dy AA 165 0=some (162,0)/\Dy AA 165 1=some (163,1)/\EW AA 165=some (.agg [.nilf,.nilf]):=⟨kr,kr,kr,kr,kr,kr,kr,kr,kr,kr,kr,kr⟩
theorem pI:Tryz.prog.cellsOf 166=1/\H6 AA 166=some none/\EW AA 166=some (.nilp)/\Tryz.prog.cellsOf 207=1/\H6 AA 207=some none/\EW AA 207=some (.nilf)/\Tryz.prog.cellsOf 225=20/\H6 AA 225=some (some 20)/\JI AA 225 = .struct [(0,10),(10,10)]/\Dy AA 225 0=some (34,0)/\Dy AA 225 1=some (34,10)/\Tryz.prog.cellsOf 230=20:=⟨kr,kr,kr,kr,kr,kr,kr,kr,kr,kr,kr,kr⟩
theorem AGP:H6 AA 230=some (some 20)/\Dy AA 230 0=some (34,0)/\Dy AA 230 1=some (34,10)/\EW AA 230=some (.agg [.int .i64 0,.int .i64 0,.int .i64 0,.int .i64 0,.int .i64 0,.int .i64 0,.int .i64 0,.int .i64 0,.int .i64 0,.int .i64 0,.int .i64 0,.int .i64 0,.int .i64 0,.int .i64 0,.int .i64 0,.int .i64 0,.int .i64 0,.int .i64 0,.int .i64 0,.int .i64 0]):=⟨kr,kr,kr,kr⟩
def h71:Hint:=hm [3,129,48,48] [8] [] []
theorem AUG:h71.lv 0=[0,1]/\h71.lv 1=[0,7]/\h71.lv 2=[4,5]/\h71.lv 3=[4,5]/\h71.tk=[8]/\h71.mt=[]/\h71.pc=[]:=dk
def AUF:=DV h71 rfl rfl rfl
theorem AUH:FK AA 71 f71 h71:=⟨kr,kr,func71,kr⟩
def SO:Hint:=hm [12,76,204,108,4194380,16,76,16] [] [] []
theorem AOJ:SO.lv 0=[2,3]/\SO.lv 1=[2,3,6]/\SO.lv 2=[2,3,6,7]/\SO.lv 3=[2,3,5,6]/\SO.lv 4=[2,3,6,22]/\SO.lv 5=[4]/\SO.lv 6=[2,3,6]/\SO.lv 7=[4]/\SO.tk=[]/\SO.mt=[]/\SO.pc=[]:=dk
def AOI:=DV SO rfl rfl rfl
theorem AOK:FK AA 132 f132 SO:=⟨kr,kr,func132,kr⟩
def nZ:Hint:=hm [2,4] [] [] []
theorem AK3:nZ.lv 0=[1]/\nZ.lv 1=[2]/\nZ.tk=[]/\nZ.mt=[]/\nZ.pc=[]:=dk
def AK2:=DV nZ rfl rfl rfl
theorem AK4:FK AA 204 f204 nZ:=⟨kr,kr,func204,kr⟩
def aT:Hint:=hm [92,220,80,64] [] [] [17,19,24]
theorem AK6:aT.lv 0=[2,3,4,6]/\aT.lv 1=[2,3,4,6,7]/\aT.lv 2=[4,6]/\aT.lv 3=[6]/\aT.tk=[]/\aT.mt=[]/\aT.pc=[17,19,24]:=dk
def AK5:=DV aT rfl rfl rfl
theorem AK7:FK AA 203 f203 aT:=⟨kr,kr,func203,kr⟩
def gR:Hint:=hm [78,202,64] [] [] [9,20,26]
theorem AOD:gR.lv 0=[1,2,3,6]/\gR.lv 1=[1,3,6,7]/\gR.lv 2=[6]/\gR.tk=[]/\gR.mt=[]/\gR.pc=[9,20,26]:=dk
def AOC:=DV gR rfl rfl rfl
theorem AOE:FK AA 134 f134 gR:=⟨kr,kr,func134,kr⟩
def oA:Hint:=hm [22,16] [] [] [9]
theorem AOG:oA.lv 0=[1,2,4]/\oA.lv 1=[4]/\oA.tk=[]/\oA.mt=[]/\oA.pc=[9]:=dk
def AOF:=DV oA rfl rfl rfl
theorem AOH:FK AA 133 f133 oA:=⟨kr,kr,func133,kr⟩
def n9:Hint:=hm [12,16] [] [] [11,14]
theorem AOA:n9.lv 0=[2,3]/\n9.lv 1=[4]/\n9.tk=[]/\n9.mt=[]/\n9.pc=[11,14]:=dk
def AN9:=DV n9 rfl rfl rfl
theorem AOB:FK AA 135 f135 n9:=⟨kr,kr,func135,kr⟩
def JZ:Hint:=hm [124,4220,12412,12412,128,528508,128,2147487864,128,17592186048632,17592186044536,0x1000000000000068,128,128,352,0x400000000000000000160,0xc00000000000000000160,128,0x80000000000000000000160,128,1056,128] [] [42,56,73] [42,56,73,78,88,90,98,100,103]
theorem AOQ:JZ.lv 0=[2,3,4,5,6]/\JZ.lv 1=[2,3,4,5,6,12]/\JZ.lv 2=[2,3,4,5,6,12,13]/\JZ.lv 3=[2,3,4,5,6,12,13]/\JZ.lv 4=[7]/\JZ.lv 5=[2,3,4,5,6,12,19]/\JZ.lv 6=[7]/\JZ.lv 7=[3,4,5,6,12,31]/\JZ.lv 8=[7]/\JZ.lv 9=[3,4,5,6,12,44]/\JZ.lv 10=[3,4,5,6,44]/\JZ.lv 11=[3,5,6,60]/\JZ.lv 12=[7]/\JZ.lv 13=[7]/\JZ.lv 14=[5,6,8]/\JZ.lv 15=[5,6,8,82]/\JZ.lv 16=[5,6,8,82,83]/\JZ.lv 17=[7]/\JZ.lv 18=[5,6,8,91]/\JZ.lv 19=[7]/\JZ.lv 20=[5,10]/\JZ.lv 21=[7]:=dk
def AOP:=DV JZ rfl rfl rfl
theorem AOO:JZ.tk=[]/\JZ.mt=[42,56,73]/\JZ.pc=[42,56,73,78,88,90,98,100,103]:=⟨rfl,rfl,rfl⟩
theorem Mp:FK AA 130 f130 JZ:=⟨kr,kr,func130,kr⟩
def Tm:Hint:=hm [28,92,220,124,92,92,16] [] [] []
theorem AN4:Tm.lv 0=[2,3,4]/\Tm.lv 1=[2,3,4,6]/\Tm.lv 2=[2,3,4,6,7]/\Tm.lv 3=[2,3,4,5,6]/\Tm.lv 4=[2,3,4,6]/\Tm.lv 5=[2,3,4,6]/\Tm.lv 6=[4]/\Tm.tk=[]/\Tm.mt=[]/\Tm.pc=[]:=dk
def AN3:=DV Tm rfl rfl rfl
theorem AN5:FK AA 137 f137 Tm:=⟨kr,kr,func137,kr⟩
def n8:Hint:=hm [22,16] [] [] [7]
theorem AN1:n8.lv 0=[1,2,4]/\n8.lv 1=[4]/\n8.tk=[]/\n8.mt=[]/\n8.pc=[7]:=dk
def AN0:=DV n8 rfl rfl rfl
theorem AN2:FK AA 138 f138 n8:=⟨kr,kr,func138,kr⟩
def aV:Hint:=hm [3,4097,48,48] [13] [] []
theorem ANz:aV.lv 0=[0,1]/\aV.lv 1=[0,12]/\aV.lv 2=[4,5]/\aV.lv 3=[4,5]/\aV.tk=[13]/\aV.mt=[]/\aV.pc=[]:=dk
def ANy:=DV aV rfl rfl rfl
theorem nz:FK AA 139 f139 aV:=⟨kr,kr,func139,kr⟩
def Mn:Hint:=hm [3,35,99,2115,4096,16,16,8195,16,65539,16,524288,16,16] [] [] [8,10]
theorem ANN:Mn.lv 0=[0,1]/\Mn.lv 1=[0,1,5]/\Mn.lv 2=[0,1,5,6]/\Mn.lv 3=[0,1,6,11]/\Mn.lv 4=[12]/\Mn.lv 5=[4]/\Mn.lv 6=[4]/\Mn.lv 7=[0,1,13]/\Mn.lv 8=[4]/\Mn.lv 9=[0,1,16]/\Mn.lv 10=[4]/\Mn.lv 11=[19]/\Mn.lv 12=[4]/\Mn.lv 13=[4]/\Mn.tk=[]/\Mn.mt=[]/\Mn.pc=[8,10]:=dk
def ANM:=DV Mn rfl rfl rfl
theorem ANO:FK AA 150 f150 Mn:=⟨kr,kr,func150,kr⟩
def aK:Hint:=hm [3,3587,7683,3683,527971,16,3779,3843,268439299,16,3587,34359738368,16,16] [31,33] [] [26]
theorem ATt:aK.lv 0=[0,1]/\aK.lv 1=[0,1,9,10,11]/\aK.lv 2=[0,1,9,10,11,12]/\aK.lv 3=[0,1,5,6,9,10,11]/\aK.lv 4=[0,1,5,6,9,10,11,19]/\aK.lv 5=[4]/\aK.lv 6=[0,1,6,7,9,10,11]/\aK.lv 7=[0,1,8,9,10,11]/\aK.lv 8=[0,1,8,9,10,11,28]/\aK.lv 9=[4]/\aK.lv 10=[0,1,9,10,11]/\aK.lv 11=[35]/\aK.lv 12=[4]/\aK.lv 13=[4]/\aK.tk=[31,33]/\aK.mt=[]/\aK.pc=[26]:=dk
def ATs:=DV aK rfl rfl rfl
theorem AE3:FK AA 84 f84 aK:=⟨kr,kr,func84,kr⟩
def nM:Hint:=hm [12,16] [] [5,6] []
theorem AJO:nM.lv 0=[2,3]/\nM.lv 1=[4]/\nM.tk=[]/\nM.mt=[5,6]/\nM.pc=[]:=dk
def AJN:=DV nM rfl rfl rfl
theorem AJP:FK AA 262 f262 nM:=⟨kr,kr,func262,kr⟩
def II:Hint:=hx [8199,7,23,2097159,23,33554439,23,55,1073741879,55,137438953511,39,70368744177671] [] [] [] [20] [] [9,11]
theorem AJT:II.lv 0=[0,1,2,13]/\II.lv 1=[0,1,2]/\II.lv 2=[0,1,2,4]/\II.lv 3=[0,1,2,21]/\II.lv 4=[0,1,2,4]/\II.lv 5=[0,1,2,25]/\II.lv 6=[0,1,2,4]/\II.lv 7=[0,1,2,4,5]/\II.lv 8=[0,1,2,4,5,30]/\II.lv 9=[0,1,2,4,5]/\II.lv 10=[0,1,2,5,37]/\II.lv 11=[0,1,2,5]/\II.lv 12=[0,1,2,46]:=dk
theorem AJV(k:Nat):II.ct k=none:=rfl
theorem AJQ(k:Nat):II.at k=[]:=rfl
theorem AJR:II.dn 0=false/\II.dn 1=false/\II.dn 2=false/\II.dn 3=false/\II.dn 4=false/\II.dn 5=false/\II.dn 6=false/\II.dn 7=false/\II.dn 8=false/\II.dn 9=true/\II.dn 10=false/\II.dn 11=true/\II.dn 12=false:=dk
theorem AJS:II.tk=[]/\II.mt=[]/\II.pc=[20]:=⟨rfl,rfl,rfl⟩
theorem AJU:FK AA 261 f261 II:=⟨kr,kr,func261,kr⟩
def ADN:Hint:=hm [12,16] [] [] []
theorem AK0:ADN.lv 0=[2,3]/\ADN.lv 1=[4]:=dk
def AKz:=DV ADN rfl rfl rfl
theorem AK1:FK AA 205 f205 ADN:=⟨kr,kr,func205,kr⟩
def SN:Hint:=hm [3,35,544,96,1,16] [7,8,11] [5,14] []
theorem ANw:SN.lv 0=[0,1]/\SN.lv 1=[0,1,5]/\SN.lv 2=[5,9]/\SN.lv 3=[5,6]/\SN.lv 4=[0]/\SN.lv 5=[4]/\SN.tk=[7,8,11]/\SN.mt=[5,14]/\SN.pc=[]:=dk
def ANv:=DV SN rfl rfl rfl
theorem ANx:FK AA 140 f140 SN:=⟨kr,kr,func140,kr⟩
def JD:Hint:=hx [21,277,789,115473,246545,117009,127249,115473,549755929361,115473,192] [14,31,32,41] [27] [(6,[(8,none,true)])] [27] [] []
theorem ANs:JD.lv 0=[0,2,4]/\JD.lv 1=[0,2,4,8]/\JD.lv 2=[0,2,4,8,9]/\JD.lv 3=[0,4,8,9,14,15,16]/\JD.lv 4=[0,4,8,9,14,15,16,17]/\JD.lv 5=[0,4,8,11,14,15,16]/\JD.lv 6=[0,4,8,12,13,14,15,16]/\JD.lv 7=[0,4,8,9,14,15,16]/\JD.lv 8=[0,4,8,9,14,15,16,39]/\JD.lv 9=[0,4,8,9,14,15,16]/\JD.lv 10=[6,7]:=dk
theorem ANu(k:Nat):JD.ct k=none:=rfl
theorem ANp:JD.at 0=[]/\JD.at 1=[]/\JD.at 2=[]/\JD.at 3=[]/\JD.at 4=[]/\JD.at 5=[]/\JD.at 6=[(8,none,true)]/\JD.at 7=[]/\JD.at 8=[]/\JD.at 9=[]/\JD.at 10=[]:=dk
theorem ANq(k:Nat):JD.dn k=false:=AH rfl rfl
theorem ANr:JD.tk=[14,31,32,41]/\JD.mt=[27]/\JD.pc=[27]:=⟨rfl,rfl,rfl⟩
theorem ANt:FK AA 141 f141 JD:=⟨kr,kr,func141,kr⟩
def SH:Hint:=hm [3,387,899,419,65955,16,387,16] [] [] []
theorem AJM:SH.lv 0=[0,1]/\SH.lv 1=[0,1,7,8]/\SH.lv 2=[0,1,7,8,9]/\SH.lv 3=[0,1,5,7,8]/\SH.lv 4=[0,1,5,7,8,16]/\SH.lv 5=[4]/\SH.lv 6=[0,1,7,8]/\SH.lv 7=[4]/\SH.tk=[]/\SH.mt=[]/\SH.pc=[]:=dk
def AJL:=DV SH rfl rfl rfl
theorem zZ:FK AA 263 f263 SH:=⟨kr,kr,func263,kr⟩
def NK:Hint:=hm [3,35,4131,16,99,524387,99,227,536871139,99,99,33,16] [13,39] [] []
theorem AKy:NK.lv 0=[0,1]/\NK.lv 1=[0,1,5]/\NK.lv 2=[0,1,5,12]/\NK.lv 3=[4]/\NK.lv 4=[0,1,5,6]/\NK.lv 5=[0,1,5,6,19]/\NK.lv 6=[0,1,5,6]/\NK.lv 7=[0,1,5,6,7]/\NK.lv 8=[0,1,5,6,7,29]/\NK.lv 9=[0,1,5,6]/\NK.lv 10=[0,1,5,6]/\NK.lv 11=[0,5]/\NK.lv 12=[4]/\NK.tk=[13,39]/\NK.mt=[]/\NK.pc=[]:=dk
def AKx:=DV NK rfl rfl rfl
theorem zg:FK AA 206 f206 NK:=⟨kr,kr,func206,kr⟩
def Qq:Hint:=hm [21,277,1813,132885,3861,2147487509,1813,1813,192] [41] [] [30,46]
theorem AJJ:Qq.lv 0=[0,2,4]/\Qq.lv 1=[0,2,4,8]/\Qq.lv 2=[0,2,4,8,9,10]/\Qq.lv 3=[0,2,4,8,9,10,17]/\Qq.lv 4=[0,2,4,8,9,10,11]/\Qq.lv 5=[0,2,4,8,9,10,11,31]/\Qq.lv 6=[0,2,4,8,9,10]/\Qq.lv 7=[0,2,4,8,9,10]/\Qq.lv 8=[6,7]/\Qq.tk=[41]/\Qq.mt=[]/\Qq.pc=[30,46]:=dk
def AJI:=DV Qq rfl rfl rfl
theorem AJK:FK AA 264 f264 Qq:=⟨kr,kr,func264,kr⟩
def gO:Hint:=hm [9,64,16] [8] [] [10]
theorem AKs:gO.lv 0=[0,3]/\gO.lv 1=[6]/\gO.lv 2=[4]/\gO.tk=[8]/\gO.mt=[]/\gO.pc=[10]:=dk
def AKr:=DV gO rfl rfl rfl
theorem AKt:FK AA 208 f208 gO:=⟨kr,kr,func208,kr⟩
def nY:Hint:=hm [6,8] [] [] [6]
theorem AKv:nY.lv 0=[1,2]/\nY.lv 1=[3]/\nY.tk=[]/\nY.mt=[]/\nY.pc=[6]:=dk
def AKu:=DV nY rfl rfl rfl
theorem AKw:FK AA 207 f207 nY:=⟨kr,kr,func207,kr⟩
def JC:Hint:=hx [49,529,3601,3601,13841,11793,11793,274877910545,448,2199023259153,448] [22,26] [] [(5,[(11,none,true)])] [] [] []
theorem ANm:JC.lv 0=[0,4,5]/\JC.lv 1=[0,4,9]/\JC.lv 2=[0,4,9,10,11]/\JC.lv 3=[0,4,9,10,11]/\JC.lv 4=[0,4,9,10,12,13]/\JC.lv 5=[0,4,9,10,11,13]/\JC.lv 6=[0,4,9,10,11,13]/\JC.lv 7=[0,4,9,10,11,38]/\JC.lv 8=[6,7,8]/\JC.lv 9=[0,4,9,10,11,41]/\JC.lv 10=[6,7,8]:=dk
theorem ANo(k:Nat):JC.ct k=none:=rfl
theorem ANj:JC.at 0=[]/\JC.at 1=[]/\JC.at 2=[]/\JC.at 3=[]/\JC.at 4=[]/\JC.at 5=[(11,none,true)]/\JC.at 6=[]/\JC.at 7=[]/\JC.at 8=[]/\JC.at 9=[]/\JC.at 10=[]:=dk
theorem ANk(k:Nat):JC.dn k=false:=AH rfl rfl
theorem ANl:JC.tk=[22,26]/\JC.mt=[]/\JC.pc=[]:=⟨rfl,rfl,rfl⟩
theorem ANn:FK AA 142 f142 JC:=⟨kr,kr,func142,kr⟩
def KI:Hint:=hm [60,1048636,3145788,2147483680,192,192,17180917820,304,192,0x4000000100034,3124,15360,192,0x10000000000000000000034,49172,0x100000000000000000000004014,192,192,327680,192] [78,79,110,125] [30,62,75,100,111,121] [30,40,46,48,62,75,85,100]
theorem AN8:KI.lv 0=[2,3,4,5]/\KI.lv 1=[2,3,4,5,20]/\KI.lv 2=[2,3,4,5,20,21]/\KI.lv 3=[5,31]/\KI.lv 4=[6,7]/\KI.lv 5=[6,7]/\KI.lv 6=[2,3,4,5,20,34]/\KI.lv 7=[4,5,8]/\KI.lv 8=[6,7]/\KI.lv 9=[2,4,5,20,50]/\KI.lv 10=[2,4,5,10,11]/\KI.lv 11=[10,11,12,13]/\KI.lv 12=[6,7]/\KI.lv 13=[2,4,5,88]/\KI.lv 14=[2,4,14,15]/\KI.lv 15=[2,4,14,104]/\KI.lv 16=[6,7]/\KI.lv 17=[6,7]/\KI.lv 18=[16,18]/\KI.lv 19=[6,7]:=dk
def AN7:=DV KI rfl rfl rfl
theorem AN6:KI.tk=[78,79,110,125]/\KI.mt=[30,62,75,100,111,121]/\KI.pc=[30,40,46,48,62,75,85,100]:=⟨rfl,rfl,rfl⟩
theorem KH:FK AA 136 f136 KI:=⟨kr,kr,func136,kr⟩
def h72:Hint:=hm [12,44,36,32,16] [] [] []
theorem AUD:h72.lv 0=[2,3]/\h72.lv 1=[2,3,5]/\h72.lv 2=[2,5]/\h72.lv 3=[5]/\h72.lv 4=[4]/\h72.tk=[]/\h72.mt=[]/\h72.pc=[]:=dk
def AUC:=DV h72 rfl rfl rfl
theorem AUE:FK AA 72 f72 h72:=⟨kr,kr,func72,kr⟩
def zS:Hint:=hx [105,768] [10] [12,18] [] [18,21] [] [2006,2007]
theorem AVW:zS.lv 0=[0,3,5,6]/\zS.lv 1=[8,9]/\zS.dn 0=false/\zS.dn 1=true/\zS.tk=[10]/\zS.mt=[12,18]/\zS.pc=[18,21]:=dk
theorem AVX(k:Nat):zS.ct k=none:=rfl
theorem AVV(k:Nat):zS.at k=[]:=rfl
theorem AE7:FK AA 37 f37 zS:=⟨kr,kr,func37,kr⟩
def nV:Hint:=hm [1,4] [] [] []
theorem AKd:nV.lv 0=[0]/\nV.lv 1=[2]/\nV.tk=[]/\nV.mt=[]/\nV.pc=[]:=dk
def AKc:=DV nV rfl rfl rfl
theorem AKe:FK AA 213 f213 nV:=⟨kr,kr,func213,kr⟩
theorem ASY:Tryz.prog.underlying 32=some (.slice 58)/\mi AA 32=true/\Tryz.prog.cellsOf 36=11/\H6 AA 36=some (some 11)/\FS AA 36=true/\Dy AA 36 0=some (34,0)/\Dy AA 36 1=some (3,10)/\Tryz.prog.underlying 39=some (.slice 63)/\Tryz.prog.cellsOf 58=1/\Tryz.prog.bytesOf 58=24/\H6 AA 58=some none/\Tryz.prog.underlying 58=some (.slice 119):=⟨kr,kr,kr,kr,kr,kr,kr,kr,kr,kr,kr,kr⟩
theorem AGX:mi AA 58=true/\FS AA 58=true/\Tryz.prog.cellsOf 63=12/\Tryz.prog.bytesOf 63=112/\H6 AA 63=some (some 12)/\FS AA 63=true/\JI AA 63 = .struct [(0,1),(1,10),(11,1)]/\Dy AA 63 0=some (3,0)/\Dy AA 63 1=some (34,1)/\Dy AA 63 2=some (61,11)/\Tryz.prog.underlying 67=some (.slice 36)/\Tryz.prog.cellsOf 82=1:=⟨kr,kr,kr,kr,kr,kr,kr,kr,kr,kr,kr,kr⟩
theorem AS8:H6 AA 82=some none/\Tryz.prog.underlying 82=some (.slice 61)/\EW AA 82=some (.sl (some 1) [])/\Tryz.prog.cellsOf 93=1/\H6 AA 93=some none/\Tryz.prog.underlying 93=some (.slice 95)/\EW AA 93=some (.sl (some 12) [])/\Tryz.prog.cellsOf 95=12/\Tryz.prog.bytesOf 95=112/\H6 AA 95=some (some 12)/\FS AA 95=true/\JI AA 95 = .struct [(0,1),(1,10),(11,1)]:=⟨kr,kr,kr,kr,kr,kr,kr,kr,kr,kr,kr,kr⟩
theorem oO:Dy AA 95 0=some (3,0)/\Dy AA 95 1=some (34,1)/\Dy AA 95 2=some (61,11)/\Tryz.prog.cellsOf 168=1/\H6 AA 168=some none/\H6 AA 169=some none/\Tryz.prog.cellsOf 170=7/\Tryz.prog.underlying 170=some (.array 7 168)/\JI AA 170 = .array 1/\EW AA 170=some (.agg [.nilf,.nilf,.nilf,.nilf,.nilf,.nilf,.nilf])/\JI AA 174 = .struct [(0,1),(1,6),(7,1),(8,10),(18,1),(19,4),(23,1)]/\Dy AA 174 0=some (27,0):=⟨kr,kr,kr,kr,kr,kr,kr,kr,kr,kr,kr,kr⟩
theorem ge:Dy AA 174 1=some (108,1)/\Dy AA 174 2=some (58,7)/\Dy AA 174 3=some (34,8)/\Dy AA 174 4=some (3,18)/\Dy AA 174 5=some (119,19)/\Dy AA 174 6=some (4,23)/\Tryz.prog.underlying 183=some (.slice 4)/\Tryz.prog.underlying 187=some (.slice 267)/\H6 AA 206=some none/\H6 AA 240=some none:=⟨kr,kr,kr,kr,kr,kr,kr,kr,kr,kr⟩
def W1:Hint:=hm [2,10,1073741826,4,18,34359738386,18,50,35184372088850,4,66,0x4000000000042,66,194,0x2000000000000042,4,4] [] [] [10,43,59]
theorem AVA:W1.lv 0=[1]/\W1.lv 1=[1,3]/\W1.lv 2=[1,30]/\W1.lv 3=[2]/\W1.lv 4=[1,4]/\W1.lv 5=[1,4,35]/\W1.lv 6=[1,4]/\W1.lv 7=[1,4,5]/\W1.lv 8=[1,4,45]/\W1.lv 9=[2]/\W1.lv 10=[1,6]/\W1.lv 11=[1,6,50]/\W1.lv 12=[1,6]/\W1.lv 13=[1,6,7]/\W1.lv 14=[1,6,61]/\W1.lv 15=[2]/\W1.lv 16=[2]/\W1.tk=[]/\W1.mt=[]/\W1.pc=[10,43,59]:=dk
def AU9:=DV W1 rfl rfl rfl
theorem AE5:FK AA 43 f43 W1:=⟨kr,kr,func43,kr⟩
def SE:Hint:=hm [6,38,102,2097254,16,294,536871206,16,17592186044454,16,550,562949953421862,550,1574,0x40000000000626,1574,3622,0x8000000000000e26,3622,0x20000000000000000626,16,16] [] [] [19,25,75]
theorem ATY:SE.lv 0=[1,2]/\SE.lv 1=[1,2,5]/\SE.lv 2=[1,2,5,6]/\SE.lv 3=[1,2,5,6,21]/\SE.lv 4=[4]/\SE.lv 5=[1,2,5,8]/\SE.lv 6=[1,2,5,8,29]/\SE.lv 7=[4]/\SE.lv 8=[1,2,5,44]/\SE.lv 9=[4]/\SE.lv 10=[1,2,5,9]/\SE.lv 11=[1,2,5,9,49]/\SE.lv 12=[1,2,5,9]/\SE.lv 13=[1,2,5,9,10]/\SE.lv 14=[1,2,5,9,10,54]/\SE.lv 15=[1,2,5,9,10]/\SE.lv 16=[1,2,5,9,10,11]/\SE.lv 17=[1,2,5,9,10,11,63]/\SE.lv 18=[1,2,5,9,10,11]/\SE.lv 19=[1,2,5,9,10,77]/\SE.lv 20=[4]/\SE.lv 21=[4]:=dk
def ATX:=DV SE rfl rfl rfl
theorem ATW:SE.tk=[]/\SE.mt=[]/\SE.pc=[19,25,75]:=⟨rfl,rfl,rfl⟩
theorem ATZ:FK AA 90 f90 SE:=⟨kr,kr,func90,kr⟩
def Tj:Hint:=hm [6,70,2118,70,2097222,48,48] [] [] []
theorem AMd:Tj.lv 0=[1,2]/\Tj.lv 1=[1,2,6]/\Tj.lv 2=[1,2,6,11]/\Tj.lv 3=[1,2,6]/\Tj.lv 4=[1,2,6,21]/\Tj.lv 5=[4,5]/\Tj.lv 6=[4,5]/\Tj.tk=[]/\Tj.mt=[]/\Tj.pc=[]:=dk
def AMc:=DV Tj rfl rfl rfl
theorem AMe:FK AA 165 f165 Tj:=⟨kr,kr,func165,kr⟩
def no:Hint:=hm [6,16] [] [] []
theorem AMa:no.lv 0=[1,2]/\no.lv 1=[4]/\no.tk=[]/\no.mt=[]/\no.pc=[]:=dk
def AMZ:=DV no rfl rfl rfl
theorem AMb:FK AA 166 f166 no:=⟨kr,kr,func166,kr⟩
def Yx:Hint:=hm [12,108,492,2147483820,16,684,1708,0x40000000000000c,16,2060,0x2000000000000080c,16,0x40000000000000000000000000000,16,16] [] [] [16,23,39,47,63]
theorem ATU:Yx.lv 0=[2,3]/\Yx.lv 1=[2,3,5,6]/\Yx.lv 2=[2,3,5,6,7,8]/\Yx.lv 3=[2,3,5,7,31]/\Yx.lv 4=[4]/\Yx.lv 5=[2,3,5,7,9]/\Yx.lv 6=[2,3,5,7,9,10]/\Yx.lv 7=[2,3,58]/\Yx.lv 8=[4]/\Yx.lv 9=[2,3,11]/\Yx.lv 10=[2,3,11,65]/\Yx.lv 11=[4]/\Yx.lv 12=[114]/\Yx.lv 13=[4]/\Yx.lv 14=[4]/\Yx.tk=[]/\Yx.mt=[]/\Yx.pc=[16,23,39,47,63]:=dk
def ATT:=DV Yx rfl rfl rfl
theorem ATV:FK AA 91 f91 Yx:=⟨kr,kr,func91,kr⟩
def Oe:Hint:=hx [6,38,100,228,1048804,228,484,134218212,484,996,0x80000000000003e4,996,484,16] [67,71] [] [(13,[(4,none,false)])] [38] [] []
theorem ATQ:Oe.lv 0=[1,2]/\Oe.lv 1=[1,2,5]/\Oe.lv 2=[2,5,6]/\Oe.lv 3=[2,5,6,7]/\Oe.lv 4=[2,5,6,7,20]/\Oe.lv 5=[2,5,6,7]/\Oe.lv 6=[2,5,6,7,8]/\Oe.lv 7=[2,5,6,7,8,27]/\Oe.lv 8=[2,5,6,7,8]/\Oe.lv 9=[2,5,6,7,8,9]/\Oe.lv 10=[2,5,6,7,8,9,63]/\Oe.lv 11=[2,5,6,7,8,9]/\Oe.lv 12=[2,5,6,7,8]/\Oe.lv 13=[4]:=dk
theorem ATS(k:Nat):Oe.ct k=none:=rfl
theorem ATN:Oe.at 0=[]/\Oe.at 1=[]/\Oe.at 2=[]/\Oe.at 3=[]/\Oe.at 4=[]/\Oe.at 5=[]/\Oe.at 6=[]/\Oe.at 7=[]/\Oe.at 8=[]/\Oe.at 9=[]/\Oe.at 10=[]/\Oe.at 11=[]/\Oe.at 12=[]/\Oe.at 13=[(4,none,false)]:=dk
theorem ATO(k:Nat):Oe.dn k=false:=AH rfl rfl
theorem ATP:Oe.tk=[67,71]/\Oe.mt=[]/\Oe.pc=[38]:=⟨rfl,rfl,rfl⟩
theorem ATR:FK AA 92 f92 Oe:=⟨kr,kr,func92,kr⟩
def Oy:Hint:=hm [2,18,8210,12,18,524306,12,1073741826,12,34,34359738402,34,50,4398046511154,12,66,562949953421378,66,82,0x1000000000000052,12,130,0x80000000000000082,130,386,0x10000000000000000082,12,12] [73] [] [11,17,40,58,72]
theorem AU7:Oy.lv 0=[1]/\Oy.lv 1=[1,4]/\Oy.lv 2=[1,4,13]/\Oy.lv 3=[2,3]/\Oy.lv 4=[1,4]/\Oy.lv 5=[1,4,19]/\Oy.lv 6=[2,3]/\Oy.lv 7=[1,30]/\Oy.lv 8=[2,3]/\Oy.lv 9=[1,5]/\Oy.lv 10=[1,5,35]/\Oy.lv 11=[1,5]/\Oy.lv 12=[1,4,5]/\Oy.lv 13=[1,4,5,42]/\Oy.lv 14=[2,3]/\Oy.lv 15=[1,6]/\Oy.lv 16=[1,6,49]/\Oy.lv 17=[1,6]/\Oy.lv 18=[1,4,6]/\Oy.lv 19=[1,4,6,60]/\Oy.lv 20=[2,3]/\Oy.lv 21=[1,7]/\Oy.lv 22=[1,7,67]/\Oy.lv 23=[1,7]/\Oy.lv 24=[1,7,8]/\Oy.lv 25=[1,7,76]/\Oy.lv 26=[2,3]/\Oy.lv 27=[2,3]:=dk
def AU6:=DV Oy rfl rfl rfl
theorem AU5:Oy.tk=[73]/\Oy.mt=[]/\Oy.pc=[11,17,40,58,72]:=⟨rfl,rfl,rfl⟩
theorem AU8:FK AA 44 f44 Oy:=⟨kr,kr,func44,kr⟩
def kb:Hint:=hm [2,10,514,4,32,4] [] [] [7,12]
theorem AV3:kb.lv 0=[1]/\kb.lv 1=[1,3]/\kb.lv 2=[1,9]/\kb.lv 3=[2]/\kb.lv 4=[5]/\kb.lv 5=[2]/\kb.tk=[]/\kb.mt=[]/\kb.pc=[7,12]:=dk
def AV2:=DV kb rfl rfl rfl
theorem AV4:FK AA 15 f15 kb:=⟨kr,kr,func15,kr⟩
def Ti:Hint:=hm [3,35,547,35,262179,16,16] [] [] []
theorem AMC:Ti.lv 0=[0,1]/\Ti.lv 1=[0,1,5]/\Ti.lv 2=[0,1,5,9]/\Ti.lv 3=[0,1,5]/\Ti.lv 4=[0,1,5,18]/\Ti.lv 5=[4]/\Ti.lv 6=[4]/\Ti.tk=[]/\Ti.mt=[]/\Ti.pc=[]:=dk
def AMB:=DV Ti rfl rfl rfl
theorem AMD:FK AA 172 f172 Ti:=⟨kr,kr,func172,kr⟩
def Te:Hint:=hm [1,9,25,153,25,25,4] [] [] []
theorem AJj:Te.lv 0=[0]/\Te.lv 1=[0,3]/\Te.lv 2=[0,3,4]/\Te.lv 3=[0,3,4,7]/\Te.lv 4=[0,3,4]/\Te.lv 5=[0,3,4]/\Te.lv 6=[2]/\Te.tk=[]/\Te.mt=[]/\Te.pc=[]:=dk
def AJi:=DV Te rfl rfl rfl
theorem AJk:FK AA 232 f232 Te:=⟨kr,kr,func232,kr⟩
def J2:Hint:=hm [28,34359738396,64,156,1099511627932,156,0x400000000000009c,64,0x1000000000000001c,0x3000000000000001c,64,0x41000000000000001c,284,0x800000000000000011c,284,0x80000000000000000000011c,64,64,0x1000000000000000000000000018,64,64] [] [] [60]
theorem AL9:J2.lv 0=[2,3,4]/\J2.lv 1=[2,3,4,35]/\J2.lv 2=[6]/\J2.lv 3=[2,3,4,7]/\J2.lv 4=[2,3,4,7,40]/\J2.lv 5=[2,3,4,7]/\J2.lv 6=[2,3,4,7,62]/\J2.lv 7=[6]/\J2.lv 8=[2,3,4,64]/\J2.lv 9=[2,3,4,64,65]/\J2.lv 10=[6]/\J2.lv 11=[2,3,4,64,70]/\J2.lv 12=[2,3,4,8]/\J2.lv 13=[2,3,4,8,75]/\J2.lv 14=[2,3,4,8]/\J2.lv 15=[2,3,4,8,95]/\J2.lv 16=[6]/\J2.lv 17=[6]/\J2.lv 18=[3,4,108]/\J2.lv 19=[6]/\J2.lv 20=[6]:=dk
def AL8:=DV J2 rfl rfl rfl
theorem AL7:J2.tk=[]/\J2.mt=[]/\J2.pc=[60]:=⟨rfl,rfl,rfl⟩
theorem AMA:FK AA 173 f173 J2:=⟨kr,kr,func173,kr⟩
def cW:Hint:=hm [3,35,32803,35,67108899,16,34359738403,16,1099511627779,16,35184372088832,16,16] [41,43] [] []
theorem AUk:cW.lv 0=[0,1]/\cW.lv 1=[0,1,5]/\cW.lv 2=[0,1,5,15]/\cW.lv 3=[0,1,5]/\cW.lv 4=[0,1,5,26]/\cW.lv 5=[4]/\cW.lv 6=[0,1,5,35]/\cW.lv 7=[4]/\cW.lv 8=[0,1,40]/\cW.lv 9=[4]/\cW.lv 10=[45]/\cW.lv 11=[4]/\cW.lv 12=[4]/\cW.tk=[41,43]/\cW.mt=[]/\cW.pc=[]:=dk
def AUj:=DV cW rfl rfl rfl
theorem AUl:FK AA 61 f61 cW:=⟨kr,kr,func61,kr⟩
def Vp:Hint:=hm [12,524,16,16396,16,16] [] [] [19]
theorem AL5:Vp.lv 0=[2,3]/\Vp.lv 1=[2,3,9]/\Vp.lv 2=[4]/\Vp.lv 3=[2,3,14]/\Vp.lv 4=[4]/\Vp.lv 5=[4]/\Vp.tk=[]/\Vp.mt=[]/\Vp.pc=[19]:=dk
def AL4:=DV Vp rfl rfl rfl
theorem AL6:FK AA 174 f174 Vp:=⟨kr,kr,func174,kr⟩
def SK:Hint:=hm [3,35,99,1123,99,524387,99,16] [] [] []
theorem AL2:SK.lv 0=[0,1]/\SK.lv 1=[0,1,5]/\SK.lv 2=[0,1,5,6]/\SK.lv 3=[0,1,5,6,10]/\SK.lv 4=[0,1,5,6]/\SK.lv 5=[0,1,5,6,19]/\SK.lv 6=[0,1,5,6]/\SK.lv 7=[4]/\SK.tk=[]/\SK.mt=[]/\SK.pc=[]:=dk
def AL1:=DV SK rfl rfl rfl
theorem AL3:FK AA 175 f175 SK:=⟨kr,kr,func175,kr⟩
def Mm:Hint:=hm [3,35,99,227,2275,227,8388835,163,227,8589934819,227,4398046511138,32,16] [24,34,43,47] [] []
theorem ALz:Mm.lv 0=[0,1]/\Mm.lv 1=[0,1,5]/\Mm.lv 2=[0,1,5,6]/\Mm.lv 3=[0,1,5,6,7]/\Mm.lv 4=[0,1,5,6,7,11]/\Mm.lv 5=[0,1,5,6,7]/\Mm.lv 6=[0,1,5,6,7,23]/\Mm.lv 7=[0,1,5,7]/\Mm.lv 8=[0,1,5,6,7]/\Mm.lv 9=[0,1,5,6,7,33]/\Mm.lv 10=[0,1,5,6,7]/\Mm.lv 11=[1,5,42]/\Mm.lv 12=[5]/\Mm.lv 13=[4]/\Mm.tk=[24,34,43,47]/\Mm.mt=[]/\Mm.pc=[]:=dk
def ALy:=DV Mm rfl rfl rfl
theorem AL0:FK AA 176 f176 Mm:=⟨kr,kr,func176,kr⟩
def h17:Hint:=hm [2,10,4] [] [] [6]
theorem AV0:h17.lv 0=[1]/\h17.lv 1=[1,3]/\h17.lv 2=[2]/\h17.tk=[]/\h17.mt=[]/\h17.pc=[6]:=dk
def AVz:=DV h17 rfl rfl rfl
theorem AV1:FK AA 17 f17 h17:=⟨kr,kr,func17,kr⟩
def aQ:Hint:=hm [1,17,4,4] [6] [5,7] []
theorem AJG:aQ.lv 0=[0]/\aQ.lv 1=[0,4]/\aQ.lv 2=[2]/\aQ.lv 3=[2]/\aQ.tk=[6]/\aQ.mt=[5,7]/\aQ.pc=[]:=dk
def AJF:=DV aQ rfl rfl rfl
theorem AJH:FK AA 265 f265 aQ:=⟨kr,kr,func265,kr⟩
def SM:Hint:=hm [3,387,899,419,65955,16,387,16] [] [] []
theorem ANZ:SM.lv 0=[0,1]/\SM.lv 1=[0,1,7,8]/\SM.lv 2=[0,1,7,8,9]/\SM.lv 3=[0,1,5,7,8]/\SM.lv 4=[0,1,5,7,8,16]/\SM.lv 5=[4]/\SM.lv 6=[0,1,7,8]/\SM.lv 7=[4]/\SM.tk=[]/\SM.mt=[]/\SM.pc=[]:=dk
def ANY:=DV SM rfl rfl rfl
theorem nw:FK AA 146 f146 SM:=⟨kr,kr,func146,kr⟩
def NJ:Hint:=hm [3,35,4131,16,99,524387,99,227,536871139,99,99,33,16] [13,39] [] []
theorem AJB:NJ.lv 0=[0,1]/\NJ.lv 1=[0,1,5]/\NJ.lv 2=[0,1,5,12]/\NJ.lv 3=[4]/\NJ.lv 4=[0,1,5,6]/\NJ.lv 5=[0,1,5,6,19]/\NJ.lv 6=[0,1,5,6]/\NJ.lv 7=[0,1,5,6,7]/\NJ.lv 8=[0,1,5,6,7,29]/\NJ.lv 9=[0,1,5,6]/\NJ.lv 10=[0,1,5,6]/\NJ.lv 11=[0,5]/\NJ.lv 12=[4]/\NJ.tk=[13,39]/\NJ.mt=[]/\NJ.pc=[]:=dk
def AJA:=DV NJ rfl rfl rfl
theorem zX:FK AA 267 f267 NJ:=⟨kr,kr,func267,kr⟩
def nL:Hint:=hm [6,8] [] [] []
theorem AI8:nL.lv 0=[1,2]/\nL.lv 1=[3]/\nL.tk=[]/\nL.mt=[]/\nL.pc=[]:=dk
def AI7:=DV nL rfl rfl rfl
theorem AI9:FK AA 268 f268 nL:=⟨kr,kr,func268,kr⟩
def nX:Hint:=hm [9,16] [5] [] []
theorem AKm:nX.lv 0=[0,3]/\nX.lv 1=[4]/\nX.tk=[5]/\nX.mt=[]/\nX.pc=[]:=dk
def AKl:=DV nX rfl rfl rfl
theorem AKn:FK AA 210 f210 nX:=⟨kr,kr,func210,kr⟩
def nW:Hint:=hm [6,8] [] [] []
theorem AKj:nW.lv 0=[1,2]/\nW.lv 1=[3]/\nW.tk=[]/\nW.mt=[]/\nW.pc=[]:=dk
def AKi:=DV nW rfl rfl rfl
theorem AKk:FK AA 211 f211 nW:=⟨kr,kr,func211,kr⟩
def ny:Hint:=hm [9,16] [5] [] []
theorem ANb:ny.lv 0=[0,3]/\ny.lv 1=[4]/\ny.tk=[5]/\ny.mt=[]/\ny.pc=[]:=dk
def ANa:=DV ny rfl rfl rfl
theorem ANc:FK AA 145 f145 ny:=⟨kr,kr,func145,kr⟩
def rO:Hint:=hm [1,9,456,968,488,16872,4,456,4] [6] [] []
theorem ATy:rO.lv 0=[0]/\rO.lv 1=[0,3]/\rO.lv 2=[3,6,7,8]/\rO.lv 3=[3,6,7,8,9]/\rO.lv 4=[3,5,6,7,8]/\rO.lv 5=[3,5,6,7,8,14]/\rO.lv 6=[2]/\rO.lv 7=[3,6,7,8]/\rO.lv 8=[2]/\rO.tk=[6]/\rO.mt=[]/\rO.pc=[]:=dk
def ATx:=DV rO rfl rfl rfl
theorem ATz:FK AA 82 f82 rO:=⟨kr,kr,func82,kr⟩
def aL:Hint:=hm [3,35,99,2115,4096,16,16,8195,16,65539,16,524288,16,16] [] [] [8,10]
theorem ATv:aL.lv 0=[0,1]/\aL.lv 1=[0,1,5]/\aL.lv 2=[0,1,5,6]/\aL.lv 3=[0,1,6,11]/\aL.lv 4=[12]/\aL.lv 5=[4]/\aL.lv 6=[4]/\aL.lv 7=[0,1,13]/\aL.lv 8=[4]/\aL.lv 9=[0,1,16]/\aL.lv 10=[4]/\aL.lv 11=[19]/\aL.lv 12=[4]/\aL.lv 13=[4]/\aL.tk=[]/\aL.mt=[]/\aL.pc=[8,10]:=dk
def ATu:=DV aL rfl rfl rfl
theorem ATw:FK AA 83 f83 aL:=⟨kr,kr,func83,kr⟩
def h42:Hint:=hm [12,16] [] [] [9,14,16]
theorem AVC:h42.lv 0=[2,3]/\h42.lv 1=[4]/\h42.tk=[]/\h42.mt=[]/\h42.pc=[9,14,16]:=dk
def AVB:=DV h42 rfl rfl rfl
theorem AVD:FK AA 42 f42 h42:=⟨kr,kr,func42,kr⟩
def Qv:Hint:=hm [21,277,1813,132885,3861,2147487509,1813,1813,192] [41] [] [30,46]
theorem AKg:Qv.lv 0=[0,2,4]/\Qv.lv 1=[0,2,4,8]/\Qv.lv 2=[0,2,4,8,9,10]/\Qv.lv 3=[0,2,4,8,9,10,17]/\Qv.lv 4=[0,2,4,8,9,10,11]/\Qv.lv 5=[0,2,4,8,9,10,11,31]/\Qv.lv 6=[0,2,4,8,9,10]/\Qv.lv 7=[0,2,4,8,9,10]/\Qv.lv 8=[6,7]/\Qv.tk=[41]/\Qv.mt=[]/\Qv.pc=[30,46]:=dk
def AKf:=DV Qv rfl rfl rfl
theorem AKh:FK AA 212 f212 Qv:=⟨kr,kr,func212,kr⟩
def nu:Hint:=hm [21,192] [8] [] [11]
theorem ANT:nu.lv 0=[0,2,4]/\nu.lv 1=[6,7]/\nu.tk=[8]/\nu.mt=[]/\nu.pc=[11]:=dk
def ANS:=DV nu rfl rfl rfl
theorem ANU:FK AA 148 f148 nu:=⟨kr,kr,func148,kr⟩
def I0:Hint:=hm [7,7,135,65671,64,391,4194695,64,2147484039,647,643,512,64,391,0x100000000000000187,7,1,64,131,1,64] [17,23,24,44,51,55,56,81,83,87,94] [25,40,67] [67,93]
theorem AJE:I0.lv 0=[0,1,2]/\I0.lv 1=[0,1,2]/\I0.lv 2=[0,1,2,7]/\I0.lv 3=[0,1,2,7,16]/\I0.lv 4=[6]/\I0.lv 5=[0,1,2,7,8]/\I0.lv 6=[0,1,2,7,8,22]/\I0.lv 7=[6]/\I0.lv 8=[0,1,2,7,8,31]/\I0.lv 9=[0,1,2,7,9]/\I0.lv 10=[0,1,7,9]/\I0.lv 11=[9]/\I0.lv 12=[6]/\I0.lv 13=[0,1,2,7,8]/\I0.lv 14=[0,1,2,7,8,68]/\I0.lv 15=[0,1,2]/\I0.lv 16=[0]/\I0.lv 17=[6]/\I0.lv 18=[0,1,7]/\I0.lv 19=[0]/\I0.lv 20=[6]:=dk
def AJD:=DV I0 rfl rfl rfl
theorem AJC:I0.tk=[17,23,24,44,51,55,56,81,83,87,94]/\I0.mt=[25,40,67]/\I0.pc=[67,93]:=⟨rfl,rfl,rfl⟩
theorem zY:FK AA 266 f266 I0:=⟨kr,kr,func266,kr⟩
def Th:Hint:=hm [9,105,232,65704,128,16,16] [14,21,22] [25] [11]
theorem AKp:Th.lv 0=[0,3]/\Th.lv 1=[0,3,5,6]/\Th.lv 2=[3,5,6,7]/\Th.lv 3=[3,5,7,16]/\Th.lv 4=[7]/\Th.lv 5=[4]/\Th.lv 6=[4]/\Th.tk=[14,21,22]/\Th.mt=[25]/\Th.pc=[11]:=dk
def AKo:=DV Th rfl rfl rfl
theorem AKq:FK AA 209 f209 Th:=⟨kr,kr,func209,kr⟩
def Xa:Hint:=hm [1,2097153,4,1,4] [] [] [18,31]
theorem ANh:Xa.lv 0=[0]/\Xa.lv 1=[0,21]/\Xa.lv 2=[2]/\Xa.lv 3=[0]/\Xa.lv 4=[2]/\Xa.tk=[]/\Xa.mt=[]/\Xa.pc=[18,31]:=dk
def ANg:=DV Xa rfl rfl rfl
theorem ANi:FK AA 143 f143 Xa:=⟨kr,kr,func143,kr⟩
def gQ:Hint:=hm [197,131141,1] [] [] [14,26,28]
theorem ANe:gQ.lv 0=[0,2,6,7]/\gQ.lv 1=[0,2,6,17]/\gQ.lv 2=[0]/\gQ.tk=[]/\gQ.mt=[]/\gQ.pc=[14,26,28]:=dk
def ANd:=DV gQ rfl rfl rfl
theorem ANf:FK AA 144 f144 gQ:=⟨kr,kr,func144,kr⟩
def h75:Hint:=hm [1,4] [] [] []
theorem AUA:h75.lv 0=[0]/\h75.lv 1=[2]/\h75.tk=[]/\h75.mt=[]/\h75.pc=[]:=dk
def AT9:=DV h75 rfl rfl rfl
theorem AUB:FK AA 75 f75 h75:=⟨kr,kr,func75,kr⟩
def nv:Hint:=hm [14,16] [] [] []
theorem ANW:nv.lv 0=[1,2,3]/\nv.lv 1=[4]/\nv.tk=[]/\nv.mt=[]/\nv.pc=[]:=dk
def ANV:=DV nv rfl rfl rfl
theorem ANX:FK AA 147 f147 nv:=⟨kr,kr,func147,kr⟩
def ka:Hint:=hm [35,291,57633,123169,58657,63777,67168545,192,57633,57633,192] [13,27,34] [] [22,30]
theorem AT7:ka.lv 0=[0,1,5]/\ka.lv 1=[0,1,5,8]/\ka.lv 2=[0,5,8,13,14,15]/\ka.lv 3=[0,5,8,13,14,15,16]/\ka.lv 4=[0,5,8,10,13,14,15]/\ka.lv 5=[0,5,8,11,12,13,14,15]/\ka.lv 6=[0,5,8,11,13,14,15,26]/\ka.lv 7=[6,7]/\ka.lv 8=[0,5,8,13,14,15]/\ka.lv 9=[0,5,8,13,14,15]/\ka.lv 10=[6,7]/\ka.tk=[13,27,34]/\ka.mt=[]/\ka.pc=[22,30]:=dk
def AT6:=DV ka rfl rfl rfl
theorem AT8:FK AA 79 f79 ka:=⟨kr,kr,func79,kr⟩
def h80:Hint:=hm [71,833,524609,192,192] [13,21] [] [15]
theorem AT4:h80.lv 0=[0,1,2,6]/\h80.lv 1=[0,6,8,9]/\h80.lv 2=[0,6,8,19]/\h80.lv 3=[6,7]/\h80.lv 4=[6,7]/\h80.tk=[13,21]/\h80.mt=[]/\h80.pc=[15]:=dk
def AT3:=DV h80 rfl rfl rfl
theorem AT5:FK AA 80 f80 h80:=⟨kr,kr,func80,kr⟩
def QI:Hint:=hx [1365,525653,7168,9557,25941,91460,91456,72057594038019392,75072,0x400000000000010500,7168,7168] [21,31,41,60] [] [] [28,45] [] [10,11]
theorem AVS:QI.lv 0=[0,2,4,6,8,10]/\QI.lv 1=[0,2,4,6,8,10,19]/\QI.lv 2=[10,11,12]/\QI.lv 3=[0,2,4,6,8,10,13]/\QI.lv 4=[0,2,4,6,8,10,13,14]/\QI.lv 5=[2,6,8,10,13,14,16]/\QI.lv 6=[6,8,10,13,14,16]/\QI.lv 7=[6,8,10,13,14,16,56]/\QI.lv 8=[6,8,10,13,16]/\QI.lv 9=[8,10,16,70]/\QI.lv 10=[10,11,12]/\QI.lv 11=[10,11,12]:=dk
theorem AVU(k:Nat):QI.ct k=none:=rfl
theorem AVP(k:Nat):QI.at k=[]:=rfl
theorem AVQ:QI.dn 0=false/\QI.dn 1=false/\QI.dn 2=false/\QI.dn 3=false/\QI.dn 4=false/\QI.dn 5=false/\QI.dn 6=false/\QI.dn 7=false/\QI.dn 8=false/\QI.dn 9=false/\QI.dn 10=true/\QI.dn 11=true:=dk
theorem AVR:QI.tk=[21,31,41,60]/\QI.mt=[]/\QI.pc=[28,45]:=⟨rfl,rfl,rfl⟩
theorem AVT:FK AA 38 f38 QI:=⟨kr,kr,func38,kr⟩
def O0:Hint:=hm [279,24599,1879072789,4026556437,1879138325,1879269397,122138345493,259577298965,122138869781,122141491221,122140442645,0x400001c70034015,7168,122138345493,1879269397,0xe000000070016015,0x1e000000070016015,0xe000000070816015,0xe000000070816015,0xe000000071816015,0x4000e000000070816015,0xe000000070016015,0xe000000070016015,1879072789,7168] [28,34,49,50,59,61,71,79,85,86] [] [46,74]
theorem AWG:O0.lv 0=[0,1,2,4,8]/\O0.lv 1=[0,1,2,4,13,14]/\O0.lv 2=[0,2,4,13,14,28,29,30]/\O0.lv 3=[0,2,4,13,14,28,29,30,31]/\O0.lv 4=[0,2,4,13,14,16,28,29,30]/\O0.lv 5=[0,2,4,13,14,16,17,28,29,30]/\O0.lv 6=[0,2,4,14,16,17,28,29,30,34,35,36]/\O0.lv 7=[0,2,4,14,16,17,28,29,30,34,35,36,37]/\O0.lv 8=[0,2,4,14,16,17,19,28,29,30,34,35,36]/\O0.lv 9=[0,2,4,14,16,17,20,21,28,29,30,34,35,36]/\O0.lv 10=[0,2,4,14,16,17,21,28,29,30,34,35,36]/\O0.lv 11=[0,2,4,14,16,17,28,29,30,34,35,36,58]/\O0.lv 12=[10,11,12]/\O0.lv 13=[0,2,4,14,16,17,28,29,30,34,35,36]/\O0.lv 14=[0,2,4,13,14,16,17,28,29,30]/\O0.lv 15=[0,2,4,13,14,16,28,29,30,61,62,63]/\O0.lv 16=[0,2,4,13,14,16,28,29,30,61,62,63,64]/\O0.lv 17=[0,2,4,13,14,16,23,28,29,30,61,62,63]/\O0.lv 18=[0,2,4,13,14,16,23,28,29,30,61,62,63]/\O0.lv 19=[0,2,4,13,14,16,23,24,28,29,30,61,62,63]/\O0.lv 20=[0,2,4,13,14,16,23,28,29,30,61,62,63,78]/\O0.lv 21=[0,2,4,13,14,16,28,29,30,61,62,63]/\O0.lv 22=[0,2,4,13,14,16,28,29,30,61,62,63]/\O0.lv 23=[0,2,4,13,14,28,29,30]/\O0.lv 24=[10,11,12]:=dk
def AWF:=DV O0 rfl rfl rfl
theorem AWE:O0.tk=[28,34,49,50,59,61,71,79,85,86]/\O0.mt=[]/\O0.pc=[46,74]:=⟨rfl,rfl,rfl⟩
theorem AWH:FK AA 11 f11 O0:=⟨kr,kr,func11,kr⟩
def h28:Hint:=hm [6,1] [3] [] []
theorem AVu:h28.lv 0=[1,2]/\h28.lv 1=[0]/\h28.tk=[3]/\h28.mt=[]/\h28.pc=[]:=dk
def AVt:=DV h28 rfl rfl rfl
theorem AVv:FK AA 28 f28 h28:=⟨kr,kr,func28,kr⟩
def uY:Hint:=hm [3,387,899,419,65955,16,387,16] [] [] []
theorem AU0:uY.lv 0=[0,1]/\uY.lv 1=[0,1,7,8]/\uY.lv 2=[0,1,7,8,9]/\uY.lv 3=[0,1,5,7,8]/\uY.lv 4=[0,1,5,7,8,16]/\uY.lv 5=[4]/\uY.lv 6=[0,1,7,8]/\uY.lv 7=[4]/\uY.tk=[]/\uY.mt=[]/\uY.pc=[]:=dk
def AUz:=DV uY rfl rfl rfl
theorem AU1:FK AA 56 f56 uY:=⟨kr,kr,func56,kr⟩
def zR:Hint:=hx [105,256] [9] [11,17] [] [17] [] [2006,2007]
theorem AUt:zR.lv 0=[0,3,5,6]/\zR.lv 1=[8]/\zR.dn 0=false/\zR.dn 1=true/\zR.tk=[9]/\zR.mt=[11,17]/\zR.pc=[17]:=dk
theorem AUv(k:Nat):zR.ct k=none:=rfl
theorem AUs(k:Nat):zR.at k=[]:=rfl
theorem AUu:FK AA 58 f58 zR:=⟨kr,kr,func58,kr⟩
def h57:Hint:=hm [62,64] [] [] [30]
theorem AUx:h57.lv 0=[1,2,3,4,5]/\h57.lv 1=[6]/\h57.tk=[]/\h57.mt=[]/\h57.pc=[30]:=dk
def AUw:=DV h57 rfl rfl rfl
theorem AUy:FK AA 57 f57 h57:=⟨kr,kr,func57,kr⟩
def h30:Hint:=hm [240,256] [] [] []
theorem AVr:h30.lv 0=[4,5,6,7]/\h30.lv 1=[8]/\h30.tk=[]/\h30.mt=[]/\h30.pc=[]:=dk
def AVq:=DV h30 rfl rfl rfl
theorem AVs:FK AA 30 f30 h30:=⟨kr,kr,func30,kr⟩
def h31:Hint:=hm [1,17,4,4] [6] [] []
theorem AVo:h31.lv 0=[0]/\h31.lv 1=[0,4]/\h31.lv 2=[2]/\h31.lv 3=[2]/\h31.tk=[6]/\h31.mt=[]/\h31.pc=[]:=dk
def AVn:=DV h31 rfl rfl rfl
theorem AVp:FK AA 31 f31 h31:=⟨kr,kr,func31,kr⟩
def uX:Hint:=hm [3,387,899,419,65955,16,387,16] [] [] []
theorem AUq:uX.lv 0=[0,1]/\uX.lv 1=[0,1,7,8]/\uX.lv 2=[0,1,7,8,9]/\uX.lv 3=[0,1,5,7,8]/\uX.lv 4=[0,1,5,7,8,16]/\uX.lv 5=[4]/\uX.lv 6=[0,1,7,8]/\uX.lv 7=[4]/\uX.tk=[]/\uX.mt=[]/\uX.pc=[]:=dk
def AUp:=DV uX rfl rfl rfl
theorem AUr:FK AA 59 f59 uX:=⟨kr,kr,func59,kr⟩
def h60:Hint:=hm [6,8] [] [] []
theorem AUn:h60.lv 0=[1,2]/\h60.lv 1=[3]/\h60.tk=[]/\h60.mt=[]/\h60.pc=[]:=dk
def AUm:=DV h60 rfl rfl rfl
theorem AUo:FK AA 60 f60 h60:=⟨kr,kr,func60,kr⟩
def h32:Hint:=hm [12,64,48] [] [] []
theorem AVl:h32.lv 0=[2,3]/\h32.lv 1=[6]/\h32.lv 2=[4,5]/\h32.tk=[]/\h32.mt=[]/\h32.pc=[]:=dk
def AVk:=DV h32 rfl rfl rfl
theorem AVm:FK AA 32 f32 h32:=⟨kr,kr,func32,kr⟩
def rQ:Hint:=hm [3,1027,16,35,16419,35,33554467,16,16] [] [] []
theorem AVx:rQ.lv 0=[0,1]/\rQ.lv 1=[0,1,10]/\rQ.lv 2=[4]/\rQ.lv 3=[0,1,5]/\rQ.lv 4=[0,1,5,14]/\rQ.lv 5=[0,1,5]/\rQ.lv 6=[0,1,5,25]/\rQ.lv 7=[4]/\rQ.lv 8=[4]/\rQ.tk=[]/\rQ.mt=[]/\rQ.pc=[]:=dk
def AVw:=DV rQ rfl rfl rfl
theorem AVy:FK AA 26 f26 rQ:=⟨kr,kr,func26,kr⟩
def JA:Hint:=hm [3,2051,16,35,32803,35,99,72057594037927971,16,16] [] [] [28]
theorem AV9:JA.lv 0=[0,1]/\JA.lv 1=[0,1,11]/\JA.lv 2=[4]/\JA.lv 3=[0,1,5]/\JA.lv 4=[0,1,5,15]/\JA.lv 5=[0,1,5]/\JA.lv 6=[0,1,5,6]/\JA.lv 7=[0,1,5,56]/\JA.lv 8=[4]/\JA.lv 9=[4]/\JA.tk=[]/\JA.mt=[]/\JA.pc=[28]:=dk
def AV8:=DV JA rfl rfl rfl
theorem AWA:FK AA 13 f13 JA:=⟨kr,kr,func13,kr⟩
def h5:Hint:=hx [1,2,6,6,30,122,506,4090,24570,122874,516090,2088954,0x800000000000000000000000000a9202,1,2789890,6984194,15372802,1] [124,137,138,141,142,146,152,157] [31] [(1,[(1,some 5,true)]),(3,[(2,some 5,true)])] [51,60] [] []
theorem AbB:h5.lv 0=[0]/\h5.lv 1=[1]/\h5.lv 2=[1,2]/\h5.lv 3=[1,2]/\h5.lv 4=[1,2,3,4]/\h5.lv 5=[1,3,4,5,6]/\h5.lv 6=[1,3,4,5,6,7,8]/\h5.lv 7=[1,3,4,5,6,7,8,9,10,11]/\h5.lv 8=[1,3,4,5,6,7,8,9,10,11,12,14]/\h5.lv 9=[1,3,4,5,6,7,8,9,10,11,12,14,15,16]/\h5.lv 10=[1,3,4,5,6,7,8,9,10,11,12,14,15,16,17,18]/\h5.lv 11=[1,3,4,5,6,7,8,9,10,11,12,14,15,16,17,18,19,20]/\h5.lv 12=[1,9,12,15,17,19,127]/\h5.lv 13=[0]/\h5.lv 14=[1,9,12,15,17,19,21]/\h5.lv 15=[1,9,12,15,17,19,21,22]/\h5.lv 16=[1,9,12,15,17,19,21,22,23]/\h5.lv 17=[0]:=dk
theorem AbD(k:Nat):h5.ct k=none:=rfl
theorem Aa8:h5.at 0=[]/\h5.at 1=[(1,some 5,true)]/\h5.at 2=[]/\h5.at 3=[(2,some 5,true)]/\h5.at 4=[]/\h5.at 5=[]/\h5.at 6=[]/\h5.at 7=[]/\h5.at 8=[]/\h5.at 9=[]/\h5.at 10=[]/\h5.at 11=[]/\h5.at 12=[]/\h5.at 13=[]/\h5.at 14=[]/\h5.at 15=[]/\h5.at 16=[]/\h5.at 17=[]:=dk
theorem Aa9(k:Nat):h5.dn k=false:=AH rfl rfl
theorem AbA:h5.tk=[124,137,138,141,142,146,152,157]/\h5.mt=[31]/\h5.pc=[51,60]:=⟨rfl,rfl,rfl⟩
theorem AbC:FK AA 5 f5 h5:=⟨kr,kr,func5,kr⟩
def h7:Hint:=hm [12,7176,15368,7272,7464,8395816,16,7176,16] [] [] [20]
theorem Aa6:h7.lv 0=[2,3]/\h7.lv 1=[3,10,11,12]/\h7.lv 2=[3,10,11,12,13]/\h7.lv 3=[3,5,6,10,11,12]/\h7.lv 4=[3,5,8,10,11,12]/\h7.lv 5=[3,5,10,11,12,23]/\h7.lv 6=[4]/\h7.lv 7=[3,10,11,12]/\h7.lv 8=[4]/\h7.tk=[]/\h7.mt=[]/\h7.pc=[20]:=dk
def Aa5:=DV h7 rfl rfl rfl
theorem Aa7:FK AA 7 f7 h7:=⟨kr,kr,func7,kr⟩
def rP:Hint:=hm [3,1027,16,35,16419,35,0x80000000000000023,16,16] [] [] [65]
theorem AVi:rP.lv 0=[0,1]/\rP.lv 1=[0,1,10]/\rP.lv 2=[4]/\rP.lv 3=[0,1,5]/\rP.lv 4=[0,1,5,14]/\rP.lv 5=[0,1,5]/\rP.lv 6=[0,1,5,67]/\rP.lv 7=[4]/\rP.lv 8=[4]/\rP.tk=[]/\rP.mt=[]/\rP.pc=[65]:=dk
def AVh:=DV rP rfl rfl rfl
theorem AVj:FK AA 33 f33 rP:=⟨kr,kr,func33,kr⟩
def h8:Hint:=hm [3,2051,16,35,32803,35,99,268435491,16,16] [] [] [26]
theorem Aa3:h8.lv 0=[0,1]/\h8.lv 1=[0,1,11]/\h8.lv 2=[4]/\h8.lv 3=[0,1,5]/\h8.lv 4=[0,1,5,15]/\h8.lv 5=[0,1,5]/\h8.lv 6=[0,1,5,6]/\h8.lv 7=[0,1,5,28]/\h8.lv 8=[4]/\h8.lv 9=[4]/\h8.tk=[]/\h8.mt=[]/\h8.pc=[26]:=dk
def Aa2:=DV h8 rfl rfl rfl
theorem Aa4:FK AA 8 f8 h8:=⟨kr,kr,func8,kr⟩
def Rc:Hint:=hx [7,16391,64,229382,491526,229766,230150,1073971206,64,229382,64] [15] [] [] [] [(9,0)] []
theorem AVK:Rc.lv 0=[0,1,2]/\Rc.lv 1=[0,1,2,14]/\Rc.lv 2=[6]/\Rc.lv 3=[1,2,15,16,17]/\Rc.lv 4=[1,2,15,16,17,18]/\Rc.lv 5=[1,2,7,8,15,16,17]/\Rc.lv 6=[1,2,8,9,15,16,17]/\Rc.lv 7=[1,2,15,16,17,30]/\Rc.lv 8=[6]/\Rc.lv 9=[1,2,15,16,17]/\Rc.lv 10=[6]:=dk
theorem AVM:Rc.ct 0=none/\Rc.ct 1=none/\Rc.ct 2=none/\Rc.ct 3=none/\Rc.ct 4=none/\Rc.ct 5=none/\Rc.ct 6=none/\Rc.ct 7=none/\Rc.ct 8=none/\Rc.ct 9=some 0/\Rc.ct 10=none:=dk
theorem AVH(k:Nat):Rc.at k=[]:=rfl
theorem AVI(k:Nat):Rc.dn k=false:=AH rfl rfl
theorem AVJ:Rc.tk=[15]/\Rc.mt=[]/\Rc.pc=[]:=⟨rfl,rfl,rfl⟩
theorem AVL:FK AA 40 f40 Rc:=⟨kr,kr,func40,kr⟩
def h41:Hint:=hm [12,16] [] [] [7]
theorem AVF:h41.lv 0=[2,3]/\h41.lv 1=[4]/\h41.tk=[]/\h41.mt=[]/\h41.pc=[7]:=dk
def AVE:=DV h41 rfl rfl rfl
theorem AVG:FK AA 41 f41 h41:=⟨kr,kr,func41,kr⟩
def Mo:Hint:=hm [3,16] [5,6] [] [7]
theorem AV6:Mo.lv 0=[0,1]/\Mo.lv 1=[4]/\Mo.tk=[5,6]/\Mo.mt=[]/\Mo.pc=[7]:=dk
def AV5:=DV Mo rfl rfl rfl
theorem AV7:FK AA 14 f14 Mo:=⟨kr,kr,func14,kr⟩
attribute [go_sem] AAZ ACL ASZ vD vC ASX ASW ASV oQ oP sI AGR AAz gh gf gd gY AKT AKS ANB ANA AI6 AI5 AKa AKZ ANL ANK ANJ ANI AKY AKX ANG ANF ATl ATk AKW AKV AND ANC ATo ATn AMz AMy AIx AIw AI3 AI2 AKQ AKP AKO AHm AHl AIs AIr AHS AHR AG8 AG7 AG5 AG4 AGv AGu AGy AGx AG2 AG1 AHB AHA AHj AHi AHU AHT AIP AIO AIN AIT AIS AIR AJ5 AJ4 AHQ AHP AIF AIE AID AJw AJv AMU AMT AJr AJq AIL AIK AIB AIA AJo AJn AII AIH AJz AJy AJt AJs AMQ AMS AMN AMO AMP AMK AMM AMH AMI AMJ AJm AJl ALp ALo ALt ALr ALs ALw ALv AMF AME ATK ATM ATH ATI ATJ AHp AHo AI0 AIz AIv AIu AKL AKN AKI AKJ AKK AJ2 AJ1 AMX AMW AIp AIo AIn AKG AKF AM8 AM7 AKE AKD AKB AKA AMp AMr AMm AMn AMo ATq ATp AM5 AM4 AM2 AM1 ATh ATj ATe ATf ATg AMw AMv AMt AMs ATc ATb ATa AU3 AU2 AO6 AO5 AUh AUg AVf AVe Aa0 Aaz AMg AMf AT1 AT0 AVO AVN AWC AWB pJ AGQ AHg AHf AHX AHW AIW AIV AHd AHc AIi AIh AIa AIZ AHa AHZ AIf AIc AId AIe AIl AIk AJ8 AJ7 AMk AMh AMi AMj AO3 AO2 ALj ALg ALh ALi ALe ALd AOs AOr AUU AUS AUT AUe AUd AUX AUW AO0 AOx AOy AOz AOv AOu AUb AUZ AUa AVc AVb AOg AOf AUO AUN AOl AOk ALb ALZ ALa AOj AOi AOp AOn AOo AUR AUQ AHN AHM AH4 AH3 ANQ ANP AHK AHJ AHH AHG AH1 AH0 AHy AHx AHE AHD AHs AHr AHv AHu AJa AJZ ALL ALK AOY AOX AOV AOU ALR ALQ AH7 AH6 AJg AJf AJd AJc ALO ALN AOc AOb AOa ALW ALY ALT ALU ALV AOe AOd AJX AJW ALI ALH ALF ALE AOS AOR AUJ AUI AUL AUK AVZ AVY AWL AWN AWI AWJ AWK pL gX ALm ALl ALC ALB AOM AOL AK9 AK8 vB pI AGP AUG AUF AOJ AOI AK3 AK2 AK6 AK5 AOD AOC AOG AOF AOA AN9 AOQ AOP AOO AN4 AN3 AN1 AN0 ANz ANy ANN ANM ATt ATs AJO AJN AJT AJV AJQ AJR AJS AK0 AKz ANw ANv ANs ANu ANp ANq ANr AJM AJL AKy AKx AJJ AJI AKs AKr AKv AKu ANm ANo ANj ANk ANl AN8 AN7 AN6 AUD AUC AVW AVX AVV AKd AKc ASY AGX AS8 oO ge AVA AU9 ATY ATX ATW AMd AMc AMa AMZ ATU ATT ATQ ATS ATN ATO ATP AU7 AU6 AU5 AV3 AV2 AMC AMB AJj AJi AL9 AL8 AL7 AUk AUj AL5 AL4 AL2 AL1 ALz ALy AV0 AVz AJG AJF ANZ ANY AJB AJA AI8 AI7 AKm AKl AKj AKi ANb ANa ATy ATx ATv ATu AVC AVB AKg AKf ANT ANS AJE AJD AJC AKp AKo ANh ANg ANe ANd AUA AT9 ANW ANV AT7 AT6 AT4 AT3 AVS AVU AVP AVQ AVR AWG AWF AWE AVu AVt AU0 AUz AUt AUv AUs AUx AUw AVr AVq AVo AVn AUq AUp AUn AUm AVl AVk AVx AVw AV9 AV8 AbB AbD Aa8 Aa9 AbA Aa6 Aa5 AVi AVh Aa3 Aa2 AVK AVM AVH AVI AVJ AVF AVE AV6 AV5
end Go.AI
