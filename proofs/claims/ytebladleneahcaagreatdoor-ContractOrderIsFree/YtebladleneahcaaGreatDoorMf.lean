/- Closed facts about the program's types. Printed by fa.py. -/
import Derived.Test.YtebladleneahcaaGreatDoorProg
import Derived.Test.YtebladleneahcaaGreatDoorLi
set_option linter.unusedSimpArgs false
set_option linter.unusedVariables false
set_option linter.defProp false
open Go.Proofs.Tryz
open Go.AI renaming Hint->Eh
open Eq renaming trans->AG
open Go.Proofs.Tryz renaming prog->AA
namespace Go.AI
open Go.Proofs
def UR{p0 p1 p2 p3 p4 p5 p6 p7 p8 p9 p10 p11:Prop}(hp0:p0 := by kernel_rfl)(hp1:p1 := by kernel_rfl)(hp2:p2 := by kernel_rfl)(hp3:p3 := by kernel_rfl)(hp4:p4 := by kernel_rfl)(hp5:p5 := by kernel_rfl)(hp6:p6 := by kernel_rfl)(hp7:p7 := by kernel_rfl)(hp8:p8 := by kernel_rfl)(hp9:p9 := by kernel_rfl)(hp10:p10 := by kernel_rfl)(hp11:p11 := by kernel_rfl):p0/\p1/\p2/\p3/\p4/\p5/\p6/\p7/\p8/\p9/\p10/\p11:=⟨hp0,hp1,hp2,hp3,hp4,hp5,hp6,hp7,hp8,hp9,hp10,hp11⟩
def Fu:List (List Nat)->Nat->List Nat
 | [],_=>[]
 | x::_,0=>x
 | _::r,k+1=>Fu r k
def AWu(x:List Nat)(r:List (List Nat)):Fu (x::r) 0=x:=AG rfl rfl
def AWt(x:List Nat)(r:List (List Nat))(k:Nat):Fu (x::r) (k+1)=Fu r k:=AG rfl rfl
def AHS : ∀ (l:List Nat) (j k:Nat),((lvM j l).lookup (j+k)).getD []=Fu (l.map ADT) k
 | [],j,k=>by simp [lvM,Fu]
 | m::l,j,0=>by simp [lvM,Fu]
 | m::l,j,k+1=>by
  have h:(j+(k+1)==j)=false:=sm
  rw [lvM,List.lookup_cons,h]
  have := AHS l (j+1) k
  rw [show j+1+k=j+(k+1) by omega] at this
  exact this
def Fy{h:Eh}{l:List Nat}{L:List (List Nat)}(e:h.live=lvM 0 l)(hL:l.map ADT=L):h.lv=Fu L:=by
 subst hL
 funext k
 have := AHS l 0 k
 rw [Nat.zero_add] at this
 show (h.live.lookup k).getD []=_
 rw [e];exact this
def F0{P:Program}{n:FuncId}{f:Func}{h:Eh}(g:P.funcs[n]? =some f)(m:P.follows .mixedOrders=true := by kernel_rfl)(d:f.body.any (GZ h)=true := by kernel_rfl)(c:HS P n=true := by kernel_rfl):FK P n f h:=⟨m,d,g,c⟩
def F4(h:Eh)(a:h.gc=[] := by rfl)(b:h.fz=[] := by rfl)(c:h.dy=[] := by rfl):(∀ k,h.ct k=none)/\(∀ k,h.at k=[])/\(∀ k,h.dn k=false):=na h a b c
def ACy:AA.cellsOf 3=1/\AA.bytesOf 3=8/\I7 AA 3=some none/\AA.underlying 3=some (.int .i64)/\Gb AA 3=true/\(AA.info? 3).isSome=true/\Fi AA 3=some (.int .i64 0)/\AA.cellsOf 4=1/\AA.bytesOf 4=1/\I7 AA 4=some none/\WO AA 4=true/\(AA.info? 4).isSome=true:=UR
def AEl:Fi AA 4=some (.bool false)/\AA.cellsOf 9=1/\AA.bytesOf 9=16/\I7 AA 9=some none/\AA.underlying 9=some .string/\Gb AA 9=true/\(AA.info? 9).isSome=true/\AA.cellsOf 22=1/\I7 AA 22=some none/\AA.underlying 22=some (.slice 101)/\AA.cellsOf 23=1/\I7 AA 23=some none:=UR
def AWJ:AA.underlying 23=some (.slice 153)/\AA.cellsOf 24=1/\I7 AA 24=some none/\AA.underlying 24=some (.slice 82)/\AA.cellsOf 26=3/\I7 AA 26=some (some 3)/\Fa AA 26 0=some (22,0)/\Fa AA 26 1=some (23,1)/\Fa AA 26 2=some (24,2)/\AA.cellsOf 27=1/\I7 AA 27=some none/\AA.underlying 27=some (.slice 99):=UR
def yH:AA.cellsOf 28=1/\I7 AA 28=some none/\AA.underlying 28=some (.slice 90)/\AA.cellsOf 29=1/\I7 AA 29=some none/\AA.underlying 29=some (.slice 60)/\AA.cellsOf 31=6/\I7 AA 31=some (some 6)/\Fa AA 31 0=some (26,0)/\Fa AA 31 1=some (27,3)/\Fa AA 31 2=some (28,4)/\Fa AA 31 3=some (29,5):=UR
def yG:AA.cellsOf 34=10/\AA.bytesOf 34=80/\I7 AA 34=some (some 10)/\AA.underlying 34=some (.array 10 3)/\Gb AA 34=true/\(AA.info? 34).isSome=true/\KJ AA 34 = .array 1/\AA.cellsOf 46=1/\I7 AA 46=some none/\Fi AA 46=some (.int .i64 0)/\AA.cellsOf 56=1/\I7 AA 56=some none:=UR
def AWH:AA.underlying 56=some (.slice 58)/\AA.cellsOf 58=5/\AA.bytesOf 58=64/\I7 AA 58=some (some 5)/\Gb AA 58=true/\(AA.info? 58).isSome=true/\KJ AA 58 = .struct [(0,1),(1,1),(2,1),(3,1),(4,1)]/\Fa AA 58 0=some (3,0)/\Fa AA 58 1=some (9,1)/\Fa AA 58 2=some (3,2)/\Fa AA 58 3=some (3,3)/\Fa AA 58 4=some (56,4):=UR
def yE:AA.cellsOf 60=12/\I7 AA 60=some (some 12)/\Fa AA 60 0=some (9,0)/\Fa AA 60 1=some (9,1)/\Fa AA 60 2=some (3,2)/\Fa AA 60 3=some (3,3)/\Fa AA 60 4=some (58,4)/\Fa AA 60 5=some (3,9)/\Fa AA 60 6=some (3,10)/\Fa AA 60 7=some (3,11)/\AA.cellsOf 71=1/\AA.bytesOf 71=24:=UR
def AWv:I7 AA 71=some none/\AA.underlying 71=some (.slice 3)/\nW AA 71=true/\Gb AA 71=true/\AA.cellsOf 82=2/\Fa AA 82 0=some (9,0)/\Fa AA 82 1=some (3,1)/\AA.cellsOf 83=1/\I7 AA 83=some none/\AA.underlying 83=some (.slice 104)/\AA.cellsOf 84=1/\I7 AA 84=some none:=UR
def AWG:AA.underlying 84=some (.slice 267)/\AA.cellsOf 86=1/\I7 AA 86=some none/\AA.underlying 86=some (.slice 112)/\AA.cellsOf 87=1/\I7 AA 87=some none/\AA.underlying 87=some (.slice 191)/\AA.cellsOf 88=1/\I7 AA 88=some none/\AA.underlying 88=some (.slice 222)/\AA.cellsOf 90=6/\I7 AA 90=some (some 6):=UR
def nv:Fa AA 90 0=some (9,0)/\Fa AA 90 1=some (83,1)/\Fa AA 90 2=some (84,2)/\Fa AA 90 3=some (86,3)/\Fa AA 90 4=some (87,4)/\Fa AA 90 5=some (88,5)/\AA.cellsOf 99=3/\I7 AA 99=some (some 3)/\KJ AA 99 = .struct [(0,1),(1,1),(2,1)]/\Fa AA 99 0=some (9,0)/\Fa AA 99 1=some (3,1)/\Fa AA 99 2=some (3,2):=UR
def oo:AA.cellsOf 101=4/\I7 AA 101=some (some 4)/\Fa AA 101 0=some (9,0)/\Fa AA 101 1=some (4,1)/\Fa AA 101 2=some (3,2)/\Fa AA 101 3=some (3,3)/\AA.cellsOf 102=1/\I7 AA 102=some none/\AA.underlying 102=some (.slice 9)/\AA.cellsOf 104=2/\I7 AA 104=some (some 2)/\Fa AA 104 0=some (9,0):=UR
def ic:Fa AA 104 1=some (3,1)/\AA.cellsOf 105=1/\I7 AA 105=some none/\AA.underlying 105=some (.slice 107)/\AA.cellsOf 107=9/\AA.bytesOf 107=120/\I7 AA 107=some (some 9)/\Gb AA 107=true/\(AA.info? 107).isSome=true/\KJ AA 107 = .struct [(0,1),(1,5),(6,1),(7,1),(8,1)]/\Fa AA 107 0=some (3,0)/\Fa AA 107 1=some (58,1):=UR
def ib:Fa AA 107 2=some (9,6)/\Fa AA 107 3=some (3,7)/\Fa AA 107 4=some (105,8)/\AA.cellsOf 110=6/\I7 AA 110=some (some 6)/\KJ AA 110 = .struct [(0,1),(1,1),(2,1),(3,1),(4,1),(5,1)]/\Fa AA 110 0=some (3,0)/\Fa AA 110 1=some (9,1)/\Fa AA 110 2=some (102,2)/\Fa AA 110 3=some (9,3)/\Fa AA 110 4=some (3,4)/\Fa AA 110 5=some (3,5):=UR
def og:AA.cellsOf 112=15/\AA.bytesOf 112=200/\I7 AA 112=some (some 15)/\Gb AA 112=true/\KJ AA 112 = .struct [(0,9),(9,6)]/\Fa AA 112 0=some (107,0)/\Fa AA 112 1=some (110,9)/\AA.cellsOf 115=1/\I7 AA 115=some none/\AA.cellsOf 119=1/\I7 AA 119=some none/\AA.underlying 119=some (.slice 121):=UR
def sD:Fi AA 119=some (.sl (some 12) [])/\AA.cellsOf 121=12/\AA.bytesOf 121=112/\I7 AA 121=some (some 12)/\Gb AA 121=true/\KJ AA 121 = .struct [(0,1),(1,10),(11,1)]/\Fa AA 121 0=some (3,0)/\Fa AA 121 1=some (34,1)/\Fa AA 121 2=some (71,11)/\AA.cellsOf 153=3/\I7 AA 153=some (some 3)/\Fa AA 153 0=some (3,0):=UR
def ia:Fa AA 153 1=some (3,1)/\Fa AA 153 2=some (3,2)/\AA.cellsOf 187=1/\I7 AA 187=some none/\AA.underlying 187=some (.slice 189)/\AA.cellsOf 189=3/\I7 AA 189=some (some 3)/\Fa AA 189 0=some (3,0)/\Fa AA 189 1=some (9,1)/\Fa AA 189 2=some (187,2)/\AA.cellsOf 191=8/\Fa AA 191 0=some (58,0):=UR
def iZ:Fa AA 191 1=some (189,5)/\AA.cellsOf 194=2/\I7 AA 194=some (some 2)/\KJ AA 194 = .struct [(0,1),(1,1)]/\Fa AA 194 0=some (3,0)/\Fa AA 194 1=some (3,1)/\AA.cellsOf 222=4/\I7 AA 222=some (some 4)/\Fa AA 222 0=some (3,0)/\Fa AA 222 1=some (3,1)/\Fa AA 222 2=some (3,2)/\Fa AA 222 3=some (3,3):=UR
def oX:AA.cellsOf 267=2/\I7 AA 267=some (some 2)/\Fa AA 267 0=some (3,0)/\Fa AA 267 1=some (3,1):=⟨kr,kr,kr,kr⟩
def mixed:AA.follows .mixedOrders=true:=kr
def wu:Eh:=hm [28,16] [] [] []
def APx:wu.lv=Fu [[2,3,4],[4]]:=Fy rfl dk
@[go_sem] def AgB:=F4 wu
def APw:wu.tk=[]/\wu.mt=[]/\wu.pc=[]:=⟨rfl,rfl,rfl⟩
def APy:FK AA 157 f157 wu:=F0 func157
def h97:Eh:=hm [6,14,30,1054,30,30,4] [] [] [19,20]
def AW9:h97.lv=Fu [[1,2],[1,2,3],[1,2,3,4],[1,2,3,4,10],[1,2,3,4],[1,2,3,4],[2]]:=Fy rfl dk
@[go_sem] def Ag4:=F4 h97
def AW8:h97.tk=[]/\h97.mt=[]/\h97.pc=[19,20]:=⟨rfl,rfl,rfl⟩
def AHa:FK AA 97 f97 h97:=F0 func97
def wA:Eh:=hm [6,14,270,14,30,262174,30,30,4] [] [] [12,13,27,28]
def ANR:wA.lv=Fu [[1,2],[1,2,3],[1,2,3,8],[1,2,3],[1,2,3,4],[1,2,3,4,18],[1,2,3,4],[1,2,3,4],[2]]:=Fy rfl dk
@[go_sem] def AfS:=F4 wA
def ANQ:wA.tk=[]/\wA.mt=[]/\wA.pc=[12,13,27,28]:=⟨rfl,rfl,rfl⟩
def ACE:FK AA 231 f231 wA:=F0 func231
def wx:Eh:=hm [2,10,24,4] [] [] [6,9]
def AP4:wx.lv=Fu [[1],[1,3],[3,4],[2]]:=Fy rfl dk
@[go_sem] def AgE:=F4 wx
def AP3:wx.tk=[]/\wx.mt=[]/\wx.pc=[6,9]:=⟨rfl,rfl,rfl⟩
def AP5:FK AA 154 f154 wx:=F0 func154
def h93:Eh:=hm [1,9,4105,9,25,4294967305,4,4] [33] [] [20]
def AXJ:h93.lv=Fu [[0],[0,3],[0,3,12],[0,3],[0,3,4],[0,3,32],[2],[2]]:=Fy rfl dk
@[go_sem] def Ag8:=F4 h93
def AXI:h93.tk=[33]/\h93.mt=[]/\h93.pc=[20]:=⟨rfl,rfl,rfl⟩
def AHc:FK AA 93 f93 h93:=F0 func93
def h94:Eh:=hm [2,10,26,538,26,26,4194312,8,4] [] [] [18]
def AXH:h94.lv=Fu [[1],[1,3],[1,3,4],[1,3,4,9],[1,3,4],[1,3,4],[3,22],[3],[2]]:=Fy rfl dk
@[go_sem] def Ag7:=F4 h94
def AXG:h94.tk=[]/\h94.mt=[]/\h94.pc=[18]:=⟨rfl,rfl,rfl⟩
def AHb:FK AA 94 f94 h94:=F0 func94
def ww:Eh:=hm [2,10,26,538,26,26,4194312,8,4] [] [] [18]
def AP2:ww.lv=Fu [[1],[1,3],[1,3,4],[1,3,4,9],[1,3,4],[1,3,4],[3,22],[3],[2]]:=Fy rfl dk
@[go_sem] def AgD:=F4 ww
def AP1:ww.tk=[]/\ww.mt=[]/\ww.pc=[18]:=⟨rfl,rfl,rfl⟩
def ACL:FK AA 155 f155 ww:=F0 func155
def h95:Eh:=hm [2,10,24,4] [] [] [6,8]
def AXE:h95.lv=Fu [[1],[1,3],[3,4],[2]]:=Fy rfl dk
@[go_sem] def Ag6:=F4 h95
def AXD:h95.tk=[]/\h95.mt=[]/\h95.pc=[6,8]:=⟨rfl,rfl,rfl⟩
def AXF:FK AA 95 f95 h95:=F0 func95
def h53:Eh:=hm [2,8,4] [] [] [5]
def AYX:h53.lv=Fu [[1],[3],[2]]:=Fy rfl dk
@[go_sem] def AhO:=F4 h53
def AYW:h53.tk=[]/\h53.mt=[]/\h53.pc=[5]:=⟨rfl,rfl,rfl⟩
def AYY:FK AA 53 f53 h53:=F0 func53
def wv:Eh:=hm [6,14,30,1054,30,30,4] [] [] [19,20]
def AP0:wv.lv=Fu [[1,2],[1,2,3],[1,2,3,4],[1,2,3,4,10],[1,2,3,4],[1,2,3,4],[2]]:=Fy rfl dk
@[go_sem] def AgC:=F4 wv
def APz:wv.tk=[]/\wv.mt=[]/\wv.pc=[19,20]:=⟨rfl,rfl,rfl⟩
def ACK:FK AA 156 f156 wv:=F0 func156
def h96:Eh:=hm [2,8,4] [] [] [5]
def AXB:h96.lv=Fu [[1],[3],[2]]:=Fy rfl dk
@[go_sem] def Ag5:=F4 h96
def AXA:h96.tk=[]/\h96.mt=[]/\h96.pc=[5]:=⟨rfl,rfl,rfl⟩
def AXC:FK AA 96 f96 h96:=F0 func96
def h52:Eh:=hm [2,10,68719476738,4,18,2199023255570,18,0x2000000000000012,4,34,0x40000000000000022,34,98,226,0x10000000000000000000022,4,4] [] [] [10,50,59,75,82]
def AYa:h52.lv=Fu [[1],[1,3],[1,36],[2],[1,4],[1,4,41],[1,4],[1,4,61],[2],[1,5],[1,5,66],[1,5],[1,5,6],[1,5,6,7],[1,5,88],[2],[2]]:=Fy rfl dk
@[go_sem] def AhP:=F4 h52
def AYZ:h52.tk=[]/\h52.mt=[]/\h52.pc=[10,50,59,75,82]:=⟨rfl,rfl,rfl⟩
def AHf:FK AA 52 f52 h52:=F0 func52
def xY:Eh:=hm [1,9,521,9,25,57,0x800000000009,4,4] [] [] []
def ASH:xY.lv=Fu [[0],[0,3],[0,3,9],[0,3],[0,3,4],[0,3,4,5],[0,3,47],[2],[2]]:=Fy rfl dk
@[go_sem] def Agm:=F4 xY
def ASG:xY.tk=[]/\xY.mt=[]/\xY.pc=[]:=⟨rfl,rfl,rfl⟩
def ASI:FK AA 101 f101 xY:=F0 func101
def vx:Eh:=hm [6,16] [] [] []
def ANI:vx.lv=Fu [[1,2],[4]]:=Fy rfl dk
@[go_sem] def AfP:=F4 vx
def ANH:vx.tk=[]/\vx.mt=[]/\vx.pc=[]:=⟨rfl,rfl,rfl⟩
def ANJ:FK AA 234 f234 vx:=F0 func234
def vz:Eh:=hm [6,16] [] [] [7]
def ANO:vz.lv=Fu [[1,2],[4]]:=Fy rfl dk
@[go_sem] def AfR:=F4 vz
def ANN:vz.tk=[]/\vz.mt=[]/\vz.pc=[7]:=⟨rfl,rfl,rfl⟩
def ANP:FK AA 232 f232 vz:=F0 func232
def wt:Eh:=hm [12,44,262156,16,76,8388684,76,204,17179869260,16,332,137438953804,332,4503599627370828,16,524,0x20000000000020c,524,1548,0x800000000000000060c,16,3596,0x40000000000000000e0c,3596,0x100000000000000000000e0c,16,4104,0x2000000000000000000001008,4104,0x800000000000000000000000001008,16,12296,0x4000000000000000000000000003008,12296,0x20000000000000000000000000000003008,16,16] [] [] [16,32,107,117]
def APu:wt.lv=Fu [[2,3],[2,3,5],[2,3,18],[4],[2,3,6],[2,3,6,23],[2,3,6],[2,3,6,7],[2,3,6,34],[4],[2,3,6,8],[2,3,6,8,37],[2,3,6,8],[2,3,6,8,52],[4],[2,3,9],[2,3,9,57],[2,3,9],[2,3,9,10],[2,3,9,10,75],[4],[2,3,9,10,11],[2,3,9,10,11,78],[2,3,9,10,11],[2,3,9,10,11,92],[4],[3,12],[3,12,97],[3,12],[3,12,119],[4],[3,12,13],[3,12,13,122],[3,12,13],[3,12,13,137],[4],[4]]:=Fy rfl dk
@[go_sem] def AgA:=F4 wt
def APt:wt.tk=[]/\wt.mt=[]/\wt.pc=[16,32,107,117]:=⟨rfl,rfl,rfl⟩
def APv:FK AA 158 f158 wt:=F0 func158
def vH:Eh:=hm [2,1024,4,4] [] [] []
def ALG:vH.lv=Fu [[1],[10],[2],[2]]:=Fy rfl dk
@[go_sem] def Aeq:=F4 vH
def ALF:vH.tk=[]/\vH.mt=[]/\vH.pc=[]:=⟨rfl,rfl,rfl⟩
def ALH:FK AA 292 f292 vH:=F0 func292
def vu:Eh:=hm [6,34,8224,16,16] [] [] [7]
def AND:vu.lv=Fu [[1,2],[1,5],[5,13],[4],[4]]:=Fy rfl dk
@[go_sem] def AfN:=F4 vu
def ANC:vu.tk=[]/\vu.mt=[]/\vu.pc=[7]:=⟨rfl,rfl,rfl⟩
def ANE:FK AA 236 f236 vu:=F0 func236
def vA:Eh:=hm [12,2199023255564,16,44,70368744177708,44,108,0x200000000000002c,16,16] [] [] [59]
def AKw:vA.lv=Fu [[2,3],[2,3,41],[4],[2,3,5],[2,3,5,46],[2,3,5],[2,3,5,6],[2,3,5,61],[4],[4]]:=Fy rfl dk
@[go_sem] def Aej:=F4 vA
def AKv:vA.tk=[]/\vA.mt=[]/\vA.pc=[59]:=⟨rfl,rfl,rfl⟩
def ACA:FK AA 299 f299 vA:=F0 func299
def uf:Eh:=hm [1,4] [] [] []
def AJm:uf.lv=Fu [[0],[2]]:=Fy rfl dk
@[go_sem] def AeM:=F4 uf
def AJl:uf.tk=[]/\uf.mt=[]/\uf.pc=[]:=⟨rfl,rfl,rfl⟩
def AJn:FK AA 342 f342 uf:=F0 func342
def ue:Eh:=hm [1,9,25,537,25,131097,4,4] [] [] [5]
def AJj:ue.lv=Fu [[0],[0,3],[0,3,4],[0,3,4,9],[0,3,4],[0,3,4,17],[2],[2]]:=Fy rfl dk
@[go_sem] def AeL:=F4 ue
def AJi:ue.tk=[]/\ue.mt=[]/\ue.pc=[5]:=⟨rfl,rfl,rfl⟩
def AJk:FK AA 343 f343 ue:=F0 func343
def uV:Eh:=hm [1,4] [] [] []
def AJO:uV.lv=Fu [[0],[2]]:=Fy rfl dk
@[go_sem] def AeE:=F4 uV
def AJN:uV.tk=[]/\uV.mt=[]/\uV.pc=[]:=⟨rfl,rfl,rfl⟩
def AJP:FK AA 374 f374 uV:=F0 func374
def uW:Eh:=hm [1,9,25,4] [] [] [6,8]
def AJR:uW.lv=Fu [[0],[0,3],[0,3,4],[2]]:=Fy rfl dk
@[go_sem] def AeF:=F4 uW
def AJQ:uW.tk=[]/\uW.mt=[]/\uW.pc=[6,8]:=⟨rfl,rfl,rfl⟩
def AJS:FK AA 365 f365 uW:=F0 func365
def ud:Eh:=hm [1,9,265,25,16393,9,4] [] [] [12]
def AJg:ud.lv=Fu [[0],[0,3],[0,3,8],[0,3,4],[0,3,14],[0,3],[2]]:=Fy rfl dk
@[go_sem] def AeK:=F4 ud
def AJf:ud.tk=[]/\ud.mt=[]/\ud.pc=[12]:=⟨rfl,rfl,rfl⟩
def AJh:FK AA 344 f344 ud:=F0 func344
def uq:Eh:=hm [1,4097,4,9,25,4] [] [] [15,17,21]
def AKA:uq.lv=Fu [[0],[0,12],[2],[0,3],[0,3,4],[2]]:=Fy rfl dk
@[go_sem] def AeU:=F4 uq
def AJ9:uq.tk=[]/\uq.mt=[]/\uq.pc=[15,17,21]:=⟨rfl,rfl,rfl⟩
def AKB:FK AA 326 f326 uq:=F0 func326
def vG:Eh:=hm [1,4] [] [] [4]
def ALD:vG.lv=Fu [[0],[2]]:=Fy rfl dk
@[go_sem] def Aep:=F4 vG
def ALC:vG.tk=[]/\vG.mt=[]/\vG.pc=[4]:=⟨rfl,rfl,rfl⟩
def ALE:FK AA 293 f293 vG:=F0 func293
def vB:Eh:=hm [1,9,4] [] [] [5]
def AKy:vB.lv=Fu [[0],[0,3],[2]]:=Fy rfl dk
@[go_sem] def Aek:=F4 vB
def AKx:vB.tk=[]/\vB.mt=[]/\vB.pc=[5]:=⟨rfl,rfl,rfl⟩
def AKz:FK AA 298 f298 vB:=F0 func298
def vl:Eh:=hm [2,10,26,58,122,250,34359738618,103079215354,103079215354,194,1133871366394,194,0x80008000000fa,194,0x800000008000000ea,194,0x80000000000008000000e2,130,194,0x400000000000008000000e2,0x400000000000008000000e2,130,194,0x4000000000000000000000c2,194,0x10000000000000000000000000000042,4,322,0x80000000000000000000000000000142,322,834,0x20000000000000000000000000000000142,4,4] [] [] [12,135]
def AMm:vl.lv=Fu [[1],[1,3],[1,3,4],[1,3,4,5],[1,3,4,5,6],[1,3,4,5,6,7],[1,3,4,5,6,7,35],[1,3,4,5,6,7,35,36],[1,3,4,5,6,7,35,36],[1,6,7],[1,3,4,5,6,7,35,40],[1,6,7],[1,3,4,5,6,7,35,51],[1,6,7],[1,3,5,6,7,35,67],[1,6,7],[1,5,6,7,35,87],[1,7],[1,6,7],[1,5,6,7,35,90],[1,5,6,7,35,90],[1,7],[1,6,7],[1,6,7,94],[1,6,7],[1,6,124],[2],[1,6,8],[1,6,8,127],[1,6,8],[1,6,8,9],[1,6,8,137],[2],[2]]:=Fy rfl dk
@[go_sem] def AfG:=F4 vl
def AMl:vl.tk=[]/\vl.mt=[]/\vl.pc=[12,135]:=⟨rfl,rfl,rfl⟩
def AMn:FK AA 244 f244 vl:=F0 func244
def vm:Eh:=hm [2,10,26,58,122,250,67109114,201326842,194,34426847482,194,0x80000040000f2,0x80000040000f2,130,194,0x4000000000000f2,130,194,0x1000000000000000042,4,322,0x8000000000000000142,322,834,0x2000000000000000000142,4,4] [] [] [12,16,31,83]
def AMp:vm.lv=Fu [[1],[1,3],[1,3,4],[1,3,4,5],[1,3,4,5,6],[1,3,4,5,6,7],[1,3,4,5,6,7,26],[1,3,4,5,6,7,26,27],[1,6,7],[1,3,4,5,6,7,26,35],[1,6,7],[1,4,5,6,7,26,51],[1,4,5,6,7,26,51],[1,7],[1,6,7],[1,4,5,6,7,58],[1,7],[1,6,7],[1,6,72],[2],[1,6,8],[1,6,8,75],[1,6,8],[1,6,8,9],[1,6,8,85],[2],[2]]:=Fy rfl dk
@[go_sem] def AfH:=F4 vm
def AMo:vm.tk=[]/\vm.mt=[]/\vm.pc=[12,16,31,83]:=⟨rfl,rfl,rfl⟩
def AMq:FK AA 243 f243 vm:=F0 func243
def wo:Eh:=hm [2,4] [] [] [4,6,7]
def APa:wo.lv=Fu [[1],[2]]:=Fy rfl dk
@[go_sem] def Af5:=F4 wo
def APZ:wo.tk=[]/\wo.mt=[]/\wo.pc=[4,6,7]:=⟨rfl,rfl,rfl⟩
def APb:FK AA 164 f164 wo:=F0 func164
def u9:Eh:=hm [12,0x80000000000c,16,44,4503599627370540,44,0x2000000000000002c,16,16] [] [] []
def AKt:u9.lv=Fu [[2,3],[2,3,47],[4],[2,3,5],[2,3,5,52],[2,3,5],[2,3,5,65],[4],[4]]:=Fy rfl dk
@[go_sem] def Aei:=F4 u9
def AKs:u9.tk=[]/\u9.mt=[]/\u9.pc=[]:=⟨rfl,rfl,rfl⟩
def AB9:FK AA 300 f300 u9:=F0 func300
def vh:Eh:=hm [2,10,4098,4,18,536870914,4,34,17179869218,34,98,17592186044450,4,130,386,0x200000000000182,0x600000000000182,4,0x200200000000000182,4,0x20000200000000000182,4,0x2000000000200000000000182,4,0x200000000000000200000000000182,4,0x8000000000000000000000000000002,4,4] [] [] [11,15,42,47]
def AMd:vh.lv=Fu [[1],[1,3],[1,12],[2],[1,4],[1,29],[2],[1,5],[1,5,34],[1,5],[1,5,6],[1,5,44],[2],[1,7],[1,7,8],[1,7,8,57],[1,7,8,57,58],[2],[1,7,8,57,69],[2],[1,7,8,57,77],[2],[1,7,8,57,97],[2],[1,7,8,57,117],[2],[1,123],[2],[2]]:=Fy rfl dk
@[go_sem] def AfD:=F4 vh
def AMc:vh.tk=[]/\vh.mt=[]/\vh.pc=[11,15,42,47]:=⟨rfl,rfl,rfl⟩
def AMe:FK AA 247 f247 vh:=F0 func247
def wj:Eh:=hm [2,8,128,4,4] [] [] [5]
def APR:wj.lv=Fu [[1],[3],[7],[2],[2]]:=Fy rfl dk
@[go_sem] def Af2:=F4 wj
def APQ:wj.tk=[]/\wj.mt=[]/\wj.pc=[5]:=⟨rfl,rfl,rfl⟩
def APS:FK AA 167 f167 wj:=F0 func167
def xR:Eh:=hm [1,257,4,9,4105,9,25,4194329,4,41,2147483689,4,4] [] [] [20,29]
def ARl:xR.lv=Fu [[0],[0,8],[2],[0,3],[0,3,12],[0,3],[0,3,4],[0,3,4,22],[2],[0,3,5],[0,3,5,31],[2],[2]]:=Fy rfl dk
@[go_sem] def Agf:=F4 xR
def ARk:xR.tk=[]/\xR.mt=[]/\xR.pc=[20,29]:=⟨rfl,rfl,rfl⟩
def ARm:FK AA 110 f110 xR:=F0 func110
def wh:Eh:=hm [19,275,48,83,8275,83,4194387,48,48] [23] [] [9]
def APM:wh.lv=Fu [[0,1,4],[0,1,4,8],[4,5],[0,1,4,6],[0,1,4,6,13],[0,1,4,6],[0,1,4,6,22],[4,5],[4,5]]:=Fy rfl dk
@[go_sem] def Af0:=F4 wh
def APL:wh.tk=[23]/\wh.mt=[]/\wh.pc=[9]:=⟨rfl,rfl,rfl⟩
def ACI:FK AA 169 f169 wh:=F0 func169
def vj:Eh:=hm [2,10,26,2074,26,26,4] [14,22] [] [20]
def AMj:vj.lv=Fu [[1],[1,3],[1,3,4],[1,3,4,11],[1,3,4],[1,3,4],[2]]:=Fy rfl dk
@[go_sem] def AfF:=F4 vj
def AMi:vj.tk=[14,22]/\vj.mt=[]/\vj.pc=[20]:=⟨rfl,rfl,rfl⟩
def AMk:FK AA 245 f245 vj:=F0 func245
def vg:Eh:=hm [1,9,25,153,25,25,4] [] [] []
def AMa:vg.lv=Fu [[0],[0,3],[0,3,4],[0,3,4,7],[0,3,4],[0,3,4],[2]]:=Fy rfl dk
@[go_sem] def AfC:=F4 vg
def AMZ:vg.tk=[]/\vg.mt=[]/\vg.pc=[]:=⟨rfl,rfl,rfl⟩
def AMb:FK AA 249 f249 vg:=F0 func249
def wg:Eh:=hm [2,4] [] [] [5]
def APJ:wg.lv=Fu [[1],[2]]:=Fy rfl dk
@[go_sem] def Afz:=F4 wg
def API:wg.tk=[]/\wg.mt=[]/\wg.pc=[5]:=⟨rfl,rfl,rfl⟩
def APK:FK AA 170 f170 wg:=F0 func170
def vi:Eh:=hm [9,1048585,16,104,536870952,16,168,17179869352,168,4503599627370496,16,16] [22] [] [25,39]
def AMg:vi.lv=Fu [[0,3],[0,3,20],[4],[3,5,6],[3,5,29],[4],[3,5,7],[3,5,7,34],[3,5,7],[52],[4],[4]]:=Fy rfl dk
@[go_sem] def AfE:=F4 vi
def AMf:vi.tk=[22]/\vi.mt=[]/\vi.pc=[25,39]:=⟨rfl,rfl,rfl⟩
def AMh:FK AA 246 f246 vi:=F0 func246
def wl:Eh:=hm [9,33,97,8289,97,225,8388833,16,16] [] [] [9,21]
def APU:wl.lv=Fu [[0,3],[0,5],[0,5,6],[0,5,6,13],[0,5,6],[0,5,6,7],[0,5,6,7,23],[4],[4]]:=Fy rfl dk
@[go_sem] def Af3:=F4 wl
def APT:wl.tk=[]/\wl.mt=[]/\wl.pc=[9,21]:=⟨rfl,rfl,rfl⟩
def APV:FK AA 166 f166 wl:=F0 func166
def wi:Eh:=hm [2,10,26,2074,26,26,4] [14,22] [] [20]
def APO:wi.lv=Fu [[1],[1,3],[1,3,4],[1,3,4,11],[1,3,4],[1,3,4],[2]]:=Fy rfl dk
@[go_sem] def Af1:=F4 wi
def APN:wi.tk=[14,22]/\wi.mt=[]/\wi.pc=[20]:=⟨rfl,rfl,rfl⟩
def APP:FK AA 168 f168 wi:=F0 func168
def K2:Eh:=hx [9,41,8233,16,97,225,1048801,225,268435681,225,2199023255777,993,9007199254741473,225,0x20000000000000e1,225,0x80000000000000e1,16,16] [] [] [] [11,16,35,49,60] [(7,1)] []
def ARh:K2.lv=Fu [[0,3],[0,3,5],[0,3,5,13],[4],[0,5,6],[0,5,6,7],[0,5,6,7,20],[0,5,6,7],[0,5,6,7,28],[0,5,6,7],[0,5,6,7,41],[0,5,6,7,8,9],[0,5,6,7,8,53],[0,5,6,7],[0,5,6,7,61],[0,5,6,7],[0,5,6,7,63],[4],[4]]:=Fy rfl dk
def ARj:K2.ct 0=none/\K2.ct 1=none/\K2.ct 2=none/\K2.ct 3=none/\K2.ct 4=none/\K2.ct 5=none/\K2.ct 6=none/\K2.ct 7=some 1/\K2.ct 8=none/\K2.ct 9=none/\K2.ct 10=none/\K2.ct 11=none/\K2.ct 12=none/\K2.ct 13=none/\K2.ct 14=none/\K2.ct 15=none/\K2.ct 16=none/\K2.ct 17=none/\K2.ct 18=none:=dk
def ARe(k:Nat):K2.at k=[]:=rfl
def ARf(k:Nat):K2.dn k=false:=AG rfl rfl
def ARg:K2.tk=[]/\K2.mt=[]/\K2.pc=[11,16,35,49,60]:=⟨rfl,rfl,rfl⟩
def ARi:FK AA 111 f111 K2:=F0 func111
def JK:Eh:=hx [9,41,4194345,16,73,1073741897,73,201,549755814089,201,713,4503599627370697,16,1033,0x200000000000409,1033,3081,0x4000000000000c09,3081,0x8000000000000000c09,16,4104,0x100000000000000000000000,16,16] [31,77] [] [] [15,48,80,90] [(9,1)] []
def ARb:JK.lv=Fu [[0,3],[0,3,5],[0,3,5,22],[4],[0,3,6],[0,3,6,30],[0,3,6],[0,3,6,7],[0,3,6,7,39],[0,3,6,7],[0,3,6,7,9],[0,3,6,7,52],[4],[0,3,10],[0,3,10,57],[0,3,10],[0,3,10,11],[0,3,10,11,62],[0,3,10,11],[0,3,10,11,75],[4],[3,12],[92],[4],[4]]:=Fy rfl dk
def ARd:JK.ct 0=none/\JK.ct 1=none/\JK.ct 2=none/\JK.ct 3=none/\JK.ct 4=none/\JK.ct 5=none/\JK.ct 6=none/\JK.ct 7=none/\JK.ct 8=none/\JK.ct 9=some 1/\JK.ct 10=none/\JK.ct 11=none/\JK.ct 12=none/\JK.ct 13=none/\JK.ct 14=none/\JK.ct 15=none/\JK.ct 16=none/\JK.ct 17=none/\JK.ct 18=none/\JK.ct 19=none/\JK.ct 20=none/\JK.ct 21=none/\JK.ct 22=none/\JK.ct 23=none/\JK.ct 24=none:=dk
def ARY(k:Nat):JK.at k=[]:=rfl
def ARZ(k:Nat):JK.dn k=false:=AG rfl rfl
def ARa:JK.tk=[31,77]/\JK.mt=[]/\JK.pc=[15,48,80,90]:=⟨rfl,rfl,rfl⟩
def ARc:FK AA 112 f112 JK:=F0 func112
def we:Eh:=hm [3,1027,16,35,16419,35,33554467,16,16] [] [] []
def APH:we.lv=Fu [[0,1],[0,1,10],[4],[0,1,5],[0,1,5,14],[0,1,5],[0,1,5,25],[4],[4]]:=Fy rfl dk
@[go_sem] def Afy:=F4 we
def APG:we.tk=[]/\we.mt=[]/\we.pc=[]:=⟨rfl,rfl,rfl⟩
def ACH:FK AA 171 f171 we:=F0 func171
def xI:Eh:=hm [2,4] [] [] []
def AQ5:xI.lv=Fu [[1],[2]]:=Fy rfl dk
@[go_sem] def AgX:=F4 xI
def AQ4:xI.tk=[]/\xI.mt=[]/\xI.pc=[]:=⟨rfl,rfl,rfl⟩
def AQ6:FK AA 121 f121 xI:=F0 func121
def Q2:Eh:=hx [3,35,99,4195,99,227,99,16] [24,29] [] [] [21] [(4,0)] []
def ARA:Q2.lv=Fu [[0,1],[0,1,5],[0,1,5,6],[0,1,5,6,12],[0,1,5,6],[0,1,5,6,7],[0,1,5,6],[4]]:=Fy rfl dk
def ARC:Q2.ct 0=none/\Q2.ct 1=none/\Q2.ct 2=none/\Q2.ct 3=none/\Q2.ct 4=some 0/\Q2.ct 5=none/\Q2.ct 6=none/\Q2.ct 7=none:=dk
def AQ7(k:Nat):Q2.at k=[]:=rfl
def AQ8(k:Nat):Q2.dn k=false:=AG rfl rfl
def AQ9:Q2.tk=[24,29]/\Q2.mt=[]/\Q2.pc=[21]:=⟨rfl,rfl,rfl⟩
def ARB:FK AA 120 f120 Q2:=F0 func120
def xJ:Eh:=hm [1,8,24,4,72,72,4,520,512,4,4] [] [] []
def ARE:xJ.lv=Fu [[0],[3],[3,4],[2],[3,6],[3,6],[2],[3,9],[9],[2],[2]]:=Fy rfl dk
@[go_sem] def AgY:=F4 xJ
def ARD:xJ.tk=[]/\xJ.mt=[]/\xJ.pc=[]:=⟨rfl,rfl,rfl⟩
def ARF:FK AA 119 f119 xJ:=F0 func119
def xQ:Eh:=hm [49,134217777,64,176,64] [] [] [9,12,31,35,36,41,44]
def ARW:xQ.lv=Fu [[0,4,5],[0,4,5,27],[6],[4,5,7],[6]]:=Fy rfl dk
@[go_sem] def Age:=F4 xQ
def ARV:xQ.tk=[]/\xQ.mt=[]/\xQ.pc=[9,12,31,35,36,41,44]:=⟨rfl,rfl,rfl⟩
def ARX:FK AA 113 f113 xQ:=F0 func113
def Qx:Eh:=hx [3,35,65571,16,67,2097219,67,195,4294967491,16,323,4398046511427,16,515,0x800000000203,515,1539,4503599627372035,1539,3587,7683,0x4000000000000000000603,16,16] [] [] [] [14,30,40,84] [(18,0)] []
def AX8:Qx.lv=Fu [[0,1],[0,1,5],[0,1,5,16],[4],[0,1,6],[0,1,6,21],[0,1,6],[0,1,6,7],[0,1,6,7,32],[4],[0,1,6,8],[0,1,6,8,42],[4],[0,1,9],[0,1,9,47],[0,1,9],[0,1,9,10],[0,1,9,10,52],[0,1,9,10],[0,1,9,10,11],[0,1,9,10,11,12],[0,1,9,10,86],[4],[4]]:=Fy rfl dk
def AYA:Qx.ct 0=none/\Qx.ct 1=none/\Qx.ct 2=none/\Qx.ct 3=none/\Qx.ct 4=none/\Qx.ct 5=none/\Qx.ct 6=none/\Qx.ct 7=none/\Qx.ct 8=none/\Qx.ct 9=none/\Qx.ct 10=none/\Qx.ct 11=none/\Qx.ct 12=none/\Qx.ct 13=none/\Qx.ct 14=none/\Qx.ct 15=none/\Qx.ct 16=none/\Qx.ct 17=none/\Qx.ct 18=some 0/\Qx.ct 19=none/\Qx.ct 20=none/\Qx.ct 21=none/\Qx.ct 22=none/\Qx.ct 23=none:=dk
def AX5(k:Nat):Qx.at k=[]:=rfl
def AX6(k:Nat):Qx.dn k=false:=AG rfl rfl
def AX7:Qx.tk=[]/\Qx.mt=[]/\Qx.pc=[14,30,40,84]:=⟨rfl,rfl,rfl⟩
def AX9:FK AA 59 f59 Qx:=F0 func59
def vI:Eh:=hm [3,35,99,227,2275,227,8388835,163,227,8589934819,227,4398046511138,32,16] [24,34,43,47] [] []
def ALJ:vI.lv=Fu [[0,1],[0,1,5],[0,1,5,6],[0,1,5,6,7],[0,1,5,6,7,11],[0,1,5,6,7],[0,1,5,6,7,23],[0,1,5,7],[0,1,5,6,7],[0,1,5,6,7,33],[0,1,5,6,7],[1,5,42],[5],[4]]:=Fy rfl dk
@[go_sem] def Aer:=F4 vI
def ALI:vI.tk=[24,34,43,47]/\vI.mt=[]/\vI.pc=[]:=⟨rfl,rfl,rfl⟩
def ALK:FK AA 291 f291 vI:=F0 func291
def vy:Eh:=hm [2,10,24,56,2104,56,134217784,56,4] [] [] [7,34]
def ANL:vy.lv=Fu [[1],[1,3],[3,4],[3,4,5],[3,4,5,11],[3,4,5],[3,4,5,27],[3,4,5],[2]]:=Fy rfl dk
@[go_sem] def AfQ:=F4 vy
def ANK:vy.tk=[]/\vy.mt=[]/\vy.pc=[7,34]:=⟨rfl,rfl,rfl⟩
def ANM:FK AA 233 f233 vy:=F0 func233
def vw:Eh:=hm [3,35,547,35,131107,16,16] [] [] []
def ANG:vw.lv=Fu [[0,1],[0,1,5],[0,1,5,9],[0,1,5],[0,1,5,17],[4],[4]]:=Fy rfl dk
@[go_sem] def AfO:=F4 vw
def ANF:vw.tk=[]/\vw.mt=[]/\vw.pc=[]:=⟨rfl,rfl,rfl⟩
def ACD:FK AA 235 f235 vw:=F0 func235
def LS:Eh:=hx [12,40,65576,16,72,4194376,72,200,456,34359738824,456,17592186044872,16,584,0x8000000000000048,16,16] [] [] [] [14,31,43,61] [(6,2)] []
def APq:LS.lv=Fu [[2,3],[3,5],[3,5,16],[4],[3,6],[3,6,22],[3,6],[3,6,7],[3,6,7,8],[3,6,7,8,35],[3,6,7,8],[3,6,7,8,44],[4],[3,6,9],[3,6,63],[4],[4]]:=Fy rfl dk
def APs:LS.ct 0=none/\LS.ct 1=none/\LS.ct 2=none/\LS.ct 3=none/\LS.ct 4=none/\LS.ct 5=none/\LS.ct 6=some 2/\LS.ct 7=none/\LS.ct 8=none/\LS.ct 9=none/\LS.ct 10=none/\LS.ct 11=none/\LS.ct 12=none/\LS.ct 13=none/\LS.ct 14=none/\LS.ct 15=none/\LS.ct 16=none:=dk
def APn(k:Nat):LS.at k=[]:=rfl
def APo(k:Nat):LS.dn k=false:=AG rfl rfl
def APp:LS.tk=[]/\LS.mt=[]/\LS.pc=[14,31,43,61]:=⟨rfl,rfl,rfl⟩
def APr:FK AA 159 f159 LS:=F0 func159
def wn:Eh:=hm [2,4] [] [] [4,6,7]
def APX:wn.lv=Fu [[1],[2]]:=Fy rfl dk
@[go_sem] def Af4:=F4 wn
def APW:wn.tk=[]/\wn.mt=[]/\wn.pc=[4,6,7]:=⟨rfl,rfl,rfl⟩
def APY:FK AA 165 f165 wn:=F0 func165
def xS:Eh:=hm [9,41,553,16,16] [11] [] [7,13]
def ARo:xS.lv=Fu [[0,3],[0,3,5],[0,3,5,9],[4],[4]]:=Fy rfl dk
@[go_sem] def Agg:=F4 xS
def ARn:xS.tk=[11]/\xS.mt=[]/\xS.pc=[7,13]:=⟨rfl,rfl,rfl⟩
def ARp:FK AA 109 f109 xS:=F0 func109
def vt:Eh:=hm [2,10,26,58,32826,4,98362,98362,50,557114,50,4227106,4227106,50,33554466,50,34359738386,4,82,274877907026,82,210,281474976710738,4,4] [] [] [10,46]
def ANA:vt.lv=Fu [[1],[1,3],[1,3,4],[1,3,4,5],[1,3,4,5,15],[2],[1,3,4,5,15,16],[1,3,4,5,15,16],[1,4,5],[1,3,4,5,15,19],[1,4,5],[1,5,15,22],[1,5,15,22],[1,4,5],[1,5,25],[1,4,5],[1,4,35],[2],[1,4,6],[1,4,6,38],[1,4,6],[1,4,6,7],[1,4,6,48],[2],[2]]:=Fy rfl dk
@[go_sem] def AfM:=F4 vt
def AM9:vt.tk=[]/\vt.mt=[]/\vt.pc=[10,46]:=⟨rfl,rfl,rfl⟩
def ANB:FK AA 237 f237 vt:=F0 func237
def ws:Eh:=hm [2,4] [] [] [4,6,7]
def APl:ws.lv=Fu [[1],[2]]:=Fy rfl dk
@[go_sem] def Af9:=F4 ws
def APk:ws.tk=[]/\ws.mt=[]/\ws.pc=[4,6,7]:=⟨rfl,rfl,rfl⟩
def APm:FK AA 160 f160 ws:=F0 func160
def h98:Eh:=hm [2,18,50,114,4210,114,114,178,268435634,178,178,12] [15,31,40,41] [] []
def AW6:h98.lv=Fu [[1],[1,4],[1,4,5],[1,4,5,6],[1,4,5,6,12],[1,4,5,6],[1,4,5,6],[1,4,5,7],[1,4,5,7,28],[1,4,5,7],[1,4,5,7],[2,3]]:=Fy rfl dk
@[go_sem] def Ag3:=F4 h98
def AW5:h98.tk=[15,31,40,41]/\h98.mt=[]/\h98.pc=[]:=⟨rfl,rfl,rfl⟩
def AW7:FK AA 98 f98 h98:=F0 func98
def wr:Eh:=hm [12,44,4194316,16,140,134217868,140,137438953612,16,16] [17] [] [10,20,36]
def APj:wr.lv=Fu [[2,3],[2,3,5],[2,3,22],[4],[2,3,7],[2,3,7,27],[2,3,7],[2,3,7,37],[4],[4]]:=Fy rfl dk
@[go_sem] def Af8:=F4 wr
def APi:wr.tk=[17]/\wr.mt=[]/\wr.pc=[10,20,36]:=⟨rfl,rfl,rfl⟩
def ACJ:FK AA 161 f161 wr:=F0 func161
def wq:Eh:=hm [6,16] [] [] [7]
def APg:wq.lv=Fu [[1,2],[4]]:=Fy rfl dk
@[go_sem] def Af7:=F4 wq
def APf:wq.tk=[]/\wq.mt=[]/\wq.pc=[7]:=⟨rfl,rfl,rfl⟩
def APh:FK AA 162 f162 wq:=F0 func162
def Ia:Eh:=hx [12,2147483660,16,44,68719476780,44,2199023255596,16,76,0x80000000004c,76,108,0x100000000000006c,108,0x20000000000000000006c,108,0x80000000000000000006c,16,136,0x20000000000000000000088,136,392,0x1000000000000000000000000000000188,16,904,0x8000000000000000000000000000000388,904,0x2000000000000000000000000000000000000388,16,16] [] [] [] [34,39,58,67,79,100,106] [(20,2)] []
def AR7:Ia.lv=Fu [[2,3],[2,3,31],[4],[2,3,5],[2,3,5,36],[2,3,5],[2,3,5,41],[4],[2,3,6],[2,3,6,47],[2,3,6],[2,3,5,6],[2,3,5,6,60],[2,3,5,6],[2,3,5,6,81],[2,3,5,6],[2,3,5,6,83],[4],[3,7],[3,7,89],[3,7],[3,7,8],[3,7,8,132],[4],[3,7,8,9],[3,7,8,9,135],[3,7,8,9],[3,7,8,9,157],[4],[4]]:=Fy rfl dk
def AR9:Ia.ct 0=none/\Ia.ct 1=none/\Ia.ct 2=none/\Ia.ct 3=none/\Ia.ct 4=none/\Ia.ct 5=none/\Ia.ct 6=none/\Ia.ct 7=none/\Ia.ct 8=none/\Ia.ct 9=none/\Ia.ct 10=none/\Ia.ct 11=none/\Ia.ct 12=none/\Ia.ct 13=none/\Ia.ct 14=none/\Ia.ct 15=none/\Ia.ct 16=none/\Ia.ct 17=none/\Ia.ct 18=none/\Ia.ct 19=none/\Ia.ct 20=some 2/\Ia.ct 21=none/\Ia.ct 22=none/\Ia.ct 23=none/\Ia.ct 24=none/\Ia.ct 25=none/\Ia.ct 26=none/\Ia.ct 27=none/\Ia.ct 28=none/\Ia.ct 29=none:=dk
def AR4(k:Nat):Ia.at k=[]:=rfl
def AR5(k:Nat):Ia.dn k=false:=AG rfl rfl
def AR6:Ia.tk=[]/\Ia.mt=[]/\Ia.pc=[34,39,58,67,79,100,106]:=⟨rfl,rfl,rfl⟩
def AR8:FK AA 104 f104 Ia:=F0 func104
def h51:Eh:=hm [30,256] [] [] []
def AYc:h51.lv=Fu [[1,2,3,4],[8]]:=Fy rfl dk
@[go_sem] def AhQ:=F4 h51
def AYb:h51.tk=[]/\h51.mt=[]/\h51.pc=[]:=⟨rfl,rfl,rfl⟩
def AYd:FK AA 51 f51 h51:=F0 func51
def h99:Eh:=hm [1,9,521,9,25,262153,4,41,2097193,41,4294967337,4,4] [] [] [16]
def AW3:h99.lv=Fu [[0],[0,3],[0,3,9],[0,3],[0,3,4],[0,3,18],[2],[0,3,5],[0,3,5,21],[0,3,5],[0,3,5,32],[2],[2]]:=Fy rfl dk
@[go_sem] def Ag2:=F4 h99
def AW2:h99.tk=[]/\h99.mt=[]/\h99.pc=[16]:=⟨rfl,rfl,rfl⟩
def AW4:FK AA 99 f99 h99:=F0 func99
def xZ:Eh:=hm [6,16] [] [] []
def ASK:xZ.lv=Fu [[1,2],[4]]:=Fy rfl dk
@[go_sem] def Agn:=F4 xZ
def ASJ:xZ.tk=[]/\xZ.mt=[]/\xZ.pc=[]:=⟨rfl,rfl,rfl⟩
def ASL:FK AA 100 f100 xZ:=F0 func100
def Pw:Eh:=hx [2,134217730,4,26,50,98,4398046511106,4,130,0x800000000082,130,386,0x1000000000000000082,4,514,0x20000000000000000202,514,1538,0x20000000000000000000000000202,4,2050,0x400000000000000000000000000802,2050,0x200000000000000000000000000000802,4,4] [33,35] [] [] [30,34,36,88,94,128] [(10,1),(16,1)] []
def AYT:Pw.lv=Fu [[1],[1,27],[2],[1,3,4],[1,4,5],[1,5,6],[1,42],[2],[1,7],[1,7,47],[1,7],[1,7,8],[1,7,72],[2],[1,9],[1,9,77],[1,9],[1,9,10],[1,9,113],[2],[1,11],[1,11,118],[1,11],[1,11,129],[2],[2]]:=Fy rfl dk
def AYV:Pw.ct 0=none/\Pw.ct 1=none/\Pw.ct 2=none/\Pw.ct 3=none/\Pw.ct 4=none/\Pw.ct 5=none/\Pw.ct 6=none/\Pw.ct 7=none/\Pw.ct 8=none/\Pw.ct 9=none/\Pw.ct 10=some 1/\Pw.ct 11=none/\Pw.ct 12=none/\Pw.ct 13=none/\Pw.ct 14=none/\Pw.ct 15=none/\Pw.ct 16=some 1/\Pw.ct 17=none/\Pw.ct 18=none/\Pw.ct 19=none/\Pw.ct 20=none/\Pw.ct 21=none/\Pw.ct 22=none/\Pw.ct 23=none/\Pw.ct 24=none/\Pw.ct 25=none:=dk
def AYQ(k:Nat):Pw.at k=[]:=rfl
def AYR(k:Nat):Pw.dn k=false:=AG rfl rfl
def AYS:Pw.tk=[33,35]/\Pw.mt=[]/\Pw.pc=[30,34,36,88,94,128]:=⟨rfl,rfl,rfl⟩
def AYU:FK AA 54 f54 Pw:=F0 func54
def xX:Eh:=hm [2,4] [] [] []
def ASE:xX.lv=Fu [[1],[2]]:=Fy rfl dk
@[go_sem] def Agl:=F4 xX
def ASD:xX.tk=[]/\xX.mt=[]/\xX.pc=[]:=⟨rfl,rfl,rfl⟩
def ASF:FK AA 102 f102 xX:=F0 func102
def xW:Eh:=hm [12,16] [] [] []
def ASB:xW.lv=Fu [[2,3],[4]]:=Fy rfl dk
@[go_sem] def Agk:=F4 xW
def ASA:xW.tk=[]/\xW.mt=[]/\xW.pc=[]:=⟨rfl,rfl,rfl⟩
def ASC:FK AA 103 f103 xW:=F0 func103
def h55:Eh:=hm [1,2049,4,9,32777,9,25,8589934601,4,41,68719476777,41,562949953421353,4,73,72057594037927945,4,137,0x800000000000089,137,393,0x800000000000000089,4,4] [] [] [23,54,70]
def AYO:h55.lv=Fu [[0],[0,11],[2],[0,3],[0,3,15],[0,3],[0,3,4],[0,3,33],[2],[0,3,5],[0,3,5,36],[0,3,5],[0,3,5,49],[2],[0,3,6],[0,3,56],[2],[0,3,7],[0,3,7,59],[0,3,7],[0,3,7,8],[0,3,7,71],[2],[2]]:=Fy rfl dk
@[go_sem] def AhN:=F4 h55
def AYN:h55.tk=[]/\h55.mt=[]/\h55.pc=[23,54,70]:=⟨rfl,rfl,rfl⟩
def AYP:FK AA 55 f55 h55:=F0 func55
def h31:Eh:=hm [2,10,42,10,131082,4,4] [] [] []
def AZD:h31.lv=Fu [[1],[1,3],[1,3,5],[1,3],[1,3,17],[2],[2]]:=Fy rfl dk
@[go_sem] def Ahb:=F4 h31
def AZC:h31.tk=[]/\h31.mt=[]/\h31.pc=[]:=⟨rfl,rfl,rfl⟩
def AZE:FK AA 31 f31 h31:=F0 func31
def xF:Eh:=hm [449,961,473,8389057,449] [] [] []
def AQw:xF.lv=Fu [[0,6,7,8],[0,6,7,8,9],[0,3,4,6,7,8],[0,6,7,8,23],[0,6,7,8]]:=Fy rfl dk
@[go_sem] def AgU:=F4 xF
def AQv:xF.tk=[]/\xF.mt=[]/\xF.pc=[]:=⟨rfl,rfl,rfl⟩
def AQx:FK AA 135 f135 xF:=F0 func135
def h81:Eh:=hm [2,4] [] [] []
def AXz:h81.lv=Fu [[1],[2]]:=Fy rfl dk
@[go_sem] def AhH:=F4 h81
def AX0:FK AA 81 f81 h81:=F0 func81
def h39:Eh:=hm [28,280,1080,120,8240,1,16] [] [] []
def AZA:h39.lv=Fu [[2,3,4],[3,4,8],[3,4,5,10],[3,4,5,6],[4,5,13],[0],[4]]:=Fy rfl dk
@[go_sem] def Aha:=F4 h39
def AY9:h39.tk=[]/\h39.mt=[]/\h39.pc=[]:=⟨rfl,rfl,rfl⟩
def AZB:FK AA 39 f39 h39:=F0 func39
def h26:Eh:=hm [28,88,8280,48,24,48] [] [] [11]
def AZP:h26.lv=Fu [[2,3,4],[3,4,6],[3,4,6,13],[4,5],[3,4],[4,5]]:=Fy rfl dk
@[go_sem] def Ahg:=F4 h26
def AZO:h26.tk=[]/\h26.mt=[]/\h26.pc=[11]:=⟨rfl,rfl,rfl⟩
def AZQ:FK AA 26 f26 h26:=F0 func26
def xV:Eh:=hm [6,38,1062,38,16777254,16,16] [] [] []
def ARx:xV.lv=Fu [[1,2],[1,2,5],[1,2,5,10],[1,2,5],[1,2,5,24],[4],[4]]:=Fy rfl dk
@[go_sem] def Agj:=F4 xV
def ARw:xV.tk=[]/\xV.mt=[]/\xV.pc=[]:=⟨rfl,rfl,rfl⟩
def ACN:FK AA 106 f106 xV:=F0 func106
def xG:Eh:=hm [7,64] [] [] []
def AQz:xG.lv=Fu [[0,1,2],[6]]:=Fy rfl dk
@[go_sem] def AgV:=F4 xG
def AQy:xG.tk=[]/\xG.mt=[]/\xG.pc=[]:=⟨rfl,rfl,rfl⟩
def AQ0:FK AA 130 f130 xG:=F0 func130
def h74:Eh:=hm [6,2054,16,16] [] [] [10]
def AX2:h74.lv=Fu [[1,2],[1,2,11],[4],[4]]:=Fy rfl dk
@[go_sem] def AhI:=F4 h74
def AX1:h74.tk=[]/\h74.mt=[]/\h74.pc=[10]:=⟨rfl,rfl,rfl⟩
def AHe:FK AA 74 f74 h74:=F0 func74
def h44:Eh:=hm [28,88,4184,48,24,48] [] [] [10]
def AYu:h44.lv=Fu [[2,3,4],[3,4,6],[3,4,6,12],[4,5],[3,4],[4,5]]:=Fy rfl dk
@[go_sem] def AhW:=F4 h44
def AYt:h44.tk=[]/\h44.mt=[]/\h44.pc=[10]:=⟨rfl,rfl,rfl⟩
def AYv:FK AA 44 f44 h44:=F0 func44
def oZ:AA.cellsOf 143=1/\I7 AA 143=some none/\Fi AA 143=some (.nilf)/\I7 AA 161=some none/\AA.cellsOf 186=1/\I7 AA 186=some none/\Fi AA 186=some (.nilf)/\AA.cellsOf 233=2/\I7 AA 233=some (some 2)/\KJ AA 233 = .struct [(0,1),(1,1)]/\Fa AA 233 0=some (3,0)/\Fa AA 233 1=some (3,1):=UR
def sC:Fi AA 233=some (.agg [.int .i64 0,.int .i64 0])/\AA.underlying 367=some (.int .u64)/\AA.underlying 374=some (.array 49 9):=⟨kr,kr,kr⟩
def vF:Eh:=hm [5,4] [] [] []
def ALA:vF.lv=Fu [[0,2],[2]]:=Fy rfl dk
@[go_sem] def Aeo:=F4 vF
def AK9:vF.tk=[]/\vF.mt=[]/\vF.pc=[]:=⟨rfl,rfl,rfl⟩
def ALB:FK AA 294 f294 vF:=F0 func294
def vC:Eh:=hm [5,133,4,13,29,32797,29,29,4] [] [] []
def AK1:vC.lv=Fu [[0,2],[0,2,7],[2],[0,2,3],[0,2,3,4],[0,2,3,4,15],[0,2,3,4],[0,2,3,4],[2]]:=Fy rfl dk
@[go_sem] def Ael:=F4 vC
def AK0:vC.tk=[]/\vC.mt=[]/\vC.pc=[]:=⟨rfl,rfl,rfl⟩
def AK2:FK AA 297 f297 vC:=F0 func297
def vn:Eh:=hm [6,14,30,542,30,30,4] [12,22] [] [19,23]
def AMs:vn.lv=Fu [[1,2],[1,2,3],[1,2,3,4],[1,2,3,4,9],[1,2,3,4],[1,2,3,4],[2]]:=Fy rfl dk
@[go_sem] def AfI:=F4 vn
def AMr:vn.tk=[12,22]/\vn.mt=[]/\vn.pc=[19,23]:=⟨rfl,rfl,rfl⟩
def AMt:FK AA 242 f242 vn:=F0 func242
def vE:Eh:=hm [19,16] [] [] []
def AK7:vE.lv=Fu [[0,1,4],[4]]:=Fy rfl dk
@[go_sem] def Aen:=F4 vE
def AK6:vE.tk=[]/\vE.mt=[]/\vE.pc=[]:=⟨rfl,rfl,rfl⟩
def AK8:FK AA 295 f295 vE:=F0 func295
def vq:Eh:=hm [28,16] [] [] []
def AM4:vq.lv=Fu [[2,3,4],[4]]:=Fy rfl dk
@[go_sem] def AfK:=F4 vq
def AM3:vq.tk=[]/\vq.mt=[]/\vq.pc=[]:=⟨rfl,rfl,rfl⟩
def AM5:FK AA 239 f239 vq:=F0 func239
def vp:Eh:=hm [6,4] [] [] []
def AMv:vp.lv=Fu [[1,2],[2]]:=Fy rfl dk
@[go_sem] def AfJ:=F4 vp
def AMu:vp.tk=[]/\vp.mt=[]/\vp.pc=[]:=⟨rfl,rfl,rfl⟩
def AMw:FK AA 241 f241 vp:=F0 func241
def vD:Eh:=hm [28,16] [] [] []
def AK4:vD.lv=Fu [[2,3,4],[4]]:=Fy rfl dk
@[go_sem] def Aem:=F4 vD
def AK3:vD.tk=[]/\vD.mt=[]/\vD.pc=[]:=⟨rfl,rfl,rfl⟩
def AK5:FK AA 296 f296 vD:=F0 func296
def Ov:Eh:=hx [6,14,30,4126,30,62,4294967358,30,30,4] [] [] [] [7,21,22,29,30,36] [(4,3)] []
def AM0:Ov.lv=Fu [[1,2],[1,2,3],[1,2,3,4],[1,2,3,4,12],[1,2,3,4],[1,2,3,4,5],[1,2,3,4,5,32],[1,2,3,4],[1,2,3,4],[2]]:=Fy rfl dk
def AM2:Ov.ct 0=none/\Ov.ct 1=none/\Ov.ct 2=none/\Ov.ct 3=none/\Ov.ct 4=some 3/\Ov.ct 5=none/\Ov.ct 6=none/\Ov.ct 7=none/\Ov.ct 8=none/\Ov.ct 9=none:=dk
def AMx(k:Nat):Ov.at k=[]:=rfl
def AMy(k:Nat):Ov.dn k=false:=AG rfl rfl
def AMz:Ov.tk=[]/\Ov.mt=[]/\Ov.pc=[7,21,22,29,30,36]:=⟨rfl,rfl,rfl⟩
def AM1:FK AA 240 f240 Ov:=F0 func240
def vr:Eh:=hm [6,4] [] [] []
def AM7:vr.lv=Fu [[1,2],[2]]:=Fy rfl dk
@[go_sem] def AfL:=F4 vr
def AM6:vr.tk=[]/\vr.mt=[]/\vr.pc=[]:=⟨rfl,rfl,rfl⟩
def AM8:FK AA 238 f238 vr:=F0 func238
def wp:Eh:=hm [28,1052,16,60,120,16] [] [] [13,15,16,18,21,24,26]
def APd:wp.lv=Fu [[2,3,4],[2,3,4,10],[4],[2,3,4,5],[3,4,5,6],[4]]:=Fy rfl dk
@[go_sem] def Af6:=F4 wp
def APc:wp.tk=[]/\wp.mt=[]/\wp.pc=[13,15,16,18,21,24,26]:=⟨rfl,rfl,rfl⟩
def APe:FK AA 163 f163 wp:=F0 func163
def Ox:Eh:=hx [2,18,50,2098,50,114,16777330,12,50,12] [25,36] [] [] [21,23] [(4,1)] []
def AR1:Ox.lv=Fu [[1],[1,4],[1,4,5],[1,4,5,11],[1,4,5],[1,4,5,6],[1,4,5,6,24],[2,3],[1,4,5],[2,3]]:=Fy rfl dk
def AR3:Ox.ct 0=none/\Ox.ct 1=none/\Ox.ct 2=none/\Ox.ct 3=none/\Ox.ct 4=some 1/\Ox.ct 5=none/\Ox.ct 6=none/\Ox.ct 7=none/\Ox.ct 8=none/\Ox.ct 9=none:=dk
def ARy(k:Nat):Ox.at k=[]:=rfl
def ARz(k:Nat):Ox.dn k=false:=AG rfl rfl
def AR0:Ox.tk=[25,36]/\Ox.mt=[]/\Ox.pc=[21,23]:=⟨rfl,rfl,rfl⟩
def AR2:FK AA 105 f105 Ox:=F0 func105
def wZ:Eh:=hm [5,4] [] [] []
def AO0:wZ.lv=Fu [[0,2],[2]]:=Fy rfl dk
@[go_sem] def Afs:=F4 wZ
def AOz:wZ.tk=[]/\wZ.mt=[]/\wZ.pc=[]:=⟨rfl,rfl,rfl⟩
def AO1:FK AA 201 f201 wZ:=F0 func201
def Ou:Eh:=hx [85,4181,64,197,1835204,3932356,1835716,1835204,1835204,64] [17] [] [] [] [(8,3)] []
def AME:Ou.lv=Fu [[0,2,4,6],[0,2,4,6,12],[6],[0,2,6,7],[2,6,7,18,19,20],[2,6,7,18,19,20,21],[2,6,7,9,18,19,20],[2,6,7,18,19,20],[2,6,7,18,19,20],[6]]:=Fy rfl dk
def AMG:Ou.ct 0=none/\Ou.ct 1=none/\Ou.ct 2=none/\Ou.ct 3=none/\Ou.ct 4=none/\Ou.ct 5=none/\Ou.ct 6=none/\Ou.ct 7=none/\Ou.ct 8=some 3/\Ou.ct 9=none:=dk
def AMB(k:Nat):Ou.at k=[]:=rfl
def AMC(k:Nat):Ou.dn k=false:=AG rfl rfl
def AMD:Ou.tk=[17]/\Ou.mt=[]/\Ou.pc=[]:=⟨rfl,rfl,rfl⟩
def AMF:FK AA 273 f273 Ou:=F0 func273
def vZ:Eh:=hm [28,16] [] [] []
def AL9:vZ.lv=Fu [[2,3,4],[4]]:=Fy rfl dk
@[go_sem] def Ae7:=F4 vZ
def AL8:vZ.tk=[]/\vZ.mt=[]/\vZ.pc=[]:=⟨rfl,rfl,rfl⟩
def AMA:FK AA 274 f274 vZ:=F0 func274
def wX:Eh:=hm [5,13,460,972,492,460,460,4] [6,12,18] [] [14,20]
def AOo:wX.lv=Fu [[0,2],[0,2,3],[2,3,6,7,8],[2,3,6,7,8,9],[2,3,5,6,7,8],[2,3,6,7,8],[2,3,6,7,8],[2]]:=Fy rfl dk
@[go_sem] def Afq:=F4 wX
def AOn:wX.tk=[6,12,18]/\wX.mt=[]/\wX.pc=[14,20]:=⟨rfl,rfl,rfl⟩
def AOp:FK AA 204 f204 wX:=F0 func204
def Q0:Eh:=hx [6,14,908,1932,940,908,908,4] [13,19] [] [] [20] [(6,2)] []
def AQg:Q0.lv=Fu [[1,2],[1,2,3],[2,3,7,8,9],[2,3,7,8,9,10],[2,3,5,7,8,9],[2,3,7,8,9],[2,3,7,8,9],[2]]:=Fy rfl dk
def AQi:Q0.ct 0=none/\Q0.ct 1=none/\Q0.ct 2=none/\Q0.ct 3=none/\Q0.ct 4=none/\Q0.ct 5=none/\Q0.ct 6=some 2/\Q0.ct 7=none:=dk
def AQd(k:Nat):Q0.at k=[]:=rfl
def AQe(k:Nat):Q0.dn k=false:=AG rfl rfl
def AQf:Q0.tk=[13,19]/\Q0.mt=[]/\Q0.pc=[20]:=⟨rfl,rfl,rfl⟩
def AQh:FK AA 139 f139 Q0:=F0 func139
def xE:Eh:=hm [28,16] [] [] []
def AQt:xE.lv=Fu [[2,3,4],[4]]:=Fy rfl dk
@[go_sem] def AgT:=F4 xE
def AQs:xE.tk=[]/\xE.mt=[]/\xE.pc=[]:=⟨rfl,rfl,rfl⟩
def AQu:FK AA 136 f136 xE:=F0 func136
def xD:Eh:=hm [6,4] [] [] []
def AQk:xD.lv=Fu [[1,2],[2]]:=Fy rfl dk
@[go_sem] def AgS:=F4 xD
def AQj:xD.tk=[]/\xD.mt=[]/\xD.pc=[]:=⟨rfl,rfl,rfl⟩
def AQl:FK AA 138 f138 xD:=F0 func138
def Ow:Eh:=hx [85,4181,64,197,1835204,3932356,1835716,1835204,1835204,64] [17] [] [] [] [(8,3)] []
def AOw:Ow.lv=Fu [[0,2,4,6],[0,2,4,6,12],[6],[0,2,6,7],[2,6,7,18,19,20],[2,6,7,18,19,20,21],[2,6,7,9,18,19,20],[2,6,7,18,19,20],[2,6,7,18,19,20],[6]]:=Fy rfl dk
def AOy:Ow.ct 0=none/\Ow.ct 1=none/\Ow.ct 2=none/\Ow.ct 3=none/\Ow.ct 4=none/\Ow.ct 5=none/\Ow.ct 6=none/\Ow.ct 7=none/\Ow.ct 8=some 3/\Ow.ct 9=none:=dk
def AOt(k:Nat):Ow.at k=[]:=rfl
def AOu(k:Nat):Ow.dn k=false:=AG rfl rfl
def AOv:Ow.tk=[17]/\Ow.mt=[]/\Ow.pc=[]:=⟨rfl,rfl,rfl⟩
def AOx:FK AA 202 f202 Ow:=F0 func202
def wY:Eh:=hm [28,16] [] [] []
def AOr:wY.lv=Fu [[2,3,4],[4]]:=Fy rfl dk
@[go_sem] def Afr:=F4 wY
def AOq:wY.tk=[]/\wY.mt=[]/\wY.pc=[]:=⟨rfl,rfl,rfl⟩
def AOs:FK AA 203 f203 wY:=F0 func203
def Q1:Eh:=hx [6,14,908,1932,940,908,908,4] [13,25] [] [] [16,17,21,27,28] [(6,2)] []
def AQp:Q1.lv=Fu [[1,2],[1,2,3],[2,3,7,8,9],[2,3,7,8,9,10],[2,3,5,7,8,9],[2,3,7,8,9],[2,3,7,8,9],[2]]:=Fy rfl dk
def AQr:Q1.ct 0=none/\Q1.ct 1=none/\Q1.ct 2=none/\Q1.ct 3=none/\Q1.ct 4=none/\Q1.ct 5=none/\Q1.ct 6=some 2/\Q1.ct 7=none:=dk
def AQm(k:Nat):Q1.at k=[]:=rfl
def AQn(k:Nat):Q1.dn k=false:=AG rfl rfl
def AQo:Q1.tk=[13,25]/\Q1.mt=[]/\Q1.pc=[16,17,21,27,28]:=⟨rfl,rfl,rfl⟩
def AQq:FK AA 137 f137 Q1:=F0 func137
def h82:Eh:=hm [28,540,16,60,16] [] [] [12,14,19,21,24,25]
def AXx:h82.lv=Fu [[2,3,4],[2,3,4,9],[4],[2,3,4,5],[4]]:=Fy rfl dk
@[go_sem] def AhG:=F4 h82
def AXw:h82.tk=[]/\h82.mt=[]/\h82.pc=[12,14,19,21,24,25]:=⟨rfl,rfl,rfl⟩
def AXy:FK AA 82 f82 h82:=F0 func82
def wV:Eh:=hm [2,1024,4,4] [] [] []
def AOc:wV.lv=Fu [[1],[10],[2],[2]]:=Fy rfl dk
@[go_sem] def Afo:=F4 wV
def AOb:wV.tk=[]/\wV.mt=[]/\wV.pc=[]:=⟨rfl,rfl,rfl⟩
def AOd:FK AA 207 f207 wV:=F0 func207
def xB:Eh:=hm [6,34,546,16,8192,16,16] [] [] [7]
def AQZ:xB.lv=Fu [[1,2],[1,5],[1,5,9],[4],[13],[4],[4]]:=Fy rfl dk
@[go_sem] def AgQ:=F4 xB
def AQY:xB.tk=[]/\xB.mt=[]/\xB.pc=[7]:=⟨rfl,rfl,rfl⟩
def AQa:FK AA 141 f141 xB:=F0 func141
def wW:Eh:=hm [28,16] [] [] []
def AOf:wW.lv=Fu [[2,3,4],[4]]:=Fy rfl dk
@[go_sem] def Afp:=F4 wW
def AOe:wW.tk=[]/\wW.mt=[]/\wW.pc=[]:=⟨rfl,rfl,rfl⟩
def AOg:FK AA 206 f206 wW:=F0 func206
def Qy:Eh:=hx [19,51,3634,7730,3762,3634,3634,16] [9] [] [] [18,19] [(6,2)] []
def AMT:Qy.lv=Fu [[0,1,4],[0,1,4,5],[1,4,5,9,10,11],[1,4,5,9,10,11,12],[1,4,5,7,9,10,11],[1,4,5,9,10,11],[1,4,5,9,10,11],[4]]:=Fy rfl dk
def AMV:Qy.ct 0=none/\Qy.ct 1=none/\Qy.ct 2=none/\Qy.ct 3=none/\Qy.ct 4=none/\Qy.ct 5=none/\Qy.ct 6=some 2/\Qy.ct 7=none:=dk
def AMQ(k:Nat):Qy.at k=[]:=rfl
def AMR(k:Nat):Qy.dn k=false:=AG rfl rfl
def AMS:Qy.tk=[9]/\Qy.mt=[]/\Qy.pc=[18,19]:=⟨rfl,rfl,rfl⟩
def AMU:FK AA 267 f267 Qy:=F0 func267
def wc:Eh:=hm [6,4] [] [] [5]
def APB:wc.lv=Fu [[1,2],[2]]:=Fy rfl dk
@[go_sem] def Afw:=F4 wc
def APA:wc.tk=[]/\wc.mt=[]/\wc.pc=[5]:=⟨rfl,rfl,rfl⟩
def ACG:FK AA 195 f195 wc:=F0 func195
def Qz:Eh:=hx [19,51,3634,7730,3762,3634,3634,16] [9] [] [] [18,19] [(6,2)] []
def AOk:Qz.lv=Fu [[0,1,4],[0,1,4,5],[1,4,5,9,10,11],[1,4,5,9,10,11,12],[1,4,5,7,9,10,11],[1,4,5,9,10,11],[1,4,5,9,10,11],[4]]:=Fy rfl dk
def AOm:Qz.ct 0=none/\Qz.ct 1=none/\Qz.ct 2=none/\Qz.ct 3=none/\Qz.ct 4=none/\Qz.ct 5=none/\Qz.ct 6=some 2/\Qz.ct 7=none:=dk
def AOh(k:Nat):Qz.at k=[]:=rfl
def AOi(k:Nat):Qz.dn k=false:=AG rfl rfl
def AOj:Qz.tk=[9]/\Qz.mt=[]/\Qz.pc=[18,19]:=⟨rfl,rfl,rfl⟩
def AOl:FK AA 205 f205 Qz:=F0 func205
def xC:Eh:=hm [6,14,526,12,4] [] [] [6,13,14]
def AQc:xC.lv=Fu [[1,2],[1,2,3],[1,2,3,9],[2,3],[2]]:=Fy rfl dk
@[go_sem] def AgR:=F4 xC
def AQb:xC.tk=[]/\xC.mt=[]/\xC.pc=[6,13,14]:=⟨rfl,rfl,rfl⟩
def ACM:FK AA 140 f140 xC:=F0 func140
def uc:Eh:=hm [7,64] [] [] []
def AJd:uc.lv=Fu [[0,1,2],[6]]:=Fy rfl dk
@[go_sem] def AeJ:=F4 uc
def AJc:uc.tk=[]/\uc.mt=[]/\uc.pc=[]:=⟨rfl,rfl,rfl⟩
def AJe:FK AA 359 f359 uc:=F0 func359
def up:Eh:=hm [1,4] [] [] [4]
def AJ7:up.lv=Fu [[0],[2]]:=Fy rfl dk
@[go_sem] def AeT:=F4 up
def AJ6:up.tk=[]/\up.mt=[]/\up.pc=[4]:=⟨rfl,rfl,rfl⟩
def AJ8:FK AA 333 f333 up:=F0 func333
def ut:Eh:=hm [1,4] [] [] []
def AKG:ut.lv=Fu [[0],[2]]:=Fy rfl dk
@[go_sem] def AeW:=F4 ut
def AKF:ut.tk=[]/\ut.mt=[]/\ut.pc=[]:=⟨rfl,rfl,rfl⟩
def AKH:FK AA 324 f324 ut:=F0 func324
def uZ:Eh:=hm [3,16] [] [] [6,9]
def AJa:uZ.lv=Fu [[0,1],[4]]:=Fy rfl dk
@[go_sem] def AeI:=F4 uZ
def AJZ:uZ.tk=[]/\uZ.mt=[]/\uZ.pc=[6,9]:=⟨rfl,rfl,rfl⟩
def AJb:FK AA 360 f360 uZ:=F0 func360
def uY:Eh:=hm [1,4] [] [] []
def AJX:uY.lv=Fu [[0],[2]]:=Fy rfl dk
@[go_sem] def AeH:=F4 uY
def AJW:uY.tk=[]/\uY.mt=[]/\uY.pc=[]:=⟨rfl,rfl,rfl⟩
def AJY:FK AA 361 f361 uY:=F0 func361
def uo:Eh:=hm [3,67,451,33219,963,134218691,451,451,48] [43] [] [27,47,50]
def AJ4:uo.lv=Fu [[0,1],[0,1,6],[0,1,6,7,8],[0,1,6,7,8,15],[0,1,6,7,8,9],[0,1,6,7,8,9,27],[0,1,6,7,8],[0,1,6,7,8],[4,5]]:=Fy rfl dk
@[go_sem] def AeS:=F4 uo
def AJ3:uo.tk=[43]/\uo.mt=[]/\uo.pc=[27,47,50]:=⟨rfl,rfl,rfl⟩
def AJ5:FK AA 334 f334 uo:=F0 func334
def ul:Eh:=hm [3,35,65571,35,16] [] [] []
def AJ1:ul.lv=Fu [[0,1],[0,1,5],[0,1,5,16],[0,1,5],[4]]:=Fy rfl dk
@[go_sem] def AeR:=F4 ul
def AJ0:ul.tk=[]/\ul.mt=[]/\ul.pc=[]:=⟨rfl,rfl,rfl⟩
def AJ2:FK AA 335 f335 ul:=F0 func335
def uX:Eh:=hm [1,4] [] [] [4]
def AJU:uX.lv=Fu [[0],[2]]:=Fy rfl dk
@[go_sem] def AeG:=F4 uX
def AJT:uX.tk=[]/\uX.mt=[]/\uX.pc=[4]:=⟨rfl,rfl,rfl⟩
def AJV:FK AA 362 f362 uX:=F0 func362
def ui:Eh:=hm [1,4] [] [] [4,7]
def AJv:ui.lv=Fu [[0],[2]]:=Fy rfl dk
@[go_sem] def AeP:=F4 ui
def AJu:ui.tk=[]/\ui.mt=[]/\ui.pc=[4,7]:=⟨rfl,rfl,rfl⟩
def AJw:FK AA 337 f337 ui:=F0 func337
def uj:Eh:=hm [1,4] [] [] [5]
def AJy:uj.lv=Fu [[0],[2]]:=Fy rfl dk
@[go_sem] def AeQ:=F4 uj
def AJx:uj.tk=[]/\uj.mt=[]/\uj.pc=[5]:=⟨rfl,rfl,rfl⟩
def AJz:FK AA 336 f336 uj:=F0 func336
def u7:Eh:=hm [1,131073,4,17,4] [] [] [15,21,28]
def AKq:u7.lv=Fu [[0],[0,17],[2],[0,4],[2]]:=Fy rfl dk
@[go_sem] def Aeh:=F4 u7
def AKp:u7.tk=[]/\u7.mt=[]/\u7.pc=[15,21,28]:=⟨rfl,rfl,rfl⟩
def AKr:FK AA 311 f311 u7:=F0 func311
def vf:Eh:=hm [1,4] [] [] [4]
def AMX:vf.lv=Fu [[0],[2]]:=Fy rfl dk
@[go_sem] def AfB:=F4 vf
def AMW:vf.tk=[]/\vf.mt=[]/\vf.pc=[4]:=⟨rfl,rfl,rfl⟩
def AMY:FK AA 263 f263 vf:=F0 func263
def wT:Eh:=hm [1,4] [] [] [7]
def AOX:wT.lv=Fu [[0],[2]]:=Fy rfl dk
@[go_sem] def Afm:=F4 wT
def AOW:wT.tk=[]/\wT.mt=[]/\wT.pc=[7]:=⟨rfl,rfl,rfl⟩
def AOY:FK AA 209 f209 wT:=F0 func209
def wS:Eh:=hm [1,4] [] [] []
def AOU:wS.lv=Fu [[0],[2]]:=Fy rfl dk
@[go_sem] def Afl:=F4 wS
def AOT:wS.tk=[]/\wS.mt=[]/\wS.pc=[]:=⟨rfl,rfl,rfl⟩
def AOV:FK AA 210 f210 wS:=F0 func210
def ve:Eh:=hm [1,4] [] [] []
def AMO:ve.lv=Fu [[0],[2]]:=Fy rfl dk
@[go_sem] def AfA:=F4 ve
def AMN:ve.tk=[]/\ve.mt=[]/\ve.pc=[]:=⟨rfl,rfl,rfl⟩
def AMP:FK AA 268 f268 ve:=F0 func268
def uh:Eh:=hm [3,387,899,419,65955,16,387,16] [] [] []
def AJs:uh.lv=Fu [[0,1],[0,1,7,8],[0,1,7,8,9],[0,1,5,7,8],[0,1,5,7,8,16],[4],[0,1,7,8],[4]]:=Fy rfl dk
@[go_sem] def AeO:=F4 uh
def AJr:uh.tk=[]/\uh.mt=[]/\uh.pc=[]:=⟨rfl,rfl,rfl⟩
def AJt:FK AA 338 f338 uh:=F0 func338
def u6:Eh:=hm [3,16] [5] [] []
def AKn:u6.lv=Fu [[0,1],[4]]:=Fy rfl dk
@[go_sem] def Aeg:=F4 u6
def AKm:u6.tk=[5]/\u6.mt=[]/\u6.pc=[]:=⟨rfl,rfl,rfl⟩
def AKo:FK AA 313 f313 u6:=F0 func313
def u5:Eh:=hm [6,8] [] [] []
def AKk:u5.lv=Fu [[1,2],[3]]:=Fy rfl dk
@[go_sem] def Aef:=F4 u5
def AKj:u5.tk=[]/\u5.mt=[]/\u5.pc=[]:=⟨rfl,rfl,rfl⟩
def AKl:FK AA 314 f314 u5:=F0 func314
def vd:Eh:=hm [35,64] [12] [] []
def AML:vd.lv=Fu [[0,1,5],[6]]:=Fy rfl dk
@[go_sem] def Ae9:=F4 vd
def AMK:vd.tk=[12]/\vd.mt=[]/\vd.pc=[]:=⟨rfl,rfl,rfl⟩
def AMM:FK AA 269 f269 vd:=F0 func269
def wb:Eh:=hm [2,10,262154,786442,786442,4,537133066,4,0x400000004000a,4,0x1000000000000004000a,4,0x10000000000000000000004000a,4,0x100000000000000000000000000004000a,4,0x10000000000000000000000000000004000a,0x10000000000000000000000000000000000a,4,4] [] [] [33,37,54,58,80,84,89,112,117,138,147]
def AO9:wb.lv=Fu [[1],[1,3],[1,3,18],[1,3,18,19],[1,3,18,19],[2],[1,3,18,29],[2],[1,3,18,50],[2],[1,3,18,76],[2],[1,3,18,104],[2],[1,3,18,132],[2],[1,3,18,140],[1,3,140],[2],[2]]:=Fy rfl dk
@[go_sem] def Afv:=F4 wb
def AO8:wb.tk=[]/\wb.mt=[]/\wb.pc=[33,37,54,58,80,84,89,112,117,138,147]:=⟨rfl,rfl,rfl⟩
def MX:FK AA 197 f197 wb:=F0 func197
def OE:Eh:=hx [7,16391,64,229382,491526,229766,230150,1073971206,64,229382,64] [15] [] [] [] [(9,0)] []
def AL5:OE.lv=Fu [[0,1,2],[0,1,2,14],[6],[1,2,15,16,17],[1,2,15,16,17,18],[1,2,7,8,15,16,17],[1,2,8,9,15,16,17],[1,2,15,16,17,30],[6],[1,2,15,16,17],[6]]:=Fy rfl dk
def AL7:OE.ct 0=none/\OE.ct 1=none/\OE.ct 2=none/\OE.ct 3=none/\OE.ct 4=none/\OE.ct 5=none/\OE.ct 6=none/\OE.ct 7=none/\OE.ct 8=none/\OE.ct 9=some 0/\OE.ct 10=none:=dk
def AL2(k:Nat):OE.at k=[]:=rfl
def AL3(k:Nat):OE.dn k=false:=AG rfl rfl
def AL4:OE.tk=[15]/\OE.mt=[]/\OE.pc=[]:=⟨rfl,rfl,rfl⟩
def AL6:FK AA 275 f275 OE:=F0 func275
def wU:Eh:=hm [12,16] [] [] [36]
def AOa:wU.lv=Fu [[2,3],[4]]:=Fy rfl dk
@[go_sem] def Afn:=F4 wU
def AOZ:wU.tk=[]/\wU.mt=[]/\wU.pc=[36]:=⟨rfl,rfl,rfl⟩
def ACF:FK AA 208 f208 wU:=F0 func208
def u4:Eh:=hm [3,387,899,419,65955,16,387,16] [] [] []
def AKh:u4.lv=Fu [[0,1],[0,1,7,8],[0,1,7,8,9],[0,1,5,7,8],[0,1,5,7,8,16],[4],[0,1,7,8],[4]]:=Fy rfl dk
@[go_sem] def Aee:=F4 u4
def AKg:u4.tk=[]/\u4.mt=[]/\u4.pc=[]:=⟨rfl,rfl,rfl⟩
def AKi:FK AA 315 f315 u4:=F0 func315
def vY:Eh:=hm [3,16] [5] [] []
def AL0:vY.lv=Fu [[0,1],[4]]:=Fy rfl dk
@[go_sem] def Ae6:=F4 vY
def ALz:vY.tk=[5]/\vY.mt=[]/\vY.pc=[]:=⟨rfl,rfl,rfl⟩
def AL1:FK AA 276 f276 vY:=F0 func276
def vX:Eh:=hm [6,8] [] [] []
def ALx:vX.lv=Fu [[1,2],[3]]:=Fy rfl dk
@[go_sem] def Ae5:=F4 vX
def ALw:vX.tk=[]/\vX.mt=[]/\vX.pc=[]:=⟨rfl,rfl,rfl⟩
def ALy:FK AA 277 f277 vX:=F0 func277
def wR:Eh:=hm [35,64] [12] [] []
def AOR:wR.lv=Fu [[0,1,5],[6]]:=Fy rfl dk
@[go_sem] def Afk:=F4 wR
def AOQ:wR.tk=[12]/\wR.mt=[]/\wR.pc=[]:=⟨rfl,rfl,rfl⟩
def AOS:FK AA 211 f211 wR:=F0 func211
def w9:Eh:=hm [2,26,262170,786458,4,8590196762,4,4503599627632666,4,0x800000000004001a,0x800000000000001a,4,4] [] [] [8,31,45,50,61,73]
def AQU:w9.lv=Fu [[1],[1,3,4],[1,3,4,18],[1,3,4,18,19],[2],[1,3,4,18,33],[2],[1,3,4,18,52],[2],[1,3,4,18,63],[1,3,4,63],[2],[2]]:=Fy rfl dk
@[go_sem] def AgO:=F4 w9
def AQT:w9.tk=[]/\w9.mt=[]/\w9.pc=[8,31,45,50,61,73]:=⟨rfl,rfl,rfl⟩
def TG:FK AA 143 f143 w9:=F0 func143
def xA:Eh:=hm [1,2] [] [] [3]
def AQW:xA.lv=Fu [[0],[1]]:=Fy rfl dk
@[go_sem] def AgP:=F4 xA
def AQV:xA.tk=[]/\xA.mt=[]/\xA.pc=[3]:=⟨rfl,rfl,rfl⟩
def AQX:FK AA 142 f142 xA:=F0 func142
def h83:Eh:=hm [2,4] [] [] [4]
def AXu:h83.lv=Fu [[1],[2]]:=Fy rfl dk
@[go_sem] def AhF:=F4 h83
def AXt:h83.tk=[]/\h83.mt=[]/\h83.pc=[4]:=⟨rfl,rfl,rfl⟩
def AXv:FK AA 83 f83 h83:=F0 func83
def dO:Eh:=hx [2,18,1810,3858,1874,1874,4196178,12,1810,1810,12] [23,28] [] [] [17,21] [(9,1)] []
def AY2:dO.lv=Fu [[1],[1,4],[1,4,8,9,10],[1,4,8,9,10,11],[1,4,6,8,9,10],[1,4,6,8,9,10],[1,4,6,8,9,10,22],[2,3],[1,4,8,9,10],[1,4,8,9,10],[2,3]]:=Fy rfl dk
def AY4:dO.ct 0=none/\dO.ct 1=none/\dO.ct 2=none/\dO.ct 3=none/\dO.ct 4=none/\dO.ct 5=none/\dO.ct 6=none/\dO.ct 7=none/\dO.ct 8=none/\dO.ct 9=some 1/\dO.ct 10=none:=dk
def AYz(k:Nat):dO.at k=[]:=rfl
def AY0(k:Nat):dO.dn k=false:=AG rfl rfl
def AY1:dO.tk=[23,28]/\dO.mt=[]/\dO.pc=[17,21]:=⟨rfl,rfl,rfl⟩
def AY3:FK AA 42 f42 dO:=F0 func42
def oc:AA.cellsOf 139=4/\AA.bytesOf 139=56/\I7 AA 139=some (some 4)/\Gb AA 139=true/\(AA.info? 139).isSome=true/\KJ AA 139 = .struct [(0,1),(1,1),(2,1),(3,1)]/\Fa AA 139 0=some (9,0)/\Fa AA 139 1=some (71,1)/\Fa AA 139 2=some (3,2)/\Fa AA 139 3=some (3,3)/\I7 AA 192=some none/\AA.cellsOf 208=5:=UR
def pF:AA.bytesOf 208=64/\I7 AA 208=some (some 5)/\Gb AA 208=true/\KJ AA 208 = .struct [(0,1),(1,1),(2,1),(3,1),(4,1)]/\Fa AA 208 0=some (9,0)/\Fa AA 208 1=some (3,1)/\Fa AA 208 2=some (71,2)/\Fa AA 208 3=some (3,3)/\Fa AA 208 4=some (3,4):=⟨kr,kr,kr,kr,kr,kr,kr,kr,kr⟩
def xH:Eh:=hm [3,387,899,419,65955,16,387,16] [] [] []
def AQ2:xH.lv=Fu [[0,1],[0,1,7,8],[0,1,7,8,9],[0,1,5,7,8],[0,1,5,7,8,16],[4],[0,1,7,8],[4]]:=Fy rfl dk
@[go_sem] def AgW:=F4 xH
def AQ1:xH.tk=[]/\xH.mt=[]/\xH.pc=[]:=⟨rfl,rfl,rfl⟩
def AQ3:FK AA 124 f124 xH:=F0 func124
def vc:Eh:=hm [6,8] [] [] []
def AMI:vc.lv=Fu [[1,2],[3]]:=Fy rfl dk
@[go_sem] def Ae8:=F4 vc
def AMH:vc.tk=[]/\vc.mt=[]/\vc.pc=[]:=⟨rfl,rfl,rfl⟩
def AMJ:FK AA 272 f272 vc:=F0 func272
def wa:Eh:=hm [25,1049,48,81,65617,48,48] [18] [] [8,11]
def AO6:wa.lv=Fu [[0,3,4],[0,3,4,10],[4,5],[0,4,6],[0,4,6,16],[4,5],[4,5]]:=Fy rfl dk
@[go_sem] def Afu:=F4 wa
def AO5:wa.tk=[18]/\wa.mt=[]/\wa.pc=[8,11]:=⟨rfl,rfl,rfl⟩
def AO7:FK AA 199 f199 wa:=F0 func199
def ni:Eh:=hm [2,4] [] [] []
def AO3:ni.lv=Fu [[1],[2]]:=Fy rfl dk
@[go_sem] def Aft:=F4 ni
def AO2:ni.tk=[]/\ni.mt=[]/\ni.pc=[]:=⟨rfl,rfl,rfl⟩
def AO4:FK AA 200 f200 ni:=F0 func200
def oe:AA.cellsOf 126=1/\I7 AA 126=some none/\AA.underlying 126=some (.slice 34)/\Fi AA 126=some (.sl (some 10) [])/\AA.cellsOf 238=1/\I7 AA 238=some none/\AA.cellsOf 239=1/\I7 AA 239=some none/\KJ AA 241 = .struct [(0,1),(1,1)]/\Fa AA 241 0=some (238,0)/\Fa AA 241 1=some (239,1)/\Fi AA 241=some (.agg [.nilf,.nilf]):=UR
def oY:AA.cellsOf 242=1/\I7 AA 242=some none/\Fi AA 242=some (.nilp)/\AA.cellsOf 294=20/\I7 AA 294=some (some 20)/\KJ AA 294 = .struct [(0,10),(10,10)]/\Fa AA 294 0=some (34,0)/\Fa AA 294 1=some (34,10)/\AA.cellsOf 299=20/\I7 AA 299=some (some 20)/\Fa AA 299 0=some (34,0)/\Fa AA 299 1=some (34,10):=UR
def r9:Fi AA 299=some (.agg [.int .i64 0,.int .i64 0,.int .i64 0,.int .i64 0,.int .i64 0,.int .i64 0,.int .i64 0,.int .i64 0,.int .i64 0,.int .i64 0,.int .i64 0,.int .i64 0,.int .i64 0,.int .i64 0,.int .i64 0,.int .i64 0,.int .i64 0,.int .i64 0,.int .i64 0,.int .i64 0]):=kr
def w8:Eh:=hm [3,129,48,48] [8] [] []
def AQR:w8.lv=Fu [[0,1],[0,7],[4,5],[4,5]]:=Fy rfl dk
@[go_sem] def AgN:=F4 w8
def AQQ:w8.tk=[8]/\w8.mt=[]/\w8.pc=[]:=⟨rfl,rfl,rfl⟩
def AQS:FK AA 144 f144 w8:=F0 func144
def wP:Eh:=hm [12,76,204,108,4194380,16,76,16] [] [] []
def AOM:wP.lv=Fu [[2,3],[2,3,6],[2,3,6,7],[2,3,5,6],[2,3,6,22],[4],[2,3,6],[4]]:=Fy rfl dk
@[go_sem] def Afi:=F4 wP
def AOL:wP.tk=[]/\wP.mt=[]/\wP.pc=[]:=⟨rfl,rfl,rfl⟩
def AON:FK AA 213 f213 wP:=F0 func213
def vU:Eh:=hm [2,4] [] [] []
def ALr:vU.lv=Fu [[1],[2]]:=Fy rfl dk
@[go_sem] def Ae3:=F4 vU
def ALq:vU.tk=[]/\vU.mt=[]/\vU.pc=[]:=⟨rfl,rfl,rfl⟩
def ALs:FK AA 279 f279 vU:=F0 func279
def vV:Eh:=hm [92,220,80,64] [] [] [17,19,24]
def ALu:vV.lv=Fu [[2,3,4,6],[2,3,4,6,7],[4,6],[6]]:=Fy rfl dk
@[go_sem] def Ae4:=F4 vV
def ALt:vV.tk=[]/\vV.mt=[]/\vV.pc=[17,19,24]:=⟨rfl,rfl,rfl⟩
def ALv:FK AA 278 f278 vV:=F0 func278
def wN:Eh:=hm [78,202,64] [] [] [9,20,26]
def AOG:wN.lv=Fu [[1,2,3,6],[1,3,6,7],[6]]:=Fy rfl dk
@[go_sem] def Afg:=F4 wN
def AOF:wN.tk=[]/\wN.mt=[]/\wN.pc=[9,20,26]:=⟨rfl,rfl,rfl⟩
def AOH:FK AA 215 f215 wN:=F0 func215
def wO:Eh:=hm [22,16] [] [] [9]
def AOJ:wO.lv=Fu [[1,2,4],[4]]:=Fy rfl dk
@[go_sem] def Afh:=F4 wO
def AOI:wO.tk=[]/\wO.mt=[]/\wO.pc=[9]:=⟨rfl,rfl,rfl⟩
def AOK:FK AA 214 f214 wO:=F0 func214
def wM:Eh:=hm [12,16] [] [] [11,14]
def AOD:wM.lv=Fu [[2,3],[4]]:=Fy rfl dk
@[go_sem] def Aff:=F4 wM
def AOC:wM.tk=[]/\wM.mt=[]/\wM.pc=[11,14]:=⟨rfl,rfl,rfl⟩
def AOE:FK AA 216 f216 wM:=F0 func216
def wQ:Eh:=hm [124,4220,12412,12412,128,528508,128,2147487864,128,17592186048632,17592186044536,0x1000000000000068,128,128,352,0x400000000000000000160,0xc00000000000000000160,128,0x80000000000000000000160,128,1056,128] [] [42,56,73] [42,56,73,78,88,90,98,100,103]
def AOP:wQ.lv=Fu [[2,3,4,5,6],[2,3,4,5,6,12],[2,3,4,5,6,12,13],[2,3,4,5,6,12,13],[7],[2,3,4,5,6,12,19],[7],[3,4,5,6,12,31],[7],[3,4,5,6,12,44],[3,4,5,6,44],[3,5,6,60],[7],[7],[5,6,8],[5,6,8,82],[5,6,8,82,83],[7],[5,6,8,91],[7],[5,10],[7]]:=Fy rfl dk
@[go_sem] def Afj:=F4 wQ
def AOO:wQ.tk=[]/\wQ.mt=[42,56,73]/\wQ.pc=[42,56,73,78,88,90,98,100,103]:=⟨rfl,rfl,rfl⟩
def Nl:FK AA 212 f212 wQ:=F0 func212
def wK:Eh:=hm [28,92,220,124,92,92,16] [] [] []
def AN8:wK.lv=Fu [[2,3,4],[2,3,4,6],[2,3,4,6,7],[2,3,4,5,6],[2,3,4,6],[2,3,4,6],[4]]:=Fy rfl dk
@[go_sem] def Afd:=F4 wK
def AN7:wK.tk=[]/\wK.mt=[]/\wK.pc=[]:=⟨rfl,rfl,rfl⟩
def AN9:FK AA 218 f218 wK:=F0 func218
def wJ:Eh:=hm [22,16] [] [] [7]
def AN5:wJ.lv=Fu [[1,2,4],[4]]:=Fy rfl dk
@[go_sem] def Afc:=F4 wJ
def AN4:wJ.tk=[]/\wJ.mt=[]/\wJ.pc=[7]:=⟨rfl,rfl,rfl⟩
def AN6:FK AA 219 f219 wJ:=F0 func219
def wI:Eh:=hm [3,4097,48,48] [13] [] []
def AN2:wI.lv=Fu [[0,1],[0,12],[4,5],[4,5]]:=Fy rfl dk
@[go_sem] def Afb:=F4 wI
def AN1:wI.tk=[13]/\wI.mt=[]/\wI.pc=[]:=⟨rfl,rfl,rfl⟩
def nh:FK AA 220 f220 wI:=F0 func220
def ur:Eh:=hm [3,35,99,2115,4096,16,16,8195,16,65539,16,524288,16,16] [] [] [8,10]
def AKD:ur.lv=Fu [[0,1],[0,1,5],[0,1,5,6],[0,1,6,11],[12],[4],[4],[0,1,13],[4],[0,1,16],[4],[19],[4],[4]]:=Fy rfl dk
@[go_sem] def AeV:=F4 ur
def AKC:ur.tk=[]/\ur.mt=[]/\ur.pc=[8,10]:=⟨rfl,rfl,rfl⟩
def AKE:FK AA 325 f325 ur:=F0 func325
def vJ:Eh:=hm [3,3587,7683,3683,527971,16,3779,3843,268439299,16,3587,34359738368,16,16] [31,33] [] [26]
def ALM:vJ.lv=Fu [[0,1],[0,1,9,10,11],[0,1,9,10,11,12],[0,1,5,6,9,10,11],[0,1,5,6,9,10,11,19],[4],[0,1,6,7,9,10,11],[0,1,8,9,10,11],[0,1,8,9,10,11,28],[4],[0,1,9,10,11],[35],[4],[4]]:=Fy rfl dk
@[go_sem] def Aes:=F4 vJ
def ALL:vJ.tk=[31,33]/\vJ.mt=[]/\vJ.pc=[26]:=⟨rfl,rfl,rfl⟩
def ACB:FK AA 290 f290 vJ:=F0 func290
def u3:Eh:=hm [12,16] [] [5,6] []
def AKY:u3.lv=Fu [[2,3],[4]]:=Fy rfl dk
@[go_sem] def Aed:=F4 u3
def AKX:u3.tk=[]/\u3.mt=[5,6]/\u3.pc=[]:=⟨rfl,rfl,rfl⟩
def AKZ:FK AA 317 f317 u3:=F0 func317
def M0:Eh:=hx [8199,7,23,2097159,23,33554439,23,55,1073741879,55,137438953511,39,70368744177671] [] [] [] [20] [] [9,11]
def AKd:M0.lv=Fu [[0,1,2,13],[0,1,2],[0,1,2,4],[0,1,2,21],[0,1,2,4],[0,1,2,25],[0,1,2,4],[0,1,2,4,5],[0,1,2,4,5,30],[0,1,2,4,5],[0,1,2,5,37],[0,1,2,5],[0,1,2,46]]:=Fy rfl dk
def AKf(k:Nat):M0.ct k=none:=rfl
def AKa(k:Nat):M0.at k=[]:=rfl
def AKb:M0.dn 0=false/\M0.dn 1=false/\M0.dn 2=false/\M0.dn 3=false/\M0.dn 4=false/\M0.dn 5=false/\M0.dn 6=false/\M0.dn 7=false/\M0.dn 8=false/\M0.dn 9=true/\M0.dn 10=false/\M0.dn 11=true/\M0.dn 12=false:=dk
def AKc:M0.tk=[]/\M0.mt=[]/\M0.pc=[20]:=⟨rfl,rfl,rfl⟩
def AKe:FK AA 316 f316 M0:=F0 func316
def ALp:Eh:=hm [12,16] [] [] []
def ALn:ALp.lv=Fu [[2,3],[4]]:=Fy rfl dk
@[go_sem] def Ae2:=F4 ALp
def ALo:FK AA 280 f280 ALp:=F0 func280
def iU:Eh:=hm [3,35,544,96,1,16] [7,8,11] [5,14] []
def ANz:iU.lv=Fu [[0,1],[0,1,5],[5,9],[5,6],[0],[4]]:=Fy rfl dk
@[go_sem] def Afa:=F4 iU
def ANy:iU.tk=[7,8,11]/\iU.mt=[5,14]/\iU.pc=[]:=⟨rfl,rfl,rfl⟩
def AN0:FK AA 221 f221 iU:=F0 func221
def OG:Eh:=hx [21,277,789,115473,246545,117009,127249,115473,549755929361,115473,192] [14,31,32,41] [27] [(6,[(8,none,true)])] [27] [] []
def ANv:OG.lv=Fu [[0,2,4],[0,2,4,8],[0,2,4,8,9],[0,4,8,9,14,15,16],[0,4,8,9,14,15,16,17],[0,4,8,11,14,15,16],[0,4,8,12,13,14,15,16],[0,4,8,9,14,15,16],[0,4,8,9,14,15,16,39],[0,4,8,9,14,15,16],[6,7]]:=Fy rfl dk
def ANx(k:Nat):OG.ct k=none:=rfl
def ANs:OG.at 0=[]/\OG.at 1=[]/\OG.at 2=[]/\OG.at 3=[]/\OG.at 4=[]/\OG.at 5=[]/\OG.at 6=[(8,none,true)]/\OG.at 7=[]/\OG.at 8=[]/\OG.at 9=[]/\OG.at 10=[]:=dk
def ANt(k:Nat):OG.dn k=false:=AG rfl rfl
def ANu:OG.tk=[14,31,32,41]/\OG.mt=[27]/\OG.pc=[27]:=⟨rfl,rfl,rfl⟩
def ANw:FK AA 222 f222 OG:=F0 func222
def uz:Eh:=hm [3,387,899,419,65955,16,387,16] [] [] []
def AKW:uz.lv=Fu [[0,1],[0,1,7,8],[0,1,7,8,9],[0,1,5,7,8],[0,1,5,7,8,16],[4],[0,1,7,8],[4]]:=Fy rfl dk
@[go_sem] def Aec:=F4 uz
def AKV:uz.tk=[]/\uz.mt=[]/\uz.pc=[]:=⟨rfl,rfl,rfl⟩
def AB8:FK AA 318 f318 uz:=F0 func318
def vT:Eh:=hm [3,35,4131,16,99,524387,99,227,536871139,99,99,33,16] [13,39] [] []
def ALm:vT.lv=Fu [[0,1],[0,1,5],[0,1,5,12],[4],[0,1,5,6],[0,1,5,6,19],[0,1,5,6],[0,1,5,6,7],[0,1,5,6,7,29],[0,1,5,6],[0,1,5,6],[0,5],[4]]:=Fy rfl dk
@[go_sem] def Ae1:=F4 vT
def ALl:vT.tk=[13,39]/\vT.mt=[]/\vT.pc=[]:=⟨rfl,rfl,rfl⟩
def ACC:FK AA 281 f281 vT:=F0 func281
def uy:Eh:=hm [21,277,1813,132885,3861,2147487509,1813,1813,192] [41] [] [30,46]
def AKT:uy.lv=Fu [[0,2,4],[0,2,4,8],[0,2,4,8,9,10],[0,2,4,8,9,10,17],[0,2,4,8,9,10,11],[0,2,4,8,9,10,11,31],[0,2,4,8,9,10],[0,2,4,8,9,10],[6,7]]:=Fy rfl dk
@[go_sem] def Aeb:=F4 uy
def AKS:uy.tk=[41]/\uy.mt=[]/\uy.pc=[30,46]:=⟨rfl,rfl,rfl⟩
def AKU:FK AA 319 f319 uy:=F0 func319
def vR:Eh:=hm [9,64,16] [8] [] [10]
def ALg:vR.lv=Fu [[0,3],[6],[4]]:=Fy rfl dk
@[go_sem] def Aez:=F4 vR
def ALf:vR.tk=[8]/\vR.mt=[]/\vR.pc=[10]:=⟨rfl,rfl,rfl⟩
def ALh:FK AA 283 f283 vR:=F0 func283
def vS:Eh:=hm [6,8] [] [] [6]
def ALj:vS.lv=Fu [[1,2],[3]]:=Fy rfl dk
@[go_sem] def Ae0:=F4 vS
def ALi:vS.tk=[]/\vS.mt=[]/\vS.pc=[6]:=⟨rfl,rfl,rfl⟩
def ALk:FK AA 282 f282 vS:=F0 func282
def OF:Eh:=hx [49,529,3601,3601,13841,11793,11793,274877910545,448,2199023259153,448] [22,26] [] [(5,[(11,none,true)])] [] [] []
def ANp:OF.lv=Fu [[0,4,5],[0,4,9],[0,4,9,10,11],[0,4,9,10,11],[0,4,9,10,12,13],[0,4,9,10,11,13],[0,4,9,10,11,13],[0,4,9,10,11,38],[6,7,8],[0,4,9,10,11,41],[6,7,8]]:=Fy rfl dk
def ANr(k:Nat):OF.ct k=none:=rfl
def ANm:OF.at 0=[]/\OF.at 1=[]/\OF.at 2=[]/\OF.at 3=[]/\OF.at 4=[]/\OF.at 5=[(11,none,true)]/\OF.at 6=[]/\OF.at 7=[]/\OF.at 8=[]/\OF.at 9=[]/\OF.at 10=[]:=dk
def ANn(k:Nat):OF.dn k=false:=AG rfl rfl
def ANo:OF.tk=[22,26]/\OF.mt=[]/\OF.pc=[]:=⟨rfl,rfl,rfl⟩
def ANq:FK AA 223 f223 OF:=F0 func223
def wL:Eh:=hm [60,1048636,3145788,2147483680,192,192,17180917820,304,192,0x4000000100034,3124,15360,192,0x10000000000000000000034,49172,0x100000000000000000000004014,192,192,327680,192] [78,79,110,125] [30,62,75,100,111,121] [30,40,46,48,62,75,85,100]
def AOB:wL.lv=Fu [[2,3,4,5],[2,3,4,5,20],[2,3,4,5,20,21],[5,31],[6,7],[6,7],[2,3,4,5,20,34],[4,5,8],[6,7],[2,4,5,20,50],[2,4,5,10,11],[10,11,12,13],[6,7],[2,4,5,88],[2,4,14,15],[2,4,14,104],[6,7],[6,7],[16,18],[6,7]]:=Fy rfl dk
@[go_sem] def Afe:=F4 wL
def AOA:wL.tk=[78,79,110,125]/\wL.mt=[30,62,75,100,111,121]/\wL.pc=[30,40,46,48,62,75,85,100]:=⟨rfl,rfl,rfl⟩
def LD:FK AA 217 f217 wL:=F0 func217
def w7:Eh:=hm [12,44,36,32,16] [] [] []
def AQO:w7.lv=Fu [[2,3],[2,3,5],[2,5],[5],[4]]:=Fy rfl dk
@[go_sem] def AgM:=F4 w7
def AQN:w7.tk=[]/\w7.mt=[]/\w7.pc=[]:=⟨rfl,rfl,rfl⟩
def AQP:FK AA 145 f145 w7:=F0 func145
def h84:Eh:=hx [105,768] [10] [12,18] [] [18,21] [] [2006,2007]
def AXr:h84.lv=Fu [[0,3,5,6],[8,9]]:=Fy rfl dk
def AXs(k:Nat):h84.ct k=none:=rfl
def AXo(k:Nat):h84.at k=[]:=rfl
def AXp:h84.dn 0=false/\h84.dn 1=true:=dk
def AXq:h84.tk=[10]/\h84.mt=[12,18]/\h84.pc=[18,21]:=⟨rfl,rfl,rfl⟩
def AHd:FK AA 84 f84 h84:=F0 func84
def ug:Eh:=hm [1,4] [] [] []
def AJp:ug.lv=Fu [[0],[2]]:=Fy rfl dk
@[go_sem] def AeN:=F4 ug
def AJo:ug.tk=[]/\ug.mt=[]/\ug.pc=[]:=⟨rfl,rfl,rfl⟩
def AJq:FK AA 341 f341 ug:=F0 func341
def AWI:AA.underlying 32=some (.slice 94)/\nW AA 32=true/\AA.cellsOf 36=11/\I7 AA 36=some (some 11)/\Gb AA 36=true/\Fa AA 36 0=some (34,0)/\Fa AA 36 1=some (3,10)/\AA.underlying 41=some (.slice 49)/\AA.underlying 44=some (.slice 36)/\AA.cellsOf 47=1/\I7 AA 47=some none/\AA.underlying 47=some (.slice 75):=UR
def yF:AA.cellsOf 49=2/\AA.bytesOf 49=32/\I7 AA 49=some (some 2)/\Gb AA 49=true/\(AA.info? 49).isSome=true/\Fa AA 49 0=some (46,0)/\Fa AA 49 1=some (47,1)/\AA.cellsOf 68=1/\I7 AA 68=some none/\AA.underlying 68=some (.slice 71)/\Fi AA 68=some (.sl (some 1) [])/\AA.cellsOf 75=12:=UR
def yP:AA.bytesOf 75=112/\I7 AA 75=some (some 12)/\Gb AA 75=true/\KJ AA 75 = .struct [(0,1),(1,10),(11,1)]/\Fa AA 75 0=some (3,0)/\Fa AA 75 1=some (34,1)/\Fa AA 75 2=some (71,11)/\AA.cellsOf 94=1/\AA.bytesOf 94=24/\I7 AA 94=some none/\AA.underlying 94=some (.slice 139)/\nW AA 94=true:=UR
def ze:Gb AA 94=true/\AA.underlying 145=some (.slice 4)/\AA.underlying 149=some (.slice 208)/\I7 AA 182=some none/\AA.cellsOf 183=1/\I7 AA 183=some none/\Fi AA 183=some (.nilf)/\AA.cellsOf 244=1/\I7 AA 244=some none/\I7 AA 245=some none/\AA.cellsOf 246=7/\AA.underlying 246=some (.array 7 244):=UR
def ADN:KJ AA 246 = .array 1/\Fi AA 246=some (.agg [.nilf,.nilf,.nilf,.nilf,.nilf,.nilf,.nilf])/\KJ AA 250 = .struct [(0,1),(1,6),(7,1),(8,10),(18,1),(19,4),(23,1)]/\Fa AA 250 0=some (27,0)/\Fa AA 250 1=some (110,1)/\Fa AA 250 2=some (94,7)/\Fa AA 250 3=some (34,8)/\Fa AA 250 4=some (3,18)/\Fa AA 250 5=some (139,19)/\Fa AA 250 6=some (4,23)/\I7 AA 309=some none:=⟨kr,kr,kr,kr,kr,kr,kr,kr,kr,kr,kr⟩
def h28:Eh:=hm [2,10,1073741826,4,18,34359738386,18,50,35184372088850,4,66,0x4000000000042,66,194,0x2000000000000042,4,4] [] [] [10,43,59]
def AZK:h28.lv=Fu [[1],[1,3],[1,30],[2],[1,4],[1,4,35],[1,4],[1,4,5],[1,4,45],[2],[1,6],[1,6,50],[1,6],[1,6,7],[1,6,61],[2],[2]]:=Fy rfl dk
@[go_sem] def Ahe:=F4 h28
def AZJ:h28.tk=[]/\h28.mt=[]/\h28.pc=[10,43,59]:=⟨rfl,rfl,rfl⟩
def AHg:FK AA 28 f28 h28:=F0 func28
def h56:Eh:=hm [6,38,102,2097254,16,294,536871206,16,17592186044454,16,550,562949953421862,550,1574,0x40000000000626,1574,3622,0x8000000000000e26,3622,0x20000000000000000626,16,16] [] [] [19,25,75]
def AYL:h56.lv=Fu [[1,2],[1,2,5],[1,2,5,6],[1,2,5,6,21],[4],[1,2,5,8],[1,2,5,8,29],[4],[1,2,5,44],[4],[1,2,5,9],[1,2,5,9,49],[1,2,5,9],[1,2,5,9,10],[1,2,5,9,10,54],[1,2,5,9,10],[1,2,5,9,10,11],[1,2,5,9,10,11,63],[1,2,5,9,10,11],[1,2,5,9,10,77],[4],[4]]:=Fy rfl dk
@[go_sem] def AhM:=F4 h56
def AYK:h56.tk=[]/\h56.mt=[]/\h56.pc=[19,25,75]:=⟨rfl,rfl,rfl⟩
def AYM:FK AA 56 f56 h56:=F0 func56
def xU:Eh:=hm [6,70,2118,70,2097222,48,48] [] [] []
def ARu:xU.lv=Fu [[1,2],[1,2,6],[1,2,6,11],[1,2,6],[1,2,6,21],[4,5],[4,5]]:=Fy rfl dk
@[go_sem] def Agi:=F4 xU
def ARt:xU.tk=[]/\xU.mt=[]/\xU.pc=[]:=⟨rfl,rfl,rfl⟩
def ARv:FK AA 107 f107 xU:=F0 func107
def xT:Eh:=hm [6,16] [] [] []
def ARr:xT.lv=Fu [[1,2],[4]]:=Fy rfl dk
@[go_sem] def Agh:=F4 xT
def ARq:xT.tk=[]/\xT.mt=[]/\xT.pc=[]:=⟨rfl,rfl,rfl⟩
def ARs:FK AA 108 f108 xT:=F0 func108
def h57:Eh:=hm [12,108,492,2147483820,16,684,1708,0x40000000000000c,16,2060,0x2000000000000080c,16,0x40000000000000000000000000000,16,16] [] [] [16,23,39,47,63]
def AYI:h57.lv=Fu [[2,3],[2,3,5,6],[2,3,5,6,7,8],[2,3,5,7,31],[4],[2,3,5,7,9],[2,3,5,7,9,10],[2,3,58],[4],[2,3,11],[2,3,11,65],[4],[114],[4],[4]]:=Fy rfl dk
@[go_sem] def AhL:=F4 h57
def AYH:h57.tk=[]/\h57.mt=[]/\h57.pc=[16,23,39,47,63]:=⟨rfl,rfl,rfl⟩
def AYJ:FK AA 57 f57 h57:=F0 func57
def YD:Eh:=hx [6,38,100,228,1048804,228,484,134218212,484,996,0x80000000000003e4,996,484,16] [67,71] [] [(13,[(4,none,false)])] [38] [] []
def AYE:YD.lv=Fu [[1,2],[1,2,5],[2,5,6],[2,5,6,7],[2,5,6,7,20],[2,5,6,7],[2,5,6,7,8],[2,5,6,7,8,27],[2,5,6,7,8],[2,5,6,7,8,9],[2,5,6,7,8,9,63],[2,5,6,7,8,9],[2,5,6,7,8],[4]]:=Fy rfl dk
def AYG(k:Nat):YD.ct k=none:=rfl
def AYB:YD.at 0=[]/\YD.at 1=[]/\YD.at 2=[]/\YD.at 3=[]/\YD.at 4=[]/\YD.at 5=[]/\YD.at 6=[]/\YD.at 7=[]/\YD.at 8=[]/\YD.at 9=[]/\YD.at 10=[]/\YD.at 11=[]/\YD.at 12=[]/\YD.at 13=[(4,none,false)]:=dk
def AYC(k:Nat):YD.dn k=false:=AG rfl rfl
def AYD:YD.tk=[67,71]/\YD.mt=[]/\YD.pc=[38]:=⟨rfl,rfl,rfl⟩
def AYF:FK AA 58 f58 YD:=F0 func58
def h29:Eh:=hm [2,18,8210,12,18,524306,12,1073741826,12,34,34359738402,34,50,4398046511154,12,66,562949953421378,66,82,0x1000000000000052,12,130,0x80000000000000082,130,386,0x10000000000000000082,12,12] [73] [] [11,17,40,58,72]
def AZH:h29.lv=Fu [[1],[1,4],[1,4,13],[2,3],[1,4],[1,4,19],[2,3],[1,30],[2,3],[1,5],[1,5,35],[1,5],[1,4,5],[1,4,5,42],[2,3],[1,6],[1,6,49],[1,6],[1,4,6],[1,4,6,60],[2,3],[1,7],[1,7,67],[1,7],[1,7,8],[1,7,76],[2,3],[2,3]]:=Fy rfl dk
@[go_sem] def Ahd:=F4 h29
def AZG:h29.tk=[73]/\h29.mt=[]/\h29.pc=[11,17,40,58,72]:=⟨rfl,rfl,rfl⟩
def AZI:FK AA 29 f29 h29:=F0 func29
def h11:Eh:=hm [2,10,514,4,32,4] [] [] [7,12]
def AZg:h11.lv=Fu [[1],[1,3],[1,9],[2],[5],[2]]:=Fy rfl dk
@[go_sem] def Ahn:=F4 h11
def AZf:h11.tk=[]/\h11.mt=[]/\h11.pc=[7,12]:=⟨rfl,rfl,rfl⟩
def AZh:FK AA 11 f11 h11:=F0 func11
def xP:Eh:=hm [3,35,547,35,262179,16,16] [] [] []
def ART:xP.lv=Fu [[0,1],[0,1,5],[0,1,5,9],[0,1,5],[0,1,5,18],[4],[4]]:=Fy rfl dk
@[go_sem] def Agd:=F4 xP
def ARS:xP.tk=[]/\xP.mt=[]/\xP.pc=[]:=⟨rfl,rfl,rfl⟩
def ARU:FK AA 114 f114 xP:=F0 func114
def wd:Eh:=hm [1,9,25,153,25,25,4] [] [] []
def APE:wd.lv=Fu [[0],[0,3],[0,3,4],[0,3,4,7],[0,3,4],[0,3,4],[2]]:=Fy rfl dk
@[go_sem] def Afx:=F4 wd
def APD:wd.tk=[]/\wd.mt=[]/\wd.pc=[]:=⟨rfl,rfl,rfl⟩
def APF:FK AA 172 f172 wd:=F0 func172
def xO:Eh:=hm [28,34359738396,64,156,1099511627932,156,0x400000000000009c,64,0x1000000000000001c,0x3000000000000001c,64,0x41000000000000001c,284,0x800000000000000011c,284,0x80000000000000000000011c,64,64,0x1000000000000000000000000018,64,64] [] [] [60]
def ARQ:xO.lv=Fu [[2,3,4],[2,3,4,35],[6],[2,3,4,7],[2,3,4,7,40],[2,3,4,7],[2,3,4,7,62],[6],[2,3,4,64],[2,3,4,64,65],[6],[2,3,4,64,70],[2,3,4,8],[2,3,4,8,75],[2,3,4,8],[2,3,4,8,95],[6],[6],[3,4,108],[6],[6]]:=Fy rfl dk
@[go_sem] def Agc:=F4 xO
def ARP:xO.tk=[]/\xO.mt=[]/\xO.pc=[60]:=⟨rfl,rfl,rfl⟩
def ARR:FK AA 115 f115 xO:=F0 func115
def h50:Eh:=hm [3,35,32803,35,67108899,16,34359738403,16,1099511627779,16,35184372088832,16,16] [41,43] [] []
def AYf:h50.lv=Fu [[0,1],[0,1,5],[0,1,5,15],[0,1,5],[0,1,5,26],[4],[0,1,5,35],[4],[0,1,40],[4],[45],[4],[4]]:=Fy rfl dk
@[go_sem] def AhR:=F4 h50
def AYe:h50.tk=[41,43]/\h50.mt=[]/\h50.pc=[]:=⟨rfl,rfl,rfl⟩
def AYg:FK AA 50 f50 h50:=F0 func50
def xN:Eh:=hm [12,524,16,16396,16,16] [] [] [19]
def ARN:xN.lv=Fu [[2,3],[2,3,9],[4],[2,3,14],[4],[4]]:=Fy rfl dk
@[go_sem] def Agb:=F4 xN
def ARM:xN.tk=[]/\xN.mt=[]/\xN.pc=[19]:=⟨rfl,rfl,rfl⟩
def ARO:FK AA 116 f116 xN:=F0 func116
def xM:Eh:=hm [3,35,99,1123,99,524387,99,16] [] [] []
def ARK:xM.lv=Fu [[0,1],[0,1,5],[0,1,5,6],[0,1,5,6,10],[0,1,5,6],[0,1,5,6,19],[0,1,5,6],[4]]:=Fy rfl dk
@[go_sem] def Aga:=F4 xM
def ARJ:xM.tk=[]/\xM.mt=[]/\xM.pc=[]:=⟨rfl,rfl,rfl⟩
def ARL:FK AA 117 f117 xM:=F0 func117
def h60:Eh:=hm [3,35,2083,35,99,4194403,16,163,68719476771,16,0x8000000000023,16,0x2000000000000023,16,16] [] [] [20,34,49,60]
def AX4:h60.lv=Fu [[0,1],[0,1,5],[0,1,5,11],[0,1,5],[0,1,5,6],[0,1,5,6,22],[4],[0,1,5,7],[0,1,5,36],[4],[0,1,5,51],[4],[0,1,5,61],[4],[4]]:=Fy rfl dk
@[go_sem] def AhK:=F4 h60
def xL:Eh:=hm [3,35,99,227,2275,227,8388835,163,227,8589934819,227,4398046511138,32,16] [24,34,43,47] [] []
def ARH:xL.lv=Fu [[0,1],[0,1,5],[0,1,5,6],[0,1,5,6,7],[0,1,5,6,7,11],[0,1,5,6,7],[0,1,5,6,7,23],[0,1,5,7],[0,1,5,6,7],[0,1,5,6,7,33],[0,1,5,6,7],[1,5,42],[5],[4]]:=Fy rfl dk
@[go_sem] def AgZ:=F4 xL
def ARG:xL.tk=[24,34,43,47]/\xL.mt=[]/\xL.pc=[]:=⟨rfl,rfl,rfl⟩
def ARI:FK AA 118 f118 xL:=F0 func118
def h61:Eh:=hm [3,35,99,65635,99,33554531,99,163,419,137438953891,419,931,1955,4003,281474976714659,4003,8099,0x80000000000001fa3,8099,8099,0x400000000000000001fa3,7075,2979,4003,419,16] [26,89,93] [] [33,70,75,78]
def AX3:h61.lv=Fu [[0,1],[0,1,5],[0,1,5,6],[0,1,5,6,16],[0,1,5,6],[0,1,5,6,25],[0,1,5,6],[0,1,5,7],[0,1,5,7,8],[0,1,5,7,8,37],[0,1,5,7,8],[0,1,5,7,8,9],[0,1,5,7,8,9,10],[0,1,5,7,8,9,10,11],[0,1,5,7,8,9,10,11,48],[0,1,5,7,8,9,10,11],[0,1,5,7,8,9,10,11,12],[0,1,5,7,8,9,10,11,12,67],[0,1,5,7,8,9,10,11,12],[0,1,5,7,8,9,10,11,12],[0,1,5,7,8,9,10,11,12,82],[0,1,5,7,8,9,11,12],[0,1,5,7,8,9,11],[0,1,5,7,8,9,10,11],[0,1,5,7,8],[4]]:=Fy rfl dk
@[go_sem] def AhJ:=F4 h61
def h30:Eh:=hm [7,135,262151,64,256,64] [19,20,22] [] [11,21,23]
def AZF:h30.lv=Fu [[0,1,2],[0,1,2,7],[0,1,2,18],[6],[8],[6]]:=Fy rfl dk
@[go_sem] def Ahc:=F4 h30
def h12:Eh:=hm [6,4102,16,38,65574,38,102,2199023255590,16,16] [] [] [31]
def AZe:h12.lv=Fu [[1,2],[1,2,12],[4],[1,2,5],[1,2,5,16],[1,2,5],[1,2,5,6],[1,2,5,41],[4],[4]]:=Fy rfl dk
@[go_sem] def Ahm:=F4 h12
def OH:Eh:=hm [2,10,4] [] [] [6]
def AZc:OH.lv=Fu [[1],[1,3],[2]]:=Fy rfl dk
@[go_sem] def Ahl:=F4 OH
def AZb:OH.tk=[]/\OH.mt=[]/\OH.pc=[6]:=⟨rfl,rfl,rfl⟩
def AZd:FK AA 13 f13 OH:=F0 func13
def h4:Eh:=hm [14,131076,64,1835008,3932160,1835264,68943872,64,1835008,64] [14,18] [] [10,15,25]
def AeC:h4.lv=Fu [[1,2,3],[2,17],[6],[18,19,20],[18,19,20,21],[8,18,19,20],[18,19,20,26],[6],[18,19,20],[6]]:=Fy rfl dk
@[go_sem] def Aiz:=F4 h4
def h89:Eh:=hm [3,387,899,419,65955,16,387,16] [] [] []
def AXU:h89.lv=Fu [[0,1],[0,1,7,8],[0,1,7,8,9],[0,1,5,7,8],[0,1,5,7,8,16],[4],[0,1,7,8],[4]]:=Fy rfl dk
@[go_sem] def AhC:=F4 h89
def AXT:h89.tk=[]/\h89.mt=[]/\h89.pc=[]:=⟨rfl,rfl,rfl⟩
def AXV:FK AA 89 f89 h89:=F0 func89
def h90:Eh:=hm [6,8] [] [] []
def AXR:h90.lv=Fu [[1,2],[3]]:=Fy rfl dk
@[go_sem] def AhB:=F4 h90
def AXQ:h90.tk=[]/\h90.mt=[]/\h90.pc=[]:=⟨rfl,rfl,rfl⟩
def AXS:FK AA 90 f90 h90:=F0 func90
def h47:Eh:=hm [12,64,48] [] [] []
def AYl:h47.lv=Fu [[2,3],[6],[4,5]]:=Fy rfl dk
@[go_sem] def AhT:=F4 h47
def AYk:h47.tk=[]/\h47.mt=[]/\h47.pc=[]:=⟨rfl,rfl,rfl⟩
def AYm:FK AA 47 f47 h47:=F0 func47
def h86:Eh:=hm [3,387,899,419,65955,16,387,16] [] [] []
def AXg:h86.lv=Fu [[0,1],[0,1,7,8],[0,1,7,8,9],[0,1,5,7,8],[0,1,5,7,8,16],[4],[0,1,7,8],[4]]:=Fy rfl dk
@[go_sem] def AhE:=F4 h86
def AXf:h86.tk=[]/\h86.mt=[]/\h86.pc=[]:=⟨rfl,rfl,rfl⟩
def AXh:FK AA 86 f86 h86:=F0 func86
def h40:Eh:=hm [6,1] [3] [] []
def AY7:h40.lv=Fu [[1,2],[0]]:=Fy rfl dk
@[go_sem] def AhZ:=F4 h40
def AY6:h40.tk=[3]/\h40.mt=[]/\h40.pc=[]:=⟨rfl,rfl,rfl⟩
def AY8:FK AA 40 f40 h40:=F0 func40
def h41:Eh:=hm [1,17,4,4] [6] [] []
def AY5:h41.lv=Fu [[0],[0,4],[2],[2]]:=Fy rfl dk
@[go_sem] def AhY:=F4 h41
def ux:Eh:=hm [1,17,4,4] [6] [5,7] []
def AKQ:ux.lv=Fu [[0],[0,4],[2],[2]]:=Fy rfl dk
@[go_sem] def Aea:=F4 ux
def AKP:ux.tk=[6]/\ux.mt=[5,7]/\ux.pc=[]:=⟨rfl,rfl,rfl⟩
def AKR:FK AA 320 f320 ux:=F0 func320
def wE:Eh:=hm [3,387,899,419,65955,16,387,16] [] [] []
def ANc:wE.lv=Fu [[0,1],[0,1,7,8],[0,1,7,8,9],[0,1,5,7,8],[0,1,5,7,8,16],[4],[0,1,7,8],[4]]:=Fy rfl dk
@[go_sem] def AfW:=F4 wE
def ANb:wE.tk=[]/\wE.mt=[]/\wE.pc=[]:=⟨rfl,rfl,rfl⟩
def ng:FK AA 227 f227 wE:=F0 func227
def uw:Eh:=hm [3,35,4131,16,99,524387,99,227,536871139,99,99,33,16] [13,39] [] []
def AKM:uw.lv=Fu [[0,1],[0,1,5],[0,1,5,12],[4],[0,1,5,6],[0,1,5,6,19],[0,1,5,6],[0,1,5,6,7],[0,1,5,6,7,29],[0,1,5,6],[0,1,5,6],[0,5],[4]]:=Fy rfl dk
@[go_sem] def AeY:=F4 uw
def AKL:uw.tk=[13,39]/\uw.mt=[]/\uw.pc=[]:=⟨rfl,rfl,rfl⟩
def AB6:FK AA 322 f322 uw:=F0 func322
def uu:Eh:=hm [6,8] [] [] []
def AKJ:uu.lv=Fu [[1,2],[3]]:=Fy rfl dk
@[go_sem] def AeX:=F4 uu
def AKI:uu.tk=[]/\uu.mt=[]/\uu.pc=[]:=⟨rfl,rfl,rfl⟩
def AKK:FK AA 323 f323 uu:=F0 func323
def vP:Eh:=hm [9,16] [5] [] []
def ALa:vP.lv=Fu [[0,3],[4]]:=Fy rfl dk
@[go_sem] def Aex:=F4 vP
def ALZ:vP.tk=[5]/\vP.mt=[]/\vP.pc=[]:=⟨rfl,rfl,rfl⟩
def ALb:FK AA 285 f285 vP:=F0 func285
def vN:Eh:=hm [6,8] [] [] []
def ALX:vN.lv=Fu [[1,2],[3]]:=Fy rfl dk
@[go_sem] def Aew:=F4 vN
def ALW:vN.tk=[]/\vN.mt=[]/\vN.pc=[]:=⟨rfl,rfl,rfl⟩
def ALY:FK AA 286 f286 vN:=F0 func286
def wF:Eh:=hm [9,16] [5] [] []
def ANe:wF.lv=Fu [[0,3],[4]]:=Fy rfl dk
@[go_sem] def AfX:=F4 wF
def ANd:wF.tk=[5]/\wF.mt=[]/\wF.pc=[]:=⟨rfl,rfl,rfl⟩
def ANf:FK AA 226 f226 wF:=F0 func226
def vM:Eh:=hm [21,277,1813,132885,3861,2147487509,1813,1813,192] [41] [] [30,46]
def ALU:vM.lv=Fu [[0,2,4],[0,2,4,8],[0,2,4,8,9,10],[0,2,4,8,9,10,17],[0,2,4,8,9,10,11],[0,2,4,8,9,10,11,31],[0,2,4,8,9,10],[0,2,4,8,9,10],[6,7]]:=Fy rfl dk
@[go_sem] def Aev:=F4 vM
def ALT:vM.tk=[41]/\vM.mt=[]/\vM.pc=[30,46]:=⟨rfl,rfl,rfl⟩
def ALV:FK AA 287 f287 vM:=F0 func287
def wC:Eh:=hm [21,192] [8] [] [11]
def ANW:wC.lv=Fu [[0,2,4],[6,7]]:=Fy rfl dk
@[go_sem] def AfU:=F4 wC
def ANV:wC.tk=[8]/\wC.mt=[]/\wC.pc=[11]:=⟨rfl,rfl,rfl⟩
def ANX:FK AA 229 f229 wC:=F0 func229
def vL:Eh:=hm [1,9,456,968,488,16872,4,456,4] [6] [] []
def ALR:vL.lv=Fu [[0],[0,3],[3,6,7,8],[3,6,7,8,9],[3,5,6,7,8],[3,5,6,7,8,14],[2],[3,6,7,8],[2]]:=Fy rfl dk
@[go_sem] def Aeu:=F4 vL
def ALQ:vL.tk=[6]/\vL.mt=[]/\vL.pc=[]:=⟨rfl,rfl,rfl⟩
def ALS:FK AA 288 f288 vL:=F0 func288
def vK:Eh:=hm [3,35,99,2115,4096,16,16,8195,16,65539,16,524288,16,16] [] [] [8,10]
def ALO:vK.lv=Fu [[0,1],[0,1,5],[0,1,5,6],[0,1,6,11],[12],[4],[4],[0,1,13],[4],[0,1,16],[4],[19],[4],[4]]:=Fy rfl dk
@[go_sem] def Aet:=F4 vK
def ALN:vK.tk=[]/\vK.mt=[]/\vK.pc=[8,10]:=⟨rfl,rfl,rfl⟩
def ALP:FK AA 289 f289 vK:=F0 func289
def wB:Eh:=hm [12,16] [] [] [9,14,16]
def ANT:wB.lv=Fu [[2,3],[4]]:=Fy rfl dk
@[go_sem] def AfT:=F4 wB
def ANS:wB.tk=[]/\wB.mt=[]/\wB.pc=[9,14,16]:=⟨rfl,rfl,rfl⟩
def ANU:FK AA 230 f230 wB:=F0 func230
def bF:Eh:=hm [7,7,135,65671,64,391,4194695,64,2147484039,647,643,512,64,391,0x100000000000000187,7,1,64,131,1,64] [17,23,24,44,51,55,56,81,83,87,94] [25,40,67] [67,93]
def AKO:bF.lv=Fu [[0,1,2],[0,1,2],[0,1,2,7],[0,1,2,7,16],[6],[0,1,2,7,8],[0,1,2,7,8,22],[6],[0,1,2,7,8,31],[0,1,2,7,9],[0,1,7,9],[9],[6],[0,1,2,7,8],[0,1,2,7,8,68],[0,1,2],[0],[6],[0,1,7],[0],[6]]:=Fy rfl dk
@[go_sem] def AeZ:=F4 bF
def AKN:bF.tk=[17,23,24,44,51,55,56,81,83,87,94]/\bF.mt=[25,40,67]/\bF.pc=[67,93]:=⟨rfl,rfl,rfl⟩
def AB7:FK AA 321 f321 bF:=F0 func321
def vQ:Eh:=hm [9,105,232,65704,128,16,16] [14,21,22] [25] [11]
def ALd:vQ.lv=Fu [[0,3],[0,3,5,6],[3,5,6,7],[3,5,7,16],[7],[4],[4]]:=Fy rfl dk
@[go_sem] def Aey:=F4 vQ
def ALc:vQ.tk=[14,21,22]/\vQ.mt=[25]/\vQ.pc=[11]:=⟨rfl,rfl,rfl⟩
def ALe:FK AA 284 f284 vQ:=F0 func284
def wH:Eh:=hm [1,2097153,4,1,4] [] [] [18,31]
def ANk:wH.lv=Fu [[0],[0,21],[2],[0],[2]]:=Fy rfl dk
@[go_sem] def AfZ:=F4 wH
def ANj:wH.tk=[]/\wH.mt=[]/\wH.pc=[18,31]:=⟨rfl,rfl,rfl⟩
def ANl:FK AA 224 f224 wH:=F0 func224
def wG:Eh:=hm [197,131141,1] [] [] [14,26,28]
def ANh:wG.lv=Fu [[0,2,6,7],[0,2,6,17],[0]]:=Fy rfl dk
@[go_sem] def AfY:=F4 wG
def ANg:wG.tk=[]/\wG.mt=[]/\wG.pc=[14,26,28]:=⟨rfl,rfl,rfl⟩
def ANi:FK AA 225 f225 wG:=F0 func225
def np:Eh:=hm [1,1,16777217,4,1,4] [] [] [23,36]
def AQM:np.lv=Fu [[0],[0],[0,24],[2],[0],[2]]:=Fy rfl dk
@[go_sem] def AgL:=F4 np
def no:Eh:=hm [1,1,4] [] [] [12]
def AQL:no.lv=Fu [[0],[0],[2]]:=Fy rfl dk
@[go_sem] def AgK:=F4 no
def w6:Eh:=hm [1,4] [] [] []
def AQJ:w6.lv=Fu [[0],[2]]:=Fy rfl dk
@[go_sem] def AgJ:=F4 w6
def AQI:w6.tk=[]/\w6.mt=[]/\w6.pc=[]:=⟨rfl,rfl,rfl⟩
def AQK:FK AA 148 f148 w6:=F0 func148
def nk:Eh:=hm [1,1,262145,9,3758096393,8053063689,3758096425,3758096393,3758096393,9,0x40000000000009,9,0x4000000000000000001,4,0x20000000000000000001,4,1,4] [] [] [29,76,89]
def AQH:nk.lv=Fu [[0],[0],[0,18],[0,3],[0,3,29,30,31],[0,3,29,30,31,32],[0,3,5,29,30,31],[0,3,29,30,31],[0,3,29,30,31],[0,3],[0,3,54],[0,3],[0,74],[2],[0,77],[2],[0],[2]]:=Fy rfl dk
@[go_sem] def AgI:=F4 nk
def wD:Eh:=hm [14,16] [] [] []
def ANZ:wD.lv=Fu [[1,2,3],[4]]:=Fy rfl dk
@[go_sem] def AfV:=F4 wD
def ANY:wD.tk=[]/\wD.mt=[]/\wD.pc=[]:=⟨rfl,rfl,rfl⟩
def ANa:FK AA 228 f228 wD:=F0 func228
def nj:Eh:=hm [2,10,34,66,34359738434,4,7696581394498,0xf0000000042,7696581394882,7696581394498,7696581394498,4] [] [] [19,27,33,60]
def AQG:nj.lv=Fu [[1],[1,3],[1,5],[1,6],[1,6,35],[2],[1,6,40,41,42],[1,6,40,41,42,43],[1,6,7,8,40,41,42],[1,6,40,41,42],[1,6,40,41,42],[2]]:=Fy rfl dk
@[go_sem] def AgH:=F4 nj
def M1:Eh:=hx [1,25,262169,25,57,4503599627370553,9,9,73,0x80000000000000000000049,65,4] [] [] [] [100] [] [7]
def AQE:M1.lv=Fu [[0],[0,3,4],[0,3,4,18],[0,3,4],[0,3,4,5],[0,3,4,5,52],[0,3],[0,3],[0,3,6],[0,3,6,91],[0,6],[2]]:=Fy rfl dk
def AQF(k:Nat):M1.ct k=none:=rfl
def AQC(k:Nat):M1.at k=[]:=rfl
def AQD:M1.dn 0=false/\M1.dn 1=false/\M1.dn 2=false/\M1.dn 3=false/\M1.dn 4=false/\M1.dn 5=false/\M1.dn 6=false/\M1.dn 7=true/\M1.dn 8=false/\M1.dn 9=false/\M1.dn 10=false/\M1.dn 11=false:=dk
def wz:Eh:=hm [35,291,57633,123169,58657,63777,67168545,192,57633,57633,192] [13,27,34] [] [22,30]
def AQA:wz.lv=Fu [[0,1,5],[0,1,5,8],[0,5,8,13,14,15],[0,5,8,13,14,15,16],[0,5,8,10,13,14,15],[0,5,8,11,12,13,14,15],[0,5,8,11,13,14,15,26],[6,7],[0,5,8,13,14,15],[0,5,8,13,14,15],[6,7]]:=Fy rfl dk
@[go_sem] def AgG:=F4 wz
def AP9:wz.tk=[13,27,34]/\wz.mt=[]/\wz.pc=[22,30]:=⟨rfl,rfl,rfl⟩
def AQB:FK AA 152 f152 wz:=F0 func152
def wy:Eh:=hm [71,833,524609,192,192] [13,21] [] [15]
def AP7:wy.lv=Fu [[0,1,2,6],[0,6,8,9],[0,6,8,19],[6,7],[6,7]]:=Fy rfl dk
@[go_sem] def AgF:=F4 wy
def AP6:wy.tk=[13,21]/\wy.mt=[]/\wy.pc=[15]:=⟨rfl,rfl,rfl⟩
def AP8:FK AA 153 f153 wy:=F0 func153
def bE:Eh:=hx [1365,525653,7168,9557,25941,91460,91456,72057594038019392,75072,0x400000000000010500,7168,7168] [21,31,41,60] [] [] [28,45] [] [10,11]
def AXl:bE.lv=Fu [[0,2,4,6,8,10],[0,2,4,6,8,10,19],[10,11,12],[0,2,4,6,8,10,13],[0,2,4,6,8,10,13,14],[2,6,8,10,13,14,16],[6,8,10,13,14,16],[6,8,10,13,14,16,56],[6,8,10,13,16],[8,10,16,70],[10,11,12],[10,11,12]]:=Fy rfl dk
def AXn(k:Nat):bE.ct k=none:=rfl
def AXi(k:Nat):bE.at k=[]:=rfl
def AXj:bE.dn 0=false/\bE.dn 1=false/\bE.dn 2=false/\bE.dn 3=false/\bE.dn 4=false/\bE.dn 5=false/\bE.dn 6=false/\bE.dn 7=false/\bE.dn 8=false/\bE.dn 9=false/\bE.dn 10=true/\bE.dn 11=true:=dk
def AXk:bE.tk=[21,31,41,60]/\bE.mt=[]/\bE.pc=[28,45]:=⟨rfl,rfl,rfl⟩
def AXm:FK AA 85 f85 bE:=F0 func85
def h43:Eh:=hm [279,24599,1879072789,4026556437,1879138325,1879269397,122138345493,259577298965,122138869781,122141491221,122140442645,0x400001c70034015,7168,122138345493,1879269397,0xe000000070016015,0x1e000000070016015,0xe000000070816015,0xe000000070816015,0xe000000071816015,0x4000e000000070816015,0xe000000070016015,0xe000000070016015,1879072789,7168] [28,34,49,50,59,61,71,79,85,86] [] [46,74]
def AYx:h43.lv=Fu [[0,1,2,4,8],[0,1,2,4,13,14],[0,2,4,13,14,28,29,30],[0,2,4,13,14,28,29,30,31],[0,2,4,13,14,16,28,29,30],[0,2,4,13,14,16,17,28,29,30],[0,2,4,14,16,17,28,29,30,34,35,36],[0,2,4,14,16,17,28,29,30,34,35,36,37],[0,2,4,14,16,17,19,28,29,30,34,35,36],[0,2,4,14,16,17,20,21,28,29,30,34,35,36],[0,2,4,14,16,17,21,28,29,30,34,35,36],[0,2,4,14,16,17,28,29,30,34,35,36,58],[10,11,12],[0,2,4,14,16,17,28,29,30,34,35,36],[0,2,4,13,14,16,17,28,29,30],[0,2,4,13,14,16,28,29,30,61,62,63],[0,2,4,13,14,16,28,29,30,61,62,63,64],[0,2,4,13,14,16,23,28,29,30,61,62,63],[0,2,4,13,14,16,23,28,29,30,61,62,63],[0,2,4,13,14,16,23,24,28,29,30,61,62,63],[0,2,4,13,14,16,23,28,29,30,61,62,63,78],[0,2,4,13,14,16,28,29,30,61,62,63],[0,2,4,13,14,16,28,29,30,61,62,63],[0,2,4,13,14,28,29,30],[10,11,12]]:=Fy rfl dk
@[go_sem] def AhX:=F4 h43
def AYw:h43.tk=[28,34,49,50,59,61,71,79,85,86]/\h43.mt=[]/\h43.pc=[46,74]:=⟨rfl,rfl,rfl⟩
def AYy:FK AA 43 f43 h43:=F0 func43
def h88:Eh:=hx [105,256] [9] [11,17] [] [17] [] [2006,2007]
def AXZ:h88.lv=Fu [[0,3,5,6],[8]]:=Fy rfl dk
def AXb(k:Nat):h88.ct k=none:=rfl
def AXW(k:Nat):h88.at k=[]:=rfl
def AXX:h88.dn 0=false/\h88.dn 1=true:=dk
def AXY:h88.tk=[9]/\h88.mt=[11,17]/\h88.pc=[17]:=⟨rfl,rfl,rfl⟩
def AXa:FK AA 88 f88 h88:=F0 func88
def h87:Eh:=hm [62,64] [] [] [30]
def AXd:h87.lv=Fu [[1,2,3,4,5],[6]]:=Fy rfl dk
@[go_sem] def AhD:=F4 h87
def AXc:h87.tk=[]/\h87.mt=[]/\h87.pc=[30]:=⟨rfl,rfl,rfl⟩
def AXe:FK AA 87 f87 h87:=F0 func87
def h45:Eh:=hm [240,256] [] [] []
def AYr:h45.lv=Fu [[4,5,6,7],[8]]:=Fy rfl dk
@[go_sem] def AhV:=F4 h45
def AYq:h45.tk=[]/\h45.mt=[]/\h45.pc=[]:=⟨rfl,rfl,rfl⟩
def AYs:FK AA 45 f45 h45:=F0 func45
def h46:Eh:=hm [1,17,4,4] [6] [] []
def AYo:h46.lv=Fu [[0],[0,4],[2],[2]]:=Fy rfl dk
@[go_sem] def AhU:=F4 h46
def AYn:h46.tk=[6]/\h46.mt=[]/\h46.pc=[]:=⟨rfl,rfl,rfl⟩
def AYp:FK AA 46 f46 h46:=F0 func46
def h17:Eh:=hm [90,2138,6234,481036343386,0xf00000185a,481036367962,481036449882,563430989805658,481036343386,481036343386,137242,399386,923674,0x20000000000e181a,923674,1972250,4069402,8263706,121509914,0x10000000000000000033e181a,1792,20846618,0x3800000000000000000003e181a,0x7800000000000000000003e181a,0x3800000000000000000103e181a,0x3800000000000000000703e181a,0x1003800000000000000000303e181a,0x3800000000000000000b03e181a,0x100003800000000000000000b03e181a,0x3800000000000000000003e181a,0x3800000000000000001903e181a,0x3800000000000000001903e181a,0x3800000000000000000003e181a,0x3800000000000000000003e181a,0x8000000000000000000000000000000000000e181a,1792,1792] [82,97,101,103,125,168,169,170] [] [46,57,76,91,112,122,131,143,158]
def AZa:h17.lv=Fu [[1,3,4,6],[1,3,4,6,11],[1,3,4,6,11,12],[1,3,4,6,11,12,36,37,38],[1,3,4,6,11,12,36,37,38,39],[1,3,4,6,11,12,13,14,36,37,38],[1,3,4,6,11,12,13,15,16,36,37,38],[1,3,4,6,11,12,13,15,36,37,38,49],[1,3,4,6,11,12,36,37,38],[1,3,4,6,11,12,36,37,38],[1,3,4,11,12,17],[1,3,4,11,12,17,18],[1,3,4,11,12,17,18,19],[1,3,4,11,12,17,18,19,61],[1,3,4,11,12,17,18,19],[1,3,4,11,12,17,18,19,20],[1,3,4,11,12,17,18,19,20,21],[1,3,4,11,12,17,18,19,20,21,22],[1,3,4,11,12,17,18,19,20,21,24,25,26],[1,3,4,11,12,17,18,19,20,21,24,25,96],[8,9,10],[1,3,4,11,12,17,18,19,20,21,24],[1,3,4,11,12,17,18,19,20,21,103,104,105],[1,3,4,11,12,17,18,19,20,21,103,104,105,106],[1,3,4,11,12,17,18,19,20,21,28,103,104,105],[1,3,4,11,12,17,18,19,20,21,28,29,30,103,104,105],[1,3,4,11,12,17,18,19,20,21,28,29,103,104,105,116],[1,3,4,11,12,17,18,19,20,21,28,29,31,103,104,105],[1,3,4,11,12,17,18,19,20,21,28,29,31,103,104,105,124],[1,3,4,11,12,17,18,19,20,21,103,104,105],[1,3,4,11,12,17,18,19,20,21,28,31,32,103,104,105],[1,3,4,11,12,17,18,19,20,21,28,31,32,103,104,105],[1,3,4,11,12,17,18,19,20,21,103,104,105],[1,3,4,11,12,17,18,19,20,21,103,104,105],[1,3,4,11,12,17,18,19,167],[8,9,10],[8,9,10]]:=Fy rfl dk
@[go_sem] def Ahk:=F4 h17
def h92:Eh:=hm [63,32827,256,14680115,31457331,14681651,68734158387,14682675,72057594052608051,256,14680115,256] [17] [] [18,41]
def AXL:h92.lv=Fu [[0,1,2,3,4,5],[0,1,3,4,5,15],[8],[0,1,4,5,21,22,23],[0,1,4,5,21,22,23,24],[0,1,4,5,9,10,21,22,23],[0,1,4,5,9,10,21,22,23,36],[0,1,4,5,9,11,21,22,23],[0,1,4,5,21,22,23,56],[8],[0,1,4,5,21,22,23],[8]]:=Fy rfl dk
@[go_sem] def Ag9:=F4 h92
def AXK:h92.tk=[17]/\h92.mt=[]/\h92.pc=[18,41]:=⟨rfl,rfl,rfl⟩
def AXM:FK AA 92 f92 h92:=F0 func92
def h91:Eh:=hm [30,62,40,1] [] [] []
def AXO:h91.lv=Fu [[1,2,3,4],[1,2,3,4,5],[3,5],[0]]:=Fy rfl dk
@[go_sem] def AhA:=F4 h91
def AXN:h91.tk=[]/\h91.mt=[]/\h91.pc=[]:=⟨rfl,rfl,rfl⟩
def AXP:FK AA 91 f91 h91:=F0 func91
def h48:Eh:=hm [56,64] [] [] []
def AYh:h48.lv=Fu [[3,4,5],[6]]:=Fy rfl dk
@[go_sem] def AhS:=F4 h48
def AYi:FK AA 48 f48 h48:=F0 func48
def h19:Eh:=hm [206,462,8640,960,448,2097344,1,192] [15,16] [] []
def AZY:h19.lv=Fu [[1,2,3,6,7],[1,2,3,6,7,8],[6,7,8,13],[6,7,8,9],[6,7,8],[6,7,21],[0],[6,7]]:=Fy rfl dk
@[go_sem] def Ahj:=F4 h19
def AZX:h19.tk=[15,16]/\h19.mt=[]/\h19.pc=[]:=⟨rfl,rfl,rfl⟩
def AZZ:FK AA 19 f19 h19:=F0 func19
def h24:Eh:=hm [3,1027,16,35,16419,35,33554467,16,16] [] [] []
def AZS:h24.lv=Fu [[0,1],[0,1,10],[4],[0,1,5],[0,1,5,14],[0,1,5],[0,1,5,25],[4],[4]]:=Fy rfl dk
@[go_sem] def Ahh:=F4 h24
def AZR:h24.tk=[]/\h24.mt=[]/\h24.pc=[]:=⟨rfl,rfl,rfl⟩
def AZT:FK AA 24 f24 h24:=F0 func24
def h22:Eh:=hm [3,2051,16,35,32803,35,99,72057594037927971,16,16] [] [] [28]
def AZV:h22.lv=Fu [[0,1],[0,1,11],[4],[0,1,5],[0,1,5,15],[0,1,5],[0,1,5,6],[0,1,5,56],[4],[4]]:=Fy rfl dk
@[go_sem] def Ahi:=F4 h22
def AZU:h22.tk=[]/\h22.mt=[]/\h22.pc=[28]:=⟨rfl,rfl,rfl⟩
def AZW:FK AA 22 f22 h22:=F0 func22
def h5:Eh:=hx [1,2,6,6,30,122,506,4090,24570,122874,516090,2088954,0x800000000000000000000000000a9202,1,2789890,6984194,15372802,1] [124,137,138,141,142,146,152,157] [31] [(1,[(1,some 5,true)]),(3,[(2,some 5,true)])] [51,60] [] []
def Ad9:h5.lv=Fu [[0],[1],[1,2],[1,2],[1,2,3,4],[1,3,4,5,6],[1,3,4,5,6,7,8],[1,3,4,5,6,7,8,9,10,11],[1,3,4,5,6,7,8,9,10,11,12,14],[1,3,4,5,6,7,8,9,10,11,12,14,15,16],[1,3,4,5,6,7,8,9,10,11,12,14,15,16,17,18],[1,3,4,5,6,7,8,9,10,11,12,14,15,16,17,18,19,20],[1,9,12,15,17,19,127],[0],[1,9,12,15,17,19,21],[1,9,12,15,17,19,21,22],[1,9,12,15,17,19,21,22,23],[0]]:=Fy rfl dk
def AeB(k:Nat):h5.ct k=none:=rfl
def Ad6:h5.at 0=[]/\h5.at 1=[(1,some 5,true)]/\h5.at 2=[]/\h5.at 3=[(2,some 5,true)]/\h5.at 4=[]/\h5.at 5=[]/\h5.at 6=[]/\h5.at 7=[]/\h5.at 8=[]/\h5.at 9=[]/\h5.at 10=[]/\h5.at 11=[]/\h5.at 12=[]/\h5.at 13=[]/\h5.at 14=[]/\h5.at 15=[]/\h5.at 16=[]/\h5.at 17=[]:=dk
def Ad7(k:Nat):h5.dn k=false:=AG rfl rfl
def Ad8:h5.tk=[124,137,138,141,142,146,152,157]/\h5.mt=[31]/\h5.pc=[51,60]:=⟨rfl,rfl,rfl⟩
def AeA:FK AA 5 f5 h5:=F0 func5
def h6:Eh:=hm [12,7176,15368,7272,7464,8395816,16,7176,16] [] [] [20]
def Ad4:h6.lv=Fu [[2,3],[3,10,11,12],[3,10,11,12,13],[3,5,6,10,11,12],[3,5,8,10,11,12],[3,5,10,11,12,23],[4],[3,10,11,12],[4]]:=Fy rfl dk
@[go_sem] def Aiy:=F4 h6
def Ad3:h6.tk=[]/\h6.mt=[]/\h6.pc=[20]:=⟨rfl,rfl,rfl⟩
def Ad5:FK AA 6 f6 h6:=F0 func6
def h7:Eh:=hm [14,49166,114702,49294,50062,53006,0x80000000c00e,64,49166,64] [35,43] [] [22,29]
def Ad1:h7.lv=Fu [[1,2,3],[1,2,3,14,15],[1,2,3,14,15,16],[1,2,3,7,14,15],[1,2,3,7,8,9,14,15],[1,2,3,8,9,10,11,14,15],[1,2,3,14,15,47],[6],[1,2,3,14,15],[6]]:=Fy rfl dk
@[go_sem] def Aix:=F4 h7
def Ad0:h7.tk=[35,43]/\h7.mt=[]/\h7.pc=[22,29]:=⟨rfl,rfl,rfl⟩
def Ad2:FK AA 7 f7 h7:=F0 func7
def h8:Eh:=hm [14,270,114954,246026,116490,114954,114954,192] [14,27,41,42] [] [32]
def Ady:h8.lv=Fu [[1,2,3],[1,2,3,8],[1,3,8,14,15,16],[1,3,8,14,15,16,17],[1,3,8,9,10,14,15,16],[1,3,8,14,15,16],[1,3,8,14,15,16],[6,7]]:=Fy rfl dk
@[go_sem] def Aiw:=F4 h8
def h9:Eh:=hm [3,2051,16,35,32803,35,99,8796093022243,16,16] [] [] [28]
def Adw:h9.lv=Fu [[0,1],[0,1,11],[4],[0,1,5],[0,1,5,15],[0,1,5],[0,1,5,6],[0,1,5,43],[4],[4]]:=Fy rfl dk
@[go_sem] def Aiv:=F4 h9
def Adv:h9.tk=[]/\h9.mt=[]/\h9.pc=[28]:=⟨rfl,rfl,rfl⟩
def Adx:FK AA 9 f9 h9:=F0 func9
def h27:Eh:=hm [3,1027,16,35,16419,35,0x80000000000000023,16,16] [] [] [65]
def AZM:h27.lv=Fu [[0,1],[0,1,10],[4],[0,1,5],[0,1,5,14],[0,1,5],[0,1,5,67],[4],[4]]:=Fy rfl dk
@[go_sem] def Ahf:=F4 h27
def AZL:h27.tk=[]/\h27.mt=[]/\h27.pc=[65]:=⟨rfl,rfl,rfl⟩
def AZN:FK AA 27 f27 h27:=F0 func27
def xa:Eh:=hm [3,2051,16,35,32803,35,99,268435491,16,16] [] [] [26]
def AZj:xa.lv=Fu [[0,1],[0,1,11],[4],[0,1,5],[0,1,5,15],[0,1,5],[0,1,5,6],[0,1,5,28],[4],[4]]:=Fy rfl dk
@[go_sem] def Aho:=F4 xa
def AZi:xa.tk=[]/\xa.mt=[]/\xa.pc=[26]:=⟨rfl,rfl,rfl⟩
def AZk:FK AA 10 f10 xa:=F0 func10
def h3:Eh:=hm [210,2097362,256,1746,8796093022418,256,6354,30720,0x400000000000007800,256,256] [56,73,84,85] [] [20,22,26,30,41,44,51,60,71,81,86]
def AeD:h3.lv=Fu [[1,4,6,7],[1,4,6,7,21],[8],[1,4,6,7,9,10],[1,4,6,7,43],[8],[1,4,6,7,11,12],[11,12,13,14],[11,12,13,14,70],[8],[8]]:=Fy rfl dk
@[go_sem] def Ai0:=F4 h3
attribute [go_sem] AWu AWt ACy AEl AWJ yH yG AWH yE AWv AWG nv oo ic ib og sD ia iZ oX APx APw AW9 AW8 ANR ANQ AP4 AP3 AXJ AXI AXH AXG AP2 AP1 AXE AXD AYX AYW AP0 APz AXB AXA AYa AYZ ASH ASG ANI ANH ANO ANN APu APt ALG ALF AND ANC AKw AKv AJm AJl AJj AJi AJO AJN AJR AJQ AJg AJf AKA AJ9 ALD ALC AKy AKx AMm AMl AMp AMo APa APZ AKt AKs AMd AMc APR APQ ARl ARk APM APL AMj AMi AMa AMZ APJ API AMg AMf APU APT APO APN ARh ARj ARe ARf ARg ARb ARd ARY ARZ ARa APH APG AQ5 AQ4 ARA ARC AQ7 AQ8 AQ9 ARE ARD ARW ARV AX8 AYA AX5 AX6 AX7 ALJ ALI ANL ANK ANG ANF APq APs APn APo APp APX APW ARo ARn ANA AM9 APl APk AW6 AW5 APj APi APg APf AR7 AR9 AR4 AR5 AR6 AYc AYb AW3 AW2 ASK ASJ AYT AYV AYQ AYR AYS ASE ASD ASB ASA AYO AYN AZD AZC AQw AQv AXz AZA AY9 AZP AZO ARx ARw AQz AQy AX2 AX1 AYu AYt oZ sC ALA AK9 AK1 AK0 AMs AMr AK7 AK6 AM4 AM3 AMv AMu AK4 AK3 AM0 AM2 AMx AMy AMz AM7 AM6 APd APc AR1 AR3 ARy ARz AR0 AO0 AOz AME AMG AMB AMC AMD AL9 AL8 AOo AOn AQg AQi AQd AQe AQf AQt AQs AQk AQj AOw AOy AOt AOu AOv AOr AOq AQp AQr AQm AQn AQo AXx AXw AOc AOb AQZ AQY AOf AOe AMT AMV AMQ AMR AMS APB APA AOk AOm AOh AOi AOj AQc AQb AJd AJc AJ7 AJ6 AKG AKF AJa AJZ AJX AJW AJ4 AJ3 AJ1 AJ0 AJU AJT AJv AJu AJy AJx AKq AKp AMX AMW AOX AOW AOU AOT AMO AMN AJs AJr AKn AKm AKk AKj AML AMK AO9 AO8 AL5 AL7 AL2 AL3 AL4 AOa AOZ AKh AKg AL0 ALz ALx ALw AOR AOQ AQU AQT AQW AQV AXu AXt AY2 AY4 AYz AY0 AY1 oc pF AQ2 AQ1 AMI AMH AO6 AO5 AO3 AO2 oe oY r9 AQR AQQ AOM AOL ALr ALq ALu ALt AOG AOF AOJ AOI AOD AOC AOP AOO AN8 AN7 AN5 AN4 AN2 AN1 AKD AKC ALM ALL AKY AKX AKd AKf AKa AKb AKc ALn ANz ANy ANv ANx ANs ANt ANu AKW AKV ALm ALl AKT AKS ALg ALf ALj ALi ANp ANr ANm ANn ANo AOB AOA AQO AQN AXr AXs AXo AXp AXq AJp AJo AWI yF yP ze ADN AZK AZJ AYL AYK ARu ARt ARr ARq AYI AYH AYE AYG AYB AYC AYD AZH AZG AZg AZf ART ARS APE APD ARQ ARP AYf AYe ARN ARM ARK ARJ AX4 ARH ARG AX3 AZF AZe AZc AZb AeC AXU AXT AXR AXQ AYl AYk AXg AXf AY7 AY6 AY5 AKQ AKP ANc ANb AKM AKL AKJ AKI ALa ALZ ALX ALW ANe ANd ALU ALT ANW ANV ALR ALQ ALO ALN ANT ANS AKO AKN ALd ALc ANk ANj ANh ANg AQM AQL AQJ AQI AQH ANZ ANY AQG AQE AQF AQC AQD AQA AP9 AP7 AP6 AXl AXn AXi AXj AXk AYx AYw AXZ AXb AXW AXX AXY AXd AXc AYr AYq AYo AYn AZa AXL AXK AXO AXN AYh AZY AZX AZS AZR AZV AZU Ad9 AeB Ad6 Ad7 Ad8 Ad4 Ad3 Ad1 Ad0 Ady Adw Adv AZM AZL AZj AZi AeD
end Go.AI
