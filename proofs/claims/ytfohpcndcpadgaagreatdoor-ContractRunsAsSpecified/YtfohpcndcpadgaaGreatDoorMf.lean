/- Closed facts about the program's types. Printed by fa.py. -/
import Derived.Test.YtfohpcndcpadgaaGreatDoorProg
import Derived.Test.YtfohpcndcpadgaaGreatDoorLi
set_option linter.unusedSimpArgs false
set_option linter.unusedVariables false
set_option linter.defProp false
open Go.Proofs.Tryz
open Go.AI renaming Hint->Es
open Eq renaming trans->AH
open Go.Proofs.Tryz renaming prog->AA
namespace Go.AI
open Go.Proofs
def Tq{U V p2 p3 p4 p5 p6 p7 p8 p9 g i:Prop}(p:U := by kernel_rfl)(r:V := by kernel_rfl)(t:p2 := by kernel_rfl)(C:p3 := by kernel_rfl)(I:p4 := by kernel_rfl)(J:p5 := by kernel_rfl)(O:p6 := by kernel_rfl)(P:p7 := by kernel_rfl)(R:p8 := by kernel_rfl)(T:p9 := by kernel_rfl)(j:g := by kernel_rfl)(o:i := by kernel_rfl):U/\V/\p2/\p3/\p4/\p5/\p6/\p7/\p8/\p9/\g/\i:=⟨p,r,t,C,I,J,O,P,R,T,j,o⟩
def GL:List (List Nat)->Nat->List Nat
 |[],_=>[]
 |x::_,0=>x
 |_::r,k+1=>GL r k
def AdI(x:List Nat)(r:List (List Nat)):GL (x::r) 0=x:=AH rfl rfl
def AdH(x:List Nat)(r:List (List Nat))(k:Nat):GL (x::r) (k+1)=GL r k:=AH rfl rfl
def AJz:∀(l:List Nat) (j k:Nat),((lvM j l).lookup (j+k)).getD []=GL (l.map AFo) k
 |[],j,k=>by simp[lvM,GL]
 |m::l,j,0=>by simp[lvM,GL]
 |m::l,j,k+1=>by
  have h:(j+(k+1)==j)=false:=F3;rw[lvM,List.lookup_cons,h];have := AJz l (j+1) k;rw[show j+1+k=j+(k+1) by omega]at this;exact this
def GM{h:Es}{l:List Nat}{L:List (List Nat)}(e:h.live=lvM 0 l)(g:l.map AFo=L):h.lv=GL L:=by
 subst g;funext k;have := AJz l 0 k;rw[Nat.zero_add]at this;show(h.live.lookup k).getD []=_;rw[e];exact this
def GP{P:Program}{n:FuncId}{f:Func}{h:Es}(g:P.funcs[n]? =some f)(m:P.follows .mixedOrders=true := by kernel_rfl)(d:f.body.any (HB h)=true := by kernel_rfl)(c:IB P n=true := by kernel_rfl):FK P n f h:=⟨m,d,g,c⟩
def GS(h:Es)(a:h.gc=[] := by rfl)(b:h.fz=[] := by rfl)(c:h.dy=[] := by rfl):(∀k,h.ct k=none)/\(∀k,h.at k=[])/\(∀k,h.dn k=false):=qE h a b c
def AFF:AA.cellsOf 3=1/\AA.bytesOf 3=8/\Ja AA 3=some none/\AA.underlying 3=some (.int .i64)/\HD AA 3=true/\(AA.info? 3).isSome=true/\F8 AA 3=some (.int .i64 0)/\AA.cellsOf 4=1/\AA.bytesOf 4=1/\Ja AA 4=some none/\Xg AA 4=true/\(AA.info? 4).isSome=true:=Tq
def AG7:F8 AA 4=some (.bool false)/\AA.cellsOf 9=1/\AA.bytesOf 9=16/\Ja AA 9=some none/\AA.underlying 9=some .string/\HD AA 9=true/\(AA.info? 9).isSome=true/\AA.cellsOf 22=1/\Ja AA 22=some none/\AA.underlying 22=some (.slice 124)/\AA.cellsOf 23=1/\Ja AA 23=some none:=Tq
def Ach:AA.underlying 23=some (.slice 182)/\AA.cellsOf 24=1/\Ja AA 24=some none/\AA.underlying 24=some (.slice 82)/\AA.cellsOf 26=3/\Ja AA 26=some (some 3)/\Fv AA 26 0=some (22,0)/\Fv AA 26 1=some (23,1)/\Fv AA 26 2=some (24,2)/\AA.cellsOf 27=1/\Ja AA 27=some none/\AA.underlying 27=some (.slice 122):=Tq
def AAm:AA.cellsOf 28=1/\Ja AA 28=some none/\AA.underlying 28=some (.slice 94)/\AA.cellsOf 29=1/\Ja AA 29=some none/\AA.underlying 29=some (.slice 64)/\AA.cellsOf 31=6/\Ja AA 31=some (some 6)/\Fv AA 31 0=some (26,0)/\Fv AA 31 1=some (27,3)/\Fv AA 31 2=some (28,4)/\Fv AA 31 3=some (29,5):=Tq
def AAk:AA.cellsOf 36=1/\Ja AA 36=some none/\AA.underlying 36=some (.slice 76)/\AA.cellsOf 37=1/\Ja AA 37=some none/\F8 AA 37=some (.int .i64 0)/\AA.cellsOf 41=10/\AA.bytesOf 41=80/\Ja AA 41=some (some 10)/\AA.underlying 41=some (.array 10 3)/\HD AA 41=true/\(AA.info? 41).isSome=true:=Tq
def AI5:Ji AA 41 = .array 1/\AA.cellsOf 60=1/\Ja AA 60=some none/\AA.underlying 60=some (.slice 62)/\AA.cellsOf 62=5/\AA.bytesOf 62=64/\Ja AA 62=some (some 5)/\HD AA 62=true/\(AA.info? 62).isSome=true/\Ji AA 62 = .struct [(0,1),(1,1),(2,1),(3,1),(4,1)]/\Fv AA 62 0=some (3,0)/\Fv AA 62 1=some (9,1):=Tq
def qT:Fv AA 62 2=some (3,2)/\Fv AA 62 3=some (3,3)/\Fv AA 62 4=some (60,4)/\AA.cellsOf 64=12/\Ja AA 64=some (some 12)/\Fv AA 64 0=some (9,0)/\Fv AA 64 1=some (9,1)/\Fv AA 64 2=some (3,2)/\Fv AA 64 3=some (3,3)/\Fv AA 64 4=some (62,4)/\Fv AA 64 5=some (3,9)/\Fv AA 64 6=some (3,10):=Tq
def qS:Fv AA 64 7=some (3,11)/\AA.cellsOf 72=1/\AA.bytesOf 72=24/\Ja AA 72=some none/\AA.underlying 72=some (.slice 3)/\p_ AA 72=true/\HD AA 72=true/\AA.cellsOf 76=12/\AA.bytesOf 76=112/\HD AA 76=true/\Ji AA 76 = .struct [(0,1),(1,10),(11,1)]/\Fv AA 76 0=some (3,0):=Tq
def qR:Fv AA 76 1=some (41,1)/\Fv AA 76 2=some (72,11)/\AA.cellsOf 82=2/\Fv AA 82 0=some (9,0)/\Fv AA 82 1=some (3,1)/\AA.cellsOf 87=1/\Ja AA 87=some none/\AA.underlying 87=some (.slice 127)/\AA.cellsOf 88=1/\Ja AA 88=some none/\AA.underlying 88=some (.slice 293)/\AA.cellsOf 90=1:=Tq
def AdJ:Ja AA 90=some none/\AA.underlying 90=some (.slice 135)/\AA.cellsOf 91=1/\Ja AA 91=some none/\AA.underlying 91=some (.slice 260)/\AA.cellsOf 92=1/\Ja AA 92=some none/\AA.underlying 92=some (.slice 286)/\AA.cellsOf 94=6/\Ja AA 94=some (some 6)/\Fv AA 94 0=some (9,0)/\Fv AA 94 1=some (87,1):=Tq
def qQ:Fv AA 94 2=some (88,2)/\Fv AA 94 3=some (90,3)/\Fv AA 94 4=some (91,4)/\Fv AA 94 5=some (92,5)/\AA.cellsOf 98=1/\AA.bytesOf 98=24/\Ja AA 98=some none/\AA.underlying 98=some (.slice 159)/\p_ AA 98=true/\HD AA 98=true/\(AA.info? 98).isSome=true/\AA.cellsOf 101=1:=Tq
def ALg:Ja AA 101=some none/\AA.underlying 101=some (.slice 41)/\F8 AA 101=some (.sl (some 10) [])/\AA.cellsOf 107=12/\AA.bytesOf 107=112/\Ja AA 107=some (some 12)/\HD AA 107=true/\Ji AA 107 = .struct [(0,1),(1,10),(11,1)]/\Fv AA 107 0=some (3,0)/\Fv AA 107 1=some (41,1)/\Fv AA 107 2=some (72,11)/\AA.underlying 108=some (.slice 107):=Tq
def qz:AA.cellsOf 110=3/\Ja AA 110=some (some 3)/\Ji AA 110 = .struct [(0,1),(1,1),(2,1)]/\Fv AA 110 0=some (101,0)/\Fv AA 110 1=some (98,1)/\Fv AA 110 2=some (37,2)/\AA.cellsOf 114=2/\AA.bytesOf 114=32/\HD AA 114=true/\(AA.info? 114).isSome=true/\Ji AA 114 = .struct [(0,1),(1,1)]/\Fv AA 114 0=some (37,0):=Tq
def kx:Fv AA 114 1=some (36,1)/\AA.cellsOf 122=3/\Ja AA 122=some (some 3)/\Ji AA 122 = .struct [(0,1),(1,1),(2,1)]/\Fv AA 122 0=some (9,0)/\Fv AA 122 1=some (3,1)/\Fv AA 122 2=some (3,2)/\AA.cellsOf 124=4/\Ja AA 124=some (some 4)/\Fv AA 124 0=some (9,0)/\Fv AA 124 1=some (4,1)/\Fv AA 124 2=some (3,2):=Tq
def kv:Fv AA 124 3=some (3,3)/\AA.cellsOf 125=1/\Ja AA 125=some none/\AA.underlying 125=some (.slice 9)/\AA.cellsOf 127=2/\Ja AA 127=some (some 2)/\Fv AA 127 0=some (9,0)/\Fv AA 127 1=some (3,1)/\AA.cellsOf 128=1/\Ja AA 128=some none/\AA.underlying 128=some (.slice 130)/\AA.cellsOf 130=9:=Tq
def rH:AA.bytesOf 130=120/\Ja AA 130=some (some 9)/\HD AA 130=true/\(AA.info? 130).isSome=true/\Ji AA 130 = .struct [(0,1),(1,5),(6,1),(7,1),(8,1)]/\Fv AA 130 0=some (3,0)/\Fv AA 130 1=some (62,1)/\Fv AA 130 2=some (9,6)/\Fv AA 130 3=some (3,7)/\Fv AA 130 4=some (128,8)/\AA.cellsOf 133=6/\Ja AA 133=some (some 6):=Tq
def AFi:Ji AA 133 = .struct [(0,1),(1,1),(2,1),(3,1),(4,1),(5,1)]/\Fv AA 133 0=some (3,0)/\Fv AA 133 1=some (9,1)/\Fv AA 133 2=some (125,2)/\Fv AA 133 3=some (9,3)/\Fv AA 133 4=some (3,4)/\Fv AA 133 5=some (3,5)/\AA.cellsOf 135=15/\AA.bytesOf 135=200/\Ja AA 135=some (some 15)/\HD AA 135=true/\Ji AA 135 = .struct [(0,9),(9,6)]:=Tq
def ku:Fv AA 135 0=some (130,0)/\Fv AA 135 1=some (133,9)/\AA.cellsOf 159=4/\AA.bytesOf 159=56/\Ja AA 159=some (some 4)/\HD AA 159=true/\(AA.info? 159).isSome=true/\Ji AA 159 = .struct [(0,1),(1,1),(2,1),(3,1)]/\Fv AA 159 0=some (9,0)/\Fv AA 159 1=some (72,1)/\Fv AA 159 2=some (3,2)/\Fv AA 159 3=some (3,3):=Tq
def qv:AA.cellsOf 182=3/\Ja AA 182=some (some 3)/\Fv AA 182 0=some (3,0)/\Fv AA 182 1=some (3,1)/\Fv AA 182 2=some (3,2)/\AA.cellsOf 226=2/\Ja AA 226=some (some 2)/\Ji AA 226 = .struct [(0,1),(1,1)]/\Fv AA 226 0=some (3,0)/\Fv AA 226 1=some (3,1)/\AA.cellsOf 256=1/\Ja AA 256=some none:=Tq
def AK6:AA.underlying 256=some (.slice 258)/\AA.cellsOf 258=3/\Ja AA 258=some (some 3)/\Fv AA 258 0=some (3,0)/\Fv AA 258 1=some (9,1)/\Fv AA 258 2=some (256,2)/\AA.cellsOf 260=8/\Fv AA 260 0=some (62,0)/\Fv AA 260 1=some (258,5)/\AA.cellsOf 286=4/\Ja AA 286=some (some 4)/\Fv AA 286 0=some (3,0):=Tq
def kl:Fv AA 286 1=some (3,1)/\Fv AA 286 2=some (3,2)/\Fv AA 286 3=some (3,3)/\AA.cellsOf 293=2/\Ja AA 293=some (some 2)/\Fv AA 293 0=some (3,0)/\Fv AA 293 1=some (3,1):=⟨kr,kr,kr,kr,kr,kr,kr⟩
def mixed:AA.follows .mixedOrders=true:=kr
def yQ:Es:=hm [28,16] [] [] []
def ARQ:yQ.lv=GL [[2,3,4],[4]]:=GM rfl dk
def ARP:=GS yQ
def ARO:yQ.tk=[]/\yQ.mt=[]/\yQ.pc=[]:=⟨rfl,rfl,rfl⟩
def ARR:FK AA 231 f231 yQ:=GP func231
def zL:Es:=hm [6,14,30,1054,30,30,4] [] [] [19,20]
def AUZ:zL.lv=GL [[1,2],[1,2,3],[1,2,3,4],[1,2,3,4,10],[1,2,3,4],[1,2,3,4],[2]]:=GM rfl dk
def AUY:=GS zL
def AUX:zL.tk=[]/\zL.mt=[]/\zL.pc=[19,20]:=⟨rfl,rfl,rfl⟩
def AEb:FK AA 172 f172 zL:=GP func172
def zu:Es:=hm [6,14,270,14,30,262174,30,30,4] [] [] [12,13,27,28]
def AWj:zu.lv=GL [[1,2],[1,2,3],[1,2,3,8],[1,2,3],[1,2,3,4],[1,2,3,4,18],[1,2,3,4],[1,2,3,4],[2]]:=GM rfl dk
def AWi:=GS zu
def AWh:zu.tk=[]/\zu.mt=[]/\zu.pc=[12,13,27,28]:=⟨rfl,rfl,rfl⟩
def AEf:FK AA 136 f136 zu:=GP func136
def yC:Es:=hm [2,10,24,4] [] [] [6,9]
def AQV:yC.lv=GL [[1],[1,3],[3,4],[2]]:=GM rfl dk
def AQU:=GS yC
def AQT:yC.tk=[]/\yC.mt=[]/\yC.pc=[6,9]:=⟨rfl,rfl,rfl⟩
def AQW:FK AA 247 f247 yC:=GP func247
def zP:Es:=hm [1,9,4105,9,25,4294967305,4,4] [33] [] [20]
def AUn:zP.lv=GL [[0],[0,3],[0,3,12],[0,3],[0,3,4],[0,3,32],[2],[2]]:=GM rfl dk
def AUm:=GS zP
def AUl:zP.tk=[33]/\zP.mt=[]/\zP.pc=[20]:=⟨rfl,rfl,rfl⟩
def AEd:FK AA 168 f168 zP:=GP func168
def zO:Es:=hm [2,10,26,538,26,26,4194312,8,4] [] [] [18]
def AUk:zO.lv=GL [[1],[1,3],[1,3,4],[1,3,4,9],[1,3,4],[1,3,4],[3,22],[3],[2]]:=GM rfl dk
def AUj:=GS zO
def AUi:zO.tk=[]/\zO.mt=[]/\zO.pc=[18]:=⟨rfl,rfl,rfl⟩
def AEc:FK AA 169 f169 zO:=GP func169
def yB:Es:=hm [2,10,26,538,26,26,4194312,8,4] [] [] [18]
def AQS:yB.lv=GL [[1],[1,3],[1,3,4],[1,3,4,9],[1,3,4],[1,3,4],[3,22],[3],[2]]:=GM rfl dk
def AQR:=GS yB
def AQQ:yB.tk=[]/\yB.mt=[]/\yB.pc=[18]:=⟨rfl,rfl,rfl⟩
def AEW:FK AA 248 f248 yB:=GP func248
def zN:Es:=hm [2,10,24,4] [] [] [6,8]
def AUg:zN.lv=GL [[1],[1,3],[3,4],[2]]:=GM rfl dk
def AUf:=GS zN
def AUe:zN.tk=[]/\zN.mt=[]/\zN.pc=[6,8]:=⟨rfl,rfl,rfl⟩
def AUh:FK AA 170 f170 zN:=GP func170
def h82:Es:=hm [2,8,4] [] [] [5]
def Ad3:h82.lv=GL [[1],[3],[2]]:=GM rfl dk
def Ad2:=GS h82
def Ad1:h82.tk=[]/\h82.mt=[]/\h82.pc=[5]:=⟨rfl,rfl,rfl⟩
def Ad4:FK AA 82 f82 h82:=GP func82
def yA:Es:=hm [6,14,30,1054,30,30,4] [] [] [19,20]
def AQP:yA.lv=GL [[1,2],[1,2,3],[1,2,3,4],[1,2,3,4,10],[1,2,3,4],[1,2,3,4],[2]]:=GM rfl dk
def AQO:=GS yA
def AQN:yA.tk=[]/\yA.mt=[]/\yA.pc=[19,20]:=⟨rfl,rfl,rfl⟩
def AEV:FK AA 249 f249 yA:=GP func249
def zM:Es:=hm [2,8,4] [] [] [5]
def AUc:zM.lv=GL [[1],[3],[2]]:=GM rfl dk
def AUb:=GS zM
def AUa:zM.tk=[]/\zM.mt=[]/\zM.pc=[5]:=⟨rfl,rfl,rfl⟩
def AUd:FK AA 171 f171 zM:=GP func171
def h81:Es:=hm [2,10,68719476738,4,18,2199023255570,18,0x2000000000000012,4,34,0x40000000000000022,34,98,226,0x10000000000000000000022,4,4] [] [] [10,50,59,75,82]
def Ad7:h81.lv=GL [[1],[1,3],[1,36],[2],[1,4],[1,4,41],[1,4],[1,4,61],[2],[1,5],[1,5,66],[1,5],[1,5,6],[1,5,6,7],[1,5,88],[2],[2]]:=GM rfl dk
def Ad6:=GS h81
def Ad5:h81.tk=[]/\h81.mt=[]/\h81.pc=[10,50,59,75,82]:=⟨rfl,rfl,rfl⟩
def AJ6:FK AA 81 f81 h81:=GP func81
def zH:Es:=hm [1,9,521,9,25,57,0x800000000009,4,4] [] [] []
def AUJ:zH.lv=GL [[0],[0,3],[0,3,9],[0,3],[0,3,4],[0,3,4,5],[0,3,47],[2],[2]]:=GM rfl dk
def AUI:=GS zH
def AUH:zH.tk=[]/\zH.mt=[]/\zH.pc=[]:=⟨rfl,rfl,rfl⟩
def AUK:FK AA 176 f176 zH:=GP func176
def ze:Es:=hm [6,16] [] [] []
def AVn:ze.lv=GL [[1,2],[4]]:=GM rfl dk
def AVm:=GS ze
def AVl:ze.tk=[]/\ze.mt=[]/\ze.pc=[]:=⟨rfl,rfl,rfl⟩
def AVo:FK AA 151 f151 ze:=GP func151
def xS:Es:=hm [6,16] [] [] [7]
def AOB:xS.lv=GL [[1,2],[4]]:=GM rfl dk
def AOA:=GS xS
def AN':xS.tk=[]/\xS.mt=[]/\xS.pc=[7]:=⟨rfl,rfl,rfl⟩
def AOC:FK AA 307 f307 xS:=GP func307
def x_:Es:=hm [12,44,262156,16,76,8388684,76,204,17179869260,16,332,137438953804,332,4503599627370828,16,524,0x20000000000020c,524,1548,0x800000000000000060c,16,3596,0x40000000000000000e0c,3596,0x100000000000000000000e0c,16,4104,0x2000000000000000000001008,4104,0x800000000000000000000000001008,16,12296,0x4000000000000000000000000003008,12296,0x20000000000000000000000000000003008,16,16] [] [] [16,32,107,117]
def AQL:x_.lv=GL [[2,3],[2,3,5],[2,3,18],[4],[2,3,6],[2,3,6,23],[2,3,6],[2,3,6,7],[2,3,6,34],[4],[2,3,6,8],[2,3,6,8,37],[2,3,6,8],[2,3,6,8,52],[4],[2,3,9],[2,3,9,57],[2,3,9],[2,3,9,10],[2,3,9,10,75],[4],[2,3,9,10,11],[2,3,9,10,11,78],[2,3,9,10,11],[2,3,9,10,11,92],[4],[3,12],[3,12,97],[3,12],[3,12,119],[4],[3,12,13],[3,12,13,122],[3,12,13],[3,12,13,137],[4],[4]]:=GM rfl dk
def AQK:=GS x_
def AQJ:x_.tk=[]/\x_.mt=[]/\x_.pc=[16,32,107,117]:=⟨rfl,rfl,rfl⟩
def AQM:FK AA 250 f250 x_:=GP func250
def yR:Es:=hm [2,1024,4,4] [] [] []
def ARU:yR.lv=GL [[1],[10],[2],[2]]:=GM rfl dk
def ART:=GS yR
def ARS:yR.tk=[]/\yR.mt=[]/\yR.pc=[]:=⟨rfl,rfl,rfl⟩
def ARV:FK AA 230 f230 yR:=GP func230
def zw:Es:=hm [6,34,8224,16,16] [] [] [7]
def AWm:zw.lv=GL [[1,2],[1,5],[5,13],[4],[4]]:=GM rfl dk
def AWl:=GS zw
def AWk:zw.tk=[]/\zw.mt=[]/\zw.pc=[7]:=⟨rfl,rfl,rfl⟩
def AWn:FK AA 135 f135 zw:=GP func135
def yO:Es:=hm [12,2199023255564,16,44,70368744177708,44,108,0x200000000000002c,16,16] [] [] [59]
def ARJ:yO.lv=GL [[2,3],[2,3,41],[4],[2,3,5],[2,3,5,46],[2,3,5],[2,3,5,6],[2,3,5,61],[4],[4]]:=GM rfl dk
def ARI:=GS yO
def ARH:yO.tk=[]/\yO.mt=[]/\yO.pc=[59]:=⟨rfl,rfl,rfl⟩
def AEY:FK AA 233 f233 yO:=GP func233
def ww:Es:=hm [1,4] [] [] []
def AMY:ww.lv=GL [[0],[2]]:=GM rfl dk
def AMX:=GS ww
def AMW:ww.tk=[]/\ww.mt=[]/\ww.pc=[]:=⟨rfl,rfl,rfl⟩
def AMZ:FK AA 365 f365 ww:=GP func365
def wv:Es:=hm [1,9,25,537,25,131097,4,4] [] [] [5]
def AMU:wv.lv=GL [[0],[0,3],[0,3,4],[0,3,4,9],[0,3,4],[0,3,4,17],[2],[2]]:=GM rfl dk
def AMT:=GS wv
def AMS:wv.tk=[]/\wv.mt=[]/\wv.pc=[5]:=⟨rfl,rfl,rfl⟩
def AMV:FK AA 366 f366 wv:=GP func366
def wo:Es:=hm [1,4] [] [] []
def AL4:wo.lv=GL [[0],[2]]:=GM rfl dk
def AL3:=GS wo
def AL2:wo.tk=[]/\wo.mt=[]/\wo.pc=[]:=⟨rfl,rfl,rfl⟩
def AL5:FK AA 396 f396 wo:=GP func396
def wp:Es:=hm [1,9,25,4] [] [] [6,8]
def AL8:wp.lv=GL [[0],[0,3],[0,3,4],[2]]:=GM rfl dk
def AL7:=GS wp
def AL6:wp.tk=[]/\wp.mt=[]/\wp.pc=[6,8]:=⟨rfl,rfl,rfl⟩
def AL9:FK AA 380 f380 wp:=GP func380
def wu:Es:=hm [1,9,265,25,16393,9,4] [] [] [12]
def AMQ:wu.lv=GL [[0],[0,3],[0,3,8],[0,3,4],[0,3,14],[0,3],[2]]:=GM rfl dk
def AMP:=GS wu
def AMO:wu.tk=[]/\wu.mt=[]/\wu.pc=[12]:=⟨rfl,rfl,rfl⟩
def AMR:FK AA 367 f367 wu:=GP func367
def xB:Es:=hm [1,4097,4,9,25,4] [] [] [15,17,21]
def AM':xB.lv=GL [[0],[0,12],[2],[0,3],[0,3,4],[2]]:=GM rfl dk
def AM_:=GS xB
def AM9:xB.tk=[]/\xB.mt=[]/\xB.pc=[15,17,21]:=⟨rfl,rfl,rfl⟩
def ANA:FK AA 342 f342 xB:=GP func342
def xX:Es:=hm [1,4] [] [] [4]
def AOa:xX.lv=GL [[0],[2]]:=GM rfl dk
def AOZ:=GS xX
def AOY:xX.tk=[]/\xX.mt=[]/\xX.pc=[4]:=⟨rfl,rfl,rfl⟩
def AOb:FK AA 301 f301 xX:=GP func301
def yP:Es:=hm [1,9,4] [] [] [5]
def ARM:yP.lv=GL [[0],[0,3],[2]]:=GM rfl dk
def ARL:=GS yP
def ARK:yP.tk=[]/\yP.mt=[]/\yP.pc=[5]:=⟨rfl,rfl,rfl⟩
def ARN:FK AA 232 f232 yP:=GP func232
def Alv:Es:=hm [2,10,26,58,122,250,34359738618,103079215354,103079215354,194,1133871366394,194,0x80008000000fa,194,0x800000008000000ea,194,0x80000000000008000000e2,130,194,0x400000000000008000000e2,0x400000000000008000000e2,130,194,0x4000000000000000000000c2,194,0x10000000000000000000000000000042,4,322,0x80000000000000000000000000000142,322,834,0x20000000000000000000000000000000142,4,4] [] [] [12,135]
def zb1:Alv.lv=GL [[1],[1,3],[1,3,4],[1,3,4,5],[1,3,4,5,6],[1,3,4,5,6,7],[1,3,4,5,6,7,35],[1,3,4,5,6,7,35,36],[1,3,4,5,6,7,35,36],[1,6,7],[1,3,4,5,6,7,35,40],[1,6,7],[1,3,4,5,6,7,35,51],[1,6,7],[1,3,5,6,7,35,67],[1,6,7],[1,5,6,7,35,87],[1,7],[1,6,7],[1,5,6,7,35,90],[1,5,6,7,35,90],[1,7],[1,6,7],[1,6,7,94],[1,6,7],[1,6,124],[2],[1,6,8],[1,6,8,127],[1,6,8],[1,6,8,9],[1,6,8,137],[2],[2]]:=GM rfl dk
def zb2:=GS Alv
def zb3:Alv.tk=[]/\Alv.mt=[]/\Alv.pc=[12,135]:=⟨rfl,rfl,rfl⟩
def ARG:FK AA 234 f234 Alv:=GP func234
def zt:Es:=hm [2,10,26,58,122,250,67109114,201326842,194,34426847482,194,0x80000040000f2,0x80000040000f2,130,194,0x4000000000000f2,130,194,0x1000000000000000042,4,322,0x8000000000000000142,322,834,0x2000000000000000000142,4,4] [] [] [12,16,31,83]
def AWf:zt.lv=GL [[1],[1,3],[1,3,4],[1,3,4,5],[1,3,4,5,6],[1,3,4,5,6,7],[1,3,4,5,6,7,26],[1,3,4,5,6,7,26,27],[1,6,7],[1,3,4,5,6,7,26,35],[1,6,7],[1,4,5,6,7,26,51],[1,4,5,6,7,26,51],[1,7],[1,6,7],[1,4,5,6,7,58],[1,7],[1,6,7],[1,6,72],[2],[1,6,8],[1,6,8,75],[1,6,8],[1,6,8,9],[1,6,8,85],[2],[2]]:=GM rfl dk
def AWe:=GS zt
def AWd:zt.tk=[]/\zt.mt=[]/\zt.pc=[12,16,31,83]:=⟨rfl,rfl,rfl⟩
def AWg:FK AA 137 f137 zt:=GP func137
def h71:Es:=hm [2,4] [] [] [4,6,7]
def Aeg:h71.lv=GL [[1],[2]]:=GM rfl dk
def Aef:=GS h71
def Aee:h71.tk=[]/\h71.mt=[]/\h71.pc=[4,6,7]:=⟨rfl,rfl,rfl⟩
def Aeh:FK AA 71 f71 h71:=GP func71
def w_:Es:=hm [12,0x80000000000c,16,44,4503599627370540,44,0x2000000000000002c,16,16] [] [] []
def AM4:w_.lv=GL [[2,3],[2,3,47],[4],[2,3,5],[2,3,5,52],[2,3,5],[2,3,5,65],[4],[4]]:=GM rfl dk
def AM3:=GS w_
def AM2:w_.tk=[]/\w_.mt=[]/\w_.pc=[]:=⟨rfl,rfl,rfl⟩
def AEN:FK AA 344 f344 w_:=GP func344
def xM:Es:=hm [2,10,4098,4,18,536870914,4,34,17179869218,34,98,17592186044450,4,130,386,0x200000000000182,0x600000000000182,4,0x200200000000000182,4,0x20000200000000000182,4,0x2000000000200000000000182,4,0x200000000000000200000000000182,4,0x8000000000000000000000000000002,4,4] [] [] [11,15,42,47]
def ANp:xM.lv=GL [[1],[1,3],[1,12],[2],[1,4],[1,29],[2],[1,5],[1,5,34],[1,5],[1,5,6],[1,5,44],[2],[1,7],[1,7,8],[1,7,8,57],[1,7,8,57,58],[2],[1,7,8,57,69],[2],[1,7,8,57,77],[2],[1,7,8,57,97],[2],[1,7,8,57,117],[2],[1,123],[2],[2]]:=GM rfl dk
def ANo:=GS xM
def ANn:xM.tk=[]/\xM.mt=[]/\xM.pc=[11,15,42,47]:=⟨rfl,rfl,rfl⟩
def ANq:FK AA 313 f313 xM:=GP func313
def qG:Es:=hm [2,8,128,4,4] [] [] [5]
def APu:qG.lv=GL [[1],[3],[7],[2],[2]]:=GM rfl dk
def APt:=GS qG
def APs:qG.tk=[]/\qG.mt=[]/\qG.pc=[5]:=⟨rfl,rfl,rfl⟩
def APv:FK AA 257 f257 qG:=GP func257
def zC:Es:=hm [1,257,4,9,4105,9,25,4194329,4,41,2147483689,4,4] [] [] [20,29]
def ATu:zC.lv=GL [[0],[0,8],[2],[0,3],[0,3,12],[0,3],[0,3,4],[0,3,4,22],[2],[0,3,5],[0,3,5,31],[2],[2]]:=GM rfl dk
def ATt:=GS zC
def ATs:zC.tk=[]/\zC.mt=[]/\zC.pc=[20,29]:=⟨rfl,rfl,rfl⟩
def ATv:FK AA 182 f182 zC:=GP func182
def h77:Es:=hm [19,275,48,83,8275,83,4194387,48,48] [23] [] [9]
def AeK:h77.lv=GL [[0,1,4],[0,1,4,8],[4,5],[0,1,4,6],[0,1,4,6,13],[0,1,4,6],[0,1,4,6,22],[4,5],[4,5]]:=GM rfl dk
def AeJ:=GS h77
def AeI:h77.tk=[23]/\h77.mt=[]/\h77.pc=[9]:=⟨rfl,rfl,rfl⟩
def AJ7:FK AA 77 f77 h77:=GP func77
def xO:Es:=hm [2,10,26,2074,26,26,4] [14,22] [] [20]
def ANx:xO.lv=GL [[1],[1,3],[1,3,4],[1,3,4,11],[1,3,4],[1,3,4],[2]]:=GM rfl dk
def ANw:=GS xO
def ANv:xO.tk=[14,22]/\xO.mt=[]/\xO.pc=[20]:=⟨rfl,rfl,rfl⟩
def ANy:FK AA 311 f311 xO:=GP func311
def zQ:Es:=hm [1,9,25,153,25,25,4] [] [] []
def AUq:zQ.lv=GL [[0],[0,3],[0,3,4],[0,3,4,7],[0,3,4],[0,3,4],[2]]:=GM rfl dk
def AUp:=GS zQ
def AUo:zQ.tk=[]/\zQ.mt=[]/\zQ.pc=[]:=⟨rfl,rfl,rfl⟩
def AUr:FK AA 167 f167 zQ:=GP func167
def yL:Es:=hm [2,4] [] [] [5]
def AQ8:yL.lv=GL [[1],[2]]:=GM rfl dk
def AQ7:=GS yL
def AQ6:yL.tk=[]/\yL.mt=[]/\yL.pc=[5]:=⟨rfl,rfl,rfl⟩
def AQ9:FK AA 237 f237 yL:=GP func237
def xN:Es:=hm [9,1048585,16,104,536870952,16,168,17179869352,168,4503599627370496,16,16] [22] [] [25,39]
def ANt:xN.lv=GL [[0,3],[0,3,20],[4],[3,5,6],[3,5,29],[4],[3,5,7],[3,5,7,34],[3,5,7],[52],[4],[4]]:=GM rfl dk
def ANs:=GS xN
def ANr:xN.tk=[22]/\xN.mt=[]/\xN.pc=[25,39]:=⟨rfl,rfl,rfl⟩
def ANu:FK AA 312 f312 xN:=GP func312
def N6:Es:=hm [9,33,97,8289,97,225,8388833,16,16] [] [] [9,21]
def APy:N6.lv=GL [[0,3],[0,5],[0,5,6],[0,5,6,13],[0,5,6],[0,5,6,7],[0,5,6,7,23],[4],[4]]:=GM rfl dk
def APx:=GS N6
def APw:N6.tk=[]/\N6.mt=[]/\N6.pc=[9,21]:=⟨rfl,rfl,rfl⟩
def APz:FK AA 256 f256 N6:=GP func256
def xu:Es:=hm [2,10,26,2074,26,26,4] [14,22] [] [20]
def APq:xu.lv=GL [[1],[1,3],[1,3,4],[1,3,4,11],[1,3,4],[1,3,4],[2]]:=GM rfl dk
def APp:=GS xu
def APo:xu.tk=[14,22]/\xu.mt=[]/\xu.pc=[20]:=⟨rfl,rfl,rfl⟩
def APr:FK AA 258 f258 xu:=GP func258
def Lt:Es:=hx [9,41,8233,16,97,225,1048801,225,268435681,225,2199023255777,993,9007199254741473,225,0x20000000000000e1,225,0x80000000000000e1,16,16] [] [] [] [11,16,35,49,60] [(7,1)] []
def ATp:Lt.lv=GL [[0,3],[0,3,5],[0,3,5,13],[4],[0,5,6],[0,5,6,7],[0,5,6,7,20],[0,5,6,7],[0,5,6,7,28],[0,5,6,7],[0,5,6,7,41],[0,5,6,7,8,9],[0,5,6,7,8,53],[0,5,6,7],[0,5,6,7,61],[0,5,6,7],[0,5,6,7,63],[4],[4]]:=GM rfl dk
def ATr:Lt.ct 0=none/\Lt.ct 1=none/\Lt.ct 2=none/\Lt.ct 3=none/\Lt.ct 4=none/\Lt.ct 5=none/\Lt.ct 6=none/\Lt.ct 7=some 1/\Lt.ct 8=none/\Lt.ct 9=none/\Lt.ct 10=none/\Lt.ct 11=none/\Lt.ct 12=none/\Lt.ct 13=none/\Lt.ct 14=none/\Lt.ct 15=none/\Lt.ct 16=none/\Lt.ct 17=none/\Lt.ct 18=none:=dk
def ATm(k:Nat):Lt.at k=[]:=rfl
def ATn(k:Nat):Lt.dn k=false:=AH rfl rfl
def ATo:Lt.tk=[]/\Lt.mt=[]/\Lt.pc=[11,16,35,49,60]:=⟨rfl,rfl,rfl⟩
def ATq:FK AA 183 f183 Lt:=GP func183
def J':Es:=hx [9,41,4194345,16,73,1073741897,73,201,549755814089,201,713,4503599627370697,16,1033,0x200000000000409,1033,3081,0x4000000000000c09,3081,0x8000000000000000c09,16,4104,0x100000000000000000000000,16,16] [31,77] [] [] [15,48,80,90] [(9,1)] []
def ATj:J'.lv=GL [[0,3],[0,3,5],[0,3,5,22],[4],[0,3,6],[0,3,6,30],[0,3,6],[0,3,6,7],[0,3,6,7,39],[0,3,6,7],[0,3,6,7,9],[0,3,6,7,52],[4],[0,3,10],[0,3,10,57],[0,3,10],[0,3,10,11],[0,3,10,11,62],[0,3,10,11],[0,3,10,11,75],[4],[3,12],[92],[4],[4]]:=GM rfl dk
def ATl:J'.ct 0=none/\J'.ct 1=none/\J'.ct 2=none/\J'.ct 3=none/\J'.ct 4=none/\J'.ct 5=none/\J'.ct 6=none/\J'.ct 7=none/\J'.ct 8=none/\J'.ct 9=some 1/\J'.ct 10=none/\J'.ct 11=none/\J'.ct 12=none/\J'.ct 13=none/\J'.ct 14=none/\J'.ct 15=none/\J'.ct 16=none/\J'.ct 17=none/\J'.ct 18=none/\J'.ct 19=none/\J'.ct 20=none/\J'.ct 21=none/\J'.ct 22=none/\J'.ct 23=none/\J'.ct 24=none:=dk
def ATg(k:Nat):J'.at k=[]:=rfl
def ATh(k:Nat):J'.dn k=false:=AH rfl rfl
def ATi:J'.tk=[31,77]/\J'.mt=[]/\J'.pc=[15,48,80,90]:=⟨rfl,rfl,rfl⟩
def ATk:FK AA 184 f184 J':=GP func184
def xt:Es:=hm [3,1027,16,35,16419,35,33554467,16,16] [] [] []
def APn:xt.lv=GL [[0,1],[0,1,10],[4],[0,1,5],[0,1,5,14],[0,1,5],[0,1,5,25],[4],[4]]:=GM rfl dk
def APm:=GS xt
def APl:xt.tk=[]/\xt.mt=[]/\xt.pc=[]:=⟨rfl,rfl,rfl⟩
def AET:FK AA 259 f259 xt:=GP func259
def yw:Es:=hm [2,4] [] [] []
def ATA:yw.lv=GL [[1],[2]]:=GM rfl dk
def AS':=GS yw
def AS_:yw.tk=[]/\yw.mt=[]/\yw.pc=[]:=⟨rfl,rfl,rfl⟩
def ATB:FK AA 192 f192 yw:=GP func192
def SC:Es:=hx [3,35,99,4195,99,227,99,16] [24,29] [] [] [21] [(4,0)] []
def ATF:SC.lv=GL [[0,1],[0,1,5],[0,1,5,6],[0,1,5,6,12],[0,1,5,6],[0,1,5,6,7],[0,1,5,6],[4]]:=GM rfl dk
def ATH:SC.ct 0=none/\SC.ct 1=none/\SC.ct 2=none/\SC.ct 3=none/\SC.ct 4=some 0/\SC.ct 5=none/\SC.ct 6=none/\SC.ct 7=none:=dk
def ATC(k:Nat):SC.at k=[]:=rfl
def ATD(k:Nat):SC.dn k=false:=AH rfl rfl
def ATE:SC.tk=[24,29]/\SC.mt=[]/\SC.pc=[21]:=⟨rfl,rfl,rfl⟩
def ATG:FK AA 191 f191 SC:=GP func191
def yy:Es:=hm [1,8,24,4,72,72,4,520,512,4,4] [] [] []
def ATK:yy.lv=GL [[0],[3],[3,4],[2],[3,6],[3,6],[2],[3,9],[9],[2],[2]]:=GM rfl dk
def ATJ:=GS yy
def ATI:yy.tk=[]/\yy.mt=[]/\yy.pc=[]:=⟨rfl,rfl,rfl⟩
def ATL:FK AA 190 f190 yy:=GP func190
def zB:Es:=hm [49,134217777,64,176,64] [] [] [9,12,31,35,36,41,44]
def ATe:zB.lv=GL [[0,4,5],[0,4,5,27],[6],[4,5,7],[6]]:=GM rfl dk
def ATd:=GS zB
def ATc:zB.tk=[]/\zB.mt=[]/\zB.pc=[9,12,31,35,36,41,44]:=⟨rfl,rfl,rfl⟩
def ATf:FK AA 185 f185 zB:=GP func185
def R_:Es:=hx [3,35,65571,16,67,2097219,67,195,4294967491,16,323,4398046511427,16,515,0x800000000203,515,1539,4503599627372035,1539,3587,7683,0x4000000000000000000603,16,16] [] [] [] [14,30,40,84] [(18,0)] []
def Ada:R_.lv=GL [[0,1],[0,1,5],[0,1,5,16],[4],[0,1,6],[0,1,6,21],[0,1,6],[0,1,6,7],[0,1,6,7,32],[4],[0,1,6,8],[0,1,6,8,42],[4],[0,1,9],[0,1,9,47],[0,1,9],[0,1,9,10],[0,1,9,10,52],[0,1,9,10],[0,1,9,10,11],[0,1,9,10,11,12],[0,1,9,10,86],[4],[4]]:=GM rfl dk
def Adc:R_.ct 0=none/\R_.ct 1=none/\R_.ct 2=none/\R_.ct 3=none/\R_.ct 4=none/\R_.ct 5=none/\R_.ct 6=none/\R_.ct 7=none/\R_.ct 8=none/\R_.ct 9=none/\R_.ct 10=none/\R_.ct 11=none/\R_.ct 12=none/\R_.ct 13=none/\R_.ct 14=none/\R_.ct 15=none/\R_.ct 16=none/\R_.ct 17=none/\R_.ct 18=some 0/\R_.ct 19=none/\R_.ct 20=none/\R_.ct 21=none/\R_.ct 22=none/\R_.ct 23=none:=dk
def AdX(k:Nat):R_.at k=[]:=rfl
def AdY(k:Nat):R_.dn k=false:=AH rfl rfl
def AdZ:R_.tk=[]/\R_.mt=[]/\R_.pc=[14,30,40,84]:=⟨rfl,rfl,rfl⟩
def Adb:FK AA 88 f88 R_:=GP func88
def xA:Es:=hm [3,35,99,227,2275,227,8388835,163,227,8589934819,227,4398046511138,32,16] [24,34,43,47] [] []
def AM7:xA.lv=GL [[0,1],[0,1,5],[0,1,5,6],[0,1,5,6,7],[0,1,5,6,7,11],[0,1,5,6,7],[0,1,5,6,7,23],[0,1,5,7],[0,1,5,6,7],[0,1,5,6,7,33],[0,1,5,6,7],[1,5,42],[5],[4]]:=GM rfl dk
def AM6:=GS xA
def AM5:xA.tk=[24,34,43,47]/\xA.mt=[]/\xA.pc=[]:=⟨rfl,rfl,rfl⟩
def AM8:FK AA 343 f343 xA:=GP func343
def xR:Es:=hm [2,10,24,56,2104,56,134217784,56,4] [] [] [7,34]
def AN9:xR.lv=GL [[1],[1,3],[3,4],[3,4,5],[3,4,5,11],[3,4,5],[3,4,5,27],[3,4,5],[2]]:=GM rfl dk
def AN8:=GS xR
def AN7:xR.tk=[]/\xR.mt=[]/\xR.pc=[7,34]:=⟨rfl,rfl,rfl⟩
def AN_:FK AA 308 f308 xR:=GP func308
def xQ:Es:=hm [3,35,547,35,131107,16,16] [] [] []
def AN6:xQ.lv=GL [[0,1],[0,1,5],[0,1,5,9],[0,1,5],[0,1,5,17],[4],[4]]:=GM rfl dk
def AN5:=GS xQ
def AN4:xQ.tk=[]/\xQ.mt=[]/\xQ.pc=[]:=⟨rfl,rfl,rfl⟩
def AEQ:FK AA 309 f309 xQ:=GP func309
def MQ:Es:=hx [12,40,65576,16,72,4194376,72,200,456,34359738824,456,17592186044872,16,584,0x8000000000000048,16,16] [] [] [] [14,31,43,61] [(6,2)] []
def AQG:MQ.lv=GL [[2,3],[3,5],[3,5,16],[4],[3,6],[3,6,22],[3,6],[3,6,7],[3,6,7,8],[3,6,7,8,35],[3,6,7,8],[3,6,7,8,44],[4],[3,6,9],[3,6,63],[4],[4]]:=GM rfl dk
def AQI:MQ.ct 0=none/\MQ.ct 1=none/\MQ.ct 2=none/\MQ.ct 3=none/\MQ.ct 4=none/\MQ.ct 5=none/\MQ.ct 6=some 2/\MQ.ct 7=none/\MQ.ct 8=none/\MQ.ct 9=none/\MQ.ct 10=none/\MQ.ct 11=none/\MQ.ct 12=none/\MQ.ct 13=none/\MQ.ct 14=none/\MQ.ct 15=none/\MQ.ct 16=none:=dk
def AQD(k:Nat):MQ.at k=[]:=rfl
def AQE(k:Nat):MQ.dn k=false:=AH rfl rfl
def AQF:MQ.tk=[]/\MQ.mt=[]/\MQ.pc=[14,31,43,61]:=⟨rfl,rfl,rfl⟩
def AQH:FK AA 251 f251 MQ:=GP func251
def xw:Es:=hm [2,4] [] [] [4,6,7]
def AP2:xw.lv=GL [[1],[2]]:=GM rfl dk
def AP1:=GS xw
def AP0:xw.tk=[]/\xw.mt=[]/\xw.pc=[4,6,7]:=⟨rfl,rfl,rfl⟩
def AP3:FK AA 255 f255 xw:=GP func255
def zD:Es:=hm [9,41,553,16,16] [11] [] [7,13]
def ATy:zD.lv=GL [[0,3],[0,3,5],[0,3,5,9],[4],[4]]:=GM rfl dk
def ATx:=GS zD
def ATw:zD.tk=[11]/\zD.mt=[]/\zD.pc=[7,13]:=⟨rfl,rfl,rfl⟩
def ATz:FK AA 181 f181 zD:=GP func181
def xP:Es:=hm [2,10,26,58,32826,4,98362,98362,50,557114,50,4227106,4227106,50,33554466,50,34359738386,4,82,274877907026,82,210,281474976710738,4,4] [] [] [10,46]
def AN1:xP.lv=GL [[1],[1,3],[1,3,4],[1,3,4,5],[1,3,4,5,15],[2],[1,3,4,5,15,16],[1,3,4,5,15,16],[1,4,5],[1,3,4,5,15,19],[1,4,5],[1,5,15,22],[1,5,15,22],[1,4,5],[1,5,25],[1,4,5],[1,4,35],[2],[1,4,6],[1,4,6,38],[1,4,6],[1,4,6,7],[1,4,6,48],[2],[2]]:=GM rfl dk
def AN0:=GS xP
def ANz:xP.tk=[]/\xP.mt=[]/\xP.pc=[10,46]:=⟨rfl,rfl,rfl⟩
def AN2:FK AA 310 f310 xP:=GP func310
def xz:Es:=hm [2,4] [] [] [4,6,7]
def AQB:xz.lv=GL [[1],[2]]:=GM rfl dk
def AQA:=GS xz
def AP':xz.tk=[]/\xz.mt=[]/\xz.pc=[4,6,7]:=⟨rfl,rfl,rfl⟩
def AQC:FK AA 252 f252 xz:=GP func252
def zK:Es:=hm [2,18,50,114,4210,114,114,178,268435634,178,178,12] [15,31,40,41] [] []
def AUV:zK.lv=GL [[1],[1,4],[1,4,5],[1,4,5,6],[1,4,5,6,12],[1,4,5,6],[1,4,5,6],[1,4,5,7],[1,4,5,7,28],[1,4,5,7],[1,4,5,7],[2,3]]:=GM rfl dk
def AUU:=GS zK
def AUT:zK.tk=[15,31,40,41]/\zK.mt=[]/\zK.pc=[]:=⟨rfl,rfl,rfl⟩
def AUW:FK AA 173 f173 zK:=GP func173
def xy:Es:=hm [12,44,4194316,16,140,134217868,140,137438953612,16,16] [17] [] [10,20,36]
def AP_:xy.lv=GL [[2,3],[2,3,5],[2,3,22],[4],[2,3,7],[2,3,7,27],[2,3,7],[2,3,7,37],[4],[4]]:=GM rfl dk
def AP9:=GS xy
def AP8:xy.tk=[17]/\xy.mt=[]/\xy.pc=[10,20,36]:=⟨rfl,rfl,rfl⟩
def AEU:FK AA 253 f253 xy:=GP func253
def xx:Es:=hm [6,16] [] [] [7]
def AP6:xx.lv=GL [[1,2],[4]]:=GM rfl dk
def AP5:=GS xx
def AP4:xx.tk=[]/\xx.mt=[]/\xx.pc=[7]:=⟨rfl,rfl,rfl⟩
def AP7:FK AA 254 f254 xx:=GP func254
def JO:Es:=hx [12,2147483660,16,44,68719476780,44,2199023255596,16,76,0x80000000004c,76,108,0x100000000000006c,108,0x20000000000000000006c,108,0x80000000000000000006c,16,136,0x20000000000000000000088,136,392,0x1000000000000000000000000000000188,16,904,0x8000000000000000000000000000000388,904,0x2000000000000000000000000000000000000388,16,16] [] [] [] [34,39,58,67,79,100,106] [(20,2)] []
def AT8:JO.lv=GL [[2,3],[2,3,31],[4],[2,3,5],[2,3,5,36],[2,3,5],[2,3,5,41],[4],[2,3,6],[2,3,6,47],[2,3,6],[2,3,5,6],[2,3,5,6,60],[2,3,5,6],[2,3,5,6,81],[2,3,5,6],[2,3,5,6,83],[4],[3,7],[3,7,89],[3,7],[3,7,8],[3,7,8,132],[4],[3,7,8,9],[3,7,8,9,135],[3,7,8,9],[3,7,8,9,157],[4],[4]]:=GM rfl dk
def AT_:JO.ct 0=none/\JO.ct 1=none/\JO.ct 2=none/\JO.ct 3=none/\JO.ct 4=none/\JO.ct 5=none/\JO.ct 6=none/\JO.ct 7=none/\JO.ct 8=none/\JO.ct 9=none/\JO.ct 10=none/\JO.ct 11=none/\JO.ct 12=none/\JO.ct 13=none/\JO.ct 14=none/\JO.ct 15=none/\JO.ct 16=none/\JO.ct 17=none/\JO.ct 18=none/\JO.ct 19=none/\JO.ct 20=some 2/\JO.ct 21=none/\JO.ct 22=none/\JO.ct 23=none/\JO.ct 24=none/\JO.ct 25=none/\JO.ct 26=none/\JO.ct 27=none/\JO.ct 28=none/\JO.ct 29=none:=dk
def AT5(k:Nat):JO.at k=[]:=rfl
def AT6(k:Nat):JO.dn k=false:=AH rfl rfl
def AT7:JO.tk=[]/\JO.mt=[]/\JO.pc=[34,39,58,67,79,100,106]:=⟨rfl,rfl,rfl⟩
def AT9:FK AA 179 f179 JO:=GP func179
def h80:Es:=hm [30,256] [] [] []
def Ad_:h80.lv=GL [[1,2,3,4],[8]]:=GM rfl dk
def Ad9:=GS h80
def Ad8:h80.tk=[]/\h80.mt=[]/\h80.pc=[]:=⟨rfl,rfl,rfl⟩
def Ad':FK AA 80 f80 h80:=GP func80
def zJ:Es:=hm [1,9,521,9,25,262153,4,41,2097193,41,4294967337,4,4] [] [] [16]
def AUR:zJ.lv=GL [[0],[0,3],[0,3,9],[0,3],[0,3,4],[0,3,18],[2],[0,3,5],[0,3,5,21],[0,3,5],[0,3,5,32],[2],[2]]:=GM rfl dk
def AUQ:=GS zJ
def AUP:zJ.tk=[]/\zJ.mt=[]/\zJ.pc=[16]:=⟨rfl,rfl,rfl⟩
def AUS:FK AA 174 f174 zJ:=GP func174
def zI:Es:=hm [6,16] [] [] []
def AUN:zI.lv=GL [[1,2],[4]]:=GM rfl dk
def AUM:=GS zI
def AUL:zI.tk=[]/\zI.mt=[]/\zI.pc=[]:=⟨rfl,rfl,rfl⟩
def AUO:FK AA 175 f175 zI:=GP func175
def RA:Es:=hx [2,134217730,4,26,50,98,4398046511106,4,130,0x800000000082,130,386,0x1000000000000000082,4,514,0x20000000000000000202,514,1538,0x20000000000000000000000000202,4,2050,0x400000000000000000000000000802,2050,0x200000000000000000000000000000802,4,4] [33,35] [] [] [30,34,36,88,94,128] [(10,1),(16,1)] []
def Ady:RA.lv=GL [[1],[1,27],[2],[1,3,4],[1,4,5],[1,5,6],[1,42],[2],[1,7],[1,7,47],[1,7],[1,7,8],[1,7,72],[2],[1,9],[1,9,77],[1,9],[1,9,10],[1,9,113],[2],[1,11],[1,11,118],[1,11],[1,11,129],[2],[2]]:=GM rfl dk
def Ad0:RA.ct 0=none/\RA.ct 1=none/\RA.ct 2=none/\RA.ct 3=none/\RA.ct 4=none/\RA.ct 5=none/\RA.ct 6=none/\RA.ct 7=none/\RA.ct 8=none/\RA.ct 9=none/\RA.ct 10=some 1/\RA.ct 11=none/\RA.ct 12=none/\RA.ct 13=none/\RA.ct 14=none/\RA.ct 15=none/\RA.ct 16=some 1/\RA.ct 17=none/\RA.ct 18=none/\RA.ct 19=none/\RA.ct 20=none/\RA.ct 21=none/\RA.ct 22=none/\RA.ct 23=none/\RA.ct 24=none/\RA.ct 25=none:=dk
def Adv(k:Nat):RA.at k=[]:=rfl
def Adw(k:Nat):RA.dn k=false:=AH rfl rfl
def Adx:RA.tk=[33,35]/\RA.mt=[]/\RA.pc=[30,34,36,88,94,128]:=⟨rfl,rfl,rfl⟩
def Adz:FK AA 83 f83 RA:=GP func83
def zG:Es:=hm [2,4] [] [] []
def AUF:zG.lv=GL [[1],[2]]:=GM rfl dk
def AUE:=GS zG
def AUD:zG.tk=[]/\zG.mt=[]/\zG.pc=[]:=⟨rfl,rfl,rfl⟩
def AUG:FK AA 177 f177 zG:=GP func177
def zF:Es:=hm [12,16] [] [] []
def AUB:zF.lv=GL [[2,3],[4]]:=GM rfl dk
def AUA:=GS zF
def AT':zF.tk=[]/\zF.mt=[]/\zF.pc=[]:=⟨rfl,rfl,rfl⟩
def AUC:FK AA 178 f178 zF:=GP func178
def h84:Es:=hm [1,2049,4,9,32777,9,25,8589934601,4,41,68719476777,41,562949953421353,4,73,72057594037927945,4,137,0x800000000000089,137,393,0x800000000000000089,4,4] [] [] [23,54,70]
def Adt:h84.lv=GL [[0],[0,11],[2],[0,3],[0,3,15],[0,3],[0,3,4],[0,3,33],[2],[0,3,5],[0,3,5,36],[0,3,5],[0,3,5,49],[2],[0,3,6],[0,3,56],[2],[0,3,7],[0,3,7,59],[0,3,7],[0,3,7,8],[0,3,7,71],[2],[2]]:=GM rfl dk
def Ads:=GS h84
def Adr:h84.tk=[]/\h84.mt=[]/\h84.pc=[23,54,70]:=⟨rfl,rfl,rfl⟩
def Adu:FK AA 84 f84 h84:=GP func84
def h51:Es:=hm [2,10,42,10,131082,4,4] [] [] []
def AfN:h51.lv=GL [[1],[1,3],[1,3,5],[1,3],[1,3,17],[2],[2]]:=GM rfl dk
def AfM:=GS h51
def AfL:h51.tk=[]/\h51.mt=[]/\h51.pc=[]:=⟨rfl,rfl,rfl⟩
def AfO:FK AA 51 f51 h51:=GP func51
def yu:Es:=hm [449,961,473,8389057,449] [] [] []
def AS4:yu.lv=GL [[0,6,7,8],[0,6,7,8,9],[0,3,4,6,7,8],[0,6,7,8,23],[0,6,7,8]]:=GM rfl dk
def AS3:=GS yu
def AS2:yu.tk=[]/\yu.mt=[]/\yu.pc=[]:=⟨rfl,rfl,rfl⟩
def AS5:FK AA 205 f205 yu:=GP func205
def AYD:Es:=hm [2,4] [] [] []
def AYB:AYD.lv=GL [[1],[2]]:=GM rfl dk
def AYA:=GS AYD
def AYC:FK AA 109 f109 AYD:=GP func109
def h59:Es:=hm [28,280,1080,120,8240,1,16] [] [] []
def AfJ:h59.lv=GL [[2,3,4],[3,4,8],[3,4,5,10],[3,4,5,6],[4,5,13],[0],[4]]:=GM rfl dk
def AfI:=GS h59
def AfH:h59.tk=[]/\h59.mt=[]/\h59.pc=[]:=⟨rfl,rfl,rfl⟩
def AfK:FK AA 59 f59 h59:=GP func59
def h30:Es:=hm [28,88,8280,48,24,48] [] [] [11]
def Agh:h30.lv=GL [[2,3,4],[3,4,6],[3,4,6,13],[4,5],[3,4],[4,5]]:=GM rfl dk
def Agg:=GS h30
def Agf:h30.tk=[]/\h30.mt=[]/\h30.pc=[11]:=⟨rfl,rfl,rfl⟩
def Agi:FK AA 30 f30 h30:=GP func30
def h69:Es:=hm [6,38,1062,38,16777254,16,16] [] [] []
def Aeo:h69.lv=GL [[1,2],[1,2,5],[1,2,5,10],[1,2,5],[1,2,5,24],[4],[4]]:=GM rfl dk
def Aen:=GS h69
def Aem:h69.tk=[]/\h69.mt=[]/\h69.pc=[]:=⟨rfl,rfl,rfl⟩
def AJ8:FK AA 69 f69 h69:=GP func69
def h38:Es:=hm [28,88,8280,48,24,24,48] [] [] [11]
def AgB:h38.lv=GL [[2,3,4],[3,4,6],[3,4,6,13],[4,5],[3,4],[3,4],[4,5]]:=GM rfl dk
def AgA:=GS h38
def Af':h38.tk=[]/\h38.mt=[]/\h38.pc=[11]:=⟨rfl,rfl,rfl⟩
def AgC:FK AA 38 f38 h38:=GP func38
def z7:Es:=hm [7,64] [] [] []
def AXA:z7.lv=GL [[0,1,2],[6]]:=GM rfl dk
def AW':=GS z7
def AW_:z7.tk=[]/\z7.mt=[]/\z7.pc=[]:=⟨rfl,rfl,rfl⟩
def AXB:FK AA 129 f129 z7:=GP func129
def h66:Es:=hm [6,2054,16,16] [] [] [10]
def Aez:h66.lv=GL [[1,2],[1,2,11],[4],[4]]:=GM rfl dk
def Aey:=GS h66
def Aex:h66.tk=[]/\h66.mt=[]/\h66.pc=[10]:=⟨rfl,rfl,rfl⟩
def AJ9:FK AA 66 f66 h66:=GP func66
def h34:Es:=hm [28,88,4184,48,24,48] [] [] [10]
def AgR:h34.lv=GL [[2,3,4],[3,4,6],[3,4,6,12],[4,5],[3,4],[4,5]]:=GM rfl dk
def AgQ:=GS h34
def AgP:h34.tk=[]/\h34.mt=[]/\h34.pc=[10]:=⟨rfl,rfl,rfl⟩
def AgS:FK AA 34 f34 h34:=GP func34
def h74:Es:=hm [6,262,16,16] [] [] [7]
def AeV:h74.lv=GL [[1,2],[1,2,8],[4],[4]]:=GM rfl dk
def AeU:=GS h74
def AeT:h74.tk=[]/\h74.mt=[]/\h74.pc=[7]:=⟨rfl,rfl,rfl⟩
def AeW:FK AA 74 f74 h74:=GP func74
def h41:Es:=hm [28,88,4184,48,24,48] [] [] [10]
def Afz:h41.lv=GL [[2,3,4],[3,4,6],[3,4,6,12],[4,5],[3,4],[4,5]]:=GM rfl dk
def Afy:=GS h41
def Afx:h41.tk=[]/\h41.mt=[]/\h41.pc=[10]:=⟨rfl,rfl,rfl⟩
def Af0:FK AA 41 f41 h41:=GP func41
def qw:AA.cellsOf 172=1/\Ja AA 172=some none/\F8 AA 172=some (.nilf)/\Ja AA 190=some none/\AA.cellsOf 208=2/\Ja AA 208=some (some 2)/\Ji AA 208 = .struct [(0,1),(1,1)]/\Fv AA 208 0=some (3,0)/\Fv AA 208 1=some (3,1)/\F8 AA 208=some (.agg [.int .i64 0,.int .i64 0])/\AA.cellsOf 211=1/\Ja AA 211=some none:=Tq
def ue:F8 AA 211=some (.nilf)/\AA.underlying 380=some (.int .u64)/\AA.underlying 390=some (.array 49 9):=⟨kr,kr,kr⟩
def yV:Es:=hm [5,4] [] [] []
def ARk:yV.lv=GL [[0,2],[2]]:=GM rfl dk
def ARj:=GS yV
def ARi:yV.tk=[]/\yV.mt=[]/\yV.pc=[]:=⟨rfl,rfl,rfl⟩
def ARl:FK AA 226 f226 yV:=GP func226
def yS:Es:=hm [5,133,4,13,29,32797,29,29,4] [] [] []
def ARY:yS.lv=GL [[0,2],[0,2,7],[2],[0,2,3],[0,2,3,4],[0,2,3,4,15],[0,2,3,4],[0,2,3,4],[2]]:=GM rfl dk
def ARX:=GS yS
def ARW:yS.tk=[]/\yS.mt=[]/\yS.pc=[]:=⟨rfl,rfl,rfl⟩
def ARZ:FK AA 229 f229 yS:=GP func229
def zx:Es:=hm [6,14,30,542,30,30,4] [12,22] [] [19,23]
def AWq:zx.lv=GL [[1,2],[1,2,3],[1,2,3,4],[1,2,3,4,9],[1,2,3,4],[1,2,3,4],[2]]:=GM rfl dk
def AWp:=GS zx
def AWo:zx.tk=[12,22]/\zx.mt=[]/\zx.pc=[19,23]:=⟨rfl,rfl,rfl⟩
def AWr:FK AA 134 f134 zx:=GP func134
def yU:Es:=hm [19,16] [] [] []
def ARg:yU.lv=GL [[0,1,4],[4]]:=GM rfl dk
def ARf:=GS yU
def ARe:yU.tk=[]/\yU.mt=[]/\yU.pc=[]:=⟨rfl,rfl,rfl⟩
def ARh:FK AA 227 f227 yU:=GP func227
def zz:Es:=hm [28,16] [] [] []
def AW4:zz.lv=GL [[2,3,4],[4]]:=GM rfl dk
def AW3:=GS zz
def AW2:zz.tk=[]/\zz.mt=[]/\zz.pc=[]:=⟨rfl,rfl,rfl⟩
def AW5:FK AA 131 f131 zz:=GP func131
def zy:Es:=hm [6,4] [] [] []
def AWu:zy.lv=GL [[1,2],[2]]:=GM rfl dk
def AWt:=GS zy
def AWs:zy.tk=[]/\zy.mt=[]/\zy.pc=[]:=⟨rfl,rfl,rfl⟩
def AWv:FK AA 133 f133 zy:=GP func133
def yT:Es:=hm [28,16] [] [] []
def ARc:yT.lv=GL [[2,3,4],[4]]:=GM rfl dk
def ARb:=GS yT
def ARa:yT.tk=[]/\yT.mt=[]/\yT.pc=[]:=⟨rfl,rfl,rfl⟩
def ARd:FK AA 228 f228 yT:=GP func228
def P9:Es:=hx [6,14,30,4126,30,62,4294967358,30,30,4] [] [] [] [7,21,22,29,30,36] [(4,3)] []
def AWz:P9.lv=GL [[1,2],[1,2,3],[1,2,3,4],[1,2,3,4,12],[1,2,3,4],[1,2,3,4,5],[1,2,3,4,5,32],[1,2,3,4],[1,2,3,4],[2]]:=GM rfl dk
def AW1:P9.ct 0=none/\P9.ct 1=none/\P9.ct 2=none/\P9.ct 3=none/\P9.ct 4=some 3/\P9.ct 5=none/\P9.ct 6=none/\P9.ct 7=none/\P9.ct 8=none/\P9.ct 9=none:=dk
def AWw(k:Nat):P9.at k=[]:=rfl
def AWx(k:Nat):P9.dn k=false:=AH rfl rfl
def AWy:P9.tk=[]/\P9.mt=[]/\P9.pc=[7,21,22,29,30,36]:=⟨rfl,rfl,rfl⟩
def AW0:FK AA 132 f132 P9:=GP func132
def z6:Es:=hm [6,4] [] [] []
def AW8:z6.lv=GL [[1,2],[2]]:=GM rfl dk
def AW7:=GS z6
def AW6:z6.tk=[]/\z6.mt=[]/\z6.pc=[]:=⟨rfl,rfl,rfl⟩
def AW9:FK AA 130 f130 z6:=GP func130
def h70:Es:=hm [28,1052,16,60,120,16] [] [] [13,15,16,18,21,24,26]
def Aek:h70.lv=GL [[2,3,4],[2,3,4,10],[4],[2,3,4,5],[3,4,5,6],[4]]:=GM rfl dk
def Aej:=GS h70
def Aei:h70.tk=[]/\h70.mt=[]/\h70.pc=[13,15,16,18,21,24,26]:=⟨rfl,rfl,rfl⟩
def Ael:FK AA 70 f70 h70:=GP func70
def kY:Es:=hx [2,18,50,2098,50,114,16777330,12,50,12] [25,36] [] [] [21,23] [(4,1)] []
def Af8:kY.lv=GL [[1],[1,4],[1,4,5],[1,4,5,11],[1,4,5],[1,4,5,6],[1,4,5,6,24],[2,3],[1,4,5],[2,3]]:=GM rfl dk
def Af_:kY.ct 0=none/\kY.ct 1=none/\kY.ct 2=none/\kY.ct 3=none/\kY.ct 4=some 1/\kY.ct 5=none/\kY.ct 6=none/\kY.ct 7=none/\kY.ct 8=none/\kY.ct 9=none:=dk
def Af5(k:Nat):kY.at k=[]:=rfl
def Af6(k:Nat):kY.dn k=false:=AH rfl rfl
def Af7:kY.tk=[25,36]/\kY.mt=[]/\kY.pc=[21,23]:=⟨rfl,rfl,rfl⟩
def Af9:FK AA 39 f39 kY:=GP func39
def yq:Es:=hm [5,4] [] [] []
def AS0:yq.lv=GL [[0,2],[2]]:=GM rfl dk
def ASz:=GS yq
def ASy:yq.tk=[]/\yq.mt=[]/\yq.pc=[]:=⟨rfl,rfl,rfl⟩
def AS1:FK AA 206 f206 yq:=GP func206
def P7:Es:=hx [85,4181,64,197,1835204,3932356,1835716,1835204,1835204,64] [17] [] [] [] [(8,3)] []
def APe:P7.lv=GL [[0,2,4,6],[0,2,4,6,12],[6],[0,2,6,7],[2,6,7,18,19,20],[2,6,7,18,19,20,21],[2,6,7,9,18,19,20],[2,6,7,18,19,20],[2,6,7,18,19,20],[6]]:=GM rfl dk
def APg:P7.ct 0=none/\P7.ct 1=none/\P7.ct 2=none/\P7.ct 3=none/\P7.ct 4=none/\P7.ct 5=none/\P7.ct 6=none/\P7.ct 7=none/\P7.ct 8=some 3/\P7.ct 9=none:=dk
def APb(k:Nat):P7.at k=[]:=rfl
def APc(k:Nat):P7.dn k=false:=AH rfl rfl
def APd:P7.tk=[17]/\P7.mt=[]/\P7.pc=[]:=⟨rfl,rfl,rfl⟩
def APf:FK AA 285 f285 P7:=GP func285
def xn:Es:=hm [28,16] [] [] []
def APZ:xn.lv=GL [[2,3,4],[4]]:=GM rfl dk
def APY:=GS xn
def APX:xn.tk=[]/\xn.mt=[]/\xn.pc=[]:=⟨rfl,rfl,rfl⟩
def APa:FK AA 286 f286 xn:=GP func286
def ym:Es:=hm [5,13,460,972,492,460,460,4] [6,12,18] [] [14,20]
def ASm:ym.lv=GL [[0,2],[0,2,3],[2,3,6,7,8],[2,3,6,7,8,9],[2,3,5,6,7,8],[2,3,6,7,8],[2,3,6,7,8],[2]]:=GM rfl dk
def ASl:=GS ym
def ASk:ym.tk=[6,12,18]/\ym.mt=[]/\ym.pc=[14,20]:=⟨rfl,rfl,rfl⟩
def ASn:FK AA 209 f209 ym:=GP func209
def SD:Es:=hx [6,14,908,1932,940,908,908,4] [13,19] [] [] [20] [(6,2)] []
def AXv:SD.lv=GL [[1,2],[1,2,3],[2,3,7,8,9],[2,3,7,8,9,10],[2,3,5,7,8,9],[2,3,7,8,9],[2,3,7,8,9],[2]]:=GM rfl dk
def AXx:SD.ct 0=none/\SD.ct 1=none/\SD.ct 2=none/\SD.ct 3=none/\SD.ct 4=none/\SD.ct 5=none/\SD.ct 6=some 2/\SD.ct 7=none:=dk
def AXs(k:Nat):SD.at k=[]:=rfl
def AXt(k:Nat):SD.dn k=false:=AH rfl rfl
def AXu:SD.tk=[13,19]/\SD.mt=[]/\SD.pc=[20]:=⟨rfl,rfl,rfl⟩
def AXw:FK AA 115 f115 SD:=GP func115
def AAH:Es:=hm [28,16] [] [] []
def AX_:AAH.lv=GL [[2,3,4],[4]]:=GM rfl dk
def AX9:=GS AAH
def AX8:AAH.tk=[]/\AAH.mt=[]/\AAH.pc=[]:=⟨rfl,rfl,rfl⟩
def AX':FK AA 112 f112 AAH:=GP func112
def AAG:Es:=hm [6,4] [] [] []
def AX0:AAG.lv=GL [[1,2],[2]]:=GM rfl dk
def AXz:=GS AAG
def AXy:AAG.tk=[]/\AAG.mt=[]/\AAG.pc=[]:=⟨rfl,rfl,rfl⟩
def AX1:FK AA 114 f114 AAG:=GP func114
def P8:Es:=hx [85,4181,64,197,1835204,3932356,1835716,1835204,1835204,64] [17] [] [] [] [(8,3)] []
def ASv:P8.lv=GL [[0,2,4,6],[0,2,4,6,12],[6],[0,2,6,7],[2,6,7,18,19,20],[2,6,7,18,19,20,21],[2,6,7,9,18,19,20],[2,6,7,18,19,20],[2,6,7,18,19,20],[6]]:=GM rfl dk
def ASx:P8.ct 0=none/\P8.ct 1=none/\P8.ct 2=none/\P8.ct 3=none/\P8.ct 4=none/\P8.ct 5=none/\P8.ct 6=none/\P8.ct 7=none/\P8.ct 8=some 3/\P8.ct 9=none:=dk
def ASs(k:Nat):P8.at k=[]:=rfl
def ASt(k:Nat):P8.dn k=false:=AH rfl rfl
def ASu:P8.tk=[17]/\P8.mt=[]/\P8.pc=[]:=⟨rfl,rfl,rfl⟩
def ASw:FK AA 207 f207 P8:=GP func207
def yp:Es:=hm [28,16] [] [] []
def ASq:yp.lv=GL [[2,3,4],[4]]:=GM rfl dk
def ASp:=GS yp
def ASo:yp.tk=[]/\yp.mt=[]/\yp.pc=[]:=⟨rfl,rfl,rfl⟩
def ASr:FK AA 208 f208 yp:=GP func208
def SE:Es:=hx [6,14,908,1932,940,908,908,4] [13,25] [] [] [16,17,21,27,28] [(6,2)] []
def AX5:SE.lv=GL [[1,2],[1,2,3],[2,3,7,8,9],[2,3,7,8,9,10],[2,3,5,7,8,9],[2,3,7,8,9],[2,3,7,8,9],[2]]:=GM rfl dk
def AX7:SE.ct 0=none/\SE.ct 1=none/\SE.ct 2=none/\SE.ct 3=none/\SE.ct 4=none/\SE.ct 5=none/\SE.ct 6=some 2/\SE.ct 7=none:=dk
def AX2(k:Nat):SE.at k=[]:=rfl
def AX3(k:Nat):SE.dn k=false:=AH rfl rfl
def AX4:SE.tk=[13,25]/\SE.mt=[]/\SE.pc=[16,17,21,27,28]:=⟨rfl,rfl,rfl⟩
def AX6:FK AA 113 f113 SE:=GP func113
def h62:Es:=hm [28,540,16,60,16] [] [] [12,14,19,21,24,25]
def AfF:h62.lv=GL [[2,3,4],[2,3,4,9],[4],[2,3,4,5],[4]]:=GM rfl dk
def AfE:=GS h62
def AfD:h62.tk=[]/\h62.mt=[]/\h62.pc=[12,14,19,21,24,25]:=⟨rfl,rfl,rfl⟩
def AfG:FK AA 62 f62 h62:=GP func62
def yi:Es:=hm [2,1024,4,4] [] [] []
def ASV:yi.lv=GL [[1],[10],[2],[2]]:=GM rfl dk
def ASU:=GS yi
def AST:yi.tk=[]/\yi.mt=[]/\yi.pc=[]:=⟨rfl,rfl,rfl⟩
def ASW:FK AA 213 f213 yi:=GP func213
def AAE:Es:=hm [6,34,546,16,8192,16,16] [] [] [7]
def AXn:AAE.lv=GL [[1,2],[1,5],[1,5,9],[4],[13],[4],[4]]:=GM rfl dk
def AXm:=GS AAE
def AXl:AAE.tk=[]/\AAE.mt=[]/\AAE.pc=[7]:=⟨rfl,rfl,rfl⟩
def AXo:FK AA 117 f117 AAE:=GP func117
def yk:Es:=hm [28,16] [] [] []
def ASc:yk.lv=GL [[2,3,4],[4]]:=GM rfl dk
def ASb:=GS yk
def ASa:yk.tk=[]/\yk.mt=[]/\yk.pc=[]:=⟨rfl,rfl,rfl⟩
def ASd:FK AA 211 f211 yk:=GP func211
def SA:Es:=hx [19,51,3634,7730,3762,3634,3634,16] [9] [] [] [18,19] [(6,2)] []
def APU:SA.lv=GL [[0,1,4],[0,1,4,5],[1,4,5,9,10,11],[1,4,5,9,10,11,12],[1,4,5,7,9,10,11],[1,4,5,9,10,11],[1,4,5,9,10,11],[4]]:=GM rfl dk
def APW:SA.ct 0=none/\SA.ct 1=none/\SA.ct 2=none/\SA.ct 3=none/\SA.ct 4=none/\SA.ct 5=none/\SA.ct 6=some 2/\SA.ct 7=none:=dk
def APR(k:Nat):SA.at k=[]:=rfl
def APS(k:Nat):SA.dn k=false:=AH rfl rfl
def APT:SA.tk=[9]/\SA.mt=[]/\SA.pc=[18,19]:=⟨rfl,rfl,rfl⟩
def APV:FK AA 287 f287 SA:=GP func287
def yj:Es:=hm [6,4] [] [] [5]
def ASZ:yj.lv=GL [[1,2],[2]]:=GM rfl dk
def ASY:=GS yj
def ASX:yj.tk=[]/\yj.mt=[]/\yj.pc=[5]:=⟨rfl,rfl,rfl⟩
def AEa:FK AA 212 f212 yj:=GP func212
def SB:Es:=hx [19,51,3634,7730,3762,3634,3634,16] [9] [] [] [18,19] [(6,2)] []
def ASh:SB.lv=GL [[0,1,4],[0,1,4,5],[1,4,5,9,10,11],[1,4,5,9,10,11,12],[1,4,5,7,9,10,11],[1,4,5,9,10,11],[1,4,5,9,10,11],[4]]:=GM rfl dk
def ASj:SB.ct 0=none/\SB.ct 1=none/\SB.ct 2=none/\SB.ct 3=none/\SB.ct 4=none/\SB.ct 5=none/\SB.ct 6=some 2/\SB.ct 7=none:=dk
def ASe(k:Nat):SB.at k=[]:=rfl
def ASf(k:Nat):SB.dn k=false:=AH rfl rfl
def ASg:SB.tk=[9]/\SB.mt=[]/\SB.pc=[18,19]:=⟨rfl,rfl,rfl⟩
def ASi:FK AA 210 f210 SB:=GP func210
def AAF:Es:=hm [6,14,526,12,4] [] [] [6,13,14]
def AXr:AAF.lv=GL [[1,2],[1,2,3],[1,2,3,9],[2,3],[2]]:=GM rfl dk
def AXq:=GS AAF
def AXp:AAF.tk=[]/\AAF.mt=[]/\AAF.pc=[6,13,14]:=⟨rfl,rfl,rfl⟩
def AEg:FK AA 116 f116 AAF:=GP func116
def wt:Es:=hm [7,64] [] [] []
def AMM:wt.lv=GL [[0,1,2],[6]]:=GM rfl dk
def AML:=GS wt
def AMK:wt.tk=[]/\wt.mt=[]/\wt.pc=[]:=⟨rfl,rfl,rfl⟩
def AMN:FK AA 374 f374 wt:=GP func374
def w8:Es:=hm [1,4] [] [] [4]
def AMw:w8.lv=GL [[0],[2]]:=GM rfl dk
def AMv:=GS w8
def AMu:w8.tk=[]/\w8.mt=[]/\w8.pc=[4]:=⟨rfl,rfl,rfl⟩
def AMx:FK AA 357 f357 w8:=GP func357
def xD:Es:=hm [1,4] [] [] []
def ANH:xD.lv=GL [[0],[2]]:=GM rfl dk
def ANG:=GS xD
def ANF:xD.tk=[]/\xD.mt=[]/\xD.pc=[]:=⟨rfl,rfl,rfl⟩
def ANI:FK AA 340 f340 xD:=GP func340
def ws:Es:=hm [3,16] [] [] [6,9]
def AMI:ws.lv=GL [[0,1],[4]]:=GM rfl dk
def AMH:=GS ws
def AMG:ws.tk=[]/\ws.mt=[]/\ws.pc=[6,9]:=⟨rfl,rfl,rfl⟩
def AMJ:FK AA 375 f375 ws:=GP func375
def wr:Es:=hm [1,4] [] [] []
def AME:wr.lv=GL [[0],[2]]:=GM rfl dk
def AMD:=GS wr
def AMC:wr.tk=[]/\wr.mt=[]/\wr.pc=[]:=⟨rfl,rfl,rfl⟩
def AMF:FK AA 376 f376 wr:=GP func376
def w7:Es:=hm [3,67,451,33219,963,134218691,451,451,48] [43] [] [27,47,50]
def AMs:w7.lv=GL [[0,1],[0,1,6],[0,1,6,7,8],[0,1,6,7,8,15],[0,1,6,7,8,9],[0,1,6,7,8,9,27],[0,1,6,7,8],[0,1,6,7,8],[4,5]]:=GM rfl dk
def AMr:=GS w7
def AMq:w7.tk=[43]/\w7.mt=[]/\w7.pc=[27,47,50]:=⟨rfl,rfl,rfl⟩
def AMt:FK AA 358 f358 w7:=GP func358
def w6:Es:=hm [3,35,65571,35,16] [] [] []
def AMo:w6.lv=GL [[0,1],[0,1,5],[0,1,5,16],[0,1,5],[4]]:=GM rfl dk
def AMn:=GS w6
def AMm:w6.tk=[]/\w6.mt=[]/\w6.pc=[]:=⟨rfl,rfl,rfl⟩
def AMp:FK AA 359 f359 w6:=GP func359
def wq:Es:=hm [1,4] [] [] [4]
def AMA:wq.lv=GL [[0],[2]]:=GM rfl dk
def AL':=GS wq
def AL_:wq.tk=[]/\wq.mt=[]/\wq.pc=[4]:=⟨rfl,rfl,rfl⟩
def AMB:FK AA 377 f377 wq:=GP func377
def wy:Es:=hm [1,4] [] [] [4,7]
def AMg:wy.lv=GL [[0],[2]]:=GM rfl dk
def AMf:=GS wy
def AMe:wy.tk=[]/\wy.mt=[]/\wy.pc=[4,7]:=⟨rfl,rfl,rfl⟩
def AMh:FK AA 361 f361 wy:=GP func361
def wz:Es:=hm [1,4] [] [] [5]
def AMk:wz.lv=GL [[0],[2]]:=GM rfl dk
def AMj:=GS wz
def AMi:wz.tk=[]/\wz.mt=[]/\wz.pc=[5]:=⟨rfl,rfl,rfl⟩
def AMl:FK AA 360 f360 wz:=GP func360
def xI:Es:=hm [1,131073,4,17,4] [] [] [15,21,28]
def ANd:xI.lv=GL [[0],[0,17],[2],[0,4],[2]]:=GM rfl dk
def ANc:=GS xI
def ANb:xI.tk=[]/\xI.mt=[]/\xI.pc=[15,21,28]:=⟨rfl,rfl,rfl⟩
def ANe:FK AA 334 f334 xI:=GP func334
def xj:Es:=hm [1,4] [] [] [4]
def APB:xj.lv=GL [[0],[2]]:=GM rfl dk
def APA:=GS xj
def AO':xj.tk=[]/\xj.mt=[]/\xj.pc=[4]:=⟨rfl,rfl,rfl⟩
def APC:FK AA 291 f291 xj:=GP func291
def yf:Es:=hm [1,4] [] [] [7]
def ASL:yf.lv=GL [[0],[2]]:=GM rfl dk
def ASK:=GS yf
def ASJ:yf.tk=[]/\yf.mt=[]/\yf.pc=[7]:=⟨rfl,rfl,rfl⟩
def ASM:FK AA 216 f216 yf:=GP func216
def ye:Es:=hm [1,4] [] [] []
def ASH:ye.lv=GL [[0],[2]]:=GM rfl dk
def ASG:=GS ye
def ASF:ye.tk=[]/\ye.mt=[]/\ye.pc=[]:=⟨rfl,rfl,rfl⟩
def ASI:FK AA 217 f217 ye:=GP func217
def xm:Es:=hm [1,4] [] [] []
def APJ:xm.lv=GL [[0],[2]]:=GM rfl dk
def API:=GS xm
def APH:xm.tk=[]/\xm.mt=[]/\xm.pc=[]:=⟨rfl,rfl,rfl⟩
def APK:FK AA 289 f289 xm:=GP func289
def w9:Es:=hm [3,387,899,419,65955,16,387,16] [] [] []
def AM0:w9.lv=GL [[0,1],[0,1,7,8],[0,1,7,8,9],[0,1,5,7,8],[0,1,5,7,8,16],[4],[0,1,7,8],[4]]:=GM rfl dk
def AMz:=GS w9
def AMy:w9.tk=[]/\w9.mt=[]/\w9.pc=[]:=⟨rfl,rfl,rfl⟩
def AM1:FK AA 356 f356 w9:=GP func356
def xL:Es:=hm [3,16] [5] [] []
def ANl:xL.lv=GL [[0,1],[4]]:=GM rfl dk
def ANk:=GS xL
def ANj:xL.tk=[5]/\xL.mt=[]/\xL.pc=[]:=⟨rfl,rfl,rfl⟩
def ANm:FK AA 332 f332 xL:=GP func332
def xJ:Es:=hm [6,8] [] [] []
def ANh:xJ.lv=GL [[1,2],[3]]:=GM rfl dk
def ANg:=GS xJ
def ANf:xJ.tk=[]/\xJ.mt=[]/\xJ.pc=[]:=⟨rfl,rfl,rfl⟩
def ANi:FK AA 333 f333 xJ:=GP func333
def xk:Es:=hm [35,64] [12] [] []
def APF:xk.lv=GL [[0,1,5],[6]]:=GM rfl dk
def APE:=GS xk
def APD:xk.tk=[12]/\xk.mt=[]/\xk.pc=[]:=⟨rfl,rfl,rfl⟩
def APG:FK AA 290 f290 xk:=GP func290
def yg:Es:=hm [2,10,262154,786442,786442,4,537133066,4,0x400000004000a,4,0x1000000000000004000a,4,0x10000000000000000000004000a,4,0x100000000000000000000000000004000a,4,0x10000000000000000000000000000004000a,0x10000000000000000000000000000000000a,4,4] [] [] [33,37,54,58,80,84,89,112,117,138,147]
def ASP:yg.lv=GL [[1],[1,3],[1,3,18],[1,3,18,19],[1,3,18,19],[2],[1,3,18,29],[2],[1,3,18,50],[2],[1,3,18,76],[2],[1,3,18,104],[2],[1,3,18,132],[2],[1,3,18,140],[1,3,140],[2],[2]]:=GM rfl dk
def ASO:=GS yg
def ASN:yg.tk=[]/\yg.mt=[]/\yg.pc=[33,37,54,58,80,84,89,112,117,138,147]:=⟨rfl,rfl,rfl⟩
def NU:FK AA 215 f215 yg:=GP func215
def PO:Es:=hx [7,16391,64,229382,491526,229766,230150,1073971206,64,229382,64] [15] [] [] [] [(9,0)] []
def APO:PO.lv=GL [[0,1,2],[0,1,2,14],[6],[1,2,15,16,17],[1,2,15,16,17,18],[1,2,7,8,15,16,17],[1,2,8,9,15,16,17],[1,2,15,16,17,30],[6],[1,2,15,16,17],[6]]:=GM rfl dk
def APQ:PO.ct 0=none/\PO.ct 1=none/\PO.ct 2=none/\PO.ct 3=none/\PO.ct 4=none/\PO.ct 5=none/\PO.ct 6=none/\PO.ct 7=none/\PO.ct 8=none/\PO.ct 9=some 0/\PO.ct 10=none:=dk
def APL(k:Nat):PO.at k=[]:=rfl
def APM(k:Nat):PO.dn k=false:=AH rfl rfl
def APN:PO.tk=[15]/\PO.mt=[]/\PO.pc=[]:=⟨rfl,rfl,rfl⟩
def APP:FK AA 288 f288 PO:=GP func288
def yh:Es:=hm [12,16] [] [] [36]
def ASS:yh.lv=GL [[2,3],[4]]:=GM rfl dk
def ASR:=GS yh
def ASQ:yh.tk=[]/\yh.mt=[]/\yh.pc=[36]:=⟨rfl,rfl,rfl⟩
def AEZ:FK AA 214 f214 yh:=GP func214
def xH:Es:=hm [3,387,899,419,65955,16,387,16] [] [] []
def ANZ:xH.lv=GL [[0,1],[0,1,7,8],[0,1,7,8,9],[0,1,5,7,8],[0,1,5,7,8,16],[4],[0,1,7,8],[4]]:=GM rfl dk
def ANY:=GS xH
def ANX:xH.tk=[]/\xH.mt=[]/\xH.pc=[]:=⟨rfl,rfl,rfl⟩
def ANa:FK AA 335 f335 xH:=GP func335
def xh:Es:=hm [3,16] [5] [] []
def AO9:xh.lv=GL [[0,1],[4]]:=GM rfl dk
def AO8:=GS xh
def AO7:xh.tk=[5]/\xh.mt=[]/\xh.pc=[]:=⟨rfl,rfl,rfl⟩
def AO_:FK AA 292 f292 xh:=GP func292
def xg:Es:=hm [6,8] [] [] []
def AO5:xg.lv=GL [[1,2],[3]]:=GM rfl dk
def AO4:=GS xg
def AO3:xg.tk=[]/\xg.mt=[]/\xg.pc=[]:=⟨rfl,rfl,rfl⟩
def AO6:FK AA 293 f293 xg:=GP func293
def yd:Es:=hm [35,64] [12] [] []
def ASD:yd.lv=GL [[0,1,5],[6]]:=GM rfl dk
def ASC:=GS yd
def ASB:yd.tk=[12]/\yd.mt=[]/\yd.pc=[]:=⟨rfl,rfl,rfl⟩
def ASE:FK AA 218 f218 yd:=GP func218
def AAC:Es:=hm [2,26,262170,786458,4,8590196762,4,4503599627632666,4,0x800000000004001a,0x800000000000001a,4,4] [] [] [8,31,45,50,61,73]
def AXg:AAC.lv=GL [[1],[1,3,4],[1,3,4,18],[1,3,4,18,19],[2],[1,3,4,18,33],[2],[1,3,4,18,52],[2],[1,3,4,18,63],[1,3,4,63],[2],[2]]:=GM rfl dk
def AXf:=GS AAC
def AXe:AAC.tk=[]/\AAC.mt=[]/\AAC.pc=[8,31,45,50,61,73]:=⟨rfl,rfl,rfl⟩
def UW:FK AA 119 f119 AAC:=GP func119
def AAD:Es:=hm [1,2] [] [] [3]
def AXj:AAD.lv=GL [[0],[1]]:=GM rfl dk
def AXi:=GS AAD
def AXh:AAD.tk=[]/\AAD.mt=[]/\AAD.pc=[3]:=⟨rfl,rfl,rfl⟩
def AXk:FK AA 118 f118 AAD:=GP func118
def h63:Es:=hm [2,4] [] [] [4]
def AfB:h63.lv=GL [[1],[2]]:=GM rfl dk
def AfA:=GS h63
def Ae':h63.tk=[]/\h63.mt=[]/\h63.pc=[4]:=⟨rfl,rfl,rfl⟩
def AfC:FK AA 63 f63 h63:=GP func63
def gT:Es:=hx [2,18,1810,3858,1874,1874,4196178,12,1810,1810,12] [23,28] [] [] [17,21] [(9,1)] []
def Aga:gT.lv=GL [[1],[1,4],[1,4,8,9,10],[1,4,8,9,10,11],[1,4,6,8,9,10],[1,4,6,8,9,10],[1,4,6,8,9,10,22],[2,3],[1,4,8,9,10],[1,4,8,9,10],[2,3]]:=GM rfl dk
def Agc:gT.ct 0=none/\gT.ct 1=none/\gT.ct 2=none/\gT.ct 3=none/\gT.ct 4=none/\gT.ct 5=none/\gT.ct 6=none/\gT.ct 7=none/\gT.ct 8=none/\gT.ct 9=some 1/\gT.ct 10=none:=dk
def AgX(k:Nat):gT.at k=[]:=rfl
def AgY(k:Nat):gT.dn k=false:=AH rfl rfl
def AgZ:gT.tk=[23,28]/\gT.mt=[]/\gT.pc=[17,21]:=⟨rfl,rfl,rfl⟩
def Agb:FK AA 32 f32 gT:=GP func32
def qy:AA.cellsOf 138=1/\Ja AA 138=some none/\Ja AA 261=some none/\AA.cellsOf 274=5/\AA.bytesOf 274=64/\Ja AA 274=some (some 5)/\HD AA 274=true/\Ji AA 274 = .struct [(0,1),(1,1),(2,1),(3,1),(4,1)]/\Fv AA 274 0=some (9,0)/\Fv AA 274 1=some (3,1)/\Fv AA 274 2=some (72,2)/\Fv AA 274 3=some (3,3):=Tq
def ko:Fv AA 274 4=some (3,4):=kr
def yv:Es:=hm [3,387,899,419,65955,16,387,16] [] [] []
def AS8:yv.lv=GL [[0,1],[0,1,7,8],[0,1,7,8,9],[0,1,5,7,8],[0,1,5,7,8,16],[4],[0,1,7,8],[4]]:=GM rfl dk
def AS7:=GS yv
def AS6:yv.tk=[]/\yv.mt=[]/\yv.pc=[]:=⟨rfl,rfl,rfl⟩
def AS9:FK AA 195 f195 yv:=GP func195
def yJ:Es:=hm [6,8] [] [] []
def AQ0:yJ.lv=GL [[1,2],[3]]:=GM rfl dk
def AQz:=GS yJ
def AQy:yJ.tk=[]/\yJ.mt=[]/\yJ.pc=[]:=⟨rfl,rfl,rfl⟩
def AQ1:FK AA 239 f239 yJ:=GP func239
def za:Es:=hm [25,1049,48,81,65617,48,48] [18] [] [8,11]
def AVg:za.lv=GL [[0,3,4],[0,3,4,10],[4,5],[0,4,6],[0,4,6,16],[4,5],[4,5]]:=GM rfl dk
def AVf:=GS za
def AVe:za.tk=[18]/\za.mt=[]/\za.pc=[8,11]:=⟨rfl,rfl,rfl⟩
def AVh:FK AA 153 f153 za:=GP func153
def yI:Es:=hm [2,4] [] [] []
def AQw:yI.lv=GL [[1],[2]]:=GM rfl dk
def AQv:=GS yI
def AQu:yI.tk=[]/\yI.mt=[]/\yI.pc=[]:=⟨rfl,rfl,rfl⟩
def AQx:FK AA 240 f240 yI:=GP func240
def qx:AA.cellsOf 161=1/\Ja AA 161=some none/\AA.cellsOf 162=1/\Ja AA 162=some none/\Ji AA 164 = .struct [(0,1),(1,1)]/\Fv AA 164 0=some (161,0)/\Fv AA 164 1=some (162,1)/\F8 AA 164=some (.agg [.nilf,.nilf])/\AA.cellsOf 165=1/\Ja AA 165=some none/\F8 AA 165=some (.nilp)/\AA.cellsOf 243=20:=Tq
def ALf:Ja AA 243=some (some 20)/\Ji AA 243 = .struct [(0,10),(10,10)]/\Fv AA 243 0=some (41,0)/\Fv AA 243 1=some (41,10)/\AA.cellsOf 247=20/\Ja AA 247=some (some 20)/\Fv AA 247 0=some (41,0)/\Fv AA 247 1=some (41,10)/\F8 AA 247=some (.agg [.int .i64 0,.int .i64 0,.int .i64 0,.int .i64 0,.int .i64 0,.int .i64 0,.int .i64 0,.int .i64 0,.int .i64 0,.int .i64 0,.int .i64 0,.int .i64 0,.int .i64 0,.int .i64 0,.int .i64 0,.int .i64 0,.int .i64 0,.int .i64 0,.int .i64 0,.int .i64 0]):=⟨kr,kr,kr,kr,kr,kr,kr,kr,kr⟩
def zR:Es:=hm [2,4] [] [] [10]
def AUu:zR.lv=GL [[1],[2]]:=GM rfl dk
def AUt:=GS zR
def AUs:zR.tk=[]/\zR.mt=[]/\zR.pc=[10]:=⟨rfl,rfl,rfl⟩
def AUv:FK AA 166 f166 zR:=GP func166
def h78:Es:=hm [12,16] [] [] [11,15]
def AeG:h78.lv=GL [[2,3],[4]]:=GM rfl dk
def AeF:=GS h78
def AeE:h78.tk=[]/\h78.mt=[]/\h78.pc=[11,15]:=⟨rfl,rfl,rfl⟩
def AeH:FK AA 78 f78 h78:=GP func78
def h79:Es:=hm [1,9,25,153,25,25,4] [] [] []
def AeC:h79.lv=GL [[0],[0,3],[0,3,4],[0,3,4,7],[0,3,4],[0,3,4],[2]]:=GM rfl dk
def AeB:=GS h79
def AeA:h79.tk=[]/\h79.mt=[]/\h79.pc=[]:=⟨rfl,rfl,rfl⟩
def AeD:FK AA 79 f79 h79:=GP func79
def h47:Es:=hm [105,262249,786537,256,2359401,256,8650857,256,34360000617,256,70368744439913,617,1536,256,0x100000000000000069,2153,6144,256,8288,40992,0x2000000000000000000000a020,0x6000000000000000000000a020,256,0x100000000000000000000000a020,98336,256,256] [37,56,78,91] [] [44,55,63,77,85,94,99,115]
def Afa:h47.lv=GL [[0,3,5,6],[0,3,5,6,18],[0,3,5,6,18,19],[8],[0,3,5,6,18,21],[8],[0,3,5,6,18,23],[8],[0,3,5,6,18,35],[8],[0,3,5,6,18,46],[0,3,5,6,9],[9,10],[8],[0,3,5,6,68],[0,3,5,6,11],[11,12],[8],[5,6,13],[5,13,15],[5,13,15,101],[5,13,15,101,102],[8],[5,13,15,108],[5,15,16],[8],[8]]:=GM rfl dk
def AfZ:=GS h47
def AfY:h47.tk=[37,56,78,91]/\h47.mt=[]/\h47.pc=[44,55,63,77,85,94,99,115]:=⟨rfl,rfl,rfl⟩
def S7:FK AA 47 f47 h47:=GP func47
def zr:Es:=hm [92,220,80,64] [] [] [10,23]
def AWb:zr.lv=GL [[2,3,4,6],[2,3,4,6,7],[4,6],[6]]:=GM rfl dk
def AWa:=GS zr
def AWZ:zr.tk=[]/\zr.mt=[]/\zr.pc=[10,23]:=⟨rfl,rfl,rfl⟩
def AWc:FK AA 138 f138 zr:=GP func138
def zq:Es:=hm [1,65,12,12] [7] [] []
def AWX:zq.lv=GL [[0],[0,6],[2,3],[2,3]]:=GM rfl dk
def AWW:=GS zq
def AWV:zq.tk=[7]/\zq.mt=[]/\zq.pc=[]:=⟨rfl,rfl,rfl⟩
def AWY:FK AA 139 f139 zq:=GP func139
def xW:Es:=hm [12,44,172,44,65580,16,8388652,16,16] [] [] []
def AOW:xW.lv=GL [[2,3],[2,3,5],[2,3,5,7],[2,3,5],[2,3,5,16],[4],[2,3,5,23],[4],[4]]:=GM rfl dk
def AOV:=GS xW
def AOU:xW.tk=[]/\xW.mt=[]/\xW.pc=[]:=⟨rfl,rfl,rfl⟩
def AOX:FK AA 302 f302 xW:=GP func302
def yN:Es:=hm [9,41,524329,41,8589934633,16,105,105,97,16] [34,35,40,44,45] [] [17]
def ARE:yN.lv=GL [[0,3],[0,3,5],[0,3,5,19],[0,3,5],[0,3,5,33],[4],[0,3,5,6],[0,3,5,6],[0,5,6],[4]]:=GM rfl dk
def ARD:=GS yN
def ARC:yN.tk=[34,35,40,44,45]/\yN.mt=[]/\yN.pc=[17]:=⟨rfl,rfl,rfl⟩
def ARF:FK AA 235 f235 yN:=GP func235
def zp:Es:=hm [3,34,98,8290,98,98,16] [8,22] [] [21]
def AWT:zp.lv=GL [[0,1],[1,5],[1,5,6],[1,5,6,13],[1,5,6],[1,5,6],[4]]:=GM rfl dk
def AWS:=GS zp
def AWR:zp.tk=[8,22]/\zp.mt=[]/\zp.pc=[21]:=⟨rfl,rfl,rfl⟩
def AWU:FK AA 140 f140 zp:=GP func140
def zo:Es:=hm [45,1069,3117,134189,3117,15405,4294982701,768,3117,549755817005,768,768] [] [] [28,36]
def AWP:zo.lv=GL [[0,2,3,5],[0,2,3,5,10],[0,2,3,5,10,11],[0,2,3,5,10,11,17],[0,2,3,5,10,11],[0,2,3,5,10,11,12,13],[0,2,3,5,10,11,12,13,32],[8,9],[0,2,3,5,10,11],[0,2,3,5,10,11,39],[8,9],[8,9]]:=GM rfl dk
def AWO:=GS zo
def AWN:zo.tk=[]/\zo.mt=[]/\zo.pc=[28,36]:=⟨rfl,rfl,rfl⟩
def AWQ:FK AA 141 f141 zo:=GP func141
def yM:Es:=hm [9,41,553,41,131113,16,16] [] [] []
def ARA:yM.lv=GL [[0,3],[0,3,5],[0,3,5,9],[0,3,5],[0,3,5,17],[4],[4]]:=GM rfl dk
def AQ':=GS yM
def AQ_:yM.tk=[]/\yM.mt=[]/\yM.pc=[]:=⟨rfl,rfl,rfl⟩
def ARB:FK AA 236 f236 yM:=GP func236
def zn:Es:=hm [105,2153,6185,14377,16791593,59433,17179928617,1792,30761,96297,549755910185,96297,227369,562949953517609,96297,14377,0x4000000000003829,1792,0x20000000000003829,14377,1792] [50] [] [30,47,59]
def AWL:zn.lv=GL [[0,3,5,6],[0,3,5,6,11],[0,3,5,11,12],[0,3,5,11,12,13],[0,3,5,11,12,13,24],[0,3,5,11,13,14,15],[0,3,5,11,13,14,15,34],[8,9,10],[0,3,5,11,12,13,14],[0,3,5,11,12,13,14,16],[0,3,5,11,12,13,14,16,39],[0,3,5,11,12,13,14,16],[0,3,5,11,12,13,14,16,17],[0,3,5,11,12,13,14,16,49],[0,3,5,11,12,13,14,16],[0,3,5,11,12,13],[0,3,5,11,12,13,62],[8,9,10],[0,3,5,11,12,13,65],[0,3,5,11,12,13],[8,9,10]]:=GM rfl dk
def AWK:=GS zn
def AWJ:zn.tk=[50]/\zn.mt=[]/\zn.pc=[30,47,59]:=⟨rfl,rfl,rfl⟩
def AWM:FK AA 142 f142 zn:=GP func142
def h72:Es:=hm [105,8388713,25165929,1088,4294967360,768,768,34368127081,2144,768,0x4000000800069,24681,122880,0x8000000000000000a000,768,768,0x4000000000000000000069,393257,0x10000000000000000000060029,768,768,2621440,768] [26,38,64,102,113] [] [31,41,48,60,71,82,83,96,109,120]
def Aed:h72.lv=GL [[0,3,5,6],[0,3,5,6,23],[0,3,5,6,23,24],[6,10],[6,32],[8,9],[8,9],[0,3,5,6,23,35],[5,6,11],[8,9],[0,3,5,6,23,50],[0,3,5,6,13,14],[13,14,15,16],[13,15,79],[8,9],[8,9],[0,3,5,6,86],[0,3,5,17,18],[0,3,5,17,18,100],[8,9],[8,9],[19,21],[8,9]]:=GM rfl dk
def Aec:=GS h72
def Aeb:h72.tk=[26,38,64,102,113]/\h72.mt=[]/\h72.pc=[31,41,48,60,71,82,83,96,109,120]:=⟨rfl,rfl,rfl⟩
def PC:FK AA 72 f72 h72:=GP func72
def AAB:Es:=hm [3,129,48,48] [8] [] []
def AXc:AAB.lv=GL [[0,1],[0,7],[4,5],[4,5]]:=GM rfl dk
def AXb:=GS AAB
def AXa:AAB.tk=[8]/\AAB.mt=[]/\AAB.pc=[]:=⟨rfl,rfl,rfl⟩
def AXd:FK AA 120 f120 AAB:=GP func120
def zZ:Es:=hm [12,76,204,108,4194380,16,76,16] [] [] []
def AVc:zZ.lv=GL [[2,3],[2,3,6],[2,3,6,7],[2,3,5,6],[2,3,6,22],[4],[2,3,6],[4]]:=GM rfl dk
def AVb:=GS zZ
def AVa:zZ.tk=[]/\zZ.mt=[]/\zZ.pc=[]:=⟨rfl,rfl,rfl⟩
def AVd:FK AA 154 f154 zZ:=GP func154
def yG:Es:=hm [2,4] [] [] []
def AQo:yG.lv=GL [[1],[2]]:=GM rfl dk
def AQn:=GS yG
def AQm:yG.tk=[]/\yG.mt=[]/\yG.pc=[]:=⟨rfl,rfl,rfl⟩
def AQp:FK AA 242 f242 yG:=GP func242
def yH:Es:=hm [92,220,80,64] [] [] [17,19,24]
def AQs:yH.lv=GL [[2,3,4,6],[2,3,4,6,7],[4,6],[6]]:=GM rfl dk
def AQr:=GS yH
def AQq:yH.tk=[]/\yH.mt=[]/\yH.pc=[17,19,24]:=⟨rfl,rfl,rfl⟩
def AQt:FK AA 241 f241 yH:=GP func241
def zX:Es:=hm [78,202,64] [] [] [9,20,26]
def AVU:zX.lv=GL [[1,2,3,6],[1,3,6,7],[6]]:=GM rfl dk
def AVT:=GS zX
def AVS:zX.tk=[]/\zX.mt=[]/\zX.pc=[9,20,26]:=⟨rfl,rfl,rfl⟩
def AVV:FK AA 156 f156 zX:=GP func156
def zY:Es:=hm [22,16] [] [] [9]
def AVY:zY.lv=GL [[1,2,4],[4]]:=GM rfl dk
def AVX:=GS zY
def AVW:zY.tk=[]/\zY.mt=[]/\zY.pc=[9]:=⟨rfl,rfl,rfl⟩
def AVZ:FK AA 155 f155 zY:=GP func155
def zW:Es:=hm [12,16] [] [] [11,14]
def AVQ:zW.lv=GL [[2,3],[4]]:=GM rfl dk
def AVP:=GS zW
def AVO:zW.tk=[]/\zW.mt=[]/\zW.pc=[11,14]:=⟨rfl,rfl,rfl⟩
def AVR:FK AA 157 f157 zW:=GP func157
def zd:Es:=hm [124,4220,12412,12412,128,528508,128,2147487864,128,17592186048632,17592186044536,0x1000000000000068,128,128,352,0x400000000000000000160,0xc00000000000000000160,128,0x80000000000000000000160,128,1056,128] [] [42,56,73] [42,56,73,78,88,90,98,100,103]
def AVk:zd.lv=GL [[2,3,4,5,6],[2,3,4,5,6,12],[2,3,4,5,6,12,13],[2,3,4,5,6,12,13],[7],[2,3,4,5,6,12,19],[7],[3,4,5,6,12,31],[7],[3,4,5,6,12,44],[3,4,5,6,44],[3,5,6,60],[7],[7],[5,6,8],[5,6,8,82],[5,6,8,82,83],[7],[5,6,8,91],[7],[5,10],[7]]:=GM rfl dk
def AVj:=GS zd
def AVi:zd.tk=[]/\zd.mt=[42,56,73]/\zd.pc=[42,56,73,78,88,90,98,100,103]:=⟨rfl,rfl,rfl⟩
def Oq:FK AA 152 f152 zd:=GP func152
def zU:Es:=hm [28,92,220,124,92,92,16] [] [] []
def AVJ:zU.lv=GL [[2,3,4],[2,3,4,6],[2,3,4,6,7],[2,3,4,5,6],[2,3,4,6],[2,3,4,6],[4]]:=GM rfl dk
def AVI:=GS zU
def AVH:zU.tk=[]/\zU.mt=[]/\zU.pc=[]:=⟨rfl,rfl,rfl⟩
def AVK:FK AA 159 f159 zU:=GP func159
def zT:Es:=hm [22,16] [] [] [7]
def AVF:zT.lv=GL [[1,2,4],[4]]:=GM rfl dk
def AVE:=GS zT
def AVD:zT.tk=[]/\zT.mt=[]/\zT.pc=[7]:=⟨rfl,rfl,rfl⟩
def AVG:FK AA 160 f160 zT:=GP func160
def zS:Es:=hm [3,4097,48,48] [13] [] []
def AVC:zS.lv=GL [[0,1],[0,12],[4,5],[4,5]]:=GM rfl dk
def AVB:=GS zS
def AVA:zS.tk=[13]/\zS.mt=[]/\zS.pc=[]:=⟨rfl,rfl,rfl⟩
def qI:FK AA 161 f161 zS:=GP func161
def xC:Es:=hm [3,35,99,2115,4096,16,16,8195,16,65539,16,524288,16,16] [] [] [8,10]
def AND:xC.lv=GL [[0,1],[0,1,5],[0,1,5,6],[0,1,6,11],[12],[4],[4],[0,1,13],[4],[0,1,16],[4],[19],[4],[4]]:=GM rfl dk
def ANC:=GS xC
def ANB:xC.tk=[]/\xC.mt=[]/\xC.pc=[8,10]:=⟨rfl,rfl,rfl⟩
def ANE:FK AA 341 f341 xC:=GP func341
def xY:Es:=hm [3,3587,7683,3683,527971,16,3779,3843,268439299,16,3587,34359738368,16,16] [31,33] [] [26]
def AOe:xY.lv=GL [[0,1],[0,1,9,10,11],[0,1,9,10,11,12],[0,1,5,6,9,10,11],[0,1,5,6,9,10,11,19],[4],[0,1,6,7,9,10,11],[0,1,8,9,10,11],[0,1,8,9,10,11,28],[4],[0,1,9,10,11],[35],[4],[4]]:=GM rfl dk
def AOd:=GS xY
def AOc:xY.tk=[31,33]/\xY.mt=[]/\xY.pc=[26]:=⟨rfl,rfl,rfl⟩
def AES:FK AA 300 f300 xY:=GP func300
def xV:Es:=hm [12,16] [] [5,6] []
def AOM:xV.lv=GL [[2,3],[4]]:=GM rfl dk
def AOL:=GS xV
def AOK:xV.tk=[]/\xV.mt=[5,6]/\xV.pc=[]:=⟨rfl,rfl,rfl⟩
def AON:FK AA 304 f304 xV:=GP func304
def N5:Es:=hx [8199,7,23,2097159,23,33554439,23,55,1073741879,55,137438953511,39,70368744177671] [] [] [] [20] [] [9,11]
def AOR:N5.lv=GL [[0,1,2,13],[0,1,2],[0,1,2,4],[0,1,2,21],[0,1,2,4],[0,1,2,25],[0,1,2,4],[0,1,2,4,5],[0,1,2,4,5,30],[0,1,2,4,5],[0,1,2,5,37],[0,1,2,5],[0,1,2,46]]:=GM rfl dk
def AOT(k:Nat):N5.ct k=none:=rfl
def AOO(k:Nat):N5.at k=[]:=rfl
def AOP:N5.dn 0=false/\N5.dn 1=false/\N5.dn 2=false/\N5.dn 3=false/\N5.dn 4=false/\N5.dn 5=false/\N5.dn 6=false/\N5.dn 7=false/\N5.dn 8=false/\N5.dn 9=true/\N5.dn 10=false/\N5.dn 11=true/\N5.dn 12=false:=dk
def AOQ:N5.tk=[]/\N5.mt=[]/\N5.pc=[20]:=⟨rfl,rfl,rfl⟩
def AOS:FK AA 303 f303 N5:=GP func303
def AQl:Es:=hm [12,16] [] [] []
def AQj:AQl.lv=GL [[2,3],[4]]:=GM rfl dk
def AQi:=GS AQl
def AQk:FK AA 243 f243 AQl:=GP func243
def kZ:Es:=hm [3,35,544,96,1,16] [7,8,11] [5,14] []
def AU_:kZ.lv=GL [[0,1],[0,1,5],[5,9],[5,6],[0],[4]]:=GM rfl dk
def AU9:=GS kZ
def AU8:kZ.tk=[7,8,11]/\kZ.mt=[5,14]/\kZ.pc=[]:=⟨rfl,rfl,rfl⟩
def AU':FK AA 162 f162 kZ:=GP func162
def PQ:Es:=hx [21,277,789,115473,246545,117009,127249,115473,549755929361,115473,192] [14,31,32,41] [27] [(6,[(8,none,true)])] [27] [] []
def AU5:PQ.lv=GL [[0,2,4],[0,2,4,8],[0,2,4,8,9],[0,4,8,9,14,15,16],[0,4,8,9,14,15,16,17],[0,4,8,11,14,15,16],[0,4,8,12,13,14,15,16],[0,4,8,9,14,15,16],[0,4,8,9,14,15,16,39],[0,4,8,9,14,15,16],[6,7]]:=GM rfl dk
def AU7(k:Nat):PQ.ct k=none:=rfl
def AU2:PQ.at 0=[]/\PQ.at 1=[]/\PQ.at 2=[]/\PQ.at 3=[]/\PQ.at 4=[]/\PQ.at 5=[]/\PQ.at 6=[(8,none,true)]/\PQ.at 7=[]/\PQ.at 8=[]/\PQ.at 9=[]/\PQ.at 10=[]:=dk
def AU3(k:Nat):PQ.dn k=false:=AH rfl rfl
def AU4:PQ.tk=[14,31,32,41]/\PQ.mt=[27]/\PQ.pc=[27]:=⟨rfl,rfl,rfl⟩
def AU6:FK AA 163 f163 PQ:=GP func163
def xU:Es:=hm [3,387,899,419,65955,16,387,16] [] [] []
def AOJ:xU.lv=GL [[0,1],[0,1,7,8],[0,1,7,8,9],[0,1,5,7,8],[0,1,5,7,8,16],[4],[0,1,7,8],[4]]:=GM rfl dk
def AOI:=GS xU
def AOH:xU.tk=[]/\xU.mt=[]/\xU.pc=[]:=⟨rfl,rfl,rfl⟩
def AER:FK AA 305 f305 xU:=GP func305
def yF:Es:=hm [3,35,4131,16,99,524387,99,227,536871139,99,99,33,16] [13,39] [] []
def AQh:yF.lv=GL [[0,1],[0,1,5],[0,1,5,12],[4],[0,1,5,6],[0,1,5,6,19],[0,1,5,6],[0,1,5,6,7],[0,1,5,6,7,29],[0,1,5,6],[0,1,5,6],[0,5],[4]]:=GM rfl dk
def AQg:=GS yF
def AQf:yF.tk=[13,39]/\yF.mt=[]/\yF.pc=[]:=⟨rfl,rfl,rfl⟩
def AEX:FK AA 244 f244 yF:=GP func244
def xT:Es:=hm [21,277,1813,132885,3861,2147487509,1813,1813,192] [41] [] [30,46]
def AOF:xT.lv=GL [[0,2,4],[0,2,4,8],[0,2,4,8,9,10],[0,2,4,8,9,10,17],[0,2,4,8,9,10,11],[0,2,4,8,9,10,11,31],[0,2,4,8,9,10],[0,2,4,8,9,10],[6,7]]:=GM rfl dk
def AOE:=GS xT
def AOD:xT.tk=[41]/\xT.mt=[]/\xT.pc=[30,46]:=⟨rfl,rfl,rfl⟩
def AOG:FK AA 306 f306 xT:=GP func306
def yD:Es:=hm [9,64,16] [8] [] [10]
def AQZ:yD.lv=GL [[0,3],[6],[4]]:=GM rfl dk
def AQY:=GS yD
def AQX:yD.tk=[8]/\yD.mt=[]/\yD.pc=[10]:=⟨rfl,rfl,rfl⟩
def AQa:FK AA 246 f246 yD:=GP func246
def yE:Es:=hm [6,8] [] [] [6]
def AQd:yE.lv=GL [[1,2],[3]]:=GM rfl dk
def AQc:=GS yE
def AQb:yE.tk=[]/\yE.mt=[]/\yE.pc=[6]:=⟨rfl,rfl,rfl⟩
def AQe:FK AA 245 f245 yE:=GP func245
def PP:Es:=hx [49,529,3601,3601,13841,11793,11793,274877910545,448,2199023259153,448] [22,26] [] [(5,[(11,none,true)])] [] [] []
def AUz:PP.lv=GL [[0,4,5],[0,4,9],[0,4,9,10,11],[0,4,9,10,11],[0,4,9,10,12,13],[0,4,9,10,11,13],[0,4,9,10,11,13],[0,4,9,10,11,38],[6,7,8],[0,4,9,10,11,41],[6,7,8]]:=GM rfl dk
def AU1(k:Nat):PP.ct k=none:=rfl
def AUw:PP.at 0=[]/\PP.at 1=[]/\PP.at 2=[]/\PP.at 3=[]/\PP.at 4=[]/\PP.at 5=[(11,none,true)]/\PP.at 6=[]/\PP.at 7=[]/\PP.at 8=[]/\PP.at 9=[]/\PP.at 10=[]:=dk
def AUx(k:Nat):PP.dn k=false:=AH rfl rfl
def AUy:PP.tk=[22,26]/\PP.mt=[]/\PP.pc=[]:=⟨rfl,rfl,rfl⟩
def AU0:FK AA 164 f164 PP:=GP func164
def zV:Es:=hm [60,1048636,3145788,2147483680,192,192,17180917820,304,192,0x4000000100034,3124,15360,192,0x10000000000000000000034,49172,0x100000000000000000000004014,192,192,327680,192] [78,79,110,125] [30,62,75,100,111,121] [30,40,46,48,62,75,85,100]
def AVN:zV.lv=GL [[2,3,4,5],[2,3,4,5,20],[2,3,4,5,20,21],[5,31],[6,7],[6,7],[2,3,4,5,20,34],[4,5,8],[6,7],[2,4,5,20,50],[2,4,5,10,11],[10,11,12,13],[6,7],[2,4,5,88],[2,4,14,15],[2,4,14,104],[6,7],[6,7],[16,18],[6,7]]:=GM rfl dk
def AVM:=GS zV
def AVL:zV.tk=[78,79,110,125]/\zV.mt=[30,62,75,100,111,121]/\zV.pc=[30,40,46,48,62,75,85,100]:=⟨rfl,rfl,rfl⟩
def L9:FK AA 158 f158 zV:=GP func158
def h76:Es:=hm [12,44,36,32,16] [] [] []
def AeN:h76.lv=GL [[2,3],[2,3,5],[2,5],[5],[4]]:=GM rfl dk
def AeM:=GS h76
def AeL:h76.tk=[]/\h76.mt=[]/\h76.pc=[]:=⟨rfl,rfl,rfl⟩
def AeO:FK AA 76 f76 h76:=GP func76
def h64:Es:=hx [105,768] [10] [12,18] [] [18,21] [] [2006,2007]
def Ae9:h64.lv=GL [[0,3,5,6],[8,9]]:=GM rfl dk
def Ae_(k:Nat):h64.ct k=none:=rfl
def Ae6(k:Nat):h64.at k=[]:=rfl
def Ae7:h64.dn 0=false/\h64.dn 1=true:=dk
def Ae8:h64.tk=[10]/\h64.mt=[12,18]/\h64.pc=[18,21]:=⟨rfl,rfl,rfl⟩
def AJ_:FK AA 64 f64 h64:=GP func64
def wx:Es:=hm [1,4] [] [] []
def AMc:wx.lv=GL [[0],[2]]:=GM rfl dk
def AMb:=GS wx
def AMa:wx.tk=[]/\wx.mt=[]/\wx.pc=[]:=⟨rfl,rfl,rfl⟩
def AMd:FK AA 364 f364 wx:=GP func364
def AAl:AA.cellsOf 32=1/\Ja AA 32=some none/\AA.underlying 32=some (.slice 98)/\p_ AA 32=true/\AA.underlying 33=some (.slice 43)/\AA.cellsOf 43=11/\Ja AA 43=some (some 11)/\Fv AA 43 0=some (41,0)/\Fv AA 43 1=some (3,10)/\AA.cellsOf 45=3/\Ja AA 45=some (some 3)/\Ji AA 45 = .struct [(0,1),(1,1),(2,1)]:=Tq
def qU:Fv AA 45 0=some (36,0)/\Fv AA 45 1=some (32,1)/\Fv AA 45 2=some (37,2)/\AA.underlying 49=some (.slice 114)/\AA.cellsOf 69=1/\Ja AA 69=some none/\AA.underlying 69=some (.slice 72)/\F8 AA 69=some (.sl (some 1) [])/\AA.cellsOf 83=1/\Ja AA 83=some none/\AA.underlying 83=some (.slice 85)/\F8 AA 83=some (.sl (some 12) []):=Tq
def AAj:AA.cellsOf 85=12/\AA.bytesOf 85=112/\Ja AA 85=some (some 12)/\HD AA 85=true/\Ji AA 85 = .struct [(0,1),(1,10),(11,1)]/\Fv AA 85 0=some (3,0)/\Fv AA 85 1=some (41,1)/\Fv AA 85 2=some (72,11)/\AA.cellsOf 156=12/\Ja AA 156=some (some 12)/\Ji AA 156 = .struct [(0,10),(10,1),(11,1)]/\Fv AA 156 0=some (41,0):=Tq
def kp:Fv AA 156 1=some (4,10)/\Fv AA 156 2=some (98,11)/\AA.underlying 174=some (.slice 4)/\AA.underlying 178=some (.slice 274)/\Ja AA 201=some none/\AA.cellsOf 202=1/\Ja AA 202=some none/\F8 AA 202=some (.nilf)/\AA.cellsOf 214=1/\Ja AA 214=some none/\Ja AA 215=some none/\AA.cellsOf 216=7:=Tq
def AK7:AA.underlying 216=some (.array 7 214)/\Ji AA 216 = .array 1/\F8 AA 216=some (.agg [.nilf,.nilf,.nilf,.nilf,.nilf,.nilf,.nilf])/\Ji AA 220 = .struct [(0,1),(1,6),(7,1),(8,10),(18,1),(19,4),(23,1)]/\Fv AA 220 0=some (27,0)/\Fv AA 220 1=some (133,1)/\Fv AA 220 2=some (98,7)/\Fv AA 220 3=some (41,8)/\Fv AA 220 4=some (3,18)/\Fv AA 220 5=some (159,19)/\Fv AA 220 6=some (4,23)/\Ja AA 307=some none:=Tq
def h48:Es:=hm [2,10,1073741826,4,18,34359738386,18,50,35184372088850,4,66,0x4000000000042,66,194,0x2000000000000042,4,4] [] [] [10,43,59]
def AfX:h48.lv=GL [[1],[1,3],[1,30],[2],[1,4],[1,4,35],[1,4],[1,4,5],[1,4,45],[2],[1,6],[1,6,50],[1,6],[1,6,7],[1,6,61],[2],[2]]:=GM rfl dk
def AfW:=GS h48
def AfV:h48.tk=[]/\h48.mt=[]/\h48.pc=[10,43,59]:=⟨rfl,rfl,rfl⟩
def AJ':FK AA 48 f48 h48:=GP func48
def h85:Es:=hm [6,38,102,2097254,16,294,536871206,16,17592186044454,16,550,562949953421862,550,1574,0x40000000000626,1574,3622,0x8000000000000e26,3622,0x20000000000000000626,16,16] [] [] [19,25,75]
def Adp:h85.lv=GL [[1,2],[1,2,5],[1,2,5,6],[1,2,5,6,21],[4],[1,2,5,8],[1,2,5,8,29],[4],[1,2,5,44],[4],[1,2,5,9],[1,2,5,9,49],[1,2,5,9],[1,2,5,9,10],[1,2,5,9,10,54],[1,2,5,9,10],[1,2,5,9,10,11],[1,2,5,9,10,11,63],[1,2,5,9,10,11],[1,2,5,9,10,77],[4],[4]]:=GM rfl dk
def Ado:=GS h85
def Adn:h85.tk=[]/\h85.mt=[]/\h85.pc=[19,25,75]:=⟨rfl,rfl,rfl⟩
def Adq:FK AA 85 f85 h85:=GP func85
def h42:Es:=hm [6,70,2118,70,2097222,48,48] [] [] []
def Afv:h42.lv=GL [[1,2],[1,2,6],[1,2,6,11],[1,2,6],[1,2,6,21],[4,5],[4,5]]:=GM rfl dk
def Afu:=GS h42
def Aft:h42.tk=[]/\h42.mt=[]/\h42.pc=[]:=⟨rfl,rfl,rfl⟩
def Afw:FK AA 42 f42 h42:=GP func42
def zE:Es:=hm [6,16] [] [] []
def AT2:zE.lv=GL [[1,2],[4]]:=GM rfl dk
def AT1:=GS zE
def AT0:zE.tk=[]/\zE.mt=[]/\zE.pc=[]:=⟨rfl,rfl,rfl⟩
def AT3:FK AA 180 f180 zE:=GP func180
def h86:Es:=hm [12,108,492,2147483820,16,684,1708,0x40000000000000c,16,2060,0x2000000000000080c,16,0x40000000000000000000000000000,16,16] [] [] [16,23,39,47,63]
def Adl:h86.lv=GL [[2,3],[2,3,5,6],[2,3,5,6,7,8],[2,3,5,7,31],[4],[2,3,5,7,9],[2,3,5,7,9,10],[2,3,58],[4],[2,3,11],[2,3,11,65],[4],[114],[4],[4]]:=GM rfl dk
def Adk:=GS h86
def Adj:h86.tk=[]/\h86.mt=[]/\h86.pc=[16,23,39,47,63]:=⟨rfl,rfl,rfl⟩
def Adm:FK AA 86 f86 h86:=GP func86
def ZU:Es:=hx [6,38,100,228,1048804,228,484,134218212,484,996,0x80000000000003e4,996,484,16] [67,71] [] [(13,[(4,none,false)])] [38] [] []
def Adg:ZU.lv=GL [[1,2],[1,2,5],[2,5,6],[2,5,6,7],[2,5,6,7,20],[2,5,6,7],[2,5,6,7,8],[2,5,6,7,8,27],[2,5,6,7,8],[2,5,6,7,8,9],[2,5,6,7,8,9,63],[2,5,6,7,8,9],[2,5,6,7,8],[4]]:=GM rfl dk
def Adi(k:Nat):ZU.ct k=none:=rfl
def Add:ZU.at 0=[]/\ZU.at 1=[]/\ZU.at 2=[]/\ZU.at 3=[]/\ZU.at 4=[]/\ZU.at 5=[]/\ZU.at 6=[]/\ZU.at 7=[]/\ZU.at 8=[]/\ZU.at 9=[]/\ZU.at 10=[]/\ZU.at 11=[]/\ZU.at 12=[]/\ZU.at 13=[(4,none,false)]:=dk
def Ade(k:Nat):ZU.dn k=false:=AH rfl rfl
def Adf:ZU.tk=[67,71]/\ZU.mt=[]/\ZU.pc=[38]:=⟨rfl,rfl,rfl⟩
def Adh:FK AA 87 f87 ZU:=GP func87
def h49:Es:=hm [2,18,8210,12,18,524306,12,1073741826,12,34,34359738402,34,50,4398046511154,12,66,562949953421378,66,82,0x1000000000000052,12,130,0x80000000000000082,130,386,0x10000000000000000082,12,12] [73] [] [11,17,40,58,72]
def AfT:h49.lv=GL [[1],[1,4],[1,4,13],[2,3],[1,4],[1,4,19],[2,3],[1,30],[2,3],[1,5],[1,5,35],[1,5],[1,4,5],[1,4,5,42],[2,3],[1,6],[1,6,49],[1,6],[1,4,6],[1,4,6,60],[2,3],[1,7],[1,7,67],[1,7],[1,7,8],[1,7,76],[2,3],[2,3]]:=GM rfl dk
def AfS:=GS h49
def AfR:h49.tk=[73]/\h49.mt=[]/\h49.pc=[11,17,40,58,72]:=⟨rfl,rfl,rfl⟩
def AfU:FK AA 49 f49 h49:=GP func49
def h17:Es:=hm [2,10,514,4,32,4] [] [] [7,12]
def Agz:h17.lv=GL [[1],[1,3],[1,9],[2],[5],[2]]:=GM rfl dk
def Agy:=GS h17
def Agx:h17.tk=[]/\h17.mt=[]/\h17.pc=[7,12]:=⟨rfl,rfl,rfl⟩
def Ag0:FK AA 17 f17 h17:=GP func17
def zj:Es:=hm [3,35,99,1123,99,524387,99,16] [] [] []
def AV7:zj.lv=GL [[0,1],[0,1,5],[0,1,5,6],[0,1,5,6,10],[0,1,5,6],[0,1,5,6,19],[0,1,5,6],[4]]:=GM rfl dk
def AV6:=GS zj
def AV5:zj.tk=[]/\zj.mt=[]/\zj.pc=[]:=⟨rfl,rfl,rfl⟩
def AV8:FK AA 146 f146 zj:=GP func146
def zA:Es:=hm [3,35,547,35,262179,16,16] [] [] []
def ATa:zA.lv=GL [[0,1],[0,1,5],[0,1,5,9],[0,1,5],[0,1,5,18],[4],[4]]:=GM rfl dk
def ATZ:=GS zA
def ATY:zA.tk=[]/\zA.mt=[]/\zA.pc=[]:=⟨rfl,rfl,rfl⟩
def ATb:FK AA 186 f186 zA:=GP func186
def xp:Es:=hm [1,9,25,153,25,25,4] [] [] []
def APj:xp.lv=GL [[0],[0,3],[0,3,4],[0,3,4,7],[0,3,4],[0,3,4],[2]]:=GM rfl dk
def APi:=GS xp
def APh:xp.tk=[]/\xp.mt=[]/\xp.pc=[]:=⟨rfl,rfl,rfl⟩
def APk:FK AA 260 f260 xp:=GP func260
def y_:Es:=hm [28,34359738396,64,156,1099511627932,156,0x400000000000009c,64,0x1000000000000001c,0x3000000000000001c,64,0x41000000000000001c,284,0x800000000000000011c,284,0x80000000000000000000011c,64,64,0x1000000000000000000000000018,64,64] [] [] [60]
def ATW:y_.lv=GL [[2,3,4],[2,3,4,35],[6],[2,3,4,7],[2,3,4,7,40],[2,3,4,7],[2,3,4,7,62],[6],[2,3,4,64],[2,3,4,64,65],[6],[2,3,4,64,70],[2,3,4,8],[2,3,4,8,75],[2,3,4,8],[2,3,4,8,95],[6],[6],[3,4,108],[6],[6]]:=GM rfl dk
def ATV:=GS y_
def ATU:y_.tk=[]/\y_.mt=[]/\y_.pc=[60]:=⟨rfl,rfl,rfl⟩
def ATX:FK AA 187 f187 y_:=GP func187
def h75:Es:=hm [3,35,32803,35,67108899,16,34359738403,16,1099511627779,16,35184372088832,16,16] [41,43] [] []
def AeR:h75.lv=GL [[0,1],[0,1,5],[0,1,5,15],[0,1,5],[0,1,5,26],[4],[0,1,5,35],[4],[0,1,40],[4],[45],[4],[4]]:=GM rfl dk
def AeQ:=GS h75
def AeP:h75.tk=[41,43]/\h75.mt=[]/\h75.pc=[]:=⟨rfl,rfl,rfl⟩
def AeS:FK AA 75 f75 h75:=GP func75
def y6:Es:=hm [12,524,16,16396,16,16] [] [] [19]
def ATS:y6.lv=GL [[2,3],[2,3,9],[4],[2,3,14],[4],[4]]:=GM rfl dk
def ATR:=GS y6
def ATQ:y6.tk=[]/\y6.mt=[]/\y6.pc=[19]:=⟨rfl,rfl,rfl⟩
def ATT:FK AA 188 f188 y6:=GP func188
def h89:Es:=hm [3,35,2083,35,99,4194403,16,163,68719476771,16,0x8000000000023,16,0x2000000000000023,16,16] [] [] [20,34,49,60]
def AdW:h89.lv=GL [[0,1],[0,1,5],[0,1,5,11],[0,1,5],[0,1,5,6],[0,1,5,6,22],[4],[0,1,5,7],[0,1,5,36],[4],[0,1,5,51],[4],[0,1,5,61],[4],[4]]:=GM rfl dk
def AdV:=GS h89
def yz:Es:=hm [3,35,99,227,2275,227,8388835,163,227,8589934819,227,4398046511138,32,16] [24,34,43,47] [] []
def ATO:yz.lv=GL [[0,1],[0,1,5],[0,1,5,6],[0,1,5,6,7],[0,1,5,6,7,11],[0,1,5,6,7],[0,1,5,6,7,23],[0,1,5,7],[0,1,5,6,7],[0,1,5,6,7,33],[0,1,5,6,7],[1,5,42],[5],[4]]:=GM rfl dk
def ATN:=GS yz
def ATM:yz.tk=[24,34,43,47]/\yz.mt=[]/\yz.pc=[]:=⟨rfl,rfl,rfl⟩
def ATP:FK AA 189 f189 yz:=GP func189
def h90:Es:=hm [3,35,99,65635,99,33554531,99,163,419,137438953891,419,931,1955,4003,281474976714659,4003,8099,0x80000000000001fa3,8099,8099,0x400000000000000001fa3,7075,2979,4003,419,16] [26,89,93] [] [33,70,75,78]
def AdU:h90.lv=GL [[0,1],[0,1,5],[0,1,5,6],[0,1,5,6,16],[0,1,5,6],[0,1,5,6,25],[0,1,5,6],[0,1,5,7],[0,1,5,7,8],[0,1,5,7,8,37],[0,1,5,7,8],[0,1,5,7,8,9],[0,1,5,7,8,9,10],[0,1,5,7,8,9,10,11],[0,1,5,7,8,9,10,11,48],[0,1,5,7,8,9,10,11],[0,1,5,7,8,9,10,11,12],[0,1,5,7,8,9,10,11,12,67],[0,1,5,7,8,9,10,11,12],[0,1,5,7,8,9,10,11,12],[0,1,5,7,8,9,10,11,12,82],[0,1,5,7,8,9,11,12],[0,1,5,7,8,9,11],[0,1,5,7,8,9,10,11],[0,1,5,7,8],[4]]:=GM rfl dk
def AdT:=GS h90
def h50:Es:=hm [7,135,262151,64,256,64] [19,20,22] [] [11,21,23]
def AfQ:h50.lv=GL [[0,1,2],[0,1,2,7],[0,1,2,18],[6],[8],[6]]:=GM rfl dk
def AfP:=GS h50
def h18:Es:=hm [6,4102,16,38,65574,38,102,2199023255590,16,16] [] [] [31]
def Agw:h18.lv=GL [[1,2],[1,2,12],[4],[1,2,5],[1,2,5,16],[1,2,5],[1,2,5,6],[1,2,5,41],[4],[4]]:=GM rfl dk
def Agv:=GS h18
def h19:Es:=hm [2,10,4] [] [] [6]
def Agt:h19.lv=GL [[1],[1,3],[2]]:=GM rfl dk
def Ags:=GS h19
def Agr:h19.tk=[]/\h19.mt=[]/\h19.pc=[6]:=⟨rfl,rfl,rfl⟩
def Agu:FK AA 19 f19 h19:=GP func19
def h4:Es:=hm [14,131076,64,1835008,3932160,1835264,68943872,64,1835008,64] [14,18] [] [10,15,25]
def Als:h4.lv=GL [[1,2,3],[2,17],[6],[18,19,20],[18,19,20,21],[8,18,19,20],[18,19,20,26],[6],[18,19,20],[6]]:=GM rfl dk
def Alr:=GS h4
def h44:Es:=hm [3,387,899,419,65955,16,387,16] [] [] []
def Afn:h44.lv=GL [[0,1],[0,1,7,8],[0,1,7,8,9],[0,1,5,7,8],[0,1,5,7,8,16],[4],[0,1,7,8],[4]]:=GM rfl dk
def Afm:=GS h44
def Afl:h44.tk=[]/\h44.mt=[]/\h44.pc=[]:=⟨rfl,rfl,rfl⟩
def Afo:FK AA 44 f44 h44:=GP func44
def h46:Es:=hx [105,256] [9] [11,17] [] [17] [] [2006,2007]
def Afe:h46.lv=GL [[0,3,5,6],[8]]:=GM rfl dk
def Afg(k:Nat):h46.ct k=none:=rfl
def Afb(k:Nat):h46.at k=[]:=rfl
def Afc:h46.dn 0=false/\h46.dn 1=true:=dk
def Afd:h46.tk=[9]/\h46.mt=[11,17]/\h46.pc=[17]:=⟨rfl,rfl,rfl⟩
def Aff:FK AA 46 f46 h46:=GP func46
def h45:Es:=hm [62,64] [] [] [30]
def Afj:h45.lv=GL [[1,2,3,4,5],[6]]:=GM rfl dk
def Afi:=GS h45
def Afh:h45.tk=[]/\h45.mt=[]/\h45.pc=[30]:=⟨rfl,rfl,rfl⟩
def Afk:FK AA 45 f45 h45:=GP func45
def h15:Es:=hm [240,256] [] [] []
def Ag7:h15.lv=GL [[4,5,6,7],[8]]:=GM rfl dk
def Ag6:=GS h15
def Ag5:h15.tk=[]/\h15.mt=[]/\h15.pc=[]:=⟨rfl,rfl,rfl⟩
def Ag8:FK AA 15 f15 h15:=GP func15
def h29:Es:=hm [6,1] [3] [] []
def Agl:h29.lv=GL [[1,2],[0]]:=GM rfl dk
def Agk:=GS h29
def Agj:h29.tk=[3]/\h29.mt=[]/\h29.pc=[]:=⟨rfl,rfl,rfl⟩
def Agm:FK AA 29 f29 h29:=GP func29
def h31:Es:=hm [1,17,4,4] [6] [] []
def Age:h31.lv=GL [[0],[0,4],[2],[2]]:=GM rfl dk
def Agd:=GS h31
def xG:Es:=hm [1,17,4,4] [6] [5,7] []
def ANV:xG.lv=GL [[0],[0,4],[2],[2]]:=GM rfl dk
def ANU:=GS xG
def ANT:xG.tk=[6]/\xG.mt=[5,7]/\xG.pc=[]:=⟨rfl,rfl,rfl⟩
def ANW:FK AA 336 f336 xG:=GP func336
def yZ:Es:=hm [3,387,899,419,65955,16,387,16] [] [] []
def AR0:yZ.lv=GL [[0,1],[0,1,7,8],[0,1,7,8,9],[0,1,5,7,8],[0,1,5,7,8,16],[4],[0,1,7,8],[4]]:=GM rfl dk
def ARz:=GS yZ
def ARy:yZ.tk=[]/\yZ.mt=[]/\yZ.pc=[]:=⟨rfl,rfl,rfl⟩
def qH:FK AA 222 f222 yZ:=GP func222
def xF:Es:=hm [3,35,4131,16,99,524387,99,227,536871139,99,99,33,16] [13,39] [] []
def ANP:xF.lv=GL [[0,1],[0,1,5],[0,1,5,12],[4],[0,1,5,6],[0,1,5,6,19],[0,1,5,6],[0,1,5,6,7],[0,1,5,6,7,29],[0,1,5,6],[0,1,5,6],[0,5],[4]]:=GM rfl dk
def ANO:=GS xF
def ANN:xF.tk=[13,39]/\xF.mt=[]/\xF.pc=[]:=⟨rfl,rfl,rfl⟩
def AEO:FK AA 338 f338 xF:=GP func338
def xE:Es:=hm [6,8] [] [] []
def ANL:xE.lv=GL [[1,2],[3]]:=GM rfl dk
def ANK:=GS xE
def ANJ:xE.tk=[]/\xE.mt=[]/\xE.pc=[]:=⟨rfl,rfl,rfl⟩
def ANM:FK AA 339 f339 xE:=GP func339
def xd:Es:=hm [9,16] [5] [] []
def AOx:xd.lv=GL [[0,3],[4]]:=GM rfl dk
def AOw:=GS xd
def AOv:xd.tk=[5]/\xd.mt=[]/\xd.pc=[]:=⟨rfl,rfl,rfl⟩
def AOy:FK AA 295 f295 xd:=GP func295
def xc:Es:=hm [6,8] [] [] []
def AOt:xc.lv=GL [[1,2],[3]]:=GM rfl dk
def AOs:=GS xc
def AOr:xc.tk=[]/\xc.mt=[]/\xc.pc=[]:=⟨rfl,rfl,rfl⟩
def AOu:FK AA 296 f296 xc:=GP func296
def ya:Es:=hm [9,16] [5] [] []
def AR3:ya.lv=GL [[0,3],[4]]:=GM rfl dk
def AR2:=GS ya
def AR1:ya.tk=[5]/\ya.mt=[]/\ya.pc=[]:=⟨rfl,rfl,rfl⟩
def AR4:FK AA 221 f221 ya:=GP func221
def xb:Es:=hm [21,277,1813,132885,3861,2147487509,1813,1813,192] [41] [] [30,46]
def AOp:xb.lv=GL [[0,2,4],[0,2,4,8],[0,2,4,8,9,10],[0,2,4,8,9,10,17],[0,2,4,8,9,10,11],[0,2,4,8,9,10,11,31],[0,2,4,8,9,10],[0,2,4,8,9,10],[6,7]]:=GM rfl dk
def AOo:=GS xb
def AOn:xb.tk=[41]/\xb.mt=[]/\xb.pc=[30,46]:=⟨rfl,rfl,rfl⟩
def AOq:FK AA 297 f297 xb:=GP func297
def yX:Es:=hm [21,192] [8] [] [11]
def ARs:yX.lv=GL [[0,2,4],[6,7]]:=GM rfl dk
def ARr:=GS yX
def ARq:yX.tk=[8]/\yX.mt=[]/\yX.pc=[11]:=⟨rfl,rfl,rfl⟩
def ARt:FK AA 224 f224 yX:=GP func224
def xa:Es:=hm [1,9,456,968,488,16872,4,456,4] [6] [] []
def AOl:xa.lv=GL [[0],[0,3],[3,6,7,8],[3,6,7,8,9],[3,5,6,7,8],[3,5,6,7,8,14],[2],[3,6,7,8],[2]]:=GM rfl dk
def AOk:=GS xa
def AOj:xa.tk=[6]/\xa.mt=[]/\xa.pc=[]:=⟨rfl,rfl,rfl⟩
def AOm:FK AA 298 f298 xa:=GP func298
def xZ:Es:=hm [3,35,99,2115,4096,16,16,8195,16,65539,16,524288,16,16] [] [] [8,10]
def AOh:xZ.lv=GL [[0,1],[0,1,5],[0,1,5,6],[0,1,6,11],[12],[4],[4],[0,1,13],[4],[0,1,16],[4],[19],[4],[4]]:=GM rfl dk
def AOg:=GS xZ
def AOf:xZ.tk=[]/\xZ.mt=[]/\xZ.pc=[8,10]:=⟨rfl,rfl,rfl⟩
def AOi:FK AA 299 f299 xZ:=GP func299
def yW:Es:=hm [12,16] [] [] [9,14,16]
def ARo:yW.lv=GL [[2,3],[4]]:=GM rfl dk
def ARn:=GS yW
def ARm:yW.tk=[]/\yW.mt=[]/\yW.pc=[9,14,16]:=⟨rfl,rfl,rfl⟩
def ARp:FK AA 225 f225 yW:=GP func225
def dM:Es:=hm [7,7,135,65671,64,391,4194695,64,2147484039,647,643,512,64,391,0x100000000000000187,7,1,64,131,1,64] [17,23,24,44,51,55,56,81,83,87,94] [25,40,67] [67,93]
def ANS:dM.lv=GL [[0,1,2],[0,1,2],[0,1,2,7],[0,1,2,7,16],[6],[0,1,2,7,8],[0,1,2,7,8,22],[6],[0,1,2,7,8,31],[0,1,2,7,9],[0,1,7,9],[9],[6],[0,1,2,7,8],[0,1,2,7,8,68],[0,1,2],[0],[6],[0,1,7],[0],[6]]:=GM rfl dk
def ANR:=GS dM
def ANQ:dM.tk=[17,23,24,44,51,55,56,81,83,87,94]/\dM.mt=[25,40,67]/\dM.pc=[67,93]:=⟨rfl,rfl,rfl⟩
def AEP:FK AA 337 f337 dM:=GP func337
def xe:Es:=hm [9,105,232,65704,128,16,16] [14,21,22] [25] [11]
def AO1:xe.lv=GL [[0,3],[0,3,5,6],[3,5,6,7],[3,5,7,16],[7],[4],[4]]:=GM rfl dk
def AO0:=GS xe
def AOz:xe.tk=[14,21,22]/\xe.mt=[25]/\xe.pc=[11]:=⟨rfl,rfl,rfl⟩
def AO2:FK AA 294 f294 xe:=GP func294
def yc:Es:=hm [1,2097153,4,1,4] [] [] [18,31]
def AR':yc.lv=GL [[0],[0,21],[2],[0],[2]]:=GM rfl dk
def AR_:=GS yc
def AR9:yc.tk=[]/\yc.mt=[]/\yc.pc=[18,31]:=⟨rfl,rfl,rfl⟩
def ASA:FK AA 219 f219 yc:=GP func219
def yb:Es:=hm [197,131141,1] [] [] [14,26,28]
def AR7:yb.lv=GL [[0,2,6,7],[0,2,6,17],[0]]:=GM rfl dk
def AR6:=GS yb
def AR5:yb.tk=[]/\yb.mt=[]/\yb.pc=[14,26,28]:=⟨rfl,rfl,rfl⟩
def AR8:FK AA 220 f220 yb:=GP func220
def qM:Es:=hm [1,1,16777217,4,1,4] [] [] [23,36]
def AXZ:qM.lv=GL [[0],[0],[0,24],[2],[0],[2]]:=GM rfl dk
def AXY:=GS qM
def qL:Es:=hm [1,1,4] [] [] [12]
def AXX:qL.lv=GL [[0],[0],[2]]:=GM rfl dk
def AXW:=GS qL
def AAA:Es:=hm [1,4] [] [] []
def AXU:AAA.lv=GL [[0],[2]]:=GM rfl dk
def AXT:=GS AAA
def AXS:AAA.tk=[]/\AAA.mt=[]/\AAA.pc=[]:=⟨rfl,rfl,rfl⟩
def AXV:FK AA 123 f123 AAA:=GP func123
def qK:Es:=hm [1,1,262145,9,3758096393,8053063689,3758096425,3758096393,3758096393,9,0x40000000000009,9,0x4000000000000000001,4,0x20000000000000000001,4,1,4] [] [] [29,76,89]
def AXR:qK.lv=GL [[0],[0],[0,18],[0,3],[0,3,29,30,31],[0,3,29,30,31,32],[0,3,5,29,30,31],[0,3,29,30,31],[0,3,29,30,31],[0,3],[0,3,54],[0,3],[0,74],[2],[0,77],[2],[0],[2]]:=GM rfl dk
def AXQ:=GS qK
def yY:Es:=hm [14,16] [] [] []
def ARw:yY.lv=GL [[1,2,3],[4]]:=GM rfl dk
def ARv:=GS yY
def ARu:yY.tk=[]/\yY.mt=[]/\yY.pc=[]:=⟨rfl,rfl,rfl⟩
def ARx:FK AA 223 f223 yY:=GP func223
def qJ:Es:=hm [2,10,34,66,34359738434,4,7696581394498,0xf0000000042,7696581394882,7696581394498,7696581394498,4] [] [] [19,27,33,60]
def AXP:qJ.lv=GL [[1],[1,3],[1,5],[1,6],[1,6,35],[2],[1,6,40,41,42],[1,6,40,41,42,43],[1,6,7,8,40,41,42],[1,6,40,41,42],[1,6,40,41,42],[2]]:=GM rfl dk
def AXO:=GS qJ
def N7:Es:=hx [1,25,262169,25,57,4503599627370553,9,9,73,0x80000000000000000000049,65,4] [] [] [] [100] [] [7]
def AXM:N7.lv=GL [[0],[0,3,4],[0,3,4,18],[0,3,4],[0,3,4,5],[0,3,4,5,52],[0,3],[0,3],[0,3,6],[0,3,6,91],[0,6],[2]]:=GM rfl dk
def AXN(k:Nat):N7.ct k=none:=rfl
def AXK(k:Nat):N7.at k=[]:=rfl
def AXL:N7.dn 0=false/\N7.dn 1=false/\N7.dn 2=false/\N7.dn 3=false/\N7.dn 4=false/\N7.dn 5=false/\N7.dn 6=false/\N7.dn 7=true/\N7.dn 8=false/\N7.dn 9=false/\N7.dn 10=false/\N7.dn 11=false:=dk
def z_:Es:=hm [35,291,57633,123169,58657,63777,67168545,192,57633,57633,192] [13,27,34] [] [22,30]
def AXI:z_.lv=GL [[0,1,5],[0,1,5,8],[0,5,8,13,14,15],[0,5,8,13,14,15,16],[0,5,8,10,13,14,15],[0,5,8,11,12,13,14,15],[0,5,8,11,13,14,15,26],[6,7],[0,5,8,13,14,15],[0,5,8,13,14,15],[6,7]]:=GM rfl dk
def AXH:=GS z_
def AXG:z_.tk=[13,27,34]/\z_.mt=[]/\z_.pc=[22,30]:=⟨rfl,rfl,rfl⟩
def AXJ:FK AA 127 f127 z_:=GP func127
def z8:Es:=hm [71,833,524609,192,192] [13,21] [] [15]
def AXE:z8.lv=GL [[0,1,2,6],[0,6,8,9],[0,6,8,19],[6,7],[6,7]]:=GM rfl dk
def AXD:=GS z8
def AXC:z8.tk=[13,21]/\z8.mt=[]/\z8.pc=[15]:=⟨rfl,rfl,rfl⟩
def AXF:FK AA 128 f128 z8:=GP func128
def dL:Es:=hx [1365,525653,7168,9557,25941,91460,91456,72057594038019392,75072,0x400000000000010500,7168,7168] [21,31,41,60] [] [] [28,45] [] [10,11]
def Ae3:dL.lv=GL [[0,2,4,6,8,10],[0,2,4,6,8,10,19],[10,11,12],[0,2,4,6,8,10,13],[0,2,4,6,8,10,13,14],[2,6,8,10,13,14,16],[6,8,10,13,14,16],[6,8,10,13,14,16,56],[6,8,10,13,16],[8,10,16,70],[10,11,12],[10,11,12]]:=GM rfl dk
def Ae5(k:Nat):dL.ct k=none:=rfl
def Ae0(k:Nat):dL.at k=[]:=rfl
def Ae1:dL.dn 0=false/\dL.dn 1=false/\dL.dn 2=false/\dL.dn 3=false/\dL.dn 4=false/\dL.dn 5=false/\dL.dn 6=false/\dL.dn 7=false/\dL.dn 8=false/\dL.dn 9=false/\dL.dn 10=true/\dL.dn 11=true:=dk
def Ae2:dL.tk=[21,31,41,60]/\dL.mt=[]/\dL.pc=[28,45]:=⟨rfl,rfl,rfl⟩
def Ae4:FK AA 65 f65 dL:=GP func65
def h33:Es:=hm [279,24599,1879072789,4026556437,1879138325,1879269397,122138345493,259577298965,122138869781,122141491221,122140442645,0x400001c70034015,7168,122138345493,1879269397,0xe000000070016015,0x1e000000070016015,0xe000000070816015,0xe000000070816015,0xe000000071816015,0x4000e000000070816015,0xe000000070016015,0xe000000070016015,1879072789,7168] [28,34,49,50,59,61,71,79,85,86] [] [46,74]
def AgV:h33.lv=GL [[0,1,2,4,8],[0,1,2,4,13,14],[0,2,4,13,14,28,29,30],[0,2,4,13,14,28,29,30,31],[0,2,4,13,14,16,28,29,30],[0,2,4,13,14,16,17,28,29,30],[0,2,4,14,16,17,28,29,30,34,35,36],[0,2,4,14,16,17,28,29,30,34,35,36,37],[0,2,4,14,16,17,19,28,29,30,34,35,36],[0,2,4,14,16,17,20,21,28,29,30,34,35,36],[0,2,4,14,16,17,21,28,29,30,34,35,36],[0,2,4,14,16,17,28,29,30,34,35,36,58],[10,11,12],[0,2,4,14,16,17,28,29,30,34,35,36],[0,2,4,13,14,16,17,28,29,30],[0,2,4,13,14,16,28,29,30,61,62,63],[0,2,4,13,14,16,28,29,30,61,62,63,64],[0,2,4,13,14,16,23,28,29,30,61,62,63],[0,2,4,13,14,16,23,28,29,30,61,62,63],[0,2,4,13,14,16,23,24,28,29,30,61,62,63],[0,2,4,13,14,16,23,28,29,30,61,62,63,78],[0,2,4,13,14,16,28,29,30,61,62,63],[0,2,4,13,14,16,28,29,30,61,62,63],[0,2,4,13,14,28,29,30],[10,11,12]]:=GM rfl dk
def AgU:=GS h33
def AgT:h33.tk=[28,34,49,50,59,61,71,79,85,86]/\h33.mt=[]/\h33.pc=[46,74]:=⟨rfl,rfl,rfl⟩
def AgW:FK AA 33 f33 h33:=GP func33
def h35:Es:=hm [1,17,4,4] [6] [] []
def AgN:h35.lv=GL [[0],[0,4],[2],[2]]:=GM rfl dk
def AgM:=GS h35
def AgL:h35.tk=[6]/\h35.mt=[]/\h35.pc=[]:=⟨rfl,rfl,rfl⟩
def AgO:FK AA 35 f35 h35:=GP func35
def h67:Es:=hm [3,387,899,419,65955,16,387,16] [] [] []
def Aev:h67.lv=GL [[0,1],[0,1,7,8],[0,1,7,8,9],[0,1,5,7,8],[0,1,5,7,8,16],[4],[0,1,7,8],[4]]:=GM rfl dk
def Aeu:=GS h67
def Aet:h67.tk=[]/\h67.mt=[]/\h67.pc=[]:=⟨rfl,rfl,rfl⟩
def Aew:FK AA 67 f67 h67:=GP func67
def h68:Es:=hm [6,8] [] [] []
def Aer:h68.lv=GL [[1,2],[3]]:=GM rfl dk
def Aeq:=GS h68
def Aep:h68.tk=[]/\h68.mt=[]/\h68.pc=[]:=⟨rfl,rfl,rfl⟩
def Aes:FK AA 68 f68 h68:=GP func68
def h36:Es:=hm [12,64,48] [] [] []
def AgJ:h36.lv=GL [[2,3],[6],[4,5]]:=GM rfl dk
def AgI:=GS h36
def AgH:h36.tk=[]/\h36.mt=[]/\h36.pc=[]:=⟨rfl,rfl,rfl⟩
def AgK:FK AA 36 f36 h36:=GP func36
def h6:Es:=hm [90,2138,6234,481036343386,0xf00000185a,481036367962,481036449882,563430989805658,481036343386,481036343386,137242,399386,923674,0x20000000000e181a,923674,1972250,4069402,8263706,121509914,0x10000000000000000033e181a,1792,20846618,0x3800000000000000000003e181a,0x7800000000000000000003e181a,0x3800000000000000000103e181a,0x3800000000000000000703e181a,0x1003800000000000000000303e181a,0x3800000000000000000b03e181a,0x100003800000000000000000b03e181a,0x3800000000000000000003e181a,0x3800000000000000001903e181a,0x3800000000000000001903e181a,0x3800000000000000000003e181a,0x3800000000000000000003e181a,0x8000000000000000000000000000000000000e181a,1792,1792] [82,97,101,103,125,168,169,170] [] [46,57,76,91,112,122,131,143,158]
def Alj:h6.lv=GL [[1,3,4,6],[1,3,4,6,11],[1,3,4,6,11,12],[1,3,4,6,11,12,36,37,38],[1,3,4,6,11,12,36,37,38,39],[1,3,4,6,11,12,13,14,36,37,38],[1,3,4,6,11,12,13,15,16,36,37,38],[1,3,4,6,11,12,13,15,36,37,38,49],[1,3,4,6,11,12,36,37,38],[1,3,4,6,11,12,36,37,38],[1,3,4,11,12,17],[1,3,4,11,12,17,18],[1,3,4,11,12,17,18,19],[1,3,4,11,12,17,18,19,61],[1,3,4,11,12,17,18,19],[1,3,4,11,12,17,18,19,20],[1,3,4,11,12,17,18,19,20,21],[1,3,4,11,12,17,18,19,20,21,22],[1,3,4,11,12,17,18,19,20,21,24,25,26],[1,3,4,11,12,17,18,19,20,21,24,25,96],[8,9,10],[1,3,4,11,12,17,18,19,20,21,24],[1,3,4,11,12,17,18,19,20,21,103,104,105],[1,3,4,11,12,17,18,19,20,21,103,104,105,106],[1,3,4,11,12,17,18,19,20,21,28,103,104,105],[1,3,4,11,12,17,18,19,20,21,28,29,30,103,104,105],[1,3,4,11,12,17,18,19,20,21,28,29,103,104,105,116],[1,3,4,11,12,17,18,19,20,21,28,29,31,103,104,105],[1,3,4,11,12,17,18,19,20,21,28,29,31,103,104,105,124],[1,3,4,11,12,17,18,19,20,21,103,104,105],[1,3,4,11,12,17,18,19,20,21,28,31,32,103,104,105],[1,3,4,11,12,17,18,19,20,21,28,31,32,103,104,105],[1,3,4,11,12,17,18,19,20,21,103,104,105],[1,3,4,11,12,17,18,19,20,21,103,104,105],[1,3,4,11,12,17,18,19,167],[8,9,10],[8,9,10]]:=GM rfl dk
def Ali:=GS h6
def h27:Es:=hm [3,1027,16,35,16419,35,33554467,16,16] [] [] []
def Agp:h27.lv=GL [[0,1],[0,1,10],[4],[0,1,5],[0,1,5,14],[0,1,5],[0,1,5,25],[4],[4]]:=GM rfl dk
def Ago:=GS h27
def Agn:h27.tk=[]/\h27.mt=[]/\h27.pc=[]:=⟨rfl,rfl,rfl⟩
def Agq:FK AA 27 f27 h27:=GP func27
def h8:Es:=hm [3,2051,16,35,32803,35,99,72057594037927971,16,16] [] [] [28]
def Ale:h8.lv=GL [[0,1],[0,1,11],[4],[0,1,5],[0,1,5,15],[0,1,5],[0,1,5,6],[0,1,5,56],[4],[4]]:=GM rfl dk
def Ald:=GS h8
def Alc:h8.tk=[]/\h8.mt=[]/\h8.pc=[28]:=⟨rfl,rfl,rfl⟩
def Alf:FK AA 8 f8 h8:=GP func8
def MR:Es:=hm [2,4] [] [] []
def AhA:MR.lv=GL [[1],[2]]:=GM rfl dk
def Ag':=GS MR
def h5:Es:=hx [1,2,6,6,30,122,506,4090,24570,122874,516090,2088954,0x800000000000000000000000000a9202,1,2789890,6984194,15372802,1] [124,137,138,141,142,146,152,157] [31] [(1,[(1,some 5,true)]),(3,[(2,some 5,true)])] [51,60] [] []
def Alo:h5.lv=GL [[0],[1],[1,2],[1,2],[1,2,3,4],[1,3,4,5,6],[1,3,4,5,6,7,8],[1,3,4,5,6,7,8,9,10,11],[1,3,4,5,6,7,8,9,10,11,12,14],[1,3,4,5,6,7,8,9,10,11,12,14,15,16],[1,3,4,5,6,7,8,9,10,11,12,14,15,16,17,18],[1,3,4,5,6,7,8,9,10,11,12,14,15,16,17,18,19,20],[1,9,12,15,17,19,127],[0],[1,9,12,15,17,19,21],[1,9,12,15,17,19,21,22],[1,9,12,15,17,19,21,22,23],[0]]:=GM rfl dk
def Alq(k:Nat):h5.ct k=none:=rfl
def Alk:h5.at 0=[]/\h5.at 1=[(1,some 5,true)]/\h5.at 2=[]/\h5.at 3=[(2,some 5,true)]/\h5.at 4=[]/\h5.at 5=[]/\h5.at 6=[]/\h5.at 7=[]/\h5.at 8=[]/\h5.at 9=[]/\h5.at 10=[]/\h5.at 11=[]/\h5.at 12=[]/\h5.at 13=[]/\h5.at 14=[]/\h5.at 15=[]/\h5.at 16=[]/\h5.at 17=[]:=dk
def Alm(k:Nat):h5.dn k=false:=AH rfl rfl
def Aln:h5.tk=[124,137,138,141,142,146,152,157]/\h5.mt=[31]/\h5.pc=[51,60]:=⟨rfl,rfl,rfl⟩
def Alp:FK AA 5 f5 h5:=GP func5
def h16:Es:=hm [90,602,66138,602,1626,549755815514,2650,0x80000000025a,256,256] [] [] [46]
def Ag3:h16.lv=GL [[1,3,4,6],[1,3,4,6,9],[1,3,4,6,9,16],[1,3,4,6,9],[1,3,4,6,9,10],[1,3,4,6,9,10,39],[1,3,4,6,9,11],[1,3,4,6,9,47],[8],[8]]:=GM rfl dk
def Ag2:=GS h16
def Ag1:h16.tk=[]/\h16.mt=[]/\h16.pc=[46]:=⟨rfl,rfl,rfl⟩
def Ag4:FK AA 16 f16 h16:=GP func16
def h37:Es:=hm [6,70,4166,70,198,8388806,48,48] [] [] [21]
def AgF:h37.lv=GL [[1,2],[1,2,6],[1,2,6,12],[1,2,6],[1,2,6,7],[1,2,6,7,23],[4,5],[4,5]]:=GM rfl dk
def AgE:=GS h37
def AgD:h37.tk=[]/\h37.mt=[]/\h37.pc=[21]:=⟨rfl,rfl,rfl⟩
def AgG:FK AA 37 f37 h37:=GP func37
def zi:Es:=hm [301,1836,4195112,256,256] [12] [] [14,28,30]
def AV3:zi.lv=GL [[0,2,3,5,8],[2,3,5,8,9,10],[3,5,8,9,22],[8],[8]]:=GM rfl dk
def AV2:=GS zi
def AV1:zi.tk=[12]/\zi.mt=[]/\zi.pc=[14,28,30]:=⟨rfl,rfl,rfl⟩
def AV4:FK AA 147 f147 zi:=GP func147
def zm:Es:=hm [421,933,2469,6565,268442021,6565,0x8000000019a5,12581,28965,9007199254769957,28965,28965,256,256] [73,76] [] [19,24,71]
def AWH:zm.lv=GL [[0,2,5,7,8],[0,2,5,7,8,9],[0,2,5,7,8,11],[0,2,5,7,8,11,12],[0,2,5,7,8,11,12,28],[0,2,5,7,8,11,12],[0,2,5,7,8,11,12,47],[0,2,5,8,12,13],[0,2,5,8,12,13,14],[0,2,5,8,12,13,14,53],[0,2,5,8,12,13,14],[0,2,5,8,12,13,14],[8],[8]]:=GM rfl dk
def AWG:=GS zm
def AWF:zm.tk=[73,76]/\zm.mt=[]/\zm.pc=[19,24,71]:=⟨rfl,rfl,rfl⟩
def AWI:FK AA 143 f143 zm:=GP func143
def zl:Es:=hm [35,291,803,33571,803,3875,268437283,192,803,192] [29,35] [] [24,32]
def AWD:zl.lv=GL [[0,1,5],[0,1,5,8],[0,1,5,8,9],[0,1,5,8,9,15],[0,1,5,8,9],[0,1,5,8,9,10,11],[0,1,5,8,9,10,28],[6,7],[0,1,5,8,9],[6,7]]:=GM rfl dk
def AWC:=GS zl
def AWB:zl.tk=[29,35]/\zl.mt=[]/\zl.pc=[24,32]:=⟨rfl,rfl,rfl⟩
def AWE:FK AA 144 f144 zl:=GP func144
def zk:Es:=hm [71,327,4423,327,2147483975,192,192] [32] [] [29]
def AV':zk.lv=GL [[0,1,2,6],[0,1,2,6,8],[0,1,2,6,8,12],[0,1,2,6,8],[0,1,2,6,8,31],[6,7],[6,7]]:=GM rfl dk
def AV_:=GS zk
def AV9:zk.tk=[32]/\zk.mt=[]/\zk.pc=[29]:=⟨rfl,rfl,rfl⟩
def AWA:FK AA 145 f145 zk:=GP func145
def zh:Es:=hm [9,41,105,233,4329,233,489,67109353,425,489,4294967529,233,2199023255592,32,16] [27,33,42,46] [] [20]
def AVz:zh.lv=GL [[0,3],[0,3,5],[0,3,5,6],[0,3,5,6,7],[0,3,5,6,7,12],[0,3,5,6,7],[0,3,5,6,7,8],[0,3,5,6,7,8,26],[0,3,5,7,8],[0,3,5,6,7,8],[0,3,5,6,7,32],[0,3,5,6,7],[3,5,41],[5],[4]]:=GM rfl dk
def AVy:=GS zh
def AVx:zh.tk=[27,33,42,46]/\zh.mt=[]/\zh.pc=[20]:=⟨rfl,rfl,rfl⟩
def AV0:FK AA 148 f148 zh:=GP func148
def yK:Es:=hm [3,35,99,1123,99,524387,99,16] [20,27] [] []
def AQ4:yK.lv=GL [[0,1],[0,1,5],[0,1,5,6],[0,1,5,6,10],[0,1,5,6],[0,1,5,6,19],[0,1,5,6],[4]]:=GM rfl dk
def AQ3:=GS yK
def AQ2:yK.tk=[20,27]/\yK.mt=[]/\yK.pc=[]:=⟨rfl,rfl,rfl⟩
def AQ5:FK AA 238 f238 yK:=GP func238
def zg:Es:=hm [15,524,1548,134219276,1548,3596,7692,8589942284,7692,7692,0x80000000060c,256,256] [13] [] [15]
def AVv:zg.lv=GL [[0,1,2,3],[2,3,9],[2,3,9,10],[2,3,9,10,27],[2,3,9,10],[2,3,9,10,11],[2,3,9,10,11,12],[2,3,9,10,11,12,33],[2,3,9,10,11,12],[2,3,9,10,11,12],[2,3,9,10,47],[8],[8]]:=GM rfl dk
def AVu:=GS zg
def AVt:zg.tk=[13]/\zg.mt=[]/\zg.pc=[15]:=⟨rfl,rfl,rfl⟩
def AVw:FK AA 149 f149 zg:=GP func149
def zf:Es:=hm [92,220,2268,220,33554652,84,80,64,216,80,64] [] [] []
def AVr:zf.lv=GL [[2,3,4,6],[2,3,4,6,7],[2,3,4,6,7,11],[2,3,4,6,7],[2,3,4,6,7,25],[2,4,6],[4,6],[6],[3,4,6,7],[4,6],[6]]:=GM rfl dk
def AVq:=GS zf
def AVp:zf.tk=[]/\zf.mt=[]/\zf.pc=[]:=⟨rfl,rfl,rfl⟩
def AVs:FK AA 150 f150 zf:=GP func150
def h73:Es:=hm [1365,132437,1024,8389973,1024,3413,27989,0x800000006d55,1024,0x200000000000006d55,1024,27989,25941,0x80000000000000006555,0x180000000000000006555,9557,9541,1024,0x10000080000000000000006555,9476,1024,0x2000000000000000000000006555,0x10000000000000000000000002555,9557,0x10000000000000000000000000002555,1024,9541,1024,0x400000000000000000000000000000002554,9556,9556,9476,0x400000000000000000000000000000000002504,1024,9476,1024] [19,24,26,59,71,76,89,96,105,126,130,137,156,165] [] [28,34,42,67,95,98,107,120,136,139,151,158,167]
def AeZ:h73.lv=GL [[0,2,4,6,8,10],[0,2,4,6,8,10,17],[10],[0,2,4,6,8,10,23],[10],[0,2,4,6,8,10,11],[0,2,4,6,8,10,11,13,14],[0,2,4,6,8,10,11,13,14,47],[10],[0,2,4,6,8,10,11,13,14,69],[10],[0,2,4,6,8,10,11,13,14],[0,2,4,6,8,10,13,14],[0,2,4,6,8,10,13,14,79],[0,2,4,6,8,10,13,14,79,80],[0,2,4,6,8,10,13],[0,2,6,8,10,13],[10],[0,2,4,6,8,10,13,14,79,100],[2,8,10,13],[10],[0,2,4,6,8,10,13,14,109],[0,2,4,6,8,10,13,112],[0,2,4,6,8,10,13],[0,2,4,6,8,10,13,124],[10],[0,2,6,8,10,13],[10],[2,4,6,8,10,13,142],[2,4,6,8,10,13],[2,4,6,8,10,13],[2,8,10,13],[2,8,10,13,154],[10],[2,8,10,13],[10]]:=GM rfl dk
def AeY:=GS h73
def AeX:h73.tk=[19,24,26,59,71,76,89,96,105,126,130,137,156,165]/\h73.mt=[]/\h73.pc=[28,34,42,67,95,98,107,120,136,139,151,158,167]:=⟨rfl,rfl,rfl⟩
def Aea:FK AA 73 f73 h73:=GP func73
def h40:Es:=hm [1303,3095,7191,15383,67124247,15383,31767,64535,4295031831,64535,261143,195607,0x80000000000fc17,1024,31767,293911,0x20000000000047c17,293911,814103,818199,0x10000000000000000c7c17,293911,1024] [50,51,60,74,85,90,91] [] [47,80]
def Af3:h40.lv=GL [[0,1,2,4,8,10],[0,1,2,4,10,11],[0,1,2,4,10,11,12],[0,1,2,4,10,11,12,13],[0,1,2,4,10,11,12,13,26],[0,1,2,4,10,11,12,13],[0,1,2,4,10,11,12,13,14],[0,1,2,4,10,11,12,13,14,15],[0,1,2,4,10,11,12,13,14,15,32],[0,1,2,4,10,11,12,13,14,15],[0,1,2,4,10,11,12,13,14,15,16,17],[0,1,2,4,10,11,12,13,14,15,17],[0,1,2,4,10,11,12,13,14,15,59],[10],[0,1,2,4,10,11,12,13,14],[0,1,2,4,10,11,12,13,14,18],[0,1,2,4,10,11,12,13,14,18,65],[0,1,2,4,10,11,12,13,14,18],[0,1,2,4,10,11,13,14,18,19],[0,1,2,4,10,11,12,13,14,18,19],[0,1,2,4,10,11,12,13,14,18,19,84],[0,1,2,4,10,11,12,13,14,18],[10]]:=GM rfl dk
def Af2:=GS h40
def Af1:h40.tk=[50,51,60,74,85,90,91]/\h40.mt=[]/\h40.pc=[47,80]:=⟨rfl,rfl,rfl⟩
def Af4:FK AA 40 f40 h40:=GP func40
def h7:Es:=hm [346,858,1882,17592186046298,256,5914,17178,49946,0x800000000000c31a,49946,115482,246554,508698,1295130,0x100000000000000000013c31a,256,1295130,3392282,0x400000000000000000000033c31a,3392282,15975194,0x1000000000000000000000000073c31a,24363802,0x1000000000000000000000000000173c31a,3392282,53723930,53723930,36946714,3392282,0x8000000000000000000000000000000000000000033c31a,256,256] [83,97,138,181,188] [] [35,53,78,93,120,134,169]
def Alh:h7.lv=GL [[1,3,4,6,8],[1,3,4,6,8,9],[1,3,4,6,8,9,10],[1,3,4,6,8,9,10,44],[8],[1,3,4,8,9,10,12],[1,3,4,8,9,14],[1,3,4,8,9,14,15],[1,3,4,8,9,14,15,63],[1,3,4,8,9,14,15],[1,3,4,8,9,14,15,16],[1,3,4,8,9,14,15,16,17],[1,3,4,8,9,14,15,16,17,18],[1,3,4,8,9,14,15,16,17,20],[1,3,4,8,9,14,15,16,17,20,96],[8],[1,3,4,8,9,14,15,16,17,20],[1,3,4,8,9,14,15,16,17,20,21],[1,3,4,8,9,14,15,16,17,20,21,110],[1,3,4,8,9,14,15,16,17,20,21],[1,3,4,8,9,14,15,16,17,20,21,22,23],[1,3,4,8,9,14,15,16,17,20,21,22,124],[1,3,4,8,9,14,15,16,17,20,21,22,24],[1,3,4,8,9,14,15,16,17,20,21,22,24,136],[1,3,4,8,9,14,15,16,17,20,21],[1,3,4,8,9,14,15,16,17,20,21,24,25],[1,3,4,8,9,14,15,16,17,20,21,24,25],[1,3,4,8,9,14,15,16,17,20,21,25],[1,3,4,8,9,14,15,16,17,20,21],[1,3,4,8,9,14,15,16,17,20,21,187],[8],[8]]:=GM rfl dk
def Alg:=GS h7
def h43:Es:=hm [3,1027,16,35,16419,35,0x80000000000000023,16,16] [] [] [65]
def Afr:h43.lv=GL [[0,1],[0,1,10],[4],[0,1,5],[0,1,5,14],[0,1,5],[0,1,5,67],[4],[4]]:=GM rfl dk
def Afq:=GS h43
def Afp:h43.tk=[]/\h43.mt=[]/\h43.pc=[65]:=⟨rfl,rfl,rfl⟩
def Afs:FK AA 43 f43 h43:=GP func43
def h9:Es:=hm [3,2051,16,35,32803,35,99,268435491,16,16] [] [] [26]
def Ala:h9.lv=GL [[0,1],[0,1,11],[4],[0,1,5],[0,1,5,15],[0,1,5],[0,1,5,6],[0,1,5,28],[4],[4]]:=GM rfl dk
def AlZ:=GS h9
def AlY:h9.tk=[]/\h9.mt=[]/\h9.pc=[26]:=⟨rfl,rfl,rfl⟩
def Alb:FK AA 9 f9 h9:=GP func9
def gU:Es:=hm [14,270,114954,246026,116490,114954,114954,192] [14,27,41,42] [] [32]
def AhK:gU.lv=GL [[1,2,3],[1,2,3,8],[1,3,8,14,15,16],[1,3,8,14,15,16,17],[1,3,8,9,10,14,15,16],[1,3,8,14,15,16],[1,3,8,14,15,16],[6,7]]:=GM rfl dk
def AhJ:=GS gU
def h11:Es:=hm [14,270,782,17166,782,1804,1804,782,192] [18,30,40,41] [] [29]
def AhH:h11.lv=GL [[1,2,3],[1,2,3,8],[1,2,3,8,9],[1,2,3,8,9,14],[1,2,3,8,9],[2,3,8,9,10],[2,3,8,9,10],[1,2,3,8,9],[6,7]]:=GM rfl dk
def AhG:=GS h11
def AhF:h11.tk=[18,30,40,41]/\h11.mt=[]/\h11.pc=[29]:=⟨rfl,rfl,rfl⟩
def AhI:FK AA 11 f11 h11:=GP func11
def h12:Es:=hm [3,2051,16,35,32803,35,99,8796093022243,16,16] [] [] [28]
def AhD:h12.lv=GL [[0,1],[0,1,11],[4],[0,1,5],[0,1,5,15],[0,1,5],[0,1,5,6],[0,1,5,43],[4],[4]]:=GM rfl dk
def AhC:=GS h12
def AhB:h12.tk=[]/\h12.mt=[]/\h12.pc=[28]:=⟨rfl,rfl,rfl⟩
def AhE:FK AA 12 f12 h12:=GP func12
def PD:Es:=hm [2,4] [] [] []
def Ag_:PD.lv=GL [[1],[2]]:=GM rfl dk
def Ag9:=GS PD
def h3:Es:=hm [30,4294967326,256,3614,7710,0x2000000000000000001e,256,24606,122908,0x200000000000000000000000001c,256,131100,131100,256] [60,66,87,92,93,97,98] [] [21,33,45,59,63,69,82,89,94,99,104,106,107,118,137,145]
def Alu:h3.lv=GL [[1,2,3,4],[1,2,3,4,32],[8],[1,2,3,4,9,10,11],[1,2,3,4,9,10,11,12],[1,2,3,4,77],[8],[1,2,3,4,13,14],[2,3,4,13,14,15,16],[2,3,4,109],[8],[2,3,4,17],[2,3,4,17],[8]]:=GM rfl dk
def Alt:=GS h3
attribute [go_sem] zb1 zb2 zb3 AdI AdH AFF AG7 Ach AAm AAk AI5 qT qS qR AdJ qQ ALg qz kx kv rH AFi ku qv AK6 kl ARQ ARP ARO AUZ AUY AUX AWj AWi AWh AQV AQU AQT AUn AUm AUl AUk AUj AUi AQS AQR AQQ AUg AUf AUe Ad3 Ad2 Ad1 AQP AQO AQN AUc AUb AUa Ad7 Ad6 Ad5 AUJ AUI AUH AVn AVm AVl AOB AOA AN' AQL AQK AQJ ARU ART ARS AWm AWl AWk ARJ ARI ARH AMY AMX AMW AMU AMT AMS AL4 AL3 AL2 AL8 AL7 AL6 AMQ AMP AMO AM' AM_ AM9 AOa AOZ AOY ARM ARL ARK AWf AWe AWd Aeg Aef Aee AM4 AM3 AM2 ANp ANo ANn APu APt APs ATu ATt ATs AeK AeJ AeI ANx ANw ANv AUq AUp AUo AQ8 AQ7 AQ6 ANt ANs ANr APy APx APw APq APp APo ATp ATr ATm ATn ATo ATj ATl ATg ATh ATi APn APm APl ATA AS' AS_ ATF ATH ATC ATD ATE ATK ATJ ATI ATe ATd ATc Ada Adc AdX AdY AdZ AM7 AM6 AM5 AN9 AN8 AN7 AN6 AN5 AN4 AQG AQI AQD AQE AQF AP2 AP1 AP0 ATy ATx ATw AN1 AN0 ANz AQB AQA AP' AUV AUU AUT AP_ AP9 AP8 AP6 AP5 AP4 AT8 AT_ AT5 AT6 AT7 Ad_ Ad9 Ad8 AUR AUQ AUP AUN AUM AUL Ady Ad0 Adv Adw Adx AUF AUE AUD AUB AUA AT' Adt Ads Adr AfN AfM AfL AS4 AS3 AS2 AYB AYA AfJ AfI AfH Agh Agg Agf Aeo Aen Aem AgB AgA Af' AXA AW' AW_ Aez Aey Aex AgR AgQ AgP AeV AeU AeT Afz Afy Afx qw ue ARk ARj ARi ARY ARX ARW AWq AWp AWo ARg ARf ARe AW4 AW3 AW2 AWu AWt AWs ARc ARb ARa AWz AW1 AWw AWx AWy AW8 AW7 AW6 Aek Aej Aei Af8 Af_ Af5 Af6 Af7 AS0 ASz ASy APe APg APb APc APd APZ APY APX ASm ASl ASk AXv AXx AXs AXt AXu AX_ AX9 AX8 AX0 AXz AXy ASv ASx ASs ASt ASu ASq ASp ASo AX5 AX7 AX2 AX3 AX4 AfF AfE AfD ASV ASU AST AXn AXm AXl ASc ASb ASa APU APW APR APS APT ASZ ASY ASX ASh ASj ASe ASf ASg AXr AXq AXp AMM AML AMK AMw AMv AMu ANH ANG ANF AMI AMH AMG AME AMD AMC AMs AMr AMq AMo AMn AMm AMA AL' AL_ AMg AMf AMe AMk AMj AMi ANd ANc ANb APB APA AO' ASL ASK ASJ ASH ASG ASF APJ API APH AM0 AMz AMy ANl ANk ANj ANh ANg ANf APF APE APD ASP ASO ASN APO APQ APL APM APN ASS ASR ASQ ANZ ANY ANX AO9 AO8 AO7 AO5 AO4 AO3 ASD ASC ASB AXg AXf AXe AXj AXi AXh AfB AfA Ae' Aga Agc AgX AgY AgZ qy ko AS8 AS7 AS6 AQ0 AQz AQy AVg AVf AVe AQw AQv AQu qx ALf AUu AUt AUs AeG AeF AeE AeC AeB AeA Afa AfZ AfY AWb AWa AWZ AWX AWW AWV AOW AOV AOU ARE ARD ARC AWT AWS AWR AWP AWO AWN ARA AQ' AQ_ AWL AWK AWJ Aed Aec Aeb AXc AXb AXa AVc AVb AVa AQo AQn AQm AQs AQr AQq AVU AVT AVS AVY AVX AVW AVQ AVP AVO AVk AVj AVi AVJ AVI AVH AVF AVE AVD AVC AVB AVA AND ANC ANB AOe AOd AOc AOM AOL AOK AOR AOT AOO AOP AOQ AQj AQi AU_ AU9 AU8 AU5 AU7 AU2 AU3 AU4 AOJ AOI AOH AQh AQg AQf AOF AOE AOD AQZ AQY AQX AQd AQc AQb AUz AU1 AUw AUx AUy AVN AVM AVL AeN AeM AeL Ae9 Ae_ Ae6 Ae7 Ae8 AMc AMb AMa AAl qU AAj kp AK7 AfX AfW AfV Adp Ado Adn Afv Afu Aft AT2 AT1 AT0 Adl Adk Adj Adg Adi Add Ade Adf AfT AfS AfR Agz Agy Agx AV7 AV6 AV5 ATa ATZ ATY APj APi APh ATW ATV ATU AeR AeQ AeP ATS ATR ATQ AdW AdV ATO ATN ATM AdU AdT AfQ AfP Agw Agv Agt Ags Agr Als Alr Afn Afm Afl Afe Afg Afb Afc Afd Afj Afi Afh Ag7 Ag6 Ag5 Agl Agk Agj Age Agd ANV ANU ANT AR0 ARz ARy ANP ANO ANN ANL ANK ANJ AOx AOw AOv AOt AOs AOr AR3 AR2 AR1 AOp AOo AOn ARs ARr ARq AOl AOk AOj AOh AOg AOf ARo ARn ARm ANS ANR ANQ AO1 AO0 AOz AR' AR_ AR9 AR7 AR6 AR5 AXZ AXY AXX AXW AXU AXT AXS AXR AXQ ARw ARv ARu AXP AXO AXM AXN AXK AXL AXI AXH AXG AXE AXD AXC Ae3 Ae5 Ae0 Ae1 Ae2 AgV AgU AgT AgN AgM AgL Aev Aeu Aet Aer Aeq Aep AgJ AgI AgH Alj Ali Agp Ago Agn Ale Ald Alc AhA Ag' Alo Alq Alk Alm Aln Ag3 Ag2 Ag1 AgF AgE AgD AV3 AV2 AV1 AWH AWG AWF AWD AWC AWB AV' AV_ AV9 AVz AVy AVx AQ4 AQ3 AQ2 AVv AVu AVt AVr AVq AVp AeZ AeY AeX Af3 Af2 Af1 Alh Alg Afr Afq Afp Ala AlZ AlY AhK AhJ AhH AhG AhF AhD AhC AhB Ag_ Ag9 Alu Alt
end Go.AI
