/- Closed facts about the program's types. Printed by fa.py. -/
import Derived.Test.YtdgagjhjpffeaaaGreatDoorProg
import Derived.Test.YtdgagjhjpffeaaaGreatDoorMj
import Derived.KernelRfl
set_option linter.unusedSimpArgs false
set_option linter.unusedVariables false
namespace Go.AI
open Go.Proofs
@[go_sem] theorem cellsOf3 : Tryz.prog.cellsOf 3 = 1:=by kernel_rfl
@[go_sem] theorem bytesOf3 : Tryz.prog.bytesOf 3 = 8:=by kernel_rfl
@[go_sem] theorem ldk3 : ldk Tryz.prog 3 = some none:=by kernel_rfl
@[go_sem] theorem und3 : Tryz.prog.underlying 3 = some (.int .i64):=by kernel_rfl
@[go_sem] theorem zeroOk3 : zeroOk Tryz.prog 3 = true:=by kernel_rfl
@[go_sem] theorem info3 : (Tryz.prog.info? 3).isSome = true:=by kernel_rfl
@[go_sem] theorem zeroAV3 : zeroAV Tryz.prog 3 = some (.int .i64 0):=by kernel_rfl
@[go_sem] theorem isBool4 : isBool Tryz.prog 4 = true:=by kernel_rfl
@[go_sem] theorem und5 : Tryz.prog.underlying 5 = some (.int .u8):=by kernel_rfl
@[go_sem] theorem cellsOf9 : Tryz.prog.cellsOf 9 = 1:=by kernel_rfl
@[go_sem] theorem bytesOf9 : Tryz.prog.bytesOf 9 = 16:=by kernel_rfl
@[go_sem] theorem ldk9 : ldk Tryz.prog 9 = some none:=by kernel_rfl
@[go_sem] theorem und9 : Tryz.prog.underlying 9 = some .string:=by kernel_rfl
@[go_sem] theorem zeroOk9 : zeroOk Tryz.prog 9 = true:=by kernel_rfl
@[go_sem] theorem cellsOf22 : Tryz.prog.cellsOf 22 = 1:=by kernel_rfl
@[go_sem] theorem ldk22 : ldk Tryz.prog 22 = some none:=by kernel_rfl
@[go_sem] theorem und22 : Tryz.prog.underlying 22 = some (.slice 171):=by kernel_rfl
@[go_sem] theorem cellsOf23 : Tryz.prog.cellsOf 23 = 1:=by kernel_rfl
@[go_sem] theorem ldk23 : ldk Tryz.prog 23 = some none:=by kernel_rfl
@[go_sem] theorem und23 : Tryz.prog.underlying 23 = some (.slice 173):=by kernel_rfl
@[go_sem] theorem cellsOf24 : Tryz.prog.cellsOf 24 = 1:=by kernel_rfl
@[go_sem] theorem ldk24 : ldk Tryz.prog 24 = some none:=by kernel_rfl
@[go_sem] theorem und24 : Tryz.prog.underlying 24 = some (.slice 176):=by kernel_rfl
@[go_sem] theorem cellsOf26 : Tryz.prog.cellsOf 26 = 3:=by kernel_rfl
@[go_sem] theorem ldk26 : ldk Tryz.prog 26 = some (some 3):=by kernel_rfl
@[go_sem] theorem fplace26_0 : fplace Tryz.prog 26 0 = some (22,0):=by kernel_rfl
@[go_sem] theorem fplace26_1 : fplace Tryz.prog 26 1 = some (23,1):=by kernel_rfl
@[go_sem] theorem fplace26_2 : fplace Tryz.prog 26 2 = some (24,2):=by kernel_rfl
@[go_sem] theorem cellsOf27 : Tryz.prog.cellsOf 27 = 1:=by kernel_rfl
@[go_sem] theorem ldk27 : ldk Tryz.prog 27 = some none:=by kernel_rfl
@[go_sem] theorem und27 : Tryz.prog.underlying 27 = some (.slice 145):=by kernel_rfl
@[go_sem] theorem cellsOf31 : Tryz.prog.cellsOf 31 = 6:=by kernel_rfl
@[go_sem] theorem ldk31 : ldk Tryz.prog 31 = some (some 6):=by kernel_rfl
@[go_sem] theorem fplace31_0 : fplace Tryz.prog 31 0 = some (26,0):=by kernel_rfl
@[go_sem] theorem fplace31_1 : fplace Tryz.prog 31 1 = some (27,3):=by kernel_rfl
@[go_sem] theorem cellsOf32 : Tryz.prog.cellsOf 32 = 1:=by kernel_rfl
@[go_sem] theorem ldk32 : ldk Tryz.prog 32 = some none:=by kernel_rfl
@[go_sem] theorem und32 : Tryz.prog.underlying 32 = some (.slice 114):=by kernel_rfl
@[go_sem] theorem cellsOf33 : Tryz.prog.cellsOf 33 = 1:=by kernel_rfl
@[go_sem] theorem ldk33 : ldk Tryz.prog 33 = some none:=by kernel_rfl
@[go_sem] theorem und33 : Tryz.prog.underlying 33 = some (.slice 88):=by kernel_rfl
@[go_sem] theorem cellsOf35 : Tryz.prog.cellsOf 35 = 1:=by kernel_rfl
@[go_sem] theorem ldk35 : ldk Tryz.prog 35 = some none:=by kernel_rfl
@[go_sem] theorem und35 : Tryz.prog.underlying 35 = some (.slice 63):=by kernel_rfl
@[go_sem] theorem cellsOf36 : Tryz.prog.cellsOf 36 = 1:=by kernel_rfl
@[go_sem] theorem ldk36 : ldk Tryz.prog 36 = some none:=by kernel_rfl
@[go_sem] theorem und36 : Tryz.prog.underlying 36 = some (.slice 101):=by kernel_rfl
@[go_sem] theorem cellsOf37 : Tryz.prog.cellsOf 37 = 1:=by kernel_rfl
@[go_sem] theorem ldk37 : ldk Tryz.prog 37 = some none:=by kernel_rfl
@[go_sem] theorem und37 : Tryz.prog.underlying 37 = some (.slice 107):=by kernel_rfl
@[go_sem] theorem cellsOf39 : Tryz.prog.cellsOf 39 = 6:=by kernel_rfl
@[go_sem] theorem ldk39 : ldk Tryz.prog 39 = some (some 6):=by kernel_rfl
@[go_sem] theorem fplace39_0 : fplace Tryz.prog 39 0 = some (9,0):=by kernel_rfl
@[go_sem] theorem fplace39_1 : fplace Tryz.prog 39 1 = some (32,1):=by kernel_rfl
@[go_sem] theorem fplace39_2 : fplace Tryz.prog 39 2 = some (33,2):=by kernel_rfl
@[go_sem] theorem fplace39_3 : fplace Tryz.prog 39 3 = some (35,3):=by kernel_rfl
@[go_sem] theorem fplace39_4 : fplace Tryz.prog 39 4 = some (36,4):=by kernel_rfl
@[go_sem] theorem fplace39_5 : fplace Tryz.prog 39 5 = some (37,5):=by kernel_rfl
@[go_sem] theorem cellsOf47 : Tryz.prog.cellsOf 47 = 10:=by kernel_rfl
@[go_sem] theorem bytesOf47 : Tryz.prog.bytesOf 47 = 80:=by kernel_rfl
@[go_sem] theorem ldk47 : ldk Tryz.prog 47 = some (some 10):=by kernel_rfl
@[go_sem] theorem und47 : Tryz.prog.underlying 47 = some (.array 10 3):=by kernel_rfl
@[go_sem] theorem zeroOk47 : zeroOk Tryz.prog 47 = true:=by kernel_rfl
@[go_sem] theorem info47 : (Tryz.prog.info? 47).isSome = true:=by kernel_rfl
@[go_sem] theorem bkind47 : bkind Tryz.prog 47 = .array 1:=by kernel_rfl
@[go_sem] theorem cellsOf53 : Tryz.prog.cellsOf 53 = 1:=by kernel_rfl
@[go_sem] theorem ldk53 : ldk Tryz.prog 53 = some none:=by kernel_rfl
@[go_sem] theorem und53 : Tryz.prog.underlying 53 = some (.slice 55):=by kernel_rfl
@[go_sem] theorem cellsOf55 : Tryz.prog.cellsOf 55 = 5:=by kernel_rfl
@[go_sem] theorem bytesOf55 : Tryz.prog.bytesOf 55 = 64:=by kernel_rfl
@[go_sem] theorem ldk55 : ldk Tryz.prog 55 = some (some 5):=by kernel_rfl
@[go_sem] theorem zeroOk55 : zeroOk Tryz.prog 55 = true:=by kernel_rfl
@[go_sem] theorem info55 : (Tryz.prog.info? 55).isSome = true:=by kernel_rfl
@[go_sem] theorem bkind55 : bkind Tryz.prog 55 = .struct [(0,1),(1,1),(2,1),(3,1),(4,1)]:=by kernel_rfl
@[go_sem] theorem fplace55_0 : fplace Tryz.prog 55 0 = some (3,0):=by kernel_rfl
@[go_sem] theorem fplace55_1 : fplace Tryz.prog 55 1 = some (9,1):=by kernel_rfl
@[go_sem] theorem fplace55_2 : fplace Tryz.prog 55 2 = some (3,2):=by kernel_rfl
@[go_sem] theorem fplace55_3 : fplace Tryz.prog 55 3 = some (3,3):=by kernel_rfl
@[go_sem] theorem fplace55_4 : fplace Tryz.prog 55 4 = some (53,4):=by kernel_rfl
@[go_sem] theorem cellsOf56 : Tryz.prog.cellsOf 56 = 1:=by kernel_rfl
@[go_sem] theorem ldk56 : ldk Tryz.prog 56 = some none:=by kernel_rfl
@[go_sem] theorem und56 : Tryz.prog.underlying 56 = some (.slice 58):=by kernel_rfl
@[go_sem] theorem cellsOf58 : Tryz.prog.cellsOf 58 = 9:=by kernel_rfl
@[go_sem] theorem bytesOf58 : Tryz.prog.bytesOf 58 = 120:=by kernel_rfl
@[go_sem] theorem ldk58 : ldk Tryz.prog 58 = some (some 9):=by kernel_rfl
@[go_sem] theorem zeroOk58 : zeroOk Tryz.prog 58 = true:=by kernel_rfl
@[go_sem] theorem info58 : (Tryz.prog.info? 58).isSome = true:=by kernel_rfl
@[go_sem] theorem bkind58 : bkind Tryz.prog 58 = .struct [(0,1),(1,5),(6,1),(7,1),(8,1)]:=by kernel_rfl
@[go_sem] theorem fplace58_0 : fplace Tryz.prog 58 0 = some (3,0):=by kernel_rfl
@[go_sem] theorem fplace58_1 : fplace Tryz.prog 58 1 = some (55,1):=by kernel_rfl
@[go_sem] theorem fplace58_2 : fplace Tryz.prog 58 2 = some (9,6):=by kernel_rfl
@[go_sem] theorem fplace58_3 : fplace Tryz.prog 58 3 = some (3,7):=by kernel_rfl
@[go_sem] theorem fplace58_4 : fplace Tryz.prog 58 4 = some (56,8):=by kernel_rfl
@[go_sem] theorem cellsOf59 : Tryz.prog.cellsOf 59 = 1:=by kernel_rfl
@[go_sem] theorem ldk59 : ldk Tryz.prog 59 = some none:=by kernel_rfl
@[go_sem] theorem und59 : Tryz.prog.underlying 59 = some (.slice 9):=by kernel_rfl
@[go_sem] theorem cellsOf61 : Tryz.prog.cellsOf 61 = 6:=by kernel_rfl
@[go_sem] theorem ldk61 : ldk Tryz.prog 61 = some (some 6):=by kernel_rfl
@[go_sem] theorem bkind61 : bkind Tryz.prog 61 = .struct [(0,1),(1,1),(2,1),(3,1),(4,1),(5,1)]:=by kernel_rfl
@[go_sem] theorem fplace61_0 : fplace Tryz.prog 61 0 = some (3,0):=by kernel_rfl
@[go_sem] theorem fplace61_1 : fplace Tryz.prog 61 1 = some (9,1):=by kernel_rfl
@[go_sem] theorem fplace61_2 : fplace Tryz.prog 61 2 = some (59,2):=by kernel_rfl
@[go_sem] theorem fplace61_3 : fplace Tryz.prog 61 3 = some (9,3):=by kernel_rfl
@[go_sem] theorem fplace61_4 : fplace Tryz.prog 61 4 = some (3,4):=by kernel_rfl
@[go_sem] theorem fplace61_5 : fplace Tryz.prog 61 5 = some (3,5):=by kernel_rfl
@[go_sem] theorem cellsOf63 : Tryz.prog.cellsOf 63 = 15:=by kernel_rfl
@[go_sem] theorem bytesOf63 : Tryz.prog.bytesOf 63 = 200:=by kernel_rfl
@[go_sem] theorem ldk63 : ldk Tryz.prog 63 = some (some 15):=by kernel_rfl
@[go_sem] theorem zeroOk63 : zeroOk Tryz.prog 63 = true:=by kernel_rfl
@[go_sem] theorem bkind63 : bkind Tryz.prog 63 = .struct [(0,9),(9,6)]:=by kernel_rfl
@[go_sem] theorem fplace63_0 : fplace Tryz.prog 63 0 = some (58,0):=by kernel_rfl
@[go_sem] theorem fplace63_1 : fplace Tryz.prog 63 1 = some (61,9):=by kernel_rfl
@[go_sem] theorem cellsOf78 : Tryz.prog.cellsOf 78 = 1:=by kernel_rfl
@[go_sem] theorem ldk78 : ldk Tryz.prog 78 = some none:=by kernel_rfl
@[go_sem] theorem und78 : Tryz.prog.underlying 78 = some (.slice 47):=by kernel_rfl
@[go_sem] theorem zeroAV78 : zeroAV Tryz.prog 78 = some (.sl (some 10) []):=by kernel_rfl
@[go_sem] theorem cellsOf88 : Tryz.prog.cellsOf 88 = 2:=by kernel_rfl
@[go_sem] theorem ldk88 : ldk Tryz.prog 88 = some (some 2):=by kernel_rfl
@[go_sem] theorem zeroOk88 : zeroOk Tryz.prog 88 = true:=by kernel_rfl
@[go_sem] theorem bkind88 : bkind Tryz.prog 88 = .struct [(0,1),(1,1)]:=by kernel_rfl
@[go_sem] theorem fplace88_0 : fplace Tryz.prog 88 0 = some (3,0):=by kernel_rfl
@[go_sem] theorem fplace88_1 : fplace Tryz.prog 88 1 = some (3,1):=by kernel_rfl
@[go_sem] theorem cellsOf97 : Tryz.prog.cellsOf 97 = 1:=by kernel_rfl
@[go_sem] theorem ldk97 : ldk Tryz.prog 97 = some none:=by kernel_rfl
@[go_sem] theorem und97 : Tryz.prog.underlying 97 = some (.slice 99):=by kernel_rfl
@[go_sem] theorem cellsOf99 : Tryz.prog.cellsOf 99 = 3:=by kernel_rfl
@[go_sem] theorem ldk99 : ldk Tryz.prog 99 = some (some 3):=by kernel_rfl
@[go_sem] theorem fplace99_0 : fplace Tryz.prog 99 0 = some (3,0):=by kernel_rfl
@[go_sem] theorem fplace99_1 : fplace Tryz.prog 99 1 = some (9,1):=by kernel_rfl
@[go_sem] theorem fplace99_2 : fplace Tryz.prog 99 2 = some (97,2):=by kernel_rfl
@[go_sem] theorem cellsOf101 : Tryz.prog.cellsOf 101 = 8:=by kernel_rfl
@[go_sem] theorem fplace101_0 : fplace Tryz.prog 101 0 = some (55,0):=by kernel_rfl
@[go_sem] theorem fplace101_1 : fplace Tryz.prog 101 1 = some (99,5):=by kernel_rfl
@[go_sem] theorem ldk102 : ldk Tryz.prog 102 = some none:=by kernel_rfl
@[go_sem] theorem cellsOf107 : Tryz.prog.cellsOf 107 = 4:=by kernel_rfl
@[go_sem] theorem ldk107 : ldk Tryz.prog 107 = some (some 4):=by kernel_rfl
@[go_sem] theorem fplace107_0 : fplace Tryz.prog 107 0 = some (3,0):=by kernel_rfl
@[go_sem] theorem fplace107_1 : fplace Tryz.prog 107 1 = some (3,1):=by kernel_rfl
@[go_sem] theorem fplace107_2 : fplace Tryz.prog 107 2 = some (3,2):=by kernel_rfl
@[go_sem] theorem fplace107_3 : fplace Tryz.prog 107 3 = some (3,3):=by kernel_rfl
@[go_sem] theorem cellsOf114 : Tryz.prog.cellsOf 114 = 2:=by kernel_rfl
@[go_sem] theorem ldk114 : ldk Tryz.prog 114 = some (some 2):=by kernel_rfl
@[go_sem] theorem fplace114_0 : fplace Tryz.prog 114 0 = some (9,0):=by kernel_rfl
@[go_sem] theorem fplace114_1 : fplace Tryz.prog 114 1 = some (3,1):=by kernel_rfl
@[go_sem] theorem und121 : Tryz.prog.underlying 121 = some (.slice 3):=by kernel_rfl
@[go_sem] theorem cellsOf141 : Tryz.prog.cellsOf 141 = 2:=by kernel_rfl
@[go_sem] theorem ldk141 : ldk Tryz.prog 141 = some (some 2):=by kernel_rfl
@[go_sem] theorem bkind141 : bkind Tryz.prog 141 = .struct [(0,1),(1,1)]:=by kernel_rfl
@[go_sem] theorem fplace141_0 : fplace Tryz.prog 141 0 = some (3,0):=by kernel_rfl
@[go_sem] theorem fplace141_1 : fplace Tryz.prog 141 1 = some (3,1):=by kernel_rfl
@[go_sem] theorem cellsOf145 : Tryz.prog.cellsOf 145 = 3:=by kernel_rfl
@[go_sem] theorem ldk145 : ldk Tryz.prog 145 = some (some 3):=by kernel_rfl
@[go_sem] theorem bkind145 : bkind Tryz.prog 145 = .struct [(0,1),(1,1),(2,1)]:=by kernel_rfl
@[go_sem] theorem fplace145_0 : fplace Tryz.prog 145 0 = some (9,0):=by kernel_rfl
@[go_sem] theorem fplace145_1 : fplace Tryz.prog 145 1 = some (3,1):=by kernel_rfl
@[go_sem] theorem fplace145_2 : fplace Tryz.prog 145 2 = some (3,2):=by kernel_rfl
@[go_sem] theorem cellsOf171 : Tryz.prog.cellsOf 171 = 4:=by kernel_rfl
@[go_sem] theorem ldk171 : ldk Tryz.prog 171 = some (some 4):=by kernel_rfl
@[go_sem] theorem fplace171_0 : fplace Tryz.prog 171 0 = some (9,0):=by kernel_rfl
@[go_sem] theorem fplace171_2 : fplace Tryz.prog 171 2 = some (3,2):=by kernel_rfl
@[go_sem] theorem fplace171_3 : fplace Tryz.prog 171 3 = some (3,3):=by kernel_rfl
@[go_sem] theorem cellsOf173 : Tryz.prog.cellsOf 173 = 3:=by kernel_rfl
@[go_sem] theorem ldk173 : ldk Tryz.prog 173 = some (some 3):=by kernel_rfl
@[go_sem] theorem fplace173_0 : fplace Tryz.prog 173 0 = some (3,0):=by kernel_rfl
@[go_sem] theorem fplace173_1 : fplace Tryz.prog 173 1 = some (3,1):=by kernel_rfl
@[go_sem] theorem fplace173_2 : fplace Tryz.prog 173 2 = some (3,2):=by kernel_rfl
@[go_sem] theorem cellsOf176 : Tryz.prog.cellsOf 176 = 2:=by kernel_rfl
@[go_sem] theorem fplace176_0 : fplace Tryz.prog 176 0 = some (9,0):=by kernel_rfl
@[go_sem] theorem fplace176_1 : fplace Tryz.prog 176 1 = some (3,1):=by kernel_rfl
theorem mixed : Tryz.prog.follows .mixedOrders = true:=by kernel_rfl
end Go.AI
set_option linter.defProp false
namespace Go.AI
open Go.Proofs
def h171 : Hint:=hm [28,16] [] [] []
@[go_sem] theorem h171_l : h171.lv 0 = [2,3,4] /\ h171.lv 1 = [4]:=by decide +kernel
@[go_sem] def h171_q:=hplain h171 rfl rfl rfl
@[go_sem] theorem h171_t : h171.tk = [] /\ h171.mt = [] /\ h171.pc = []:=⟨rfl,rfl,rfl⟩
theorem h171_k : FK Tryz.prog 171 Tryz.f171 h171:=⟨by kernel_rfl,by kernel_rfl,Tryz.func171,by kernel_rfl⟩
def h119 : Hint:=hm [6,14,30,1054,30,30,4] [] [] [19,20]
@[go_sem] theorem h119_l : h119.lv 0 = [1,2] /\ h119.lv 1 = [1,2,3] /\ h119.lv 2 = [1,2,3,4] /\ h119.lv 3 = [1,2,3,4,10] /\ h119.lv 4 = [1,2,3,4] /\ h119.lv 5 = [1,2,3,4] /\ h119.lv 6 = [2]:=by decide +kernel
@[go_sem] def h119_q:=hplain h119 rfl rfl rfl
@[go_sem] theorem h119_t : h119.tk = [] /\ h119.mt = [] /\ h119.pc = [19,20]:=⟨rfl,rfl,rfl⟩
theorem h119_k : FK Tryz.prog 119 Tryz.f119 h119:=⟨by kernel_rfl,by kernel_rfl,Tryz.func119,by kernel_rfl⟩
def h95 : Hint:=hm [6,14,270,14,30,262174,30,30,4] [] [] [12,13,27,28]
@[go_sem] theorem h95_l : h95.lv 0 = [1,2] /\ h95.lv 1 = [1,2,3] /\ h95.lv 2 = [1,2,3,8] /\ h95.lv 3 = [1,2,3] /\ h95.lv 4 = [1,2,3,4] /\ h95.lv 5 = [1,2,3,4,18] /\ h95.lv 6 = [1,2,3,4] /\ h95.lv 7 = [1,2,3,4] /\ h95.lv 8 = [2]:=by decide +kernel
@[go_sem] def h95_q:=hplain h95 rfl rfl rfl
@[go_sem] theorem h95_t : h95.tk = [] /\ h95.mt = [] /\ h95.pc = [12,13,27,28]:=⟨rfl,rfl,rfl⟩
theorem h95_k : FK Tryz.prog 95 Tryz.f95 h95:=⟨by kernel_rfl,by kernel_rfl,Tryz.func95,by kernel_rfl⟩
def h117 : Hint:=hm [2,10,24,4] [] [] [6,9]
@[go_sem] theorem h117_l : h117.lv 0 = [1] /\ h117.lv 1 = [1,3] /\ h117.lv 2 = [3,4] /\ h117.lv 3 = [2]:=by decide +kernel
@[go_sem] def h117_q:=hplain h117 rfl rfl rfl
@[go_sem] theorem h117_t : h117.tk = [] /\ h117.mt = [] /\ h117.pc = [6,9]:=⟨rfl,rfl,rfl⟩
theorem h117_k : FK Tryz.prog 117 Tryz.f117 h117:=⟨by kernel_rfl,by kernel_rfl,Tryz.func117,by kernel_rfl⟩
def h51 : Hint:=hm [1,9,4105,9,25,4294967305,4,4] [33] [] [20]
@[go_sem] theorem h51_l : h51.lv 0 = [0] /\ h51.lv 1 = [0,3] /\ h51.lv 2 = [0,3,12] /\ h51.lv 3 = [0,3] /\ h51.lv 4 = [0,3,4] /\ h51.lv 5 = [0,3,32] /\ h51.lv 6 = [2] /\ h51.lv 7 = [2]:=by decide +kernel
@[go_sem] def h51_q:=hplain h51 rfl rfl rfl
@[go_sem] theorem h51_t : h51.tk = [33] /\ h51.mt = [] /\ h51.pc = [20]:=⟨rfl,rfl,rfl⟩
theorem h51_k : FK Tryz.prog 51 Tryz.f51 h51:=⟨by kernel_rfl,by kernel_rfl,Tryz.func51,by kernel_rfl⟩
def h52 : Hint:=hm [2,10,26,538,26,26,4194312,8,4] [] [] [18]
@[go_sem] theorem h52_l : h52.lv 0 = [1] /\ h52.lv 1 = [1,3] /\ h52.lv 2 = [1,3,4] /\ h52.lv 3 = [1,3,4,9] /\ h52.lv 4 = [1,3,4] /\ h52.lv 5 = [1,3,4] /\ h52.lv 6 = [3,22] /\ h52.lv 7 = [3] /\ h52.lv 8 = [2]:=by decide +kernel
@[go_sem] def h52_q:=hplain h52 rfl rfl rfl
@[go_sem] theorem h52_t : h52.tk = [] /\ h52.mt = [] /\ h52.pc = [18]:=⟨rfl,rfl,rfl⟩
theorem h52_k : FK Tryz.prog 52 Tryz.f52 h52:=⟨by kernel_rfl,by kernel_rfl,Tryz.func52,by kernel_rfl⟩
def h118 : Hint:=hm [2,10,26,538,26,26,4194312,8,4] [] [] [18]
@[go_sem] theorem h118_l : h118.lv 0 = [1] /\ h118.lv 1 = [1,3] /\ h118.lv 2 = [1,3,4] /\ h118.lv 3 = [1,3,4,9] /\ h118.lv 4 = [1,3,4] /\ h118.lv 5 = [1,3,4] /\ h118.lv 6 = [3,22] /\ h118.lv 7 = [3] /\ h118.lv 8 = [2]:=by decide +kernel
@[go_sem] def h118_q:=hplain h118 rfl rfl rfl
@[go_sem] theorem h118_t : h118.tk = [] /\ h118.mt = [] /\ h118.pc = [18]:=⟨rfl,rfl,rfl⟩
theorem h118_k : FK Tryz.prog 118 Tryz.f118 h118:=⟨by kernel_rfl,by kernel_rfl,Tryz.func118,by kernel_rfl⟩
def h53 : Hint:=hm [2,10,24,4] [] [] [6,8]
@[go_sem] theorem h53_l : h53.lv 0 = [1] /\ h53.lv 1 = [1,3] /\ h53.lv 2 = [3,4] /\ h53.lv 3 = [2]:=by decide +kernel
@[go_sem] def h53_q:=hplain h53 rfl rfl rfl
@[go_sem] theorem h53_t : h53.tk = [] /\ h53.mt = [] /\ h53.pc = [6,8]:=⟨rfl,rfl,rfl⟩
theorem h53_k : FK Tryz.prog 53 Tryz.f53 h53:=⟨by kernel_rfl,by kernel_rfl,Tryz.func53,by kernel_rfl⟩
def h54 : Hint:=hm [2,8,4] [] [] [5]
@[go_sem] theorem h54_l : h54.lv 0 = [1] /\ h54.lv 1 = [3] /\ h54.lv 2 = [2]:=by decide +kernel
@[go_sem] def h54_q:=hplain h54 rfl rfl rfl
@[go_sem] theorem h54_t : h54.tk = [] /\ h54.mt = [] /\ h54.pc = [5]:=⟨rfl,rfl,rfl⟩
theorem h54_k : FK Tryz.prog 54 Tryz.f54 h54:=⟨by kernel_rfl,by kernel_rfl,Tryz.func54,by kernel_rfl⟩
def h120 : Hint:=hm [6,14,30,1054,30,30,4] [] [] [19,20]
@[go_sem] theorem h120_l : h120.lv 0 = [1,2] /\ h120.lv 1 = [1,2,3] /\ h120.lv 2 = [1,2,3,4] /\ h120.lv 3 = [1,2,3,4,10] /\ h120.lv 4 = [1,2,3,4] /\ h120.lv 5 = [1,2,3,4] /\ h120.lv 6 = [2]:=by decide +kernel
@[go_sem] def h120_q:=hplain h120 rfl rfl rfl
@[go_sem] theorem h120_t : h120.tk = [] /\ h120.mt = [] /\ h120.pc = [19,20]:=⟨rfl,rfl,rfl⟩
theorem h120_k : FK Tryz.prog 120 Tryz.f120 h120:=⟨by kernel_rfl,by kernel_rfl,Tryz.func120,by kernel_rfl⟩
def h55 : Hint:=hm [2,8,4] [] [] [5]
@[go_sem] theorem h55_l : h55.lv 0 = [1] /\ h55.lv 1 = [3] /\ h55.lv 2 = [2]:=by decide +kernel
@[go_sem] def h55_q:=hplain h55 rfl rfl rfl
@[go_sem] theorem h55_t : h55.tk = [] /\ h55.mt = [] /\ h55.pc = [5]:=⟨rfl,rfl,rfl⟩
theorem h55_k : FK Tryz.prog 55 Tryz.f55 h55:=⟨by kernel_rfl,by kernel_rfl,Tryz.func55,by kernel_rfl⟩
def h11 : Hint:=hm [2,10,68719476738,4,18,2199023255570,18,0x2000000000000012,4,34,0x40000000000000022,34,98,226,0x10000000000000000000022,4,4] [] [] [10,50,59,75,82]
@[go_sem] theorem h11_l : h11.lv 0 = [1] /\ h11.lv 1 = [1,3] /\ h11.lv 2 = [1,36] /\ h11.lv 3 = [2] /\ h11.lv 4 = [1,4] /\ h11.lv 5 = [1,4,41] /\ h11.lv 6 = [1,4] /\ h11.lv 7 = [1,4,61] /\ h11.lv 8 = [2] /\ h11.lv 9 = [1,5] /\ h11.lv 10 = [1,5,66] /\ h11.lv 11 = [1,5] /\ h11.lv 12 = [1,5,6] /\ h11.lv 13 = [1,5,6,7] /\ h11.lv 14 = [1,5,88] /\ h11.lv 15 = [2] /\ h11.lv 16 = [2]:=by decide +kernel
@[go_sem] def h11_q:=hplain h11 rfl rfl rfl
@[go_sem] theorem h11_t : h11.tk = [] /\ h11.mt = [] /\ h11.pc = [10,50,59,75,82]:=⟨rfl,rfl,rfl⟩
theorem h11_k : FK Tryz.prog 11 Tryz.f11 h11:=⟨by kernel_rfl,by kernel_rfl,Tryz.func11,by kernel_rfl⟩
def h114 : Hint:=hm [1,9,521,9,25,57,0x800000000009,4,4] [] [] []
@[go_sem] theorem h114_l : h114.lv 0 = [0] /\ h114.lv 1 = [0,3] /\ h114.lv 2 = [0,3,9] /\ h114.lv 3 = [0,3] /\ h114.lv 4 = [0,3,4] /\ h114.lv 5 = [0,3,4,5] /\ h114.lv 6 = [0,3,47] /\ h114.lv 7 = [2] /\ h114.lv 8 = [2]:=by decide +kernel
@[go_sem] def h114_q:=hplain h114 rfl rfl rfl
@[go_sem] theorem h114_t : h114.tk = [] /\ h114.mt = [] /\ h114.pc = []:=⟨rfl,rfl,rfl⟩
theorem h114_k : FK Tryz.prog 114 Tryz.f114 h114:=⟨by kernel_rfl,by kernel_rfl,Tryz.func114,by kernel_rfl⟩
def h72 : Hint:=hm [6,16] [] [] []
@[go_sem] theorem h72_l : h72.lv 0 = [1,2] /\ h72.lv 1 = [4]:=by decide +kernel
@[go_sem] def h72_q:=hplain h72 rfl rfl rfl
@[go_sem] theorem h72_t : h72.tk = [] /\ h72.mt = [] /\ h72.pc = []:=⟨rfl,rfl,rfl⟩
theorem h72_k : FK Tryz.prog 72 Tryz.f72 h72:=⟨by kernel_rfl,by kernel_rfl,Tryz.func72,by kernel_rfl⟩
def h145 : Hint:=hm [6,16] [] [] [7]
@[go_sem] theorem h145_l : h145.lv 0 = [1,2] /\ h145.lv 1 = [4]:=by decide +kernel
@[go_sem] def h145_q:=hplain h145 rfl rfl rfl
@[go_sem] theorem h145_t : h145.tk = [] /\ h145.mt = [] /\ h145.pc = [7]:=⟨rfl,rfl,rfl⟩
theorem h145_k : FK Tryz.prog 145 Tryz.f145 h145:=⟨by kernel_rfl,by kernel_rfl,Tryz.func145,by kernel_rfl⟩
def h65 : Hint:=hm [12,44,262156,16,76,8388684,76,204,17179869260,16,332,137438953804,332,4503599627370828,16,524,0x20000000000020c,524,1548,0x800000000000000060c,16,3596,0x40000000000000000e0c,3596,0x100000000000000000000e0c,16,4104,0x2000000000000000000001008,4104,0x800000000000000000000000001008,16,12296,0x4000000000000000000000000003008,12296,0x20000000000000000000000000000003008,16,16] [] [] [16,32,107,117]
@[go_sem] theorem h65_l : h65.lv 0 = [2,3] /\ h65.lv 1 = [2,3,5] /\ h65.lv 2 = [2,3,18] /\ h65.lv 3 = [4] /\ h65.lv 4 = [2,3,6] /\ h65.lv 5 = [2,3,6,23] /\ h65.lv 6 = [2,3,6] /\ h65.lv 7 = [2,3,6,7] /\ h65.lv 8 = [2,3,6,34] /\ h65.lv 9 = [4] /\ h65.lv 10 = [2,3,6,8] /\ h65.lv 11 = [2,3,6,8,37] /\ h65.lv 12 = [2,3,6,8] /\ h65.lv 13 = [2,3,6,8,52] /\ h65.lv 14 = [4] /\ h65.lv 15 = [2,3,9] /\ h65.lv 16 = [2,3,9,57] /\ h65.lv 17 = [2,3,9] /\ h65.lv 18 = [2,3,9,10] /\ h65.lv 19 = [2,3,9,10,75] /\ h65.lv 20 = [4] /\ h65.lv 21 = [2,3,9,10,11] /\ h65.lv 22 = [2,3,9,10,11,78] /\ h65.lv 23 = [2,3,9,10,11] /\ h65.lv 24 = [2,3,9,10,11,92] /\ h65.lv 25 = [4] /\ h65.lv 26 = [3,12] /\ h65.lv 27 = [3,12,97] /\ h65.lv 28 = [3,12] /\ h65.lv 29 = [3,12,119] /\ h65.lv 30 = [4] /\ h65.lv 31 = [3,12,13] /\ h65.lv 32 = [3,12,13,122] /\ h65.lv 33 = [3,12,13] /\ h65.lv 34 = [3,12,13,137] /\ h65.lv 35 = [4] /\ h65.lv 36 = [4]:=by decide +kernel
@[go_sem] def h65_q:=hplain h65 rfl rfl rfl
@[go_sem] theorem h65_t : h65.tk = [] /\ h65.mt = [] /\ h65.pc = [16,32,107,117]:=⟨rfl,rfl,rfl⟩
theorem h65_k : FK Tryz.prog 65 Tryz.f65 h65:=⟨by kernel_rfl,by kernel_rfl,Tryz.func65,by kernel_rfl⟩
def h170 : Hint:=hm [2,1024,4,4] [] [] []
@[go_sem] theorem h170_l : h170.lv 0 = [1] /\ h170.lv 1 = [10] /\ h170.lv 2 = [2] /\ h170.lv 3 = [2]:=by decide +kernel
@[go_sem] def h170_q:=hplain h170 rfl rfl rfl
@[go_sem] theorem h170_t : h170.tk = [] /\ h170.mt = [] /\ h170.pc = []:=⟨rfl,rfl,rfl⟩
theorem h170_k : FK Tryz.prog 170 Tryz.f170 h170:=⟨by kernel_rfl,by kernel_rfl,Tryz.func170,by kernel_rfl⟩
def h94 : Hint:=hm [6,34,8224,16,16] [] [] [7]
@[go_sem] theorem h94_l : h94.lv 0 = [1,2] /\ h94.lv 1 = [1,5] /\ h94.lv 2 = [5,13] /\ h94.lv 3 = [4] /\ h94.lv 4 = [4]:=by decide +kernel
@[go_sem] def h94_q:=hplain h94 rfl rfl rfl
@[go_sem] theorem h94_t : h94.tk = [] /\ h94.mt = [] /\ h94.pc = [7]:=⟨rfl,rfl,rfl⟩
theorem h94_k : FK Tryz.prog 94 Tryz.f94 h94:=⟨by kernel_rfl,by kernel_rfl,Tryz.func94,by kernel_rfl⟩
def h29 : Hint:=hm [12,2199023255564,16,44,70368744177708,44,108,0x200000000000002c,16,16] [] [] [59]
@[go_sem] theorem h29_l : h29.lv 0 = [2,3] /\ h29.lv 1 = [2,3,41] /\ h29.lv 2 = [4] /\ h29.lv 3 = [2,3,5] /\ h29.lv 4 = [2,3,5,46] /\ h29.lv 5 = [2,3,5] /\ h29.lv 6 = [2,3,5,6] /\ h29.lv 7 = [2,3,5,61] /\ h29.lv 8 = [4] /\ h29.lv 9 = [4]:=by decide +kernel
@[go_sem] def h29_q:=hplain h29 rfl rfl rfl
@[go_sem] theorem h29_t : h29.tk = [] /\ h29.mt = [] /\ h29.pc = [59]:=⟨rfl,rfl,rfl⟩
theorem h29_k : FK Tryz.prog 29 Tryz.f29 h29:=⟨by kernel_rfl,by kernel_rfl,Tryz.func29,by kernel_rfl⟩
def h292 : Hint:=hm [1,4] [] [] []
@[go_sem] theorem h292_l : h292.lv 0 = [0] /\ h292.lv 1 = [2]:=by decide +kernel
@[go_sem] def h292_q:=hplain h292 rfl rfl rfl
@[go_sem] theorem h292_t : h292.tk = [] /\ h292.mt = [] /\ h292.pc = []:=⟨rfl,rfl,rfl⟩
theorem h292_k : FK Tryz.prog 292 Tryz.f292 h292:=⟨by kernel_rfl,by kernel_rfl,Tryz.func292,by kernel_rfl⟩
def h293 : Hint:=hm [1,9,25,537,25,131097,4,4] [] [] [5]
@[go_sem] theorem h293_l : h293.lv 0 = [0] /\ h293.lv 1 = [0,3] /\ h293.lv 2 = [0,3,4] /\ h293.lv 3 = [0,3,4,9] /\ h293.lv 4 = [0,3,4] /\ h293.lv 5 = [0,3,4,17] /\ h293.lv 6 = [2] /\ h293.lv 7 = [2]:=by decide +kernel
@[go_sem] def h293_q:=hplain h293 rfl rfl rfl
@[go_sem] theorem h293_t : h293.tk = [] /\ h293.mt = [] /\ h293.pc = [5]:=⟨rfl,rfl,rfl⟩
theorem h293_k : FK Tryz.prog 293 Tryz.f293 h293:=⟨by kernel_rfl,by kernel_rfl,Tryz.func293,by kernel_rfl⟩
def h326 : Hint:=hm [1,4] [] [] []
@[go_sem] theorem h326_l : h326.lv 0 = [0] /\ h326.lv 1 = [2]:=by decide +kernel
@[go_sem] def h326_q:=hplain h326 rfl rfl rfl
@[go_sem] theorem h326_t : h326.tk = [] /\ h326.mt = [] /\ h326.pc = []:=⟨rfl,rfl,rfl⟩
theorem h326_k : FK Tryz.prog 326 Tryz.f326 h326:=⟨by kernel_rfl,by kernel_rfl,Tryz.func326,by kernel_rfl⟩
def h319 : Hint:=hm [1,9,25,4] [] [] [6,8]
@[go_sem] theorem h319_l : h319.lv 0 = [0] /\ h319.lv 1 = [0,3] /\ h319.lv 2 = [0,3,4] /\ h319.lv 3 = [2]:=by decide +kernel
@[go_sem] def h319_q:=hplain h319 rfl rfl rfl
@[go_sem] theorem h319_t : h319.tk = [] /\ h319.mt = [] /\ h319.pc = [6,8]:=⟨rfl,rfl,rfl⟩
theorem h319_k : FK Tryz.prog 319 Tryz.f319 h319:=⟨by kernel_rfl,by kernel_rfl,Tryz.func319,by kernel_rfl⟩
def h294 : Hint:=hm [1,9,265,25,16393,9,4] [] [] [12]
@[go_sem] theorem h294_l : h294.lv 0 = [0] /\ h294.lv 1 = [0,3] /\ h294.lv 2 = [0,3,8] /\ h294.lv 3 = [0,3,4] /\ h294.lv 4 = [0,3,14] /\ h294.lv 5 = [0,3] /\ h294.lv 6 = [2]:=by decide +kernel
@[go_sem] def h294_q:=hplain h294 rfl rfl rfl
@[go_sem] theorem h294_t : h294.tk = [] /\ h294.mt = [] /\ h294.pc = [12]:=⟨rfl,rfl,rfl⟩
theorem h294_k : FK Tryz.prog 294 Tryz.f294 h294:=⟨by kernel_rfl,by kernel_rfl,Tryz.func294,by kernel_rfl⟩
def h259 : Hint:=hm [1,4097,4,9,25,4] [] [] [15,17,21]
@[go_sem] theorem h259_l : h259.lv 0 = [0] /\ h259.lv 1 = [0,12] /\ h259.lv 2 = [2] /\ h259.lv 3 = [0,3] /\ h259.lv 4 = [0,3,4] /\ h259.lv 5 = [2]:=by decide +kernel
@[go_sem] def h259_q:=hplain h259 rfl rfl rfl
@[go_sem] theorem h259_t : h259.tk = [] /\ h259.mt = [] /\ h259.pc = [15,17,21]:=⟨rfl,rfl,rfl⟩
theorem h259_k : FK Tryz.prog 259 Tryz.f259 h259:=⟨by kernel_rfl,by kernel_rfl,Tryz.func259,by kernel_rfl⟩
def h217 : Hint:=hm [1,4] [] [] [4]
@[go_sem] theorem h217_l : h217.lv 0 = [0] /\ h217.lv 1 = [2]:=by decide +kernel
@[go_sem] def h217_q:=hplain h217 rfl rfl rfl
@[go_sem] theorem h217_t : h217.tk = [] /\ h217.mt = [] /\ h217.pc = [4]:=⟨rfl,rfl,rfl⟩
theorem h217_k : FK Tryz.prog 217 Tryz.f217 h217:=⟨by kernel_rfl,by kernel_rfl,Tryz.func217,by kernel_rfl⟩
def h172 : Hint:=hm [1,9,4] [] [] [5]
@[go_sem] theorem h172_l : h172.lv 0 = [0] /\ h172.lv 1 = [0,3] /\ h172.lv 2 = [2]:=by decide +kernel
@[go_sem] def h172_q:=hplain h172 rfl rfl rfl
@[go_sem] theorem h172_t : h172.tk = [] /\ h172.mt = [] /\ h172.pc = [5]:=⟨rfl,rfl,rfl⟩
theorem h172_k : FK Tryz.prog 172 Tryz.f172 h172:=⟨by kernel_rfl,by kernel_rfl,Tryz.func172,by kernel_rfl⟩
def h173 : Hint:=hm [2,10,26,58,122,250,34359738618,103079215354,103079215354,194,1133871366394,194,0x80008000000fa,194,0x800000008000000ea,194,0x80000000000008000000e2,130,194,0x400000000000008000000e2,0x400000000000008000000e2,130,194,0x4000000000000000000000c2,194,0x10000000000000000000000000000042,4,322,0x80000000000000000000000000000142,322,834,0x20000000000000000000000000000000142,4,4] [] [] [12,135]
@[go_sem] theorem h173_l : h173.lv 0 = [1] /\ h173.lv 1 = [1,3] /\ h173.lv 2 = [1,3,4] /\ h173.lv 3 = [1,3,4,5] /\ h173.lv 4 = [1,3,4,5,6] /\ h173.lv 5 = [1,3,4,5,6,7] /\ h173.lv 6 = [1,3,4,5,6,7,35] /\ h173.lv 7 = [1,3,4,5,6,7,35,36] /\ h173.lv 8 = [1,3,4,5,6,7,35,36] /\ h173.lv 9 = [1,6,7] /\ h173.lv 10 = [1,3,4,5,6,7,35,40] /\ h173.lv 11 = [1,6,7] /\ h173.lv 12 = [1,3,4,5,6,7,35,51] /\ h173.lv 13 = [1,6,7] /\ h173.lv 14 = [1,3,5,6,7,35,67] /\ h173.lv 15 = [1,6,7] /\ h173.lv 16 = [1,5,6,7,35,87] /\ h173.lv 17 = [1,7] /\ h173.lv 18 = [1,6,7] /\ h173.lv 19 = [1,5,6,7,35,90] /\ h173.lv 20 = [1,5,6,7,35,90] /\ h173.lv 21 = [1,7] /\ h173.lv 22 = [1,6,7] /\ h173.lv 23 = [1,6,7,94] /\ h173.lv 24 = [1,6,7] /\ h173.lv 25 = [1,6,124] /\ h173.lv 26 = [2] /\ h173.lv 27 = [1,6,8] /\ h173.lv 28 = [1,6,8,127] /\ h173.lv 29 = [1,6,8] /\ h173.lv 30 = [1,6,8,9] /\ h173.lv 31 = [1,6,8,137] /\ h173.lv 32 = [2] /\ h173.lv 33 = [2]:=by decide +kernel
@[go_sem] def h173_q:=hplain h173 rfl rfl rfl
@[go_sem] theorem h173_t : h173.tk = [] /\ h173.mt = [] /\ h173.pc = [12,135]:=⟨rfl,rfl,rfl⟩
theorem h173_k : FK Tryz.prog 173 Tryz.f173 h173:=⟨by kernel_rfl,by kernel_rfl,Tryz.func173,by kernel_rfl⟩
def h96 : Hint:=hm [2,10,26,58,122,250,67109114,201326842,194,34426847482,194,0x80000040000f2,0x80000040000f2,130,194,0x4000000000000f2,130,194,0x1000000000000000042,4,322,0x8000000000000000142,322,834,0x2000000000000000000142,4,4] [] [] [12,16,31,83]
@[go_sem] theorem h96_l : h96.lv 0 = [1] /\ h96.lv 1 = [1,3] /\ h96.lv 2 = [1,3,4] /\ h96.lv 3 = [1,3,4,5] /\ h96.lv 4 = [1,3,4,5,6] /\ h96.lv 5 = [1,3,4,5,6,7] /\ h96.lv 6 = [1,3,4,5,6,7,26] /\ h96.lv 7 = [1,3,4,5,6,7,26,27] /\ h96.lv 8 = [1,6,7] /\ h96.lv 9 = [1,3,4,5,6,7,26,35] /\ h96.lv 10 = [1,6,7] /\ h96.lv 11 = [1,4,5,6,7,26,51] /\ h96.lv 12 = [1,4,5,6,7,26,51] /\ h96.lv 13 = [1,7] /\ h96.lv 14 = [1,6,7] /\ h96.lv 15 = [1,4,5,6,7,58] /\ h96.lv 16 = [1,7] /\ h96.lv 17 = [1,6,7] /\ h96.lv 18 = [1,6,72] /\ h96.lv 19 = [2] /\ h96.lv 20 = [1,6,8] /\ h96.lv 21 = [1,6,8,75] /\ h96.lv 22 = [1,6,8] /\ h96.lv 23 = [1,6,8,9] /\ h96.lv 24 = [1,6,8,85] /\ h96.lv 25 = [2] /\ h96.lv 26 = [2]:=by decide +kernel
@[go_sem] def h96_q:=hplain h96 rfl rfl rfl
@[go_sem] theorem h96_t : h96.tk = [] /\ h96.mt = [] /\ h96.pc = [12,16,31,83]:=⟨rfl,rfl,rfl⟩
theorem h96_k : FK Tryz.prog 96 Tryz.f96 h96:=⟨by kernel_rfl,by kernel_rfl,Tryz.func96,by kernel_rfl⟩
def h41 : Hint:=hm [2,4] [] [] [4,6,7]
@[go_sem] theorem h41_l : h41.lv 0 = [1] /\ h41.lv 1 = [2]:=by decide +kernel
@[go_sem] def h41_q:=hplain h41 rfl rfl rfl
@[go_sem] theorem h41_t : h41.tk = [] /\ h41.mt = [] /\ h41.pc = [4,6,7]:=⟨rfl,rfl,rfl⟩
theorem h41_k : FK Tryz.prog 41 Tryz.f41 h41:=⟨by kernel_rfl,by kernel_rfl,Tryz.func41,by kernel_rfl⟩
def h38 : Hint:=hm [12,0x80000000000c,16,44,4503599627370540,44,0x2000000000000002c,16,16] [] [] []
@[go_sem] theorem h38_l : h38.lv 0 = [2,3] /\ h38.lv 1 = [2,3,47] /\ h38.lv 2 = [4] /\ h38.lv 3 = [2,3,5] /\ h38.lv 4 = [2,3,5,52] /\ h38.lv 5 = [2,3,5] /\ h38.lv 6 = [2,3,5,65] /\ h38.lv 7 = [4] /\ h38.lv 8 = [4]:=by decide +kernel
@[go_sem] def h38_q:=hplain h38 rfl rfl rfl
@[go_sem] theorem h38_t : h38.tk = [] /\ h38.mt = [] /\ h38.pc = []:=⟨rfl,rfl,rfl⟩
theorem h38_k : FK Tryz.prog 38 Tryz.f38 h38:=⟨by kernel_rfl,by kernel_rfl,Tryz.func38,by kernel_rfl⟩
def h291 : Hint:=hm [2,10,4098,4,18,536870914,4,34,17179869218,34,98,17592186044450,4,130,386,0x200000000000182,0x600000000000182,4,0x200200000000000182,4,0x20000200000000000182,4,0x2000000000200000000000182,4,0x200000000000000200000000000182,4,0x8000000000000000000000000000002,4,4] [] [] [11,15,42,47]
@[go_sem] theorem h291_l : h291.lv 0 = [1] /\ h291.lv 1 = [1,3] /\ h291.lv 2 = [1,12] /\ h291.lv 3 = [2] /\ h291.lv 4 = [1,4] /\ h291.lv 5 = [1,29] /\ h291.lv 6 = [2] /\ h291.lv 7 = [1,5] /\ h291.lv 8 = [1,5,34] /\ h291.lv 9 = [1,5] /\ h291.lv 10 = [1,5,6] /\ h291.lv 11 = [1,5,44] /\ h291.lv 12 = [2] /\ h291.lv 13 = [1,7] /\ h291.lv 14 = [1,7,8] /\ h291.lv 15 = [1,7,8,57] /\ h291.lv 16 = [1,7,8,57,58] /\ h291.lv 17 = [2] /\ h291.lv 18 = [1,7,8,57,69] /\ h291.lv 19 = [2] /\ h291.lv 20 = [1,7,8,57,77] /\ h291.lv 21 = [2] /\ h291.lv 22 = [1,7,8,57,97] /\ h291.lv 23 = [2] /\ h291.lv 24 = [1,7,8,57,117] /\ h291.lv 25 = [2] /\ h291.lv 26 = [1,123] /\ h291.lv 27 = [2] /\ h291.lv 28 = [2]:=by decide +kernel
@[go_sem] def h291_q:=hplain h291 rfl rfl rfl
@[go_sem] theorem h291_t : h291.tk = [] /\ h291.mt = [] /\ h291.pc = [11,15,42,47]:=⟨rfl,rfl,rfl⟩
theorem h291_k : FK Tryz.prog 291 Tryz.f291 h291:=⟨by kernel_rfl,by kernel_rfl,Tryz.func291,by kernel_rfl⟩
def h254 : Hint:=hm [2,8,128,4,4] [] [] [5]
@[go_sem] theorem h254_l : h254.lv 0 = [1] /\ h254.lv 1 = [3] /\ h254.lv 2 = [7] /\ h254.lv 3 = [2] /\ h254.lv 4 = [2]:=by decide +kernel
@[go_sem] def h254_q:=hplain h254 rfl rfl rfl
@[go_sem] theorem h254_t : h254.tk = [] /\ h254.mt = [] /\ h254.pc = [5]:=⟨rfl,rfl,rfl⟩
theorem h254_k : FK Tryz.prog 254 Tryz.f254 h254:=⟨by kernel_rfl,by kernel_rfl,Tryz.func254,by kernel_rfl⟩
def h209 : Hint:=hm [1,257,4,9,4105,9,25,4194329,4,41,2147483689,4,4] [] [] [20,29]
@[go_sem] theorem h209_l : h209.lv 0 = [0] /\ h209.lv 1 = [0,8] /\ h209.lv 2 = [2] /\ h209.lv 3 = [0,3] /\ h209.lv 4 = [0,3,12] /\ h209.lv 5 = [0,3] /\ h209.lv 6 = [0,3,4] /\ h209.lv 7 = [0,3,4,22] /\ h209.lv 8 = [2] /\ h209.lv 9 = [0,3,5] /\ h209.lv 10 = [0,3,5,31] /\ h209.lv 11 = [2] /\ h209.lv 12 = [2]:=by decide +kernel
@[go_sem] def h209_q:=hplain h209 rfl rfl rfl
@[go_sem] theorem h209_t : h209.tk = [] /\ h209.mt = [] /\ h209.pc = [20,29]:=⟨rfl,rfl,rfl⟩
theorem h209_k : FK Tryz.prog 209 Tryz.f209 h209:=⟨by kernel_rfl,by kernel_rfl,Tryz.func209,by kernel_rfl⟩
def h98 : Hint:=hm [19,275,48,83,8275,83,4194387,48,48] [23] [] [9]
@[go_sem] theorem h98_l : h98.lv 0 = [0,1,4] /\ h98.lv 1 = [0,1,4,8] /\ h98.lv 2 = [4,5] /\ h98.lv 3 = [0,1,4,6] /\ h98.lv 4 = [0,1,4,6,13] /\ h98.lv 5 = [0,1,4,6] /\ h98.lv 6 = [0,1,4,6,22] /\ h98.lv 7 = [4,5] /\ h98.lv 8 = [4,5]:=by decide +kernel
@[go_sem] def h98_q:=hplain h98 rfl rfl rfl
@[go_sem] theorem h98_t : h98.tk = [23] /\ h98.mt = [] /\ h98.pc = [9]:=⟨rfl,rfl,rfl⟩
theorem h98_k : FK Tryz.prog 98 Tryz.f98 h98:=⟨by kernel_rfl,by kernel_rfl,Tryz.func98,by kernel_rfl⟩
def h215 : Hint:=hm [2,10,26,2074,26,26,4] [14,22] [] [20]
@[go_sem] theorem h215_l : h215.lv 0 = [1] /\ h215.lv 1 = [1,3] /\ h215.lv 2 = [1,3,4] /\ h215.lv 3 = [1,3,4,11] /\ h215.lv 4 = [1,3,4] /\ h215.lv 5 = [1,3,4] /\ h215.lv 6 = [2]:=by decide +kernel
@[go_sem] def h215_q:=hplain h215 rfl rfl rfl
@[go_sem] theorem h215_t : h215.tk = [14,22] /\ h215.mt = [] /\ h215.pc = [20]:=⟨rfl,rfl,rfl⟩
theorem h215_k : FK Tryz.prog 215 Tryz.f215 h215:=⟨by kernel_rfl,by kernel_rfl,Tryz.func215,by kernel_rfl⟩
def h235 : Hint:=hm [1,9,25,153,25,25,4] [] [] []
@[go_sem] theorem h235_l : h235.lv 0 = [0] /\ h235.lv 1 = [0,3] /\ h235.lv 2 = [0,3,4] /\ h235.lv 3 = [0,3,4,7] /\ h235.lv 4 = [0,3,4] /\ h235.lv 5 = [0,3,4] /\ h235.lv 6 = [2]:=by decide +kernel
@[go_sem] def h235_q:=hplain h235 rfl rfl rfl
@[go_sem] theorem h235_t : h235.tk = [] /\ h235.mt = [] /\ h235.pc = []:=⟨rfl,rfl,rfl⟩
theorem h235_k : FK Tryz.prog 235 Tryz.f235 h235:=⟨by kernel_rfl,by kernel_rfl,Tryz.func235,by kernel_rfl⟩
def h255 : Hint:=hm [2,4] [] [] [5]
@[go_sem] theorem h255_l : h255.lv 0 = [1] /\ h255.lv 1 = [2]:=by decide +kernel
@[go_sem] def h255_q:=hplain h255 rfl rfl rfl
@[go_sem] theorem h255_t : h255.tk = [] /\ h255.mt = [] /\ h255.pc = [5]:=⟨rfl,rfl,rfl⟩
theorem h255_k : FK Tryz.prog 255 Tryz.f255 h255:=⟨by kernel_rfl,by kernel_rfl,Tryz.func255,by kernel_rfl⟩
def h216 : Hint:=hm [9,1048585,16,104,536870952,16,168,17179869352,168,4503599627370496,16,16] [22] [] [25,39]
@[go_sem] theorem h216_l : h216.lv 0 = [0,3] /\ h216.lv 1 = [0,3,20] /\ h216.lv 2 = [4] /\ h216.lv 3 = [3,5,6] /\ h216.lv 4 = [3,5,29] /\ h216.lv 5 = [4] /\ h216.lv 6 = [3,5,7] /\ h216.lv 7 = [3,5,7,34] /\ h216.lv 8 = [3,5,7] /\ h216.lv 9 = [52] /\ h216.lv 10 = [4] /\ h216.lv 11 = [4]:=by decide +kernel
@[go_sem] def h216_q:=hplain h216 rfl rfl rfl
@[go_sem] theorem h216_t : h216.tk = [22] /\ h216.mt = [] /\ h216.pc = [25,39]:=⟨rfl,rfl,rfl⟩
theorem h216_k : FK Tryz.prog 216 Tryz.f216 h216:=⟨by kernel_rfl,by kernel_rfl,Tryz.func216,by kernel_rfl⟩
def h150 : Hint:=hm [9,33,97,8289,97,225,8388833,16,16] [] [] [9,21]
@[go_sem] theorem h150_l : h150.lv 0 = [0,3] /\ h150.lv 1 = [0,5] /\ h150.lv 2 = [0,5,6] /\ h150.lv 3 = [0,5,6,13] /\ h150.lv 4 = [0,5,6] /\ h150.lv 5 = [0,5,6,7] /\ h150.lv 6 = [0,5,6,7,23] /\ h150.lv 7 = [4] /\ h150.lv 8 = [4]:=by decide +kernel
@[go_sem] def h150_q:=hplain h150 rfl rfl rfl
@[go_sem] theorem h150_t : h150.tk = [] /\ h150.mt = [] /\ h150.pc = [9,21]:=⟨rfl,rfl,rfl⟩
theorem h150_k : FK Tryz.prog 150 Tryz.f150 h150:=⟨by kernel_rfl,by kernel_rfl,Tryz.func150,by kernel_rfl⟩
def h213 : Hint:=hm [2,10,26,2074,26,26,4] [14,22] [] [20]
@[go_sem] theorem h213_l : h213.lv 0 = [1] /\ h213.lv 1 = [1,3] /\ h213.lv 2 = [1,3,4] /\ h213.lv 3 = [1,3,4,11] /\ h213.lv 4 = [1,3,4] /\ h213.lv 5 = [1,3,4] /\ h213.lv 6 = [2]:=by decide +kernel
@[go_sem] def h213_q:=hplain h213 rfl rfl rfl
@[go_sem] theorem h213_t : h213.tk = [14,22] /\ h213.mt = [] /\ h213.pc = [20]:=⟨rfl,rfl,rfl⟩
theorem h213_k : FK Tryz.prog 213 Tryz.f213 h213:=⟨by kernel_rfl,by kernel_rfl,Tryz.func213,by kernel_rfl⟩
def h210 : Hint:=hx [9,41,8233,16,97,225,1048801,225,268435681,225,2199023255777,993,9007199254741473,225,0x20000000000000e1,225,0x80000000000000e1,16,16] [] [] [] [11,16,35,49,60] [(7,1)] []
@[go_sem] theorem h210_l : h210.lv 0 = [0,3] /\ h210.lv 1 = [0,3,5] /\ h210.lv 2 = [0,3,5,13] /\ h210.lv 3 = [4] /\ h210.lv 4 = [0,5,6] /\ h210.lv 5 = [0,5,6,7] /\ h210.lv 6 = [0,5,6,7,20] /\ h210.lv 7 = [0,5,6,7] /\ h210.lv 8 = [0,5,6,7,28] /\ h210.lv 9 = [0,5,6,7] /\ h210.lv 10 = [0,5,6,7,41] /\ h210.lv 11 = [0,5,6,7,8,9] /\ h210.lv 12 = [0,5,6,7,8,53] /\ h210.lv 13 = [0,5,6,7] /\ h210.lv 14 = [0,5,6,7,61] /\ h210.lv 15 = [0,5,6,7] /\ h210.lv 16 = [0,5,6,7,63] /\ h210.lv 17 = [4] /\ h210.lv 18 = [4]:=by decide +kernel
@[go_sem] theorem h210_g : h210.ct 0 = none /\ h210.ct 1 = none /\ h210.ct 2 = none /\ h210.ct 3 = none /\ h210.ct 4 = none /\ h210.ct 5 = none /\ h210.ct 6 = none /\ h210.ct 7 = some 1 /\ h210.ct 8 = none /\ h210.ct 9 = none /\ h210.ct 10 = none /\ h210.ct 11 = none /\ h210.ct 12 = none /\ h210.ct 13 = none /\ h210.ct 14 = none /\ h210.ct 15 = none /\ h210.ct 16 = none /\ h210.ct 17 = none /\ h210.ct 18 = none:=by decide +kernel
@[go_sem] theorem h210_z (k : Nat) : h210.at k = []:=rfl
@[go_sem] theorem h210_y (k : Nat) : h210.dn k = false:=Eq.trans rfl rfl
@[go_sem] theorem h210_t : h210.tk = [] /\ h210.mt = [] /\ h210.pc = [11,16,35,49,60]:=⟨rfl,rfl,rfl⟩
theorem h210_k : FK Tryz.prog 210 Tryz.f210 h210:=⟨by kernel_rfl,by kernel_rfl,Tryz.func210,by kernel_rfl⟩
def h211 : Hint:=hx [9,41,4194345,16,73,1073741897,73,201,549755814089,201,713,4503599627370697,16,1033,0x200000000000409,1033,3081,0x4000000000000c09,3081,0x8000000000000000c09,16,4104,0x100000000000000000000000,16,16] [31,77] [] [] [15,48,80,90] [(9,1)] []
@[go_sem] theorem h211_l : h211.lv 0 = [0,3] /\ h211.lv 1 = [0,3,5] /\ h211.lv 2 = [0,3,5,22] /\ h211.lv 3 = [4] /\ h211.lv 4 = [0,3,6] /\ h211.lv 5 = [0,3,6,30] /\ h211.lv 6 = [0,3,6] /\ h211.lv 7 = [0,3,6,7] /\ h211.lv 8 = [0,3,6,7,39] /\ h211.lv 9 = [0,3,6,7] /\ h211.lv 10 = [0,3,6,7,9] /\ h211.lv 11 = [0,3,6,7,52] /\ h211.lv 12 = [4] /\ h211.lv 13 = [0,3,10] /\ h211.lv 14 = [0,3,10,57] /\ h211.lv 15 = [0,3,10] /\ h211.lv 16 = [0,3,10,11] /\ h211.lv 17 = [0,3,10,11,62] /\ h211.lv 18 = [0,3,10,11] /\ h211.lv 19 = [0,3,10,11,75] /\ h211.lv 20 = [4] /\ h211.lv 21 = [3,12] /\ h211.lv 22 = [92] /\ h211.lv 23 = [4] /\ h211.lv 24 = [4]:=by decide +kernel
@[go_sem] theorem h211_g : h211.ct 0 = none /\ h211.ct 1 = none /\ h211.ct 2 = none /\ h211.ct 3 = none /\ h211.ct 4 = none /\ h211.ct 5 = none /\ h211.ct 6 = none /\ h211.ct 7 = none /\ h211.ct 8 = none /\ h211.ct 9 = some 1 /\ h211.ct 10 = none /\ h211.ct 11 = none /\ h211.ct 12 = none /\ h211.ct 13 = none /\ h211.ct 14 = none /\ h211.ct 15 = none /\ h211.ct 16 = none /\ h211.ct 17 = none /\ h211.ct 18 = none /\ h211.ct 19 = none /\ h211.ct 20 = none /\ h211.ct 21 = none /\ h211.ct 22 = none /\ h211.ct 23 = none /\ h211.ct 24 = none:=by decide +kernel
@[go_sem] theorem h211_z (k : Nat) : h211.at k = []:=rfl
@[go_sem] theorem h211_y (k : Nat) : h211.dn k = false:=Eq.trans rfl rfl
@[go_sem] theorem h211_t : h211.tk = [31,77] /\ h211.mt = [] /\ h211.pc = [15,48,80,90]:=⟨rfl,rfl,rfl⟩
theorem h211_k : FK Tryz.prog 211 Tryz.f211 h211:=⟨by kernel_rfl,by kernel_rfl,Tryz.func211,by kernel_rfl⟩
def h166 : Hint:=hm [3,1027,16,35,16419,35,33554467,16,16] [] [] []
@[go_sem] theorem h166_l : h166.lv 0 = [0,1] /\ h166.lv 1 = [0,1,10] /\ h166.lv 2 = [4] /\ h166.lv 3 = [0,1,5] /\ h166.lv 4 = [0,1,5,14] /\ h166.lv 5 = [0,1,5] /\ h166.lv 6 = [0,1,5,25] /\ h166.lv 7 = [4] /\ h166.lv 8 = [4]:=by decide +kernel
@[go_sem] def h166_q:=hplain h166 rfl rfl rfl
@[go_sem] theorem h166_t : h166.tk = [] /\ h166.mt = [] /\ h166.pc = []:=⟨rfl,rfl,rfl⟩
theorem h166_k : FK Tryz.prog 166 Tryz.f166 h166:=⟨by kernel_rfl,by kernel_rfl,Tryz.func166,by kernel_rfl⟩
def h256 : Hint:=hm [2,4] [] [] []
@[go_sem] theorem h256_l : h256.lv 0 = [1] /\ h256.lv 1 = [2]:=by decide +kernel
@[go_sem] def h256_q:=hplain h256 rfl rfl rfl
@[go_sem] theorem h256_t : h256.tk = [] /\ h256.mt = [] /\ h256.pc = []:=⟨rfl,rfl,rfl⟩
theorem h256_k : FK Tryz.prog 256 Tryz.f256 h256:=⟨by kernel_rfl,by kernel_rfl,Tryz.func256,by kernel_rfl⟩
def h257 : Hint:=hx [3,35,99,4195,99,227,99,16] [24,29] [] [] [21] [(4,0)] []
@[go_sem] theorem h257_l : h257.lv 0 = [0,1] /\ h257.lv 1 = [0,1,5] /\ h257.lv 2 = [0,1,5,6] /\ h257.lv 3 = [0,1,5,6,12] /\ h257.lv 4 = [0,1,5,6] /\ h257.lv 5 = [0,1,5,6,7] /\ h257.lv 6 = [0,1,5,6] /\ h257.lv 7 = [4]:=by decide +kernel
@[go_sem] theorem h257_g : h257.ct 0 = none /\ h257.ct 1 = none /\ h257.ct 2 = none /\ h257.ct 3 = none /\ h257.ct 4 = some 0 /\ h257.ct 5 = none /\ h257.ct 6 = none /\ h257.ct 7 = none:=by decide +kernel
@[go_sem] theorem h257_z (k : Nat) : h257.at k = []:=rfl
@[go_sem] theorem h257_y (k : Nat) : h257.dn k = false:=Eq.trans rfl rfl
@[go_sem] theorem h257_t : h257.tk = [24,29] /\ h257.mt = [] /\ h257.pc = [21]:=⟨rfl,rfl,rfl⟩
theorem h257_k : FK Tryz.prog 257 Tryz.f257 h257:=⟨by kernel_rfl,by kernel_rfl,Tryz.func257,by kernel_rfl⟩
def h258 : Hint:=hm [1,8,24,4,72,72,4,520,512,4,4] [] [] []
@[go_sem] theorem h258_l : h258.lv 0 = [0] /\ h258.lv 1 = [3] /\ h258.lv 2 = [3,4] /\ h258.lv 3 = [2] /\ h258.lv 4 = [3,6] /\ h258.lv 5 = [3,6] /\ h258.lv 6 = [2] /\ h258.lv 7 = [3,9] /\ h258.lv 8 = [9] /\ h258.lv 9 = [2] /\ h258.lv 10 = [2]:=by decide +kernel
@[go_sem] def h258_q:=hplain h258 rfl rfl rfl
@[go_sem] theorem h258_t : h258.tk = [] /\ h258.mt = [] /\ h258.pc = []:=⟨rfl,rfl,rfl⟩
theorem h258_k : FK Tryz.prog 258 Tryz.f258 h258:=⟨by kernel_rfl,by kernel_rfl,Tryz.func258,by kernel_rfl⟩
def h212 : Hint:=hm [49,134217777,64,176,64] [] [] [9,12,31,35,36,41,44]
@[go_sem] theorem h212_l : h212.lv 0 = [0,4,5] /\ h212.lv 1 = [0,4,5,27] /\ h212.lv 2 = [6] /\ h212.lv 3 = [4,5,7] /\ h212.lv 4 = [6]:=by decide +kernel
@[go_sem] def h212_q:=hplain h212 rfl rfl rfl
@[go_sem] theorem h212_t : h212.tk = [] /\ h212.mt = [] /\ h212.pc = [9,12,31,35,36,41,44]:=⟨rfl,rfl,rfl⟩
theorem h212_k : FK Tryz.prog 212 Tryz.f212 h212:=⟨by kernel_rfl,by kernel_rfl,Tryz.func212,by kernel_rfl⟩
def h146 : Hint:=hx [3,35,65571,16,67,2097219,67,195,4294967491,16,323,4398046511427,16,515,0x800000000203,515,1539,4503599627372035,1539,3587,7683,0x4000000000000000000603,16,16] [] [] [] [14,30,40,84] [(18,0)] []
@[go_sem] theorem h146_l : h146.lv 0 = [0,1] /\ h146.lv 1 = [0,1,5] /\ h146.lv 2 = [0,1,5,16] /\ h146.lv 3 = [4] /\ h146.lv 4 = [0,1,6] /\ h146.lv 5 = [0,1,6,21] /\ h146.lv 6 = [0,1,6] /\ h146.lv 7 = [0,1,6,7] /\ h146.lv 8 = [0,1,6,7,32] /\ h146.lv 9 = [4] /\ h146.lv 10 = [0,1,6,8] /\ h146.lv 11 = [0,1,6,8,42] /\ h146.lv 12 = [4] /\ h146.lv 13 = [0,1,9] /\ h146.lv 14 = [0,1,9,47] /\ h146.lv 15 = [0,1,9] /\ h146.lv 16 = [0,1,9,10] /\ h146.lv 17 = [0,1,9,10,52] /\ h146.lv 18 = [0,1,9,10] /\ h146.lv 19 = [0,1,9,10,11] /\ h146.lv 20 = [0,1,9,10,11,12] /\ h146.lv 21 = [0,1,9,10,86] /\ h146.lv 22 = [4] /\ h146.lv 23 = [4]:=by decide +kernel
@[go_sem] theorem h146_g : h146.ct 0 = none /\ h146.ct 1 = none /\ h146.ct 2 = none /\ h146.ct 3 = none /\ h146.ct 4 = none /\ h146.ct 5 = none /\ h146.ct 6 = none /\ h146.ct 7 = none /\ h146.ct 8 = none /\ h146.ct 9 = none /\ h146.ct 10 = none /\ h146.ct 11 = none /\ h146.ct 12 = none /\ h146.ct 13 = none /\ h146.ct 14 = none /\ h146.ct 15 = none /\ h146.ct 16 = none /\ h146.ct 17 = none /\ h146.ct 18 = some 0 /\ h146.ct 19 = none /\ h146.ct 20 = none /\ h146.ct 21 = none /\ h146.ct 22 = none /\ h146.ct 23 = none:=by decide +kernel
@[go_sem] theorem h146_z (k : Nat) : h146.at k = []:=rfl
@[go_sem] theorem h146_y (k : Nat) : h146.dn k = false:=Eq.trans rfl rfl
@[go_sem] theorem h146_t : h146.tk = [] /\ h146.mt = [] /\ h146.pc = [14,30,40,84]:=⟨rfl,rfl,rfl⟩
theorem h146_k : FK Tryz.prog 146 Tryz.f146 h146:=⟨by kernel_rfl,by kernel_rfl,Tryz.func146,by kernel_rfl⟩
def h214 : Hint:=hm [3,35,99,227,2275,227,8388835,163,227,8589934819,227,4398046511138,32,16] [24,34,43,47] [] []
@[go_sem] theorem h214_l : h214.lv 0 = [0,1] /\ h214.lv 1 = [0,1,5] /\ h214.lv 2 = [0,1,5,6] /\ h214.lv 3 = [0,1,5,6,7] /\ h214.lv 4 = [0,1,5,6,7,11] /\ h214.lv 5 = [0,1,5,6,7] /\ h214.lv 6 = [0,1,5,6,7,23] /\ h214.lv 7 = [0,1,5,7] /\ h214.lv 8 = [0,1,5,6,7] /\ h214.lv 9 = [0,1,5,6,7,33] /\ h214.lv 10 = [0,1,5,6,7] /\ h214.lv 11 = [1,5,42] /\ h214.lv 12 = [5] /\ h214.lv 13 = [4]:=by decide +kernel
@[go_sem] def h214_q:=hplain h214 rfl rfl rfl
@[go_sem] theorem h214_t : h214.tk = [24,34,43,47] /\ h214.mt = [] /\ h214.pc = []:=⟨rfl,rfl,rfl⟩
theorem h214_k : FK Tryz.prog 214 Tryz.f214 h214:=⟨by kernel_rfl,by kernel_rfl,Tryz.func214,by kernel_rfl⟩
def h147 : Hint:=hm [2,10,24,56,2104,56,134217784,56,4] [] [] [7,34]
@[go_sem] theorem h147_l : h147.lv 0 = [1] /\ h147.lv 1 = [1,3] /\ h147.lv 2 = [3,4] /\ h147.lv 3 = [3,4,5] /\ h147.lv 4 = [3,4,5,11] /\ h147.lv 5 = [3,4,5] /\ h147.lv 6 = [3,4,5,27] /\ h147.lv 7 = [3,4,5] /\ h147.lv 8 = [2]:=by decide +kernel
@[go_sem] def h147_q:=hplain h147 rfl rfl rfl
@[go_sem] theorem h147_t : h147.tk = [] /\ h147.mt = [] /\ h147.pc = [7,34]:=⟨rfl,rfl,rfl⟩
theorem h147_k : FK Tryz.prog 147 Tryz.f147 h147:=⟨by kernel_rfl,by kernel_rfl,Tryz.func147,by kernel_rfl⟩
def h148 : Hint:=hm [3,35,547,35,131107,16,16] [] [] []
@[go_sem] theorem h148_l : h148.lv 0 = [0,1] /\ h148.lv 1 = [0,1,5] /\ h148.lv 2 = [0,1,5,9] /\ h148.lv 3 = [0,1,5] /\ h148.lv 4 = [0,1,5,17] /\ h148.lv 5 = [4] /\ h148.lv 6 = [4]:=by decide +kernel
@[go_sem] def h148_q:=hplain h148 rfl rfl rfl
@[go_sem] theorem h148_t : h148.tk = [] /\ h148.mt = [] /\ h148.pc = []:=⟨rfl,rfl,rfl⟩
theorem h148_k : FK Tryz.prog 148 Tryz.f148 h148:=⟨by kernel_rfl,by kernel_rfl,Tryz.func148,by kernel_rfl⟩
def h66 : Hint:=hx [12,40,65576,16,72,4194376,72,200,456,34359738824,456,17592186044872,16,584,0x8000000000000048,16,16] [] [] [] [14,31,43,61] [(6,2)] []
@[go_sem] theorem h66_l : h66.lv 0 = [2,3] /\ h66.lv 1 = [3,5] /\ h66.lv 2 = [3,5,16] /\ h66.lv 3 = [4] /\ h66.lv 4 = [3,6] /\ h66.lv 5 = [3,6,22] /\ h66.lv 6 = [3,6] /\ h66.lv 7 = [3,6,7] /\ h66.lv 8 = [3,6,7,8] /\ h66.lv 9 = [3,6,7,8,35] /\ h66.lv 10 = [3,6,7,8] /\ h66.lv 11 = [3,6,7,8,44] /\ h66.lv 12 = [4] /\ h66.lv 13 = [3,6,9] /\ h66.lv 14 = [3,6,63] /\ h66.lv 15 = [4] /\ h66.lv 16 = [4]:=by decide +kernel
@[go_sem] theorem h66_g : h66.ct 0 = none /\ h66.ct 1 = none /\ h66.ct 2 = none /\ h66.ct 3 = none /\ h66.ct 4 = none /\ h66.ct 5 = none /\ h66.ct 6 = some 2 /\ h66.ct 7 = none /\ h66.ct 8 = none /\ h66.ct 9 = none /\ h66.ct 10 = none /\ h66.ct 11 = none /\ h66.ct 12 = none /\ h66.ct 13 = none /\ h66.ct 14 = none /\ h66.ct 15 = none /\ h66.ct 16 = none:=by decide +kernel
@[go_sem] theorem h66_z (k : Nat) : h66.at k = []:=rfl
@[go_sem] theorem h66_y (k : Nat) : h66.dn k = false:=Eq.trans rfl rfl
@[go_sem] theorem h66_t : h66.tk = [] /\ h66.mt = [] /\ h66.pc = [14,31,43,61]:=⟨rfl,rfl,rfl⟩
theorem h66_k : FK Tryz.prog 66 Tryz.f66 h66:=⟨by kernel_rfl,by kernel_rfl,Tryz.func66,by kernel_rfl⟩
def h149 : Hint:=hm [2,4] [] [] [4,6,7]
@[go_sem] theorem h149_l : h149.lv 0 = [1] /\ h149.lv 1 = [2]:=by decide +kernel
@[go_sem] def h149_q:=hplain h149 rfl rfl rfl
@[go_sem] theorem h149_t : h149.tk = [] /\ h149.mt = [] /\ h149.pc = [4,6,7]:=⟨rfl,rfl,rfl⟩
theorem h149_k : FK Tryz.prog 149 Tryz.f149 h149:=⟨by kernel_rfl,by kernel_rfl,Tryz.func149,by kernel_rfl⟩
def h67 : Hint:=hm [9,41,553,16,16] [11] [] [7,13]
@[go_sem] theorem h67_l : h67.lv 0 = [0,3] /\ h67.lv 1 = [0,3,5] /\ h67.lv 2 = [0,3,5,9] /\ h67.lv 3 = [4] /\ h67.lv 4 = [4]:=by decide +kernel
@[go_sem] def h67_q:=hplain h67 rfl rfl rfl
@[go_sem] theorem h67_t : h67.tk = [11] /\ h67.mt = [] /\ h67.pc = [7,13]:=⟨rfl,rfl,rfl⟩
theorem h67_k : FK Tryz.prog 67 Tryz.f67 h67:=⟨by kernel_rfl,by kernel_rfl,Tryz.func67,by kernel_rfl⟩
def h151 : Hint:=hm [2,10,26,58,32826,4,98362,98362,50,557114,50,4227106,4227106,50,33554466,50,34359738386,4,82,274877907026,82,210,281474976710738,4,4] [] [] [10,46]
@[go_sem] theorem h151_l : h151.lv 0 = [1] /\ h151.lv 1 = [1,3] /\ h151.lv 2 = [1,3,4] /\ h151.lv 3 = [1,3,4,5] /\ h151.lv 4 = [1,3,4,5,15] /\ h151.lv 5 = [2] /\ h151.lv 6 = [1,3,4,5,15,16] /\ h151.lv 7 = [1,3,4,5,15,16] /\ h151.lv 8 = [1,4,5] /\ h151.lv 9 = [1,3,4,5,15,19] /\ h151.lv 10 = [1,4,5] /\ h151.lv 11 = [1,5,15,22] /\ h151.lv 12 = [1,5,15,22] /\ h151.lv 13 = [1,4,5] /\ h151.lv 14 = [1,5,25] /\ h151.lv 15 = [1,4,5] /\ h151.lv 16 = [1,4,35] /\ h151.lv 17 = [2] /\ h151.lv 18 = [1,4,6] /\ h151.lv 19 = [1,4,6,38] /\ h151.lv 20 = [1,4,6] /\ h151.lv 21 = [1,4,6,7] /\ h151.lv 22 = [1,4,6,48] /\ h151.lv 23 = [2] /\ h151.lv 24 = [2]:=by decide +kernel
@[go_sem] def h151_q:=hplain h151 rfl rfl rfl
@[go_sem] theorem h151_t : h151.tk = [] /\ h151.mt = [] /\ h151.pc = [10,46]:=⟨rfl,rfl,rfl⟩
theorem h151_k : FK Tryz.prog 151 Tryz.f151 h151:=⟨by kernel_rfl,by kernel_rfl,Tryz.func151,by kernel_rfl⟩
def h68 : Hint:=hm [2,4] [] [] [4,6,7]
@[go_sem] theorem h68_l : h68.lv 0 = [1] /\ h68.lv 1 = [2]:=by decide +kernel
@[go_sem] def h68_q:=hplain h68 rfl rfl rfl
@[go_sem] theorem h68_t : h68.tk = [] /\ h68.mt = [] /\ h68.pc = [4,6,7]:=⟨rfl,rfl,rfl⟩
theorem h68_k : FK Tryz.prog 68 Tryz.f68 h68:=⟨by kernel_rfl,by kernel_rfl,Tryz.func68,by kernel_rfl⟩
def h111 : Hint:=hm [2,18,50,114,4210,114,114,178,268435634,178,178,12] [15,31,40,41] [] []
@[go_sem] theorem h111_l : h111.lv 0 = [1] /\ h111.lv 1 = [1,4] /\ h111.lv 2 = [1,4,5] /\ h111.lv 3 = [1,4,5,6] /\ h111.lv 4 = [1,4,5,6,12] /\ h111.lv 5 = [1,4,5,6] /\ h111.lv 6 = [1,4,5,6] /\ h111.lv 7 = [1,4,5,7] /\ h111.lv 8 = [1,4,5,7,28] /\ h111.lv 9 = [1,4,5,7] /\ h111.lv 10 = [1,4,5,7] /\ h111.lv 11 = [2,3]:=by decide +kernel
@[go_sem] def h111_q:=hplain h111 rfl rfl rfl
@[go_sem] theorem h111_t : h111.tk = [15,31,40,41] /\ h111.mt = [] /\ h111.pc = []:=⟨rfl,rfl,rfl⟩
theorem h111_k : FK Tryz.prog 111 Tryz.f111 h111:=⟨by kernel_rfl,by kernel_rfl,Tryz.func111,by kernel_rfl⟩
def h69 : Hint:=hm [12,44,4194316,16,140,134217868,140,137438953612,16,16] [17] [] [10,20,36]
@[go_sem] theorem h69_l : h69.lv 0 = [2,3] /\ h69.lv 1 = [2,3,5] /\ h69.lv 2 = [2,3,22] /\ h69.lv 3 = [4] /\ h69.lv 4 = [2,3,7] /\ h69.lv 5 = [2,3,7,27] /\ h69.lv 6 = [2,3,7] /\ h69.lv 7 = [2,3,7,37] /\ h69.lv 8 = [4] /\ h69.lv 9 = [4]:=by decide +kernel
@[go_sem] def h69_q:=hplain h69 rfl rfl rfl
@[go_sem] theorem h69_t : h69.tk = [17] /\ h69.mt = [] /\ h69.pc = [10,20,36]:=⟨rfl,rfl,rfl⟩
theorem h69_k : FK Tryz.prog 69 Tryz.f69 h69:=⟨by kernel_rfl,by kernel_rfl,Tryz.func69,by kernel_rfl⟩
def h70 : Hint:=hm [6,16] [] [] [7]
@[go_sem] theorem h70_l : h70.lv 0 = [1,2] /\ h70.lv 1 = [4]:=by decide +kernel
@[go_sem] def h70_q:=hplain h70 rfl rfl rfl
@[go_sem] theorem h70_t : h70.tk = [] /\ h70.mt = [] /\ h70.pc = [7]:=⟨rfl,rfl,rfl⟩
theorem h70_k : FK Tryz.prog 70 Tryz.f70 h70:=⟨by kernel_rfl,by kernel_rfl,Tryz.func70,by kernel_rfl⟩
def h13 : Hint:=hx [12,2147483660,16,44,68719476780,44,2199023255596,16,76,0x80000000004c,76,108,0x100000000000006c,108,0x20000000000000000006c,108,0x80000000000000000006c,16,136,0x20000000000000000000088,136,392,0x1000000000000000000000000000000188,16,904,0x8000000000000000000000000000000388,904,0x2000000000000000000000000000000000000388,16,16] [] [] [] [34,39,58,67,79,100,106] [(20,2)] []
@[go_sem] theorem h13_l : h13.lv 0 = [2,3] /\ h13.lv 1 = [2,3,31] /\ h13.lv 2 = [4] /\ h13.lv 3 = [2,3,5] /\ h13.lv 4 = [2,3,5,36] /\ h13.lv 5 = [2,3,5] /\ h13.lv 6 = [2,3,5,41] /\ h13.lv 7 = [4] /\ h13.lv 8 = [2,3,6] /\ h13.lv 9 = [2,3,6,47] /\ h13.lv 10 = [2,3,6] /\ h13.lv 11 = [2,3,5,6] /\ h13.lv 12 = [2,3,5,6,60] /\ h13.lv 13 = [2,3,5,6] /\ h13.lv 14 = [2,3,5,6,81] /\ h13.lv 15 = [2,3,5,6] /\ h13.lv 16 = [2,3,5,6,83] /\ h13.lv 17 = [4] /\ h13.lv 18 = [3,7] /\ h13.lv 19 = [3,7,89] /\ h13.lv 20 = [3,7] /\ h13.lv 21 = [3,7,8] /\ h13.lv 22 = [3,7,8,132] /\ h13.lv 23 = [4] /\ h13.lv 24 = [3,7,8,9] /\ h13.lv 25 = [3,7,8,9,135] /\ h13.lv 26 = [3,7,8,9] /\ h13.lv 27 = [3,7,8,9,157] /\ h13.lv 28 = [4] /\ h13.lv 29 = [4]:=by decide +kernel
@[go_sem] theorem h13_g : h13.ct 0 = none /\ h13.ct 1 = none /\ h13.ct 2 = none /\ h13.ct 3 = none /\ h13.ct 4 = none /\ h13.ct 5 = none /\ h13.ct 6 = none /\ h13.ct 7 = none /\ h13.ct 8 = none /\ h13.ct 9 = none /\ h13.ct 10 = none /\ h13.ct 11 = none /\ h13.ct 12 = none /\ h13.ct 13 = none /\ h13.ct 14 = none /\ h13.ct 15 = none /\ h13.ct 16 = none /\ h13.ct 17 = none /\ h13.ct 18 = none /\ h13.ct 19 = none /\ h13.ct 20 = some 2 /\ h13.ct 21 = none /\ h13.ct 22 = none /\ h13.ct 23 = none /\ h13.ct 24 = none /\ h13.ct 25 = none /\ h13.ct 26 = none /\ h13.ct 27 = none /\ h13.ct 28 = none /\ h13.ct 29 = none:=by decide +kernel
@[go_sem] theorem h13_z (k : Nat) : h13.at k = []:=rfl
@[go_sem] theorem h13_y (k : Nat) : h13.dn k = false:=Eq.trans rfl rfl
@[go_sem] theorem h13_t : h13.tk = [] /\ h13.mt = [] /\ h13.pc = [34,39,58,67,79,100,106]:=⟨rfl,rfl,rfl⟩
theorem h13_k : FK Tryz.prog 13 Tryz.f13 h13:=⟨by kernel_rfl,by kernel_rfl,Tryz.func13,by kernel_rfl⟩
def h48 : Hint:=hm [30,256] [] [] []
@[go_sem] theorem h48_l : h48.lv 0 = [1,2,3,4] /\ h48.lv 1 = [8]:=by decide +kernel
@[go_sem] def h48_q:=hplain h48 rfl rfl rfl
@[go_sem] theorem h48_t : h48.tk = [] /\ h48.mt = [] /\ h48.pc = []:=⟨rfl,rfl,rfl⟩
theorem h48_k : FK Tryz.prog 48 Tryz.f48 h48:=⟨by kernel_rfl,by kernel_rfl,Tryz.func48,by kernel_rfl⟩
def h112 : Hint:=hm [1,9,521,9,25,262153,4,41,2097193,41,4294967337,4,4] [] [] [16]
@[go_sem] theorem h112_l : h112.lv 0 = [0] /\ h112.lv 1 = [0,3] /\ h112.lv 2 = [0,3,9] /\ h112.lv 3 = [0,3] /\ h112.lv 4 = [0,3,4] /\ h112.lv 5 = [0,3,18] /\ h112.lv 6 = [2] /\ h112.lv 7 = [0,3,5] /\ h112.lv 8 = [0,3,5,21] /\ h112.lv 9 = [0,3,5] /\ h112.lv 10 = [0,3,5,32] /\ h112.lv 11 = [2] /\ h112.lv 12 = [2]:=by decide +kernel
@[go_sem] def h112_q:=hplain h112 rfl rfl rfl
@[go_sem] theorem h112_t : h112.tk = [] /\ h112.mt = [] /\ h112.pc = [16]:=⟨rfl,rfl,rfl⟩
theorem h112_k : FK Tryz.prog 112 Tryz.f112 h112:=⟨by kernel_rfl,by kernel_rfl,Tryz.func112,by kernel_rfl⟩
def h113 : Hint:=hm [6,16] [] [] []
@[go_sem] theorem h113_l : h113.lv 0 = [1,2] /\ h113.lv 1 = [4]:=by decide +kernel
@[go_sem] def h113_q:=hplain h113 rfl rfl rfl
@[go_sem] theorem h113_t : h113.tk = [] /\ h113.mt = [] /\ h113.pc = []:=⟨rfl,rfl,rfl⟩
theorem h113_k : FK Tryz.prog 113 Tryz.f113 h113:=⟨by kernel_rfl,by kernel_rfl,Tryz.func113,by kernel_rfl⟩
def h49 : Hint:=hx [2,134217730,4,26,50,98,4398046511106,4,130,0x800000000082,130,386,0x1000000000000000082,4,514,0x20000000000000000202,514,1538,0x20000000000000000000000000202,4,2050,0x400000000000000000000000000802,2050,0x200000000000000000000000000000802,4,4] [33,35] [] [] [30,34,36,88,94,128] [(10,1),(16,1)] []
@[go_sem] theorem h49_l : h49.lv 0 = [1] /\ h49.lv 1 = [1,27] /\ h49.lv 2 = [2] /\ h49.lv 3 = [1,3,4] /\ h49.lv 4 = [1,4,5] /\ h49.lv 5 = [1,5,6] /\ h49.lv 6 = [1,42] /\ h49.lv 7 = [2] /\ h49.lv 8 = [1,7] /\ h49.lv 9 = [1,7,47] /\ h49.lv 10 = [1,7] /\ h49.lv 11 = [1,7,8] /\ h49.lv 12 = [1,7,72] /\ h49.lv 13 = [2] /\ h49.lv 14 = [1,9] /\ h49.lv 15 = [1,9,77] /\ h49.lv 16 = [1,9] /\ h49.lv 17 = [1,9,10] /\ h49.lv 18 = [1,9,113] /\ h49.lv 19 = [2] /\ h49.lv 20 = [1,11] /\ h49.lv 21 = [1,11,118] /\ h49.lv 22 = [1,11] /\ h49.lv 23 = [1,11,129] /\ h49.lv 24 = [2] /\ h49.lv 25 = [2]:=by decide +kernel
@[go_sem] theorem h49_g : h49.ct 0 = none /\ h49.ct 1 = none /\ h49.ct 2 = none /\ h49.ct 3 = none /\ h49.ct 4 = none /\ h49.ct 5 = none /\ h49.ct 6 = none /\ h49.ct 7 = none /\ h49.ct 8 = none /\ h49.ct 9 = none /\ h49.ct 10 = some 1 /\ h49.ct 11 = none /\ h49.ct 12 = none /\ h49.ct 13 = none /\ h49.ct 14 = none /\ h49.ct 15 = none /\ h49.ct 16 = some 1 /\ h49.ct 17 = none /\ h49.ct 18 = none /\ h49.ct 19 = none /\ h49.ct 20 = none /\ h49.ct 21 = none /\ h49.ct 22 = none /\ h49.ct 23 = none /\ h49.ct 24 = none /\ h49.ct 25 = none:=by decide +kernel
@[go_sem] theorem h49_z (k : Nat) : h49.at k = []:=rfl
@[go_sem] theorem h49_y (k : Nat) : h49.dn k = false:=Eq.trans rfl rfl
@[go_sem] theorem h49_t : h49.tk = [33,35] /\ h49.mt = [] /\ h49.pc = [30,34,36,88,94,128]:=⟨rfl,rfl,rfl⟩
theorem h49_k : FK Tryz.prog 49 Tryz.f49 h49:=⟨by kernel_rfl,by kernel_rfl,Tryz.func49,by kernel_rfl⟩
def h115 : Hint:=hm [2,4] [] [] []
@[go_sem] theorem h115_l : h115.lv 0 = [1] /\ h115.lv 1 = [2]:=by decide +kernel
@[go_sem] def h115_q:=hplain h115 rfl rfl rfl
@[go_sem] theorem h115_t : h115.tk = [] /\ h115.mt = [] /\ h115.pc = []:=⟨rfl,rfl,rfl⟩
theorem h115_k : FK Tryz.prog 115 Tryz.f115 h115:=⟨by kernel_rfl,by kernel_rfl,Tryz.func115,by kernel_rfl⟩
def h116 : Hint:=hm [12,16] [] [] []
@[go_sem] theorem h116_l : h116.lv 0 = [2,3] /\ h116.lv 1 = [4]:=by decide +kernel
@[go_sem] def h116_q:=hplain h116 rfl rfl rfl
@[go_sem] theorem h116_t : h116.tk = [] /\ h116.mt = [] /\ h116.pc = []:=⟨rfl,rfl,rfl⟩
theorem h116_k : FK Tryz.prog 116 Tryz.f116 h116:=⟨by kernel_rfl,by kernel_rfl,Tryz.func116,by kernel_rfl⟩
def h50 : Hint:=hm [1,2049,4,9,32777,9,25,8589934601,4,41,68719476777,41,562949953421353,4,73,72057594037927945,4,137,0x800000000000089,137,393,0x800000000000000089,4,4] [] [] [23,54,70]
@[go_sem] theorem h50_l : h50.lv 0 = [0] /\ h50.lv 1 = [0,11] /\ h50.lv 2 = [2] /\ h50.lv 3 = [0,3] /\ h50.lv 4 = [0,3,15] /\ h50.lv 5 = [0,3] /\ h50.lv 6 = [0,3,4] /\ h50.lv 7 = [0,3,33] /\ h50.lv 8 = [2] /\ h50.lv 9 = [0,3,5] /\ h50.lv 10 = [0,3,5,36] /\ h50.lv 11 = [0,3,5] /\ h50.lv 12 = [0,3,5,49] /\ h50.lv 13 = [2] /\ h50.lv 14 = [0,3,6] /\ h50.lv 15 = [0,3,56] /\ h50.lv 16 = [2] /\ h50.lv 17 = [0,3,7] /\ h50.lv 18 = [0,3,7,59] /\ h50.lv 19 = [0,3,7] /\ h50.lv 20 = [0,3,7,8] /\ h50.lv 21 = [0,3,7,71] /\ h50.lv 22 = [2] /\ h50.lv 23 = [2]:=by decide +kernel
@[go_sem] def h50_q:=hplain h50 rfl rfl rfl
@[go_sem] theorem h50_t : h50.tk = [] /\ h50.mt = [] /\ h50.pc = [23,54,70]:=⟨rfl,rfl,rfl⟩
theorem h50_k : FK Tryz.prog 50 Tryz.f50 h50:=⟨by kernel_rfl,by kernel_rfl,Tryz.func50,by kernel_rfl⟩
def h14 : Hint:=hm [12,44,108,536870924,16,16] [] [] [8,11,21,27,32]
@[go_sem] theorem h14_l : h14.lv 0 = [2,3] /\ h14.lv 1 = [2,3,5] /\ h14.lv 2 = [2,3,5,6] /\ h14.lv 3 = [2,3,29] /\ h14.lv 4 = [4] /\ h14.lv 5 = [4]:=by decide +kernel
@[go_sem] def h14_q:=hplain h14 rfl rfl rfl
@[go_sem] theorem h14_t : h14.tk = [] /\ h14.mt = [] /\ h14.pc = [8,11,21,27,32]:=⟨rfl,rfl,rfl⟩
theorem h14_k : FK Tryz.prog 14 Tryz.f14 h14:=⟨by kernel_rfl,by kernel_rfl,Tryz.func14,by kernel_rfl⟩
def h71 : Hint:=hm [2,10,42,10,131082,4,4] [] [] []
@[go_sem] theorem h71_l : h71.lv 0 = [1] /\ h71.lv 1 = [1,3] /\ h71.lv 2 = [1,3,5] /\ h71.lv 3 = [1,3] /\ h71.lv 4 = [1,3,17] /\ h71.lv 5 = [2] /\ h71.lv 6 = [2]:=by decide +kernel
@[go_sem] def h71_q:=hplain h71 rfl rfl rfl
@[go_sem] theorem h71_t : h71.tk = [] /\ h71.mt = [] /\ h71.pc = []:=⟨rfl,rfl,rfl⟩
theorem h71_k : FK Tryz.prog 71 Tryz.f71 h71:=⟨by kernel_rfl,by kernel_rfl,Tryz.func71,by kernel_rfl⟩
def h15 : Hint:=hm [2,4] [] [] [4]
@[go_sem] theorem h15_l : h15.lv 0 = [1] /\ h15.lv 1 = [2]:=by decide +kernel
@[go_sem] def h15_q:=hplain h15 rfl rfl rfl
@[go_sem] theorem h15_t : h15.tk = [] /\ h15.mt = [] /\ h15.pc = [4]:=⟨rfl,rfl,rfl⟩
theorem h15_k : FK Tryz.prog 15 Tryz.f15 h15:=⟨by kernel_rfl,by kernel_rfl,Tryz.func15,by kernel_rfl⟩
def h152 : Hint:=hm [449,961,473,8389057,449] [] [] []
@[go_sem] theorem h152_l : h152.lv 0 = [0,6,7,8] /\ h152.lv 1 = [0,6,7,8,9] /\ h152.lv 2 = [0,3,4,6,7,8] /\ h152.lv 3 = [0,6,7,8,23] /\ h152.lv 4 = [0,6,7,8]:=by decide +kernel
@[go_sem] def h152_q:=hplain h152 rfl rfl rfl
@[go_sem] theorem h152_t : h152.tk = [] /\ h152.mt = [] /\ h152.pc = []:=⟨rfl,rfl,rfl⟩
theorem h152_k : FK Tryz.prog 152 Tryz.f152 h152:=⟨by kernel_rfl,by kernel_rfl,Tryz.func152,by kernel_rfl⟩
def h73 : Hint:=hm [2,4] [] [] []
@[go_sem] theorem h73_l : h73.lv 0 = [1] /\ h73.lv 1 = [2]:=by decide +kernel
@[go_sem] def h73_q:=hplain h73 rfl rfl rfl
theorem h73_k : FK Tryz.prog 73 Tryz.f73 h73:=⟨by kernel_rfl,by kernel_rfl,Tryz.func73,by kernel_rfl⟩
def h22 : Hint:=hm [28,280,1080,120,8240,1,16] [] [] []
@[go_sem] theorem h22_l : h22.lv 0 = [2,3,4] /\ h22.lv 1 = [3,4,8] /\ h22.lv 2 = [3,4,5,10] /\ h22.lv 3 = [3,4,5,6] /\ h22.lv 4 = [4,5,13] /\ h22.lv 5 = [0] /\ h22.lv 6 = [4]:=by decide +kernel
@[go_sem] def h22_q:=hplain h22 rfl rfl rfl
@[go_sem] theorem h22_t : h22.tk = [] /\ h22.mt = [] /\ h22.pc = []:=⟨rfl,rfl,rfl⟩
theorem h22_k : FK Tryz.prog 22 Tryz.f22 h22:=⟨by kernel_rfl,by kernel_rfl,Tryz.func22,by kernel_rfl⟩
def h16 : Hint:=hm [28,88,8280,48,24,48] [] [] [11]
@[go_sem] theorem h16_l : h16.lv 0 = [2,3,4] /\ h16.lv 1 = [3,4,6] /\ h16.lv 2 = [3,4,6,13] /\ h16.lv 3 = [4,5] /\ h16.lv 4 = [3,4] /\ h16.lv 5 = [4,5]:=by decide +kernel
@[go_sem] def h16_q:=hplain h16 rfl rfl rfl
@[go_sem] theorem h16_t : h16.tk = [] /\ h16.mt = [] /\ h16.pc = [11]:=⟨rfl,rfl,rfl⟩
theorem h16_k : FK Tryz.prog 16 Tryz.f16 h16:=⟨by kernel_rfl,by kernel_rfl,Tryz.func16,by kernel_rfl⟩
def h62 : Hint:=hm [7,64] [] [] []
@[go_sem] theorem h62_l : h62.lv 0 = [0,1,2] /\ h62.lv 1 = [6]:=by decide +kernel
@[go_sem] def h62_q:=hplain h62 rfl rfl rfl
@[go_sem] theorem h62_t : h62.tk = [] /\ h62.mt = [] /\ h62.pc = []:=⟨rfl,rfl,rfl⟩
theorem h62_k : FK Tryz.prog 62 Tryz.f62 h62:=⟨by kernel_rfl,by kernel_rfl,Tryz.func62,by kernel_rfl⟩
def h20 : Hint:=hm [6,2054,16,16] [] [] [10]
@[go_sem] theorem h20_l : h20.lv 0 = [1,2] /\ h20.lv 1 = [1,2,11] /\ h20.lv 2 = [4] /\ h20.lv 3 = [4]:=by decide +kernel
@[go_sem] def h20_q:=hplain h20 rfl rfl rfl
@[go_sem] theorem h20_t : h20.tk = [] /\ h20.mt = [] /\ h20.pc = [10]:=⟨rfl,rfl,rfl⟩
theorem h20_k : FK Tryz.prog 20 Tryz.f20 h20:=⟨by kernel_rfl,by kernel_rfl,Tryz.func20,by kernel_rfl⟩
def h18 : Hint:=hm [28,88,4184,48,24,48] [] [] [10]
@[go_sem] theorem h18_l : h18.lv 0 = [2,3,4] /\ h18.lv 1 = [3,4,6] /\ h18.lv 2 = [3,4,6,12] /\ h18.lv 3 = [4,5] /\ h18.lv 4 = [3,4] /\ h18.lv 5 = [4,5]:=by decide +kernel
@[go_sem] def h18_q:=hplain h18 rfl rfl rfl
@[go_sem] theorem h18_t : h18.tk = [] /\ h18.mt = [] /\ h18.pc = [10]:=⟨rfl,rfl,rfl⟩
theorem h18_k : FK Tryz.prog 18 Tryz.f18 h18:=⟨by kernel_rfl,by kernel_rfl,Tryz.func18,by kernel_rfl⟩
end Go.AI
set_option linter.defProp false
namespace Go.AI
open Go.Proofs
def h9 : Hint:=hm [1,6,14,14,30,30,38,102,486,2022,6118,30690,0x2000000000000000000037e2,1,104416,1] [97,134] [] [18,26,32,37,43,47,51,56,61,67,73,79,84,102,137]
@[go_sem] theorem h9_l : h9.lv 0 = [0] /\ h9.lv 1 = [1,2] /\ h9.lv 2 = [1,2,3] /\ h9.lv 3 = [1,2,3] /\ h9.lv 4 = [1,2,3,4] /\ h9.lv 5 = [1,2,3,4] /\ h9.lv 6 = [1,2,5] /\ h9.lv 7 = [1,2,5,6] /\ h9.lv 8 = [1,2,5,6,7,8] /\ h9.lv 9 = [1,2,5,6,7,8,9,10] /\ h9.lv 10 = [1,2,5,6,7,8,9,10,12] /\ h9.lv 11 = [1,5,6,7,8,9,10,12,13,14] /\ h9.lv 12 = [1,5,6,7,8,9,10,12,13,93] /\ h9.lv 13 = [0] /\ h9.lv 14 = [5,6,7,8,9,10,12,15,16] /\ h9.lv 15 = [0]:=by decide +kernel
@[go_sem] def h9_q:=hplain h9 rfl rfl rfl
@[go_sem] theorem h9_t : h9.tk = [97,134] /\ h9.mt = [] /\ h9.pc = [18,26,32,37,43,47,51,56,61,67,73,79,84,102,137]:=⟨rfl,rfl,rfl⟩
theorem h9_k : FK Tryz.prog 9 Tryz.f9 h9:=⟨by kernel_rfl,by kernel_rfl,Tryz.func9,by kernel_rfl⟩
end Go.AI
namespace Go.AI
open Go.Proofs
@[go_sem] theorem cellsOf95 : Tryz.prog.cellsOf 95 = 1:=by kernel_rfl
@[go_sem] theorem ldk95 : ldk Tryz.prog 95 = some none:=by kernel_rfl
@[go_sem] theorem zeroAV95 : zeroAV Tryz.prog 95 = some (.nilf):=by kernel_rfl
@[go_sem] theorem cellsOf96 : Tryz.prog.cellsOf 96 = 1:=by kernel_rfl
@[go_sem] theorem ldk96 : ldk Tryz.prog 96 = some none:=by kernel_rfl
@[go_sem] theorem zeroAV96 : zeroAV Tryz.prog 96 = some (.nilf):=by kernel_rfl
@[go_sem] theorem ldk177 : ldk Tryz.prog 177 = some none:=by kernel_rfl
@[go_sem] theorem cellsOf197 : Tryz.prog.cellsOf 197 = 2:=by kernel_rfl
@[go_sem] theorem ldk197 : ldk Tryz.prog 197 = some (some 2):=by kernel_rfl
@[go_sem] theorem bkind197 : bkind Tryz.prog 197 = .struct [(0,1),(1,1)]:=by kernel_rfl
@[go_sem] theorem fplace197_0 : fplace Tryz.prog 197 0 = some (3,0):=by kernel_rfl
@[go_sem] theorem fplace197_1 : fplace Tryz.prog 197 1 = some (3,1):=by kernel_rfl
@[go_sem] theorem zeroAV197 : zeroAV Tryz.prog 197 = some (.agg [.int .i64 0,.int .i64 0]):=by kernel_rfl
@[go_sem] theorem und268 : Tryz.prog.underlying 268 = some (.int .u64):=by kernel_rfl
@[go_sem] theorem und304 : Tryz.prog.underlying 304 = some (.array 49 9):=by kernel_rfl
end Go.AI
set_option linter.defProp false
namespace Go.AI
open Go.Proofs
def h83 : Hint:=hm [5,4] [] [] []
@[go_sem] theorem h83_l : h83.lv 0 = [0,2] /\ h83.lv 1 = [2]:=by decide +kernel
@[go_sem] def h83_q:=hplain h83 rfl rfl rfl
@[go_sem] theorem h83_t : h83.tk = [] /\ h83.mt = [] /\ h83.pc = []:=⟨rfl,rfl,rfl⟩
theorem h83_k : FK Tryz.prog 83 Tryz.f83 h83:=⟨by kernel_rfl,by kernel_rfl,Tryz.func83,by kernel_rfl⟩
def h156 : Hint:=hx [85,4181,64,197,1835204,3932356,1835716,1835204,1835204,64] [17] [] [] [] [(8,3)] []
@[go_sem] theorem h156_l : h156.lv 0 = [0,2,4,6] /\ h156.lv 1 = [0,2,4,6,12] /\ h156.lv 2 = [6] /\ h156.lv 3 = [0,2,6,7] /\ h156.lv 4 = [2,6,7,18,19,20] /\ h156.lv 5 = [2,6,7,18,19,20,21] /\ h156.lv 6 = [2,6,7,9,18,19,20] /\ h156.lv 7 = [2,6,7,18,19,20] /\ h156.lv 8 = [2,6,7,18,19,20] /\ h156.lv 9 = [6]:=by decide +kernel
@[go_sem] theorem h156_g : h156.ct 0 = none /\ h156.ct 1 = none /\ h156.ct 2 = none /\ h156.ct 3 = none /\ h156.ct 4 = none /\ h156.ct 5 = none /\ h156.ct 6 = none /\ h156.ct 7 = none /\ h156.ct 8 = some 3 /\ h156.ct 9 = none:=by decide +kernel
@[go_sem] theorem h156_z (k : Nat) : h156.at k = []:=rfl
@[go_sem] theorem h156_y (k : Nat) : h156.dn k = false:=Eq.trans rfl rfl
@[go_sem] theorem h156_t : h156.tk = [17] /\ h156.mt = [] /\ h156.pc = []:=⟨rfl,rfl,rfl⟩
theorem h156_k : FK Tryz.prog 156 Tryz.f156 h156:=⟨by kernel_rfl,by kernel_rfl,Tryz.func156,by kernel_rfl⟩
def h157 : Hint:=hm [28,16] [] [] []
@[go_sem] theorem h157_l : h157.lv 0 = [2,3,4] /\ h157.lv 1 = [4]:=by decide +kernel
@[go_sem] def h157_q:=hplain h157 rfl rfl rfl
@[go_sem] theorem h157_t : h157.tk = [] /\ h157.mt = [] /\ h157.pc = []:=⟨rfl,rfl,rfl⟩
theorem h157_k : FK Tryz.prog 157 Tryz.f157 h157:=⟨by kernel_rfl,by kernel_rfl,Tryz.func157,by kernel_rfl⟩
def h80 : Hint:=hm [5,13,460,972,492,460,460,4] [6,12,18] [] [14,20]
@[go_sem] theorem h80_l : h80.lv 0 = [0,2] /\ h80.lv 1 = [0,2,3] /\ h80.lv 2 = [2,3,6,7,8] /\ h80.lv 3 = [2,3,6,7,8,9] /\ h80.lv 4 = [2,3,5,6,7,8] /\ h80.lv 5 = [2,3,6,7,8] /\ h80.lv 6 = [2,3,6,7,8] /\ h80.lv 7 = [2]:=by decide +kernel
@[go_sem] def h80_q:=hplain h80 rfl rfl rfl
@[go_sem] theorem h80_t : h80.tk = [6,12,18] /\ h80.mt = [] /\ h80.pc = [14,20]:=⟨rfl,rfl,rfl⟩
theorem h80_k : FK Tryz.prog 80 Tryz.f80 h80:=⟨by kernel_rfl,by kernel_rfl,Tryz.func80,by kernel_rfl⟩
def h30 : Hint:=hx [6,14,908,1932,940,908,908,4] [13,19] [] [] [20] [(6,2)] []
@[go_sem] theorem h30_l : h30.lv 0 = [1,2] /\ h30.lv 1 = [1,2,3] /\ h30.lv 2 = [2,3,7,8,9] /\ h30.lv 3 = [2,3,7,8,9,10] /\ h30.lv 4 = [2,3,5,7,8,9] /\ h30.lv 5 = [2,3,7,8,9] /\ h30.lv 6 = [2,3,7,8,9] /\ h30.lv 7 = [2]:=by decide +kernel
@[go_sem] theorem h30_g : h30.ct 0 = none /\ h30.ct 1 = none /\ h30.ct 2 = none /\ h30.ct 3 = none /\ h30.ct 4 = none /\ h30.ct 5 = none /\ h30.ct 6 = some 2 /\ h30.ct 7 = none:=by decide +kernel
@[go_sem] theorem h30_z (k : Nat) : h30.at k = []:=rfl
@[go_sem] theorem h30_y (k : Nat) : h30.dn k = false:=Eq.trans rfl rfl
@[go_sem] theorem h30_t : h30.tk = [13,19] /\ h30.mt = [] /\ h30.pc = [20]:=⟨rfl,rfl,rfl⟩
theorem h30_k : FK Tryz.prog 30 Tryz.f30 h30:=⟨by kernel_rfl,by kernel_rfl,Tryz.func30,by kernel_rfl⟩
def h74 : Hint:=hm [28,16] [] [] []
@[go_sem] theorem h74_l : h74.lv 0 = [2,3,4] /\ h74.lv 1 = [4]:=by decide +kernel
@[go_sem] def h74_q:=hplain h74 rfl rfl rfl
@[go_sem] theorem h74_t : h74.tk = [] /\ h74.mt = [] /\ h74.pc = []:=⟨rfl,rfl,rfl⟩
theorem h74_k : FK Tryz.prog 74 Tryz.f74 h74:=⟨by kernel_rfl,by kernel_rfl,Tryz.func74,by kernel_rfl⟩
def h75 : Hint:=hm [6,4] [] [] []
@[go_sem] theorem h75_l : h75.lv 0 = [1,2] /\ h75.lv 1 = [2]:=by decide +kernel
@[go_sem] def h75_q:=hplain h75 rfl rfl rfl
@[go_sem] theorem h75_t : h75.tk = [] /\ h75.mt = [] /\ h75.pc = []:=⟨rfl,rfl,rfl⟩
theorem h75_k : FK Tryz.prog 75 Tryz.f75 h75:=⟨by kernel_rfl,by kernel_rfl,Tryz.func75,by kernel_rfl⟩
def h84 : Hint:=hx [85,4181,64,197,1835204,3932356,1835716,1835204,1835204,64] [17] [] [] [] [(8,3)] []
@[go_sem] theorem h84_l : h84.lv 0 = [0,2,4,6] /\ h84.lv 1 = [0,2,4,6,12] /\ h84.lv 2 = [6] /\ h84.lv 3 = [0,2,6,7] /\ h84.lv 4 = [2,6,7,18,19,20] /\ h84.lv 5 = [2,6,7,18,19,20,21] /\ h84.lv 6 = [2,6,7,9,18,19,20] /\ h84.lv 7 = [2,6,7,18,19,20] /\ h84.lv 8 = [2,6,7,18,19,20] /\ h84.lv 9 = [6]:=by decide +kernel
@[go_sem] theorem h84_g : h84.ct 0 = none /\ h84.ct 1 = none /\ h84.ct 2 = none /\ h84.ct 3 = none /\ h84.ct 4 = none /\ h84.ct 5 = none /\ h84.ct 6 = none /\ h84.ct 7 = none /\ h84.ct 8 = some 3 /\ h84.ct 9 = none:=by decide +kernel
@[go_sem] theorem h84_z (k : Nat) : h84.at k = []:=rfl
@[go_sem] theorem h84_y (k : Nat) : h84.dn k = false:=Eq.trans rfl rfl
@[go_sem] theorem h84_t : h84.tk = [17] /\ h84.mt = [] /\ h84.pc = []:=⟨rfl,rfl,rfl⟩
theorem h84_k : FK Tryz.prog 84 Tryz.f84 h84:=⟨by kernel_rfl,by kernel_rfl,Tryz.func84,by kernel_rfl⟩
def h85 : Hint:=hm [28,16] [] [] []
@[go_sem] theorem h85_l : h85.lv 0 = [2,3,4] /\ h85.lv 1 = [4]:=by decide +kernel
@[go_sem] def h85_q:=hplain h85 rfl rfl rfl
@[go_sem] theorem h85_t : h85.tk = [] /\ h85.mt = [] /\ h85.pc = []:=⟨rfl,rfl,rfl⟩
theorem h85_k : FK Tryz.prog 85 Tryz.f85 h85:=⟨by kernel_rfl,by kernel_rfl,Tryz.func85,by kernel_rfl⟩
def h34 : Hint:=hx [6,14,908,1932,940,908,908,4] [13,25] [] [] [16,17,21,27,28] [(6,2)] []
@[go_sem] theorem h34_l : h34.lv 0 = [1,2] /\ h34.lv 1 = [1,2,3] /\ h34.lv 2 = [2,3,7,8,9] /\ h34.lv 3 = [2,3,7,8,9,10] /\ h34.lv 4 = [2,3,5,7,8,9] /\ h34.lv 5 = [2,3,7,8,9] /\ h34.lv 6 = [2,3,7,8,9] /\ h34.lv 7 = [2]:=by decide +kernel
@[go_sem] theorem h34_g : h34.ct 0 = none /\ h34.ct 1 = none /\ h34.ct 2 = none /\ h34.ct 3 = none /\ h34.ct 4 = none /\ h34.ct 5 = none /\ h34.ct 6 = some 2 /\ h34.ct 7 = none:=by decide +kernel
@[go_sem] theorem h34_z (k : Nat) : h34.at k = []:=rfl
@[go_sem] theorem h34_y (k : Nat) : h34.dn k = false:=Eq.trans rfl rfl
@[go_sem] theorem h34_t : h34.tk = [13,25] /\ h34.mt = [] /\ h34.pc = [16,17,21,27,28]:=⟨rfl,rfl,rfl⟩
theorem h34_k : FK Tryz.prog 34 Tryz.f34 h34:=⟨by kernel_rfl,by kernel_rfl,Tryz.func34,by kernel_rfl⟩
def h25 : Hint:=hm [28,540,16,60,16] [] [] [12,14,19,21,24,25]
@[go_sem] theorem h25_l : h25.lv 0 = [2,3,4] /\ h25.lv 1 = [2,3,4,9] /\ h25.lv 2 = [4] /\ h25.lv 3 = [2,3,4,5] /\ h25.lv 4 = [4]:=by decide +kernel
@[go_sem] def h25_q:=hplain h25 rfl rfl rfl
@[go_sem] theorem h25_t : h25.tk = [] /\ h25.mt = [] /\ h25.pc = [12,14,19,21,24,25]:=⟨rfl,rfl,rfl⟩
theorem h25_k : FK Tryz.prog 25 Tryz.f25 h25:=⟨by kernel_rfl,by kernel_rfl,Tryz.func25,by kernel_rfl⟩
end Go.AI
namespace Go.AI
open Go.Proofs
@[go_sem] theorem cellsOf158 : Tryz.prog.cellsOf 158 = 1:=by kernel_rfl
@[go_sem] theorem ldk158 : ldk Tryz.prog 158 = some none:=by kernel_rfl
@[go_sem] theorem cellsOf159 : Tryz.prog.cellsOf 159 = 1:=by kernel_rfl
@[go_sem] theorem ldk159 : ldk Tryz.prog 159 = some none:=by kernel_rfl
@[go_sem] theorem bkind161 : bkind Tryz.prog 161 = .struct [(0,1),(1,1)]:=by kernel_rfl
@[go_sem] theorem fplace161_0 : fplace Tryz.prog 161 0 = some (158,0):=by kernel_rfl
@[go_sem] theorem fplace161_1 : fplace Tryz.prog 161 1 = some (159,1):=by kernel_rfl
@[go_sem] theorem zeroAV161 : zeroAV Tryz.prog 161 = some (.agg [.nilf,.nilf]):=by kernel_rfl
@[go_sem] theorem cellsOf162 : Tryz.prog.cellsOf 162 = 1:=by kernel_rfl
@[go_sem] theorem ldk162 : ldk Tryz.prog 162 = some none:=by kernel_rfl
@[go_sem] theorem zeroAV162 : zeroAV Tryz.prog 162 = some (.nilp):=by kernel_rfl
@[go_sem] theorem cellsOf226 : Tryz.prog.cellsOf 226 = 20:=by kernel_rfl
@[go_sem] theorem ldk226 : ldk Tryz.prog 226 = some (some 20):=by kernel_rfl
@[go_sem] theorem bkind226 : bkind Tryz.prog 226 = .struct [(0,10),(10,10)]:=by kernel_rfl
@[go_sem] theorem fplace226_0 : fplace Tryz.prog 226 0 = some (47,0):=by kernel_rfl
@[go_sem] theorem fplace226_1 : fplace Tryz.prog 226 1 = some (47,10):=by kernel_rfl
end Go.AI
set_option linter.defProp false
namespace Go.AI
open Go.Proofs
def h228 : Hint:=hm [3,387,899,419,65955,16,387,16] [] [] []
@[go_sem] theorem h228_l : h228.lv 0 = [0,1] /\ h228.lv 1 = [0,1,7,8] /\ h228.lv 2 = [0,1,7,8,9] /\ h228.lv 3 = [0,1,5,7,8] /\ h228.lv 4 = [0,1,5,7,8,16] /\ h228.lv 5 = [4] /\ h228.lv 6 = [0,1,7,8] /\ h228.lv 7 = [4]:=by decide +kernel
@[go_sem] def h228_q:=hplain h228 rfl rfl rfl
@[go_sem] theorem h228_t : h228.tk = [] /\ h228.mt = [] /\ h228.pc = []:=⟨rfl,rfl,rfl⟩
theorem h228_k : FK Tryz.prog 228 Tryz.f228 h228:=⟨by kernel_rfl,by kernel_rfl,Tryz.func228,by kernel_rfl⟩
def h229 : Hint:=hm [6,8] [] [] []
@[go_sem] theorem h229_l : h229.lv 0 = [1,2] /\ h229.lv 1 = [3]:=by decide +kernel
@[go_sem] def h229_q:=hplain h229 rfl rfl rfl
@[go_sem] theorem h229_t : h229.tk = [] /\ h229.mt = [] /\ h229.pc = []:=⟨rfl,rfl,rfl⟩
theorem h229_k : FK Tryz.prog 229 Tryz.f229 h229:=⟨by kernel_rfl,by kernel_rfl,Tryz.func229,by kernel_rfl⟩
def h160 : Hint:=hm [25,1049,48,81,65617,48,48] [18] [] [8,11]
@[go_sem] theorem h160_l : h160.lv 0 = [0,3,4] /\ h160.lv 1 = [0,3,4,10] /\ h160.lv 2 = [4,5] /\ h160.lv 3 = [0,4,6] /\ h160.lv 4 = [0,4,6,16] /\ h160.lv 5 = [4,5] /\ h160.lv 6 = [4,5]:=by decide +kernel
@[go_sem] def h160_q:=hplain h160 rfl rfl rfl
@[go_sem] theorem h160_t : h160.tk = [18] /\ h160.mt = [] /\ h160.pc = [8,11]:=⟨rfl,rfl,rfl⟩
theorem h160_k : FK Tryz.prog 160 Tryz.f160 h160:=⟨by kernel_rfl,by kernel_rfl,Tryz.func160,by kernel_rfl⟩
def h161 : Hint:=hm [2,4] [] [] []
@[go_sem] theorem h161_l : h161.lv 0 = [1] /\ h161.lv 1 = [2]:=by decide +kernel
@[go_sem] def h161_q:=hplain h161 rfl rfl rfl
@[go_sem] theorem h161_t : h161.tk = [] /\ h161.mt = [] /\ h161.pc = []:=⟨rfl,rfl,rfl⟩
theorem h161_k : FK Tryz.prog 161 Tryz.f161 h161:=⟨by kernel_rfl,by kernel_rfl,Tryz.func161,by kernel_rfl⟩
end Go.AI
namespace Go.AI
open Go.Proofs
@[go_sem] theorem cellsOf230 : Tryz.prog.cellsOf 230 = 20:=by kernel_rfl
@[go_sem] theorem ldk230 : ldk Tryz.prog 230 = some (some 20):=by kernel_rfl
@[go_sem] theorem fplace230_0 : fplace Tryz.prog 230 0 = some (47,0):=by kernel_rfl
@[go_sem] theorem fplace230_1 : fplace Tryz.prog 230 1 = some (47,10):=by kernel_rfl
@[go_sem] theorem zeroAV230 : zeroAV Tryz.prog 230 = some (.agg [.int .i64 0,.int .i64 0,.int .i64 0,.int .i64 0,.int .i64 0,.int .i64 0,.int .i64 0,.int .i64 0,.int .i64 0,.int .i64 0,.int .i64 0,.int .i64 0,.int .i64 0,.int .i64 0,.int .i64 0,.int .i64 0,.int .i64 0,.int .i64 0,.int .i64 0,.int .i64 0]):=by kernel_rfl
end Go.AI
set_option linter.defProp false
namespace Go.AI
open Go.Proofs
def h177 : Hint:=hm [2,4] [] [] [10]
@[go_sem] theorem h177_l : h177.lv 0 = [1] /\ h177.lv 1 = [2]:=by decide +kernel
@[go_sem] def h177_q:=hplain h177 rfl rfl rfl
@[go_sem] theorem h177_t : h177.tk = [] /\ h177.mt = [] /\ h177.pc = [10]:=⟨rfl,rfl,rfl⟩
theorem h177_k : FK Tryz.prog 177 Tryz.f177 h177:=⟨by kernel_rfl,by kernel_rfl,Tryz.func177,by kernel_rfl⟩
def h174 : Hint:=hm [12,16] [] [] [11,15]
@[go_sem] theorem h174_l : h174.lv 0 = [2,3] /\ h174.lv 1 = [4]:=by decide +kernel
@[go_sem] def h174_q:=hplain h174 rfl rfl rfl
@[go_sem] theorem h174_t : h174.tk = [] /\ h174.mt = [] /\ h174.pc = [11,15]:=⟨rfl,rfl,rfl⟩
theorem h174_k : FK Tryz.prog 174 Tryz.f174 h174:=⟨by kernel_rfl,by kernel_rfl,Tryz.func174,by kernel_rfl⟩
def h175 : Hint:=hm [1,9,25,153,25,25,4] [] [] []
@[go_sem] theorem h175_l : h175.lv 0 = [0] /\ h175.lv 1 = [0,3] /\ h175.lv 2 = [0,3,4] /\ h175.lv 3 = [0,3,4,7] /\ h175.lv 4 = [0,3,4] /\ h175.lv 5 = [0,3,4] /\ h175.lv 6 = [2]:=by decide +kernel
@[go_sem] def h175_q:=hplain h175 rfl rfl rfl
@[go_sem] theorem h175_t : h175.tk = [] /\ h175.mt = [] /\ h175.pc = []:=⟨rfl,rfl,rfl⟩
theorem h175_k : FK Tryz.prog 175 Tryz.f175 h175:=⟨by kernel_rfl,by kernel_rfl,Tryz.func175,by kernel_rfl⟩
def h97 : Hint:=hm [105,262249,786537,256,2359401,256,8650857,256,34360000617,256,70368744439913,617,1536,256,0x100000000000000069,2153,6144,256,8288,40992,0x2000000000000000000000a020,0x6000000000000000000000a020,256,0x100000000000000000000000a020,98336,256,256] [37,56,78,91] [] [44,55,63,77,85,94,99,115]
@[go_sem] theorem h97_l : h97.lv 0 = [0,3,5,6] /\ h97.lv 1 = [0,3,5,6,18] /\ h97.lv 2 = [0,3,5,6,18,19] /\ h97.lv 3 = [8] /\ h97.lv 4 = [0,3,5,6,18,21] /\ h97.lv 5 = [8] /\ h97.lv 6 = [0,3,5,6,18,23] /\ h97.lv 7 = [8] /\ h97.lv 8 = [0,3,5,6,18,35] /\ h97.lv 9 = [8] /\ h97.lv 10 = [0,3,5,6,18,46] /\ h97.lv 11 = [0,3,5,6,9] /\ h97.lv 12 = [9,10] /\ h97.lv 13 = [8] /\ h97.lv 14 = [0,3,5,6,68] /\ h97.lv 15 = [0,3,5,6,11] /\ h97.lv 16 = [11,12] /\ h97.lv 17 = [8] /\ h97.lv 18 = [5,6,13] /\ h97.lv 19 = [5,13,15] /\ h97.lv 20 = [5,13,15,101] /\ h97.lv 21 = [5,13,15,101,102] /\ h97.lv 22 = [8] /\ h97.lv 23 = [5,13,15,108] /\ h97.lv 24 = [5,15,16] /\ h97.lv 25 = [8] /\ h97.lv 26 = [8]:=by decide +kernel
@[go_sem] def h97_q:=hplain h97 rfl rfl rfl
@[go_sem] theorem h97_t : h97.tk = [37,56,78,91] /\ h97.mt = [] /\ h97.pc = [44,55,63,77,85,94,99,115]:=⟨rfl,rfl,rfl⟩
theorem h97_k : FK Tryz.prog 97 Tryz.f97 h97:=⟨by kernel_rfl,by kernel_rfl,Tryz.func97,by kernel_rfl⟩
def h99 : Hint:=hm [92,220,80,64] [] [] [10,23]
@[go_sem] theorem h99_l : h99.lv 0 = [2,3,4,6] /\ h99.lv 1 = [2,3,4,6,7] /\ h99.lv 2 = [4,6] /\ h99.lv 3 = [6]:=by decide +kernel
@[go_sem] def h99_q:=hplain h99 rfl rfl rfl
@[go_sem] theorem h99_t : h99.tk = [] /\ h99.mt = [] /\ h99.pc = [10,23]:=⟨rfl,rfl,rfl⟩
theorem h99_k : FK Tryz.prog 99 Tryz.f99 h99:=⟨by kernel_rfl,by kernel_rfl,Tryz.func99,by kernel_rfl⟩
def h100 : Hint:=hm [1,65,12,12] [7] [] []
@[go_sem] theorem h100_l : h100.lv 0 = [0] /\ h100.lv 1 = [0,6] /\ h100.lv 2 = [2,3] /\ h100.lv 3 = [2,3]:=by decide +kernel
@[go_sem] def h100_q:=hplain h100 rfl rfl rfl
@[go_sem] theorem h100_t : h100.tk = [7] /\ h100.mt = [] /\ h100.pc = []:=⟨rfl,rfl,rfl⟩
theorem h100_k : FK Tryz.prog 100 Tryz.f100 h100:=⟨by kernel_rfl,by kernel_rfl,Tryz.func100,by kernel_rfl⟩
def h236 : Hint:=hm [12,44,172,44,65580,16,8388652,16,16] [] [] []
@[go_sem] theorem h236_l : h236.lv 0 = [2,3] /\ h236.lv 1 = [2,3,5] /\ h236.lv 2 = [2,3,5,7] /\ h236.lv 3 = [2,3,5] /\ h236.lv 4 = [2,3,5,16] /\ h236.lv 5 = [4] /\ h236.lv 6 = [2,3,5,23] /\ h236.lv 7 = [4] /\ h236.lv 8 = [4]:=by decide +kernel
@[go_sem] def h236_q:=hplain h236 rfl rfl rfl
@[go_sem] theorem h236_t : h236.tk = [] /\ h236.mt = [] /\ h236.pc = []:=⟨rfl,rfl,rfl⟩
theorem h236_k : FK Tryz.prog 236 Tryz.f236 h236:=⟨by kernel_rfl,by kernel_rfl,Tryz.func236,by kernel_rfl⟩
def h178 : Hint:=hm [9,41,524329,41,8589934633,16,105,105,97,16] [34,35,40,44,45] [] [17]
@[go_sem] theorem h178_l : h178.lv 0 = [0,3] /\ h178.lv 1 = [0,3,5] /\ h178.lv 2 = [0,3,5,19] /\ h178.lv 3 = [0,3,5] /\ h178.lv 4 = [0,3,5,33] /\ h178.lv 5 = [4] /\ h178.lv 6 = [0,3,5,6] /\ h178.lv 7 = [0,3,5,6] /\ h178.lv 8 = [0,5,6] /\ h178.lv 9 = [4]:=by decide +kernel
@[go_sem] def h178_q:=hplain h178 rfl rfl rfl
@[go_sem] theorem h178_t : h178.tk = [34,35,40,44,45] /\ h178.mt = [] /\ h178.pc = [17]:=⟨rfl,rfl,rfl⟩
theorem h178_k : FK Tryz.prog 178 Tryz.f178 h178:=⟨by kernel_rfl,by kernel_rfl,Tryz.func178,by kernel_rfl⟩
def h101 : Hint:=hm [3,34,98,8290,98,98,16] [8,22] [] [21]
@[go_sem] theorem h101_l : h101.lv 0 = [0,1] /\ h101.lv 1 = [1,5] /\ h101.lv 2 = [1,5,6] /\ h101.lv 3 = [1,5,6,13] /\ h101.lv 4 = [1,5,6] /\ h101.lv 5 = [1,5,6] /\ h101.lv 6 = [4]:=by decide +kernel
@[go_sem] def h101_q:=hplain h101 rfl rfl rfl
@[go_sem] theorem h101_t : h101.tk = [8,22] /\ h101.mt = [] /\ h101.pc = [21]:=⟨rfl,rfl,rfl⟩
theorem h101_k : FK Tryz.prog 101 Tryz.f101 h101:=⟨by kernel_rfl,by kernel_rfl,Tryz.func101,by kernel_rfl⟩
def h102 : Hint:=hm [45,1069,3117,134189,3117,15405,4294982701,768,3117,549755817005,768,768] [] [] [28,36]
@[go_sem] theorem h102_l : h102.lv 0 = [0,2,3,5] /\ h102.lv 1 = [0,2,3,5,10] /\ h102.lv 2 = [0,2,3,5,10,11] /\ h102.lv 3 = [0,2,3,5,10,11,17] /\ h102.lv 4 = [0,2,3,5,10,11] /\ h102.lv 5 = [0,2,3,5,10,11,12,13] /\ h102.lv 6 = [0,2,3,5,10,11,12,13,32] /\ h102.lv 7 = [8,9] /\ h102.lv 8 = [0,2,3,5,10,11] /\ h102.lv 9 = [0,2,3,5,10,11,39] /\ h102.lv 10 = [8,9] /\ h102.lv 11 = [8,9]:=by decide +kernel
@[go_sem] def h102_q:=hplain h102 rfl rfl rfl
@[go_sem] theorem h102_t : h102.tk = [] /\ h102.mt = [] /\ h102.pc = [28,36]:=⟨rfl,rfl,rfl⟩
theorem h102_k : FK Tryz.prog 102 Tryz.f102 h102:=⟨by kernel_rfl,by kernel_rfl,Tryz.func102,by kernel_rfl⟩
def h104 : Hint:=hm [9,41,553,41,131113,16,16] [] [] []
@[go_sem] theorem h104_l : h104.lv 0 = [0,3] /\ h104.lv 1 = [0,3,5] /\ h104.lv 2 = [0,3,5,9] /\ h104.lv 3 = [0,3,5] /\ h104.lv 4 = [0,3,5,17] /\ h104.lv 5 = [4] /\ h104.lv 6 = [4]:=by decide +kernel
@[go_sem] def h104_q:=hplain h104 rfl rfl rfl
@[go_sem] theorem h104_t : h104.tk = [] /\ h104.mt = [] /\ h104.pc = []:=⟨rfl,rfl,rfl⟩
theorem h104_k : FK Tryz.prog 104 Tryz.f104 h104:=⟨by kernel_rfl,by kernel_rfl,Tryz.func104,by kernel_rfl⟩
def h103 : Hint:=hm [105,2153,6185,14377,16791593,59433,17179928617,1792,30761,96297,549755910185,96297,227369,562949953517609,96297,14377,0x4000000000003829,1792,0x20000000000003829,14377,1792] [50] [] [30,47,59]
@[go_sem] theorem h103_l : h103.lv 0 = [0,3,5,6] /\ h103.lv 1 = [0,3,5,6,11] /\ h103.lv 2 = [0,3,5,11,12] /\ h103.lv 3 = [0,3,5,11,12,13] /\ h103.lv 4 = [0,3,5,11,12,13,24] /\ h103.lv 5 = [0,3,5,11,13,14,15] /\ h103.lv 6 = [0,3,5,11,13,14,15,34] /\ h103.lv 7 = [8,9,10] /\ h103.lv 8 = [0,3,5,11,12,13,14] /\ h103.lv 9 = [0,3,5,11,12,13,14,16] /\ h103.lv 10 = [0,3,5,11,12,13,14,16,39] /\ h103.lv 11 = [0,3,5,11,12,13,14,16] /\ h103.lv 12 = [0,3,5,11,12,13,14,16,17] /\ h103.lv 13 = [0,3,5,11,12,13,14,16,49] /\ h103.lv 14 = [0,3,5,11,12,13,14,16] /\ h103.lv 15 = [0,3,5,11,12,13] /\ h103.lv 16 = [0,3,5,11,12,13,62] /\ h103.lv 17 = [8,9,10] /\ h103.lv 18 = [0,3,5,11,12,13,65] /\ h103.lv 19 = [0,3,5,11,12,13] /\ h103.lv 20 = [8,9,10]:=by decide +kernel
@[go_sem] def h103_q:=hplain h103 rfl rfl rfl
@[go_sem] theorem h103_t : h103.tk = [50] /\ h103.mt = [] /\ h103.pc = [30,47,59]:=⟨rfl,rfl,rfl⟩
theorem h103_k : FK Tryz.prog 103 Tryz.f103 h103:=⟨by kernel_rfl,by kernel_rfl,Tryz.func103,by kernel_rfl⟩
def h42 : Hint:=hm [105,8388713,25165929,1088,4294967360,768,768,34368127081,2144,768,0x4000000800069,24681,122880,0x8000000000000000a000,768,768,0x4000000000000000000069,393257,0x10000000000000000000060029,768,768,2621440,768] [26,38,64,102,113] [] [31,41,48,60,71,82,83,96,109,120]
@[go_sem] theorem h42_l : h42.lv 0 = [0,3,5,6] /\ h42.lv 1 = [0,3,5,6,23] /\ h42.lv 2 = [0,3,5,6,23,24] /\ h42.lv 3 = [6,10] /\ h42.lv 4 = [6,32] /\ h42.lv 5 = [8,9] /\ h42.lv 6 = [8,9] /\ h42.lv 7 = [0,3,5,6,23,35] /\ h42.lv 8 = [5,6,11] /\ h42.lv 9 = [8,9] /\ h42.lv 10 = [0,3,5,6,23,50] /\ h42.lv 11 = [0,3,5,6,13,14] /\ h42.lv 12 = [13,14,15,16] /\ h42.lv 13 = [13,15,79] /\ h42.lv 14 = [8,9] /\ h42.lv 15 = [8,9] /\ h42.lv 16 = [0,3,5,6,86] /\ h42.lv 17 = [0,3,5,17,18] /\ h42.lv 18 = [0,3,5,17,18,100] /\ h42.lv 19 = [8,9] /\ h42.lv 20 = [8,9] /\ h42.lv 21 = [19,21] /\ h42.lv 22 = [8,9]:=by decide +kernel
@[go_sem] def h42_q:=hplain h42 rfl rfl rfl
@[go_sem] theorem h42_t : h42.tk = [26,38,64,102,113] /\ h42.mt = [] /\ h42.pc = [31,41,48,60,71,82,83,96,109,120]:=⟨rfl,rfl,rfl⟩
theorem h42_k : FK Tryz.prog 42 Tryz.f42 h42:=⟨by kernel_rfl,by kernel_rfl,Tryz.func42,by kernel_rfl⟩
def h45 : Hint:=hm [3,1027,16,35,16419,35,33554467,16,16] [] [] []
@[go_sem] theorem h45_l : h45.lv 0 = [0,1] /\ h45.lv 1 = [0,1,10] /\ h45.lv 2 = [4] /\ h45.lv 3 = [0,1,5] /\ h45.lv 4 = [0,1,5,14] /\ h45.lv 5 = [0,1,5] /\ h45.lv 6 = [0,1,5,25] /\ h45.lv 7 = [4] /\ h45.lv 8 = [4]:=by decide +kernel
@[go_sem] def h45_q:=hplain h45 rfl rfl rfl
@[go_sem] theorem h45_t : h45.tk = [] /\ h45.mt = [] /\ h45.pc = []:=⟨rfl,rfl,rfl⟩
theorem h45_k : FK Tryz.prog 45 Tryz.f45 h45:=⟨by kernel_rfl,by kernel_rfl,Tryz.func45,by kernel_rfl⟩
def h105 : Hint:=hm [6,70,2118,70,2097222,48,48] [] [] []
@[go_sem] theorem h105_l : h105.lv 0 = [1,2] /\ h105.lv 1 = [1,2,6] /\ h105.lv 2 = [1,2,6,11] /\ h105.lv 3 = [1,2,6] /\ h105.lv 4 = [1,2,6,21] /\ h105.lv 5 = [4,5] /\ h105.lv 6 = [4,5]:=by decide +kernel
@[go_sem] def h105_q:=hplain h105 rfl rfl rfl
@[go_sem] theorem h105_t : h105.tk = [] /\ h105.mt = [] /\ h105.pc = []:=⟨rfl,rfl,rfl⟩
theorem h105_k : FK Tryz.prog 105 Tryz.f105 h105:=⟨by kernel_rfl,by kernel_rfl,Tryz.func105,by kernel_rfl⟩
def h43 : Hint:=hx [465,12497,34359742673,3072,20689,1099511648465,53457,118993,17592186163409,118993,250065,0x4000000001d0d1,118993,53457,839889,0x80000000000004d0d1,53457,3166417,2117841,0x800000000000000000050d1,3072,4198464,12587072,0x800000000000000000c01040,12587072,46141504,0x2000000000000000000000c01040,12587072,3072] [110] [] [] [31,52,62,67,79,84,105] [(5,3)] []
@[go_sem] theorem h43_l : h43.lv 0 = [0,4,6,7,8] /\ h43.lv 1 = [0,4,6,7,12,13] /\ h43.lv 2 = [0,4,6,7,12,35] /\ h43.lv 3 = [10,11] /\ h43.lv 4 = [0,4,6,7,12,14] /\ h43.lv 5 = [0,4,6,7,12,14,40] /\ h43.lv 6 = [0,4,6,7,12,14,15] /\ h43.lv 7 = [0,4,6,7,12,14,15,16] /\ h43.lv 8 = [0,4,6,7,12,14,15,16,44] /\ h43.lv 9 = [0,4,6,7,12,14,15,16] /\ h43.lv 10 = [0,4,6,7,12,14,15,16,17] /\ h43.lv 11 = [0,4,6,7,12,14,15,16,54] /\ h43.lv 12 = [0,4,6,7,12,14,15,16] /\ h43.lv 13 = [0,4,6,7,12,14,15] /\ h43.lv 14 = [0,4,6,7,12,14,15,18,19] /\ h43.lv 15 = [0,4,6,7,12,14,15,18,71] /\ h43.lv 16 = [0,4,6,7,12,14,15] /\ h43.lv 17 = [0,4,6,7,12,14,20,21] /\ h43.lv 18 = [0,4,6,7,12,14,21] /\ h43.lv 19 = [0,4,6,7,12,14,91] /\ h43.lv 20 = [10,11] /\ h43.lv 21 = [6,12,22] /\ h43.lv 22 = [6,12,22,23] /\ h43.lv 23 = [6,12,22,23,95] /\ h43.lv 24 = [6,12,22,23] /\ h43.lv 25 = [6,12,22,23,25] /\ h43.lv 26 = [6,12,22,23,109] /\ h43.lv 27 = [6,12,22,23] /\ h43.lv 28 = [10,11]:=by decide +kernel
@[go_sem] theorem h43_g : h43.ct 0 = none /\ h43.ct 1 = none /\ h43.ct 2 = none /\ h43.ct 3 = none /\ h43.ct 4 = none /\ h43.ct 5 = some 3 /\ h43.ct 6 = none /\ h43.ct 7 = none /\ h43.ct 8 = none /\ h43.ct 9 = none /\ h43.ct 10 = none /\ h43.ct 11 = none /\ h43.ct 12 = none /\ h43.ct 13 = none /\ h43.ct 14 = none /\ h43.ct 15 = none /\ h43.ct 16 = none /\ h43.ct 17 = none /\ h43.ct 18 = none /\ h43.ct 19 = none /\ h43.ct 20 = none /\ h43.ct 21 = none /\ h43.ct 22 = none /\ h43.ct 23 = none /\ h43.ct 24 = none /\ h43.ct 25 = none /\ h43.ct 26 = none /\ h43.ct 27 = none /\ h43.ct 28 = none:=by decide +kernel
@[go_sem] theorem h43_z (k : Nat) : h43.at k = []:=rfl
@[go_sem] theorem h43_y (k : Nat) : h43.dn k = false:=Eq.trans rfl rfl
@[go_sem] theorem h43_t : h43.tk = [110] /\ h43.mt = [] /\ h43.pc = [31,52,62,67,79,84,105]:=⟨rfl,rfl,rfl⟩
theorem h43_k : FK Tryz.prog 43 Tryz.f43 h43:=⟨by kernel_rfl,by kernel_rfl,Tryz.func43,by kernel_rfl⟩
def h106 : Hint:=hm [3,129,48,48] [8] [] []
@[go_sem] theorem h106_l : h106.lv 0 = [0,1] /\ h106.lv 1 = [0,7] /\ h106.lv 2 = [4,5] /\ h106.lv 3 = [4,5]:=by decide +kernel
@[go_sem] def h106_q:=hplain h106 rfl rfl rfl
@[go_sem] theorem h106_t : h106.tk = [8] /\ h106.mt = [] /\ h106.pc = []:=⟨rfl,rfl,rfl⟩
theorem h106_k : FK Tryz.prog 106 Tryz.f106 h106:=⟨by kernel_rfl,by kernel_rfl,Tryz.func106,by kernel_rfl⟩
def h180 : Hint:=hm [12,76,204,108,4194380,16,76,16] [] [] []
@[go_sem] theorem h180_l : h180.lv 0 = [2,3] /\ h180.lv 1 = [2,3,6] /\ h180.lv 2 = [2,3,6,7] /\ h180.lv 3 = [2,3,5,6] /\ h180.lv 4 = [2,3,6,22] /\ h180.lv 5 = [4] /\ h180.lv 6 = [2,3,6] /\ h180.lv 7 = [4]:=by decide +kernel
@[go_sem] def h180_q:=hplain h180 rfl rfl rfl
@[go_sem] theorem h180_t : h180.tk = [] /\ h180.mt = [] /\ h180.pc = []:=⟨rfl,rfl,rfl⟩
theorem h180_k : FK Tryz.prog 180 Tryz.f180 h180:=⟨by kernel_rfl,by kernel_rfl,Tryz.func180,by kernel_rfl⟩
def h238 : Hint:=hm [2,4] [] [] []
@[go_sem] theorem h238_l : h238.lv 0 = [1] /\ h238.lv 1 = [2]:=by decide +kernel
@[go_sem] def h238_q:=hplain h238 rfl rfl rfl
@[go_sem] theorem h238_t : h238.tk = [] /\ h238.mt = [] /\ h238.pc = []:=⟨rfl,rfl,rfl⟩
theorem h238_k : FK Tryz.prog 238 Tryz.f238 h238:=⟨by kernel_rfl,by kernel_rfl,Tryz.func238,by kernel_rfl⟩
def h237 : Hint:=hm [92,220,80,64] [] [] [17,19,24]
@[go_sem] theorem h237_l : h237.lv 0 = [2,3,4,6] /\ h237.lv 1 = [2,3,4,6,7] /\ h237.lv 2 = [4,6] /\ h237.lv 3 = [6]:=by decide +kernel
@[go_sem] def h237_q:=hplain h237 rfl rfl rfl
@[go_sem] theorem h237_t : h237.tk = [] /\ h237.mt = [] /\ h237.pc = [17,19,24]:=⟨rfl,rfl,rfl⟩
theorem h237_k : FK Tryz.prog 237 Tryz.f237 h237:=⟨by kernel_rfl,by kernel_rfl,Tryz.func237,by kernel_rfl⟩
def h182 : Hint:=hm [78,202,64] [] [] [9,20,26]
@[go_sem] theorem h182_l : h182.lv 0 = [1,2,3,6] /\ h182.lv 1 = [1,3,6,7] /\ h182.lv 2 = [6]:=by decide +kernel
@[go_sem] def h182_q:=hplain h182 rfl rfl rfl
@[go_sem] theorem h182_t : h182.tk = [] /\ h182.mt = [] /\ h182.pc = [9,20,26]:=⟨rfl,rfl,rfl⟩
theorem h182_k : FK Tryz.prog 182 Tryz.f182 h182:=⟨by kernel_rfl,by kernel_rfl,Tryz.func182,by kernel_rfl⟩
def h181 : Hint:=hm [22,16] [] [] [9]
@[go_sem] theorem h181_l : h181.lv 0 = [1,2,4] /\ h181.lv 1 = [4]:=by decide +kernel
@[go_sem] def h181_q:=hplain h181 rfl rfl rfl
@[go_sem] theorem h181_t : h181.tk = [] /\ h181.mt = [] /\ h181.pc = [9]:=⟨rfl,rfl,rfl⟩
theorem h181_k : FK Tryz.prog 181 Tryz.f181 h181:=⟨by kernel_rfl,by kernel_rfl,Tryz.func181,by kernel_rfl⟩
def h183 : Hint:=hm [12,16] [] [] [11,14]
@[go_sem] theorem h183_l : h183.lv 0 = [2,3] /\ h183.lv 1 = [4]:=by decide +kernel
@[go_sem] def h183_q:=hplain h183 rfl rfl rfl
@[go_sem] theorem h183_t : h183.tk = [] /\ h183.mt = [] /\ h183.pc = [11,14]:=⟨rfl,rfl,rfl⟩
theorem h183_k : FK Tryz.prog 183 Tryz.f183 h183:=⟨by kernel_rfl,by kernel_rfl,Tryz.func183,by kernel_rfl⟩
def h179 : Hint:=hm [124,4220,12412,12412,128,528508,128,2147487864,128,17592186048632,17592186044536,0x1000000000000068,128,128,352,0x400000000000000000160,0xc00000000000000000160,128,0x80000000000000000000160,128,1056,128] [] [42,56,73] [42,56,73,78,88,90,98,100,103]
@[go_sem] theorem h179_l : h179.lv 0 = [2,3,4,5,6] /\ h179.lv 1 = [2,3,4,5,6,12] /\ h179.lv 2 = [2,3,4,5,6,12,13] /\ h179.lv 3 = [2,3,4,5,6,12,13] /\ h179.lv 4 = [7] /\ h179.lv 5 = [2,3,4,5,6,12,19] /\ h179.lv 6 = [7] /\ h179.lv 7 = [3,4,5,6,12,31] /\ h179.lv 8 = [7] /\ h179.lv 9 = [3,4,5,6,12,44] /\ h179.lv 10 = [3,4,5,6,44] /\ h179.lv 11 = [3,5,6,60] /\ h179.lv 12 = [7] /\ h179.lv 13 = [7] /\ h179.lv 14 = [5,6,8] /\ h179.lv 15 = [5,6,8,82] /\ h179.lv 16 = [5,6,8,82,83] /\ h179.lv 17 = [7] /\ h179.lv 18 = [5,6,8,91] /\ h179.lv 19 = [7] /\ h179.lv 20 = [5,10] /\ h179.lv 21 = [7]:=by decide +kernel
@[go_sem] def h179_q:=hplain h179 rfl rfl rfl
@[go_sem] theorem h179_t : h179.tk = [] /\ h179.mt = [42,56,73] /\ h179.pc = [42,56,73,78,88,90,98,100,103]:=⟨rfl,rfl,rfl⟩
theorem h179_k : FK Tryz.prog 179 Tryz.f179 h179:=⟨by kernel_rfl,by kernel_rfl,Tryz.func179,by kernel_rfl⟩
def h185 : Hint:=hm [28,92,220,124,92,92,16] [] [] []
@[go_sem] theorem h185_l : h185.lv 0 = [2,3,4] /\ h185.lv 1 = [2,3,4,6] /\ h185.lv 2 = [2,3,4,6,7] /\ h185.lv 3 = [2,3,4,5,6] /\ h185.lv 4 = [2,3,4,6] /\ h185.lv 5 = [2,3,4,6] /\ h185.lv 6 = [4]:=by decide +kernel
@[go_sem] def h185_q:=hplain h185 rfl rfl rfl
@[go_sem] theorem h185_t : h185.tk = [] /\ h185.mt = [] /\ h185.pc = []:=⟨rfl,rfl,rfl⟩
theorem h185_k : FK Tryz.prog 185 Tryz.f185 h185:=⟨by kernel_rfl,by kernel_rfl,Tryz.func185,by kernel_rfl⟩
def h186 : Hint:=hm [22,16] [] [] [7]
@[go_sem] theorem h186_l : h186.lv 0 = [1,2,4] /\ h186.lv 1 = [4]:=by decide +kernel
@[go_sem] def h186_q:=hplain h186 rfl rfl rfl
@[go_sem] theorem h186_t : h186.tk = [] /\ h186.mt = [] /\ h186.pc = [7]:=⟨rfl,rfl,rfl⟩
theorem h186_k : FK Tryz.prog 186 Tryz.f186 h186:=⟨by kernel_rfl,by kernel_rfl,Tryz.func186,by kernel_rfl⟩
def h187 : Hint:=hm [3,4097,48,48] [13] [] []
@[go_sem] theorem h187_l : h187.lv 0 = [0,1] /\ h187.lv 1 = [0,12] /\ h187.lv 2 = [4,5] /\ h187.lv 3 = [4,5]:=by decide +kernel
@[go_sem] def h187_q:=hplain h187 rfl rfl rfl
@[go_sem] theorem h187_t : h187.tk = [13] /\ h187.mt = [] /\ h187.pc = []:=⟨rfl,rfl,rfl⟩
theorem h187_k : FK Tryz.prog 187 Tryz.f187 h187:=⟨by kernel_rfl,by kernel_rfl,Tryz.func187,by kernel_rfl⟩
def h321 : Hint:=hm [3,35,99,2115,4096,16,16,8195,16,65539,16,524288,16,16] [] [] [8,10]
@[go_sem] theorem h321_l : h321.lv 0 = [0,1] /\ h321.lv 1 = [0,1,5] /\ h321.lv 2 = [0,1,5,6] /\ h321.lv 3 = [0,1,6,11] /\ h321.lv 4 = [12] /\ h321.lv 5 = [4] /\ h321.lv 6 = [4] /\ h321.lv 7 = [0,1,13] /\ h321.lv 8 = [4] /\ h321.lv 9 = [0,1,16] /\ h321.lv 10 = [4] /\ h321.lv 11 = [19] /\ h321.lv 12 = [4] /\ h321.lv 13 = [4]:=by decide +kernel
@[go_sem] def h321_q:=hplain h321 rfl rfl rfl
@[go_sem] theorem h321_t : h321.tk = [] /\ h321.mt = [] /\ h321.pc = [8,10]:=⟨rfl,rfl,rfl⟩
theorem h321_k : FK Tryz.prog 321 Tryz.f321 h321:=⟨by kernel_rfl,by kernel_rfl,Tryz.func321,by kernel_rfl⟩
def h304 : Hint:=hm [3,3587,7683,3683,527971,16,3779,3843,268439299,16,3587,34359738368,16,16] [31,33] [] [26]
@[go_sem] theorem h304_l : h304.lv 0 = [0,1] /\ h304.lv 1 = [0,1,9,10,11] /\ h304.lv 2 = [0,1,9,10,11,12] /\ h304.lv 3 = [0,1,5,6,9,10,11] /\ h304.lv 4 = [0,1,5,6,9,10,11,19] /\ h304.lv 5 = [4] /\ h304.lv 6 = [0,1,6,7,9,10,11] /\ h304.lv 7 = [0,1,8,9,10,11] /\ h304.lv 8 = [0,1,8,9,10,11,28] /\ h304.lv 9 = [4] /\ h304.lv 10 = [0,1,9,10,11] /\ h304.lv 11 = [35] /\ h304.lv 12 = [4] /\ h304.lv 13 = [4]:=by decide +kernel
@[go_sem] def h304_q:=hplain h304 rfl rfl rfl
@[go_sem] theorem h304_t : h304.tk = [31,33] /\ h304.mt = [] /\ h304.pc = [26]:=⟨rfl,rfl,rfl⟩
theorem h304_k : FK Tryz.prog 304 Tryz.f304 h304:=⟨by kernel_rfl,by kernel_rfl,Tryz.func304,by kernel_rfl⟩
def h278 : Hint:=hm [12,16] [] [5,6] []
@[go_sem] theorem h278_l : h278.lv 0 = [2,3] /\ h278.lv 1 = [4]:=by decide +kernel
@[go_sem] def h278_q:=hplain h278 rfl rfl rfl
@[go_sem] theorem h278_t : h278.tk = [] /\ h278.mt = [5,6] /\ h278.pc = []:=⟨rfl,rfl,rfl⟩
theorem h278_k : FK Tryz.prog 278 Tryz.f278 h278:=⟨by kernel_rfl,by kernel_rfl,Tryz.func278,by kernel_rfl⟩
def h277 : Hint:=hx [8199,7,23,2097159,23,33554439,23,55,1073741879,55,137438953511,39,70368744177671] [] [] [] [20] [] [9,11]
@[go_sem] theorem h277_l : h277.lv 0 = [0,1,2,13] /\ h277.lv 1 = [0,1,2] /\ h277.lv 2 = [0,1,2,4] /\ h277.lv 3 = [0,1,2,21] /\ h277.lv 4 = [0,1,2,4] /\ h277.lv 5 = [0,1,2,25] /\ h277.lv 6 = [0,1,2,4] /\ h277.lv 7 = [0,1,2,4,5] /\ h277.lv 8 = [0,1,2,4,5,30] /\ h277.lv 9 = [0,1,2,4,5] /\ h277.lv 10 = [0,1,2,5,37] /\ h277.lv 11 = [0,1,2,5] /\ h277.lv 12 = [0,1,2,46]:=by decide +kernel
@[go_sem] theorem h277_g (k : Nat) : h277.ct k = none:=rfl
@[go_sem] theorem h277_z (k : Nat) : h277.at k = []:=rfl
@[go_sem] theorem h277_y : h277.dn 0 = false /\ h277.dn 1 = false /\ h277.dn 2 = false /\ h277.dn 3 = false /\ h277.dn 4 = false /\ h277.dn 5 = false /\ h277.dn 6 = false /\ h277.dn 7 = false /\ h277.dn 8 = false /\ h277.dn 9 = true /\ h277.dn 10 = false /\ h277.dn 11 = true /\ h277.dn 12 = false:=by decide +kernel
@[go_sem] theorem h277_t : h277.tk = [] /\ h277.mt = [] /\ h277.pc = [20]:=⟨rfl,rfl,rfl⟩
theorem h277_k : FK Tryz.prog 277 Tryz.f277 h277:=⟨by kernel_rfl,by kernel_rfl,Tryz.func277,by kernel_rfl⟩
def h239 : Hint:=hm [12,16] [] [] []
@[go_sem] theorem h239_l : h239.lv 0 = [2,3] /\ h239.lv 1 = [4]:=by decide +kernel
@[go_sem] def h239_q:=hplain h239 rfl rfl rfl
theorem h239_k : FK Tryz.prog 239 Tryz.f239 h239:=⟨by kernel_rfl,by kernel_rfl,Tryz.func239,by kernel_rfl⟩
def h188 : Hint:=hm [3,35,544,96,1,16] [7,8,11] [5,14] []
@[go_sem] theorem h188_l : h188.lv 0 = [0,1] /\ h188.lv 1 = [0,1,5] /\ h188.lv 2 = [5,9] /\ h188.lv 3 = [5,6] /\ h188.lv 4 = [0] /\ h188.lv 5 = [4]:=by decide +kernel
@[go_sem] def h188_q:=hplain h188 rfl rfl rfl
@[go_sem] theorem h188_t : h188.tk = [7,8,11] /\ h188.mt = [5,14] /\ h188.pc = []:=⟨rfl,rfl,rfl⟩
theorem h188_k : FK Tryz.prog 188 Tryz.f188 h188:=⟨by kernel_rfl,by kernel_rfl,Tryz.func188,by kernel_rfl⟩
def h189 : Hint:=hx [21,277,789,115473,246545,117009,127249,115473,549755929361,115473,192] [14,31,32,41] [27] [(6,[(8,none,true)])] [27] [] []
@[go_sem] theorem h189_l : h189.lv 0 = [0,2,4] /\ h189.lv 1 = [0,2,4,8] /\ h189.lv 2 = [0,2,4,8,9] /\ h189.lv 3 = [0,4,8,9,14,15,16] /\ h189.lv 4 = [0,4,8,9,14,15,16,17] /\ h189.lv 5 = [0,4,8,11,14,15,16] /\ h189.lv 6 = [0,4,8,12,13,14,15,16] /\ h189.lv 7 = [0,4,8,9,14,15,16] /\ h189.lv 8 = [0,4,8,9,14,15,16,39] /\ h189.lv 9 = [0,4,8,9,14,15,16] /\ h189.lv 10 = [6,7]:=by decide +kernel
@[go_sem] theorem h189_g (k : Nat) : h189.ct k = none:=rfl
@[go_sem] theorem h189_z : h189.at 0 = [] /\ h189.at 1 = [] /\ h189.at 2 = [] /\ h189.at 3 = [] /\ h189.at 4 = [] /\ h189.at 5 = [] /\ h189.at 6 = [(8,none,true)] /\ h189.at 7 = [] /\ h189.at 8 = [] /\ h189.at 9 = [] /\ h189.at 10 = []:=by decide +kernel
@[go_sem] theorem h189_y (k : Nat) : h189.dn k = false:=Eq.trans rfl rfl
@[go_sem] theorem h189_t : h189.tk = [14,31,32,41] /\ h189.mt = [27] /\ h189.pc = [27]:=⟨rfl,rfl,rfl⟩
theorem h189_k : FK Tryz.prog 189 Tryz.f189 h189:=⟨by kernel_rfl,by kernel_rfl,Tryz.func189,by kernel_rfl⟩
def h279 : Hint:=hm [3,387,899,419,65955,16,387,16] [] [] []
@[go_sem] theorem h279_l : h279.lv 0 = [0,1] /\ h279.lv 1 = [0,1,7,8] /\ h279.lv 2 = [0,1,7,8,9] /\ h279.lv 3 = [0,1,5,7,8] /\ h279.lv 4 = [0,1,5,7,8,16] /\ h279.lv 5 = [4] /\ h279.lv 6 = [0,1,7,8] /\ h279.lv 7 = [4]:=by decide +kernel
@[go_sem] def h279_q:=hplain h279 rfl rfl rfl
@[go_sem] theorem h279_t : h279.tk = [] /\ h279.mt = [] /\ h279.pc = []:=⟨rfl,rfl,rfl⟩
theorem h279_k : FK Tryz.prog 279 Tryz.f279 h279:=⟨by kernel_rfl,by kernel_rfl,Tryz.func279,by kernel_rfl⟩
def h240 : Hint:=hm [3,35,4131,16,99,524387,99,227,536871139,99,99,33,16] [13,39] [] []
@[go_sem] theorem h240_l : h240.lv 0 = [0,1] /\ h240.lv 1 = [0,1,5] /\ h240.lv 2 = [0,1,5,12] /\ h240.lv 3 = [4] /\ h240.lv 4 = [0,1,5,6] /\ h240.lv 5 = [0,1,5,6,19] /\ h240.lv 6 = [0,1,5,6] /\ h240.lv 7 = [0,1,5,6,7] /\ h240.lv 8 = [0,1,5,6,7,29] /\ h240.lv 9 = [0,1,5,6] /\ h240.lv 10 = [0,1,5,6] /\ h240.lv 11 = [0,5] /\ h240.lv 12 = [4]:=by decide +kernel
@[go_sem] def h240_q:=hplain h240 rfl rfl rfl
@[go_sem] theorem h240_t : h240.tk = [13,39] /\ h240.mt = [] /\ h240.pc = []:=⟨rfl,rfl,rfl⟩
theorem h240_k : FK Tryz.prog 240 Tryz.f240 h240:=⟨by kernel_rfl,by kernel_rfl,Tryz.func240,by kernel_rfl⟩
def h280 : Hint:=hm [21,277,1813,132885,3861,2147487509,1813,1813,192] [41] [] [30,46]
@[go_sem] theorem h280_l : h280.lv 0 = [0,2,4] /\ h280.lv 1 = [0,2,4,8] /\ h280.lv 2 = [0,2,4,8,9,10] /\ h280.lv 3 = [0,2,4,8,9,10,17] /\ h280.lv 4 = [0,2,4,8,9,10,11] /\ h280.lv 5 = [0,2,4,8,9,10,11,31] /\ h280.lv 6 = [0,2,4,8,9,10] /\ h280.lv 7 = [0,2,4,8,9,10] /\ h280.lv 8 = [6,7]:=by decide +kernel
@[go_sem] def h280_q:=hplain h280 rfl rfl rfl
@[go_sem] theorem h280_t : h280.tk = [41] /\ h280.mt = [] /\ h280.pc = [30,46]:=⟨rfl,rfl,rfl⟩
theorem h280_k : FK Tryz.prog 280 Tryz.f280 h280:=⟨by kernel_rfl,by kernel_rfl,Tryz.func280,by kernel_rfl⟩
def h242 : Hint:=hm [9,64,16] [8] [] [10]
@[go_sem] theorem h242_l : h242.lv 0 = [0,3] /\ h242.lv 1 = [6] /\ h242.lv 2 = [4]:=by decide +kernel
@[go_sem] def h242_q:=hplain h242 rfl rfl rfl
@[go_sem] theorem h242_t : h242.tk = [8] /\ h242.mt = [] /\ h242.pc = [10]:=⟨rfl,rfl,rfl⟩
theorem h242_k : FK Tryz.prog 242 Tryz.f242 h242:=⟨by kernel_rfl,by kernel_rfl,Tryz.func242,by kernel_rfl⟩
def h241 : Hint:=hm [6,8] [] [] [6]
@[go_sem] theorem h241_l : h241.lv 0 = [1,2] /\ h241.lv 1 = [3]:=by decide +kernel
@[go_sem] def h241_q:=hplain h241 rfl rfl rfl
@[go_sem] theorem h241_t : h241.tk = [] /\ h241.mt = [] /\ h241.pc = [6]:=⟨rfl,rfl,rfl⟩
theorem h241_k : FK Tryz.prog 241 Tryz.f241 h241:=⟨by kernel_rfl,by kernel_rfl,Tryz.func241,by kernel_rfl⟩
def h190 : Hint:=hx [49,529,3601,3601,13841,11793,11793,274877910545,448,2199023259153,448] [22,26] [] [(5,[(11,none,true)])] [] [] []
@[go_sem] theorem h190_l : h190.lv 0 = [0,4,5] /\ h190.lv 1 = [0,4,9] /\ h190.lv 2 = [0,4,9,10,11] /\ h190.lv 3 = [0,4,9,10,11] /\ h190.lv 4 = [0,4,9,10,12,13] /\ h190.lv 5 = [0,4,9,10,11,13] /\ h190.lv 6 = [0,4,9,10,11,13] /\ h190.lv 7 = [0,4,9,10,11,38] /\ h190.lv 8 = [6,7,8] /\ h190.lv 9 = [0,4,9,10,11,41] /\ h190.lv 10 = [6,7,8]:=by decide +kernel
@[go_sem] theorem h190_g (k : Nat) : h190.ct k = none:=rfl
@[go_sem] theorem h190_z : h190.at 0 = [] /\ h190.at 1 = [] /\ h190.at 2 = [] /\ h190.at 3 = [] /\ h190.at 4 = [] /\ h190.at 5 = [(11,none,true)] /\ h190.at 6 = [] /\ h190.at 7 = [] /\ h190.at 8 = [] /\ h190.at 9 = [] /\ h190.at 10 = []:=by decide +kernel
@[go_sem] theorem h190_y (k : Nat) : h190.dn k = false:=Eq.trans rfl rfl
@[go_sem] theorem h190_t : h190.tk = [22,26] /\ h190.mt = [] /\ h190.pc = []:=⟨rfl,rfl,rfl⟩
theorem h190_k : FK Tryz.prog 190 Tryz.f190 h190:=⟨by kernel_rfl,by kernel_rfl,Tryz.func190,by kernel_rfl⟩
def h184 : Hint:=hm [60,1048636,3145788,2147483680,192,192,17180917820,304,192,0x4000000100034,3124,15360,192,0x10000000000000000000034,49172,0x100000000000000000000004014,192,192,327680,192] [78,79,110,125] [30,62,75,100,111,121] [30,40,46,48,62,75,85,100]
@[go_sem] theorem h184_l : h184.lv 0 = [2,3,4,5] /\ h184.lv 1 = [2,3,4,5,20] /\ h184.lv 2 = [2,3,4,5,20,21] /\ h184.lv 3 = [5,31] /\ h184.lv 4 = [6,7] /\ h184.lv 5 = [6,7] /\ h184.lv 6 = [2,3,4,5,20,34] /\ h184.lv 7 = [4,5,8] /\ h184.lv 8 = [6,7] /\ h184.lv 9 = [2,4,5,20,50] /\ h184.lv 10 = [2,4,5,10,11] /\ h184.lv 11 = [10,11,12,13] /\ h184.lv 12 = [6,7] /\ h184.lv 13 = [2,4,5,88] /\ h184.lv 14 = [2,4,14,15] /\ h184.lv 15 = [2,4,14,104] /\ h184.lv 16 = [6,7] /\ h184.lv 17 = [6,7] /\ h184.lv 18 = [16,18] /\ h184.lv 19 = [6,7]:=by decide +kernel
@[go_sem] def h184_q:=hplain h184 rfl rfl rfl
@[go_sem] theorem h184_t : h184.tk = [78,79,110,125] /\ h184.mt = [30,62,75,100,111,121] /\ h184.pc = [30,40,46,48,62,75,85,100]:=⟨rfl,rfl,rfl⟩
theorem h184_k : FK Tryz.prog 184 Tryz.f184 h184:=⟨by kernel_rfl,by kernel_rfl,Tryz.func184,by kernel_rfl⟩
def h107 : Hint:=hm [12,44,36,32,16] [] [] []
@[go_sem] theorem h107_l : h107.lv 0 = [2,3] /\ h107.lv 1 = [2,3,5] /\ h107.lv 2 = [2,5] /\ h107.lv 3 = [5] /\ h107.lv 4 = [4]:=by decide +kernel
@[go_sem] def h107_q:=hplain h107 rfl rfl rfl
@[go_sem] theorem h107_t : h107.tk = [] /\ h107.mt = [] /\ h107.pc = []:=⟨rfl,rfl,rfl⟩
theorem h107_k : FK Tryz.prog 107 Tryz.f107 h107:=⟨by kernel_rfl,by kernel_rfl,Tryz.func107,by kernel_rfl⟩
def h44 : Hint:=hx [105,768] [10] [12,18] [] [18,21] [] [2006,2007]
@[go_sem] theorem h44_l : h44.lv 0 = [0,3,5,6] /\ h44.lv 1 = [8,9]:=by decide +kernel
@[go_sem] theorem h44_g (k : Nat) : h44.ct k = none:=rfl
@[go_sem] theorem h44_z (k : Nat) : h44.at k = []:=rfl
@[go_sem] theorem h44_y : h44.dn 0 = false /\ h44.dn 1 = true:=by decide +kernel
@[go_sem] theorem h44_t : h44.tk = [10] /\ h44.mt = [12,18] /\ h44.pc = [18,21]:=⟨rfl,rfl,rfl⟩
theorem h44_k : FK Tryz.prog 44 Tryz.f44 h44:=⟨by kernel_rfl,by kernel_rfl,Tryz.func44,by kernel_rfl⟩
def h8 : Hint:=hm [372,2420,8796093024628,1024,6512,14704,0x2000000000003970,1024,63856,256304,0x8000000000000000016930,1024,870400,1024] [100,109,110] [] [20,23,27,58,60,69,79,95,102,111]
@[go_sem] theorem h8_l : h8.lv 0 = [2,4,5,6,8] /\ h8.lv 1 = [2,4,5,6,8,11] /\ h8.lv 2 = [2,4,5,6,8,11,43] /\ h8.lv 3 = [10] /\ h8.lv 4 = [4,5,6,8,11,12] /\ h8.lv 5 = [4,5,6,8,11,12,13] /\ h8.lv 6 = [4,5,6,8,11,12,13,61] /\ h8.lv 7 = [10] /\ h8.lv 8 = [4,5,6,8,11,12,13,14,15] /\ h8.lv 9 = [4,5,8,11,13,14,15,16,17] /\ h8.lv 10 = [4,5,8,11,13,14,16,87] /\ h8.lv 11 = [10] /\ h8.lv 12 = [11,14,16,18,19] /\ h8.lv 13 = [10]:=by decide +kernel
@[go_sem] def h8_q:=hplain h8 rfl rfl rfl
@[go_sem] theorem h8_t : h8.tk = [100,109,110] /\ h8.mt = [] /\ h8.pc = [20,23,27,58,60,69,79,95,102,111]:=⟨rfl,rfl,rfl⟩
theorem h8_k : FK Tryz.prog 8 Tryz.f8 h8:=⟨by kernel_rfl,by kernel_rfl,Tryz.func8,by kernel_rfl⟩
def h325 : Hint:=hm [1,4] [] [] []
@[go_sem] theorem h325_l : h325.lv 0 = [0] /\ h325.lv 1 = [2]:=by decide +kernel
@[go_sem] def h325_q:=hplain h325 rfl rfl rfl
@[go_sem] theorem h325_t : h325.tk = [] /\ h325.mt = [] /\ h325.pc = []:=⟨rfl,rfl,rfl⟩
theorem h325_k : FK Tryz.prog 325 Tryz.f325 h325:=⟨by kernel_rfl,by kernel_rfl,Tryz.func325,by kernel_rfl⟩
end Go.AI
