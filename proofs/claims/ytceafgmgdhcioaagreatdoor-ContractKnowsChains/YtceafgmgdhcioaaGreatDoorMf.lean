/- Closed facts about the program's types. Printed by fa.py. -/
import Derived.Test.YtceafgmgdhcioaaGreatDoorProg
import Derived.Test.YtceafgmgdhcioaaGreatDoorMj
import Derived.KernelRfl
set_option linter.unusedSimpArgs false
set_option linter.unusedVariables false
namespace Go.AI
open Go.Proofs
@[go_sem] theorem cellsOf3 : Tryz.prog.cellsOf 3 = 1:=by kernel_rfl
@[go_sem] theorem bytesOf3 : Tryz.prog.bytesOf 3 = 8:=by kernel_rfl
@[go_sem] theorem ldk3 : ldk Tryz.prog 3 = some none:=by kernel_rfl
@[go_sem] theorem und3 : Tryz.prog.underlying 3 = some (.int .i64):=by kernel_rfl
@[go_sem] theorem zeroOk3 : zeroOk Tryz.prog 3 = true:=by kernel_rfl
@[go_sem] theorem info3 : (Tryz.prog.info? 3).isSome = true:=by kernel_rfl
@[go_sem] theorem zeroAV3 : zeroAV Tryz.prog 3 = some (.int .i64 0):=by kernel_rfl
@[go_sem] theorem cellsOf4 : Tryz.prog.cellsOf 4 = 1:=by kernel_rfl
@[go_sem] theorem bytesOf4 : Tryz.prog.bytesOf 4 = 1:=by kernel_rfl
@[go_sem] theorem ldk4 : ldk Tryz.prog 4 = some none:=by kernel_rfl
@[go_sem] theorem isBool4 : isBool Tryz.prog 4 = true:=by kernel_rfl
@[go_sem] theorem info4 : (Tryz.prog.info? 4).isSome = true:=by kernel_rfl
@[go_sem] theorem zeroAV4 : zeroAV Tryz.prog 4 = some (.bool false):=by kernel_rfl
@[go_sem] theorem cellsOf9 : Tryz.prog.cellsOf 9 = 1:=by kernel_rfl
@[go_sem] theorem bytesOf9 : Tryz.prog.bytesOf 9 = 16:=by kernel_rfl
@[go_sem] theorem ldk9 : ldk Tryz.prog 9 = some none:=by kernel_rfl
@[go_sem] theorem und9 : Tryz.prog.underlying 9 = some .string:=by kernel_rfl
@[go_sem] theorem zeroOk9 : zeroOk Tryz.prog 9 = true:=by kernel_rfl
@[go_sem] theorem info9 : (Tryz.prog.info? 9).isSome = true:=by kernel_rfl
@[go_sem] theorem cellsOf22 : Tryz.prog.cellsOf 22 = 1:=by kernel_rfl
@[go_sem] theorem ldk22 : ldk Tryz.prog 22 = some none:=by kernel_rfl
@[go_sem] theorem und22 : Tryz.prog.underlying 22 = some (.slice 105):=by kernel_rfl
@[go_sem] theorem cellsOf23 : Tryz.prog.cellsOf 23 = 1:=by kernel_rfl
@[go_sem] theorem ldk23 : ldk Tryz.prog 23 = some none:=by kernel_rfl
@[go_sem] theorem und23 : Tryz.prog.underlying 23 = some (.slice 136):=by kernel_rfl
@[go_sem] theorem cellsOf24 : Tryz.prog.cellsOf 24 = 1:=by kernel_rfl
@[go_sem] theorem ldk24 : ldk Tryz.prog 24 = some none:=by kernel_rfl
@[go_sem] theorem und24 : Tryz.prog.underlying 24 = some (.slice 77):=by kernel_rfl
@[go_sem] theorem cellsOf26 : Tryz.prog.cellsOf 26 = 3:=by kernel_rfl
@[go_sem] theorem ldk26 : ldk Tryz.prog 26 = some (some 3):=by kernel_rfl
@[go_sem] theorem fplace26_0 : fplace Tryz.prog 26 0 = some (22,0):=by kernel_rfl
@[go_sem] theorem fplace26_1 : fplace Tryz.prog 26 1 = some (23,1):=by kernel_rfl
@[go_sem] theorem fplace26_2 : fplace Tryz.prog 26 2 = some (24,2):=by kernel_rfl
@[go_sem] theorem cellsOf27 : Tryz.prog.cellsOf 27 = 1:=by kernel_rfl
@[go_sem] theorem ldk27 : ldk Tryz.prog 27 = some none:=by kernel_rfl
@[go_sem] theorem und27 : Tryz.prog.underlying 27 = some (.slice 87):=by kernel_rfl
@[go_sem] theorem isSl27 : isSl Tryz.prog 27 = true:=by kernel_rfl
@[go_sem] theorem cellsOf28 : Tryz.prog.cellsOf 28 = 1:=by kernel_rfl
@[go_sem] theorem ldk28 : ldk Tryz.prog 28 = some none:=by kernel_rfl
@[go_sem] theorem und28 : Tryz.prog.underlying 28 = some (.slice 53):=by kernel_rfl
@[go_sem] theorem cellsOf29 : Tryz.prog.cellsOf 29 = 1:=by kernel_rfl
@[go_sem] theorem ldk29 : ldk Tryz.prog 29 = some none:=by kernel_rfl
@[go_sem] theorem und29 : Tryz.prog.underlying 29 = some (.slice 58):=by kernel_rfl
@[go_sem] theorem cellsOf31 : Tryz.prog.cellsOf 31 = 6:=by kernel_rfl
@[go_sem] theorem ldk31 : ldk Tryz.prog 31 = some (some 6):=by kernel_rfl
@[go_sem] theorem bkind31 : bkind Tryz.prog 31 = .struct [(0,3),(3,1),(4,1),(5,1)]:=by kernel_rfl
@[go_sem] theorem fplace31_0 : fplace Tryz.prog 31 0 = some (26,0):=by kernel_rfl
@[go_sem] theorem fplace31_1 : fplace Tryz.prog 31 1 = some (27,3):=by kernel_rfl
@[go_sem] theorem fplace31_2 : fplace Tryz.prog 31 2 = some (28,4):=by kernel_rfl
@[go_sem] theorem fplace31_3 : fplace Tryz.prog 31 3 = some (29,5):=by kernel_rfl
@[go_sem] theorem cellsOf35 : Tryz.prog.cellsOf 35 = 1:=by kernel_rfl
@[go_sem] theorem ldk35 : ldk Tryz.prog 35 = some none:=by kernel_rfl
@[go_sem] theorem zeroAV35 : zeroAV Tryz.prog 35 = some (.int .i64 0):=by kernel_rfl
@[go_sem] theorem cellsOf38 : Tryz.prog.cellsOf 38 = 1:=by kernel_rfl
@[go_sem] theorem bytesOf38 : Tryz.prog.bytesOf 38 = 24:=by kernel_rfl
@[go_sem] theorem ldk38 : ldk Tryz.prog 38 = some none:=by kernel_rfl
@[go_sem] theorem und38 : Tryz.prog.underlying 38 = some (.slice 3):=by kernel_rfl
@[go_sem] theorem isSl38 : isSl Tryz.prog 38 = true:=by kernel_rfl
@[go_sem] theorem zeroOk38 : zeroOk Tryz.prog 38 = true:=by kernel_rfl
@[go_sem] theorem cellsOf46 : Tryz.prog.cellsOf 46 = 1:=by kernel_rfl
@[go_sem] theorem ldk46 : ldk Tryz.prog 46 = some none:=by kernel_rfl
@[go_sem] theorem und46 : Tryz.prog.underlying 46 = some (.slice 92):=by kernel_rfl
@[go_sem] theorem cellsOf47 : Tryz.prog.cellsOf 47 = 1:=by kernel_rfl
@[go_sem] theorem ldk47 : ldk Tryz.prog 47 = some none:=by kernel_rfl
@[go_sem] theorem und47 : Tryz.prog.underlying 47 = some (.slice 139):=by kernel_rfl
@[go_sem] theorem cellsOf49 : Tryz.prog.cellsOf 49 = 1:=by kernel_rfl
@[go_sem] theorem ldk49 : ldk Tryz.prog 49 = some none:=by kernel_rfl
@[go_sem] theorem und49 : Tryz.prog.underlying 49 = some (.slice 114):=by kernel_rfl
@[go_sem] theorem cellsOf50 : Tryz.prog.cellsOf 50 = 1:=by kernel_rfl
@[go_sem] theorem ldk50 : ldk Tryz.prog 50 = some none:=by kernel_rfl
@[go_sem] theorem und50 : Tryz.prog.underlying 50 = some (.slice 145):=by kernel_rfl
@[go_sem] theorem cellsOf51 : Tryz.prog.cellsOf 51 = 1:=by kernel_rfl
@[go_sem] theorem ldk51 : ldk Tryz.prog 51 = some none:=by kernel_rfl
@[go_sem] theorem und51 : Tryz.prog.underlying 51 = some (.slice 148):=by kernel_rfl
@[go_sem] theorem cellsOf53 : Tryz.prog.cellsOf 53 = 6:=by kernel_rfl
@[go_sem] theorem ldk53 : ldk Tryz.prog 53 = some (some 6):=by kernel_rfl
@[go_sem] theorem zeroOk53 : zeroOk Tryz.prog 53 = true:=by kernel_rfl
@[go_sem] theorem fplace53_0 : fplace Tryz.prog 53 0 = some (9,0):=by kernel_rfl
@[go_sem] theorem fplace53_1 : fplace Tryz.prog 53 1 = some (46,1):=by kernel_rfl
@[go_sem] theorem fplace53_2 : fplace Tryz.prog 53 2 = some (47,2):=by kernel_rfl
@[go_sem] theorem fplace53_3 : fplace Tryz.prog 53 3 = some (49,3):=by kernel_rfl
@[go_sem] theorem fplace53_4 : fplace Tryz.prog 53 4 = some (50,4):=by kernel_rfl
@[go_sem] theorem fplace53_5 : fplace Tryz.prog 53 5 = some (51,5):=by kernel_rfl
@[go_sem] theorem cellsOf54 : Tryz.prog.cellsOf 54 = 1:=by kernel_rfl
@[go_sem] theorem ldk54 : ldk Tryz.prog 54 = some none:=by kernel_rfl
@[go_sem] theorem und54 : Tryz.prog.underlying 54 = some (.slice 56):=by kernel_rfl
@[go_sem] theorem cellsOf56 : Tryz.prog.cellsOf 56 = 5:=by kernel_rfl
@[go_sem] theorem bytesOf56 : Tryz.prog.bytesOf 56 = 64:=by kernel_rfl
@[go_sem] theorem ldk56 : ldk Tryz.prog 56 = some (some 5):=by kernel_rfl
@[go_sem] theorem zeroOk56 : zeroOk Tryz.prog 56 = true:=by kernel_rfl
@[go_sem] theorem info56 : (Tryz.prog.info? 56).isSome = true:=by kernel_rfl
@[go_sem] theorem bkind56 : bkind Tryz.prog 56 = .struct [(0,1),(1,1),(2,1),(3,1),(4,1)]:=by kernel_rfl
@[go_sem] theorem fplace56_0 : fplace Tryz.prog 56 0 = some (3,0):=by kernel_rfl
@[go_sem] theorem fplace56_1 : fplace Tryz.prog 56 1 = some (9,1):=by kernel_rfl
@[go_sem] theorem fplace56_2 : fplace Tryz.prog 56 2 = some (3,2):=by kernel_rfl
@[go_sem] theorem fplace56_3 : fplace Tryz.prog 56 3 = some (3,3):=by kernel_rfl
@[go_sem] theorem fplace56_4 : fplace Tryz.prog 56 4 = some (54,4):=by kernel_rfl
@[go_sem] theorem cellsOf58 : Tryz.prog.cellsOf 58 = 12:=by kernel_rfl
@[go_sem] theorem bytesOf58 : Tryz.prog.bytesOf 58 = 136:=by kernel_rfl
@[go_sem] theorem ldk58 : ldk Tryz.prog 58 = some (some 12):=by kernel_rfl
@[go_sem] theorem zeroOk58 : zeroOk Tryz.prog 58 = true:=by kernel_rfl
@[go_sem] theorem fplace58_0 : fplace Tryz.prog 58 0 = some (9,0):=by kernel_rfl
@[go_sem] theorem fplace58_1 : fplace Tryz.prog 58 1 = some (9,1):=by kernel_rfl
@[go_sem] theorem fplace58_2 : fplace Tryz.prog 58 2 = some (3,2):=by kernel_rfl
@[go_sem] theorem fplace58_3 : fplace Tryz.prog 58 3 = some (3,3):=by kernel_rfl
@[go_sem] theorem fplace58_4 : fplace Tryz.prog 58 4 = some (56,4):=by kernel_rfl
@[go_sem] theorem fplace58_5 : fplace Tryz.prog 58 5 = some (3,9):=by kernel_rfl
@[go_sem] theorem fplace58_6 : fplace Tryz.prog 58 6 = some (3,10):=by kernel_rfl
@[go_sem] theorem fplace58_7 : fplace Tryz.prog 58 7 = some (3,11):=by kernel_rfl
@[go_sem] theorem cellsOf72 : Tryz.prog.cellsOf 72 = 10:=by kernel_rfl
@[go_sem] theorem bytesOf72 : Tryz.prog.bytesOf 72 = 80:=by kernel_rfl
@[go_sem] theorem ldk72 : ldk Tryz.prog 72 = some (some 10):=by kernel_rfl
@[go_sem] theorem und72 : Tryz.prog.underlying 72 = some (.array 10 3):=by kernel_rfl
@[go_sem] theorem zeroOk72 : zeroOk Tryz.prog 72 = true:=by kernel_rfl
@[go_sem] theorem info72 : (Tryz.prog.info? 72).isSome = true:=by kernel_rfl
@[go_sem] theorem bkind72 : bkind Tryz.prog 72 = .array 1:=by kernel_rfl
@[go_sem] theorem cellsOf77 : Tryz.prog.cellsOf 77 = 2:=by kernel_rfl
@[go_sem] theorem bytesOf77 : Tryz.prog.bytesOf 77 = 24:=by kernel_rfl
@[go_sem] theorem ldk77 : ldk Tryz.prog 77 = some (some 2):=by kernel_rfl
@[go_sem] theorem zeroOk77 : zeroOk Tryz.prog 77 = true:=by kernel_rfl
@[go_sem] theorem info77 : (Tryz.prog.info? 77).isSome = true:=by kernel_rfl
@[go_sem] theorem bkind77 : bkind Tryz.prog 77 = .struct [(0,1),(1,1)]:=by kernel_rfl
@[go_sem] theorem fplace77_0 : fplace Tryz.prog 77 0 = some (9,0):=by kernel_rfl
@[go_sem] theorem fplace77_1 : fplace Tryz.prog 77 1 = some (3,1):=by kernel_rfl
@[go_sem] theorem cellsOf87 : Tryz.prog.cellsOf 87 = 3:=by kernel_rfl
@[go_sem] theorem bytesOf87 : Tryz.prog.bytesOf 87 = 32:=by kernel_rfl
@[go_sem] theorem ldk87 : ldk Tryz.prog 87 = some (some 3):=by kernel_rfl
@[go_sem] theorem zeroOk87 : zeroOk Tryz.prog 87 = true:=by kernel_rfl
@[go_sem] theorem bkind87 : bkind Tryz.prog 87 = .struct [(0,1),(1,1),(2,1)]:=by kernel_rfl
@[go_sem] theorem fplace87_0 : fplace Tryz.prog 87 0 = some (9,0):=by kernel_rfl
@[go_sem] theorem fplace87_1 : fplace Tryz.prog 87 1 = some (3,1):=by kernel_rfl
@[go_sem] theorem fplace87_2 : fplace Tryz.prog 87 2 = some (3,2):=by kernel_rfl
@[go_sem] theorem cellsOf92 : Tryz.prog.cellsOf 92 = 2:=by kernel_rfl
@[go_sem] theorem ldk92 : ldk Tryz.prog 92 = some (some 2):=by kernel_rfl
@[go_sem] theorem fplace92_0 : fplace Tryz.prog 92 0 = some (9,0):=by kernel_rfl
@[go_sem] theorem fplace92_1 : fplace Tryz.prog 92 1 = some (3,1):=by kernel_rfl
@[go_sem] theorem und101 : Tryz.prog.underlying 101 = some (.slice 4):=by kernel_rfl
@[go_sem] theorem cellsOf105 : Tryz.prog.cellsOf 105 = 4:=by kernel_rfl
@[go_sem] theorem ldk105 : ldk Tryz.prog 105 = some (some 4):=by kernel_rfl
@[go_sem] theorem fplace105_0 : fplace Tryz.prog 105 0 = some (9,0):=by kernel_rfl
@[go_sem] theorem fplace105_1 : fplace Tryz.prog 105 1 = some (4,1):=by kernel_rfl
@[go_sem] theorem fplace105_2 : fplace Tryz.prog 105 2 = some (3,2):=by kernel_rfl
@[go_sem] theorem fplace105_3 : fplace Tryz.prog 105 3 = some (3,3):=by kernel_rfl
@[go_sem] theorem cellsOf106 : Tryz.prog.cellsOf 106 = 1:=by kernel_rfl
@[go_sem] theorem ldk106 : ldk Tryz.prog 106 = some none:=by kernel_rfl
@[go_sem] theorem und106 : Tryz.prog.underlying 106 = some (.slice 9):=by kernel_rfl
@[go_sem] theorem cellsOf107 : Tryz.prog.cellsOf 107 = 1:=by kernel_rfl
@[go_sem] theorem ldk107 : ldk Tryz.prog 107 = some none:=by kernel_rfl
@[go_sem] theorem und107 : Tryz.prog.underlying 107 = some (.slice 109):=by kernel_rfl
@[go_sem] theorem cellsOf109 : Tryz.prog.cellsOf 109 = 9:=by kernel_rfl
@[go_sem] theorem bytesOf109 : Tryz.prog.bytesOf 109 = 120:=by kernel_rfl
@[go_sem] theorem ldk109 : ldk Tryz.prog 109 = some (some 9):=by kernel_rfl
@[go_sem] theorem zeroOk109 : zeroOk Tryz.prog 109 = true:=by kernel_rfl
@[go_sem] theorem info109 : (Tryz.prog.info? 109).isSome = true:=by kernel_rfl
@[go_sem] theorem bkind109 : bkind Tryz.prog 109 = .struct [(0,1),(1,5),(6,1),(7,1),(8,1)]:=by kernel_rfl
@[go_sem] theorem fplace109_0 : fplace Tryz.prog 109 0 = some (3,0):=by kernel_rfl
@[go_sem] theorem fplace109_1 : fplace Tryz.prog 109 1 = some (56,1):=by kernel_rfl
@[go_sem] theorem fplace109_2 : fplace Tryz.prog 109 2 = some (9,6):=by kernel_rfl
@[go_sem] theorem fplace109_3 : fplace Tryz.prog 109 3 = some (3,7):=by kernel_rfl
@[go_sem] theorem fplace109_4 : fplace Tryz.prog 109 4 = some (107,8):=by kernel_rfl
@[go_sem] theorem cellsOf112 : Tryz.prog.cellsOf 112 = 6:=by kernel_rfl
@[go_sem] theorem ldk112 : ldk Tryz.prog 112 = some (some 6):=by kernel_rfl
@[go_sem] theorem bkind112 : bkind Tryz.prog 112 = .struct [(0,1),(1,1),(2,1),(3,1),(4,1),(5,1)]:=by kernel_rfl
@[go_sem] theorem fplace112_0 : fplace Tryz.prog 112 0 = some (3,0):=by kernel_rfl
@[go_sem] theorem fplace112_1 : fplace Tryz.prog 112 1 = some (9,1):=by kernel_rfl
@[go_sem] theorem fplace112_2 : fplace Tryz.prog 112 2 = some (106,2):=by kernel_rfl
@[go_sem] theorem fplace112_3 : fplace Tryz.prog 112 3 = some (9,3):=by kernel_rfl
@[go_sem] theorem fplace112_4 : fplace Tryz.prog 112 4 = some (3,4):=by kernel_rfl
@[go_sem] theorem fplace112_5 : fplace Tryz.prog 112 5 = some (3,5):=by kernel_rfl
@[go_sem] theorem cellsOf114 : Tryz.prog.cellsOf 114 = 15:=by kernel_rfl
@[go_sem] theorem bytesOf114 : Tryz.prog.bytesOf 114 = 200:=by kernel_rfl
@[go_sem] theorem ldk114 : ldk Tryz.prog 114 = some (some 15):=by kernel_rfl
@[go_sem] theorem zeroOk114 : zeroOk Tryz.prog 114 = true:=by kernel_rfl
@[go_sem] theorem bkind114 : bkind Tryz.prog 114 = .struct [(0,9),(9,6)]:=by kernel_rfl
@[go_sem] theorem fplace114_0 : fplace Tryz.prog 114 0 = some (109,0):=by kernel_rfl
@[go_sem] theorem fplace114_1 : fplace Tryz.prog 114 1 = some (112,9):=by kernel_rfl
@[go_sem] theorem cellsOf136 : Tryz.prog.cellsOf 136 = 3:=by kernel_rfl
@[go_sem] theorem ldk136 : ldk Tryz.prog 136 = some (some 3):=by kernel_rfl
@[go_sem] theorem fplace136_0 : fplace Tryz.prog 136 0 = some (3,0):=by kernel_rfl
@[go_sem] theorem fplace136_1 : fplace Tryz.prog 136 1 = some (3,1):=by kernel_rfl
@[go_sem] theorem fplace136_2 : fplace Tryz.prog 136 2 = some (3,2):=by kernel_rfl
@[go_sem] theorem cellsOf139 : Tryz.prog.cellsOf 139 = 2:=by kernel_rfl
@[go_sem] theorem ldk139 : ldk Tryz.prog 139 = some (some 2):=by kernel_rfl
@[go_sem] theorem fplace139_0 : fplace Tryz.prog 139 0 = some (3,0):=by kernel_rfl
@[go_sem] theorem fplace139_1 : fplace Tryz.prog 139 1 = some (3,1):=by kernel_rfl
@[go_sem] theorem cellsOf141 : Tryz.prog.cellsOf 141 = 1:=by kernel_rfl
@[go_sem] theorem ldk141 : ldk Tryz.prog 141 = some none:=by kernel_rfl
@[go_sem] theorem und141 : Tryz.prog.underlying 141 = some (.slice 143):=by kernel_rfl
@[go_sem] theorem cellsOf143 : Tryz.prog.cellsOf 143 = 3:=by kernel_rfl
@[go_sem] theorem ldk143 : ldk Tryz.prog 143 = some (some 3):=by kernel_rfl
@[go_sem] theorem fplace143_0 : fplace Tryz.prog 143 0 = some (3,0):=by kernel_rfl
@[go_sem] theorem fplace143_1 : fplace Tryz.prog 143 1 = some (9,1):=by kernel_rfl
@[go_sem] theorem fplace143_2 : fplace Tryz.prog 143 2 = some (141,2):=by kernel_rfl
@[go_sem] theorem cellsOf145 : Tryz.prog.cellsOf 145 = 8:=by kernel_rfl
@[go_sem] theorem fplace145_0 : fplace Tryz.prog 145 0 = some (56,0):=by kernel_rfl
@[go_sem] theorem fplace145_1 : fplace Tryz.prog 145 1 = some (143,5):=by kernel_rfl
@[go_sem] theorem cellsOf148 : Tryz.prog.cellsOf 148 = 4:=by kernel_rfl
@[go_sem] theorem ldk148 : ldk Tryz.prog 148 = some (some 4):=by kernel_rfl
@[go_sem] theorem fplace148_0 : fplace Tryz.prog 148 0 = some (3,0):=by kernel_rfl
@[go_sem] theorem fplace148_1 : fplace Tryz.prog 148 1 = some (3,1):=by kernel_rfl
@[go_sem] theorem fplace148_2 : fplace Tryz.prog 148 2 = some (3,2):=by kernel_rfl
@[go_sem] theorem fplace148_3 : fplace Tryz.prog 148 3 = some (3,3):=by kernel_rfl
@[go_sem] theorem cellsOf157 : Tryz.prog.cellsOf 157 = 2:=by kernel_rfl
@[go_sem] theorem ldk157 : ldk Tryz.prog 157 = some (some 2):=by kernel_rfl
@[go_sem] theorem bkind157 : bkind Tryz.prog 157 = .struct [(0,1),(1,1)]:=by kernel_rfl
@[go_sem] theorem fplace157_0 : fplace Tryz.prog 157 0 = some (3,0):=by kernel_rfl
@[go_sem] theorem fplace157_1 : fplace Tryz.prog 157 1 = some (3,1):=by kernel_rfl
theorem mixed : Tryz.prog.follows .mixedOrders = true:=by kernel_rfl
end Go.AI
set_option linter.defProp false
namespace Go.AI
open Go.Proofs
def h116 : Hint:=hm [28,16] [] [] []
@[go_sem] theorem h116_l : h116.lv 0 = [2,3,4] /\ h116.lv 1 = [4]:=by decide +kernel
@[go_sem] def h116_q:=hplain h116 rfl rfl rfl
@[go_sem] theorem h116_t : h116.tk = [] /\ h116.mt = [] /\ h116.pc = []:=⟨rfl,rfl,rfl⟩
theorem h116_k : FK Tryz.prog 116 Tryz.f116 h116:=⟨by kernel_rfl,by kernel_rfl,Tryz.func116,by kernel_rfl⟩
def h72 : Hint:=hm [6,14,30,1054,30,30,4] [] [] [19,20]
@[go_sem] theorem h72_l : h72.lv 0 = [1,2] /\ h72.lv 1 = [1,2,3] /\ h72.lv 2 = [1,2,3,4] /\ h72.lv 3 = [1,2,3,4,10] /\ h72.lv 4 = [1,2,3,4] /\ h72.lv 5 = [1,2,3,4] /\ h72.lv 6 = [2]:=by decide +kernel
@[go_sem] def h72_q:=hplain h72 rfl rfl rfl
@[go_sem] theorem h72_t : h72.tk = [] /\ h72.mt = [] /\ h72.pc = [19,20]:=⟨rfl,rfl,rfl⟩
theorem h72_k : FK Tryz.prog 72 Tryz.f72 h72:=⟨by kernel_rfl,by kernel_rfl,Tryz.func72,by kernel_rfl⟩
def h156 : Hint:=hm [6,14,270,14,30,262174,30,30,4] [] [] [12,13,27,28]
@[go_sem] theorem h156_l : h156.lv 0 = [1,2] /\ h156.lv 1 = [1,2,3] /\ h156.lv 2 = [1,2,3,8] /\ h156.lv 3 = [1,2,3] /\ h156.lv 4 = [1,2,3,4] /\ h156.lv 5 = [1,2,3,4,18] /\ h156.lv 6 = [1,2,3,4] /\ h156.lv 7 = [1,2,3,4] /\ h156.lv 8 = [2]:=by decide +kernel
@[go_sem] def h156_q:=hplain h156 rfl rfl rfl
@[go_sem] theorem h156_t : h156.tk = [] /\ h156.mt = [] /\ h156.pc = [12,13,27,28]:=⟨rfl,rfl,rfl⟩
theorem h156_k : FK Tryz.prog 156 Tryz.f156 h156:=⟨by kernel_rfl,by kernel_rfl,Tryz.func156,by kernel_rfl⟩
def h113 : Hint:=hm [2,10,24,4] [] [] [6,9]
@[go_sem] theorem h113_l : h113.lv 0 = [1] /\ h113.lv 1 = [1,3] /\ h113.lv 2 = [3,4] /\ h113.lv 3 = [2]:=by decide +kernel
@[go_sem] def h113_q:=hplain h113 rfl rfl rfl
@[go_sem] theorem h113_t : h113.tk = [] /\ h113.mt = [] /\ h113.pc = [6,9]:=⟨rfl,rfl,rfl⟩
theorem h113_k : FK Tryz.prog 113 Tryz.f113 h113:=⟨by kernel_rfl,by kernel_rfl,Tryz.func113,by kernel_rfl⟩
def h68 : Hint:=hm [1,9,4105,9,25,4294967305,4,4] [33] [] [20]
@[go_sem] theorem h68_l : h68.lv 0 = [0] /\ h68.lv 1 = [0,3] /\ h68.lv 2 = [0,3,12] /\ h68.lv 3 = [0,3] /\ h68.lv 4 = [0,3,4] /\ h68.lv 5 = [0,3,32] /\ h68.lv 6 = [2] /\ h68.lv 7 = [2]:=by decide +kernel
@[go_sem] def h68_q:=hplain h68 rfl rfl rfl
@[go_sem] theorem h68_t : h68.tk = [33] /\ h68.mt = [] /\ h68.pc = [20]:=⟨rfl,rfl,rfl⟩
theorem h68_k : FK Tryz.prog 68 Tryz.f68 h68:=⟨by kernel_rfl,by kernel_rfl,Tryz.func68,by kernel_rfl⟩
def h69 : Hint:=hm [2,10,26,538,26,26,4194312,8,4] [] [] [18]
@[go_sem] theorem h69_l : h69.lv 0 = [1] /\ h69.lv 1 = [1,3] /\ h69.lv 2 = [1,3,4] /\ h69.lv 3 = [1,3,4,9] /\ h69.lv 4 = [1,3,4] /\ h69.lv 5 = [1,3,4] /\ h69.lv 6 = [3,22] /\ h69.lv 7 = [3] /\ h69.lv 8 = [2]:=by decide +kernel
@[go_sem] def h69_q:=hplain h69 rfl rfl rfl
@[go_sem] theorem h69_t : h69.tk = [] /\ h69.mt = [] /\ h69.pc = [18]:=⟨rfl,rfl,rfl⟩
theorem h69_k : FK Tryz.prog 69 Tryz.f69 h69:=⟨by kernel_rfl,by kernel_rfl,Tryz.func69,by kernel_rfl⟩
def h114 : Hint:=hm [2,10,26,538,26,26,4194312,8,4] [] [] [18]
@[go_sem] theorem h114_l : h114.lv 0 = [1] /\ h114.lv 1 = [1,3] /\ h114.lv 2 = [1,3,4] /\ h114.lv 3 = [1,3,4,9] /\ h114.lv 4 = [1,3,4] /\ h114.lv 5 = [1,3,4] /\ h114.lv 6 = [3,22] /\ h114.lv 7 = [3] /\ h114.lv 8 = [2]:=by decide +kernel
@[go_sem] def h114_q:=hplain h114 rfl rfl rfl
@[go_sem] theorem h114_t : h114.tk = [] /\ h114.mt = [] /\ h114.pc = [18]:=⟨rfl,rfl,rfl⟩
theorem h114_k : FK Tryz.prog 114 Tryz.f114 h114:=⟨by kernel_rfl,by kernel_rfl,Tryz.func114,by kernel_rfl⟩
def h70 : Hint:=hm [2,10,24,4] [] [] [6,8]
@[go_sem] theorem h70_l : h70.lv 0 = [1] /\ h70.lv 1 = [1,3] /\ h70.lv 2 = [3,4] /\ h70.lv 3 = [2]:=by decide +kernel
@[go_sem] def h70_q:=hplain h70 rfl rfl rfl
@[go_sem] theorem h70_t : h70.tk = [] /\ h70.mt = [] /\ h70.pc = [6,8]:=⟨rfl,rfl,rfl⟩
theorem h70_k : FK Tryz.prog 70 Tryz.f70 h70:=⟨by kernel_rfl,by kernel_rfl,Tryz.func70,by kernel_rfl⟩
def h39 : Hint:=hm [2,8,4] [] [] [5]
@[go_sem] theorem h39_l : h39.lv 0 = [1] /\ h39.lv 1 = [3] /\ h39.lv 2 = [2]:=by decide +kernel
@[go_sem] def h39_q:=hplain h39 rfl rfl rfl
@[go_sem] theorem h39_t : h39.tk = [] /\ h39.mt = [] /\ h39.pc = [5]:=⟨rfl,rfl,rfl⟩
theorem h39_k : FK Tryz.prog 39 Tryz.f39 h39:=⟨by kernel_rfl,by kernel_rfl,Tryz.func39,by kernel_rfl⟩
def h115 : Hint:=hm [6,14,30,1054,30,30,4] [] [] [19,20]
@[go_sem] theorem h115_l : h115.lv 0 = [1,2] /\ h115.lv 1 = [1,2,3] /\ h115.lv 2 = [1,2,3,4] /\ h115.lv 3 = [1,2,3,4,10] /\ h115.lv 4 = [1,2,3,4] /\ h115.lv 5 = [1,2,3,4] /\ h115.lv 6 = [2]:=by decide +kernel
@[go_sem] def h115_q:=hplain h115 rfl rfl rfl
@[go_sem] theorem h115_t : h115.tk = [] /\ h115.mt = [] /\ h115.pc = [19,20]:=⟨rfl,rfl,rfl⟩
theorem h115_k : FK Tryz.prog 115 Tryz.f115 h115:=⟨by kernel_rfl,by kernel_rfl,Tryz.func115,by kernel_rfl⟩
def h71 : Hint:=hm [2,8,4] [] [] [5]
@[go_sem] theorem h71_l : h71.lv 0 = [1] /\ h71.lv 1 = [3] /\ h71.lv 2 = [2]:=by decide +kernel
@[go_sem] def h71_q:=hplain h71 rfl rfl rfl
@[go_sem] theorem h71_t : h71.tk = [] /\ h71.mt = [] /\ h71.pc = [5]:=⟨rfl,rfl,rfl⟩
theorem h71_k : FK Tryz.prog 71 Tryz.f71 h71:=⟨by kernel_rfl,by kernel_rfl,Tryz.func71,by kernel_rfl⟩
def h38 : Hint:=hm [2,10,68719476738,4,18,2199023255570,18,0x2000000000000012,4,34,0x40000000000000022,34,98,226,0x10000000000000000000022,4,4] [] [] [10,50,59,75,82]
@[go_sem] theorem h38_l : h38.lv 0 = [1] /\ h38.lv 1 = [1,3] /\ h38.lv 2 = [1,36] /\ h38.lv 3 = [2] /\ h38.lv 4 = [1,4] /\ h38.lv 5 = [1,4,41] /\ h38.lv 6 = [1,4] /\ h38.lv 7 = [1,4,61] /\ h38.lv 8 = [2] /\ h38.lv 9 = [1,5] /\ h38.lv 10 = [1,5,66] /\ h38.lv 11 = [1,5] /\ h38.lv 12 = [1,5,6] /\ h38.lv 13 = [1,5,6,7] /\ h38.lv 14 = [1,5,88] /\ h38.lv 15 = [2] /\ h38.lv 16 = [2]:=by decide +kernel
@[go_sem] def h38_q:=hplain h38 rfl rfl rfl
@[go_sem] theorem h38_t : h38.tk = [] /\ h38.mt = [] /\ h38.pc = [10,50,59,75,82]:=⟨rfl,rfl,rfl⟩
theorem h38_k : FK Tryz.prog 38 Tryz.f38 h38:=⟨by kernel_rfl,by kernel_rfl,Tryz.func38,by kernel_rfl⟩
def h76 : Hint:=hm [1,9,521,9,25,57,0x800000000009,4,4] [] [] []
@[go_sem] theorem h76_l : h76.lv 0 = [0] /\ h76.lv 1 = [0,3] /\ h76.lv 2 = [0,3,9] /\ h76.lv 3 = [0,3] /\ h76.lv 4 = [0,3,4] /\ h76.lv 5 = [0,3,4,5] /\ h76.lv 6 = [0,3,47] /\ h76.lv 7 = [2] /\ h76.lv 8 = [2]:=by decide +kernel
@[go_sem] def h76_q:=hplain h76 rfl rfl rfl
@[go_sem] theorem h76_t : h76.tk = [] /\ h76.mt = [] /\ h76.pc = []:=⟨rfl,rfl,rfl⟩
theorem h76_k : FK Tryz.prog 76 Tryz.f76 h76:=⟨by kernel_rfl,by kernel_rfl,Tryz.func76,by kernel_rfl⟩
def h160 : Hint:=hm [6,16] [] [] []
@[go_sem] theorem h160_l : h160.lv 0 = [1,2] /\ h160.lv 1 = [4]:=by decide +kernel
@[go_sem] def h160_q:=hplain h160 rfl rfl rfl
@[go_sem] theorem h160_t : h160.tk = [] /\ h160.mt = [] /\ h160.pc = []:=⟨rfl,rfl,rfl⟩
theorem h160_k : FK Tryz.prog 160 Tryz.f160 h160:=⟨by kernel_rfl,by kernel_rfl,Tryz.func160,by kernel_rfl⟩
def h157 : Hint:=hm [6,16] [] [] [7]
@[go_sem] theorem h157_l : h157.lv 0 = [1,2] /\ h157.lv 1 = [4]:=by decide +kernel
@[go_sem] def h157_q:=hplain h157 rfl rfl rfl
@[go_sem] theorem h157_t : h157.tk = [] /\ h157.mt = [] /\ h157.pc = [7]:=⟨rfl,rfl,rfl⟩
theorem h157_k : FK Tryz.prog 157 Tryz.f157 h157:=⟨by kernel_rfl,by kernel_rfl,Tryz.func157,by kernel_rfl⟩
def h117 : Hint:=hm [12,44,262156,16,76,8388684,76,204,17179869260,16,332,137438953804,332,4503599627370828,16,524,0x20000000000020c,524,1548,0x800000000000000060c,16,3596,0x40000000000000000e0c,3596,0x100000000000000000000e0c,16,4104,0x2000000000000000000001008,4104,0x800000000000000000000000001008,16,12296,0x4000000000000000000000000003008,12296,0x20000000000000000000000000000003008,16,16] [] [] [16,32,107,117]
@[go_sem] theorem h117_l : h117.lv 0 = [2,3] /\ h117.lv 1 = [2,3,5] /\ h117.lv 2 = [2,3,18] /\ h117.lv 3 = [4] /\ h117.lv 4 = [2,3,6] /\ h117.lv 5 = [2,3,6,23] /\ h117.lv 6 = [2,3,6] /\ h117.lv 7 = [2,3,6,7] /\ h117.lv 8 = [2,3,6,34] /\ h117.lv 9 = [4] /\ h117.lv 10 = [2,3,6,8] /\ h117.lv 11 = [2,3,6,8,37] /\ h117.lv 12 = [2,3,6,8] /\ h117.lv 13 = [2,3,6,8,52] /\ h117.lv 14 = [4] /\ h117.lv 15 = [2,3,9] /\ h117.lv 16 = [2,3,9,57] /\ h117.lv 17 = [2,3,9] /\ h117.lv 18 = [2,3,9,10] /\ h117.lv 19 = [2,3,9,10,75] /\ h117.lv 20 = [4] /\ h117.lv 21 = [2,3,9,10,11] /\ h117.lv 22 = [2,3,9,10,11,78] /\ h117.lv 23 = [2,3,9,10,11] /\ h117.lv 24 = [2,3,9,10,11,92] /\ h117.lv 25 = [4] /\ h117.lv 26 = [3,12] /\ h117.lv 27 = [3,12,97] /\ h117.lv 28 = [3,12] /\ h117.lv 29 = [3,12,119] /\ h117.lv 30 = [4] /\ h117.lv 31 = [3,12,13] /\ h117.lv 32 = [3,12,13,122] /\ h117.lv 33 = [3,12,13] /\ h117.lv 34 = [3,12,13,137] /\ h117.lv 35 = [4] /\ h117.lv 36 = [4]:=by decide +kernel
@[go_sem] def h117_q:=hplain h117 rfl rfl rfl
@[go_sem] theorem h117_t : h117.tk = [] /\ h117.mt = [] /\ h117.pc = [16,32,107,117]:=⟨rfl,rfl,rfl⟩
theorem h117_k : FK Tryz.prog 117 Tryz.f117 h117:=⟨by kernel_rfl,by kernel_rfl,Tryz.func117,by kernel_rfl⟩
def h237 : Hint:=hm [2,1024,4,4] [] [] []
@[go_sem] theorem h237_l : h237.lv 0 = [1] /\ h237.lv 1 = [10] /\ h237.lv 2 = [2] /\ h237.lv 3 = [2]:=by decide +kernel
@[go_sem] def h237_q:=hplain h237 rfl rfl rfl
@[go_sem] theorem h237_t : h237.tk = [] /\ h237.mt = [] /\ h237.pc = []:=⟨rfl,rfl,rfl⟩
theorem h237_k : FK Tryz.prog 237 Tryz.f237 h237:=⟨by kernel_rfl,by kernel_rfl,Tryz.func237,by kernel_rfl⟩
def h162 : Hint:=hm [6,34,8224,16,16] [] [] [7]
@[go_sem] theorem h162_l : h162.lv 0 = [1,2] /\ h162.lv 1 = [1,5] /\ h162.lv 2 = [5,13] /\ h162.lv 3 = [4] /\ h162.lv 4 = [4]:=by decide +kernel
@[go_sem] def h162_q:=hplain h162 rfl rfl rfl
@[go_sem] theorem h162_t : h162.tk = [] /\ h162.mt = [] /\ h162.pc = [7]:=⟨rfl,rfl,rfl⟩
theorem h162_k : FK Tryz.prog 162 Tryz.f162 h162:=⟨by kernel_rfl,by kernel_rfl,Tryz.func162,by kernel_rfl⟩
def h65 : Hint:=hm [12,2199023255564,16,44,70368744177708,44,108,0x200000000000002c,16,16] [] [] [59]
@[go_sem] theorem h65_l : h65.lv 0 = [2,3] /\ h65.lv 1 = [2,3,41] /\ h65.lv 2 = [4] /\ h65.lv 3 = [2,3,5] /\ h65.lv 4 = [2,3,5,46] /\ h65.lv 5 = [2,3,5] /\ h65.lv 6 = [2,3,5,6] /\ h65.lv 7 = [2,3,5,61] /\ h65.lv 8 = [4] /\ h65.lv 9 = [4]:=by decide +kernel
@[go_sem] def h65_q:=hplain h65 rfl rfl rfl
@[go_sem] theorem h65_t : h65.tk = [] /\ h65.mt = [] /\ h65.pc = [59]:=⟨rfl,rfl,rfl⟩
theorem h65_k : FK Tryz.prog 65 Tryz.f65 h65:=⟨by kernel_rfl,by kernel_rfl,Tryz.func65,by kernel_rfl⟩
def h321 : Hint:=hm [1,4] [] [] []
@[go_sem] theorem h321_l : h321.lv 0 = [0] /\ h321.lv 1 = [2]:=by decide +kernel
@[go_sem] def h321_q:=hplain h321 rfl rfl rfl
@[go_sem] theorem h321_t : h321.tk = [] /\ h321.mt = [] /\ h321.pc = []:=⟨rfl,rfl,rfl⟩
theorem h321_k : FK Tryz.prog 321 Tryz.f321 h321:=⟨by kernel_rfl,by kernel_rfl,Tryz.func321,by kernel_rfl⟩
def h322 : Hint:=hm [1,9,25,537,25,131097,4,4] [] [] [5]
@[go_sem] theorem h322_l : h322.lv 0 = [0] /\ h322.lv 1 = [0,3] /\ h322.lv 2 = [0,3,4] /\ h322.lv 3 = [0,3,4,9] /\ h322.lv 4 = [0,3,4] /\ h322.lv 5 = [0,3,4,17] /\ h322.lv 6 = [2] /\ h322.lv 7 = [2]:=by decide +kernel
@[go_sem] def h322_q:=hplain h322 rfl rfl rfl
@[go_sem] theorem h322_t : h322.tk = [] /\ h322.mt = [] /\ h322.pc = [5]:=⟨rfl,rfl,rfl⟩
theorem h322_k : FK Tryz.prog 322 Tryz.f322 h322:=⟨by kernel_rfl,by kernel_rfl,Tryz.func322,by kernel_rfl⟩
def h360 : Hint:=hm [1,4] [] [] []
@[go_sem] theorem h360_l : h360.lv 0 = [0] /\ h360.lv 1 = [2]:=by decide +kernel
@[go_sem] def h360_q:=hplain h360 rfl rfl rfl
@[go_sem] theorem h360_t : h360.tk = [] /\ h360.mt = [] /\ h360.pc = []:=⟨rfl,rfl,rfl⟩
theorem h360_k : FK Tryz.prog 360 Tryz.f360 h360:=⟨by kernel_rfl,by kernel_rfl,Tryz.func360,by kernel_rfl⟩
def h340 : Hint:=hm [1,9,25,4] [] [] [6,8]
@[go_sem] theorem h340_l : h340.lv 0 = [0] /\ h340.lv 1 = [0,3] /\ h340.lv 2 = [0,3,4] /\ h340.lv 3 = [2]:=by decide +kernel
@[go_sem] def h340_q:=hplain h340 rfl rfl rfl
@[go_sem] theorem h340_t : h340.tk = [] /\ h340.mt = [] /\ h340.pc = [6,8]:=⟨rfl,rfl,rfl⟩
theorem h340_k : FK Tryz.prog 340 Tryz.f340 h340:=⟨by kernel_rfl,by kernel_rfl,Tryz.func340,by kernel_rfl⟩
def h323 : Hint:=hm [1,9,265,25,16393,9,4] [] [] [12]
@[go_sem] theorem h323_l : h323.lv 0 = [0] /\ h323.lv 1 = [0,3] /\ h323.lv 2 = [0,3,8] /\ h323.lv 3 = [0,3,4] /\ h323.lv 4 = [0,3,14] /\ h323.lv 5 = [0,3] /\ h323.lv 6 = [2]:=by decide +kernel
@[go_sem] def h323_q:=hplain h323 rfl rfl rfl
@[go_sem] theorem h323_t : h323.tk = [] /\ h323.mt = [] /\ h323.pc = [12]:=⟨rfl,rfl,rfl⟩
theorem h323_k : FK Tryz.prog 323 Tryz.f323 h323:=⟨by kernel_rfl,by kernel_rfl,Tryz.func323,by kernel_rfl⟩
def h292 : Hint:=hm [1,4097,4,9,25,4] [] [] [15,17,21]
@[go_sem] theorem h292_l : h292.lv 0 = [0] /\ h292.lv 1 = [0,12] /\ h292.lv 2 = [2] /\ h292.lv 3 = [0,3] /\ h292.lv 4 = [0,3,4] /\ h292.lv 5 = [2]:=by decide +kernel
@[go_sem] def h292_q:=hplain h292 rfl rfl rfl
@[go_sem] theorem h292_t : h292.tk = [] /\ h292.mt = [] /\ h292.pc = [15,17,21]:=⟨rfl,rfl,rfl⟩
theorem h292_k : FK Tryz.prog 292 Tryz.f292 h292:=⟨by kernel_rfl,by kernel_rfl,Tryz.func292,by kernel_rfl⟩
def h238 : Hint:=hm [1,4] [] [] [4]
@[go_sem] theorem h238_l : h238.lv 0 = [0] /\ h238.lv 1 = [2]:=by decide +kernel
@[go_sem] def h238_q:=hplain h238 rfl rfl rfl
@[go_sem] theorem h238_t : h238.tk = [] /\ h238.mt = [] /\ h238.pc = [4]:=⟨rfl,rfl,rfl⟩
theorem h238_k : FK Tryz.prog 238 Tryz.f238 h238:=⟨by kernel_rfl,by kernel_rfl,Tryz.func238,by kernel_rfl⟩
def h243 : Hint:=hm [1,9,4] [] [] [5]
@[go_sem] theorem h243_l : h243.lv 0 = [0] /\ h243.lv 1 = [0,3] /\ h243.lv 2 = [2]:=by decide +kernel
@[go_sem] def h243_q:=hplain h243 rfl rfl rfl
@[go_sem] theorem h243_t : h243.tk = [] /\ h243.mt = [] /\ h243.pc = [5]:=⟨rfl,rfl,rfl⟩
theorem h243_k : FK Tryz.prog 243 Tryz.f243 h243:=⟨by kernel_rfl,by kernel_rfl,Tryz.func243,by kernel_rfl⟩
def h170 : Hint:=hm [2,10,26,58,122,250,34359738618,103079215354,103079215354,194,1133871366394,194,0x80008000000fa,194,0x800000008000000ea,194,0x80000000000008000000e2,130,194,0x400000000000008000000e2,0x400000000000008000000e2,130,194,0x4000000000000000000000c2,194,0x10000000000000000000000000000042,4,322,0x80000000000000000000000000000142,322,834,0x20000000000000000000000000000000142,4,4] [] [] [12,135]
@[go_sem] theorem h170_l : h170.lv 0 = [1] /\ h170.lv 1 = [1,3] /\ h170.lv 2 = [1,3,4] /\ h170.lv 3 = [1,3,4,5] /\ h170.lv 4 = [1,3,4,5,6] /\ h170.lv 5 = [1,3,4,5,6,7] /\ h170.lv 6 = [1,3,4,5,6,7,35] /\ h170.lv 7 = [1,3,4,5,6,7,35,36] /\ h170.lv 8 = [1,3,4,5,6,7,35,36] /\ h170.lv 9 = [1,6,7] /\ h170.lv 10 = [1,3,4,5,6,7,35,40] /\ h170.lv 11 = [1,6,7] /\ h170.lv 12 = [1,3,4,5,6,7,35,51] /\ h170.lv 13 = [1,6,7] /\ h170.lv 14 = [1,3,5,6,7,35,67] /\ h170.lv 15 = [1,6,7] /\ h170.lv 16 = [1,5,6,7,35,87] /\ h170.lv 17 = [1,7] /\ h170.lv 18 = [1,6,7] /\ h170.lv 19 = [1,5,6,7,35,90] /\ h170.lv 20 = [1,5,6,7,35,90] /\ h170.lv 21 = [1,7] /\ h170.lv 22 = [1,6,7] /\ h170.lv 23 = [1,6,7,94] /\ h170.lv 24 = [1,6,7] /\ h170.lv 25 = [1,6,124] /\ h170.lv 26 = [2] /\ h170.lv 27 = [1,6,8] /\ h170.lv 28 = [1,6,8,127] /\ h170.lv 29 = [1,6,8] /\ h170.lv 30 = [1,6,8,9] /\ h170.lv 31 = [1,6,8,137] /\ h170.lv 32 = [2] /\ h170.lv 33 = [2]:=by decide +kernel
@[go_sem] def h170_q:=hplain h170 rfl rfl rfl
@[go_sem] theorem h170_t : h170.tk = [] /\ h170.mt = [] /\ h170.pc = [12,135]:=⟨rfl,rfl,rfl⟩
theorem h170_k : FK Tryz.prog 170 Tryz.f170 h170:=⟨by kernel_rfl,by kernel_rfl,Tryz.func170,by kernel_rfl⟩
def h169 : Hint:=hm [2,10,26,58,122,250,67109114,201326842,194,34426847482,194,0x80000040000f2,0x80000040000f2,130,194,0x4000000000000f2,130,194,0x1000000000000000042,4,322,0x8000000000000000142,322,834,0x2000000000000000000142,4,4] [] [] [12,16,31,83]
@[go_sem] theorem h169_l : h169.lv 0 = [1] /\ h169.lv 1 = [1,3] /\ h169.lv 2 = [1,3,4] /\ h169.lv 3 = [1,3,4,5] /\ h169.lv 4 = [1,3,4,5,6] /\ h169.lv 5 = [1,3,4,5,6,7] /\ h169.lv 6 = [1,3,4,5,6,7,26] /\ h169.lv 7 = [1,3,4,5,6,7,26,27] /\ h169.lv 8 = [1,6,7] /\ h169.lv 9 = [1,3,4,5,6,7,26,35] /\ h169.lv 10 = [1,6,7] /\ h169.lv 11 = [1,4,5,6,7,26,51] /\ h169.lv 12 = [1,4,5,6,7,26,51] /\ h169.lv 13 = [1,7] /\ h169.lv 14 = [1,6,7] /\ h169.lv 15 = [1,4,5,6,7,58] /\ h169.lv 16 = [1,7] /\ h169.lv 17 = [1,6,7] /\ h169.lv 18 = [1,6,72] /\ h169.lv 19 = [2] /\ h169.lv 20 = [1,6,8] /\ h169.lv 21 = [1,6,8,75] /\ h169.lv 22 = [1,6,8] /\ h169.lv 23 = [1,6,8,9] /\ h169.lv 24 = [1,6,8,85] /\ h169.lv 25 = [2] /\ h169.lv 26 = [2]:=by decide +kernel
@[go_sem] def h169_q:=hplain h169 rfl rfl rfl
@[go_sem] theorem h169_t : h169.tk = [] /\ h169.mt = [] /\ h169.pc = [12,16,31,83]:=⟨rfl,rfl,rfl⟩
theorem h169_k : FK Tryz.prog 169 Tryz.f169 h169:=⟨by kernel_rfl,by kernel_rfl,Tryz.func169,by kernel_rfl⟩
def h123 : Hint:=hm [2,4] [] [] [4,6,7]
@[go_sem] theorem h123_l : h123.lv 0 = [1] /\ h123.lv 1 = [2]:=by decide +kernel
@[go_sem] def h123_q:=hplain h123 rfl rfl rfl
@[go_sem] theorem h123_t : h123.tk = [] /\ h123.mt = [] /\ h123.pc = [4,6,7]:=⟨rfl,rfl,rfl⟩
theorem h123_k : FK Tryz.prog 123 Tryz.f123 h123:=⟨by kernel_rfl,by kernel_rfl,Tryz.func123,by kernel_rfl⟩
def h111 : Hint:=hm [12,0x80000000000c,16,44,4503599627370540,44,0x2000000000000002c,16,16] [] [] []
@[go_sem] theorem h111_l : h111.lv 0 = [2,3] /\ h111.lv 1 = [2,3,47] /\ h111.lv 2 = [4] /\ h111.lv 3 = [2,3,5] /\ h111.lv 4 = [2,3,5,52] /\ h111.lv 5 = [2,3,5] /\ h111.lv 6 = [2,3,5,65] /\ h111.lv 7 = [4] /\ h111.lv 8 = [4]:=by decide +kernel
@[go_sem] def h111_q:=hplain h111 rfl rfl rfl
@[go_sem] theorem h111_t : h111.tk = [] /\ h111.mt = [] /\ h111.pc = []:=⟨rfl,rfl,rfl⟩
theorem h111_k : FK Tryz.prog 111 Tryz.f111 h111:=⟨by kernel_rfl,by kernel_rfl,Tryz.func111,by kernel_rfl⟩
def h320 : Hint:=hm [2,10,4098,4,18,536870914,4,34,17179869218,34,98,17592186044450,4,130,386,0x200000000000182,0x600000000000182,4,0x200200000000000182,4,0x20000200000000000182,4,0x2000000000200000000000182,4,0x200000000000000200000000000182,4,0x8000000000000000000000000000002,4,4] [] [] [11,15,42,47]
@[go_sem] theorem h320_l : h320.lv 0 = [1] /\ h320.lv 1 = [1,3] /\ h320.lv 2 = [1,12] /\ h320.lv 3 = [2] /\ h320.lv 4 = [1,4] /\ h320.lv 5 = [1,29] /\ h320.lv 6 = [2] /\ h320.lv 7 = [1,5] /\ h320.lv 8 = [1,5,34] /\ h320.lv 9 = [1,5] /\ h320.lv 10 = [1,5,6] /\ h320.lv 11 = [1,5,44] /\ h320.lv 12 = [2] /\ h320.lv 13 = [1,7] /\ h320.lv 14 = [1,7,8] /\ h320.lv 15 = [1,7,8,57] /\ h320.lv 16 = [1,7,8,57,58] /\ h320.lv 17 = [2] /\ h320.lv 18 = [1,7,8,57,69] /\ h320.lv 19 = [2] /\ h320.lv 20 = [1,7,8,57,77] /\ h320.lv 21 = [2] /\ h320.lv 22 = [1,7,8,57,97] /\ h320.lv 23 = [2] /\ h320.lv 24 = [1,7,8,57,117] /\ h320.lv 25 = [2] /\ h320.lv 26 = [1,123] /\ h320.lv 27 = [2] /\ h320.lv 28 = [2]:=by decide +kernel
@[go_sem] def h320_q:=hplain h320 rfl rfl rfl
@[go_sem] theorem h320_t : h320.tk = [] /\ h320.mt = [] /\ h320.pc = [11,15,42,47]:=⟨rfl,rfl,rfl⟩
theorem h320_k : FK Tryz.prog 320 Tryz.f320 h320:=⟨by kernel_rfl,by kernel_rfl,Tryz.func320,by kernel_rfl⟩
def h287 : Hint:=hm [2,8,128,4,4] [] [] [5]
@[go_sem] theorem h287_l : h287.lv 0 = [1] /\ h287.lv 1 = [3] /\ h287.lv 2 = [7] /\ h287.lv 3 = [2] /\ h287.lv 4 = [2]:=by decide +kernel
@[go_sem] def h287_q:=hplain h287 rfl rfl rfl
@[go_sem] theorem h287_t : h287.tk = [] /\ h287.mt = [] /\ h287.pc = [5]:=⟨rfl,rfl,rfl⟩
theorem h287_k : FK Tryz.prog 287 Tryz.f287 h287:=⟨by kernel_rfl,by kernel_rfl,Tryz.func287,by kernel_rfl⟩
def h231 : Hint:=hm [1,257,4,9,4105,9,25,4194329,4,41,2147483689,4,4] [] [] [20,29]
@[go_sem] theorem h231_l : h231.lv 0 = [0] /\ h231.lv 1 = [0,8] /\ h231.lv 2 = [2] /\ h231.lv 3 = [0,3] /\ h231.lv 4 = [0,3,12] /\ h231.lv 5 = [0,3] /\ h231.lv 6 = [0,3,4] /\ h231.lv 7 = [0,3,4,22] /\ h231.lv 8 = [2] /\ h231.lv 9 = [0,3,5] /\ h231.lv 10 = [0,3,5,31] /\ h231.lv 11 = [2] /\ h231.lv 12 = [2]:=by decide +kernel
@[go_sem] def h231_q:=hplain h231 rfl rfl rfl
@[go_sem] theorem h231_t : h231.tk = [] /\ h231.mt = [] /\ h231.pc = [20,29]:=⟨rfl,rfl,rfl⟩
theorem h231_k : FK Tryz.prog 231 Tryz.f231 h231:=⟨by kernel_rfl,by kernel_rfl,Tryz.func231,by kernel_rfl⟩
def h244 : Hint:=hm [19,275,48,83,8275,83,4194387,48,48] [23] [] [9]
@[go_sem] theorem h244_l : h244.lv 0 = [0,1,4] /\ h244.lv 1 = [0,1,4,8] /\ h244.lv 2 = [4,5] /\ h244.lv 3 = [0,1,4,6] /\ h244.lv 4 = [0,1,4,6,13] /\ h244.lv 5 = [0,1,4,6] /\ h244.lv 6 = [0,1,4,6,22] /\ h244.lv 7 = [4,5] /\ h244.lv 8 = [4,5]:=by decide +kernel
@[go_sem] def h244_q:=hplain h244 rfl rfl rfl
@[go_sem] theorem h244_t : h244.tk = [23] /\ h244.mt = [] /\ h244.pc = [9]:=⟨rfl,rfl,rfl⟩
theorem h244_k : FK Tryz.prog 244 Tryz.f244 h244:=⟨by kernel_rfl,by kernel_rfl,Tryz.func244,by kernel_rfl⟩
def h171 : Hint:=hm [2,10,26,2074,26,26,4] [14,22] [] [20]
@[go_sem] theorem h171_l : h171.lv 0 = [1] /\ h171.lv 1 = [1,3] /\ h171.lv 2 = [1,3,4] /\ h171.lv 3 = [1,3,4,11] /\ h171.lv 4 = [1,3,4] /\ h171.lv 5 = [1,3,4] /\ h171.lv 6 = [2]:=by decide +kernel
@[go_sem] def h171_q:=hplain h171 rfl rfl rfl
@[go_sem] theorem h171_t : h171.tk = [14,22] /\ h171.mt = [] /\ h171.pc = [20]:=⟨rfl,rfl,rfl⟩
theorem h171_k : FK Tryz.prog 171 Tryz.f171 h171:=⟨by kernel_rfl,by kernel_rfl,Tryz.func171,by kernel_rfl⟩
def h294 : Hint:=hm [1,9,25,153,25,25,4] [] [] []
@[go_sem] theorem h294_l : h294.lv 0 = [0] /\ h294.lv 1 = [0,3] /\ h294.lv 2 = [0,3,4] /\ h294.lv 3 = [0,3,4,7] /\ h294.lv 4 = [0,3,4] /\ h294.lv 5 = [0,3,4] /\ h294.lv 6 = [2]:=by decide +kernel
@[go_sem] def h294_q:=hplain h294 rfl rfl rfl
@[go_sem] theorem h294_t : h294.tk = [] /\ h294.mt = [] /\ h294.pc = []:=⟨rfl,rfl,rfl⟩
theorem h294_k : FK Tryz.prog 294 Tryz.f294 h294:=⟨by kernel_rfl,by kernel_rfl,Tryz.func294,by kernel_rfl⟩
def h245 : Hint:=hm [2,4] [] [] [5]
@[go_sem] theorem h245_l : h245.lv 0 = [1] /\ h245.lv 1 = [2]:=by decide +kernel
@[go_sem] def h245_q:=hplain h245 rfl rfl rfl
@[go_sem] theorem h245_t : h245.tk = [] /\ h245.mt = [] /\ h245.pc = [5]:=⟨rfl,rfl,rfl⟩
theorem h245_k : FK Tryz.prog 245 Tryz.f245 h245:=⟨by kernel_rfl,by kernel_rfl,Tryz.func245,by kernel_rfl⟩
def h172 : Hint:=hm [9,1048585,16,104,536870952,16,168,17179869352,168,4503599627370496,16,16] [22] [] [25,39]
@[go_sem] theorem h172_l : h172.lv 0 = [0,3] /\ h172.lv 1 = [0,3,20] /\ h172.lv 2 = [4] /\ h172.lv 3 = [3,5,6] /\ h172.lv 4 = [3,5,29] /\ h172.lv 5 = [4] /\ h172.lv 6 = [3,5,7] /\ h172.lv 7 = [3,5,7,34] /\ h172.lv 8 = [3,5,7] /\ h172.lv 9 = [52] /\ h172.lv 10 = [4] /\ h172.lv 11 = [4]:=by decide +kernel
@[go_sem] def h172_q:=hplain h172 rfl rfl rfl
@[go_sem] theorem h172_t : h172.tk = [22] /\ h172.mt = [] /\ h172.pc = [25,39]:=⟨rfl,rfl,rfl⟩
theorem h172_k : FK Tryz.prog 172 Tryz.f172 h172:=⟨by kernel_rfl,by kernel_rfl,Tryz.func172,by kernel_rfl⟩
def h125 : Hint:=hm [9,33,97,8289,97,225,8388833,16,16] [] [] [9,21]
@[go_sem] theorem h125_l : h125.lv 0 = [0,3] /\ h125.lv 1 = [0,5] /\ h125.lv 2 = [0,5,6] /\ h125.lv 3 = [0,5,6,13] /\ h125.lv 4 = [0,5,6] /\ h125.lv 5 = [0,5,6,7] /\ h125.lv 6 = [0,5,6,7,23] /\ h125.lv 7 = [4] /\ h125.lv 8 = [4]:=by decide +kernel
@[go_sem] def h125_q:=hplain h125 rfl rfl rfl
@[go_sem] theorem h125_t : h125.tk = [] /\ h125.mt = [] /\ h125.pc = [9,21]:=⟨rfl,rfl,rfl⟩
theorem h125_k : FK Tryz.prog 125 Tryz.f125 h125:=⟨by kernel_rfl,by kernel_rfl,Tryz.func125,by kernel_rfl⟩
def h235 : Hint:=hm [2,10,26,2074,26,26,4] [14,22] [] [20]
@[go_sem] theorem h235_l : h235.lv 0 = [1] /\ h235.lv 1 = [1,3] /\ h235.lv 2 = [1,3,4] /\ h235.lv 3 = [1,3,4,11] /\ h235.lv 4 = [1,3,4] /\ h235.lv 5 = [1,3,4] /\ h235.lv 6 = [2]:=by decide +kernel
@[go_sem] def h235_q:=hplain h235 rfl rfl rfl
@[go_sem] theorem h235_t : h235.tk = [14,22] /\ h235.mt = [] /\ h235.pc = [20]:=⟨rfl,rfl,rfl⟩
theorem h235_k : FK Tryz.prog 235 Tryz.f235 h235:=⟨by kernel_rfl,by kernel_rfl,Tryz.func235,by kernel_rfl⟩
def h232 : Hint:=hx [9,41,8233,16,97,225,1048801,225,268435681,225,2199023255777,993,9007199254741473,225,0x20000000000000e1,225,0x80000000000000e1,16,16] [] [] [] [11,16,35,49,60] [(7,1)] []
@[go_sem] theorem h232_l : h232.lv 0 = [0,3] /\ h232.lv 1 = [0,3,5] /\ h232.lv 2 = [0,3,5,13] /\ h232.lv 3 = [4] /\ h232.lv 4 = [0,5,6] /\ h232.lv 5 = [0,5,6,7] /\ h232.lv 6 = [0,5,6,7,20] /\ h232.lv 7 = [0,5,6,7] /\ h232.lv 8 = [0,5,6,7,28] /\ h232.lv 9 = [0,5,6,7] /\ h232.lv 10 = [0,5,6,7,41] /\ h232.lv 11 = [0,5,6,7,8,9] /\ h232.lv 12 = [0,5,6,7,8,53] /\ h232.lv 13 = [0,5,6,7] /\ h232.lv 14 = [0,5,6,7,61] /\ h232.lv 15 = [0,5,6,7] /\ h232.lv 16 = [0,5,6,7,63] /\ h232.lv 17 = [4] /\ h232.lv 18 = [4]:=by decide +kernel
@[go_sem] theorem h232_g : h232.ct 0 = none /\ h232.ct 1 = none /\ h232.ct 2 = none /\ h232.ct 3 = none /\ h232.ct 4 = none /\ h232.ct 5 = none /\ h232.ct 6 = none /\ h232.ct 7 = some 1 /\ h232.ct 8 = none /\ h232.ct 9 = none /\ h232.ct 10 = none /\ h232.ct 11 = none /\ h232.ct 12 = none /\ h232.ct 13 = none /\ h232.ct 14 = none /\ h232.ct 15 = none /\ h232.ct 16 = none /\ h232.ct 17 = none /\ h232.ct 18 = none:=by decide +kernel
@[go_sem] theorem h232_z (k : Nat) : h232.at k = []:=rfl
@[go_sem] theorem h232_y (k : Nat) : h232.dn k = false:=Eq.trans rfl rfl
@[go_sem] theorem h232_t : h232.tk = [] /\ h232.mt = [] /\ h232.pc = [11,16,35,49,60]:=⟨rfl,rfl,rfl⟩
theorem h232_k : FK Tryz.prog 232 Tryz.f232 h232:=⟨by kernel_rfl,by kernel_rfl,Tryz.func232,by kernel_rfl⟩
def h233 : Hint:=hx [9,41,4194345,16,73,1073741897,73,201,549755814089,201,713,4503599627370697,16,1033,0x200000000000409,1033,3081,0x4000000000000c09,3081,0x8000000000000000c09,16,4104,0x100000000000000000000000,16,16] [31,77] [] [] [15,48,80,90] [(9,1)] []
@[go_sem] theorem h233_l : h233.lv 0 = [0,3] /\ h233.lv 1 = [0,3,5] /\ h233.lv 2 = [0,3,5,22] /\ h233.lv 3 = [4] /\ h233.lv 4 = [0,3,6] /\ h233.lv 5 = [0,3,6,30] /\ h233.lv 6 = [0,3,6] /\ h233.lv 7 = [0,3,6,7] /\ h233.lv 8 = [0,3,6,7,39] /\ h233.lv 9 = [0,3,6,7] /\ h233.lv 10 = [0,3,6,7,9] /\ h233.lv 11 = [0,3,6,7,52] /\ h233.lv 12 = [4] /\ h233.lv 13 = [0,3,10] /\ h233.lv 14 = [0,3,10,57] /\ h233.lv 15 = [0,3,10] /\ h233.lv 16 = [0,3,10,11] /\ h233.lv 17 = [0,3,10,11,62] /\ h233.lv 18 = [0,3,10,11] /\ h233.lv 19 = [0,3,10,11,75] /\ h233.lv 20 = [4] /\ h233.lv 21 = [3,12] /\ h233.lv 22 = [92] /\ h233.lv 23 = [4] /\ h233.lv 24 = [4]:=by decide +kernel
@[go_sem] theorem h233_g : h233.ct 0 = none /\ h233.ct 1 = none /\ h233.ct 2 = none /\ h233.ct 3 = none /\ h233.ct 4 = none /\ h233.ct 5 = none /\ h233.ct 6 = none /\ h233.ct 7 = none /\ h233.ct 8 = none /\ h233.ct 9 = some 1 /\ h233.ct 10 = none /\ h233.ct 11 = none /\ h233.ct 12 = none /\ h233.ct 13 = none /\ h233.ct 14 = none /\ h233.ct 15 = none /\ h233.ct 16 = none /\ h233.ct 17 = none /\ h233.ct 18 = none /\ h233.ct 19 = none /\ h233.ct 20 = none /\ h233.ct 21 = none /\ h233.ct 22 = none /\ h233.ct 23 = none /\ h233.ct 24 = none:=by decide +kernel
@[go_sem] theorem h233_z (k : Nat) : h233.at k = []:=rfl
@[go_sem] theorem h233_y (k : Nat) : h233.dn k = false:=Eq.trans rfl rfl
@[go_sem] theorem h233_t : h233.tk = [31,77] /\ h233.mt = [] /\ h233.pc = [15,48,80,90]:=⟨rfl,rfl,rfl⟩
theorem h233_k : FK Tryz.prog 233 Tryz.f233 h233:=⟨by kernel_rfl,by kernel_rfl,Tryz.func233,by kernel_rfl⟩
def h289 : Hint:=hm [3,1027,16,35,16419,35,33554467,16,16] [] [] []
@[go_sem] theorem h289_l : h289.lv 0 = [0,1] /\ h289.lv 1 = [0,1,10] /\ h289.lv 2 = [4] /\ h289.lv 3 = [0,1,5] /\ h289.lv 4 = [0,1,5,14] /\ h289.lv 5 = [0,1,5] /\ h289.lv 6 = [0,1,5,25] /\ h289.lv 7 = [4] /\ h289.lv 8 = [4]:=by decide +kernel
@[go_sem] def h289_q:=hplain h289 rfl rfl rfl
@[go_sem] theorem h289_t : h289.tk = [] /\ h289.mt = [] /\ h289.pc = []:=⟨rfl,rfl,rfl⟩
theorem h289_k : FK Tryz.prog 289 Tryz.f289 h289:=⟨by kernel_rfl,by kernel_rfl,Tryz.func289,by kernel_rfl⟩
def h288 : Hint:=hm [2,4] [] [] []
@[go_sem] theorem h288_l : h288.lv 0 = [1] /\ h288.lv 1 = [2]:=by decide +kernel
@[go_sem] def h288_q:=hplain h288 rfl rfl rfl
@[go_sem] theorem h288_t : h288.tk = [] /\ h288.mt = [] /\ h288.pc = []:=⟨rfl,rfl,rfl⟩
theorem h288_k : FK Tryz.prog 288 Tryz.f288 h288:=⟨by kernel_rfl,by kernel_rfl,Tryz.func288,by kernel_rfl⟩
def h290 : Hint:=hx [3,35,99,4195,99,227,99,16] [24,29] [] [] [21] [(4,0)] []
@[go_sem] theorem h290_l : h290.lv 0 = [0,1] /\ h290.lv 1 = [0,1,5] /\ h290.lv 2 = [0,1,5,6] /\ h290.lv 3 = [0,1,5,6,12] /\ h290.lv 4 = [0,1,5,6] /\ h290.lv 5 = [0,1,5,6,7] /\ h290.lv 6 = [0,1,5,6] /\ h290.lv 7 = [4]:=by decide +kernel
@[go_sem] theorem h290_g : h290.ct 0 = none /\ h290.ct 1 = none /\ h290.ct 2 = none /\ h290.ct 3 = none /\ h290.ct 4 = some 0 /\ h290.ct 5 = none /\ h290.ct 6 = none /\ h290.ct 7 = none:=by decide +kernel
@[go_sem] theorem h290_z (k : Nat) : h290.at k = []:=rfl
@[go_sem] theorem h290_y (k : Nat) : h290.dn k = false:=Eq.trans rfl rfl
@[go_sem] theorem h290_t : h290.tk = [24,29] /\ h290.mt = [] /\ h290.pc = [21]:=⟨rfl,rfl,rfl⟩
theorem h290_k : FK Tryz.prog 290 Tryz.f290 h290:=⟨by kernel_rfl,by kernel_rfl,Tryz.func290,by kernel_rfl⟩
def h291 : Hint:=hm [1,8,24,4,72,72,4,520,512,4,4] [] [] []
@[go_sem] theorem h291_l : h291.lv 0 = [0] /\ h291.lv 1 = [3] /\ h291.lv 2 = [3,4] /\ h291.lv 3 = [2] /\ h291.lv 4 = [3,6] /\ h291.lv 5 = [3,6] /\ h291.lv 6 = [2] /\ h291.lv 7 = [3,9] /\ h291.lv 8 = [9] /\ h291.lv 9 = [2] /\ h291.lv 10 = [2]:=by decide +kernel
@[go_sem] def h291_q:=hplain h291 rfl rfl rfl
@[go_sem] theorem h291_t : h291.tk = [] /\ h291.mt = [] /\ h291.pc = []:=⟨rfl,rfl,rfl⟩
theorem h291_k : FK Tryz.prog 291 Tryz.f291 h291:=⟨by kernel_rfl,by kernel_rfl,Tryz.func291,by kernel_rfl⟩
def h234 : Hint:=hm [49,134217777,64,176,64] [] [] [9,12,31,35,36,41,44]
@[go_sem] theorem h234_l : h234.lv 0 = [0,4,5] /\ h234.lv 1 = [0,4,5,27] /\ h234.lv 2 = [6] /\ h234.lv 3 = [4,5,7] /\ h234.lv 4 = [6]:=by decide +kernel
@[go_sem] def h234_q:=hplain h234 rfl rfl rfl
@[go_sem] theorem h234_t : h234.tk = [] /\ h234.mt = [] /\ h234.pc = [9,12,31,35,36,41,44]:=⟨rfl,rfl,rfl⟩
theorem h234_k : FK Tryz.prog 234 Tryz.f234 h234:=⟨by kernel_rfl,by kernel_rfl,Tryz.func234,by kernel_rfl⟩
def h158 : Hint:=hx [3,35,65571,16,67,2097219,67,195,4294967491,16,323,4398046511427,16,515,0x800000000203,515,1539,4503599627372035,1539,3587,7683,0x4000000000000000000603,16,16] [] [] [] [14,30,40,84] [(18,0)] []
@[go_sem] theorem h158_l : h158.lv 0 = [0,1] /\ h158.lv 1 = [0,1,5] /\ h158.lv 2 = [0,1,5,16] /\ h158.lv 3 = [4] /\ h158.lv 4 = [0,1,6] /\ h158.lv 5 = [0,1,6,21] /\ h158.lv 6 = [0,1,6] /\ h158.lv 7 = [0,1,6,7] /\ h158.lv 8 = [0,1,6,7,32] /\ h158.lv 9 = [4] /\ h158.lv 10 = [0,1,6,8] /\ h158.lv 11 = [0,1,6,8,42] /\ h158.lv 12 = [4] /\ h158.lv 13 = [0,1,9] /\ h158.lv 14 = [0,1,9,47] /\ h158.lv 15 = [0,1,9] /\ h158.lv 16 = [0,1,9,10] /\ h158.lv 17 = [0,1,9,10,52] /\ h158.lv 18 = [0,1,9,10] /\ h158.lv 19 = [0,1,9,10,11] /\ h158.lv 20 = [0,1,9,10,11,12] /\ h158.lv 21 = [0,1,9,10,86] /\ h158.lv 22 = [4] /\ h158.lv 23 = [4]:=by decide +kernel
@[go_sem] theorem h158_g : h158.ct 0 = none /\ h158.ct 1 = none /\ h158.ct 2 = none /\ h158.ct 3 = none /\ h158.ct 4 = none /\ h158.ct 5 = none /\ h158.ct 6 = none /\ h158.ct 7 = none /\ h158.ct 8 = none /\ h158.ct 9 = none /\ h158.ct 10 = none /\ h158.ct 11 = none /\ h158.ct 12 = none /\ h158.ct 13 = none /\ h158.ct 14 = none /\ h158.ct 15 = none /\ h158.ct 16 = none /\ h158.ct 17 = none /\ h158.ct 18 = some 0 /\ h158.ct 19 = none /\ h158.ct 20 = none /\ h158.ct 21 = none /\ h158.ct 22 = none /\ h158.ct 23 = none:=by decide +kernel
@[go_sem] theorem h158_z (k : Nat) : h158.at k = []:=rfl
@[go_sem] theorem h158_y (k : Nat) : h158.dn k = false:=Eq.trans rfl rfl
@[go_sem] theorem h158_t : h158.tk = [] /\ h158.mt = [] /\ h158.pc = [14,30,40,84]:=⟨rfl,rfl,rfl⟩
theorem h158_k : FK Tryz.prog 158 Tryz.f158 h158:=⟨by kernel_rfl,by kernel_rfl,Tryz.func158,by kernel_rfl⟩
def h236 : Hint:=hm [3,35,99,227,2275,227,8388835,163,227,8589934819,227,4398046511138,32,16] [24,34,43,47] [] []
@[go_sem] theorem h236_l : h236.lv 0 = [0,1] /\ h236.lv 1 = [0,1,5] /\ h236.lv 2 = [0,1,5,6] /\ h236.lv 3 = [0,1,5,6,7] /\ h236.lv 4 = [0,1,5,6,7,11] /\ h236.lv 5 = [0,1,5,6,7] /\ h236.lv 6 = [0,1,5,6,7,23] /\ h236.lv 7 = [0,1,5,7] /\ h236.lv 8 = [0,1,5,6,7] /\ h236.lv 9 = [0,1,5,6,7,33] /\ h236.lv 10 = [0,1,5,6,7] /\ h236.lv 11 = [1,5,42] /\ h236.lv 12 = [5] /\ h236.lv 13 = [4]:=by decide +kernel
@[go_sem] def h236_q:=hplain h236 rfl rfl rfl
@[go_sem] theorem h236_t : h236.tk = [24,34,43,47] /\ h236.mt = [] /\ h236.pc = []:=⟨rfl,rfl,rfl⟩
theorem h236_k : FK Tryz.prog 236 Tryz.f236 h236:=⟨by kernel_rfl,by kernel_rfl,Tryz.func236,by kernel_rfl⟩
def h159 : Hint:=hm [2,10,24,56,2104,56,134217784,56,4] [] [] [7,34]
@[go_sem] theorem h159_l : h159.lv 0 = [1] /\ h159.lv 1 = [1,3] /\ h159.lv 2 = [3,4] /\ h159.lv 3 = [3,4,5] /\ h159.lv 4 = [3,4,5,11] /\ h159.lv 5 = [3,4,5] /\ h159.lv 6 = [3,4,5,27] /\ h159.lv 7 = [3,4,5] /\ h159.lv 8 = [2]:=by decide +kernel
@[go_sem] def h159_q:=hplain h159 rfl rfl rfl
@[go_sem] theorem h159_t : h159.tk = [] /\ h159.mt = [] /\ h159.pc = [7,34]:=⟨rfl,rfl,rfl⟩
theorem h159_k : FK Tryz.prog 159 Tryz.f159 h159:=⟨by kernel_rfl,by kernel_rfl,Tryz.func159,by kernel_rfl⟩
def h161 : Hint:=hm [3,35,547,35,131107,16,16] [] [] []
@[go_sem] theorem h161_l : h161.lv 0 = [0,1] /\ h161.lv 1 = [0,1,5] /\ h161.lv 2 = [0,1,5,9] /\ h161.lv 3 = [0,1,5] /\ h161.lv 4 = [0,1,5,17] /\ h161.lv 5 = [4] /\ h161.lv 6 = [4]:=by decide +kernel
@[go_sem] def h161_q:=hplain h161 rfl rfl rfl
@[go_sem] theorem h161_t : h161.tk = [] /\ h161.mt = [] /\ h161.pc = []:=⟨rfl,rfl,rfl⟩
theorem h161_k : FK Tryz.prog 161 Tryz.f161 h161:=⟨by kernel_rfl,by kernel_rfl,Tryz.func161,by kernel_rfl⟩
def h118 : Hint:=hx [12,40,65576,16,72,4194376,72,200,456,34359738824,456,17592186044872,16,584,0x8000000000000048,16,16] [] [] [] [14,31,43,61] [(6,2)] []
@[go_sem] theorem h118_l : h118.lv 0 = [2,3] /\ h118.lv 1 = [3,5] /\ h118.lv 2 = [3,5,16] /\ h118.lv 3 = [4] /\ h118.lv 4 = [3,6] /\ h118.lv 5 = [3,6,22] /\ h118.lv 6 = [3,6] /\ h118.lv 7 = [3,6,7] /\ h118.lv 8 = [3,6,7,8] /\ h118.lv 9 = [3,6,7,8,35] /\ h118.lv 10 = [3,6,7,8] /\ h118.lv 11 = [3,6,7,8,44] /\ h118.lv 12 = [4] /\ h118.lv 13 = [3,6,9] /\ h118.lv 14 = [3,6,63] /\ h118.lv 15 = [4] /\ h118.lv 16 = [4]:=by decide +kernel
@[go_sem] theorem h118_g : h118.ct 0 = none /\ h118.ct 1 = none /\ h118.ct 2 = none /\ h118.ct 3 = none /\ h118.ct 4 = none /\ h118.ct 5 = none /\ h118.ct 6 = some 2 /\ h118.ct 7 = none /\ h118.ct 8 = none /\ h118.ct 9 = none /\ h118.ct 10 = none /\ h118.ct 11 = none /\ h118.ct 12 = none /\ h118.ct 13 = none /\ h118.ct 14 = none /\ h118.ct 15 = none /\ h118.ct 16 = none:=by decide +kernel
@[go_sem] theorem h118_z (k : Nat) : h118.at k = []:=rfl
@[go_sem] theorem h118_y (k : Nat) : h118.dn k = false:=Eq.trans rfl rfl
@[go_sem] theorem h118_t : h118.tk = [] /\ h118.mt = [] /\ h118.pc = [14,31,43,61]:=⟨rfl,rfl,rfl⟩
theorem h118_k : FK Tryz.prog 118 Tryz.f118 h118:=⟨by kernel_rfl,by kernel_rfl,Tryz.func118,by kernel_rfl⟩
def h124 : Hint:=hm [2,4] [] [] [4,6,7]
@[go_sem] theorem h124_l : h124.lv 0 = [1] /\ h124.lv 1 = [2]:=by decide +kernel
@[go_sem] def h124_q:=hplain h124 rfl rfl rfl
@[go_sem] theorem h124_t : h124.tk = [] /\ h124.mt = [] /\ h124.pc = [4,6,7]:=⟨rfl,rfl,rfl⟩
theorem h124_k : FK Tryz.prog 124 Tryz.f124 h124:=⟨by kernel_rfl,by kernel_rfl,Tryz.func124,by kernel_rfl⟩
def h82 : Hint:=hm [9,41,553,16,16] [11] [] [7,13]
@[go_sem] theorem h82_l : h82.lv 0 = [0,3] /\ h82.lv 1 = [0,3,5] /\ h82.lv 2 = [0,3,5,9] /\ h82.lv 3 = [4] /\ h82.lv 4 = [4]:=by decide +kernel
@[go_sem] def h82_q:=hplain h82 rfl rfl rfl
@[go_sem] theorem h82_t : h82.tk = [11] /\ h82.mt = [] /\ h82.pc = [7,13]:=⟨rfl,rfl,rfl⟩
theorem h82_k : FK Tryz.prog 82 Tryz.f82 h82:=⟨by kernel_rfl,by kernel_rfl,Tryz.func82,by kernel_rfl⟩
def h163 : Hint:=hm [2,10,26,58,32826,4,98362,98362,50,557114,50,4227106,4227106,50,33554466,50,34359738386,4,82,274877907026,82,210,281474976710738,4,4] [] [] [10,46]
@[go_sem] theorem h163_l : h163.lv 0 = [1] /\ h163.lv 1 = [1,3] /\ h163.lv 2 = [1,3,4] /\ h163.lv 3 = [1,3,4,5] /\ h163.lv 4 = [1,3,4,5,15] /\ h163.lv 5 = [2] /\ h163.lv 6 = [1,3,4,5,15,16] /\ h163.lv 7 = [1,3,4,5,15,16] /\ h163.lv 8 = [1,4,5] /\ h163.lv 9 = [1,3,4,5,15,19] /\ h163.lv 10 = [1,4,5] /\ h163.lv 11 = [1,5,15,22] /\ h163.lv 12 = [1,5,15,22] /\ h163.lv 13 = [1,4,5] /\ h163.lv 14 = [1,5,25] /\ h163.lv 15 = [1,4,5] /\ h163.lv 16 = [1,4,35] /\ h163.lv 17 = [2] /\ h163.lv 18 = [1,4,6] /\ h163.lv 19 = [1,4,6,38] /\ h163.lv 20 = [1,4,6] /\ h163.lv 21 = [1,4,6,7] /\ h163.lv 22 = [1,4,6,48] /\ h163.lv 23 = [2] /\ h163.lv 24 = [2]:=by decide +kernel
@[go_sem] def h163_q:=hplain h163 rfl rfl rfl
@[go_sem] theorem h163_t : h163.tk = [] /\ h163.mt = [] /\ h163.pc = [10,46]:=⟨rfl,rfl,rfl⟩
theorem h163_k : FK Tryz.prog 163 Tryz.f163 h163:=⟨by kernel_rfl,by kernel_rfl,Tryz.func163,by kernel_rfl⟩
def h119 : Hint:=hm [2,4] [] [] [4,6,7]
@[go_sem] theorem h119_l : h119.lv 0 = [1] /\ h119.lv 1 = [2]:=by decide +kernel
@[go_sem] def h119_q:=hplain h119 rfl rfl rfl
@[go_sem] theorem h119_t : h119.tk = [] /\ h119.mt = [] /\ h119.pc = [4,6,7]:=⟨rfl,rfl,rfl⟩
theorem h119_k : FK Tryz.prog 119 Tryz.f119 h119:=⟨by kernel_rfl,by kernel_rfl,Tryz.func119,by kernel_rfl⟩
def h73 : Hint:=hm [2,18,50,114,4210,114,114,178,268435634,178,178,12] [15,31,40,41] [] []
@[go_sem] theorem h73_l : h73.lv 0 = [1] /\ h73.lv 1 = [1,4] /\ h73.lv 2 = [1,4,5] /\ h73.lv 3 = [1,4,5,6] /\ h73.lv 4 = [1,4,5,6,12] /\ h73.lv 5 = [1,4,5,6] /\ h73.lv 6 = [1,4,5,6] /\ h73.lv 7 = [1,4,5,7] /\ h73.lv 8 = [1,4,5,7,28] /\ h73.lv 9 = [1,4,5,7] /\ h73.lv 10 = [1,4,5,7] /\ h73.lv 11 = [2,3]:=by decide +kernel
@[go_sem] def h73_q:=hplain h73 rfl rfl rfl
@[go_sem] theorem h73_t : h73.tk = [15,31,40,41] /\ h73.mt = [] /\ h73.pc = []:=⟨rfl,rfl,rfl⟩
theorem h73_k : FK Tryz.prog 73 Tryz.f73 h73:=⟨by kernel_rfl,by kernel_rfl,Tryz.func73,by kernel_rfl⟩
def h120 : Hint:=hm [12,44,4194316,16,140,134217868,140,137438953612,16,16] [17] [] [10,20,36]
@[go_sem] theorem h120_l : h120.lv 0 = [2,3] /\ h120.lv 1 = [2,3,5] /\ h120.lv 2 = [2,3,22] /\ h120.lv 3 = [4] /\ h120.lv 4 = [2,3,7] /\ h120.lv 5 = [2,3,7,27] /\ h120.lv 6 = [2,3,7] /\ h120.lv 7 = [2,3,7,37] /\ h120.lv 8 = [4] /\ h120.lv 9 = [4]:=by decide +kernel
@[go_sem] def h120_q:=hplain h120 rfl rfl rfl
@[go_sem] theorem h120_t : h120.tk = [17] /\ h120.mt = [] /\ h120.pc = [10,20,36]:=⟨rfl,rfl,rfl⟩
theorem h120_k : FK Tryz.prog 120 Tryz.f120 h120:=⟨by kernel_rfl,by kernel_rfl,Tryz.func120,by kernel_rfl⟩
def h121 : Hint:=hm [6,16] [] [] [7]
@[go_sem] theorem h121_l : h121.lv 0 = [1,2] /\ h121.lv 1 = [4]:=by decide +kernel
@[go_sem] def h121_q:=hplain h121 rfl rfl rfl
@[go_sem] theorem h121_t : h121.tk = [] /\ h121.mt = [] /\ h121.pc = [7]:=⟨rfl,rfl,rfl⟩
theorem h121_k : FK Tryz.prog 121 Tryz.f121 h121:=⟨by kernel_rfl,by kernel_rfl,Tryz.func121,by kernel_rfl⟩
def h79 : Hint:=hx [12,2147483660,16,44,68719476780,44,2199023255596,16,76,0x80000000004c,76,108,0x100000000000006c,108,0x20000000000000000006c,108,0x80000000000000000006c,16,136,0x20000000000000000000088,136,392,0x1000000000000000000000000000000188,16,904,0x8000000000000000000000000000000388,904,0x2000000000000000000000000000000000000388,16,16] [] [] [] [34,39,58,67,79,100,106] [(20,2)] []
@[go_sem] theorem h79_l : h79.lv 0 = [2,3] /\ h79.lv 1 = [2,3,31] /\ h79.lv 2 = [4] /\ h79.lv 3 = [2,3,5] /\ h79.lv 4 = [2,3,5,36] /\ h79.lv 5 = [2,3,5] /\ h79.lv 6 = [2,3,5,41] /\ h79.lv 7 = [4] /\ h79.lv 8 = [2,3,6] /\ h79.lv 9 = [2,3,6,47] /\ h79.lv 10 = [2,3,6] /\ h79.lv 11 = [2,3,5,6] /\ h79.lv 12 = [2,3,5,6,60] /\ h79.lv 13 = [2,3,5,6] /\ h79.lv 14 = [2,3,5,6,81] /\ h79.lv 15 = [2,3,5,6] /\ h79.lv 16 = [2,3,5,6,83] /\ h79.lv 17 = [4] /\ h79.lv 18 = [3,7] /\ h79.lv 19 = [3,7,89] /\ h79.lv 20 = [3,7] /\ h79.lv 21 = [3,7,8] /\ h79.lv 22 = [3,7,8,132] /\ h79.lv 23 = [4] /\ h79.lv 24 = [3,7,8,9] /\ h79.lv 25 = [3,7,8,9,135] /\ h79.lv 26 = [3,7,8,9] /\ h79.lv 27 = [3,7,8,9,157] /\ h79.lv 28 = [4] /\ h79.lv 29 = [4]:=by decide +kernel
@[go_sem] theorem h79_g : h79.ct 0 = none /\ h79.ct 1 = none /\ h79.ct 2 = none /\ h79.ct 3 = none /\ h79.ct 4 = none /\ h79.ct 5 = none /\ h79.ct 6 = none /\ h79.ct 7 = none /\ h79.ct 8 = none /\ h79.ct 9 = none /\ h79.ct 10 = none /\ h79.ct 11 = none /\ h79.ct 12 = none /\ h79.ct 13 = none /\ h79.ct 14 = none /\ h79.ct 15 = none /\ h79.ct 16 = none /\ h79.ct 17 = none /\ h79.ct 18 = none /\ h79.ct 19 = none /\ h79.ct 20 = some 2 /\ h79.ct 21 = none /\ h79.ct 22 = none /\ h79.ct 23 = none /\ h79.ct 24 = none /\ h79.ct 25 = none /\ h79.ct 26 = none /\ h79.ct 27 = none /\ h79.ct 28 = none /\ h79.ct 29 = none:=by decide +kernel
@[go_sem] theorem h79_z (k : Nat) : h79.at k = []:=rfl
@[go_sem] theorem h79_y (k : Nat) : h79.dn k = false:=Eq.trans rfl rfl
@[go_sem] theorem h79_t : h79.tk = [] /\ h79.mt = [] /\ h79.pc = [34,39,58,67,79,100,106]:=⟨rfl,rfl,rfl⟩
theorem h79_k : FK Tryz.prog 79 Tryz.f79 h79:=⟨by kernel_rfl,by kernel_rfl,Tryz.func79,by kernel_rfl⟩
def h37 : Hint:=hm [30,256] [] [] []
@[go_sem] theorem h37_l : h37.lv 0 = [1,2,3,4] /\ h37.lv 1 = [8]:=by decide +kernel
@[go_sem] def h37_q:=hplain h37 rfl rfl rfl
@[go_sem] theorem h37_t : h37.tk = [] /\ h37.mt = [] /\ h37.pc = []:=⟨rfl,rfl,rfl⟩
theorem h37_k : FK Tryz.prog 37 Tryz.f37 h37:=⟨by kernel_rfl,by kernel_rfl,Tryz.func37,by kernel_rfl⟩
def h74 : Hint:=hm [1,9,521,9,25,262153,4,41,2097193,41,4294967337,4,4] [] [] [16]
@[go_sem] theorem h74_l : h74.lv 0 = [0] /\ h74.lv 1 = [0,3] /\ h74.lv 2 = [0,3,9] /\ h74.lv 3 = [0,3] /\ h74.lv 4 = [0,3,4] /\ h74.lv 5 = [0,3,18] /\ h74.lv 6 = [2] /\ h74.lv 7 = [0,3,5] /\ h74.lv 8 = [0,3,5,21] /\ h74.lv 9 = [0,3,5] /\ h74.lv 10 = [0,3,5,32] /\ h74.lv 11 = [2] /\ h74.lv 12 = [2]:=by decide +kernel
@[go_sem] def h74_q:=hplain h74 rfl rfl rfl
@[go_sem] theorem h74_t : h74.tk = [] /\ h74.mt = [] /\ h74.pc = [16]:=⟨rfl,rfl,rfl⟩
theorem h74_k : FK Tryz.prog 74 Tryz.f74 h74:=⟨by kernel_rfl,by kernel_rfl,Tryz.func74,by kernel_rfl⟩
def h75 : Hint:=hm [6,16] [] [] []
@[go_sem] theorem h75_l : h75.lv 0 = [1,2] /\ h75.lv 1 = [4]:=by decide +kernel
@[go_sem] def h75_q:=hplain h75 rfl rfl rfl
@[go_sem] theorem h75_t : h75.tk = [] /\ h75.mt = [] /\ h75.pc = []:=⟨rfl,rfl,rfl⟩
theorem h75_k : FK Tryz.prog 75 Tryz.f75 h75:=⟨by kernel_rfl,by kernel_rfl,Tryz.func75,by kernel_rfl⟩
def h40 : Hint:=hx [2,134217730,4,26,50,98,4398046511106,4,130,0x800000000082,130,386,0x1000000000000000082,4,514,0x20000000000000000202,514,1538,0x20000000000000000000000000202,4,2050,0x400000000000000000000000000802,2050,0x200000000000000000000000000000802,4,4] [33,35] [] [] [30,34,36,88,94,128] [(10,1),(16,1)] []
@[go_sem] theorem h40_l : h40.lv 0 = [1] /\ h40.lv 1 = [1,27] /\ h40.lv 2 = [2] /\ h40.lv 3 = [1,3,4] /\ h40.lv 4 = [1,4,5] /\ h40.lv 5 = [1,5,6] /\ h40.lv 6 = [1,42] /\ h40.lv 7 = [2] /\ h40.lv 8 = [1,7] /\ h40.lv 9 = [1,7,47] /\ h40.lv 10 = [1,7] /\ h40.lv 11 = [1,7,8] /\ h40.lv 12 = [1,7,72] /\ h40.lv 13 = [2] /\ h40.lv 14 = [1,9] /\ h40.lv 15 = [1,9,77] /\ h40.lv 16 = [1,9] /\ h40.lv 17 = [1,9,10] /\ h40.lv 18 = [1,9,113] /\ h40.lv 19 = [2] /\ h40.lv 20 = [1,11] /\ h40.lv 21 = [1,11,118] /\ h40.lv 22 = [1,11] /\ h40.lv 23 = [1,11,129] /\ h40.lv 24 = [2] /\ h40.lv 25 = [2]:=by decide +kernel
@[go_sem] theorem h40_g : h40.ct 0 = none /\ h40.ct 1 = none /\ h40.ct 2 = none /\ h40.ct 3 = none /\ h40.ct 4 = none /\ h40.ct 5 = none /\ h40.ct 6 = none /\ h40.ct 7 = none /\ h40.ct 8 = none /\ h40.ct 9 = none /\ h40.ct 10 = some 1 /\ h40.ct 11 = none /\ h40.ct 12 = none /\ h40.ct 13 = none /\ h40.ct 14 = none /\ h40.ct 15 = none /\ h40.ct 16 = some 1 /\ h40.ct 17 = none /\ h40.ct 18 = none /\ h40.ct 19 = none /\ h40.ct 20 = none /\ h40.ct 21 = none /\ h40.ct 22 = none /\ h40.ct 23 = none /\ h40.ct 24 = none /\ h40.ct 25 = none:=by decide +kernel
@[go_sem] theorem h40_z (k : Nat) : h40.at k = []:=rfl
@[go_sem] theorem h40_y (k : Nat) : h40.dn k = false:=Eq.trans rfl rfl
@[go_sem] theorem h40_t : h40.tk = [33,35] /\ h40.mt = [] /\ h40.pc = [30,34,36,88,94,128]:=⟨rfl,rfl,rfl⟩
theorem h40_k : FK Tryz.prog 40 Tryz.f40 h40:=⟨by kernel_rfl,by kernel_rfl,Tryz.func40,by kernel_rfl⟩
def h77 : Hint:=hm [2,4] [] [] []
@[go_sem] theorem h77_l : h77.lv 0 = [1] /\ h77.lv 1 = [2]:=by decide +kernel
@[go_sem] def h77_q:=hplain h77 rfl rfl rfl
@[go_sem] theorem h77_t : h77.tk = [] /\ h77.mt = [] /\ h77.pc = []:=⟨rfl,rfl,rfl⟩
theorem h77_k : FK Tryz.prog 77 Tryz.f77 h77:=⟨by kernel_rfl,by kernel_rfl,Tryz.func77,by kernel_rfl⟩
def h78 : Hint:=hm [12,16] [] [] []
@[go_sem] theorem h78_l : h78.lv 0 = [2,3] /\ h78.lv 1 = [4]:=by decide +kernel
@[go_sem] def h78_q:=hplain h78 rfl rfl rfl
@[go_sem] theorem h78_t : h78.tk = [] /\ h78.mt = [] /\ h78.pc = []:=⟨rfl,rfl,rfl⟩
theorem h78_k : FK Tryz.prog 78 Tryz.f78 h78:=⟨by kernel_rfl,by kernel_rfl,Tryz.func78,by kernel_rfl⟩
def h41 : Hint:=hm [1,2049,4,9,32777,9,25,8589934601,4,41,68719476777,41,562949953421353,4,73,72057594037927945,4,137,0x800000000000089,137,393,0x800000000000000089,4,4] [] [] [23,54,70]
@[go_sem] theorem h41_l : h41.lv 0 = [0] /\ h41.lv 1 = [0,11] /\ h41.lv 2 = [2] /\ h41.lv 3 = [0,3] /\ h41.lv 4 = [0,3,15] /\ h41.lv 5 = [0,3] /\ h41.lv 6 = [0,3,4] /\ h41.lv 7 = [0,3,33] /\ h41.lv 8 = [2] /\ h41.lv 9 = [0,3,5] /\ h41.lv 10 = [0,3,5,36] /\ h41.lv 11 = [0,3,5] /\ h41.lv 12 = [0,3,5,49] /\ h41.lv 13 = [2] /\ h41.lv 14 = [0,3,6] /\ h41.lv 15 = [0,3,56] /\ h41.lv 16 = [2] /\ h41.lv 17 = [0,3,7] /\ h41.lv 18 = [0,3,7,59] /\ h41.lv 19 = [0,3,7] /\ h41.lv 20 = [0,3,7,8] /\ h41.lv 21 = [0,3,7,71] /\ h41.lv 22 = [2] /\ h41.lv 23 = [2]:=by decide +kernel
@[go_sem] def h41_q:=hplain h41 rfl rfl rfl
@[go_sem] theorem h41_t : h41.tk = [] /\ h41.mt = [] /\ h41.pc = [23,54,70]:=⟨rfl,rfl,rfl⟩
theorem h41_k : FK Tryz.prog 41 Tryz.f41 h41:=⟨by kernel_rfl,by kernel_rfl,Tryz.func41,by kernel_rfl⟩
def h112 : Hint:=hm [449,961,473,8389057,449] [] [] []
@[go_sem] theorem h112_l : h112.lv 0 = [0,6,7,8] /\ h112.lv 1 = [0,6,7,8,9] /\ h112.lv 2 = [0,3,4,6,7,8] /\ h112.lv 3 = [0,6,7,8,23] /\ h112.lv 4 = [0,6,7,8]:=by decide +kernel
@[go_sem] def h112_q:=hplain h112 rfl rfl rfl
@[go_sem] theorem h112_t : h112.tk = [] /\ h112.mt = [] /\ h112.pc = []:=⟨rfl,rfl,rfl⟩
theorem h112_k : FK Tryz.prog 112 Tryz.f112 h112:=⟨by kernel_rfl,by kernel_rfl,Tryz.func112,by kernel_rfl⟩
def h67 : Hint:=hm [2,4] [] [] []
@[go_sem] theorem h67_l : h67.lv 0 = [1] /\ h67.lv 1 = [2]:=by decide +kernel
@[go_sem] def h67_q:=hplain h67 rfl rfl rfl
theorem h67_k : FK Tryz.prog 67 Tryz.f67 h67:=⟨by kernel_rfl,by kernel_rfl,Tryz.func67,by kernel_rfl⟩
def h35 : Hint:=hm [28,280,1080,120,8240,1,16] [] [] []
@[go_sem] theorem h35_l : h35.lv 0 = [2,3,4] /\ h35.lv 1 = [3,4,8] /\ h35.lv 2 = [3,4,5,10] /\ h35.lv 3 = [3,4,5,6] /\ h35.lv 4 = [4,5,13] /\ h35.lv 5 = [0] /\ h35.lv 6 = [4]:=by decide +kernel
@[go_sem] def h35_q:=hplain h35 rfl rfl rfl
@[go_sem] theorem h35_t : h35.tk = [] /\ h35.mt = [] /\ h35.pc = []:=⟨rfl,rfl,rfl⟩
theorem h35_k : FK Tryz.prog 35 Tryz.f35 h35:=⟨by kernel_rfl,by kernel_rfl,Tryz.func35,by kernel_rfl⟩
def h34 : Hint:=hm [6,38,1062,38,16777254,16,16] [] [] []
@[go_sem] theorem h34_l : h34.lv 0 = [1,2] /\ h34.lv 1 = [1,2,5] /\ h34.lv 2 = [1,2,5,10] /\ h34.lv 3 = [1,2,5] /\ h34.lv 4 = [1,2,5,24] /\ h34.lv 5 = [4] /\ h34.lv 6 = [4]:=by decide +kernel
@[go_sem] def h34_q:=hplain h34 rfl rfl rfl
@[go_sem] theorem h34_t : h34.tk = [] /\ h34.mt = [] /\ h34.pc = []:=⟨rfl,rfl,rfl⟩
theorem h34_k : FK Tryz.prog 34 Tryz.f34 h34:=⟨by kernel_rfl,by kernel_rfl,Tryz.func34,by kernel_rfl⟩
def h36 : Hint:=hm [7,64] [] [] []
@[go_sem] theorem h36_l : h36.lv 0 = [0,1,2] /\ h36.lv 1 = [6]:=by decide +kernel
@[go_sem] def h36_q:=hplain h36 rfl rfl rfl
@[go_sem] theorem h36_t : h36.tk = [] /\ h36.mt = [] /\ h36.pc = []:=⟨rfl,rfl,rfl⟩
theorem h36_k : FK Tryz.prog 36 Tryz.f36 h36:=⟨by kernel_rfl,by kernel_rfl,Tryz.func36,by kernel_rfl⟩
def h19 : Hint:=hm [6,2054,16,16] [] [] [10]
@[go_sem] theorem h19_l : h19.lv 0 = [1,2] /\ h19.lv 1 = [1,2,11] /\ h19.lv 2 = [4] /\ h19.lv 3 = [4]:=by decide +kernel
@[go_sem] def h19_q:=hplain h19 rfl rfl rfl
@[go_sem] theorem h19_t : h19.tk = [] /\ h19.mt = [] /\ h19.pc = [10]:=⟨rfl,rfl,rfl⟩
theorem h19_k : FK Tryz.prog 19 Tryz.f19 h19:=⟨by kernel_rfl,by kernel_rfl,Tryz.func19,by kernel_rfl⟩
end Go.AI
namespace Go.AI
open Go.Proofs
@[go_sem] theorem cellsOf96 : Tryz.prog.cellsOf 96 = 1:=by kernel_rfl
@[go_sem] theorem ldk96 : ldk Tryz.prog 96 = some none:=by kernel_rfl
@[go_sem] theorem zeroAV96 : zeroAV Tryz.prog 96 = some (.nilf):=by kernel_rfl
@[go_sem] theorem cellsOf154 : Tryz.prog.cellsOf 154 = 1:=by kernel_rfl
@[go_sem] theorem ldk154 : ldk Tryz.prog 154 = some none:=by kernel_rfl
@[go_sem] theorem zeroAV154 : zeroAV Tryz.prog 154 = some (.nilf):=by kernel_rfl
@[go_sem] theorem ldk163 : ldk Tryz.prog 163 = some none:=by kernel_rfl
@[go_sem] theorem cellsOf209 : Tryz.prog.cellsOf 209 = 2:=by kernel_rfl
@[go_sem] theorem ldk209 : ldk Tryz.prog 209 = some (some 2):=by kernel_rfl
@[go_sem] theorem bkind209 : bkind Tryz.prog 209 = .struct [(0,1),(1,1)]:=by kernel_rfl
@[go_sem] theorem fplace209_0 : fplace Tryz.prog 209 0 = some (3,0):=by kernel_rfl
@[go_sem] theorem fplace209_1 : fplace Tryz.prog 209 1 = some (3,1):=by kernel_rfl
@[go_sem] theorem zeroAV209 : zeroAV Tryz.prog 209 = some (.agg [.int .i64 0,.int .i64 0]):=by kernel_rfl
@[go_sem] theorem und352 : Tryz.prog.underlying 352 = some (.int .u64):=by kernel_rfl
@[go_sem] theorem und360 : Tryz.prog.underlying 360 = some (.array 49 9):=by kernel_rfl
end Go.AI
set_option linter.defProp false
namespace Go.AI
open Go.Proofs
def h110 : Hint:=hm [12,44,17592186044428,16,76,562949953421388,76,204,0x1000000000000004c,16,16] [] [] [12,62]
@[go_sem] theorem h110_l : h110.lv 0 = [2,3] /\ h110.lv 1 = [2,3,5] /\ h110.lv 2 = [2,3,44] /\ h110.lv 3 = [4] /\ h110.lv 4 = [2,3,6] /\ h110.lv 5 = [2,3,6,49] /\ h110.lv 6 = [2,3,6] /\ h110.lv 7 = [2,3,6,7] /\ h110.lv 8 = [2,3,6,64] /\ h110.lv 9 = [4] /\ h110.lv 10 = [4]:=by decide +kernel
@[go_sem] def h110_q:=hplain h110 rfl rfl rfl
@[go_sem] theorem h110_t : h110.tk = [] /\ h110.mt = [] /\ h110.pc = [12,62]:=⟨rfl,rfl,rfl⟩
theorem h110_k : FK Tryz.prog 110 Tryz.f110 h110:=⟨by kernel_rfl,by kernel_rfl,Tryz.func110,by kernel_rfl⟩
def h239 : Hint:=hm [5,4] [] [] []
@[go_sem] theorem h239_l : h239.lv 0 = [0,2] /\ h239.lv 1 = [2]:=by decide +kernel
@[go_sem] def h239_q:=hplain h239 rfl rfl rfl
@[go_sem] theorem h239_t : h239.tk = [] /\ h239.mt = [] /\ h239.pc = []:=⟨rfl,rfl,rfl⟩
theorem h239_k : FK Tryz.prog 239 Tryz.f239 h239:=⟨by kernel_rfl,by kernel_rfl,Tryz.func239,by kernel_rfl⟩
def h242 : Hint:=hm [5,133,4,13,29,32797,29,29,4] [] [] []
@[go_sem] theorem h242_l : h242.lv 0 = [0,2] /\ h242.lv 1 = [0,2,7] /\ h242.lv 2 = [2] /\ h242.lv 3 = [0,2,3] /\ h242.lv 4 = [0,2,3,4] /\ h242.lv 5 = [0,2,3,4,15] /\ h242.lv 6 = [0,2,3,4] /\ h242.lv 7 = [0,2,3,4] /\ h242.lv 8 = [2]:=by decide +kernel
@[go_sem] def h242_q:=hplain h242 rfl rfl rfl
@[go_sem] theorem h242_t : h242.tk = [] /\ h242.mt = [] /\ h242.pc = []:=⟨rfl,rfl,rfl⟩
theorem h242_k : FK Tryz.prog 242 Tryz.f242 h242:=⟨by kernel_rfl,by kernel_rfl,Tryz.func242,by kernel_rfl⟩
def h168 : Hint:=hm [6,14,30,542,30,30,4] [12,22] [] [19,23]
@[go_sem] theorem h168_l : h168.lv 0 = [1,2] /\ h168.lv 1 = [1,2,3] /\ h168.lv 2 = [1,2,3,4] /\ h168.lv 3 = [1,2,3,4,9] /\ h168.lv 4 = [1,2,3,4] /\ h168.lv 5 = [1,2,3,4] /\ h168.lv 6 = [2]:=by decide +kernel
@[go_sem] def h168_q:=hplain h168 rfl rfl rfl
@[go_sem] theorem h168_t : h168.tk = [12,22] /\ h168.mt = [] /\ h168.pc = [19,23]:=⟨rfl,rfl,rfl⟩
theorem h168_k : FK Tryz.prog 168 Tryz.f168 h168:=⟨by kernel_rfl,by kernel_rfl,Tryz.func168,by kernel_rfl⟩
def h240 : Hint:=hm [19,16] [] [] []
@[go_sem] theorem h240_l : h240.lv 0 = [0,1,4] /\ h240.lv 1 = [4]:=by decide +kernel
@[go_sem] def h240_q:=hplain h240 rfl rfl rfl
@[go_sem] theorem h240_t : h240.tk = [] /\ h240.mt = [] /\ h240.pc = []:=⟨rfl,rfl,rfl⟩
theorem h240_k : FK Tryz.prog 240 Tryz.f240 h240:=⟨by kernel_rfl,by kernel_rfl,Tryz.func240,by kernel_rfl⟩
def h165 : Hint:=hm [28,16] [] [] []
@[go_sem] theorem h165_l : h165.lv 0 = [2,3,4] /\ h165.lv 1 = [4]:=by decide +kernel
@[go_sem] def h165_q:=hplain h165 rfl rfl rfl
@[go_sem] theorem h165_t : h165.tk = [] /\ h165.mt = [] /\ h165.pc = []:=⟨rfl,rfl,rfl⟩
theorem h165_k : FK Tryz.prog 165 Tryz.f165 h165:=⟨by kernel_rfl,by kernel_rfl,Tryz.func165,by kernel_rfl⟩
def h167 : Hint:=hm [6,4] [] [] []
@[go_sem] theorem h167_l : h167.lv 0 = [1,2] /\ h167.lv 1 = [2]:=by decide +kernel
@[go_sem] def h167_q:=hplain h167 rfl rfl rfl
@[go_sem] theorem h167_t : h167.tk = [] /\ h167.mt = [] /\ h167.pc = []:=⟨rfl,rfl,rfl⟩
theorem h167_k : FK Tryz.prog 167 Tryz.f167 h167:=⟨by kernel_rfl,by kernel_rfl,Tryz.func167,by kernel_rfl⟩
def h241 : Hint:=hm [28,16] [] [] []
@[go_sem] theorem h241_l : h241.lv 0 = [2,3,4] /\ h241.lv 1 = [4]:=by decide +kernel
@[go_sem] def h241_q:=hplain h241 rfl rfl rfl
@[go_sem] theorem h241_t : h241.tk = [] /\ h241.mt = [] /\ h241.pc = []:=⟨rfl,rfl,rfl⟩
theorem h241_k : FK Tryz.prog 241 Tryz.f241 h241:=⟨by kernel_rfl,by kernel_rfl,Tryz.func241,by kernel_rfl⟩
def h166 : Hint:=hx [6,14,30,4126,30,62,4294967358,30,30,4] [] [] [] [7,21,22,29,30,36] [(4,3)] []
@[go_sem] theorem h166_l : h166.lv 0 = [1,2] /\ h166.lv 1 = [1,2,3] /\ h166.lv 2 = [1,2,3,4] /\ h166.lv 3 = [1,2,3,4,12] /\ h166.lv 4 = [1,2,3,4] /\ h166.lv 5 = [1,2,3,4,5] /\ h166.lv 6 = [1,2,3,4,5,32] /\ h166.lv 7 = [1,2,3,4] /\ h166.lv 8 = [1,2,3,4] /\ h166.lv 9 = [2]:=by decide +kernel
@[go_sem] theorem h166_g : h166.ct 0 = none /\ h166.ct 1 = none /\ h166.ct 2 = none /\ h166.ct 3 = none /\ h166.ct 4 = some 3 /\ h166.ct 5 = none /\ h166.ct 6 = none /\ h166.ct 7 = none /\ h166.ct 8 = none /\ h166.ct 9 = none:=by decide +kernel
@[go_sem] theorem h166_z (k : Nat) : h166.at k = []:=rfl
@[go_sem] theorem h166_y (k : Nat) : h166.dn k = false:=Eq.trans rfl rfl
@[go_sem] theorem h166_t : h166.tk = [] /\ h166.mt = [] /\ h166.pc = [7,21,22,29,30,36]:=⟨rfl,rfl,rfl⟩
theorem h166_k : FK Tryz.prog 166 Tryz.f166 h166:=⟨by kernel_rfl,by kernel_rfl,Tryz.func166,by kernel_rfl⟩
def h164 : Hint:=hm [6,4] [] [] []
@[go_sem] theorem h164_l : h164.lv 0 = [1,2] /\ h164.lv 1 = [2]:=by decide +kernel
@[go_sem] def h164_q:=hplain h164 rfl rfl rfl
@[go_sem] theorem h164_t : h164.tk = [] /\ h164.mt = [] /\ h164.pc = []:=⟨rfl,rfl,rfl⟩
theorem h164_k : FK Tryz.prog 164 Tryz.f164 h164:=⟨by kernel_rfl,by kernel_rfl,Tryz.func164,by kernel_rfl⟩
def h122 : Hint:=hm [28,1052,16,60,120,16] [] [] [13,15,16,18,21,24,26]
@[go_sem] theorem h122_l : h122.lv 0 = [2,3,4] /\ h122.lv 1 = [2,3,4,10] /\ h122.lv 2 = [4] /\ h122.lv 3 = [2,3,4,5] /\ h122.lv 4 = [3,4,5,6] /\ h122.lv 5 = [4]:=by decide +kernel
@[go_sem] def h122_q:=hplain h122 rfl rfl rfl
@[go_sem] theorem h122_t : h122.tk = [] /\ h122.mt = [] /\ h122.pc = [13,15,16,18,21,24,26]:=⟨rfl,rfl,rfl⟩
theorem h122_k : FK Tryz.prog 122 Tryz.f122 h122:=⟨by kernel_rfl,by kernel_rfl,Tryz.func122,by kernel_rfl⟩
def h80 : Hint:=hx [2,18,50,2098,50,114,16777330,12,50,12] [25,36] [] [] [21,23] [(4,1)] []
@[go_sem] theorem h80_l : h80.lv 0 = [1] /\ h80.lv 1 = [1,4] /\ h80.lv 2 = [1,4,5] /\ h80.lv 3 = [1,4,5,11] /\ h80.lv 4 = [1,4,5] /\ h80.lv 5 = [1,4,5,6] /\ h80.lv 6 = [1,4,5,6,24] /\ h80.lv 7 = [2,3] /\ h80.lv 8 = [1,4,5] /\ h80.lv 9 = [2,3]:=by decide +kernel
@[go_sem] theorem h80_g : h80.ct 0 = none /\ h80.ct 1 = none /\ h80.ct 2 = none /\ h80.ct 3 = none /\ h80.ct 4 = some 1 /\ h80.ct 5 = none /\ h80.ct 6 = none /\ h80.ct 7 = none /\ h80.ct 8 = none /\ h80.ct 9 = none:=by decide +kernel
@[go_sem] theorem h80_z (k : Nat) : h80.at k = []:=rfl
@[go_sem] theorem h80_y (k : Nat) : h80.dn k = false:=Eq.trans rfl rfl
@[go_sem] theorem h80_t : h80.tk = [25,36] /\ h80.mt = [] /\ h80.pc = [21,23]:=⟨rfl,rfl,rfl⟩
theorem h80_k : FK Tryz.prog 80 Tryz.f80 h80:=⟨by kernel_rfl,by kernel_rfl,Tryz.func80,by kernel_rfl⟩
def h64 : Hint:=hm [3,4099,16,35,65571,35,99,227,70368744177699,16,16] [] [] [29,40]
@[go_sem] theorem h64_l : h64.lv 0 = [0,1] /\ h64.lv 1 = [0,1,12] /\ h64.lv 2 = [4] /\ h64.lv 3 = [0,1,5] /\ h64.lv 4 = [0,1,5,16] /\ h64.lv 5 = [0,1,5] /\ h64.lv 6 = [0,1,5,6] /\ h64.lv 7 = [0,1,5,6,7] /\ h64.lv 8 = [0,1,5,46] /\ h64.lv 9 = [4] /\ h64.lv 10 = [4]:=by decide +kernel
@[go_sem] def h64_q:=hplain h64 rfl rfl rfl
@[go_sem] theorem h64_t : h64.tk = [] /\ h64.mt = [] /\ h64.pc = [29,40]:=⟨rfl,rfl,rfl⟩
theorem h64_k : FK Tryz.prog 64 Tryz.f64 h64:=⟨by kernel_rfl,by kernel_rfl,Tryz.func64,by kernel_rfl⟩
end Go.AI
namespace Go.AI
open Go.Proofs
@[go_sem] theorem cellsOf83 : Tryz.prog.cellsOf 83 = 1:=by kernel_rfl
@[go_sem] theorem ldk83 : ldk Tryz.prog 83 = some none:=by kernel_rfl
@[go_sem] theorem ldk155 : ldk Tryz.prog 155 = some none:=by kernel_rfl
end Go.AI
set_option linter.defProp false
namespace Go.AI
open Go.Proofs
end Go.AI
namespace Go.AI
open Go.Proofs
@[go_sem] theorem cellsOf126 : Tryz.prog.cellsOf 126 = 1:=by kernel_rfl
@[go_sem] theorem ldk126 : ldk Tryz.prog 126 = some none:=by kernel_rfl
@[go_sem] theorem und126 : Tryz.prog.underlying 126 = some (.slice 72):=by kernel_rfl
@[go_sem] theorem zeroAV126 : zeroAV Tryz.prog 126 = some (.sl (some 10) []):=by kernel_rfl
@[go_sem] theorem cellsOf214 : Tryz.prog.cellsOf 214 = 1:=by kernel_rfl
@[go_sem] theorem ldk214 : ldk Tryz.prog 214 = some none:=by kernel_rfl
@[go_sem] theorem cellsOf215 : Tryz.prog.cellsOf 215 = 1:=by kernel_rfl
@[go_sem] theorem ldk215 : ldk Tryz.prog 215 = some none:=by kernel_rfl
@[go_sem] theorem bkind217 : bkind Tryz.prog 217 = .struct [(0,1),(1,1)]:=by kernel_rfl
@[go_sem] theorem fplace217_0 : fplace Tryz.prog 217 0 = some (214,0):=by kernel_rfl
@[go_sem] theorem fplace217_1 : fplace Tryz.prog 217 1 = some (215,1):=by kernel_rfl
@[go_sem] theorem zeroAV217 : zeroAV Tryz.prog 217 = some (.agg [.nilf,.nilf]):=by kernel_rfl
@[go_sem] theorem cellsOf218 : Tryz.prog.cellsOf 218 = 1:=by kernel_rfl
@[go_sem] theorem ldk218 : ldk Tryz.prog 218 = some none:=by kernel_rfl
@[go_sem] theorem zeroAV218 : zeroAV Tryz.prog 218 = some (.nilp):=by kernel_rfl
@[go_sem] theorem cellsOf270 : Tryz.prog.cellsOf 270 = 20:=by kernel_rfl
@[go_sem] theorem ldk270 : ldk Tryz.prog 270 = some (some 20):=by kernel_rfl
@[go_sem] theorem bkind270 : bkind Tryz.prog 270 = .struct [(0,10),(10,10)]:=by kernel_rfl
@[go_sem] theorem fplace270_0 : fplace Tryz.prog 270 0 = some (72,0):=by kernel_rfl
@[go_sem] theorem fplace270_1 : fplace Tryz.prog 270 1 = some (72,10):=by kernel_rfl
@[go_sem] theorem cellsOf275 : Tryz.prog.cellsOf 275 = 20:=by kernel_rfl
@[go_sem] theorem ldk275 : ldk Tryz.prog 275 = some (some 20):=by kernel_rfl
@[go_sem] theorem fplace275_0 : fplace Tryz.prog 275 0 = some (72,0):=by kernel_rfl
@[go_sem] theorem fplace275_1 : fplace Tryz.prog 275 1 = some (72,10):=by kernel_rfl
@[go_sem] theorem zeroAV275 : zeroAV Tryz.prog 275 = some (.agg [.int .i64 0,.int .i64 0,.int .i64 0,.int .i64 0,.int .i64 0,.int .i64 0,.int .i64 0,.int .i64 0,.int .i64 0,.int .i64 0,.int .i64 0,.int .i64 0,.int .i64 0,.int .i64 0,.int .i64 0,.int .i64 0,.int .i64 0,.int .i64 0,.int .i64 0,.int .i64 0]):=by kernel_rfl
end Go.AI
set_option linter.defProp false
namespace Go.AI
open Go.Proofs
end Go.AI
namespace Go.AI
open Go.Proofs
@[go_sem] theorem cellsOf34 : Tryz.prog.cellsOf 34 = 1:=by kernel_rfl
@[go_sem] theorem ldk34 : ldk Tryz.prog 34 = some none:=by kernel_rfl
@[go_sem] theorem und34 : Tryz.prog.underlying 34 = some (.slice 38):=by kernel_rfl
@[go_sem] theorem zeroAV34 : zeroAV Tryz.prog 34 = some (.sl (some 1) []):=by kernel_rfl
@[go_sem] theorem und66 : Tryz.prog.underlying 66 = some (.slice 74):=by kernel_rfl
@[go_sem] theorem und67 : Tryz.prog.underlying 67 = some (.slice 123):=by kernel_rfl
@[go_sem] theorem cellsOf74 : Tryz.prog.cellsOf 74 = 12:=by kernel_rfl
@[go_sem] theorem zeroOk74 : zeroOk Tryz.prog 74 = true:=by kernel_rfl
@[go_sem] theorem bkind74 : bkind Tryz.prog 74 = .struct [(0,1),(1,10),(11,1)]:=by kernel_rfl
@[go_sem] theorem zeroAV74 : zeroAV Tryz.prog 74 = some (.agg [.int .i64 0,.int .i64 0,.int .i64 0,.int .i64 0,.int .i64 0,.int .i64 0,.int .i64 0,.int .i64 0,.int .i64 0,.int .i64 0,.int .i64 0,.sl (some 1) []]):=by kernel_rfl
@[go_sem] theorem ldk133 : ldk Tryz.prog 133 = some none:=by kernel_rfl
@[go_sem] theorem cellsOf134 : Tryz.prog.cellsOf 134 = 1:=by kernel_rfl
@[go_sem] theorem ldk134 : ldk Tryz.prog 134 = some none:=by kernel_rfl
@[go_sem] theorem zeroAV134 : zeroAV Tryz.prog 134 = some (.nilf):=by kernel_rfl
end Go.AI
set_option linter.defProp false
namespace Go.AI
open Go.Proofs
def h20 : Hint:=hm [2,10,1073741826,4,18,34359738386,18,50,35184372088850,4,66,0x4000000000042,66,194,0x2000000000000042,4,4] [] [] [10,43,59]
@[go_sem] theorem h20_l : h20.lv 0 = [1] /\ h20.lv 1 = [1,3] /\ h20.lv 2 = [1,30] /\ h20.lv 3 = [2] /\ h20.lv 4 = [1,4] /\ h20.lv 5 = [1,4,35] /\ h20.lv 6 = [1,4] /\ h20.lv 7 = [1,4,5] /\ h20.lv 8 = [1,4,45] /\ h20.lv 9 = [2] /\ h20.lv 10 = [1,6] /\ h20.lv 11 = [1,6,50] /\ h20.lv 12 = [1,6] /\ h20.lv 13 = [1,6,7] /\ h20.lv 14 = [1,6,61] /\ h20.lv 15 = [2] /\ h20.lv 16 = [2]:=by decide +kernel
@[go_sem] def h20_q:=hplain h20 rfl rfl rfl
@[go_sem] theorem h20_t : h20.tk = [] /\ h20.mt = [] /\ h20.pc = [10,43,59]:=⟨rfl,rfl,rfl⟩
theorem h20_k : FK Tryz.prog 20 Tryz.f20 h20:=⟨by kernel_rfl,by kernel_rfl,Tryz.func20,by kernel_rfl⟩
def h42 : Hint:=hm [6,38,102,2097254,16,294,536871206,16,17592186044454,16,550,562949953421862,550,1574,0x40000000000626,1574,3622,0x8000000000000e26,3622,0x20000000000000000626,16,16] [] [] [19,25,75]
@[go_sem] theorem h42_l : h42.lv 0 = [1,2] /\ h42.lv 1 = [1,2,5] /\ h42.lv 2 = [1,2,5,6] /\ h42.lv 3 = [1,2,5,6,21] /\ h42.lv 4 = [4] /\ h42.lv 5 = [1,2,5,8] /\ h42.lv 6 = [1,2,5,8,29] /\ h42.lv 7 = [4] /\ h42.lv 8 = [1,2,5,44] /\ h42.lv 9 = [4] /\ h42.lv 10 = [1,2,5,9] /\ h42.lv 11 = [1,2,5,9,49] /\ h42.lv 12 = [1,2,5,9] /\ h42.lv 13 = [1,2,5,9,10] /\ h42.lv 14 = [1,2,5,9,10,54] /\ h42.lv 15 = [1,2,5,9,10] /\ h42.lv 16 = [1,2,5,9,10,11] /\ h42.lv 17 = [1,2,5,9,10,11,63] /\ h42.lv 18 = [1,2,5,9,10,11] /\ h42.lv 19 = [1,2,5,9,10,77] /\ h42.lv 20 = [4] /\ h42.lv 21 = [4]:=by decide +kernel
@[go_sem] def h42_q:=hplain h42 rfl rfl rfl
@[go_sem] theorem h42_t : h42.tk = [] /\ h42.mt = [] /\ h42.pc = [19,25,75]:=⟨rfl,rfl,rfl⟩
theorem h42_k : FK Tryz.prog 42 Tryz.f42 h42:=⟨by kernel_rfl,by kernel_rfl,Tryz.func42,by kernel_rfl⟩
def h63 : Hint:=hm [6,70,2118,70,2097222,48,48] [] [] []
@[go_sem] theorem h63_l : h63.lv 0 = [1,2] /\ h63.lv 1 = [1,2,6] /\ h63.lv 2 = [1,2,6,11] /\ h63.lv 3 = [1,2,6] /\ h63.lv 4 = [1,2,6,21] /\ h63.lv 5 = [4,5] /\ h63.lv 6 = [4,5]:=by decide +kernel
@[go_sem] def h63_q:=hplain h63 rfl rfl rfl
@[go_sem] theorem h63_t : h63.tk = [] /\ h63.mt = [] /\ h63.pc = []:=⟨rfl,rfl,rfl⟩
theorem h63_k : FK Tryz.prog 63 Tryz.f63 h63:=⟨by kernel_rfl,by kernel_rfl,Tryz.func63,by kernel_rfl⟩
def h81 : Hint:=hm [6,16] [] [] []
@[go_sem] theorem h81_l : h81.lv 0 = [1,2] /\ h81.lv 1 = [4]:=by decide +kernel
@[go_sem] def h81_q:=hplain h81 rfl rfl rfl
@[go_sem] theorem h81_t : h81.tk = [] /\ h81.mt = [] /\ h81.pc = []:=⟨rfl,rfl,rfl⟩
theorem h81_k : FK Tryz.prog 81 Tryz.f81 h81:=⟨by kernel_rfl,by kernel_rfl,Tryz.func81,by kernel_rfl⟩
def h43 : Hint:=hm [12,108,492,2147483820,16,684,1708,0x40000000000000c,16,2060,0x2000000000000080c,16,0x40000000000000000000000000000,16,16] [] [] [16,23,39,47,63]
@[go_sem] theorem h43_l : h43.lv 0 = [2,3] /\ h43.lv 1 = [2,3,5,6] /\ h43.lv 2 = [2,3,5,6,7,8] /\ h43.lv 3 = [2,3,5,7,31] /\ h43.lv 4 = [4] /\ h43.lv 5 = [2,3,5,7,9] /\ h43.lv 6 = [2,3,5,7,9,10] /\ h43.lv 7 = [2,3,58] /\ h43.lv 8 = [4] /\ h43.lv 9 = [2,3,11] /\ h43.lv 10 = [2,3,11,65] /\ h43.lv 11 = [4] /\ h43.lv 12 = [114] /\ h43.lv 13 = [4] /\ h43.lv 14 = [4]:=by decide +kernel
@[go_sem] def h43_q:=hplain h43 rfl rfl rfl
@[go_sem] theorem h43_t : h43.tk = [] /\ h43.mt = [] /\ h43.pc = [16,23,39,47,63]:=⟨rfl,rfl,rfl⟩
theorem h43_k : FK Tryz.prog 43 Tryz.f43 h43:=⟨by kernel_rfl,by kernel_rfl,Tryz.func43,by kernel_rfl⟩
def h44 : Hint:=hx [6,38,100,228,1048804,228,484,134218212,484,996,0x80000000000003e4,996,484,16] [67,71] [] [(13,[(4,none,false)])] [38] [] []
@[go_sem] theorem h44_l : h44.lv 0 = [1,2] /\ h44.lv 1 = [1,2,5] /\ h44.lv 2 = [2,5,6] /\ h44.lv 3 = [2,5,6,7] /\ h44.lv 4 = [2,5,6,7,20] /\ h44.lv 5 = [2,5,6,7] /\ h44.lv 6 = [2,5,6,7,8] /\ h44.lv 7 = [2,5,6,7,8,27] /\ h44.lv 8 = [2,5,6,7,8] /\ h44.lv 9 = [2,5,6,7,8,9] /\ h44.lv 10 = [2,5,6,7,8,9,63] /\ h44.lv 11 = [2,5,6,7,8,9] /\ h44.lv 12 = [2,5,6,7,8] /\ h44.lv 13 = [4]:=by decide +kernel
@[go_sem] theorem h44_g (k : Nat) : h44.ct k = none:=rfl
@[go_sem] theorem h44_z : h44.at 0 = [] /\ h44.at 1 = [] /\ h44.at 2 = [] /\ h44.at 3 = [] /\ h44.at 4 = [] /\ h44.at 5 = [] /\ h44.at 6 = [] /\ h44.at 7 = [] /\ h44.at 8 = [] /\ h44.at 9 = [] /\ h44.at 10 = [] /\ h44.at 11 = [] /\ h44.at 12 = [] /\ h44.at 13 = [(4,none,false)]:=by decide +kernel
@[go_sem] theorem h44_y (k : Nat) : h44.dn k = false:=Eq.trans rfl rfl
@[go_sem] theorem h44_t : h44.tk = [67,71] /\ h44.mt = [] /\ h44.pc = [38]:=⟨rfl,rfl,rfl⟩
theorem h44_k : FK Tryz.prog 44 Tryz.f44 h44:=⟨by kernel_rfl,by kernel_rfl,Tryz.func44,by kernel_rfl⟩
def h21 : Hint:=hm [2,18,8210,12,18,524306,12,1073741826,12,34,34359738402,34,50,4398046511154,12,66,562949953421378,66,82,0x1000000000000052,12,130,0x80000000000000082,130,386,0x10000000000000000082,12,12] [73] [] [11,17,40,58,72]
@[go_sem] theorem h21_l : h21.lv 0 = [1] /\ h21.lv 1 = [1,4] /\ h21.lv 2 = [1,4,13] /\ h21.lv 3 = [2,3] /\ h21.lv 4 = [1,4] /\ h21.lv 5 = [1,4,19] /\ h21.lv 6 = [2,3] /\ h21.lv 7 = [1,30] /\ h21.lv 8 = [2,3] /\ h21.lv 9 = [1,5] /\ h21.lv 10 = [1,5,35] /\ h21.lv 11 = [1,5] /\ h21.lv 12 = [1,4,5] /\ h21.lv 13 = [1,4,5,42] /\ h21.lv 14 = [2,3] /\ h21.lv 15 = [1,6] /\ h21.lv 16 = [1,6,49] /\ h21.lv 17 = [1,6] /\ h21.lv 18 = [1,4,6] /\ h21.lv 19 = [1,4,6,60] /\ h21.lv 20 = [2,3] /\ h21.lv 21 = [1,7] /\ h21.lv 22 = [1,7,67] /\ h21.lv 23 = [1,7] /\ h21.lv 24 = [1,7,8] /\ h21.lv 25 = [1,7,76] /\ h21.lv 26 = [2,3] /\ h21.lv 27 = [2,3]:=by decide +kernel
@[go_sem] def h21_q:=hplain h21 rfl rfl rfl
@[go_sem] theorem h21_t : h21.tk = [73] /\ h21.mt = [] /\ h21.pc = [11,17,40,58,72]:=⟨rfl,rfl,rfl⟩
theorem h21_k : FK Tryz.prog 21 Tryz.f21 h21:=⟨by kernel_rfl,by kernel_rfl,Tryz.func21,by kernel_rfl⟩
def h4 : Hint:=hm [2,10,514,4,32,4] [] [] [7,12]
@[go_sem] theorem h4_l : h4.lv 0 = [1] /\ h4.lv 1 = [1,3] /\ h4.lv 2 = [1,9] /\ h4.lv 3 = [2] /\ h4.lv 4 = [5] /\ h4.lv 5 = [2]:=by decide +kernel
@[go_sem] def h4_q:=hplain h4 rfl rfl rfl
@[go_sem] theorem h4_t : h4.tk = [] /\ h4.mt = [] /\ h4.pc = [7,12]:=⟨rfl,rfl,rfl⟩
theorem h4_k : FK Tryz.prog 4 Tryz.f4 h4:=⟨by kernel_rfl,by kernel_rfl,Tryz.func4,by kernel_rfl⟩
def h59 : Hint:=hm [1,17,4,4] [6] [] []
@[go_sem] theorem h59_l : h59.lv 0 = [0] /\ h59.lv 1 = [0,4] /\ h59.lv 2 = [2] /\ h59.lv 3 = [2]:=by decide +kernel
@[go_sem] def h59_q:=hplain h59 rfl rfl rfl
@[go_sem] theorem h59_t : h59.tk = [6] /\ h59.mt = [] /\ h59.pc = []:=⟨rfl,rfl,rfl⟩
theorem h59_k : FK Tryz.prog 59 Tryz.f59 h59:=⟨by kernel_rfl,by kernel_rfl,Tryz.func59,by kernel_rfl⟩
def h108 : Hint:=hm [3,387,899,419,65955,16,387,16] [] [] []
@[go_sem] theorem h108_l : h108.lv 0 = [0,1] /\ h108.lv 1 = [0,1,7,8] /\ h108.lv 2 = [0,1,7,8,9] /\ h108.lv 3 = [0,1,5,7,8] /\ h108.lv 4 = [0,1,5,7,8,16] /\ h108.lv 5 = [4] /\ h108.lv 6 = [0,1,7,8] /\ h108.lv 7 = [4]:=by decide +kernel
@[go_sem] def h108_q:=hplain h108 rfl rfl rfl
@[go_sem] theorem h108_t : h108.tk = [] /\ h108.mt = [] /\ h108.pc = []:=⟨rfl,rfl,rfl⟩
theorem h108_k : FK Tryz.prog 108 Tryz.f108 h108:=⟨by kernel_rfl,by kernel_rfl,Tryz.func108,by kernel_rfl⟩
def h109 : Hint:=hm [6,8] [] [] []
@[go_sem] theorem h109_l : h109.lv 0 = [1,2] /\ h109.lv 1 = [3]:=by decide +kernel
@[go_sem] def h109_q:=hplain h109 rfl rfl rfl
@[go_sem] theorem h109_t : h109.tk = [] /\ h109.mt = [] /\ h109.pc = []:=⟨rfl,rfl,rfl⟩
theorem h109_k : FK Tryz.prog 109 Tryz.f109 h109:=⟨by kernel_rfl,by kernel_rfl,Tryz.func109,by kernel_rfl⟩
def h60 : Hint:=hm [12,64,48] [] [] []
@[go_sem] theorem h60_l : h60.lv 0 = [2,3] /\ h60.lv 1 = [6] /\ h60.lv 2 = [4,5]:=by decide +kernel
@[go_sem] def h60_q:=hplain h60 rfl rfl rfl
@[go_sem] theorem h60_t : h60.tk = [] /\ h60.mt = [] /\ h60.pc = []:=⟨rfl,rfl,rfl⟩
theorem h60_k : FK Tryz.prog 60 Tryz.f60 h60:=⟨by kernel_rfl,by kernel_rfl,Tryz.func60,by kernel_rfl⟩
def h62 : Hint:=hm [63,32827,256,14680115,31457331,14681651,68734158387,14682675,72057594052608051,256,14680115,256] [17] [] [18,41]
@[go_sem] theorem h62_l : h62.lv 0 = [0,1,2,3,4,5] /\ h62.lv 1 = [0,1,3,4,5,15] /\ h62.lv 2 = [8] /\ h62.lv 3 = [0,1,4,5,21,22,23] /\ h62.lv 4 = [0,1,4,5,21,22,23,24] /\ h62.lv 5 = [0,1,4,5,9,10,21,22,23] /\ h62.lv 6 = [0,1,4,5,9,10,21,22,23,36] /\ h62.lv 7 = [0,1,4,5,9,11,21,22,23] /\ h62.lv 8 = [0,1,4,5,21,22,23,56] /\ h62.lv 9 = [8] /\ h62.lv 10 = [0,1,4,5,21,22,23] /\ h62.lv 11 = [8]:=by decide +kernel
@[go_sem] def h62_q:=hplain h62 rfl rfl rfl
@[go_sem] theorem h62_t : h62.tk = [17] /\ h62.mt = [] /\ h62.pc = [18,41]:=⟨rfl,rfl,rfl⟩
theorem h62_k : FK Tryz.prog 62 Tryz.f62 h62:=⟨by kernel_rfl,by kernel_rfl,Tryz.func62,by kernel_rfl⟩
def h61 : Hint:=hm [30,62,40,1] [] [] []
@[go_sem] theorem h61_l : h61.lv 0 = [1,2,3,4] /\ h61.lv 1 = [1,2,3,4,5] /\ h61.lv 2 = [3,5] /\ h61.lv 3 = [0]:=by decide +kernel
@[go_sem] def h61_q:=hplain h61 rfl rfl rfl
@[go_sem] theorem h61_t : h61.tk = [] /\ h61.mt = [] /\ h61.pc = []:=⟨rfl,rfl,rfl⟩
theorem h61_k : FK Tryz.prog 61 Tryz.f61 h61:=⟨by kernel_rfl,by kernel_rfl,Tryz.func61,by kernel_rfl⟩
def h27 : Hint:=hm [56,64] [] [] []
@[go_sem] theorem h27_l : h27.lv 0 = [3,4,5] /\ h27.lv 1 = [6]:=by decide +kernel
@[go_sem] def h27_q:=hplain h27 rfl rfl rfl
theorem h27_k : FK Tryz.prog 27 Tryz.f27 h27:=⟨by kernel_rfl,by kernel_rfl,Tryz.func27,by kernel_rfl⟩
def h6 : Hint:=hm [206,462,8640,960,448,2097344,1,192] [15,16] [] []
@[go_sem] theorem h6_l : h6.lv 0 = [1,2,3,6,7] /\ h6.lv 1 = [1,2,3,6,7,8] /\ h6.lv 2 = [6,7,8,13] /\ h6.lv 3 = [6,7,8,9] /\ h6.lv 4 = [6,7,8] /\ h6.lv 5 = [6,7,21] /\ h6.lv 6 = [0] /\ h6.lv 7 = [6,7]:=by decide +kernel
@[go_sem] def h6_q:=hplain h6 rfl rfl rfl
@[go_sem] theorem h6_t : h6.tk = [15,16] /\ h6.mt = [] /\ h6.pc = []:=⟨rfl,rfl,rfl⟩
theorem h6_k : FK Tryz.prog 6 Tryz.f6 h6:=⟨by kernel_rfl,by kernel_rfl,Tryz.func6,by kernel_rfl⟩
def h8 : Hint:=hx [14,776,4294968072,192,1288,240518169864,515396076808,240518173960,240518182152,31026843755784,66211215844616,31026843788552,31026843755784,31026843755784,0x200003800000508,0xa00003800000508,0x200003800010508,0x200003800000508,240518169864,132360,0xc00000000000020500,0x1c00000000000020500,0xc00000000000060500,0x80c00000000000060500,0xc00000000000020500,0xc00000000000020500,192] [42,80,85] [] [] [23] [(18,2)] []
@[go_sem] theorem h8_l : h8.lv 0 = [1,2,3] /\ h8.lv 1 = [3,8,9] /\ h8.lv 2 = [3,8,9,32] /\ h8.lv 3 = [6,7] /\ h8.lv 4 = [3,8,10] /\ h8.lv 5 = [3,8,10,35,36,37] /\ h8.lv 6 = [3,8,10,35,36,37,38] /\ h8.lv 7 = [3,8,10,12,35,36,37] /\ h8.lv 8 = [3,8,10,12,13,35,36,37] /\ h8.lv 9 = [3,8,10,13,35,36,37,42,43,44] /\ h8.lv 10 = [3,8,10,13,35,36,37,42,43,44,45] /\ h8.lv 11 = [3,8,10,13,15,35,36,37,42,43,44] /\ h8.lv 12 = [3,8,10,13,35,36,37,42,43,44] /\ h8.lv 13 = [3,8,10,13,35,36,37,42,43,44] /\ h8.lv 14 = [3,8,10,35,36,37,57] /\ h8.lv 15 = [3,8,10,35,36,37,57,59] /\ h8.lv 16 = [3,8,10,16,35,36,37,57] /\ h8.lv 17 = [3,8,10,35,36,37,57] /\ h8.lv 18 = [3,8,10,35,36,37] /\ h8.lv 19 = [3,8,10,17] /\ h8.lv 20 = [8,10,17,70,71] /\ h8.lv 21 = [8,10,17,70,71,72] /\ h8.lv 22 = [8,10,17,18,70,71] /\ h8.lv 23 = [8,10,17,18,70,71,79] /\ h8.lv 24 = [8,10,17,70,71] /\ h8.lv 25 = [8,10,17,70,71] /\ h8.lv 26 = [6,7]:=by decide +kernel
@[go_sem] theorem h8_g : h8.ct 0 = none /\ h8.ct 1 = none /\ h8.ct 2 = none /\ h8.ct 3 = none /\ h8.ct 4 = none /\ h8.ct 5 = none /\ h8.ct 6 = none /\ h8.ct 7 = none /\ h8.ct 8 = none /\ h8.ct 9 = none /\ h8.ct 10 = none /\ h8.ct 11 = none /\ h8.ct 12 = none /\ h8.ct 13 = none /\ h8.ct 14 = none /\ h8.ct 15 = none /\ h8.ct 16 = none /\ h8.ct 17 = none /\ h8.ct 18 = some 2 /\ h8.ct 19 = none /\ h8.ct 20 = none /\ h8.ct 21 = none /\ h8.ct 22 = none /\ h8.ct 23 = none /\ h8.ct 24 = none /\ h8.ct 25 = none /\ h8.ct 26 = none:=by decide +kernel
@[go_sem] theorem h8_z (k : Nat) : h8.at k = []:=rfl
@[go_sem] theorem h8_y (k : Nat) : h8.dn k = false:=Eq.trans rfl rfl
@[go_sem] theorem h8_t : h8.tk = [42,80,85] /\ h8.mt = [] /\ h8.pc = [23]:=⟨rfl,rfl,rfl⟩
theorem h8_k : FK Tryz.prog 8 Tryz.f8 h8:=⟨by kernel_rfl,by kernel_rfl,Tryz.func8,by kernel_rfl⟩
def h11 : Hint:=hm [3,1027,16,35,16419,35,33554467,16,16] [] [] []
@[go_sem] theorem h11_l : h11.lv 0 = [0,1] /\ h11.lv 1 = [0,1,10] /\ h11.lv 2 = [4] /\ h11.lv 3 = [0,1,5] /\ h11.lv 4 = [0,1,5,14] /\ h11.lv 5 = [0,1,5] /\ h11.lv 6 = [0,1,5,25] /\ h11.lv 7 = [4] /\ h11.lv 8 = [4]:=by decide +kernel
@[go_sem] def h11_q:=hplain h11 rfl rfl rfl
@[go_sem] theorem h11_t : h11.tk = [] /\ h11.mt = [] /\ h11.pc = []:=⟨rfl,rfl,rfl⟩
theorem h11_k : FK Tryz.prog 11 Tryz.f11 h11:=⟨by kernel_rfl,by kernel_rfl,Tryz.func11,by kernel_rfl⟩
def h10 : Hint:=hm [3,2051,16,35,32803,35,99,268435491,16,16] [] [] [26]
@[go_sem] theorem h10_l : h10.lv 0 = [0,1] /\ h10.lv 1 = [0,1,11] /\ h10.lv 2 = [4] /\ h10.lv 3 = [0,1,5] /\ h10.lv 4 = [0,1,5,15] /\ h10.lv 5 = [0,1,5] /\ h10.lv 6 = [0,1,5,6] /\ h10.lv 7 = [0,1,5,28] /\ h10.lv 8 = [4] /\ h10.lv 9 = [4]:=by decide +kernel
@[go_sem] def h10_q:=hplain h10 rfl rfl rfl
@[go_sem] theorem h10_t : h10.tk = [] /\ h10.mt = [] /\ h10.pc = [26]:=⟨rfl,rfl,rfl⟩
theorem h10_k : FK Tryz.prog 10 Tryz.f10 h10:=⟨by kernel_rfl,by kernel_rfl,Tryz.func10,by kernel_rfl⟩
def h12 : Hint:=hx [6,38,3622,7718,3750,8392358,3622,3622,16] [] [] [] [] [(7,1)] []
@[go_sem] theorem h12_l : h12.lv 0 = [1,2] /\ h12.lv 1 = [1,2,5] /\ h12.lv 2 = [1,2,5,9,10,11] /\ h12.lv 3 = [1,2,5,9,10,11,12] /\ h12.lv 4 = [1,2,5,7,9,10,11] /\ h12.lv 5 = [1,2,5,7,9,10,11,23] /\ h12.lv 6 = [1,2,5,9,10,11] /\ h12.lv 7 = [1,2,5,9,10,11] /\ h12.lv 8 = [4]:=by decide +kernel
@[go_sem] theorem h12_g : h12.ct 0 = none /\ h12.ct 1 = none /\ h12.ct 2 = none /\ h12.ct 3 = none /\ h12.ct 4 = none /\ h12.ct 5 = none /\ h12.ct 6 = none /\ h12.ct 7 = some 1 /\ h12.ct 8 = none:=by decide +kernel
@[go_sem] theorem h12_z (k : Nat) : h12.at k = []:=rfl
@[go_sem] theorem h12_y (k : Nat) : h12.dn k = false:=Eq.trans rfl rfl
@[go_sem] theorem h12_t : h12.tk = [] /\ h12.mt = [] /\ h12.pc = []:=⟨rfl,rfl,rfl⟩
theorem h12_k : FK Tryz.prog 12 Tryz.f12 h12:=⟨by kernel_rfl,by kernel_rfl,Tryz.func12,by kernel_rfl⟩
def h33 : Hint:=hm [1,17,4,4] [6] [] []
@[go_sem] theorem h33_l : h33.lv 0 = [0] /\ h33.lv 1 = [0,4] /\ h33.lv 2 = [2] /\ h33.lv 3 = [2]:=by decide +kernel
@[go_sem] def h33_q:=hplain h33 rfl rfl rfl
@[go_sem] theorem h33_t : h33.tk = [6] /\ h33.mt = [] /\ h33.pc = []:=⟨rfl,rfl,rfl⟩
theorem h33_k : FK Tryz.prog 33 Tryz.f33 h33:=⟨by kernel_rfl,by kernel_rfl,Tryz.func33,by kernel_rfl⟩
def h15 : Hint:=hx [22,52,116,116,7516192884,16106127476,7516193140,282394100084,7516192884,7516192884,0x700000000000070,0xf00000000000070,0x700000000000470,0x8700000000000470,0x18700000000000470,0x700000000000470,0x200700000000000470,0x700000000000070,0x700000000000070,16] [74] [] [(10,[(6,some 2,true)])] [18] [(9,5),(18,5)] []
@[go_sem] theorem h15_l : h15.lv 0 = [1,2,4] /\ h15.lv 1 = [2,4,5] /\ h15.lv 2 = [2,4,5,6] /\ h15.lv 3 = [2,4,5,6] /\ h15.lv 4 = [2,4,5,6,30,31,32] /\ h15.lv 5 = [2,4,5,6,30,31,32,33] /\ h15.lv 6 = [2,4,5,6,8,30,31,32] /\ h15.lv 7 = [2,4,5,6,8,30,31,32,38] /\ h15.lv 8 = [2,4,5,6,30,31,32] /\ h15.lv 9 = [2,4,5,6,30,31,32] /\ h15.lv 10 = [4,5,6,56,57,58] /\ h15.lv 11 = [4,5,6,56,57,58,59] /\ h15.lv 12 = [4,5,6,10,56,57,58] /\ h15.lv 13 = [4,5,6,10,56,57,58,63] /\ h15.lv 14 = [4,5,6,10,56,57,58,63,64] /\ h15.lv 15 = [4,5,6,10,56,57,58] /\ h15.lv 16 = [4,5,6,10,56,57,58,69] /\ h15.lv 17 = [4,5,6,56,57,58] /\ h15.lv 18 = [4,5,6,56,57,58] /\ h15.lv 19 = [4]:=by decide +kernel
@[go_sem] theorem h15_g : h15.ct 0 = none /\ h15.ct 1 = none /\ h15.ct 2 = none /\ h15.ct 3 = none /\ h15.ct 4 = none /\ h15.ct 5 = none /\ h15.ct 6 = none /\ h15.ct 7 = none /\ h15.ct 8 = none /\ h15.ct 9 = some 5 /\ h15.ct 10 = none /\ h15.ct 11 = none /\ h15.ct 12 = none /\ h15.ct 13 = none /\ h15.ct 14 = none /\ h15.ct 15 = none /\ h15.ct 16 = none /\ h15.ct 17 = none /\ h15.ct 18 = some 5 /\ h15.ct 19 = none:=by decide +kernel
@[go_sem] theorem h15_z : h15.at 0 = [] /\ h15.at 1 = [] /\ h15.at 2 = [] /\ h15.at 3 = [] /\ h15.at 4 = [] /\ h15.at 5 = [] /\ h15.at 6 = [] /\ h15.at 7 = [] /\ h15.at 8 = [] /\ h15.at 9 = [] /\ h15.at 10 = [(6,some 2,true)] /\ h15.at 11 = [] /\ h15.at 12 = [] /\ h15.at 13 = [] /\ h15.at 14 = [] /\ h15.at 15 = [] /\ h15.at 16 = [] /\ h15.at 17 = [] /\ h15.at 18 = [] /\ h15.at 19 = []:=by decide +kernel
@[go_sem] theorem h15_y (k : Nat) : h15.dn k = false:=Eq.trans rfl rfl
@[go_sem] theorem h15_t : h15.tk = [74] /\ h15.mt = [] /\ h15.pc = [18]:=⟨rfl,rfl,rfl⟩
theorem h15_k : FK Tryz.prog 15 Tryz.f15 h15:=⟨by kernel_rfl,by kernel_rfl,Tryz.func15,by kernel_rfl⟩
def h17 : Hint:=hx [6,7170,15362,7362,7490,2104642,48,7170,48] [] [] [] [19] [(7,1)] []
@[go_sem] theorem h17_l : h17.lv 0 = [1,2] /\ h17.lv 1 = [1,10,11,12] /\ h17.lv 2 = [1,10,11,12,13] /\ h17.lv 3 = [1,6,7,10,11,12] /\ h17.lv 4 = [1,6,8,10,11,12] /\ h17.lv 5 = [1,6,8,10,11,12,21] /\ h17.lv 6 = [4,5] /\ h17.lv 7 = [1,10,11,12] /\ h17.lv 8 = [4,5]:=by decide +kernel
@[go_sem] theorem h17_g : h17.ct 0 = none /\ h17.ct 1 = none /\ h17.ct 2 = none /\ h17.ct 3 = none /\ h17.ct 4 = none /\ h17.ct 5 = none /\ h17.ct 6 = none /\ h17.ct 7 = some 1 /\ h17.ct 8 = none:=by decide +kernel
@[go_sem] theorem h17_z (k : Nat) : h17.at k = []:=rfl
@[go_sem] theorem h17_y (k : Nat) : h17.dn k = false:=Eq.trans rfl rfl
@[go_sem] theorem h17_t : h17.tk = [] /\ h17.mt = [] /\ h17.pc = [19]:=⟨rfl,rfl,rfl⟩
theorem h17_k : FK Tryz.prog 17 Tryz.f17 h17:=⟨by kernel_rfl,by kernel_rfl,Tryz.func17,by kernel_rfl⟩
def h5 : Hint:=hx [1,2,6,6,30,122,506,4090,24570,122874,516090,2088954,0x800000000000000000000000000a9202,1,2789890,6984194,15372802,1] [124,137,138,141,142,146,152,157] [31] [(1,[(1,some 5,true)]),(3,[(2,some 5,true)])] [51,60] [] []
@[go_sem] theorem h5_l : h5.lv 0 = [0] /\ h5.lv 1 = [1] /\ h5.lv 2 = [1,2] /\ h5.lv 3 = [1,2] /\ h5.lv 4 = [1,2,3,4] /\ h5.lv 5 = [1,3,4,5,6] /\ h5.lv 6 = [1,3,4,5,6,7,8] /\ h5.lv 7 = [1,3,4,5,6,7,8,9,10,11] /\ h5.lv 8 = [1,3,4,5,6,7,8,9,10,11,12,14] /\ h5.lv 9 = [1,3,4,5,6,7,8,9,10,11,12,14,15,16] /\ h5.lv 10 = [1,3,4,5,6,7,8,9,10,11,12,14,15,16,17,18] /\ h5.lv 11 = [1,3,4,5,6,7,8,9,10,11,12,14,15,16,17,18,19,20] /\ h5.lv 12 = [1,9,12,15,17,19,127] /\ h5.lv 13 = [0] /\ h5.lv 14 = [1,9,12,15,17,19,21] /\ h5.lv 15 = [1,9,12,15,17,19,21,22] /\ h5.lv 16 = [1,9,12,15,17,19,21,22,23] /\ h5.lv 17 = [0]:=by decide +kernel
@[go_sem] theorem h5_g (k : Nat) : h5.ct k = none:=rfl
@[go_sem] theorem h5_z : h5.at 0 = [] /\ h5.at 1 = [(1,some 5,true)] /\ h5.at 2 = [] /\ h5.at 3 = [(2,some 5,true)] /\ h5.at 4 = [] /\ h5.at 5 = [] /\ h5.at 6 = [] /\ h5.at 7 = [] /\ h5.at 8 = [] /\ h5.at 9 = [] /\ h5.at 10 = [] /\ h5.at 11 = [] /\ h5.at 12 = [] /\ h5.at 13 = [] /\ h5.at 14 = [] /\ h5.at 15 = [] /\ h5.at 16 = [] /\ h5.at 17 = []:=by decide +kernel
@[go_sem] theorem h5_y (k : Nat) : h5.dn k = false:=Eq.trans rfl rfl
@[go_sem] theorem h5_t : h5.tk = [124,137,138,141,142,146,152,157] /\ h5.mt = [31] /\ h5.pc = [51,60]:=⟨rfl,rfl,rfl⟩
theorem h5_k : FK Tryz.prog 5 Tryz.f5 h5:=⟨by kernel_rfl,by kernel_rfl,Tryz.func5,by kernel_rfl⟩
def h28 : Hint:=hm [30,32798,256,542,1566,16778782,1566,17592186045982,3614,1566,256] [17,56,68] [] [53,66]
@[go_sem] theorem h28_l : h28.lv 0 = [1,2,3,4] /\ h28.lv 1 = [1,2,3,4,15] /\ h28.lv 2 = [8] /\ h28.lv 3 = [1,2,3,4,9] /\ h28.lv 4 = [1,2,3,4,9,10] /\ h28.lv 5 = [1,2,3,4,9,10,24] /\ h28.lv 6 = [1,2,3,4,9,10] /\ h28.lv 7 = [1,2,3,4,9,10,44] /\ h28.lv 8 = [1,2,3,4,9,10,11] /\ h28.lv 9 = [1,2,3,4,9,10] /\ h28.lv 10 = [8]:=by decide +kernel
@[go_sem] def h28_q:=hplain h28 rfl rfl rfl
@[go_sem] theorem h28_t : h28.tk = [17,56,68] /\ h28.mt = [] /\ h28.pc = [53,66]:=⟨rfl,rfl,rfl⟩
theorem h28_k : FK Tryz.prog 28 Tryz.f28 h28:=⟨by kernel_rfl,by kernel_rfl,Tryz.func28,by kernel_rfl⟩
def h7 : Hint:=hm [14,256,33024,192,192] [16] [] [12]
@[go_sem] theorem h7_l : h7.lv 0 = [1,2,3] /\ h7.lv 1 = [8] /\ h7.lv 2 = [8,15] /\ h7.lv 3 = [6,7] /\ h7.lv 4 = [6,7]:=by decide +kernel
@[go_sem] def h7_q:=hplain h7 rfl rfl rfl
@[go_sem] theorem h7_t : h7.tk = [16] /\ h7.mt = [] /\ h7.pc = [12]:=⟨rfl,rfl,rfl⟩
theorem h7_k : FK Tryz.prog 7 Tryz.f7 h7:=⟨by kernel_rfl,by kernel_rfl,Tryz.func7,by kernel_rfl⟩
def h29 : Hint:=hm [14,142,2190,142,16777358,64,64] [] [] []
@[go_sem] theorem h29_l : h29.lv 0 = [1,2,3] /\ h29.lv 1 = [1,2,3,7] /\ h29.lv 2 = [1,2,3,7,11] /\ h29.lv 3 = [1,2,3,7] /\ h29.lv 4 = [1,2,3,7,24] /\ h29.lv 5 = [6] /\ h29.lv 6 = [6]:=by decide +kernel
@[go_sem] def h29_q:=hplain h29 rfl rfl rfl
@[go_sem] theorem h29_t : h29.tk = [] /\ h29.mt = [] /\ h29.pc = []:=⟨rfl,rfl,rfl⟩
theorem h29_k : FK Tryz.prog 29 Tryz.f29 h29:=⟨by kernel_rfl,by kernel_rfl,Tryz.func29,by kernel_rfl⟩
def h9 : Hint:=hm [14,776,8389384,192,1288,3336,1073745160,3336,7432,15624,549755829512,15624,32008,15624,9007199254744328,3336,192] [54,58] [] [19,48]
@[go_sem] theorem h9_l : h9.lv 0 = [1,2,3] /\ h9.lv 1 = [3,8,9] /\ h9.lv 2 = [3,8,9,23] /\ h9.lv 3 = [6,7] /\ h9.lv 4 = [3,8,10] /\ h9.lv 5 = [3,8,10,11] /\ h9.lv 6 = [3,8,10,11,30] /\ h9.lv 7 = [3,8,10,11] /\ h9.lv 8 = [3,8,10,11,12] /\ h9.lv 9 = [3,8,10,11,12,13] /\ h9.lv 10 = [3,8,10,11,12,13,39] /\ h9.lv 11 = [3,8,10,11,12,13] /\ h9.lv 12 = [3,8,10,11,12,13,14] /\ h9.lv 13 = [3,8,10,11,12,13] /\ h9.lv 14 = [3,8,10,11,53] /\ h9.lv 15 = [3,8,10,11] /\ h9.lv 16 = [6,7]:=by decide +kernel
@[go_sem] def h9_q:=hplain h9 rfl rfl rfl
@[go_sem] theorem h9_t : h9.tk = [54,58] /\ h9.mt = [] /\ h9.pc = [19,48]:=⟨rfl,rfl,rfl⟩
theorem h9_k : FK Tryz.prog 9 Tryz.f9 h9:=⟨by kernel_rfl,by kernel_rfl,Tryz.func9,by kernel_rfl⟩
def h13 : Hint:=hm [6,38,102,2150,102,67108966,102,16] [] [] []
@[go_sem] theorem h13_l : h13.lv 0 = [1,2] /\ h13.lv 1 = [1,2,5] /\ h13.lv 2 = [1,2,5,6] /\ h13.lv 3 = [1,2,5,6,11] /\ h13.lv 4 = [1,2,5,6] /\ h13.lv 5 = [1,2,5,6,26] /\ h13.lv 6 = [1,2,5,6] /\ h13.lv 7 = [4]:=by decide +kernel
@[go_sem] def h13_q:=hplain h13 rfl rfl rfl
@[go_sem] theorem h13_t : h13.tk = [] /\ h13.mt = [] /\ h13.pc = []:=⟨rfl,rfl,rfl⟩
theorem h13_k : FK Tryz.prog 13 Tryz.f13 h13:=⟨by kernel_rfl,by kernel_rfl,Tryz.func13,by kernel_rfl⟩
def h30 : Hint:=hm [12,4294967308,16,44,137438953516,44,0x400000000002c,16,76,0x8000000000004c,76,0x10000000000000004c,16,140,0x200000000000000008c,140,0x400000000000000000008c,16,16] [] [] []
@[go_sem] theorem h30_l : h30.lv 0 = [2,3] /\ h30.lv 1 = [2,3,32] /\ h30.lv 2 = [4] /\ h30.lv 3 = [2,3,5] /\ h30.lv 4 = [2,3,5,37] /\ h30.lv 5 = [2,3,5] /\ h30.lv 6 = [2,3,5,50] /\ h30.lv 7 = [4] /\ h30.lv 8 = [2,3,6] /\ h30.lv 9 = [2,3,6,55] /\ h30.lv 10 = [2,3,6] /\ h30.lv 11 = [2,3,6,68] /\ h30.lv 12 = [4] /\ h30.lv 13 = [2,3,7] /\ h30.lv 14 = [2,3,7,73] /\ h30.lv 15 = [2,3,7] /\ h30.lv 16 = [2,3,7,86] /\ h30.lv 17 = [4] /\ h30.lv 18 = [4]:=by decide +kernel
@[go_sem] def h30_q:=hplain h30 rfl rfl rfl
@[go_sem] theorem h30_t : h30.tk = [] /\ h30.mt = [] /\ h30.pc = []:=⟨rfl,rfl,rfl⟩
theorem h30_k : FK Tryz.prog 30 Tryz.f30 h30:=⟨by kernel_rfl,by kernel_rfl,Tryz.func30,by kernel_rfl⟩
def h66 : Hint:=hm [12,134217740,16,44,4294967340,44,108,0x80000000002c,16,16] [] [] [45]
@[go_sem] theorem h66_l : h66.lv 0 = [2,3] /\ h66.lv 1 = [2,3,27] /\ h66.lv 2 = [4] /\ h66.lv 3 = [2,3,5] /\ h66.lv 4 = [2,3,5,32] /\ h66.lv 5 = [2,3,5] /\ h66.lv 6 = [2,3,5,6] /\ h66.lv 7 = [2,3,5,47] /\ h66.lv 8 = [4] /\ h66.lv 9 = [4]:=by decide +kernel
@[go_sem] def h66_q:=hplain h66 rfl rfl rfl
@[go_sem] theorem h66_t : h66.tk = [] /\ h66.mt = [] /\ h66.pc = [45]:=⟨rfl,rfl,rfl⟩
theorem h66_k : FK Tryz.prog 66 Tryz.f66 h66:=⟨by kernel_rfl,by kernel_rfl,Tryz.func66,by kernel_rfl⟩
def h31 : Hint:=hm [12,44,0x200000000000000c,16,76,0x4000000000000004c,76,0x8000000000000000004c,16,140,0x100000000000000000008c,140,0x200000000000000000000008c,16,268,0x4000000000000000000000010c,268,780,1804,0x1000000000000000000000000000000010c,16,2060,0x20000000000000000000000000000000080c,2060,0x40000000000000000000000000000000000080c,16,16] [] [] [16,117,130]
@[go_sem] theorem h31_l : h31.lv 0 = [2,3] /\ h31.lv 1 = [2,3,5] /\ h31.lv 2 = [2,3,61] /\ h31.lv 3 = [4] /\ h31.lv 4 = [2,3,6] /\ h31.lv 5 = [2,3,6,66] /\ h31.lv 6 = [2,3,6] /\ h31.lv 7 = [2,3,6,79] /\ h31.lv 8 = [4] /\ h31.lv 9 = [2,3,7] /\ h31.lv 10 = [2,3,7,84] /\ h31.lv 11 = [2,3,7] /\ h31.lv 12 = [2,3,7,97] /\ h31.lv 13 = [4] /\ h31.lv 14 = [2,3,8] /\ h31.lv 15 = [2,3,8,102] /\ h31.lv 16 = [2,3,8] /\ h31.lv 17 = [2,3,8,9] /\ h31.lv 18 = [2,3,8,9,10] /\ h31.lv 19 = [2,3,8,136] /\ h31.lv 20 = [4] /\ h31.lv 21 = [2,3,11] /\ h31.lv 22 = [2,3,11,141] /\ h31.lv 23 = [2,3,11] /\ h31.lv 24 = [2,3,11,154] /\ h31.lv 25 = [4] /\ h31.lv 26 = [4]:=by decide +kernel
@[go_sem] def h31_q:=hplain h31 rfl rfl rfl
@[go_sem] theorem h31_t : h31.tk = [] /\ h31.mt = [] /\ h31.pc = [16,117,130]:=⟨rfl,rfl,rfl⟩
theorem h31_k : FK Tryz.prog 31 Tryz.f31 h31:=⟨by kernel_rfl,by kernel_rfl,Tryz.func31,by kernel_rfl⟩
def h32 : Hint:=hm [12,44,16] [] [] [10]
@[go_sem] theorem h32_l : h32.lv 0 = [2,3] /\ h32.lv 1 = [2,3,5] /\ h32.lv 2 = [4]:=by decide +kernel
@[go_sem] def h32_q:=hplain h32 rfl rfl rfl
@[go_sem] theorem h32_t : h32.tk = [] /\ h32.mt = [] /\ h32.pc = [10]:=⟨rfl,rfl,rfl⟩
theorem h32_k : FK Tryz.prog 32 Tryz.f32 h32:=⟨by kernel_rfl,by kernel_rfl,Tryz.func32,by kernel_rfl⟩
def h14 : Hint:=hm [12,44,17592186044428,16,76,562949953421388,76,0x400000000000004c,16,140,0x8000000000000008c,140,396,0x40000000000000000008c,16,524,0x800000000000000000020c,524,1548,0x4000000000000000000000020c,16,16] [] [] [15,80,100]
@[go_sem] theorem h14_l : h14.lv 0 = [2,3] /\ h14.lv 1 = [2,3,5] /\ h14.lv 2 = [2,3,44] /\ h14.lv 3 = [4] /\ h14.lv 4 = [2,3,6] /\ h14.lv 5 = [2,3,6,49] /\ h14.lv 6 = [2,3,6] /\ h14.lv 7 = [2,3,6,62] /\ h14.lv 8 = [4] /\ h14.lv 9 = [2,3,7] /\ h14.lv 10 = [2,3,7,67] /\ h14.lv 11 = [2,3,7] /\ h14.lv 12 = [2,3,7,8] /\ h14.lv 13 = [2,3,7,82] /\ h14.lv 14 = [4] /\ h14.lv 15 = [2,3,9] /\ h14.lv 16 = [2,3,9,87] /\ h14.lv 17 = [2,3,9] /\ h14.lv 18 = [2,3,9,10] /\ h14.lv 19 = [2,3,9,102] /\ h14.lv 20 = [4] /\ h14.lv 21 = [4]:=by decide +kernel
@[go_sem] def h14_q:=hplain h14 rfl rfl rfl
@[go_sem] theorem h14_t : h14.tk = [] /\ h14.mt = [] /\ h14.pc = [15,80,100]:=⟨rfl,rfl,rfl⟩
theorem h14_k : FK Tryz.prog 14 Tryz.f14 h14:=⟨by kernel_rfl,by kernel_rfl,Tryz.func14,by kernel_rfl⟩
def h16 : Hint:=hx [22,52,116,244,134217972,244,500,1012,34359738868,500,244,1140,72057594037929076,1140,3188,0x100000000000000c74,3188,0x200000000000000000c74,1140,16] [46,83] [] [] [33] [(5,4),(13,4)] []
@[go_sem] theorem h16_l : h16.lv 0 = [1,2,4] /\ h16.lv 1 = [2,4,5] /\ h16.lv 2 = [2,4,5,6] /\ h16.lv 3 = [2,4,5,6,7] /\ h16.lv 4 = [2,4,5,6,7,27] /\ h16.lv 5 = [2,4,5,6,7] /\ h16.lv 6 = [2,4,5,6,7,8] /\ h16.lv 7 = [2,4,5,6,7,8,9] /\ h16.lv 8 = [2,4,5,6,7,8,35] /\ h16.lv 9 = [2,4,5,6,7,8] /\ h16.lv 10 = [2,4,5,6,7] /\ h16.lv 11 = [2,4,5,6,10] /\ h16.lv 12 = [2,4,5,6,10,56] /\ h16.lv 13 = [2,4,5,6,10] /\ h16.lv 14 = [2,4,5,6,10,11] /\ h16.lv 15 = [2,4,5,6,10,11,68] /\ h16.lv 16 = [2,4,5,6,10,11] /\ h16.lv 17 = [2,4,5,6,10,11,81] /\ h16.lv 18 = [2,4,5,6,10] /\ h16.lv 19 = [4]:=by decide +kernel
@[go_sem] theorem h16_g : h16.ct 0 = none /\ h16.ct 1 = none /\ h16.ct 2 = none /\ h16.ct 3 = none /\ h16.ct 4 = none /\ h16.ct 5 = some 4 /\ h16.ct 6 = none /\ h16.ct 7 = none /\ h16.ct 8 = none /\ h16.ct 9 = none /\ h16.ct 10 = none /\ h16.ct 11 = none /\ h16.ct 12 = none /\ h16.ct 13 = some 4 /\ h16.ct 14 = none /\ h16.ct 15 = none /\ h16.ct 16 = none /\ h16.ct 17 = none /\ h16.ct 18 = none /\ h16.ct 19 = none:=by decide +kernel
@[go_sem] theorem h16_z (k : Nat) : h16.at k = []:=rfl
@[go_sem] theorem h16_y (k : Nat) : h16.dn k = false:=Eq.trans rfl rfl
@[go_sem] theorem h16_t : h16.tk = [46,83] /\ h16.mt = [] /\ h16.pc = [33]:=⟨rfl,rfl,rfl⟩
theorem h16_k : FK Tryz.prog 16 Tryz.f16 h16:=⟨by kernel_rfl,by kernel_rfl,Tryz.func16,by kernel_rfl⟩
def h18 : Hint:=hm [6,70,4166,70,198,8388806,48,48] [] [] [21]
@[go_sem] theorem h18_l : h18.lv 0 = [1,2] /\ h18.lv 1 = [1,2,6] /\ h18.lv 2 = [1,2,6,12] /\ h18.lv 3 = [1,2,6] /\ h18.lv 4 = [1,2,6,7] /\ h18.lv 5 = [1,2,6,7,23] /\ h18.lv 6 = [4,5] /\ h18.lv 7 = [4,5]:=by decide +kernel
@[go_sem] def h18_q:=hplain h18 rfl rfl rfl
@[go_sem] theorem h18_t : h18.tk = [] /\ h18.mt = [] /\ h18.pc = [21]:=⟨rfl,rfl,rfl⟩
theorem h18_k : FK Tryz.prog 18 Tryz.f18 h18:=⟨by kernel_rfl,by kernel_rfl,Tryz.func18,by kernel_rfl⟩
def h3 : Hint:=hm [30,0x400000000001e,256,1566,7710,32286,130590,0x40000000000000000000000000021e,256,0x380000000000000000000000000001e,0x780000000000000000000000000001e,0x380000000000000000000000004001e,0x38000000000000000000000000c001e,0x380380000000000000000000000008001e,0x780380000000000000000000000008001e,0x380380000000000000000000000028001e,0x80000380380000000000000000000000020001e,256,0x380380000000000000000000000008001e,0x380380000000000000000000000008001e,0x400000000000380000000000000000000000000001e,256,0x380000000000000000000000000001e,0x2000000000000000000000000000000000000000000018,256,12582936,62914584,256] [81,90,91,119,131] [] [27,51,56,63,70,77,82,92,103,106,112,115,116,182,186,192,195,216]
@[go_sem] theorem h3_l : h3.lv 0 = [1,2,3,4] /\ h3.lv 1 = [1,2,3,4,50] /\ h3.lv 2 = [8] /\ h3.lv 3 = [1,2,3,4,9,10] /\ h3.lv 4 = [1,2,3,4,9,10,11,12] /\ h3.lv 5 = [1,2,3,4,9,10,11,12,13,14] /\ h3.lv 6 = [1,2,3,4,9,10,11,12,13,14,15,16] /\ h3.lv 7 = [1,2,3,4,9,118] /\ h3.lv 8 = [8] /\ h3.lv 9 = [1,2,3,4,119,120,121] /\ h3.lv 10 = [1,2,3,4,119,120,121,122] /\ h3.lv 11 = [1,2,3,4,18,119,120,121] /\ h3.lv 12 = [1,2,3,4,18,19,119,120,121] /\ h3.lv 13 = [1,2,3,4,19,119,120,121,131,132,133] /\ h3.lv 14 = [1,2,3,4,19,119,120,121,131,132,133,134] /\ h3.lv 15 = [1,2,3,4,19,21,119,120,121,131,132,133] /\ h3.lv 16 = [1,2,3,4,21,119,120,121,131,132,133,155] /\ h3.lv 17 = [8] /\ h3.lv 18 = [1,2,3,4,19,119,120,121,131,132,133] /\ h3.lv 19 = [1,2,3,4,19,119,120,121,131,132,133] /\ h3.lv 20 = [1,2,3,4,119,120,121,170] /\ h3.lv 21 = [8] /\ h3.lv 22 = [1,2,3,4,119,120,121] /\ h3.lv 23 = [3,4,181] /\ h3.lv 24 = [8] /\ h3.lv 25 = [3,4,22,23] /\ h3.lv 26 = [3,4,22,23,24,25] /\ h3.lv 27 = [8]:=by decide +kernel
@[go_sem] def h3_q:=hplain h3 rfl rfl rfl
@[go_sem] theorem h3_t : h3.tk = [81,90,91,119,131] /\ h3.mt = [] /\ h3.pc = [27,51,56,63,70,77,82,92,103,106,112,115,116,182,186,192,195,216]:=⟨rfl,rfl,rfl⟩
theorem h3_k : FK Tryz.prog 3 Tryz.f3 h3:=⟨by kernel_rfl,by kernel_rfl,Tryz.func3,by kernel_rfl⟩
end Go.AI
