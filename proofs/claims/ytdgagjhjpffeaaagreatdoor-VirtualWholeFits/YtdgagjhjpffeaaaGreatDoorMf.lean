/- Closed facts about the program's types. Printed by fa.py. -/
import Derived.Test.YtdgagjhjpffeaaaGreatDoorProg
import Derived.Test.YtdgagjhjpffeaaaGreatDoorMj
import Derived.KernelRfl
set_option linter.unusedSimpArgs false
set_option linter.unusedVariables false
namespace Go.AI
open Go.Proofs
@[go_sem] theorem cellsOf3 : Tryz.prog.cellsOf 3 = 1 := by kernel_rfl
@[go_sem] theorem bytesOf3 : Tryz.prog.bytesOf 3 = 8 := by kernel_rfl
@[go_sem] theorem ldk3 : ldk Tryz.prog 3 = some none := by kernel_rfl
@[go_sem] theorem und3 : Tryz.prog.underlying 3 = some (.int .i64) := by kernel_rfl
@[go_sem] theorem zeroOk3 : zeroOk Tryz.prog 3 = true := by kernel_rfl
@[go_sem] theorem zeroAV3 : zeroAV Tryz.prog 3 = some (.int .i64 0) := by kernel_rfl
@[go_sem] theorem isBool4 : isBool Tryz.prog 4 = true := by kernel_rfl
@[go_sem] theorem zeroAV4 : zeroAV Tryz.prog 4 = some (.bool false) := by kernel_rfl
@[go_sem] theorem cellsOf9 : Tryz.prog.cellsOf 9 = 1 := by kernel_rfl
@[go_sem] theorem bytesOf9 : Tryz.prog.bytesOf 9 = 16 := by kernel_rfl
@[go_sem] theorem ldk9 : ldk Tryz.prog 9 = some none := by kernel_rfl
@[go_sem] theorem und9 : Tryz.prog.underlying 9 = some .string := by kernel_rfl
@[go_sem] theorem zeroOk9 : zeroOk Tryz.prog 9 = true := by kernel_rfl
@[go_sem] theorem info9 : (Tryz.prog.info? 9).isSome = true := by kernel_rfl
@[go_sem] theorem cellsOf22 : Tryz.prog.cellsOf 22 = 1 := by kernel_rfl
@[go_sem] theorem ldk22 : ldk Tryz.prog 22 = some none := by kernel_rfl
@[go_sem] theorem und22 : Tryz.prog.underlying 22 = some (.slice 171) := by kernel_rfl
@[go_sem] theorem cellsOf23 : Tryz.prog.cellsOf 23 = 1 := by kernel_rfl
@[go_sem] theorem ldk23 : ldk Tryz.prog 23 = some none := by kernel_rfl
@[go_sem] theorem und23 : Tryz.prog.underlying 23 = some (.slice 173) := by kernel_rfl
@[go_sem] theorem cellsOf24 : Tryz.prog.cellsOf 24 = 1 := by kernel_rfl
@[go_sem] theorem ldk24 : ldk Tryz.prog 24 = some none := by kernel_rfl
@[go_sem] theorem und24 : Tryz.prog.underlying 24 = some (.slice 176) := by kernel_rfl
@[go_sem] theorem cellsOf26 : Tryz.prog.cellsOf 26 = 3 := by kernel_rfl
@[go_sem] theorem ldk26 : ldk Tryz.prog 26 = some (some 3) := by kernel_rfl
@[go_sem] theorem fplace26_0 : fplace Tryz.prog 26 0 = some (22, 0) := by kernel_rfl
@[go_sem] theorem fplace26_1 : fplace Tryz.prog 26 1 = some (23, 1) := by kernel_rfl
@[go_sem] theorem fplace26_2 : fplace Tryz.prog 26 2 = some (24, 2) := by kernel_rfl
@[go_sem] theorem cellsOf27 : Tryz.prog.cellsOf 27 = 1 := by kernel_rfl
@[go_sem] theorem ldk27 : ldk Tryz.prog 27 = some none := by kernel_rfl
@[go_sem] theorem und27 : Tryz.prog.underlying 27 = some (.slice 145) := by kernel_rfl
@[go_sem] theorem cellsOf31 : Tryz.prog.cellsOf 31 = 6 := by kernel_rfl
@[go_sem] theorem ldk31 : ldk Tryz.prog 31 = some (some 6) := by kernel_rfl
@[go_sem] theorem fplace31_0 : fplace Tryz.prog 31 0 = some (26, 0) := by kernel_rfl
@[go_sem] theorem fplace31_1 : fplace Tryz.prog 31 1 = some (27, 3) := by kernel_rfl
@[go_sem] theorem cellsOf32 : Tryz.prog.cellsOf 32 = 1 := by kernel_rfl
@[go_sem] theorem ldk32 : ldk Tryz.prog 32 = some none := by kernel_rfl
@[go_sem] theorem und32 : Tryz.prog.underlying 32 = some (.slice 114) := by kernel_rfl
@[go_sem] theorem cellsOf33 : Tryz.prog.cellsOf 33 = 1 := by kernel_rfl
@[go_sem] theorem ldk33 : ldk Tryz.prog 33 = some none := by kernel_rfl
@[go_sem] theorem und33 : Tryz.prog.underlying 33 = some (.slice 88) := by kernel_rfl
@[go_sem] theorem cellsOf35 : Tryz.prog.cellsOf 35 = 1 := by kernel_rfl
@[go_sem] theorem ldk35 : ldk Tryz.prog 35 = some none := by kernel_rfl
@[go_sem] theorem und35 : Tryz.prog.underlying 35 = some (.slice 63) := by kernel_rfl
@[go_sem] theorem cellsOf36 : Tryz.prog.cellsOf 36 = 1 := by kernel_rfl
@[go_sem] theorem ldk36 : ldk Tryz.prog 36 = some none := by kernel_rfl
@[go_sem] theorem und36 : Tryz.prog.underlying 36 = some (.slice 101) := by kernel_rfl
@[go_sem] theorem cellsOf37 : Tryz.prog.cellsOf 37 = 1 := by kernel_rfl
@[go_sem] theorem ldk37 : ldk Tryz.prog 37 = some none := by kernel_rfl
@[go_sem] theorem und37 : Tryz.prog.underlying 37 = some (.slice 107) := by kernel_rfl
@[go_sem] theorem cellsOf39 : Tryz.prog.cellsOf 39 = 6 := by kernel_rfl
@[go_sem] theorem ldk39 : ldk Tryz.prog 39 = some (some 6) := by kernel_rfl
@[go_sem] theorem fplace39_0 : fplace Tryz.prog 39 0 = some (9, 0) := by kernel_rfl
@[go_sem] theorem fplace39_1 : fplace Tryz.prog 39 1 = some (32, 1) := by kernel_rfl
@[go_sem] theorem fplace39_2 : fplace Tryz.prog 39 2 = some (33, 2) := by kernel_rfl
@[go_sem] theorem fplace39_3 : fplace Tryz.prog 39 3 = some (35, 3) := by kernel_rfl
@[go_sem] theorem fplace39_4 : fplace Tryz.prog 39 4 = some (36, 4) := by kernel_rfl
@[go_sem] theorem fplace39_5 : fplace Tryz.prog 39 5 = some (37, 5) := by kernel_rfl
@[go_sem] theorem cellsOf43 : Tryz.prog.cellsOf 43 = 1 := by kernel_rfl
@[go_sem] theorem ldk43 : ldk Tryz.prog 43 = some none := by kernel_rfl
@[go_sem] theorem zeroAV43 : zeroAV Tryz.prog 43 = some (.int .i64 0) := by kernel_rfl
@[go_sem] theorem cellsOf47 : Tryz.prog.cellsOf 47 = 10 := by kernel_rfl
@[go_sem] theorem ldk47 : ldk Tryz.prog 47 = some (some 10) := by kernel_rfl
@[go_sem] theorem und47 : Tryz.prog.underlying 47 = some (.array 10 3) := by kernel_rfl
@[go_sem] theorem zeroOk47 : zeroOk Tryz.prog 47 = true := by kernel_rfl
@[go_sem] theorem bkind47 : bkind Tryz.prog 47 = .array 1 := by kernel_rfl
@[go_sem] theorem cellsOf53 : Tryz.prog.cellsOf 53 = 1 := by kernel_rfl
@[go_sem] theorem ldk53 : ldk Tryz.prog 53 = some none := by kernel_rfl
@[go_sem] theorem und53 : Tryz.prog.underlying 53 = some (.slice 55) := by kernel_rfl
@[go_sem] theorem cellsOf55 : Tryz.prog.cellsOf 55 = 5 := by kernel_rfl
@[go_sem] theorem bytesOf55 : Tryz.prog.bytesOf 55 = 64 := by kernel_rfl
@[go_sem] theorem ldk55 : ldk Tryz.prog 55 = some (some 5) := by kernel_rfl
@[go_sem] theorem zeroOk55 : zeroOk Tryz.prog 55 = true := by kernel_rfl
@[go_sem] theorem info55 : (Tryz.prog.info? 55).isSome = true := by kernel_rfl
@[go_sem] theorem bkind55 : bkind Tryz.prog 55 = .struct [(0, 1), (1, 1), (2, 1), (3, 1), (4, 1)] := by kernel_rfl
@[go_sem] theorem fplace55_0 : fplace Tryz.prog 55 0 = some (3, 0) := by kernel_rfl
@[go_sem] theorem fplace55_1 : fplace Tryz.prog 55 1 = some (9, 1) := by kernel_rfl
@[go_sem] theorem fplace55_2 : fplace Tryz.prog 55 2 = some (3, 2) := by kernel_rfl
@[go_sem] theorem fplace55_3 : fplace Tryz.prog 55 3 = some (3, 3) := by kernel_rfl
@[go_sem] theorem fplace55_4 : fplace Tryz.prog 55 4 = some (53, 4) := by kernel_rfl
@[go_sem] theorem cellsOf56 : Tryz.prog.cellsOf 56 = 1 := by kernel_rfl
@[go_sem] theorem ldk56 : ldk Tryz.prog 56 = some none := by kernel_rfl
@[go_sem] theorem und56 : Tryz.prog.underlying 56 = some (.slice 58) := by kernel_rfl
@[go_sem] theorem cellsOf58 : Tryz.prog.cellsOf 58 = 9 := by kernel_rfl
@[go_sem] theorem bytesOf58 : Tryz.prog.bytesOf 58 = 120 := by kernel_rfl
@[go_sem] theorem ldk58 : ldk Tryz.prog 58 = some (some 9) := by kernel_rfl
@[go_sem] theorem zeroOk58 : zeroOk Tryz.prog 58 = true := by kernel_rfl
@[go_sem] theorem info58 : (Tryz.prog.info? 58).isSome = true := by kernel_rfl
@[go_sem] theorem bkind58 : bkind Tryz.prog 58 = .struct [(0, 1), (1, 5), (6, 1), (7, 1), (8, 1)] := by kernel_rfl
@[go_sem] theorem fplace58_0 : fplace Tryz.prog 58 0 = some (3, 0) := by kernel_rfl
@[go_sem] theorem fplace58_1 : fplace Tryz.prog 58 1 = some (55, 1) := by kernel_rfl
@[go_sem] theorem fplace58_2 : fplace Tryz.prog 58 2 = some (9, 6) := by kernel_rfl
@[go_sem] theorem fplace58_3 : fplace Tryz.prog 58 3 = some (3, 7) := by kernel_rfl
@[go_sem] theorem fplace58_4 : fplace Tryz.prog 58 4 = some (56, 8) := by kernel_rfl
@[go_sem] theorem cellsOf59 : Tryz.prog.cellsOf 59 = 1 := by kernel_rfl
@[go_sem] theorem ldk59 : ldk Tryz.prog 59 = some none := by kernel_rfl
@[go_sem] theorem und59 : Tryz.prog.underlying 59 = some (.slice 9) := by kernel_rfl
@[go_sem] theorem cellsOf61 : Tryz.prog.cellsOf 61 = 6 := by kernel_rfl
@[go_sem] theorem ldk61 : ldk Tryz.prog 61 = some (some 6) := by kernel_rfl
@[go_sem] theorem bkind61 : bkind Tryz.prog 61 = .struct [(0, 1), (1, 1), (2, 1), (3, 1), (4, 1), (5, 1)] := by kernel_rfl
@[go_sem] theorem fplace61_0 : fplace Tryz.prog 61 0 = some (3, 0) := by kernel_rfl
@[go_sem] theorem fplace61_1 : fplace Tryz.prog 61 1 = some (9, 1) := by kernel_rfl
@[go_sem] theorem fplace61_2 : fplace Tryz.prog 61 2 = some (59, 2) := by kernel_rfl
@[go_sem] theorem fplace61_3 : fplace Tryz.prog 61 3 = some (9, 3) := by kernel_rfl
@[go_sem] theorem fplace61_4 : fplace Tryz.prog 61 4 = some (3, 4) := by kernel_rfl
@[go_sem] theorem fplace61_5 : fplace Tryz.prog 61 5 = some (3, 5) := by kernel_rfl
@[go_sem] theorem cellsOf63 : Tryz.prog.cellsOf 63 = 15 := by kernel_rfl
@[go_sem] theorem bytesOf63 : Tryz.prog.bytesOf 63 = 200 := by kernel_rfl
@[go_sem] theorem ldk63 : ldk Tryz.prog 63 = some (some 15) := by kernel_rfl
@[go_sem] theorem zeroOk63 : zeroOk Tryz.prog 63 = true := by kernel_rfl
@[go_sem] theorem bkind63 : bkind Tryz.prog 63 = .struct [(0, 9), (9, 6)] := by kernel_rfl
@[go_sem] theorem fplace63_0 : fplace Tryz.prog 63 0 = some (58, 0) := by kernel_rfl
@[go_sem] theorem fplace63_1 : fplace Tryz.prog 63 1 = some (61, 9) := by kernel_rfl
@[go_sem] theorem und78 : Tryz.prog.underlying 78 = some (.slice 47) := by kernel_rfl
@[go_sem] theorem cellsOf88 : Tryz.prog.cellsOf 88 = 2 := by kernel_rfl
@[go_sem] theorem ldk88 : ldk Tryz.prog 88 = some (some 2) := by kernel_rfl
@[go_sem] theorem zeroOk88 : zeroOk Tryz.prog 88 = true := by kernel_rfl
@[go_sem] theorem bkind88 : bkind Tryz.prog 88 = .struct [(0, 1), (1, 1)] := by kernel_rfl
@[go_sem] theorem fplace88_0 : fplace Tryz.prog 88 0 = some (3, 0) := by kernel_rfl
@[go_sem] theorem fplace88_1 : fplace Tryz.prog 88 1 = some (3, 1) := by kernel_rfl
@[go_sem] theorem cellsOf97 : Tryz.prog.cellsOf 97 = 1 := by kernel_rfl
@[go_sem] theorem ldk97 : ldk Tryz.prog 97 = some none := by kernel_rfl
@[go_sem] theorem und97 : Tryz.prog.underlying 97 = some (.slice 99) := by kernel_rfl
@[go_sem] theorem cellsOf99 : Tryz.prog.cellsOf 99 = 3 := by kernel_rfl
@[go_sem] theorem ldk99 : ldk Tryz.prog 99 = some (some 3) := by kernel_rfl
@[go_sem] theorem fplace99_0 : fplace Tryz.prog 99 0 = some (3, 0) := by kernel_rfl
@[go_sem] theorem fplace99_1 : fplace Tryz.prog 99 1 = some (9, 1) := by kernel_rfl
@[go_sem] theorem fplace99_2 : fplace Tryz.prog 99 2 = some (97, 2) := by kernel_rfl
@[go_sem] theorem cellsOf101 : Tryz.prog.cellsOf 101 = 8 := by kernel_rfl
@[go_sem] theorem ldk101 : ldk Tryz.prog 101 = some (some 8) := by kernel_rfl
@[go_sem] theorem fplace101_0 : fplace Tryz.prog 101 0 = some (55, 0) := by kernel_rfl
@[go_sem] theorem fplace101_1 : fplace Tryz.prog 101 1 = some (99, 5) := by kernel_rfl
@[go_sem] theorem ldk102 : ldk Tryz.prog 102 = some none := by kernel_rfl
@[go_sem] theorem cellsOf107 : Tryz.prog.cellsOf 107 = 4 := by kernel_rfl
@[go_sem] theorem ldk107 : ldk Tryz.prog 107 = some (some 4) := by kernel_rfl
@[go_sem] theorem fplace107_0 : fplace Tryz.prog 107 0 = some (3, 0) := by kernel_rfl
@[go_sem] theorem fplace107_1 : fplace Tryz.prog 107 1 = some (3, 1) := by kernel_rfl
@[go_sem] theorem fplace107_2 : fplace Tryz.prog 107 2 = some (3, 2) := by kernel_rfl
@[go_sem] theorem fplace107_3 : fplace Tryz.prog 107 3 = some (3, 3) := by kernel_rfl
@[go_sem] theorem cellsOf111 : Tryz.prog.cellsOf 111 = 2 := by kernel_rfl
@[go_sem] theorem ldk111 : ldk Tryz.prog 111 = some (some 2) := by kernel_rfl
@[go_sem] theorem bkind111 : bkind Tryz.prog 111 = .array 1 := by kernel_rfl
@[go_sem] theorem zeroAV111 : zeroAV Tryz.prog 111 = some (.agg [.int .i64 0, .int .i64 0]) := by kernel_rfl
@[go_sem] theorem cellsOf114 : Tryz.prog.cellsOf 114 = 2 := by kernel_rfl
@[go_sem] theorem ldk114 : ldk Tryz.prog 114 = some (some 2) := by kernel_rfl
@[go_sem] theorem fplace114_0 : fplace Tryz.prog 114 0 = some (9, 0) := by kernel_rfl
@[go_sem] theorem fplace114_1 : fplace Tryz.prog 114 1 = some (3, 1) := by kernel_rfl
@[go_sem] theorem cellsOf121 : Tryz.prog.cellsOf 121 = 1 := by kernel_rfl
@[go_sem] theorem ldk121 : ldk Tryz.prog 121 = some none := by kernel_rfl
@[go_sem] theorem und121 : Tryz.prog.underlying 121 = some (.slice 3) := by kernel_rfl
@[go_sem] theorem zeroAV121 : zeroAV Tryz.prog 121 = some (.sl (some 1) []) := by kernel_rfl
@[go_sem] theorem cellsOf141 : Tryz.prog.cellsOf 141 = 2 := by kernel_rfl
@[go_sem] theorem ldk141 : ldk Tryz.prog 141 = some (some 2) := by kernel_rfl
@[go_sem] theorem bkind141 : bkind Tryz.prog 141 = .struct [(0, 1), (1, 1)] := by kernel_rfl
@[go_sem] theorem fplace141_0 : fplace Tryz.prog 141 0 = some (3, 0) := by kernel_rfl
@[go_sem] theorem fplace141_1 : fplace Tryz.prog 141 1 = some (3, 1) := by kernel_rfl
@[go_sem] theorem cellsOf145 : Tryz.prog.cellsOf 145 = 3 := by kernel_rfl
@[go_sem] theorem ldk145 : ldk Tryz.prog 145 = some (some 3) := by kernel_rfl
@[go_sem] theorem bkind145 : bkind Tryz.prog 145 = .struct [(0, 1), (1, 1), (2, 1)] := by kernel_rfl
@[go_sem] theorem fplace145_0 : fplace Tryz.prog 145 0 = some (9, 0) := by kernel_rfl
@[go_sem] theorem fplace145_1 : fplace Tryz.prog 145 1 = some (3, 1) := by kernel_rfl
@[go_sem] theorem fplace145_2 : fplace Tryz.prog 145 2 = some (3, 2) := by kernel_rfl
@[go_sem] theorem cellsOf171 : Tryz.prog.cellsOf 171 = 4 := by kernel_rfl
@[go_sem] theorem ldk171 : ldk Tryz.prog 171 = some (some 4) := by kernel_rfl
@[go_sem] theorem fplace171_0 : fplace Tryz.prog 171 0 = some (9, 0) := by kernel_rfl
@[go_sem] theorem fplace171_2 : fplace Tryz.prog 171 2 = some (3, 2) := by kernel_rfl
@[go_sem] theorem fplace171_3 : fplace Tryz.prog 171 3 = some (3, 3) := by kernel_rfl
@[go_sem] theorem cellsOf173 : Tryz.prog.cellsOf 173 = 3 := by kernel_rfl
@[go_sem] theorem ldk173 : ldk Tryz.prog 173 = some (some 3) := by kernel_rfl
@[go_sem] theorem fplace173_0 : fplace Tryz.prog 173 0 = some (3, 0) := by kernel_rfl
@[go_sem] theorem fplace173_1 : fplace Tryz.prog 173 1 = some (3, 1) := by kernel_rfl
@[go_sem] theorem fplace173_2 : fplace Tryz.prog 173 2 = some (3, 2) := by kernel_rfl
@[go_sem] theorem cellsOf176 : Tryz.prog.cellsOf 176 = 2 := by kernel_rfl
@[go_sem] theorem fplace176_0 : fplace Tryz.prog 176 0 = some (9, 0) := by kernel_rfl
@[go_sem] theorem fplace176_1 : fplace Tryz.prog 176 1 = some (3, 1) := by kernel_rfl
theorem mixed : Tryz.prog.follows .mixedOrders = true := by kernel_rfl
end Go.AI
set_option linter.defProp false
namespace Go.AI
open Go.Proofs
def h171 : Hint := hm [28,16] [] [] []
@[go_sem] theorem h171_l : h171.lv 0 = [2,3,4] /\ h171.lv 1 = [4] := by decide +kernel
@[go_sem] def h171_q := hplain h171 rfl rfl rfl
@[go_sem] theorem h171_t : h171.tk = [] /\ h171.mt = [] /\ h171.pc = [] := ⟨rfl, rfl, rfl⟩
theorem h171_k : FK Tryz.prog 171 Tryz.f171 h171 := ⟨by kernel_rfl, by kernel_rfl, Tryz.func171, by kernel_rfl⟩
def h119 : Hint := hm [6,14,30,1054,30,30,4] [] [] [19,20]
@[go_sem] theorem h119_l : h119.lv 0 = [1,2] /\ h119.lv 1 = [1,2,3] /\ h119.lv 2 = [1,2,3,4] /\ h119.lv 3 = [1,2,3,4,10] /\ h119.lv 4 = [1,2,3,4] /\ h119.lv 5 = [1,2,3,4] /\ h119.lv 6 = [2] := by decide +kernel
@[go_sem] def h119_q := hplain h119 rfl rfl rfl
@[go_sem] theorem h119_t : h119.tk = [] /\ h119.mt = [] /\ h119.pc = [19,20] := ⟨rfl, rfl, rfl⟩
theorem h119_k : FK Tryz.prog 119 Tryz.f119 h119 := ⟨by kernel_rfl, by kernel_rfl, Tryz.func119, by kernel_rfl⟩
def h95 : Hint := hm [6,14,270,14,30,262174,30,30,4] [] [] [12,13,27,28]
@[go_sem] theorem h95_l : h95.lv 0 = [1,2] /\ h95.lv 1 = [1,2,3] /\ h95.lv 2 = [1,2,3,8] /\ h95.lv 3 = [1,2,3] /\ h95.lv 4 = [1,2,3,4] /\ h95.lv 5 = [1,2,3,4,18] /\ h95.lv 6 = [1,2,3,4] /\ h95.lv 7 = [1,2,3,4] /\ h95.lv 8 = [2] := by decide +kernel
@[go_sem] def h95_q := hplain h95 rfl rfl rfl
@[go_sem] theorem h95_t : h95.tk = [] /\ h95.mt = [] /\ h95.pc = [12,13,27,28] := ⟨rfl, rfl, rfl⟩
theorem h95_k : FK Tryz.prog 95 Tryz.f95 h95 := ⟨by kernel_rfl, by kernel_rfl, Tryz.func95, by kernel_rfl⟩
def h117 : Hint := hm [2,10,24,4] [] [] [6,9]
@[go_sem] theorem h117_l : h117.lv 0 = [1] /\ h117.lv 1 = [1,3] /\ h117.lv 2 = [3,4] /\ h117.lv 3 = [2] := by decide +kernel
@[go_sem] def h117_q := hplain h117 rfl rfl rfl
@[go_sem] theorem h117_t : h117.tk = [] /\ h117.mt = [] /\ h117.pc = [6,9] := ⟨rfl, rfl, rfl⟩
theorem h117_k : FK Tryz.prog 117 Tryz.f117 h117 := ⟨by kernel_rfl, by kernel_rfl, Tryz.func117, by kernel_rfl⟩
def h51 : Hint := hm [1,9,4105,9,25,4294967305,4,4] [33] [] [20]
@[go_sem] theorem h51_l : h51.lv 0 = [0] /\ h51.lv 1 = [0,3] /\ h51.lv 2 = [0,3,12] /\ h51.lv 3 = [0,3] /\ h51.lv 4 = [0,3,4] /\ h51.lv 5 = [0,3,32] /\ h51.lv 6 = [2] /\ h51.lv 7 = [2] := by decide +kernel
@[go_sem] def h51_q := hplain h51 rfl rfl rfl
@[go_sem] theorem h51_t : h51.tk = [33] /\ h51.mt = [] /\ h51.pc = [20] := ⟨rfl, rfl, rfl⟩
theorem h51_k : FK Tryz.prog 51 Tryz.f51 h51 := ⟨by kernel_rfl, by kernel_rfl, Tryz.func51, by kernel_rfl⟩
def h52 : Hint := hm [2,10,26,538,26,26,4194312,8,4] [] [] [18]
@[go_sem] theorem h52_l : h52.lv 0 = [1] /\ h52.lv 1 = [1,3] /\ h52.lv 2 = [1,3,4] /\ h52.lv 3 = [1,3,4,9] /\ h52.lv 4 = [1,3,4] /\ h52.lv 5 = [1,3,4] /\ h52.lv 6 = [3,22] /\ h52.lv 7 = [3] /\ h52.lv 8 = [2] := by decide +kernel
@[go_sem] def h52_q := hplain h52 rfl rfl rfl
@[go_sem] theorem h52_t : h52.tk = [] /\ h52.mt = [] /\ h52.pc = [18] := ⟨rfl, rfl, rfl⟩
theorem h52_k : FK Tryz.prog 52 Tryz.f52 h52 := ⟨by kernel_rfl, by kernel_rfl, Tryz.func52, by kernel_rfl⟩
def h118 : Hint := hm [2,10,26,538,26,26,4194312,8,4] [] [] [18]
@[go_sem] theorem h118_l : h118.lv 0 = [1] /\ h118.lv 1 = [1,3] /\ h118.lv 2 = [1,3,4] /\ h118.lv 3 = [1,3,4,9] /\ h118.lv 4 = [1,3,4] /\ h118.lv 5 = [1,3,4] /\ h118.lv 6 = [3,22] /\ h118.lv 7 = [3] /\ h118.lv 8 = [2] := by decide +kernel
@[go_sem] def h118_q := hplain h118 rfl rfl rfl
@[go_sem] theorem h118_t : h118.tk = [] /\ h118.mt = [] /\ h118.pc = [18] := ⟨rfl, rfl, rfl⟩
theorem h118_k : FK Tryz.prog 118 Tryz.f118 h118 := ⟨by kernel_rfl, by kernel_rfl, Tryz.func118, by kernel_rfl⟩
def h53 : Hint := hm [2,10,24,4] [] [] [6,8]
@[go_sem] theorem h53_l : h53.lv 0 = [1] /\ h53.lv 1 = [1,3] /\ h53.lv 2 = [3,4] /\ h53.lv 3 = [2] := by decide +kernel
@[go_sem] def h53_q := hplain h53 rfl rfl rfl
@[go_sem] theorem h53_t : h53.tk = [] /\ h53.mt = [] /\ h53.pc = [6,8] := ⟨rfl, rfl, rfl⟩
theorem h53_k : FK Tryz.prog 53 Tryz.f53 h53 := ⟨by kernel_rfl, by kernel_rfl, Tryz.func53, by kernel_rfl⟩
def h54 : Hint := hm [2,8,4] [] [] [5]
@[go_sem] theorem h54_l : h54.lv 0 = [1] /\ h54.lv 1 = [3] /\ h54.lv 2 = [2] := by decide +kernel
@[go_sem] def h54_q := hplain h54 rfl rfl rfl
@[go_sem] theorem h54_t : h54.tk = [] /\ h54.mt = [] /\ h54.pc = [5] := ⟨rfl, rfl, rfl⟩
theorem h54_k : FK Tryz.prog 54 Tryz.f54 h54 := ⟨by kernel_rfl, by kernel_rfl, Tryz.func54, by kernel_rfl⟩
def h120 : Hint := hm [6,14,30,1054,30,30,4] [] [] [19,20]
@[go_sem] theorem h120_l : h120.lv 0 = [1,2] /\ h120.lv 1 = [1,2,3] /\ h120.lv 2 = [1,2,3,4] /\ h120.lv 3 = [1,2,3,4,10] /\ h120.lv 4 = [1,2,3,4] /\ h120.lv 5 = [1,2,3,4] /\ h120.lv 6 = [2] := by decide +kernel
@[go_sem] def h120_q := hplain h120 rfl rfl rfl
@[go_sem] theorem h120_t : h120.tk = [] /\ h120.mt = [] /\ h120.pc = [19,20] := ⟨rfl, rfl, rfl⟩
theorem h120_k : FK Tryz.prog 120 Tryz.f120 h120 := ⟨by kernel_rfl, by kernel_rfl, Tryz.func120, by kernel_rfl⟩
def h55 : Hint := hm [2,8,4] [] [] [5]
@[go_sem] theorem h55_l : h55.lv 0 = [1] /\ h55.lv 1 = [3] /\ h55.lv 2 = [2] := by decide +kernel
@[go_sem] def h55_q := hplain h55 rfl rfl rfl
@[go_sem] theorem h55_t : h55.tk = [] /\ h55.mt = [] /\ h55.pc = [5] := ⟨rfl, rfl, rfl⟩
theorem h55_k : FK Tryz.prog 55 Tryz.f55 h55 := ⟨by kernel_rfl, by kernel_rfl, Tryz.func55, by kernel_rfl⟩
def h11 : Hint := hm [2,10,68719476738,4,18,2199023255570,18,0x2000000000000012,4,34,0x40000000000000022,34,98,226,0x10000000000000000000022,4,4] [] [] [10,50,59,75,82]
@[go_sem] theorem h11_l : h11.lv 0 = [1] /\ h11.lv 1 = [1,3] /\ h11.lv 2 = [1,36] /\ h11.lv 3 = [2] /\ h11.lv 4 = [1,4] /\ h11.lv 5 = [1,4,41] /\ h11.lv 6 = [1,4] /\ h11.lv 7 = [1,4,61] /\ h11.lv 8 = [2] /\ h11.lv 9 = [1,5] /\ h11.lv 10 = [1,5,66] /\ h11.lv 11 = [1,5] /\ h11.lv 12 = [1,5,6] /\ h11.lv 13 = [1,5,6,7] /\ h11.lv 14 = [1,5,88] /\ h11.lv 15 = [2] /\ h11.lv 16 = [2] := by decide +kernel
@[go_sem] def h11_q := hplain h11 rfl rfl rfl
@[go_sem] theorem h11_t : h11.tk = [] /\ h11.mt = [] /\ h11.pc = [10,50,59,75,82] := ⟨rfl, rfl, rfl⟩
theorem h11_k : FK Tryz.prog 11 Tryz.f11 h11 := ⟨by kernel_rfl, by kernel_rfl, Tryz.func11, by kernel_rfl⟩
def h114 : Hint := hm [1,9,521,9,25,57,0x800000000009,4,4] [] [] []
@[go_sem] theorem h114_l : h114.lv 0 = [0] /\ h114.lv 1 = [0,3] /\ h114.lv 2 = [0,3,9] /\ h114.lv 3 = [0,3] /\ h114.lv 4 = [0,3,4] /\ h114.lv 5 = [0,3,4,5] /\ h114.lv 6 = [0,3,47] /\ h114.lv 7 = [2] /\ h114.lv 8 = [2] := by decide +kernel
@[go_sem] def h114_q := hplain h114 rfl rfl rfl
@[go_sem] theorem h114_t : h114.tk = [] /\ h114.mt = [] /\ h114.pc = [] := ⟨rfl, rfl, rfl⟩
theorem h114_k : FK Tryz.prog 114 Tryz.f114 h114 := ⟨by kernel_rfl, by kernel_rfl, Tryz.func114, by kernel_rfl⟩
def h72 : Hint := hm [6,16] [] [] []
@[go_sem] theorem h72_l : h72.lv 0 = [1,2] /\ h72.lv 1 = [4] := by decide +kernel
@[go_sem] def h72_q := hplain h72 rfl rfl rfl
@[go_sem] theorem h72_t : h72.tk = [] /\ h72.mt = [] /\ h72.pc = [] := ⟨rfl, rfl, rfl⟩
theorem h72_k : FK Tryz.prog 72 Tryz.f72 h72 := ⟨by kernel_rfl, by kernel_rfl, Tryz.func72, by kernel_rfl⟩
def h145 : Hint := hm [6,16] [] [] [7]
@[go_sem] theorem h145_l : h145.lv 0 = [1,2] /\ h145.lv 1 = [4] := by decide +kernel
@[go_sem] def h145_q := hplain h145 rfl rfl rfl
@[go_sem] theorem h145_t : h145.tk = [] /\ h145.mt = [] /\ h145.pc = [7] := ⟨rfl, rfl, rfl⟩
theorem h145_k : FK Tryz.prog 145 Tryz.f145 h145 := ⟨by kernel_rfl, by kernel_rfl, Tryz.func145, by kernel_rfl⟩
def h65 : Hint := hm [12,44,262156,16,76,8388684,76,204,17179869260,16,332,137438953804,332,4503599627370828,16,524,0x20000000000020c,524,1548,0x800000000000000060c,16,3596,0x40000000000000000e0c,3596,0x100000000000000000000e0c,16,4104,0x2000000000000000000001008,4104,0x800000000000000000000000001008,16,12296,0x4000000000000000000000000003008,12296,0x20000000000000000000000000000003008,16,16] [] [] [16,32,107,117]
@[go_sem] theorem h65_l : h65.lv 0 = [2,3] /\ h65.lv 1 = [2,3,5] /\ h65.lv 2 = [2,3,18] /\ h65.lv 3 = [4] /\ h65.lv 4 = [2,3,6] /\ h65.lv 5 = [2,3,6,23] /\ h65.lv 6 = [2,3,6] /\ h65.lv 7 = [2,3,6,7] /\ h65.lv 8 = [2,3,6,34] /\ h65.lv 9 = [4] /\ h65.lv 10 = [2,3,6,8] /\ h65.lv 11 = [2,3,6,8,37] /\ h65.lv 12 = [2,3,6,8] /\ h65.lv 13 = [2,3,6,8,52] /\ h65.lv 14 = [4] /\ h65.lv 15 = [2,3,9] /\ h65.lv 16 = [2,3,9,57] /\ h65.lv 17 = [2,3,9] /\ h65.lv 18 = [2,3,9,10] /\ h65.lv 19 = [2,3,9,10,75] /\ h65.lv 20 = [4] /\ h65.lv 21 = [2,3,9,10,11] /\ h65.lv 22 = [2,3,9,10,11,78] /\ h65.lv 23 = [2,3,9,10,11] /\ h65.lv 24 = [2,3,9,10,11,92] /\ h65.lv 25 = [4] /\ h65.lv 26 = [3,12] /\ h65.lv 27 = [3,12,97] /\ h65.lv 28 = [3,12] /\ h65.lv 29 = [3,12,119] /\ h65.lv 30 = [4] /\ h65.lv 31 = [3,12,13] /\ h65.lv 32 = [3,12,13,122] /\ h65.lv 33 = [3,12,13] /\ h65.lv 34 = [3,12,13,137] /\ h65.lv 35 = [4] /\ h65.lv 36 = [4] := by decide +kernel
@[go_sem] def h65_q := hplain h65 rfl rfl rfl
@[go_sem] theorem h65_t : h65.tk = [] /\ h65.mt = [] /\ h65.pc = [16,32,107,117] := ⟨rfl, rfl, rfl⟩
theorem h65_k : FK Tryz.prog 65 Tryz.f65 h65 := ⟨by kernel_rfl, by kernel_rfl, Tryz.func65, by kernel_rfl⟩
def h170 : Hint := hm [2,1024,4,4] [] [] []
@[go_sem] theorem h170_l : h170.lv 0 = [1] /\ h170.lv 1 = [10] /\ h170.lv 2 = [2] /\ h170.lv 3 = [2] := by decide +kernel
@[go_sem] def h170_q := hplain h170 rfl rfl rfl
@[go_sem] theorem h170_t : h170.tk = [] /\ h170.mt = [] /\ h170.pc = [] := ⟨rfl, rfl, rfl⟩
theorem h170_k : FK Tryz.prog 170 Tryz.f170 h170 := ⟨by kernel_rfl, by kernel_rfl, Tryz.func170, by kernel_rfl⟩
def h94 : Hint := hm [6,34,8224,16,16] [] [] [7]
@[go_sem] theorem h94_l : h94.lv 0 = [1,2] /\ h94.lv 1 = [1,5] /\ h94.lv 2 = [5,13] /\ h94.lv 3 = [4] /\ h94.lv 4 = [4] := by decide +kernel
@[go_sem] def h94_q := hplain h94 rfl rfl rfl
@[go_sem] theorem h94_t : h94.tk = [] /\ h94.mt = [] /\ h94.pc = [7] := ⟨rfl, rfl, rfl⟩
theorem h94_k : FK Tryz.prog 94 Tryz.f94 h94 := ⟨by kernel_rfl, by kernel_rfl, Tryz.func94, by kernel_rfl⟩
def h29 : Hint := hm [12,2199023255564,16,44,70368744177708,44,108,0x200000000000002c,16,16] [] [] [59]
@[go_sem] theorem h29_l : h29.lv 0 = [2,3] /\ h29.lv 1 = [2,3,41] /\ h29.lv 2 = [4] /\ h29.lv 3 = [2,3,5] /\ h29.lv 4 = [2,3,5,46] /\ h29.lv 5 = [2,3,5] /\ h29.lv 6 = [2,3,5,6] /\ h29.lv 7 = [2,3,5,61] /\ h29.lv 8 = [4] /\ h29.lv 9 = [4] := by decide +kernel
@[go_sem] def h29_q := hplain h29 rfl rfl rfl
@[go_sem] theorem h29_t : h29.tk = [] /\ h29.mt = [] /\ h29.pc = [59] := ⟨rfl, rfl, rfl⟩
theorem h29_k : FK Tryz.prog 29 Tryz.f29 h29 := ⟨by kernel_rfl, by kernel_rfl, Tryz.func29, by kernel_rfl⟩
def h292 : Hint := hm [1,4] [] [] []
@[go_sem] theorem h292_l : h292.lv 0 = [0] /\ h292.lv 1 = [2] := by decide +kernel
@[go_sem] def h292_q := hplain h292 rfl rfl rfl
@[go_sem] theorem h292_t : h292.tk = [] /\ h292.mt = [] /\ h292.pc = [] := ⟨rfl, rfl, rfl⟩
theorem h292_k : FK Tryz.prog 292 Tryz.f292 h292 := ⟨by kernel_rfl, by kernel_rfl, Tryz.func292, by kernel_rfl⟩
def h293 : Hint := hm [1,9,25,537,25,131097,4,4] [] [] [5]
@[go_sem] theorem h293_l : h293.lv 0 = [0] /\ h293.lv 1 = [0,3] /\ h293.lv 2 = [0,3,4] /\ h293.lv 3 = [0,3,4,9] /\ h293.lv 4 = [0,3,4] /\ h293.lv 5 = [0,3,4,17] /\ h293.lv 6 = [2] /\ h293.lv 7 = [2] := by decide +kernel
@[go_sem] def h293_q := hplain h293 rfl rfl rfl
@[go_sem] theorem h293_t : h293.tk = [] /\ h293.mt = [] /\ h293.pc = [5] := ⟨rfl, rfl, rfl⟩
theorem h293_k : FK Tryz.prog 293 Tryz.f293 h293 := ⟨by kernel_rfl, by kernel_rfl, Tryz.func293, by kernel_rfl⟩
def h326 : Hint := hm [1,4] [] [] []
@[go_sem] theorem h326_l : h326.lv 0 = [0] /\ h326.lv 1 = [2] := by decide +kernel
@[go_sem] def h326_q := hplain h326 rfl rfl rfl
@[go_sem] theorem h326_t : h326.tk = [] /\ h326.mt = [] /\ h326.pc = [] := ⟨rfl, rfl, rfl⟩
theorem h326_k : FK Tryz.prog 326 Tryz.f326 h326 := ⟨by kernel_rfl, by kernel_rfl, Tryz.func326, by kernel_rfl⟩
def h319 : Hint := hm [1,9,25,4] [] [] [6,8]
@[go_sem] theorem h319_l : h319.lv 0 = [0] /\ h319.lv 1 = [0,3] /\ h319.lv 2 = [0,3,4] /\ h319.lv 3 = [2] := by decide +kernel
@[go_sem] def h319_q := hplain h319 rfl rfl rfl
@[go_sem] theorem h319_t : h319.tk = [] /\ h319.mt = [] /\ h319.pc = [6,8] := ⟨rfl, rfl, rfl⟩
theorem h319_k : FK Tryz.prog 319 Tryz.f319 h319 := ⟨by kernel_rfl, by kernel_rfl, Tryz.func319, by kernel_rfl⟩
def h294 : Hint := hm [1,9,265,25,16393,9,4] [] [] [12]
@[go_sem] theorem h294_l : h294.lv 0 = [0] /\ h294.lv 1 = [0,3] /\ h294.lv 2 = [0,3,8] /\ h294.lv 3 = [0,3,4] /\ h294.lv 4 = [0,3,14] /\ h294.lv 5 = [0,3] /\ h294.lv 6 = [2] := by decide +kernel
@[go_sem] def h294_q := hplain h294 rfl rfl rfl
@[go_sem] theorem h294_t : h294.tk = [] /\ h294.mt = [] /\ h294.pc = [12] := ⟨rfl, rfl, rfl⟩
theorem h294_k : FK Tryz.prog 294 Tryz.f294 h294 := ⟨by kernel_rfl, by kernel_rfl, Tryz.func294, by kernel_rfl⟩
def h259 : Hint := hm [1,4097,4,9,25,4] [] [] [15,17,21]
@[go_sem] theorem h259_l : h259.lv 0 = [0] /\ h259.lv 1 = [0,12] /\ h259.lv 2 = [2] /\ h259.lv 3 = [0,3] /\ h259.lv 4 = [0,3,4] /\ h259.lv 5 = [2] := by decide +kernel
@[go_sem] def h259_q := hplain h259 rfl rfl rfl
@[go_sem] theorem h259_t : h259.tk = [] /\ h259.mt = [] /\ h259.pc = [15,17,21] := ⟨rfl, rfl, rfl⟩
theorem h259_k : FK Tryz.prog 259 Tryz.f259 h259 := ⟨by kernel_rfl, by kernel_rfl, Tryz.func259, by kernel_rfl⟩
def h217 : Hint := hm [1,4] [] [] [4]
@[go_sem] theorem h217_l : h217.lv 0 = [0] /\ h217.lv 1 = [2] := by decide +kernel
@[go_sem] def h217_q := hplain h217 rfl rfl rfl
@[go_sem] theorem h217_t : h217.tk = [] /\ h217.mt = [] /\ h217.pc = [4] := ⟨rfl, rfl, rfl⟩
theorem h217_k : FK Tryz.prog 217 Tryz.f217 h217 := ⟨by kernel_rfl, by kernel_rfl, Tryz.func217, by kernel_rfl⟩
def h172 : Hint := hm [1,9,4] [] [] [5]
@[go_sem] theorem h172_l : h172.lv 0 = [0] /\ h172.lv 1 = [0,3] /\ h172.lv 2 = [2] := by decide +kernel
@[go_sem] def h172_q := hplain h172 rfl rfl rfl
@[go_sem] theorem h172_t : h172.tk = [] /\ h172.mt = [] /\ h172.pc = [5] := ⟨rfl, rfl, rfl⟩
theorem h172_k : FK Tryz.prog 172 Tryz.f172 h172 := ⟨by kernel_rfl, by kernel_rfl, Tryz.func172, by kernel_rfl⟩
def h173 : Hint := hm [2,10,26,58,122,250,34359738618,103079215354,103079215354,194,1133871366394,194,0x80008000000fa,194,0x800000008000000ea,194,0x80000000000008000000e2,130,194,0x400000000000008000000e2,0x400000000000008000000e2,130,194,0x4000000000000000000000c2,194,0x10000000000000000000000000000042,4,322,0x80000000000000000000000000000142,322,834,0x20000000000000000000000000000000142,4,4] [] [] [12,135]
@[go_sem] theorem h173_l : h173.lv 0 = [1] /\ h173.lv 1 = [1,3] /\ h173.lv 2 = [1,3,4] /\ h173.lv 3 = [1,3,4,5] /\ h173.lv 4 = [1,3,4,5,6] /\ h173.lv 5 = [1,3,4,5,6,7] /\ h173.lv 6 = [1,3,4,5,6,7,35] /\ h173.lv 7 = [1,3,4,5,6,7,35,36] /\ h173.lv 8 = [1,3,4,5,6,7,35,36] /\ h173.lv 9 = [1,6,7] /\ h173.lv 10 = [1,3,4,5,6,7,35,40] /\ h173.lv 11 = [1,6,7] /\ h173.lv 12 = [1,3,4,5,6,7,35,51] /\ h173.lv 13 = [1,6,7] /\ h173.lv 14 = [1,3,5,6,7,35,67] /\ h173.lv 15 = [1,6,7] /\ h173.lv 16 = [1,5,6,7,35,87] /\ h173.lv 17 = [1,7] /\ h173.lv 18 = [1,6,7] /\ h173.lv 19 = [1,5,6,7,35,90] /\ h173.lv 20 = [1,5,6,7,35,90] /\ h173.lv 21 = [1,7] /\ h173.lv 22 = [1,6,7] /\ h173.lv 23 = [1,6,7,94] /\ h173.lv 24 = [1,6,7] /\ h173.lv 25 = [1,6,124] /\ h173.lv 26 = [2] /\ h173.lv 27 = [1,6,8] /\ h173.lv 28 = [1,6,8,127] /\ h173.lv 29 = [1,6,8] /\ h173.lv 30 = [1,6,8,9] /\ h173.lv 31 = [1,6,8,137] /\ h173.lv 32 = [2] /\ h173.lv 33 = [2] := by decide +kernel
@[go_sem] def h173_q := hplain h173 rfl rfl rfl
@[go_sem] theorem h173_t : h173.tk = [] /\ h173.mt = [] /\ h173.pc = [12,135] := ⟨rfl, rfl, rfl⟩
theorem h173_k : FK Tryz.prog 173 Tryz.f173 h173 := ⟨by kernel_rfl, by kernel_rfl, Tryz.func173, by kernel_rfl⟩
def h96 : Hint := hm [2,10,26,58,122,250,67109114,201326842,194,34426847482,194,0x80000040000f2,0x80000040000f2,130,194,0x4000000000000f2,130,194,0x1000000000000000042,4,322,0x8000000000000000142,322,834,0x2000000000000000000142,4,4] [] [] [12,16,31,83]
@[go_sem] theorem h96_l : h96.lv 0 = [1] /\ h96.lv 1 = [1,3] /\ h96.lv 2 = [1,3,4] /\ h96.lv 3 = [1,3,4,5] /\ h96.lv 4 = [1,3,4,5,6] /\ h96.lv 5 = [1,3,4,5,6,7] /\ h96.lv 6 = [1,3,4,5,6,7,26] /\ h96.lv 7 = [1,3,4,5,6,7,26,27] /\ h96.lv 8 = [1,6,7] /\ h96.lv 9 = [1,3,4,5,6,7,26,35] /\ h96.lv 10 = [1,6,7] /\ h96.lv 11 = [1,4,5,6,7,26,51] /\ h96.lv 12 = [1,4,5,6,7,26,51] /\ h96.lv 13 = [1,7] /\ h96.lv 14 = [1,6,7] /\ h96.lv 15 = [1,4,5,6,7,58] /\ h96.lv 16 = [1,7] /\ h96.lv 17 = [1,6,7] /\ h96.lv 18 = [1,6,72] /\ h96.lv 19 = [2] /\ h96.lv 20 = [1,6,8] /\ h96.lv 21 = [1,6,8,75] /\ h96.lv 22 = [1,6,8] /\ h96.lv 23 = [1,6,8,9] /\ h96.lv 24 = [1,6,8,85] /\ h96.lv 25 = [2] /\ h96.lv 26 = [2] := by decide +kernel
@[go_sem] def h96_q := hplain h96 rfl rfl rfl
@[go_sem] theorem h96_t : h96.tk = [] /\ h96.mt = [] /\ h96.pc = [12,16,31,83] := ⟨rfl, rfl, rfl⟩
theorem h96_k : FK Tryz.prog 96 Tryz.f96 h96 := ⟨by kernel_rfl, by kernel_rfl, Tryz.func96, by kernel_rfl⟩
def h41 : Hint := hm [2,4] [] [] [4,6,7]
@[go_sem] theorem h41_l : h41.lv 0 = [1] /\ h41.lv 1 = [2] := by decide +kernel
@[go_sem] def h41_q := hplain h41 rfl rfl rfl
@[go_sem] theorem h41_t : h41.tk = [] /\ h41.mt = [] /\ h41.pc = [4,6,7] := ⟨rfl, rfl, rfl⟩
theorem h41_k : FK Tryz.prog 41 Tryz.f41 h41 := ⟨by kernel_rfl, by kernel_rfl, Tryz.func41, by kernel_rfl⟩
def h38 : Hint := hm [12,0x80000000000c,16,44,4503599627370540,44,0x2000000000000002c,16,16] [] [] []
@[go_sem] theorem h38_l : h38.lv 0 = [2,3] /\ h38.lv 1 = [2,3,47] /\ h38.lv 2 = [4] /\ h38.lv 3 = [2,3,5] /\ h38.lv 4 = [2,3,5,52] /\ h38.lv 5 = [2,3,5] /\ h38.lv 6 = [2,3,5,65] /\ h38.lv 7 = [4] /\ h38.lv 8 = [4] := by decide +kernel
@[go_sem] def h38_q := hplain h38 rfl rfl rfl
@[go_sem] theorem h38_t : h38.tk = [] /\ h38.mt = [] /\ h38.pc = [] := ⟨rfl, rfl, rfl⟩
theorem h38_k : FK Tryz.prog 38 Tryz.f38 h38 := ⟨by kernel_rfl, by kernel_rfl, Tryz.func38, by kernel_rfl⟩
def h291 : Hint := hm [2,10,4098,4,18,536870914,4,34,17179869218,34,98,17592186044450,4,130,386,0x200000000000182,0x600000000000182,4,0x200200000000000182,4,0x20000200000000000182,4,0x2000000000200000000000182,4,0x200000000000000200000000000182,4,0x8000000000000000000000000000002,4,4] [] [] [11,15,42,47]
@[go_sem] theorem h291_l : h291.lv 0 = [1] /\ h291.lv 1 = [1,3] /\ h291.lv 2 = [1,12] /\ h291.lv 3 = [2] /\ h291.lv 4 = [1,4] /\ h291.lv 5 = [1,29] /\ h291.lv 6 = [2] /\ h291.lv 7 = [1,5] /\ h291.lv 8 = [1,5,34] /\ h291.lv 9 = [1,5] /\ h291.lv 10 = [1,5,6] /\ h291.lv 11 = [1,5,44] /\ h291.lv 12 = [2] /\ h291.lv 13 = [1,7] /\ h291.lv 14 = [1,7,8] /\ h291.lv 15 = [1,7,8,57] /\ h291.lv 16 = [1,7,8,57,58] /\ h291.lv 17 = [2] /\ h291.lv 18 = [1,7,8,57,69] /\ h291.lv 19 = [2] /\ h291.lv 20 = [1,7,8,57,77] /\ h291.lv 21 = [2] /\ h291.lv 22 = [1,7,8,57,97] /\ h291.lv 23 = [2] /\ h291.lv 24 = [1,7,8,57,117] /\ h291.lv 25 = [2] /\ h291.lv 26 = [1,123] /\ h291.lv 27 = [2] /\ h291.lv 28 = [2] := by decide +kernel
@[go_sem] def h291_q := hplain h291 rfl rfl rfl
@[go_sem] theorem h291_t : h291.tk = [] /\ h291.mt = [] /\ h291.pc = [11,15,42,47] := ⟨rfl, rfl, rfl⟩
theorem h291_k : FK Tryz.prog 291 Tryz.f291 h291 := ⟨by kernel_rfl, by kernel_rfl, Tryz.func291, by kernel_rfl⟩
def h254 : Hint := hm [2,8,128,4,4] [] [] [5]
@[go_sem] theorem h254_l : h254.lv 0 = [1] /\ h254.lv 1 = [3] /\ h254.lv 2 = [7] /\ h254.lv 3 = [2] /\ h254.lv 4 = [2] := by decide +kernel
@[go_sem] def h254_q := hplain h254 rfl rfl rfl
@[go_sem] theorem h254_t : h254.tk = [] /\ h254.mt = [] /\ h254.pc = [5] := ⟨rfl, rfl, rfl⟩
theorem h254_k : FK Tryz.prog 254 Tryz.f254 h254 := ⟨by kernel_rfl, by kernel_rfl, Tryz.func254, by kernel_rfl⟩
def h209 : Hint := hm [1,257,4,9,4105,9,25,4194329,4,41,2147483689,4,4] [] [] [20,29]
@[go_sem] theorem h209_l : h209.lv 0 = [0] /\ h209.lv 1 = [0,8] /\ h209.lv 2 = [2] /\ h209.lv 3 = [0,3] /\ h209.lv 4 = [0,3,12] /\ h209.lv 5 = [0,3] /\ h209.lv 6 = [0,3,4] /\ h209.lv 7 = [0,3,4,22] /\ h209.lv 8 = [2] /\ h209.lv 9 = [0,3,5] /\ h209.lv 10 = [0,3,5,31] /\ h209.lv 11 = [2] /\ h209.lv 12 = [2] := by decide +kernel
@[go_sem] def h209_q := hplain h209 rfl rfl rfl
@[go_sem] theorem h209_t : h209.tk = [] /\ h209.mt = [] /\ h209.pc = [20,29] := ⟨rfl, rfl, rfl⟩
theorem h209_k : FK Tryz.prog 209 Tryz.f209 h209 := ⟨by kernel_rfl, by kernel_rfl, Tryz.func209, by kernel_rfl⟩
def h98 : Hint := hm [19,275,48,83,8275,83,4194387,48,48] [23] [] [9]
@[go_sem] theorem h98_l : h98.lv 0 = [0,1,4] /\ h98.lv 1 = [0,1,4,8] /\ h98.lv 2 = [4,5] /\ h98.lv 3 = [0,1,4,6] /\ h98.lv 4 = [0,1,4,6,13] /\ h98.lv 5 = [0,1,4,6] /\ h98.lv 6 = [0,1,4,6,22] /\ h98.lv 7 = [4,5] /\ h98.lv 8 = [4,5] := by decide +kernel
@[go_sem] def h98_q := hplain h98 rfl rfl rfl
@[go_sem] theorem h98_t : h98.tk = [23] /\ h98.mt = [] /\ h98.pc = [9] := ⟨rfl, rfl, rfl⟩
theorem h98_k : FK Tryz.prog 98 Tryz.f98 h98 := ⟨by kernel_rfl, by kernel_rfl, Tryz.func98, by kernel_rfl⟩
def h215 : Hint := hm [2,10,26,2074,26,26,4] [14,22] [] [20]
@[go_sem] theorem h215_l : h215.lv 0 = [1] /\ h215.lv 1 = [1,3] /\ h215.lv 2 = [1,3,4] /\ h215.lv 3 = [1,3,4,11] /\ h215.lv 4 = [1,3,4] /\ h215.lv 5 = [1,3,4] /\ h215.lv 6 = [2] := by decide +kernel
@[go_sem] def h215_q := hplain h215 rfl rfl rfl
@[go_sem] theorem h215_t : h215.tk = [14,22] /\ h215.mt = [] /\ h215.pc = [20] := ⟨rfl, rfl, rfl⟩
theorem h215_k : FK Tryz.prog 215 Tryz.f215 h215 := ⟨by kernel_rfl, by kernel_rfl, Tryz.func215, by kernel_rfl⟩
def h235 : Hint := hm [1,9,25,153,25,25,4] [] [] []
@[go_sem] theorem h235_l : h235.lv 0 = [0] /\ h235.lv 1 = [0,3] /\ h235.lv 2 = [0,3,4] /\ h235.lv 3 = [0,3,4,7] /\ h235.lv 4 = [0,3,4] /\ h235.lv 5 = [0,3,4] /\ h235.lv 6 = [2] := by decide +kernel
@[go_sem] def h235_q := hplain h235 rfl rfl rfl
@[go_sem] theorem h235_t : h235.tk = [] /\ h235.mt = [] /\ h235.pc = [] := ⟨rfl, rfl, rfl⟩
theorem h235_k : FK Tryz.prog 235 Tryz.f235 h235 := ⟨by kernel_rfl, by kernel_rfl, Tryz.func235, by kernel_rfl⟩
def h255 : Hint := hm [2,4] [] [] [5]
@[go_sem] theorem h255_l : h255.lv 0 = [1] /\ h255.lv 1 = [2] := by decide +kernel
@[go_sem] def h255_q := hplain h255 rfl rfl rfl
@[go_sem] theorem h255_t : h255.tk = [] /\ h255.mt = [] /\ h255.pc = [5] := ⟨rfl, rfl, rfl⟩
theorem h255_k : FK Tryz.prog 255 Tryz.f255 h255 := ⟨by kernel_rfl, by kernel_rfl, Tryz.func255, by kernel_rfl⟩
def h216 : Hint := hm [9,1048585,16,104,536870952,16,168,17179869352,168,4503599627370496,16,16] [22] [] [25,39]
@[go_sem] theorem h216_l : h216.lv 0 = [0,3] /\ h216.lv 1 = [0,3,20] /\ h216.lv 2 = [4] /\ h216.lv 3 = [3,5,6] /\ h216.lv 4 = [3,5,29] /\ h216.lv 5 = [4] /\ h216.lv 6 = [3,5,7] /\ h216.lv 7 = [3,5,7,34] /\ h216.lv 8 = [3,5,7] /\ h216.lv 9 = [52] /\ h216.lv 10 = [4] /\ h216.lv 11 = [4] := by decide +kernel
@[go_sem] def h216_q := hplain h216 rfl rfl rfl
@[go_sem] theorem h216_t : h216.tk = [22] /\ h216.mt = [] /\ h216.pc = [25,39] := ⟨rfl, rfl, rfl⟩
theorem h216_k : FK Tryz.prog 216 Tryz.f216 h216 := ⟨by kernel_rfl, by kernel_rfl, Tryz.func216, by kernel_rfl⟩
def h150 : Hint := hm [9,33,97,8289,97,225,8388833,16,16] [] [] [9,21]
@[go_sem] theorem h150_l : h150.lv 0 = [0,3] /\ h150.lv 1 = [0,5] /\ h150.lv 2 = [0,5,6] /\ h150.lv 3 = [0,5,6,13] /\ h150.lv 4 = [0,5,6] /\ h150.lv 5 = [0,5,6,7] /\ h150.lv 6 = [0,5,6,7,23] /\ h150.lv 7 = [4] /\ h150.lv 8 = [4] := by decide +kernel
@[go_sem] def h150_q := hplain h150 rfl rfl rfl
@[go_sem] theorem h150_t : h150.tk = [] /\ h150.mt = [] /\ h150.pc = [9,21] := ⟨rfl, rfl, rfl⟩
theorem h150_k : FK Tryz.prog 150 Tryz.f150 h150 := ⟨by kernel_rfl, by kernel_rfl, Tryz.func150, by kernel_rfl⟩
def h213 : Hint := hm [2,10,26,2074,26,26,4] [14,22] [] [20]
@[go_sem] theorem h213_l : h213.lv 0 = [1] /\ h213.lv 1 = [1,3] /\ h213.lv 2 = [1,3,4] /\ h213.lv 3 = [1,3,4,11] /\ h213.lv 4 = [1,3,4] /\ h213.lv 5 = [1,3,4] /\ h213.lv 6 = [2] := by decide +kernel
@[go_sem] def h213_q := hplain h213 rfl rfl rfl
@[go_sem] theorem h213_t : h213.tk = [14,22] /\ h213.mt = [] /\ h213.pc = [20] := ⟨rfl, rfl, rfl⟩
theorem h213_k : FK Tryz.prog 213 Tryz.f213 h213 := ⟨by kernel_rfl, by kernel_rfl, Tryz.func213, by kernel_rfl⟩
def h210 : Hint := hx [9,41,8233,16,97,225,1048801,225,268435681,225,2199023255777,993,9007199254741473,225,0x20000000000000e1,225,0x80000000000000e1,16,16] [] [] [] [11,16,35,49,60] [(7, 1)] []
@[go_sem] theorem h210_l : h210.lv 0 = [0,3] /\ h210.lv 1 = [0,3,5] /\ h210.lv 2 = [0,3,5,13] /\ h210.lv 3 = [4] /\ h210.lv 4 = [0,5,6] /\ h210.lv 5 = [0,5,6,7] /\ h210.lv 6 = [0,5,6,7,20] /\ h210.lv 7 = [0,5,6,7] /\ h210.lv 8 = [0,5,6,7,28] /\ h210.lv 9 = [0,5,6,7] /\ h210.lv 10 = [0,5,6,7,41] /\ h210.lv 11 = [0,5,6,7,8,9] /\ h210.lv 12 = [0,5,6,7,8,53] /\ h210.lv 13 = [0,5,6,7] /\ h210.lv 14 = [0,5,6,7,61] /\ h210.lv 15 = [0,5,6,7] /\ h210.lv 16 = [0,5,6,7,63] /\ h210.lv 17 = [4] /\ h210.lv 18 = [4] := by decide +kernel
@[go_sem] theorem h210_g : h210.ct 0 = none /\ h210.ct 1 = none /\ h210.ct 2 = none /\ h210.ct 3 = none /\ h210.ct 4 = none /\ h210.ct 5 = none /\ h210.ct 6 = none /\ h210.ct 7 = some 1 /\ h210.ct 8 = none /\ h210.ct 9 = none /\ h210.ct 10 = none /\ h210.ct 11 = none /\ h210.ct 12 = none /\ h210.ct 13 = none /\ h210.ct 14 = none /\ h210.ct 15 = none /\ h210.ct 16 = none /\ h210.ct 17 = none /\ h210.ct 18 = none := by decide +kernel
@[go_sem] theorem h210_z (k : Nat) : h210.at k = [] := rfl
@[go_sem] theorem h210_y (k : Nat) : h210.dn k = false := Eq.trans rfl rfl
@[go_sem] theorem h210_t : h210.tk = [] /\ h210.mt = [] /\ h210.pc = [11,16,35,49,60] := ⟨rfl, rfl, rfl⟩
theorem h210_k : FK Tryz.prog 210 Tryz.f210 h210 := ⟨by kernel_rfl, by kernel_rfl, Tryz.func210, by kernel_rfl⟩
def h211 : Hint := hx [9,41,4194345,16,73,1073741897,73,201,549755814089,201,713,4503599627370697,16,1033,0x200000000000409,1033,3081,0x4000000000000c09,3081,0x8000000000000000c09,16,4104,0x100000000000000000000000,16,16] [31,77] [] [] [15,48,80,90] [(9, 1)] []
@[go_sem] theorem h211_l : h211.lv 0 = [0,3] /\ h211.lv 1 = [0,3,5] /\ h211.lv 2 = [0,3,5,22] /\ h211.lv 3 = [4] /\ h211.lv 4 = [0,3,6] /\ h211.lv 5 = [0,3,6,30] /\ h211.lv 6 = [0,3,6] /\ h211.lv 7 = [0,3,6,7] /\ h211.lv 8 = [0,3,6,7,39] /\ h211.lv 9 = [0,3,6,7] /\ h211.lv 10 = [0,3,6,7,9] /\ h211.lv 11 = [0,3,6,7,52] /\ h211.lv 12 = [4] /\ h211.lv 13 = [0,3,10] /\ h211.lv 14 = [0,3,10,57] /\ h211.lv 15 = [0,3,10] /\ h211.lv 16 = [0,3,10,11] /\ h211.lv 17 = [0,3,10,11,62] /\ h211.lv 18 = [0,3,10,11] /\ h211.lv 19 = [0,3,10,11,75] /\ h211.lv 20 = [4] /\ h211.lv 21 = [3,12] /\ h211.lv 22 = [92] /\ h211.lv 23 = [4] /\ h211.lv 24 = [4] := by decide +kernel
@[go_sem] theorem h211_g : h211.ct 0 = none /\ h211.ct 1 = none /\ h211.ct 2 = none /\ h211.ct 3 = none /\ h211.ct 4 = none /\ h211.ct 5 = none /\ h211.ct 6 = none /\ h211.ct 7 = none /\ h211.ct 8 = none /\ h211.ct 9 = some 1 /\ h211.ct 10 = none /\ h211.ct 11 = none /\ h211.ct 12 = none /\ h211.ct 13 = none /\ h211.ct 14 = none /\ h211.ct 15 = none /\ h211.ct 16 = none /\ h211.ct 17 = none /\ h211.ct 18 = none /\ h211.ct 19 = none /\ h211.ct 20 = none /\ h211.ct 21 = none /\ h211.ct 22 = none /\ h211.ct 23 = none /\ h211.ct 24 = none := by decide +kernel
@[go_sem] theorem h211_z (k : Nat) : h211.at k = [] := rfl
@[go_sem] theorem h211_y (k : Nat) : h211.dn k = false := Eq.trans rfl rfl
@[go_sem] theorem h211_t : h211.tk = [31,77] /\ h211.mt = [] /\ h211.pc = [15,48,80,90] := ⟨rfl, rfl, rfl⟩
theorem h211_k : FK Tryz.prog 211 Tryz.f211 h211 := ⟨by kernel_rfl, by kernel_rfl, Tryz.func211, by kernel_rfl⟩
def h166 : Hint := hm [3,1027,16,35,16419,35,33554467,16,16] [] [] []
@[go_sem] theorem h166_l : h166.lv 0 = [0,1] /\ h166.lv 1 = [0,1,10] /\ h166.lv 2 = [4] /\ h166.lv 3 = [0,1,5] /\ h166.lv 4 = [0,1,5,14] /\ h166.lv 5 = [0,1,5] /\ h166.lv 6 = [0,1,5,25] /\ h166.lv 7 = [4] /\ h166.lv 8 = [4] := by decide +kernel
@[go_sem] def h166_q := hplain h166 rfl rfl rfl
@[go_sem] theorem h166_t : h166.tk = [] /\ h166.mt = [] /\ h166.pc = [] := ⟨rfl, rfl, rfl⟩
theorem h166_k : FK Tryz.prog 166 Tryz.f166 h166 := ⟨by kernel_rfl, by kernel_rfl, Tryz.func166, by kernel_rfl⟩
def h256 : Hint := hm [2,4] [] [] []
@[go_sem] theorem h256_l : h256.lv 0 = [1] /\ h256.lv 1 = [2] := by decide +kernel
@[go_sem] def h256_q := hplain h256 rfl rfl rfl
@[go_sem] theorem h256_t : h256.tk = [] /\ h256.mt = [] /\ h256.pc = [] := ⟨rfl, rfl, rfl⟩
theorem h256_k : FK Tryz.prog 256 Tryz.f256 h256 := ⟨by kernel_rfl, by kernel_rfl, Tryz.func256, by kernel_rfl⟩
def h257 : Hint := hx [3,35,99,4195,99,227,99,16] [24,29] [] [] [21] [(4, 0)] []
@[go_sem] theorem h257_l : h257.lv 0 = [0,1] /\ h257.lv 1 = [0,1,5] /\ h257.lv 2 = [0,1,5,6] /\ h257.lv 3 = [0,1,5,6,12] /\ h257.lv 4 = [0,1,5,6] /\ h257.lv 5 = [0,1,5,6,7] /\ h257.lv 6 = [0,1,5,6] /\ h257.lv 7 = [4] := by decide +kernel
@[go_sem] theorem h257_g : h257.ct 0 = none /\ h257.ct 1 = none /\ h257.ct 2 = none /\ h257.ct 3 = none /\ h257.ct 4 = some 0 /\ h257.ct 5 = none /\ h257.ct 6 = none /\ h257.ct 7 = none := by decide +kernel
@[go_sem] theorem h257_z (k : Nat) : h257.at k = [] := rfl
@[go_sem] theorem h257_y (k : Nat) : h257.dn k = false := Eq.trans rfl rfl
@[go_sem] theorem h257_t : h257.tk = [24,29] /\ h257.mt = [] /\ h257.pc = [21] := ⟨rfl, rfl, rfl⟩
theorem h257_k : FK Tryz.prog 257 Tryz.f257 h257 := ⟨by kernel_rfl, by kernel_rfl, Tryz.func257, by kernel_rfl⟩
def h258 : Hint := hm [1,8,24,4,72,72,4,520,512,4,4] [] [] []
@[go_sem] theorem h258_l : h258.lv 0 = [0] /\ h258.lv 1 = [3] /\ h258.lv 2 = [3,4] /\ h258.lv 3 = [2] /\ h258.lv 4 = [3,6] /\ h258.lv 5 = [3,6] /\ h258.lv 6 = [2] /\ h258.lv 7 = [3,9] /\ h258.lv 8 = [9] /\ h258.lv 9 = [2] /\ h258.lv 10 = [2] := by decide +kernel
@[go_sem] def h258_q := hplain h258 rfl rfl rfl
@[go_sem] theorem h258_t : h258.tk = [] /\ h258.mt = [] /\ h258.pc = [] := ⟨rfl, rfl, rfl⟩
theorem h258_k : FK Tryz.prog 258 Tryz.f258 h258 := ⟨by kernel_rfl, by kernel_rfl, Tryz.func258, by kernel_rfl⟩
def h212 : Hint := hm [49,134217777,64,176,64] [] [] [9,12,31,35,36,41,44]
@[go_sem] theorem h212_l : h212.lv 0 = [0,4,5] /\ h212.lv 1 = [0,4,5,27] /\ h212.lv 2 = [6] /\ h212.lv 3 = [4,5,7] /\ h212.lv 4 = [6] := by decide +kernel
@[go_sem] def h212_q := hplain h212 rfl rfl rfl
@[go_sem] theorem h212_t : h212.tk = [] /\ h212.mt = [] /\ h212.pc = [9,12,31,35,36,41,44] := ⟨rfl, rfl, rfl⟩
theorem h212_k : FK Tryz.prog 212 Tryz.f212 h212 := ⟨by kernel_rfl, by kernel_rfl, Tryz.func212, by kernel_rfl⟩
def h146 : Hint := hx [3,35,65571,16,67,2097219,67,195,4294967491,16,323,4398046511427,16,515,0x800000000203,515,1539,4503599627372035,1539,3587,7683,0x4000000000000000000603,16,16] [] [] [] [14,30,40,84] [(18, 0)] []
@[go_sem] theorem h146_l : h146.lv 0 = [0,1] /\ h146.lv 1 = [0,1,5] /\ h146.lv 2 = [0,1,5,16] /\ h146.lv 3 = [4] /\ h146.lv 4 = [0,1,6] /\ h146.lv 5 = [0,1,6,21] /\ h146.lv 6 = [0,1,6] /\ h146.lv 7 = [0,1,6,7] /\ h146.lv 8 = [0,1,6,7,32] /\ h146.lv 9 = [4] /\ h146.lv 10 = [0,1,6,8] /\ h146.lv 11 = [0,1,6,8,42] /\ h146.lv 12 = [4] /\ h146.lv 13 = [0,1,9] /\ h146.lv 14 = [0,1,9,47] /\ h146.lv 15 = [0,1,9] /\ h146.lv 16 = [0,1,9,10] /\ h146.lv 17 = [0,1,9,10,52] /\ h146.lv 18 = [0,1,9,10] /\ h146.lv 19 = [0,1,9,10,11] /\ h146.lv 20 = [0,1,9,10,11,12] /\ h146.lv 21 = [0,1,9,10,86] /\ h146.lv 22 = [4] /\ h146.lv 23 = [4] := by decide +kernel
@[go_sem] theorem h146_g : h146.ct 0 = none /\ h146.ct 1 = none /\ h146.ct 2 = none /\ h146.ct 3 = none /\ h146.ct 4 = none /\ h146.ct 5 = none /\ h146.ct 6 = none /\ h146.ct 7 = none /\ h146.ct 8 = none /\ h146.ct 9 = none /\ h146.ct 10 = none /\ h146.ct 11 = none /\ h146.ct 12 = none /\ h146.ct 13 = none /\ h146.ct 14 = none /\ h146.ct 15 = none /\ h146.ct 16 = none /\ h146.ct 17 = none /\ h146.ct 18 = some 0 /\ h146.ct 19 = none /\ h146.ct 20 = none /\ h146.ct 21 = none /\ h146.ct 22 = none /\ h146.ct 23 = none := by decide +kernel
@[go_sem] theorem h146_z (k : Nat) : h146.at k = [] := rfl
@[go_sem] theorem h146_y (k : Nat) : h146.dn k = false := Eq.trans rfl rfl
@[go_sem] theorem h146_t : h146.tk = [] /\ h146.mt = [] /\ h146.pc = [14,30,40,84] := ⟨rfl, rfl, rfl⟩
theorem h146_k : FK Tryz.prog 146 Tryz.f146 h146 := ⟨by kernel_rfl, by kernel_rfl, Tryz.func146, by kernel_rfl⟩
def h214 : Hint := hm [3,35,99,227,2275,227,8388835,163,227,8589934819,227,4398046511138,32,16] [24,34,43,47] [] []
@[go_sem] theorem h214_l : h214.lv 0 = [0,1] /\ h214.lv 1 = [0,1,5] /\ h214.lv 2 = [0,1,5,6] /\ h214.lv 3 = [0,1,5,6,7] /\ h214.lv 4 = [0,1,5,6,7,11] /\ h214.lv 5 = [0,1,5,6,7] /\ h214.lv 6 = [0,1,5,6,7,23] /\ h214.lv 7 = [0,1,5,7] /\ h214.lv 8 = [0,1,5,6,7] /\ h214.lv 9 = [0,1,5,6,7,33] /\ h214.lv 10 = [0,1,5,6,7] /\ h214.lv 11 = [1,5,42] /\ h214.lv 12 = [5] /\ h214.lv 13 = [4] := by decide +kernel
@[go_sem] def h214_q := hplain h214 rfl rfl rfl
@[go_sem] theorem h214_t : h214.tk = [24,34,43,47] /\ h214.mt = [] /\ h214.pc = [] := ⟨rfl, rfl, rfl⟩
theorem h214_k : FK Tryz.prog 214 Tryz.f214 h214 := ⟨by kernel_rfl, by kernel_rfl, Tryz.func214, by kernel_rfl⟩
def h147 : Hint := hm [2,10,24,56,2104,56,134217784,56,4] [] [] [7,34]
@[go_sem] theorem h147_l : h147.lv 0 = [1] /\ h147.lv 1 = [1,3] /\ h147.lv 2 = [3,4] /\ h147.lv 3 = [3,4,5] /\ h147.lv 4 = [3,4,5,11] /\ h147.lv 5 = [3,4,5] /\ h147.lv 6 = [3,4,5,27] /\ h147.lv 7 = [3,4,5] /\ h147.lv 8 = [2] := by decide +kernel
@[go_sem] def h147_q := hplain h147 rfl rfl rfl
@[go_sem] theorem h147_t : h147.tk = [] /\ h147.mt = [] /\ h147.pc = [7,34] := ⟨rfl, rfl, rfl⟩
theorem h147_k : FK Tryz.prog 147 Tryz.f147 h147 := ⟨by kernel_rfl, by kernel_rfl, Tryz.func147, by kernel_rfl⟩
def h148 : Hint := hm [3,35,547,35,131107,16,16] [] [] []
@[go_sem] theorem h148_l : h148.lv 0 = [0,1] /\ h148.lv 1 = [0,1,5] /\ h148.lv 2 = [0,1,5,9] /\ h148.lv 3 = [0,1,5] /\ h148.lv 4 = [0,1,5,17] /\ h148.lv 5 = [4] /\ h148.lv 6 = [4] := by decide +kernel
@[go_sem] def h148_q := hplain h148 rfl rfl rfl
@[go_sem] theorem h148_t : h148.tk = [] /\ h148.mt = [] /\ h148.pc = [] := ⟨rfl, rfl, rfl⟩
theorem h148_k : FK Tryz.prog 148 Tryz.f148 h148 := ⟨by kernel_rfl, by kernel_rfl, Tryz.func148, by kernel_rfl⟩
def h66 : Hint := hx [12,40,65576,16,72,4194376,72,200,456,34359738824,456,17592186044872,16,584,0x8000000000000048,16,16] [] [] [] [14,31,43,61] [(6, 2)] []
@[go_sem] theorem h66_l : h66.lv 0 = [2,3] /\ h66.lv 1 = [3,5] /\ h66.lv 2 = [3,5,16] /\ h66.lv 3 = [4] /\ h66.lv 4 = [3,6] /\ h66.lv 5 = [3,6,22] /\ h66.lv 6 = [3,6] /\ h66.lv 7 = [3,6,7] /\ h66.lv 8 = [3,6,7,8] /\ h66.lv 9 = [3,6,7,8,35] /\ h66.lv 10 = [3,6,7,8] /\ h66.lv 11 = [3,6,7,8,44] /\ h66.lv 12 = [4] /\ h66.lv 13 = [3,6,9] /\ h66.lv 14 = [3,6,63] /\ h66.lv 15 = [4] /\ h66.lv 16 = [4] := by decide +kernel
@[go_sem] theorem h66_g : h66.ct 0 = none /\ h66.ct 1 = none /\ h66.ct 2 = none /\ h66.ct 3 = none /\ h66.ct 4 = none /\ h66.ct 5 = none /\ h66.ct 6 = some 2 /\ h66.ct 7 = none /\ h66.ct 8 = none /\ h66.ct 9 = none /\ h66.ct 10 = none /\ h66.ct 11 = none /\ h66.ct 12 = none /\ h66.ct 13 = none /\ h66.ct 14 = none /\ h66.ct 15 = none /\ h66.ct 16 = none := by decide +kernel
@[go_sem] theorem h66_z (k : Nat) : h66.at k = [] := rfl
@[go_sem] theorem h66_y (k : Nat) : h66.dn k = false := Eq.trans rfl rfl
@[go_sem] theorem h66_t : h66.tk = [] /\ h66.mt = [] /\ h66.pc = [14,31,43,61] := ⟨rfl, rfl, rfl⟩
theorem h66_k : FK Tryz.prog 66 Tryz.f66 h66 := ⟨by kernel_rfl, by kernel_rfl, Tryz.func66, by kernel_rfl⟩
def h149 : Hint := hm [2,4] [] [] [4,6,7]
@[go_sem] theorem h149_l : h149.lv 0 = [1] /\ h149.lv 1 = [2] := by decide +kernel
@[go_sem] def h149_q := hplain h149 rfl rfl rfl
@[go_sem] theorem h149_t : h149.tk = [] /\ h149.mt = [] /\ h149.pc = [4,6,7] := ⟨rfl, rfl, rfl⟩
theorem h149_k : FK Tryz.prog 149 Tryz.f149 h149 := ⟨by kernel_rfl, by kernel_rfl, Tryz.func149, by kernel_rfl⟩
def h67 : Hint := hm [9,41,553,16,16] [11] [] [7,13]
@[go_sem] theorem h67_l : h67.lv 0 = [0,3] /\ h67.lv 1 = [0,3,5] /\ h67.lv 2 = [0,3,5,9] /\ h67.lv 3 = [4] /\ h67.lv 4 = [4] := by decide +kernel
@[go_sem] def h67_q := hplain h67 rfl rfl rfl
@[go_sem] theorem h67_t : h67.tk = [11] /\ h67.mt = [] /\ h67.pc = [7,13] := ⟨rfl, rfl, rfl⟩
theorem h67_k : FK Tryz.prog 67 Tryz.f67 h67 := ⟨by kernel_rfl, by kernel_rfl, Tryz.func67, by kernel_rfl⟩
def h151 : Hint := hm [2,10,26,58,32826,4,98362,98362,50,557114,50,4227106,4227106,50,33554466,50,34359738386,4,82,274877907026,82,210,281474976710738,4,4] [] [] [10,46]
@[go_sem] theorem h151_l : h151.lv 0 = [1] /\ h151.lv 1 = [1,3] /\ h151.lv 2 = [1,3,4] /\ h151.lv 3 = [1,3,4,5] /\ h151.lv 4 = [1,3,4,5,15] /\ h151.lv 5 = [2] /\ h151.lv 6 = [1,3,4,5,15,16] /\ h151.lv 7 = [1,3,4,5,15,16] /\ h151.lv 8 = [1,4,5] /\ h151.lv 9 = [1,3,4,5,15,19] /\ h151.lv 10 = [1,4,5] /\ h151.lv 11 = [1,5,15,22] /\ h151.lv 12 = [1,5,15,22] /\ h151.lv 13 = [1,4,5] /\ h151.lv 14 = [1,5,25] /\ h151.lv 15 = [1,4,5] /\ h151.lv 16 = [1,4,35] /\ h151.lv 17 = [2] /\ h151.lv 18 = [1,4,6] /\ h151.lv 19 = [1,4,6,38] /\ h151.lv 20 = [1,4,6] /\ h151.lv 21 = [1,4,6,7] /\ h151.lv 22 = [1,4,6,48] /\ h151.lv 23 = [2] /\ h151.lv 24 = [2] := by decide +kernel
@[go_sem] def h151_q := hplain h151 rfl rfl rfl
@[go_sem] theorem h151_t : h151.tk = [] /\ h151.mt = [] /\ h151.pc = [10,46] := ⟨rfl, rfl, rfl⟩
theorem h151_k : FK Tryz.prog 151 Tryz.f151 h151 := ⟨by kernel_rfl, by kernel_rfl, Tryz.func151, by kernel_rfl⟩
def h68 : Hint := hm [2,4] [] [] [4,6,7]
@[go_sem] theorem h68_l : h68.lv 0 = [1] /\ h68.lv 1 = [2] := by decide +kernel
@[go_sem] def h68_q := hplain h68 rfl rfl rfl
@[go_sem] theorem h68_t : h68.tk = [] /\ h68.mt = [] /\ h68.pc = [4,6,7] := ⟨rfl, rfl, rfl⟩
theorem h68_k : FK Tryz.prog 68 Tryz.f68 h68 := ⟨by kernel_rfl, by kernel_rfl, Tryz.func68, by kernel_rfl⟩
def h111 : Hint := hm [2,18,50,114,4210,114,114,178,268435634,178,178,12] [15,31,40,41] [] []
@[go_sem] theorem h111_l : h111.lv 0 = [1] /\ h111.lv 1 = [1,4] /\ h111.lv 2 = [1,4,5] /\ h111.lv 3 = [1,4,5,6] /\ h111.lv 4 = [1,4,5,6,12] /\ h111.lv 5 = [1,4,5,6] /\ h111.lv 6 = [1,4,5,6] /\ h111.lv 7 = [1,4,5,7] /\ h111.lv 8 = [1,4,5,7,28] /\ h111.lv 9 = [1,4,5,7] /\ h111.lv 10 = [1,4,5,7] /\ h111.lv 11 = [2,3] := by decide +kernel
@[go_sem] def h111_q := hplain h111 rfl rfl rfl
@[go_sem] theorem h111_t : h111.tk = [15,31,40,41] /\ h111.mt = [] /\ h111.pc = [] := ⟨rfl, rfl, rfl⟩
theorem h111_k : FK Tryz.prog 111 Tryz.f111 h111 := ⟨by kernel_rfl, by kernel_rfl, Tryz.func111, by kernel_rfl⟩
def h69 : Hint := hm [12,44,4194316,16,140,134217868,140,137438953612,16,16] [17] [] [10,20,36]
@[go_sem] theorem h69_l : h69.lv 0 = [2,3] /\ h69.lv 1 = [2,3,5] /\ h69.lv 2 = [2,3,22] /\ h69.lv 3 = [4] /\ h69.lv 4 = [2,3,7] /\ h69.lv 5 = [2,3,7,27] /\ h69.lv 6 = [2,3,7] /\ h69.lv 7 = [2,3,7,37] /\ h69.lv 8 = [4] /\ h69.lv 9 = [4] := by decide +kernel
@[go_sem] def h69_q := hplain h69 rfl rfl rfl
@[go_sem] theorem h69_t : h69.tk = [17] /\ h69.mt = [] /\ h69.pc = [10,20,36] := ⟨rfl, rfl, rfl⟩
theorem h69_k : FK Tryz.prog 69 Tryz.f69 h69 := ⟨by kernel_rfl, by kernel_rfl, Tryz.func69, by kernel_rfl⟩
def h70 : Hint := hm [6,16] [] [] [7]
@[go_sem] theorem h70_l : h70.lv 0 = [1,2] /\ h70.lv 1 = [4] := by decide +kernel
@[go_sem] def h70_q := hplain h70 rfl rfl rfl
@[go_sem] theorem h70_t : h70.tk = [] /\ h70.mt = [] /\ h70.pc = [7] := ⟨rfl, rfl, rfl⟩
theorem h70_k : FK Tryz.prog 70 Tryz.f70 h70 := ⟨by kernel_rfl, by kernel_rfl, Tryz.func70, by kernel_rfl⟩
def h13 : Hint := hx [12,2147483660,16,44,68719476780,44,2199023255596,16,76,0x80000000004c,76,108,0x100000000000006c,108,0x20000000000000000006c,108,0x80000000000000000006c,16,136,0x20000000000000000000088,136,392,0x1000000000000000000000000000000188,16,904,0x8000000000000000000000000000000388,904,0x2000000000000000000000000000000000000388,16,16] [] [] [] [34,39,58,67,79,100,106] [(20, 2)] []
@[go_sem] theorem h13_l : h13.lv 0 = [2,3] /\ h13.lv 1 = [2,3,31] /\ h13.lv 2 = [4] /\ h13.lv 3 = [2,3,5] /\ h13.lv 4 = [2,3,5,36] /\ h13.lv 5 = [2,3,5] /\ h13.lv 6 = [2,3,5,41] /\ h13.lv 7 = [4] /\ h13.lv 8 = [2,3,6] /\ h13.lv 9 = [2,3,6,47] /\ h13.lv 10 = [2,3,6] /\ h13.lv 11 = [2,3,5,6] /\ h13.lv 12 = [2,3,5,6,60] /\ h13.lv 13 = [2,3,5,6] /\ h13.lv 14 = [2,3,5,6,81] /\ h13.lv 15 = [2,3,5,6] /\ h13.lv 16 = [2,3,5,6,83] /\ h13.lv 17 = [4] /\ h13.lv 18 = [3,7] /\ h13.lv 19 = [3,7,89] /\ h13.lv 20 = [3,7] /\ h13.lv 21 = [3,7,8] /\ h13.lv 22 = [3,7,8,132] /\ h13.lv 23 = [4] /\ h13.lv 24 = [3,7,8,9] /\ h13.lv 25 = [3,7,8,9,135] /\ h13.lv 26 = [3,7,8,9] /\ h13.lv 27 = [3,7,8,9,157] /\ h13.lv 28 = [4] /\ h13.lv 29 = [4] := by decide +kernel
@[go_sem] theorem h13_g : h13.ct 0 = none /\ h13.ct 1 = none /\ h13.ct 2 = none /\ h13.ct 3 = none /\ h13.ct 4 = none /\ h13.ct 5 = none /\ h13.ct 6 = none /\ h13.ct 7 = none /\ h13.ct 8 = none /\ h13.ct 9 = none /\ h13.ct 10 = none /\ h13.ct 11 = none /\ h13.ct 12 = none /\ h13.ct 13 = none /\ h13.ct 14 = none /\ h13.ct 15 = none /\ h13.ct 16 = none /\ h13.ct 17 = none /\ h13.ct 18 = none /\ h13.ct 19 = none /\ h13.ct 20 = some 2 /\ h13.ct 21 = none /\ h13.ct 22 = none /\ h13.ct 23 = none /\ h13.ct 24 = none /\ h13.ct 25 = none /\ h13.ct 26 = none /\ h13.ct 27 = none /\ h13.ct 28 = none /\ h13.ct 29 = none := by decide +kernel
@[go_sem] theorem h13_z (k : Nat) : h13.at k = [] := rfl
@[go_sem] theorem h13_y (k : Nat) : h13.dn k = false := Eq.trans rfl rfl
@[go_sem] theorem h13_t : h13.tk = [] /\ h13.mt = [] /\ h13.pc = [34,39,58,67,79,100,106] := ⟨rfl, rfl, rfl⟩
theorem h13_k : FK Tryz.prog 13 Tryz.f13 h13 := ⟨by kernel_rfl, by kernel_rfl, Tryz.func13, by kernel_rfl⟩
def h48 : Hint := hm [30,256] [] [] []
@[go_sem] theorem h48_l : h48.lv 0 = [1,2,3,4] /\ h48.lv 1 = [8] := by decide +kernel
@[go_sem] def h48_q := hplain h48 rfl rfl rfl
@[go_sem] theorem h48_t : h48.tk = [] /\ h48.mt = [] /\ h48.pc = [] := ⟨rfl, rfl, rfl⟩
theorem h48_k : FK Tryz.prog 48 Tryz.f48 h48 := ⟨by kernel_rfl, by kernel_rfl, Tryz.func48, by kernel_rfl⟩
def h112 : Hint := hm [1,9,521,9,25,262153,4,41,2097193,41,4294967337,4,4] [] [] [16]
@[go_sem] theorem h112_l : h112.lv 0 = [0] /\ h112.lv 1 = [0,3] /\ h112.lv 2 = [0,3,9] /\ h112.lv 3 = [0,3] /\ h112.lv 4 = [0,3,4] /\ h112.lv 5 = [0,3,18] /\ h112.lv 6 = [2] /\ h112.lv 7 = [0,3,5] /\ h112.lv 8 = [0,3,5,21] /\ h112.lv 9 = [0,3,5] /\ h112.lv 10 = [0,3,5,32] /\ h112.lv 11 = [2] /\ h112.lv 12 = [2] := by decide +kernel
@[go_sem] def h112_q := hplain h112 rfl rfl rfl
@[go_sem] theorem h112_t : h112.tk = [] /\ h112.mt = [] /\ h112.pc = [16] := ⟨rfl, rfl, rfl⟩
theorem h112_k : FK Tryz.prog 112 Tryz.f112 h112 := ⟨by kernel_rfl, by kernel_rfl, Tryz.func112, by kernel_rfl⟩
def h113 : Hint := hm [6,16] [] [] []
@[go_sem] theorem h113_l : h113.lv 0 = [1,2] /\ h113.lv 1 = [4] := by decide +kernel
@[go_sem] def h113_q := hplain h113 rfl rfl rfl
@[go_sem] theorem h113_t : h113.tk = [] /\ h113.mt = [] /\ h113.pc = [] := ⟨rfl, rfl, rfl⟩
theorem h113_k : FK Tryz.prog 113 Tryz.f113 h113 := ⟨by kernel_rfl, by kernel_rfl, Tryz.func113, by kernel_rfl⟩
def h49 : Hint := hx [2,134217730,4,26,50,98,4398046511106,4,130,0x800000000082,130,386,0x1000000000000000082,4,514,0x20000000000000000202,514,1538,0x20000000000000000000000000202,4,2050,0x400000000000000000000000000802,2050,0x200000000000000000000000000000802,4,4] [33,35] [] [] [30,34,36,88,94,128] [(10, 1), (16, 1)] []
@[go_sem] theorem h49_l : h49.lv 0 = [1] /\ h49.lv 1 = [1,27] /\ h49.lv 2 = [2] /\ h49.lv 3 = [1,3,4] /\ h49.lv 4 = [1,4,5] /\ h49.lv 5 = [1,5,6] /\ h49.lv 6 = [1,42] /\ h49.lv 7 = [2] /\ h49.lv 8 = [1,7] /\ h49.lv 9 = [1,7,47] /\ h49.lv 10 = [1,7] /\ h49.lv 11 = [1,7,8] /\ h49.lv 12 = [1,7,72] /\ h49.lv 13 = [2] /\ h49.lv 14 = [1,9] /\ h49.lv 15 = [1,9,77] /\ h49.lv 16 = [1,9] /\ h49.lv 17 = [1,9,10] /\ h49.lv 18 = [1,9,113] /\ h49.lv 19 = [2] /\ h49.lv 20 = [1,11] /\ h49.lv 21 = [1,11,118] /\ h49.lv 22 = [1,11] /\ h49.lv 23 = [1,11,129] /\ h49.lv 24 = [2] /\ h49.lv 25 = [2] := by decide +kernel
@[go_sem] theorem h49_g : h49.ct 0 = none /\ h49.ct 1 = none /\ h49.ct 2 = none /\ h49.ct 3 = none /\ h49.ct 4 = none /\ h49.ct 5 = none /\ h49.ct 6 = none /\ h49.ct 7 = none /\ h49.ct 8 = none /\ h49.ct 9 = none /\ h49.ct 10 = some 1 /\ h49.ct 11 = none /\ h49.ct 12 = none /\ h49.ct 13 = none /\ h49.ct 14 = none /\ h49.ct 15 = none /\ h49.ct 16 = some 1 /\ h49.ct 17 = none /\ h49.ct 18 = none /\ h49.ct 19 = none /\ h49.ct 20 = none /\ h49.ct 21 = none /\ h49.ct 22 = none /\ h49.ct 23 = none /\ h49.ct 24 = none /\ h49.ct 25 = none := by decide +kernel
@[go_sem] theorem h49_z (k : Nat) : h49.at k = [] := rfl
@[go_sem] theorem h49_y (k : Nat) : h49.dn k = false := Eq.trans rfl rfl
@[go_sem] theorem h49_t : h49.tk = [33,35] /\ h49.mt = [] /\ h49.pc = [30,34,36,88,94,128] := ⟨rfl, rfl, rfl⟩
theorem h49_k : FK Tryz.prog 49 Tryz.f49 h49 := ⟨by kernel_rfl, by kernel_rfl, Tryz.func49, by kernel_rfl⟩
def h115 : Hint := hm [2,4] [] [] []
@[go_sem] theorem h115_l : h115.lv 0 = [1] /\ h115.lv 1 = [2] := by decide +kernel
@[go_sem] def h115_q := hplain h115 rfl rfl rfl
@[go_sem] theorem h115_t : h115.tk = [] /\ h115.mt = [] /\ h115.pc = [] := ⟨rfl, rfl, rfl⟩
theorem h115_k : FK Tryz.prog 115 Tryz.f115 h115 := ⟨by kernel_rfl, by kernel_rfl, Tryz.func115, by kernel_rfl⟩
def h116 : Hint := hm [12,16] [] [] []
@[go_sem] theorem h116_l : h116.lv 0 = [2,3] /\ h116.lv 1 = [4] := by decide +kernel
@[go_sem] def h116_q := hplain h116 rfl rfl rfl
@[go_sem] theorem h116_t : h116.tk = [] /\ h116.mt = [] /\ h116.pc = [] := ⟨rfl, rfl, rfl⟩
theorem h116_k : FK Tryz.prog 116 Tryz.f116 h116 := ⟨by kernel_rfl, by kernel_rfl, Tryz.func116, by kernel_rfl⟩
def h50 : Hint := hm [1,2049,4,9,32777,9,25,8589934601,4,41,68719476777,41,562949953421353,4,73,72057594037927945,4,137,0x800000000000089,137,393,0x800000000000000089,4,4] [] [] [23,54,70]
@[go_sem] theorem h50_l : h50.lv 0 = [0] /\ h50.lv 1 = [0,11] /\ h50.lv 2 = [2] /\ h50.lv 3 = [0,3] /\ h50.lv 4 = [0,3,15] /\ h50.lv 5 = [0,3] /\ h50.lv 6 = [0,3,4] /\ h50.lv 7 = [0,3,33] /\ h50.lv 8 = [2] /\ h50.lv 9 = [0,3,5] /\ h50.lv 10 = [0,3,5,36] /\ h50.lv 11 = [0,3,5] /\ h50.lv 12 = [0,3,5,49] /\ h50.lv 13 = [2] /\ h50.lv 14 = [0,3,6] /\ h50.lv 15 = [0,3,56] /\ h50.lv 16 = [2] /\ h50.lv 17 = [0,3,7] /\ h50.lv 18 = [0,3,7,59] /\ h50.lv 19 = [0,3,7] /\ h50.lv 20 = [0,3,7,8] /\ h50.lv 21 = [0,3,7,71] /\ h50.lv 22 = [2] /\ h50.lv 23 = [2] := by decide +kernel
@[go_sem] def h50_q := hplain h50 rfl rfl rfl
@[go_sem] theorem h50_t : h50.tk = [] /\ h50.mt = [] /\ h50.pc = [23,54,70] := ⟨rfl, rfl, rfl⟩
theorem h50_k : FK Tryz.prog 50 Tryz.f50 h50 := ⟨by kernel_rfl, by kernel_rfl, Tryz.func50, by kernel_rfl⟩
def h14 : Hint := hm [12,44,108,536870924,16,16] [] [] [8,11,21,27,32]
@[go_sem] theorem h14_l : h14.lv 0 = [2,3] /\ h14.lv 1 = [2,3,5] /\ h14.lv 2 = [2,3,5,6] /\ h14.lv 3 = [2,3,29] /\ h14.lv 4 = [4] /\ h14.lv 5 = [4] := by decide +kernel
@[go_sem] def h14_q := hplain h14 rfl rfl rfl
@[go_sem] theorem h14_t : h14.tk = [] /\ h14.mt = [] /\ h14.pc = [8,11,21,27,32] := ⟨rfl, rfl, rfl⟩
theorem h14_k : FK Tryz.prog 14 Tryz.f14 h14 := ⟨by kernel_rfl, by kernel_rfl, Tryz.func14, by kernel_rfl⟩
def h71 : Hint := hm [2,10,42,10,131082,4,4] [] [] []
@[go_sem] theorem h71_l : h71.lv 0 = [1] /\ h71.lv 1 = [1,3] /\ h71.lv 2 = [1,3,5] /\ h71.lv 3 = [1,3] /\ h71.lv 4 = [1,3,17] /\ h71.lv 5 = [2] /\ h71.lv 6 = [2] := by decide +kernel
@[go_sem] def h71_q := hplain h71 rfl rfl rfl
@[go_sem] theorem h71_t : h71.tk = [] /\ h71.mt = [] /\ h71.pc = [] := ⟨rfl, rfl, rfl⟩
def h15 : Hint := hm [2,4] [] [] [4]
@[go_sem] theorem h15_l : h15.lv 0 = [1] /\ h15.lv 1 = [2] := by decide +kernel
@[go_sem] def h15_q := hplain h15 rfl rfl rfl
@[go_sem] theorem h15_t : h15.tk = [] /\ h15.mt = [] /\ h15.pc = [4] := ⟨rfl, rfl, rfl⟩
def h152 : Hint := hm [449,961,473,8389057,449] [] [] []
@[go_sem] theorem h152_l : h152.lv 0 = [0,6,7,8] /\ h152.lv 1 = [0,6,7,8,9] /\ h152.lv 2 = [0,3,4,6,7,8] /\ h152.lv 3 = [0,6,7,8,23] /\ h152.lv 4 = [0,6,7,8] := by decide +kernel
@[go_sem] def h152_q := hplain h152 rfl rfl rfl
@[go_sem] theorem h152_t : h152.tk = [] /\ h152.mt = [] /\ h152.pc = [] := ⟨rfl, rfl, rfl⟩
theorem h152_k : FK Tryz.prog 152 Tryz.f152 h152 := ⟨by kernel_rfl, by kernel_rfl, Tryz.func152, by kernel_rfl⟩
def h73 : Hint := hm [2,4] [] [] []
@[go_sem] theorem h73_l : h73.lv 0 = [1] /\ h73.lv 1 = [2] := by decide +kernel
@[go_sem] def h73_q := hplain h73 rfl rfl rfl
theorem h73_k : FK Tryz.prog 73 Tryz.f73 h73 := ⟨by kernel_rfl, by kernel_rfl, Tryz.func73, by kernel_rfl⟩
def h22 : Hint := hm [28,280,1080,120,8240,1,16] [] [] []
@[go_sem] theorem h22_l : h22.lv 0 = [2,3,4] /\ h22.lv 1 = [3,4,8] /\ h22.lv 2 = [3,4,5,10] /\ h22.lv 3 = [3,4,5,6] /\ h22.lv 4 = [4,5,13] /\ h22.lv 5 = [0] /\ h22.lv 6 = [4] := by decide +kernel
@[go_sem] def h22_q := hplain h22 rfl rfl rfl
@[go_sem] theorem h22_t : h22.tk = [] /\ h22.mt = [] /\ h22.pc = [] := ⟨rfl, rfl, rfl⟩
theorem h22_k : FK Tryz.prog 22 Tryz.f22 h22 := ⟨by kernel_rfl, by kernel_rfl, Tryz.func22, by kernel_rfl⟩
def h16 : Hint := hm [28,88,8280,48,24,48] [] [] [11]
@[go_sem] theorem h16_l : h16.lv 0 = [2,3,4] /\ h16.lv 1 = [3,4,6] /\ h16.lv 2 = [3,4,6,13] /\ h16.lv 3 = [4,5] /\ h16.lv 4 = [3,4] /\ h16.lv 5 = [4,5] := by decide +kernel
@[go_sem] def h16_q := hplain h16 rfl rfl rfl
@[go_sem] theorem h16_t : h16.tk = [] /\ h16.mt = [] /\ h16.pc = [11] := ⟨rfl, rfl, rfl⟩
theorem h16_k : FK Tryz.prog 16 Tryz.f16 h16 := ⟨by kernel_rfl, by kernel_rfl, Tryz.func16, by kernel_rfl⟩
def h23 : Hint := hm [6,38,1062,38,16777254,16,16] [] [] []
@[go_sem] theorem h23_l : h23.lv 0 = [1,2] /\ h23.lv 1 = [1,2,5] /\ h23.lv 2 = [1,2,5,10] /\ h23.lv 3 = [1,2,5] /\ h23.lv 4 = [1,2,5,24] /\ h23.lv 5 = [4] /\ h23.lv 6 = [4] := by decide +kernel
@[go_sem] def h23_q := hplain h23 rfl rfl rfl
@[go_sem] theorem h23_t : h23.tk = [] /\ h23.mt = [] /\ h23.pc = [] := ⟨rfl, rfl, rfl⟩
def h17 : Hint := hm [28,88,8280,48,24,24,48] [] [] [11]
@[go_sem] theorem h17_l : h17.lv 0 = [2,3,4] /\ h17.lv 1 = [3,4,6] /\ h17.lv 2 = [3,4,6,13] /\ h17.lv 3 = [4,5] /\ h17.lv 4 = [3,4] /\ h17.lv 5 = [3,4] /\ h17.lv 6 = [4,5] := by decide +kernel
@[go_sem] def h17_q := hplain h17 rfl rfl rfl
@[go_sem] theorem h17_t : h17.tk = [] /\ h17.mt = [] /\ h17.pc = [11] := ⟨rfl, rfl, rfl⟩
def h62 : Hint := hm [7,64] [] [] []
@[go_sem] theorem h62_l : h62.lv 0 = [0,1,2] /\ h62.lv 1 = [6] := by decide +kernel
@[go_sem] def h62_q := hplain h62 rfl rfl rfl
@[go_sem] theorem h62_t : h62.tk = [] /\ h62.mt = [] /\ h62.pc = [] := ⟨rfl, rfl, rfl⟩
theorem h62_k : FK Tryz.prog 62 Tryz.f62 h62 := ⟨by kernel_rfl, by kernel_rfl, Tryz.func62, by kernel_rfl⟩
def h20 : Hint := hm [6,2054,16,16] [] [] [10]
@[go_sem] theorem h20_l : h20.lv 0 = [1,2] /\ h20.lv 1 = [1,2,11] /\ h20.lv 2 = [4] /\ h20.lv 3 = [4] := by decide +kernel
@[go_sem] def h20_q := hplain h20 rfl rfl rfl
@[go_sem] theorem h20_t : h20.tk = [] /\ h20.mt = [] /\ h20.pc = [10] := ⟨rfl, rfl, rfl⟩
theorem h20_k : FK Tryz.prog 20 Tryz.f20 h20 := ⟨by kernel_rfl, by kernel_rfl, Tryz.func20, by kernel_rfl⟩
def h18 : Hint := hm [28,88,4184,48,24,48] [] [] [10]
@[go_sem] theorem h18_l : h18.lv 0 = [2,3,4] /\ h18.lv 1 = [3,4,6] /\ h18.lv 2 = [3,4,6,12] /\ h18.lv 3 = [4,5] /\ h18.lv 4 = [3,4] /\ h18.lv 5 = [4,5] := by decide +kernel
@[go_sem] def h18_q := hplain h18 rfl rfl rfl
@[go_sem] theorem h18_t : h18.tk = [] /\ h18.mt = [] /\ h18.pc = [10] := ⟨rfl, rfl, rfl⟩
theorem h18_k : FK Tryz.prog 18 Tryz.f18 h18 := ⟨by kernel_rfl, by kernel_rfl, Tryz.func18, by kernel_rfl⟩
def h21 : Hint := hm [6,262,16,16] [] [] [7]
@[go_sem] theorem h21_l : h21.lv 0 = [1,2] /\ h21.lv 1 = [1,2,8] /\ h21.lv 2 = [4] /\ h21.lv 3 = [4] := by decide +kernel
@[go_sem] def h21_q := hplain h21 rfl rfl rfl
@[go_sem] theorem h21_t : h21.tk = [] /\ h21.mt = [] /\ h21.pc = [7] := ⟨rfl, rfl, rfl⟩
def h19 : Hint := hm [28,88,4184,48,24,48] [] [] [10]
@[go_sem] theorem h19_l : h19.lv 0 = [2,3,4] /\ h19.lv 1 = [3,4,6] /\ h19.lv 2 = [3,4,6,12] /\ h19.lv 3 = [4,5] /\ h19.lv 4 = [3,4] /\ h19.lv 5 = [4,5] := by decide +kernel
@[go_sem] def h19_q := hplain h19 rfl rfl rfl
@[go_sem] theorem h19_t : h19.tk = [] /\ h19.mt = [] /\ h19.pc = [10] := ⟨rfl, rfl, rfl⟩
def h4 : Hint := hm [180,692,134218404,256,3748,16036,65188,261668,256] [] [] [18,21,25,32,38,44,50,77,80,86,89]
@[go_sem] theorem h4_l : h4.lv 0 = [2,4,5,7] /\ h4.lv 1 = [2,4,5,7,9] /\ h4.lv 2 = [2,5,7,9,27] /\ h4.lv 3 = [8] /\ h4.lv 4 = [2,5,7,9,10,11] /\ h4.lv 5 = [2,5,7,9,10,11,12,13] /\ h4.lv 6 = [2,5,7,9,10,11,12,13,14,15] /\ h4.lv 7 = [2,5,9,10,11,12,13,14,15,16,17] /\ h4.lv 8 = [8] := by decide +kernel
@[go_sem] def h4_q := hplain h4 rfl rfl rfl
@[go_sem] theorem h4_t : h4.tk = [] /\ h4.mt = [] /\ h4.pc = [18,21,25,32,38,44,50,77,80,86,89] := ⟨rfl, rfl, rfl⟩
def h5 : Hint := hm [180,692,17179869860,256,3748,16036,65188,261796,0x8000000000000000000000224,256,262692,786980,256] [] [] [20,23,27,39,45,51,57,102,105,113,124]
end Go.AI
set_option linter.defProp false
namespace Go.AI
open Go.Proofs
def h9 : Hint := hm [1,6,14,14,30,30,38,102,486,2022,6118,30690,0x2000000000000000000037e2,1,104416,1] [97,134] [] [18,26,32,37,43,47,51,56,61,67,73,79,84,102,137]
@[go_sem] theorem h9_l : h9.lv 0 = [0] /\ h9.lv 1 = [1,2] /\ h9.lv 2 = [1,2,3] /\ h9.lv 3 = [1,2,3] /\ h9.lv 4 = [1,2,3,4] /\ h9.lv 5 = [1,2,3,4] /\ h9.lv 6 = [1,2,5] /\ h9.lv 7 = [1,2,5,6] /\ h9.lv 8 = [1,2,5,6,7,8] /\ h9.lv 9 = [1,2,5,6,7,8,9,10] /\ h9.lv 10 = [1,2,5,6,7,8,9,10,12] /\ h9.lv 11 = [1,5,6,7,8,9,10,12,13,14] /\ h9.lv 12 = [1,5,6,7,8,9,10,12,13,93] /\ h9.lv 13 = [0] /\ h9.lv 14 = [5,6,7,8,9,10,12,15,16] /\ h9.lv 15 = [0] := by decide +kernel
@[go_sem] def h9_q := hplain h9 rfl rfl rfl
@[go_sem] theorem h9_t : h9.tk = [97,134] /\ h9.mt = [] /\ h9.pc = [18,26,32,37,43,47,51,56,61,67,73,79,84,102,137] := ⟨rfl, rfl, rfl⟩
theorem h9_k : FK Tryz.prog 9 Tryz.f9 h9 := ⟨by kernel_rfl, by kernel_rfl, Tryz.func9, by kernel_rfl⟩
end Go.AI
namespace Go.AI
open Go.Proofs
@[go_sem] theorem cellsOf95 : Tryz.prog.cellsOf 95 = 1 := by kernel_rfl
@[go_sem] theorem ldk95 : ldk Tryz.prog 95 = some none := by kernel_rfl
@[go_sem] theorem zeroAV95 : zeroAV Tryz.prog 95 = some (.nilf) := by kernel_rfl
@[go_sem] theorem cellsOf96 : Tryz.prog.cellsOf 96 = 1 := by kernel_rfl
@[go_sem] theorem ldk96 : ldk Tryz.prog 96 = some none := by kernel_rfl
@[go_sem] theorem zeroAV96 : zeroAV Tryz.prog 96 = some (.nilf) := by kernel_rfl
@[go_sem] theorem ldk177 : ldk Tryz.prog 177 = some none := by kernel_rfl
@[go_sem] theorem cellsOf197 : Tryz.prog.cellsOf 197 = 2 := by kernel_rfl
@[go_sem] theorem ldk197 : ldk Tryz.prog 197 = some (some 2) := by kernel_rfl
@[go_sem] theorem bkind197 : bkind Tryz.prog 197 = .struct [(0, 1), (1, 1)] := by kernel_rfl
@[go_sem] theorem fplace197_0 : fplace Tryz.prog 197 0 = some (3, 0) := by kernel_rfl
@[go_sem] theorem fplace197_1 : fplace Tryz.prog 197 1 = some (3, 1) := by kernel_rfl
@[go_sem] theorem zeroAV197 : zeroAV Tryz.prog 197 = some (.agg [.int .i64 0, .int .i64 0]) := by kernel_rfl
@[go_sem] theorem und268 : Tryz.prog.underlying 268 = some (.int .u64) := by kernel_rfl
@[go_sem] theorem und304 : Tryz.prog.underlying 304 = some (.array 49 9) := by kernel_rfl
end Go.AI
set_option linter.defProp false
namespace Go.AI
open Go.Proofs
def h24 : Hint := hm [12,44,17592186044428,16,76,562949953421388,76,204,0x1000000000000004c,16,16] [] [] [12,62]
@[go_sem] theorem h24_l : h24.lv 0 = [2,3] /\ h24.lv 1 = [2,3,5] /\ h24.lv 2 = [2,3,44] /\ h24.lv 3 = [4] /\ h24.lv 4 = [2,3,6] /\ h24.lv 5 = [2,3,6,49] /\ h24.lv 6 = [2,3,6] /\ h24.lv 7 = [2,3,6,7] /\ h24.lv 8 = [2,3,6,64] /\ h24.lv 9 = [4] /\ h24.lv 10 = [4] := by decide +kernel
@[go_sem] def h24_q := hplain h24 rfl rfl rfl
@[go_sem] theorem h24_t : h24.tk = [] /\ h24.mt = [] /\ h24.pc = [12,62] := ⟨rfl, rfl, rfl⟩
theorem h24_k : FK Tryz.prog 24 Tryz.f24 h24 := ⟨by kernel_rfl, by kernel_rfl, Tryz.func24, by kernel_rfl⟩
def h81 : Hint := hm [5,4] [] [] []
@[go_sem] theorem h81_l : h81.lv 0 = [0,2] /\ h81.lv 1 = [2] := by decide +kernel
@[go_sem] def h81_q := hplain h81 rfl rfl rfl
@[go_sem] theorem h81_t : h81.tk = [] /\ h81.mt = [] /\ h81.pc = [] := ⟨rfl, rfl, rfl⟩
def h82 : Hint := hm [5,133,4,13,29,32797,29,29,4] [] [] []
@[go_sem] theorem h82_l : h82.lv 0 = [0,2] /\ h82.lv 1 = [0,2,7] /\ h82.lv 2 = [2] /\ h82.lv 3 = [0,2,3] /\ h82.lv 4 = [0,2,3,4] /\ h82.lv 5 = [0,2,3,4,15] /\ h82.lv 6 = [0,2,3,4] /\ h82.lv 7 = [0,2,3,4] /\ h82.lv 8 = [2] := by decide +kernel
@[go_sem] def h82_q := hplain h82 rfl rfl rfl
@[go_sem] theorem h82_t : h82.tk = [] /\ h82.mt = [] /\ h82.pc = [] := ⟨rfl, rfl, rfl⟩
def h31 : Hint := hm [6,14,30,542,30,30,4] [12,22] [] [19,23]
@[go_sem] theorem h31_l : h31.lv 0 = [1,2] /\ h31.lv 1 = [1,2,3] /\ h31.lv 2 = [1,2,3,4] /\ h31.lv 3 = [1,2,3,4,9] /\ h31.lv 4 = [1,2,3,4] /\ h31.lv 5 = [1,2,3,4] /\ h31.lv 6 = [2] := by decide +kernel
@[go_sem] def h31_q := hplain h31 rfl rfl rfl
@[go_sem] theorem h31_t : h31.tk = [12,22] /\ h31.mt = [] /\ h31.pc = [19,23] := ⟨rfl, rfl, rfl⟩
def h47 : Hint := hm [19,16] [] [] []
@[go_sem] theorem h47_l : h47.lv 0 = [0,1,4] /\ h47.lv 1 = [4] := by decide +kernel
@[go_sem] def h47_q := hplain h47 rfl rfl rfl
@[go_sem] theorem h47_t : h47.tk = [] /\ h47.mt = [] /\ h47.pc = [] := ⟨rfl, rfl, rfl⟩
def h77 : Hint := hm [28,16] [] [] []
@[go_sem] theorem h77_l : h77.lv 0 = [2,3,4] /\ h77.lv 1 = [4] := by decide +kernel
@[go_sem] def h77_q := hplain h77 rfl rfl rfl
@[go_sem] theorem h77_t : h77.tk = [] /\ h77.mt = [] /\ h77.pc = [] := ⟨rfl, rfl, rfl⟩
def h78 : Hint := hm [6,4] [] [] []
@[go_sem] theorem h78_l : h78.lv 0 = [1,2] /\ h78.lv 1 = [2] := by decide +kernel
@[go_sem] def h78_q := hplain h78 rfl rfl rfl
@[go_sem] theorem h78_t : h78.tk = [] /\ h78.mt = [] /\ h78.pc = [] := ⟨rfl, rfl, rfl⟩
def h86 : Hint := hm [28,16] [] [] []
@[go_sem] theorem h86_l : h86.lv 0 = [2,3,4] /\ h86.lv 1 = [4] := by decide +kernel
@[go_sem] def h86_q := hplain h86 rfl rfl rfl
@[go_sem] theorem h86_t : h86.tk = [] /\ h86.mt = [] /\ h86.pc = [] := ⟨rfl, rfl, rfl⟩
def h35 : Hint := hx [6,14,30,4126,30,62,4294967358,30,30,4] [] [] [] [7,21,22,29,30,36] [(4, 3)] []
@[go_sem] theorem h35_l : h35.lv 0 = [1,2] /\ h35.lv 1 = [1,2,3] /\ h35.lv 2 = [1,2,3,4] /\ h35.lv 3 = [1,2,3,4,12] /\ h35.lv 4 = [1,2,3,4] /\ h35.lv 5 = [1,2,3,4,5] /\ h35.lv 6 = [1,2,3,4,5,32] /\ h35.lv 7 = [1,2,3,4] /\ h35.lv 8 = [1,2,3,4] /\ h35.lv 9 = [2] := by decide +kernel
@[go_sem] theorem h35_g : h35.ct 0 = none /\ h35.ct 1 = none /\ h35.ct 2 = none /\ h35.ct 3 = none /\ h35.ct 4 = some 3 /\ h35.ct 5 = none /\ h35.ct 6 = none /\ h35.ct 7 = none /\ h35.ct 8 = none /\ h35.ct 9 = none := by decide +kernel
@[go_sem] theorem h35_z (k : Nat) : h35.at k = [] := rfl
@[go_sem] theorem h35_y (k : Nat) : h35.dn k = false := Eq.trans rfl rfl
@[go_sem] theorem h35_t : h35.tk = [] /\ h35.mt = [] /\ h35.pc = [7,21,22,29,30,36] := ⟨rfl, rfl, rfl⟩
def h76 : Hint := hm [6,4] [] [] []
@[go_sem] theorem h76_l : h76.lv 0 = [1,2] /\ h76.lv 1 = [2] := by decide +kernel
@[go_sem] def h76_q := hplain h76 rfl rfl rfl
@[go_sem] theorem h76_t : h76.tk = [] /\ h76.mt = [] /\ h76.pc = [] := ⟨rfl, rfl, rfl⟩
def h26 : Hint := hm [28,1052,16,60,120,16] [] [] [13,15,16,18,21,24,26]
@[go_sem] theorem h26_l : h26.lv 0 = [2,3,4] /\ h26.lv 1 = [2,3,4,10] /\ h26.lv 2 = [4] /\ h26.lv 3 = [2,3,4,5] /\ h26.lv 4 = [3,4,5,6] /\ h26.lv 5 = [4] := by decide +kernel
@[go_sem] def h26_q := hplain h26 rfl rfl rfl
@[go_sem] theorem h26_t : h26.tk = [] /\ h26.mt = [] /\ h26.pc = [13,15,16,18,21,24,26] := ⟨rfl, rfl, rfl⟩
def h28 : Hint := hx [2,18,50,2098,50,114,16777330,12,50,12] [25,36] [] [] [21,23] [(4, 1)] []
@[go_sem] theorem h28_l : h28.lv 0 = [1] /\ h28.lv 1 = [1,4] /\ h28.lv 2 = [1,4,5] /\ h28.lv 3 = [1,4,5,11] /\ h28.lv 4 = [1,4,5] /\ h28.lv 5 = [1,4,5,6] /\ h28.lv 6 = [1,4,5,6,24] /\ h28.lv 7 = [2,3] /\ h28.lv 8 = [1,4,5] /\ h28.lv 9 = [2,3] := by decide +kernel
@[go_sem] theorem h28_g : h28.ct 0 = none /\ h28.ct 1 = none /\ h28.ct 2 = none /\ h28.ct 3 = none /\ h28.ct 4 = some 1 /\ h28.ct 5 = none /\ h28.ct 6 = none /\ h28.ct 7 = none /\ h28.ct 8 = none /\ h28.ct 9 = none := by decide +kernel
@[go_sem] theorem h28_z (k : Nat) : h28.at k = [] := rfl
@[go_sem] theorem h28_y (k : Nat) : h28.dn k = false := Eq.trans rfl rfl
@[go_sem] theorem h28_t : h28.tk = [25,36] /\ h28.mt = [] /\ h28.pc = [21,23] := ⟨rfl, rfl, rfl⟩
def h33 : Hint := hm [6,14,30,542,30,262174,30,4] [19,24] [] [21,25]
@[go_sem] theorem h33_l : h33.lv 0 = [1,2] /\ h33.lv 1 = [1,2,3] /\ h33.lv 2 = [1,2,3,4] /\ h33.lv 3 = [1,2,3,4,9] /\ h33.lv 4 = [1,2,3,4] /\ h33.lv 5 = [1,2,3,4,18] /\ h33.lv 6 = [1,2,3,4] /\ h33.lv 7 = [2] := by decide +kernel
@[go_sem] def h33_q := hplain h33 rfl rfl rfl
@[go_sem] theorem h33_t : h33.tk = [19,24] /\ h33.mt = [] /\ h33.pc = [21,25] := ⟨rfl, rfl, rfl⟩
def h36 : Hint := hm [3,4099,16,35,65571,35,99,227,70368744177699,16,16] [] [] [29,40]
@[go_sem] theorem h36_l : h36.lv 0 = [0,1] /\ h36.lv 1 = [0,1,12] /\ h36.lv 2 = [4] /\ h36.lv 3 = [0,1,5] /\ h36.lv 4 = [0,1,5,16] /\ h36.lv 5 = [0,1,5] /\ h36.lv 6 = [0,1,5,6] /\ h36.lv 7 = [0,1,5,6,7] /\ h36.lv 8 = [0,1,5,46] /\ h36.lv 9 = [4] /\ h36.lv 10 = [4] := by decide +kernel
@[go_sem] def h36_q := hplain h36 rfl rfl rfl
@[go_sem] theorem h36_t : h36.tk = [] /\ h36.mt = [] /\ h36.pc = [29,40] := ⟨rfl, rfl, rfl⟩
theorem h36_k : FK Tryz.prog 36 Tryz.f36 h36 := ⟨by kernel_rfl, by kernel_rfl, Tryz.func36, by kernel_rfl⟩
def h83 : Hint := hm [5,4] [] [] []
@[go_sem] theorem h83_l : h83.lv 0 = [0,2] /\ h83.lv 1 = [2] := by decide +kernel
@[go_sem] def h83_q := hplain h83 rfl rfl rfl
@[go_sem] theorem h83_t : h83.tk = [] /\ h83.mt = [] /\ h83.pc = [] := ⟨rfl, rfl, rfl⟩
theorem h83_k : FK Tryz.prog 83 Tryz.f83 h83 := ⟨by kernel_rfl, by kernel_rfl, Tryz.func83, by kernel_rfl⟩
def h156 : Hint := hx [85,4181,64,197,1835204,3932356,1835716,1835204,1835204,64] [17] [] [] [] [(8, 3)] []
@[go_sem] theorem h156_l : h156.lv 0 = [0,2,4,6] /\ h156.lv 1 = [0,2,4,6,12] /\ h156.lv 2 = [6] /\ h156.lv 3 = [0,2,6,7] /\ h156.lv 4 = [2,6,7,18,19,20] /\ h156.lv 5 = [2,6,7,18,19,20,21] /\ h156.lv 6 = [2,6,7,9,18,19,20] /\ h156.lv 7 = [2,6,7,18,19,20] /\ h156.lv 8 = [2,6,7,18,19,20] /\ h156.lv 9 = [6] := by decide +kernel
@[go_sem] theorem h156_g : h156.ct 0 = none /\ h156.ct 1 = none /\ h156.ct 2 = none /\ h156.ct 3 = none /\ h156.ct 4 = none /\ h156.ct 5 = none /\ h156.ct 6 = none /\ h156.ct 7 = none /\ h156.ct 8 = some 3 /\ h156.ct 9 = none := by decide +kernel
@[go_sem] theorem h156_z (k : Nat) : h156.at k = [] := rfl
@[go_sem] theorem h156_y (k : Nat) : h156.dn k = false := Eq.trans rfl rfl
@[go_sem] theorem h156_t : h156.tk = [17] /\ h156.mt = [] /\ h156.pc = [] := ⟨rfl, rfl, rfl⟩
theorem h156_k : FK Tryz.prog 156 Tryz.f156 h156 := ⟨by kernel_rfl, by kernel_rfl, Tryz.func156, by kernel_rfl⟩
def h157 : Hint := hm [28,16] [] [] []
@[go_sem] theorem h157_l : h157.lv 0 = [2,3,4] /\ h157.lv 1 = [4] := by decide +kernel
@[go_sem] def h157_q := hplain h157 rfl rfl rfl
@[go_sem] theorem h157_t : h157.tk = [] /\ h157.mt = [] /\ h157.pc = [] := ⟨rfl, rfl, rfl⟩
theorem h157_k : FK Tryz.prog 157 Tryz.f157 h157 := ⟨by kernel_rfl, by kernel_rfl, Tryz.func157, by kernel_rfl⟩
def h80 : Hint := hm [5,13,460,972,492,460,460,4] [6,12,18] [] [14,20]
@[go_sem] theorem h80_l : h80.lv 0 = [0,2] /\ h80.lv 1 = [0,2,3] /\ h80.lv 2 = [2,3,6,7,8] /\ h80.lv 3 = [2,3,6,7,8,9] /\ h80.lv 4 = [2,3,5,6,7,8] /\ h80.lv 5 = [2,3,6,7,8] /\ h80.lv 6 = [2,3,6,7,8] /\ h80.lv 7 = [2] := by decide +kernel
@[go_sem] def h80_q := hplain h80 rfl rfl rfl
@[go_sem] theorem h80_t : h80.tk = [6,12,18] /\ h80.mt = [] /\ h80.pc = [14,20] := ⟨rfl, rfl, rfl⟩
theorem h80_k : FK Tryz.prog 80 Tryz.f80 h80 := ⟨by kernel_rfl, by kernel_rfl, Tryz.func80, by kernel_rfl⟩
def h30 : Hint := hx [6,14,908,1932,940,908,908,4] [13,19] [] [] [20] [(6, 2)] []
@[go_sem] theorem h30_l : h30.lv 0 = [1,2] /\ h30.lv 1 = [1,2,3] /\ h30.lv 2 = [2,3,7,8,9] /\ h30.lv 3 = [2,3,7,8,9,10] /\ h30.lv 4 = [2,3,5,7,8,9] /\ h30.lv 5 = [2,3,7,8,9] /\ h30.lv 6 = [2,3,7,8,9] /\ h30.lv 7 = [2] := by decide +kernel
@[go_sem] theorem h30_g : h30.ct 0 = none /\ h30.ct 1 = none /\ h30.ct 2 = none /\ h30.ct 3 = none /\ h30.ct 4 = none /\ h30.ct 5 = none /\ h30.ct 6 = some 2 /\ h30.ct 7 = none := by decide +kernel
@[go_sem] theorem h30_z (k : Nat) : h30.at k = [] := rfl
@[go_sem] theorem h30_y (k : Nat) : h30.dn k = false := Eq.trans rfl rfl
@[go_sem] theorem h30_t : h30.tk = [13,19] /\ h30.mt = [] /\ h30.pc = [20] := ⟨rfl, rfl, rfl⟩
theorem h30_k : FK Tryz.prog 30 Tryz.f30 h30 := ⟨by kernel_rfl, by kernel_rfl, Tryz.func30, by kernel_rfl⟩
def h74 : Hint := hm [28,16] [] [] []
@[go_sem] theorem h74_l : h74.lv 0 = [2,3,4] /\ h74.lv 1 = [4] := by decide +kernel
@[go_sem] def h74_q := hplain h74 rfl rfl rfl
@[go_sem] theorem h74_t : h74.tk = [] /\ h74.mt = [] /\ h74.pc = [] := ⟨rfl, rfl, rfl⟩
theorem h74_k : FK Tryz.prog 74 Tryz.f74 h74 := ⟨by kernel_rfl, by kernel_rfl, Tryz.func74, by kernel_rfl⟩
def h75 : Hint := hm [6,4] [] [] []
@[go_sem] theorem h75_l : h75.lv 0 = [1,2] /\ h75.lv 1 = [2] := by decide +kernel
@[go_sem] def h75_q := hplain h75 rfl rfl rfl
@[go_sem] theorem h75_t : h75.tk = [] /\ h75.mt = [] /\ h75.pc = [] := ⟨rfl, rfl, rfl⟩
theorem h75_k : FK Tryz.prog 75 Tryz.f75 h75 := ⟨by kernel_rfl, by kernel_rfl, Tryz.func75, by kernel_rfl⟩
def h84 : Hint := hx [85,4181,64,197,1835204,3932356,1835716,1835204,1835204,64] [17] [] [] [] [(8, 3)] []
@[go_sem] theorem h84_l : h84.lv 0 = [0,2,4,6] /\ h84.lv 1 = [0,2,4,6,12] /\ h84.lv 2 = [6] /\ h84.lv 3 = [0,2,6,7] /\ h84.lv 4 = [2,6,7,18,19,20] /\ h84.lv 5 = [2,6,7,18,19,20,21] /\ h84.lv 6 = [2,6,7,9,18,19,20] /\ h84.lv 7 = [2,6,7,18,19,20] /\ h84.lv 8 = [2,6,7,18,19,20] /\ h84.lv 9 = [6] := by decide +kernel
@[go_sem] theorem h84_g : h84.ct 0 = none /\ h84.ct 1 = none /\ h84.ct 2 = none /\ h84.ct 3 = none /\ h84.ct 4 = none /\ h84.ct 5 = none /\ h84.ct 6 = none /\ h84.ct 7 = none /\ h84.ct 8 = some 3 /\ h84.ct 9 = none := by decide +kernel
@[go_sem] theorem h84_z (k : Nat) : h84.at k = [] := rfl
@[go_sem] theorem h84_y (k : Nat) : h84.dn k = false := Eq.trans rfl rfl
@[go_sem] theorem h84_t : h84.tk = [17] /\ h84.mt = [] /\ h84.pc = [] := ⟨rfl, rfl, rfl⟩
theorem h84_k : FK Tryz.prog 84 Tryz.f84 h84 := ⟨by kernel_rfl, by kernel_rfl, Tryz.func84, by kernel_rfl⟩
def h85 : Hint := hm [28,16] [] [] []
@[go_sem] theorem h85_l : h85.lv 0 = [2,3,4] /\ h85.lv 1 = [4] := by decide +kernel
@[go_sem] def h85_q := hplain h85 rfl rfl rfl
@[go_sem] theorem h85_t : h85.tk = [] /\ h85.mt = [] /\ h85.pc = [] := ⟨rfl, rfl, rfl⟩
theorem h85_k : FK Tryz.prog 85 Tryz.f85 h85 := ⟨by kernel_rfl, by kernel_rfl, Tryz.func85, by kernel_rfl⟩
def h34 : Hint := hx [6,14,908,1932,940,908,908,4] [13,25] [] [] [16,17,21,27,28] [(6, 2)] []
@[go_sem] theorem h34_l : h34.lv 0 = [1,2] /\ h34.lv 1 = [1,2,3] /\ h34.lv 2 = [2,3,7,8,9] /\ h34.lv 3 = [2,3,7,8,9,10] /\ h34.lv 4 = [2,3,5,7,8,9] /\ h34.lv 5 = [2,3,7,8,9] /\ h34.lv 6 = [2,3,7,8,9] /\ h34.lv 7 = [2] := by decide +kernel
@[go_sem] theorem h34_g : h34.ct 0 = none /\ h34.ct 1 = none /\ h34.ct 2 = none /\ h34.ct 3 = none /\ h34.ct 4 = none /\ h34.ct 5 = none /\ h34.ct 6 = some 2 /\ h34.ct 7 = none := by decide +kernel
@[go_sem] theorem h34_z (k : Nat) : h34.at k = [] := rfl
@[go_sem] theorem h34_y (k : Nat) : h34.dn k = false := Eq.trans rfl rfl
@[go_sem] theorem h34_t : h34.tk = [13,25] /\ h34.mt = [] /\ h34.pc = [16,17,21,27,28] := ⟨rfl, rfl, rfl⟩
theorem h34_k : FK Tryz.prog 34 Tryz.f34 h34 := ⟨by kernel_rfl, by kernel_rfl, Tryz.func34, by kernel_rfl⟩
def h25 : Hint := hm [28,540,16,60,16] [] [] [12,14,19,21,24,25]
@[go_sem] theorem h25_l : h25.lv 0 = [2,3,4] /\ h25.lv 1 = [2,3,4,9] /\ h25.lv 2 = [4] /\ h25.lv 3 = [2,3,4,5] /\ h25.lv 4 = [4] := by decide +kernel
@[go_sem] def h25_q := hplain h25 rfl rfl rfl
@[go_sem] theorem h25_t : h25.tk = [] /\ h25.mt = [] /\ h25.pc = [12,14,19,21,24,25] := ⟨rfl, rfl, rfl⟩
theorem h25_k : FK Tryz.prog 25 Tryz.f25 h25 := ⟨by kernel_rfl, by kernel_rfl, Tryz.func25, by kernel_rfl⟩
def h204 : Hint := hm [2,1024,4,4] [] [] []
@[go_sem] theorem h204_l : h204.lv 0 = [1] /\ h204.lv 1 = [10] /\ h204.lv 2 = [2] /\ h204.lv 3 = [2] := by decide +kernel
@[go_sem] def h204_q := hplain h204 rfl rfl rfl
@[go_sem] theorem h204_t : h204.tk = [] /\ h204.mt = [] /\ h204.pc = [] := ⟨rfl, rfl, rfl⟩
theorem h204_k : FK Tryz.prog 204 Tryz.f204 h204 := ⟨by kernel_rfl, by kernel_rfl, Tryz.func204, by kernel_rfl⟩
def h138 : Hint := hm [6,34,546,16,8192,16,16] [] [] [7]
@[go_sem] theorem h138_l : h138.lv 0 = [1,2] /\ h138.lv 1 = [1,5] /\ h138.lv 2 = [1,5,9] /\ h138.lv 3 = [4] /\ h138.lv 4 = [13] /\ h138.lv 5 = [4] /\ h138.lv 6 = [4] := by decide +kernel
@[go_sem] def h138_q := hplain h138 rfl rfl rfl
@[go_sem] theorem h138_t : h138.tk = [] /\ h138.mt = [] /\ h138.pc = [7] := ⟨rfl, rfl, rfl⟩
theorem h138_k : FK Tryz.prog 138 Tryz.f138 h138 := ⟨by kernel_rfl, by kernel_rfl, Tryz.func138, by kernel_rfl⟩
def h219 : Hint := hm [28,16] [] [] []
@[go_sem] theorem h219_l : h219.lv 0 = [2,3,4] /\ h219.lv 1 = [4] := by decide +kernel
@[go_sem] def h219_q := hplain h219 rfl rfl rfl
@[go_sem] theorem h219_t : h219.tk = [] /\ h219.mt = [] /\ h219.pc = [] := ⟨rfl, rfl, rfl⟩
theorem h219_k : FK Tryz.prog 219 Tryz.f219 h219 := ⟨by kernel_rfl, by kernel_rfl, Tryz.func219, by kernel_rfl⟩
def h247 : Hint := hx [19,51,3634,7730,3762,3634,3634,16] [9] [] [] [18,19] [(6, 2)] []
@[go_sem] theorem h247_l : h247.lv 0 = [0,1,4] /\ h247.lv 1 = [0,1,4,5] /\ h247.lv 2 = [1,4,5,9,10,11] /\ h247.lv 3 = [1,4,5,9,10,11,12] /\ h247.lv 4 = [1,4,5,7,9,10,11] /\ h247.lv 5 = [1,4,5,9,10,11] /\ h247.lv 6 = [1,4,5,9,10,11] /\ h247.lv 7 = [4] := by decide +kernel
@[go_sem] theorem h247_g : h247.ct 0 = none /\ h247.ct 1 = none /\ h247.ct 2 = none /\ h247.ct 3 = none /\ h247.ct 4 = none /\ h247.ct 5 = none /\ h247.ct 6 = some 2 /\ h247.ct 7 = none := by decide +kernel
@[go_sem] theorem h247_z (k : Nat) : h247.at k = [] := rfl
@[go_sem] theorem h247_y (k : Nat) : h247.dn k = false := Eq.trans rfl rfl
@[go_sem] theorem h247_t : h247.tk = [9] /\ h247.mt = [] /\ h247.pc = [18,19] := ⟨rfl, rfl, rfl⟩
theorem h247_k : FK Tryz.prog 247 Tryz.f247 h247 := ⟨by kernel_rfl, by kernel_rfl, Tryz.func247, by kernel_rfl⟩
def h199 : Hint := hm [6,4] [] [] [5]
@[go_sem] theorem h199_l : h199.lv 0 = [1,2] /\ h199.lv 1 = [2] := by decide +kernel
@[go_sem] def h199_q := hplain h199 rfl rfl rfl
@[go_sem] theorem h199_t : h199.tk = [] /\ h199.mt = [] /\ h199.pc = [5] := ⟨rfl, rfl, rfl⟩
theorem h199_k : FK Tryz.prog 199 Tryz.f199 h199 := ⟨by kernel_rfl, by kernel_rfl, Tryz.func199, by kernel_rfl⟩
def h218 : Hint := hx [19,51,3634,7730,3762,3634,3634,16] [9] [] [] [18,19] [(6, 2)] []
@[go_sem] theorem h218_l : h218.lv 0 = [0,1,4] /\ h218.lv 1 = [0,1,4,5] /\ h218.lv 2 = [1,4,5,9,10,11] /\ h218.lv 3 = [1,4,5,9,10,11,12] /\ h218.lv 4 = [1,4,5,7,9,10,11] /\ h218.lv 5 = [1,4,5,9,10,11] /\ h218.lv 6 = [1,4,5,9,10,11] /\ h218.lv 7 = [4] := by decide +kernel
@[go_sem] theorem h218_g : h218.ct 0 = none /\ h218.ct 1 = none /\ h218.ct 2 = none /\ h218.ct 3 = none /\ h218.ct 4 = none /\ h218.ct 5 = none /\ h218.ct 6 = some 2 /\ h218.ct 7 = none := by decide +kernel
@[go_sem] theorem h218_z (k : Nat) : h218.at k = [] := rfl
@[go_sem] theorem h218_y (k : Nat) : h218.dn k = false := Eq.trans rfl rfl
@[go_sem] theorem h218_t : h218.tk = [9] /\ h218.mt = [] /\ h218.pc = [18,19] := ⟨rfl, rfl, rfl⟩
theorem h218_k : FK Tryz.prog 218 Tryz.f218 h218 := ⟨by kernel_rfl, by kernel_rfl, Tryz.func218, by kernel_rfl⟩
def h153 : Hint := hm [6,14,526,12,4] [] [] [6,13,14]
@[go_sem] theorem h153_l : h153.lv 0 = [1,2] /\ h153.lv 1 = [1,2,3] /\ h153.lv 2 = [1,2,3,9] /\ h153.lv 3 = [2,3] /\ h153.lv 4 = [2] := by decide +kernel
@[go_sem] def h153_q := hplain h153 rfl rfl rfl
@[go_sem] theorem h153_t : h153.tk = [] /\ h153.mt = [] /\ h153.pc = [6,13,14] := ⟨rfl, rfl, rfl⟩
theorem h153_k : FK Tryz.prog 153 Tryz.f153 h153 := ⟨by kernel_rfl, by kernel_rfl, Tryz.func153, by kernel_rfl⟩
def h315 : Hint := hm [7,64] [] [] []
@[go_sem] theorem h315_l : h315.lv 0 = [0,1,2] /\ h315.lv 1 = [6] := by decide +kernel
@[go_sem] def h315_q := hplain h315 rfl rfl rfl
@[go_sem] theorem h315_t : h315.tk = [] /\ h315.mt = [] /\ h315.pc = [] := ⟨rfl, rfl, rfl⟩
theorem h315_k : FK Tryz.prog 315 Tryz.f315 h315 := ⟨by kernel_rfl, by kernel_rfl, Tryz.func315, by kernel_rfl⟩
def h286 : Hint := hm [1,4] [] [] [4]
@[go_sem] theorem h286_l : h286.lv 0 = [0] /\ h286.lv 1 = [2] := by decide +kernel
@[go_sem] def h286_q := hplain h286 rfl rfl rfl
@[go_sem] theorem h286_t : h286.tk = [] /\ h286.mt = [] /\ h286.pc = [4] := ⟨rfl, rfl, rfl⟩
theorem h286_k : FK Tryz.prog 286 Tryz.f286 h286 := ⟨by kernel_rfl, by kernel_rfl, Tryz.func286, by kernel_rfl⟩
def h303 : Hint := hm [1,4] [] [] []
@[go_sem] theorem h303_l : h303.lv 0 = [0] /\ h303.lv 1 = [2] := by decide +kernel
@[go_sem] def h303_q := hplain h303 rfl rfl rfl
@[go_sem] theorem h303_t : h303.tk = [] /\ h303.mt = [] /\ h303.pc = [] := ⟨rfl, rfl, rfl⟩
theorem h303_k : FK Tryz.prog 303 Tryz.f303 h303 := ⟨by kernel_rfl, by kernel_rfl, Tryz.func303, by kernel_rfl⟩
def h272 : Hint := hm [3,16] [] [] [6,9]
@[go_sem] theorem h272_l : h272.lv 0 = [0,1] /\ h272.lv 1 = [4] := by decide +kernel
@[go_sem] def h272_q := hplain h272 rfl rfl rfl
@[go_sem] theorem h272_t : h272.tk = [] /\ h272.mt = [] /\ h272.pc = [6,9] := ⟨rfl, rfl, rfl⟩
theorem h272_k : FK Tryz.prog 272 Tryz.f272 h272 := ⟨by kernel_rfl, by kernel_rfl, Tryz.func272, by kernel_rfl⟩
def h316 : Hint := hm [1,4] [] [] []
@[go_sem] theorem h316_l : h316.lv 0 = [0] /\ h316.lv 1 = [2] := by decide +kernel
@[go_sem] def h316_q := hplain h316 rfl rfl rfl
@[go_sem] theorem h316_t : h316.tk = [] /\ h316.mt = [] /\ h316.pc = [] := ⟨rfl, rfl, rfl⟩
theorem h316_k : FK Tryz.prog 316 Tryz.f316 h316 := ⟨by kernel_rfl, by kernel_rfl, Tryz.func316, by kernel_rfl⟩
def h287 : Hint := hm [3,67,451,33219,963,134218691,451,451,48] [43] [] [27,47,50]
@[go_sem] theorem h287_l : h287.lv 0 = [0,1] /\ h287.lv 1 = [0,1,6] /\ h287.lv 2 = [0,1,6,7,8] /\ h287.lv 3 = [0,1,6,7,8,15] /\ h287.lv 4 = [0,1,6,7,8,9] /\ h287.lv 5 = [0,1,6,7,8,9,27] /\ h287.lv 6 = [0,1,6,7,8] /\ h287.lv 7 = [0,1,6,7,8] /\ h287.lv 8 = [4,5] := by decide +kernel
@[go_sem] def h287_q := hplain h287 rfl rfl rfl
@[go_sem] theorem h287_t : h287.tk = [43] /\ h287.mt = [] /\ h287.pc = [27,47,50] := ⟨rfl, rfl, rfl⟩
theorem h287_k : FK Tryz.prog 287 Tryz.f287 h287 := ⟨by kernel_rfl, by kernel_rfl, Tryz.func287, by kernel_rfl⟩
def h288 : Hint := hm [3,35,65571,35,16] [] [] []
@[go_sem] theorem h288_l : h288.lv 0 = [0,1] /\ h288.lv 1 = [0,1,5] /\ h288.lv 2 = [0,1,5,16] /\ h288.lv 3 = [0,1,5] /\ h288.lv 4 = [4] := by decide +kernel
@[go_sem] def h288_q := hplain h288 rfl rfl rfl
@[go_sem] theorem h288_t : h288.tk = [] /\ h288.mt = [] /\ h288.pc = [] := ⟨rfl, rfl, rfl⟩
theorem h288_k : FK Tryz.prog 288 Tryz.f288 h288 := ⟨by kernel_rfl, by kernel_rfl, Tryz.func288, by kernel_rfl⟩
def h317 : Hint := hm [1,4] [] [] [4]
@[go_sem] theorem h317_l : h317.lv 0 = [0] /\ h317.lv 1 = [2] := by decide +kernel
@[go_sem] def h317_q := hplain h317 rfl rfl rfl
@[go_sem] theorem h317_t : h317.tk = [] /\ h317.mt = [] /\ h317.pc = [4] := ⟨rfl, rfl, rfl⟩
theorem h317_k : FK Tryz.prog 317 Tryz.f317 h317 := ⟨by kernel_rfl, by kernel_rfl, Tryz.func317, by kernel_rfl⟩
def h290 : Hint := hm [1,4] [] [] [4,7]
@[go_sem] theorem h290_l : h290.lv 0 = [0] /\ h290.lv 1 = [2] := by decide +kernel
@[go_sem] def h290_q := hplain h290 rfl rfl rfl
@[go_sem] theorem h290_t : h290.tk = [] /\ h290.mt = [] /\ h290.pc = [4,7] := ⟨rfl, rfl, rfl⟩
theorem h290_k : FK Tryz.prog 290 Tryz.f290 h290 := ⟨by kernel_rfl, by kernel_rfl, Tryz.func290, by kernel_rfl⟩
def h289 : Hint := hm [1,4] [] [] [5]
@[go_sem] theorem h289_l : h289.lv 0 = [0] /\ h289.lv 1 = [2] := by decide +kernel
@[go_sem] def h289_q := hplain h289 rfl rfl rfl
@[go_sem] theorem h289_t : h289.tk = [] /\ h289.mt = [] /\ h289.pc = [5] := ⟨rfl, rfl, rfl⟩
theorem h289_k : FK Tryz.prog 289 Tryz.f289 h289 := ⟨by kernel_rfl, by kernel_rfl, Tryz.func289, by kernel_rfl⟩
def h252 : Hint := hm [1,131073,4,17,4] [] [] [15,21,28]
@[go_sem] theorem h252_l : h252.lv 0 = [0] /\ h252.lv 1 = [0,17] /\ h252.lv 2 = [2] /\ h252.lv 3 = [0,4] /\ h252.lv 4 = [2] := by decide +kernel
@[go_sem] def h252_q := hplain h252 rfl rfl rfl
@[go_sem] theorem h252_t : h252.tk = [] /\ h252.mt = [] /\ h252.pc = [15,21,28] := ⟨rfl, rfl, rfl⟩
theorem h252_k : FK Tryz.prog 252 Tryz.f252 h252 := ⟨by kernel_rfl, by kernel_rfl, Tryz.func252, by kernel_rfl⟩
def h205 : Hint := hm [1,4] [] [] [4]
@[go_sem] theorem h205_l : h205.lv 0 = [0] /\ h205.lv 1 = [2] := by decide +kernel
@[go_sem] def h205_q := hplain h205 rfl rfl rfl
@[go_sem] theorem h205_t : h205.tk = [] /\ h205.mt = [] /\ h205.pc = [4] := ⟨rfl, rfl, rfl⟩
theorem h205_k : FK Tryz.prog 205 Tryz.f205 h205 := ⟨by kernel_rfl, by kernel_rfl, Tryz.func205, by kernel_rfl⟩
def h221 : Hint := hm [1,4] [] [] [7]
@[go_sem] theorem h221_l : h221.lv 0 = [0] /\ h221.lv 1 = [2] := by decide +kernel
@[go_sem] def h221_q := hplain h221 rfl rfl rfl
@[go_sem] theorem h221_t : h221.tk = [] /\ h221.mt = [] /\ h221.pc = [7] := ⟨rfl, rfl, rfl⟩
theorem h221_k : FK Tryz.prog 221 Tryz.f221 h221 := ⟨by kernel_rfl, by kernel_rfl, Tryz.func221, by kernel_rfl⟩
def h222 : Hint := hm [1,4] [] [] []
@[go_sem] theorem h222_l : h222.lv 0 = [0] /\ h222.lv 1 = [2] := by decide +kernel
@[go_sem] def h222_q := hplain h222 rfl rfl rfl
@[go_sem] theorem h222_t : h222.tk = [] /\ h222.mt = [] /\ h222.pc = [] := ⟨rfl, rfl, rfl⟩
theorem h222_k : FK Tryz.prog 222 Tryz.f222 h222 := ⟨by kernel_rfl, by kernel_rfl, Tryz.func222, by kernel_rfl⟩
def h248 : Hint := hm [1,4] [] [] []
@[go_sem] theorem h248_l : h248.lv 0 = [0] /\ h248.lv 1 = [2] := by decide +kernel
@[go_sem] def h248_q := hplain h248 rfl rfl rfl
@[go_sem] theorem h248_t : h248.tk = [] /\ h248.mt = [] /\ h248.pc = [] := ⟨rfl, rfl, rfl⟩
theorem h248_k : FK Tryz.prog 248 Tryz.f248 h248 := ⟨by kernel_rfl, by kernel_rfl, Tryz.func248, by kernel_rfl⟩
def h314 : Hint := hm [3,387,899,419,65955,16,387,16] [] [] []
@[go_sem] theorem h314_l : h314.lv 0 = [0,1] /\ h314.lv 1 = [0,1,7,8] /\ h314.lv 2 = [0,1,7,8,9] /\ h314.lv 3 = [0,1,5,7,8] /\ h314.lv 4 = [0,1,5,7,8,16] /\ h314.lv 5 = [4] /\ h314.lv 6 = [0,1,7,8] /\ h314.lv 7 = [4] := by decide +kernel
@[go_sem] def h314_q := hplain h314 rfl rfl rfl
@[go_sem] theorem h314_t : h314.tk = [] /\ h314.mt = [] /\ h314.pc = [] := ⟨rfl, rfl, rfl⟩
theorem h314_k : FK Tryz.prog 314 Tryz.f314 h314 := ⟨by kernel_rfl, by kernel_rfl, Tryz.func314, by kernel_rfl⟩
def h284 : Hint := hm [3,16] [5] [] []
@[go_sem] theorem h284_l : h284.lv 0 = [0,1] /\ h284.lv 1 = [4] := by decide +kernel
@[go_sem] def h284_q := hplain h284 rfl rfl rfl
@[go_sem] theorem h284_t : h284.tk = [5] /\ h284.mt = [] /\ h284.pc = [] := ⟨rfl, rfl, rfl⟩
theorem h284_k : FK Tryz.prog 284 Tryz.f284 h284 := ⟨by kernel_rfl, by kernel_rfl, Tryz.func284, by kernel_rfl⟩
def h285 : Hint := hm [6,8] [] [] []
@[go_sem] theorem h285_l : h285.lv 0 = [1,2] /\ h285.lv 1 = [3] := by decide +kernel
@[go_sem] def h285_q := hplain h285 rfl rfl rfl
@[go_sem] theorem h285_t : h285.tk = [] /\ h285.mt = [] /\ h285.pc = [] := ⟨rfl, rfl, rfl⟩
theorem h285_k : FK Tryz.prog 285 Tryz.f285 h285 := ⟨by kernel_rfl, by kernel_rfl, Tryz.func285, by kernel_rfl⟩
def h249 : Hint := hm [35,64] [12] [] []
@[go_sem] theorem h249_l : h249.lv 0 = [0,1,5] /\ h249.lv 1 = [6] := by decide +kernel
@[go_sem] def h249_q := hplain h249 rfl rfl rfl
@[go_sem] theorem h249_t : h249.tk = [12] /\ h249.mt = [] /\ h249.pc = [] := ⟨rfl, rfl, rfl⟩
theorem h249_k : FK Tryz.prog 249 Tryz.f249 h249 := ⟨by kernel_rfl, by kernel_rfl, Tryz.func249, by kernel_rfl⟩
def h201 : Hint := hm [2,10,262154,786442,786442,4,537133066,4,0x400000004000a,4,0x1000000000000004000a,4,0x10000000000000000000004000a,4,0x100000000000000000000000000004000a,4,0x10000000000000000000000000000004000a,0x10000000000000000000000000000000000a,4,4] [] [] [33,37,54,58,80,84,89,112,117,138,147]
@[go_sem] theorem h201_l : h201.lv 0 = [1] /\ h201.lv 1 = [1,3] /\ h201.lv 2 = [1,3,18] /\ h201.lv 3 = [1,3,18,19] /\ h201.lv 4 = [1,3,18,19] /\ h201.lv 5 = [2] /\ h201.lv 6 = [1,3,18,29] /\ h201.lv 7 = [2] /\ h201.lv 8 = [1,3,18,50] /\ h201.lv 9 = [2] /\ h201.lv 10 = [1,3,18,76] /\ h201.lv 11 = [2] /\ h201.lv 12 = [1,3,18,104] /\ h201.lv 13 = [2] /\ h201.lv 14 = [1,3,18,132] /\ h201.lv 15 = [2] /\ h201.lv 16 = [1,3,18,140] /\ h201.lv 17 = [1,3,140] /\ h201.lv 18 = [2] /\ h201.lv 19 = [2] := by decide +kernel
@[go_sem] def h201_q := hplain h201 rfl rfl rfl
@[go_sem] theorem h201_t : h201.tk = [] /\ h201.mt = [] /\ h201.pc = [33,37,54,58,80,84,89,112,117,138,147] := ⟨rfl, rfl, rfl⟩
theorem h201_k : FK Tryz.prog 201 Tryz.f201 h201 := ⟨by kernel_rfl, by kernel_rfl, Tryz.func201, by kernel_rfl⟩
def h260 : Hint := hx [7,16391,64,229382,491526,229766,230150,1073971206,64,229382,64] [15] [] [] [] [(9, 0)] []
@[go_sem] theorem h260_l : h260.lv 0 = [0,1,2] /\ h260.lv 1 = [0,1,2,14] /\ h260.lv 2 = [6] /\ h260.lv 3 = [1,2,15,16,17] /\ h260.lv 4 = [1,2,15,16,17,18] /\ h260.lv 5 = [1,2,7,8,15,16,17] /\ h260.lv 6 = [1,2,8,9,15,16,17] /\ h260.lv 7 = [1,2,15,16,17,30] /\ h260.lv 8 = [6] /\ h260.lv 9 = [1,2,15,16,17] /\ h260.lv 10 = [6] := by decide +kernel
@[go_sem] theorem h260_g : h260.ct 0 = none /\ h260.ct 1 = none /\ h260.ct 2 = none /\ h260.ct 3 = none /\ h260.ct 4 = none /\ h260.ct 5 = none /\ h260.ct 6 = none /\ h260.ct 7 = none /\ h260.ct 8 = none /\ h260.ct 9 = some 0 /\ h260.ct 10 = none := by decide +kernel
@[go_sem] theorem h260_z (k : Nat) : h260.at k = [] := rfl
@[go_sem] theorem h260_y (k : Nat) : h260.dn k = false := Eq.trans rfl rfl
@[go_sem] theorem h260_t : h260.tk = [15] /\ h260.mt = [] /\ h260.pc = [] := ⟨rfl, rfl, rfl⟩
theorem h260_k : FK Tryz.prog 260 Tryz.f260 h260 := ⟨by kernel_rfl, by kernel_rfl, Tryz.func260, by kernel_rfl⟩
def h220 : Hint := hm [12,16] [] [] [36]
@[go_sem] theorem h220_l : h220.lv 0 = [2,3] /\ h220.lv 1 = [4] := by decide +kernel
@[go_sem] def h220_q := hplain h220 rfl rfl rfl
@[go_sem] theorem h220_t : h220.tk = [] /\ h220.mt = [] /\ h220.pc = [36] := ⟨rfl, rfl, rfl⟩
theorem h220_k : FK Tryz.prog 220 Tryz.f220 h220 := ⟨by kernel_rfl, by kernel_rfl, Tryz.func220, by kernel_rfl⟩
def h295 : Hint := hm [3,387,899,419,65955,16,387,16] [] [] []
@[go_sem] theorem h295_l : h295.lv 0 = [0,1] /\ h295.lv 1 = [0,1,7,8] /\ h295.lv 2 = [0,1,7,8,9] /\ h295.lv 3 = [0,1,5,7,8] /\ h295.lv 4 = [0,1,5,7,8,16] /\ h295.lv 5 = [4] /\ h295.lv 6 = [0,1,7,8] /\ h295.lv 7 = [4] := by decide +kernel
@[go_sem] def h295_q := hplain h295 rfl rfl rfl
@[go_sem] theorem h295_t : h295.tk = [] /\ h295.mt = [] /\ h295.pc = [] := ⟨rfl, rfl, rfl⟩
theorem h295_k : FK Tryz.prog 295 Tryz.f295 h295 := ⟨by kernel_rfl, by kernel_rfl, Tryz.func295, by kernel_rfl⟩
def h261 : Hint := hm [3,16] [5] [] []
@[go_sem] theorem h261_l : h261.lv 0 = [0,1] /\ h261.lv 1 = [4] := by decide +kernel
@[go_sem] def h261_q := hplain h261 rfl rfl rfl
@[go_sem] theorem h261_t : h261.tk = [5] /\ h261.mt = [] /\ h261.pc = [] := ⟨rfl, rfl, rfl⟩
theorem h261_k : FK Tryz.prog 261 Tryz.f261 h261 := ⟨by kernel_rfl, by kernel_rfl, Tryz.func261, by kernel_rfl⟩
def h262 : Hint := hm [6,8] [] [] []
@[go_sem] theorem h262_l : h262.lv 0 = [1,2] /\ h262.lv 1 = [3] := by decide +kernel
@[go_sem] def h262_q := hplain h262 rfl rfl rfl
@[go_sem] theorem h262_t : h262.tk = [] /\ h262.mt = [] /\ h262.pc = [] := ⟨rfl, rfl, rfl⟩
theorem h262_k : FK Tryz.prog 262 Tryz.f262 h262 := ⟨by kernel_rfl, by kernel_rfl, Tryz.func262, by kernel_rfl⟩
def h223 : Hint := hm [35,64] [12] [] []
@[go_sem] theorem h223_l : h223.lv 0 = [0,1,5] /\ h223.lv 1 = [6] := by decide +kernel
@[go_sem] def h223_q := hplain h223 rfl rfl rfl
@[go_sem] theorem h223_t : h223.tk = [12] /\ h223.mt = [] /\ h223.pc = [] := ⟨rfl, rfl, rfl⟩
theorem h223_k : FK Tryz.prog 223 Tryz.f223 h223 := ⟨by kernel_rfl, by kernel_rfl, Tryz.func223, by kernel_rfl⟩
def h155 : Hint := hm [2,26,262170,786458,4,8590196762,4,4503599627632666,4,0x800000000004001a,0x800000000000001a,4,4] [] [] [8,31,45,50,61,73]
@[go_sem] theorem h155_l : h155.lv 0 = [1] /\ h155.lv 1 = [1,3,4] /\ h155.lv 2 = [1,3,4,18] /\ h155.lv 3 = [1,3,4,18,19] /\ h155.lv 4 = [2] /\ h155.lv 5 = [1,3,4,18,33] /\ h155.lv 6 = [2] /\ h155.lv 7 = [1,3,4,18,52] /\ h155.lv 8 = [2] /\ h155.lv 9 = [1,3,4,18,63] /\ h155.lv 10 = [1,3,4,63] /\ h155.lv 11 = [2] /\ h155.lv 12 = [2] := by decide +kernel
@[go_sem] def h155_q := hplain h155 rfl rfl rfl
@[go_sem] theorem h155_t : h155.tk = [] /\ h155.mt = [] /\ h155.pc = [8,31,45,50,61,73] := ⟨rfl, rfl, rfl⟩
theorem h155_k : FK Tryz.prog 155 Tryz.f155 h155 := ⟨by kernel_rfl, by kernel_rfl, Tryz.func155, by kernel_rfl⟩
def h154 : Hint := hm [1,2] [] [] [3]
@[go_sem] theorem h154_l : h154.lv 0 = [0] /\ h154.lv 1 = [1] := by decide +kernel
@[go_sem] def h154_q := hplain h154 rfl rfl rfl
@[go_sem] theorem h154_t : h154.tk = [] /\ h154.mt = [] /\ h154.pc = [3] := ⟨rfl, rfl, rfl⟩
theorem h154_k : FK Tryz.prog 154 Tryz.f154 h154 := ⟨by kernel_rfl, by kernel_rfl, Tryz.func154, by kernel_rfl⟩
def h79 : Hint := hm [2,4] [] [] [4]
@[go_sem] theorem h79_l : h79.lv 0 = [1] /\ h79.lv 1 = [2] := by decide +kernel
@[go_sem] def h79_q := hplain h79 rfl rfl rfl
@[go_sem] theorem h79_t : h79.tk = [] /\ h79.mt = [] /\ h79.pc = [4] := ⟨rfl, rfl, rfl⟩
theorem h79_k : FK Tryz.prog 79 Tryz.f79 h79 := ⟨by kernel_rfl, by kernel_rfl, Tryz.func79, by kernel_rfl⟩
def h27 : Hint := hx [2,18,1810,3858,1874,1874,4196178,12,1810,1810,12] [23,28] [] [] [17,21] [(9, 1)] []
@[go_sem] theorem h27_l : h27.lv 0 = [1] /\ h27.lv 1 = [1,4] /\ h27.lv 2 = [1,4,8,9,10] /\ h27.lv 3 = [1,4,8,9,10,11] /\ h27.lv 4 = [1,4,6,8,9,10] /\ h27.lv 5 = [1,4,6,8,9,10] /\ h27.lv 6 = [1,4,6,8,9,10,22] /\ h27.lv 7 = [2,3] /\ h27.lv 8 = [1,4,8,9,10] /\ h27.lv 9 = [1,4,8,9,10] /\ h27.lv 10 = [2,3] := by decide +kernel
@[go_sem] theorem h27_g : h27.ct 0 = none /\ h27.ct 1 = none /\ h27.ct 2 = none /\ h27.ct 3 = none /\ h27.ct 4 = none /\ h27.ct 5 = none /\ h27.ct 6 = none /\ h27.ct 7 = none /\ h27.ct 8 = none /\ h27.ct 9 = some 1 /\ h27.ct 10 = none := by decide +kernel
@[go_sem] theorem h27_z (k : Nat) : h27.at k = [] := rfl
@[go_sem] theorem h27_y (k : Nat) : h27.dn k = false := Eq.trans rfl rfl
@[go_sem] theorem h27_t : h27.tk = [23,28] /\ h27.mt = [] /\ h27.pc = [17,21] := ⟨rfl, rfl, rfl⟩
theorem h27_k : FK Tryz.prog 27 Tryz.f27 h27 := ⟨by kernel_rfl, by kernel_rfl, Tryz.func27, by kernel_rfl⟩
def h32 : Hint := hm [6,14,76,24,1,4] [9] [] [14]
@[go_sem] theorem h32_l : h32.lv 0 = [1,2] /\ h32.lv 1 = [1,2,3] /\ h32.lv 2 = [2,3,6] /\ h32.lv 3 = [3,4] /\ h32.lv 4 = [0] /\ h32.lv 5 = [2] := by decide +kernel
@[go_sem] def h32_q := hplain h32 rfl rfl rfl
@[go_sem] theorem h32_t : h32.tk = [9] /\ h32.mt = [] /\ h32.pc = [14] := ⟨rfl, rfl, rfl⟩
end Go.AI
namespace Go.AI
open Go.Proofs
@[go_sem] theorem cellsOf134 : Tryz.prog.cellsOf 134 = 5 := by kernel_rfl
@[go_sem] theorem bytesOf134 : Tryz.prog.bytesOf 134 = 64 := by kernel_rfl
@[go_sem] theorem ldk134 : ldk Tryz.prog 134 = some (some 5) := by kernel_rfl
@[go_sem] theorem zeroOk134 : zeroOk Tryz.prog 134 = true := by kernel_rfl
@[go_sem] theorem bkind134 : bkind Tryz.prog 134 = .struct [(0, 1), (1, 1), (2, 1), (3, 1), (4, 1)] := by kernel_rfl
@[go_sem] theorem fplace134_0 : fplace Tryz.prog 134 0 = some (9, 0) := by kernel_rfl
@[go_sem] theorem fplace134_1 : fplace Tryz.prog 134 1 = some (3, 1) := by kernel_rfl
@[go_sem] theorem fplace134_2 : fplace Tryz.prog 134 2 = some (121, 2) := by kernel_rfl
@[go_sem] theorem fplace134_3 : fplace Tryz.prog 134 3 = some (3, 3) := by kernel_rfl
@[go_sem] theorem fplace134_4 : fplace Tryz.prog 134 4 = some (3, 4) := by kernel_rfl
@[go_sem] theorem cellsOf186 : Tryz.prog.cellsOf 186 = 1 := by kernel_rfl
@[go_sem] theorem ldk186 : ldk Tryz.prog 186 = some none := by kernel_rfl
end Go.AI
set_option linter.defProp false
namespace Go.AI
open Go.Proofs
def h121 : Hint := hm [2,4] [] [] []
@[go_sem] theorem h121_l : h121.lv 0 = [1] /\ h121.lv 1 = [2] := by decide +kernel
@[go_sem] def h121_q := hplain h121 rfl rfl rfl
@[go_sem] theorem h121_t : h121.tk = [] /\ h121.mt = [] /\ h121.pc = [] := ⟨rfl, rfl, rfl⟩
def h191 : Hint := hm [1,4] [] [] []
@[go_sem] theorem h191_l : h191.lv 0 = [0] /\ h191.lv 1 = [2] := by decide +kernel
@[go_sem] def h191_q := hplain h191 rfl rfl rfl
@[go_sem] theorem h191_t : h191.tk = [] /\ h191.mt = [] /\ h191.pc = [] := ⟨rfl, rfl, rfl⟩
def h281 : Hint := hm [7,1030,7174,1414,525446,64,64] [] [] []
@[go_sem] theorem h281_l : h281.lv 0 = [0,1,2] /\ h281.lv 1 = [1,2,10] /\ h281.lv 2 = [1,2,10,11,12] /\ h281.lv 3 = [1,2,7,8,10] /\ h281.lv 4 = [1,2,7,10,19] /\ h281.lv 5 = [6] /\ h281.lv 6 = [6] := by decide +kernel
@[go_sem] def h281_q := hplain h281 rfl rfl rfl
@[go_sem] theorem h281_t : h281.tk = [] /\ h281.mt = [] /\ h281.pc = [] := ⟨rfl, rfl, rfl⟩
def h243 : Hint := hm [3,16] [] [] [7]
@[go_sem] theorem h243_l : h243.lv 0 = [0,1] /\ h243.lv 1 = [4] := by decide +kernel
@[go_sem] def h243_q := hplain h243 rfl rfl rfl
@[go_sem] theorem h243_t : h243.tk = [] /\ h243.mt = [] /\ h243.pc = [7] := ⟨rfl, rfl, rfl⟩
def h192 : Hint := hm [3,16] [] [] [7]
@[go_sem] theorem h192_l : h192.lv 0 = [0,1] /\ h192.lv 1 = [4] := by decide +kernel
@[go_sem] def h192_q := hplain h192 rfl rfl rfl
@[go_sem] theorem h192_t : h192.tk = [] /\ h192.mt = [] /\ h192.pc = [7] := ⟨rfl, rfl, rfl⟩
def h122 : Hint := hm [1,9,4] [] [] [24]
@[go_sem] theorem h122_l : h122.lv 0 = [0] /\ h122.lv 1 = [0,3] /\ h122.lv 2 = [2] := by decide +kernel
@[go_sem] def h122_q := hplain h122 rfl rfl rfl
@[go_sem] theorem h122_t : h122.tk = [] /\ h122.mt = [] /\ h122.pc = [24] := ⟨rfl, rfl, rfl⟩
def h193 : Hint := hm [3,387,899,419,65955,16,387,16] [] [] []
@[go_sem] theorem h193_l : h193.lv 0 = [0,1] /\ h193.lv 1 = [0,1,7,8] /\ h193.lv 2 = [0,1,7,8,9] /\ h193.lv 3 = [0,1,5,7,8] /\ h193.lv 4 = [0,1,5,7,8,16] /\ h193.lv 5 = [4] /\ h193.lv 6 = [0,1,7,8] /\ h193.lv 7 = [4] := by decide +kernel
@[go_sem] def h193_q := hplain h193 rfl rfl rfl
@[go_sem] theorem h193_t : h193.tk = [] /\ h193.mt = [] /\ h193.pc = [] := ⟨rfl, rfl, rfl⟩
def h123 : Hint := hm [3,16] [5] [] []
@[go_sem] theorem h123_l : h123.lv 0 = [0,1] /\ h123.lv 1 = [4] := by decide +kernel
@[go_sem] def h123_q := hplain h123 rfl rfl rfl
@[go_sem] theorem h123_t : h123.tk = [5] /\ h123.mt = [] /\ h123.pc = [] := ⟨rfl, rfl, rfl⟩
def h124 : Hint := hm [2,4] [] [] [5]
@[go_sem] theorem h124_l : h124.lv 0 = [1] /\ h124.lv 1 = [2] := by decide +kernel
@[go_sem] def h124_q := hplain h124 rfl rfl rfl
@[go_sem] theorem h124_t : h124.tk = [] /\ h124.mt = [] /\ h124.pc = [5] := ⟨rfl, rfl, rfl⟩
def h125 : Hint := hx [3,35,3618,7714,3746,528034,16,3618,3618,16] [9] [] [] [] [(8, 1)] []
@[go_sem] theorem h125_l : h125.lv 0 = [0,1] /\ h125.lv 1 = [0,1,5] /\ h125.lv 2 = [1,5,9,10,11] /\ h125.lv 3 = [1,5,9,10,11,12] /\ h125.lv 4 = [1,5,7,9,10,11] /\ h125.lv 5 = [1,5,7,9,10,11,19] /\ h125.lv 6 = [4] /\ h125.lv 7 = [1,5,9,10,11] /\ h125.lv 8 = [1,5,9,10,11] /\ h125.lv 9 = [4] := by decide +kernel
@[go_sem] theorem h125_g : h125.ct 0 = none /\ h125.ct 1 = none /\ h125.ct 2 = none /\ h125.ct 3 = none /\ h125.ct 4 = none /\ h125.ct 5 = none /\ h125.ct 6 = none /\ h125.ct 7 = none /\ h125.ct 8 = some 1 /\ h125.ct 9 = none := by decide +kernel
@[go_sem] theorem h125_z (k : Nat) : h125.at k = [] := rfl
@[go_sem] theorem h125_y (k : Nat) : h125.dn k = false := Eq.trans rfl rfl
@[go_sem] theorem h125_t : h125.tk = [9] /\ h125.mt = [] /\ h125.pc = [] := ⟨rfl, rfl, rfl⟩
def h194 : Hint := hm [3,387,899,419,65955,16,387,16] [] [] []
@[go_sem] theorem h194_l : h194.lv 0 = [0,1] /\ h194.lv 1 = [0,1,7,8] /\ h194.lv 2 = [0,1,7,8,9] /\ h194.lv 3 = [0,1,5,7,8] /\ h194.lv 4 = [0,1,5,7,8,16] /\ h194.lv 5 = [4] /\ h194.lv 6 = [0,1,7,8] /\ h194.lv 7 = [4] := by decide +kernel
@[go_sem] def h194_q := hplain h194 rfl rfl rfl
@[go_sem] theorem h194_t : h194.tk = [] /\ h194.mt = [] /\ h194.pc = [] := ⟨rfl, rfl, rfl⟩
def h126 : Hint := hm [3,16] [5] [] []
@[go_sem] theorem h126_l : h126.lv 0 = [0,1] /\ h126.lv 1 = [4] := by decide +kernel
@[go_sem] def h126_q := hplain h126 rfl rfl rfl
@[go_sem] theorem h126_t : h126.tk = [5] /\ h126.mt = [] /\ h126.pc = [] := ⟨rfl, rfl, rfl⟩
def h128 : Hint := hm [6,16] [] [] [10]
@[go_sem] theorem h128_l : h128.lv 0 = [1,2] /\ h128.lv 1 = [4] := by decide +kernel
@[go_sem] def h128_q := hplain h128 rfl rfl rfl
@[go_sem] theorem h128_t : h128.tk = [] /\ h128.mt = [] /\ h128.pc = [10] := ⟨rfl, rfl, rfl⟩
def h127 : Hint := hm [6,8] [] [] [7,13]
@[go_sem] theorem h127_l : h127.lv 0 = [1,2] /\ h127.lv 1 = [3] := by decide +kernel
@[go_sem] def h127_q := hplain h127 rfl rfl rfl
@[go_sem] theorem h127_t : h127.tk = [] /\ h127.mt = [] /\ h127.pc = [7,13] := ⟨rfl, rfl, rfl⟩
def h129 : Hint := hx [3,35,3618,7714,3746,528034,16,3618,3618,16] [9] [] [] [] [(8, 1)] []
@[go_sem] theorem h129_l : h129.lv 0 = [0,1] /\ h129.lv 1 = [0,1,5] /\ h129.lv 2 = [1,5,9,10,11] /\ h129.lv 3 = [1,5,9,10,11,12] /\ h129.lv 4 = [1,5,7,9,10,11] /\ h129.lv 5 = [1,5,7,9,10,11,19] /\ h129.lv 6 = [4] /\ h129.lv 7 = [1,5,9,10,11] /\ h129.lv 8 = [1,5,9,10,11] /\ h129.lv 9 = [4] := by decide +kernel
@[go_sem] theorem h129_g : h129.ct 0 = none /\ h129.ct 1 = none /\ h129.ct 2 = none /\ h129.ct 3 = none /\ h129.ct 4 = none /\ h129.ct 5 = none /\ h129.ct 6 = none /\ h129.ct 7 = none /\ h129.ct 8 = some 1 /\ h129.ct 9 = none := by decide +kernel
@[go_sem] theorem h129_z (k : Nat) : h129.at k = [] := rfl
@[go_sem] theorem h129_y (k : Nat) : h129.dn k = false := Eq.trans rfl rfl
@[go_sem] theorem h129_t : h129.tk = [9] /\ h129.mt = [] /\ h129.pc = [] := ⟨rfl, rfl, rfl⟩
def h130 : Hint := hm [2,4] [] [] []
@[go_sem] theorem h130_l : h130.lv 0 = [1] /\ h130.lv 1 = [2] := by decide +kernel
@[go_sem] def h130_q := hplain h130 rfl rfl rfl
@[go_sem] theorem h130_t : h130.tk = [] /\ h130.mt = [] /\ h130.pc = [] := ⟨rfl, rfl, rfl⟩
def h56 : Hint := hm [28,60,8388636,16,92,67108956,340,2199023255888,1,1,4503599627370512,16,16] [] [] [11,16,22,35,51]
@[go_sem] theorem h56_l : h56.lv 0 = [2,3,4] /\ h56.lv 1 = [2,3,4,5] /\ h56.lv 2 = [2,3,4,23] /\ h56.lv 3 = [4] /\ h56.lv 4 = [2,3,4,6] /\ h56.lv 5 = [2,3,4,6,26] /\ h56.lv 6 = [2,4,6,8] /\ h56.lv 7 = [4,6,8,41] /\ h56.lv 8 = [0] /\ h56.lv 9 = [0] /\ h56.lv 10 = [4,52] /\ h56.lv 11 = [4] /\ h56.lv 12 = [4] := by decide +kernel
@[go_sem] def h56_q := hplain h56 rfl rfl rfl
@[go_sem] theorem h56_t : h56.tk = [] /\ h56.mt = [] /\ h56.pc = [11,16,22,35,51] := ⟨rfl, rfl, rfl⟩
def h296 : Hint := hm [3,1027,16,12291,28675,12323,16789507,16,12291,16] [] [] []
@[go_sem] theorem h296_l : h296.lv 0 = [0,1] /\ h296.lv 1 = [0,1,10] /\ h296.lv 2 = [4] /\ h296.lv 3 = [0,1,12,13] /\ h296.lv 4 = [0,1,12,13,14] /\ h296.lv 5 = [0,1,5,12,13] /\ h296.lv 6 = [0,1,12,13,24] /\ h296.lv 7 = [4] /\ h296.lv 8 = [0,1,12,13] /\ h296.lv 9 = [4] := by decide +kernel
@[go_sem] def h296_q := hplain h296 rfl rfl rfl
@[go_sem] theorem h296_t : h296.tk = [] /\ h296.mt = [] /\ h296.pc = [] := ⟨rfl, rfl, rfl⟩
theorem h296_k : FK Tryz.prog 296 Tryz.f296 h296 := ⟨by kernel_rfl, by kernel_rfl, Tryz.func296, by kernel_rfl⟩
def h263 : Hint := hm [12,16] [] [] [43]
@[go_sem] theorem h263_l : h263.lv 0 = [2,3] /\ h263.lv 1 = [4] := by decide +kernel
@[go_sem] def h263_q := hplain h263 rfl rfl rfl
@[go_sem] theorem h263_t : h263.tk = [] /\ h263.mt = [] /\ h263.pc = [43] := ⟨rfl, rfl, rfl⟩
theorem h263_k : FK Tryz.prog 263 Tryz.f263 h263 := ⟨by kernel_rfl, by kernel_rfl, Tryz.func263, by kernel_rfl⟩
def h265 : Hint := hm [3,387,899,419,65955,16,387,16] [] [] []
@[go_sem] theorem h265_l : h265.lv 0 = [0,1] /\ h265.lv 1 = [0,1,7,8] /\ h265.lv 2 = [0,1,7,8,9] /\ h265.lv 3 = [0,1,5,7,8] /\ h265.lv 4 = [0,1,5,7,8,16] /\ h265.lv 5 = [4] /\ h265.lv 6 = [0,1,7,8] /\ h265.lv 7 = [4] := by decide +kernel
@[go_sem] def h265_q := hplain h265 rfl rfl rfl
@[go_sem] theorem h265_t : h265.tk = [] /\ h265.mt = [] /\ h265.pc = [] := ⟨rfl, rfl, rfl⟩
theorem h265_k : FK Tryz.prog 265 Tryz.f265 h265 := ⟨by kernel_rfl, by kernel_rfl, Tryz.func265, by kernel_rfl⟩
def h230 : Hint := hm [3,16] [5] [] []
@[go_sem] theorem h230_l : h230.lv 0 = [0,1] /\ h230.lv 1 = [4] := by decide +kernel
@[go_sem] def h230_q := hplain h230 rfl rfl rfl
@[go_sem] theorem h230_t : h230.tk = [5] /\ h230.mt = [] /\ h230.pc = [] := ⟨rfl, rfl, rfl⟩
theorem h230_k : FK Tryz.prog 230 Tryz.f230 h230 := ⟨by kernel_rfl, by kernel_rfl, Tryz.func230, by kernel_rfl⟩
def h297 : Hint := hm [3,8] [] [] []
@[go_sem] theorem h297_l : h297.lv 0 = [0,1] /\ h297.lv 1 = [3] := by decide +kernel
@[go_sem] def h297_q := hplain h297 rfl rfl rfl
@[go_sem] theorem h297_t : h297.tk = [] /\ h297.mt = [] /\ h297.pc = [] := ⟨rfl, rfl, rfl⟩
theorem h297_k : FK Tryz.prog 297 Tryz.f297 h297 := ⟨by kernel_rfl, by kernel_rfl, Tryz.func297, by kernel_rfl⟩
def h264 : Hint := hm [35,64] [12] [] []
@[go_sem] theorem h264_l : h264.lv 0 = [0,1,5] /\ h264.lv 1 = [6] := by decide +kernel
@[go_sem] def h264_q := hplain h264 rfl rfl rfl
@[go_sem] theorem h264_t : h264.tk = [12] /\ h264.mt = [] /\ h264.pc = [] := ⟨rfl, rfl, rfl⟩
theorem h264_k : FK Tryz.prog 264 Tryz.f264 h264 := ⟨by kernel_rfl, by kernel_rfl, Tryz.func264, by kernel_rfl⟩
def h224 : Hint := hm [2,66,4,2147483650,4,10,2199023255562,6597069766666,4,0x8002000000000a,4,0x800002000000000a,4,0x4000000002000000000a,4,0x1000000000000002000000000a,4,0x1000000000000000000000000002,4,4] [] [] [6,9,29,52,67,82,86,91,106,121,131]
@[go_sem] theorem h224_l : h224.lv 0 = [1] /\ h224.lv 1 = [1,6] /\ h224.lv 2 = [2] /\ h224.lv 3 = [1,31] /\ h224.lv 4 = [2] /\ h224.lv 5 = [1,3] /\ h224.lv 6 = [1,3,41] /\ h224.lv 7 = [1,3,41,42] /\ h224.lv 8 = [2] /\ h224.lv 9 = [1,3,41,55] /\ h224.lv 10 = [2] /\ h224.lv 11 = [1,3,41,63] /\ h224.lv 12 = [2] /\ h224.lv 13 = [1,3,41,78] /\ h224.lv 14 = [2] /\ h224.lv 15 = [1,3,41,100] /\ h224.lv 16 = [2] /\ h224.lv 17 = [1,108] /\ h224.lv 18 = [2] /\ h224.lv 19 = [2] := by decide +kernel
@[go_sem] def h224_q := hplain h224 rfl rfl rfl
@[go_sem] theorem h224_t : h224.tk = [] /\ h224.mt = [] /\ h224.pc = [6,9,29,52,67,82,86,91,106,121,131] := ⟨rfl, rfl, rfl⟩
theorem h224_k : FK Tryz.prog 224 Tryz.f224 h224 := ⟨by kernel_rfl, by kernel_rfl, Tryz.func224, by kernel_rfl⟩
def h158 : Hint := hm [2,32,4,4] [] [] [4]
@[go_sem] theorem h158_l : h158.lv 0 = [1] /\ h158.lv 1 = [5] /\ h158.lv 2 = [2] /\ h158.lv 3 = [2] := by decide +kernel
@[go_sem] def h158_q := hplain h158 rfl rfl rfl
@[go_sem] theorem h158_t : h158.tk = [] /\ h158.mt = [] /\ h158.pc = [4] := ⟨rfl, rfl, rfl⟩
theorem h158_k : FK Tryz.prog 158 Tryz.f158 h158 := ⟨by kernel_rfl, by kernel_rfl, Tryz.func158, by kernel_rfl⟩
def h87 : Hint := hx [1,513,4,7168,15360,7184,7216,1055792,4,7232,67116096,4,7168,4] [10] [] [] [18,24] [(12, 0)] []
@[go_sem] theorem h87_l : h87.lv 0 = [0] /\ h87.lv 1 = [0,9] /\ h87.lv 2 = [2] /\ h87.lv 3 = [10,11,12] /\ h87.lv 4 = [10,11,12,13] /\ h87.lv 5 = [4,10,11,12] /\ h87.lv 6 = [4,5,10,11,12] /\ h87.lv 7 = [4,5,10,11,12,20] /\ h87.lv 8 = [2] /\ h87.lv 9 = [6,10,11,12] /\ h87.lv 10 = [6,10,11,12,26] /\ h87.lv 11 = [2] /\ h87.lv 12 = [10,11,12] /\ h87.lv 13 = [2] := by decide +kernel
@[go_sem] theorem h87_g : h87.ct 0 = none /\ h87.ct 1 = none /\ h87.ct 2 = none /\ h87.ct 3 = none /\ h87.ct 4 = none /\ h87.ct 5 = none /\ h87.ct 6 = none /\ h87.ct 7 = none /\ h87.ct 8 = none /\ h87.ct 9 = none /\ h87.ct 10 = none /\ h87.ct 11 = none /\ h87.ct 12 = some 0 /\ h87.ct 13 = none := by decide +kernel
@[go_sem] theorem h87_z (k : Nat) : h87.at k = [] := rfl
@[go_sem] theorem h87_y (k : Nat) : h87.dn k = false := Eq.trans rfl rfl
@[go_sem] theorem h87_t : h87.tk = [10] /\ h87.mt = [] /\ h87.pc = [18,24] := ⟨rfl, rfl, rfl⟩
theorem h87_k : FK Tryz.prog 87 Tryz.f87 h87 := ⟨by kernel_rfl, by kernel_rfl, Tryz.func87, by kernel_rfl⟩
def h228 : Hint := hm [3,387,899,419,65955,16,387,16] [] [] []
@[go_sem] theorem h228_l : h228.lv 0 = [0,1] /\ h228.lv 1 = [0,1,7,8] /\ h228.lv 2 = [0,1,7,8,9] /\ h228.lv 3 = [0,1,5,7,8] /\ h228.lv 4 = [0,1,5,7,8,16] /\ h228.lv 5 = [4] /\ h228.lv 6 = [0,1,7,8] /\ h228.lv 7 = [4] := by decide +kernel
@[go_sem] def h228_q := hplain h228 rfl rfl rfl
@[go_sem] theorem h228_t : h228.tk = [] /\ h228.mt = [] /\ h228.pc = [] := ⟨rfl, rfl, rfl⟩
theorem h228_k : FK Tryz.prog 228 Tryz.f228 h228 := ⟨by kernel_rfl, by kernel_rfl, Tryz.func228, by kernel_rfl⟩
def h229 : Hint := hm [6,8] [] [] []
@[go_sem] theorem h229_l : h229.lv 0 = [1,2] /\ h229.lv 1 = [3] := by decide +kernel
@[go_sem] def h229_q := hplain h229 rfl rfl rfl
@[go_sem] theorem h229_t : h229.tk = [] /\ h229.mt = [] /\ h229.pc = [] := ⟨rfl, rfl, rfl⟩
theorem h229_k : FK Tryz.prog 229 Tryz.f229 h229 := ⟨by kernel_rfl, by kernel_rfl, Tryz.func229, by kernel_rfl⟩
def h160 : Hint := hm [25,1049,48,81,65617,48,48] [18] [] [8,11]
@[go_sem] theorem h160_l : h160.lv 0 = [0,3,4] /\ h160.lv 1 = [0,3,4,10] /\ h160.lv 2 = [4,5] /\ h160.lv 3 = [0,4,6] /\ h160.lv 4 = [0,4,6,16] /\ h160.lv 5 = [4,5] /\ h160.lv 6 = [4,5] := by decide +kernel
@[go_sem] def h160_q := hplain h160 rfl rfl rfl
@[go_sem] theorem h160_t : h160.tk = [18] /\ h160.mt = [] /\ h160.pc = [8,11] := ⟨rfl, rfl, rfl⟩
theorem h160_k : FK Tryz.prog 160 Tryz.f160 h160 := ⟨by kernel_rfl, by kernel_rfl, Tryz.func160, by kernel_rfl⟩
def h161 : Hint := hm [2,4] [] [] []
@[go_sem] theorem h161_l : h161.lv 0 = [1] /\ h161.lv 1 = [2] := by decide +kernel
@[go_sem] def h161_q := hplain h161 rfl rfl rfl
@[go_sem] theorem h161_t : h161.tk = [] /\ h161.mt = [] /\ h161.pc = [] := ⟨rfl, rfl, rfl⟩
theorem h161_k : FK Tryz.prog 161 Tryz.f161 h161 := ⟨by kernel_rfl, by kernel_rfl, Tryz.func161, by kernel_rfl⟩
def h251 : Hint := hm [14,1036,16,28676,61444,28740,2125828,16,28676,16] [] [] []
@[go_sem] theorem h251_l : h251.lv 0 = [1,2,3] /\ h251.lv 1 = [2,3,10] /\ h251.lv 2 = [4] /\ h251.lv 3 = [2,12,13,14] /\ h251.lv 4 = [2,12,13,14,15] /\ h251.lv 5 = [2,6,12,13,14] /\ h251.lv 6 = [2,12,13,14,21] /\ h251.lv 7 = [4] /\ h251.lv 8 = [2,12,13,14] /\ h251.lv 9 = [4] := by decide +kernel
@[go_sem] def h251_q := hplain h251 rfl rfl rfl
@[go_sem] theorem h251_t : h251.tk = [] /\ h251.mt = [] /\ h251.pc = [] := ⟨rfl, rfl, rfl⟩
theorem h251_k : FK Tryz.prog 251 Tryz.f251 h251 := ⟨by kernel_rfl, by kernel_rfl, Tryz.func251, by kernel_rfl⟩
def h250 : Hint := hm [6,14,10,1] [] [] []
@[go_sem] theorem h250_l : h250.lv 0 = [1,2] /\ h250.lv 1 = [1,2,3] /\ h250.lv 2 = [1,3] /\ h250.lv 3 = [0] := by decide +kernel
@[go_sem] def h250_q := hplain h250 rfl rfl rfl
@[go_sem] theorem h250_t : h250.tk = [] /\ h250.mt = [] /\ h250.pc = [] := ⟨rfl, rfl, rfl⟩
theorem h250_k : FK Tryz.prog 250 Tryz.f250 h250 := ⟨by kernel_rfl, by kernel_rfl, Tryz.func250, by kernel_rfl⟩
def h202 : Hint := hm [2,4] [] [] []
@[go_sem] theorem h202_l : h202.lv 0 = [1] /\ h202.lv 1 = [2] := by decide +kernel
@[go_sem] def h202_q := hplain h202 rfl rfl rfl
theorem h202_k : FK Tryz.prog 202 Tryz.f202 h202 := ⟨by kernel_rfl, by kernel_rfl, Tryz.func202, by kernel_rfl⟩
def h136 : Hint := hm [28,1044,52,16436,240,496,67109360,496,536871280,1,4294967312,1,16] [] [] [19,35]
@[go_sem] theorem h136_l : h136.lv 0 = [2,3,4] /\ h136.lv 1 = [2,4,10] /\ h136.lv 2 = [2,4,5] /\ h136.lv 3 = [2,4,5,14] /\ h136.lv 4 = [4,5,6,7] /\ h136.lv 5 = [4,5,6,7,8] /\ h136.lv 6 = [4,5,6,7,8,26] /\ h136.lv 7 = [4,5,6,7,8] /\ h136.lv 8 = [4,5,6,8,29] /\ h136.lv 9 = [0] /\ h136.lv 10 = [4,32] /\ h136.lv 11 = [0] /\ h136.lv 12 = [4] := by decide +kernel
@[go_sem] def h136_q := hplain h136 rfl rfl rfl
@[go_sem] theorem h136_t : h136.tk = [] /\ h136.mt = [] /\ h136.pc = [19,35] := ⟨rfl, rfl, rfl⟩
theorem h136_k : FK Tryz.prog 136 Tryz.f136 h136 := ⟨by kernel_rfl, by kernel_rfl, Tryz.func136, by kernel_rfl⟩
def h226 : Hint := hm [14,1036,16,28676,61444,28740,2125828,16,28676,16] [] [] []
@[go_sem] theorem h226_l : h226.lv 0 = [1,2,3] /\ h226.lv 1 = [2,3,10] /\ h226.lv 2 = [4] /\ h226.lv 3 = [2,12,13,14] /\ h226.lv 4 = [2,12,13,14,15] /\ h226.lv 5 = [2,6,12,13,14] /\ h226.lv 6 = [2,12,13,14,21] /\ h226.lv 7 = [4] /\ h226.lv 8 = [2,12,13,14] /\ h226.lv 9 = [4] := by decide +kernel
@[go_sem] def h226_q := hplain h226 rfl rfl rfl
@[go_sem] theorem h226_t : h226.tk = [] /\ h226.mt = [] /\ h226.pc = [] := ⟨rfl, rfl, rfl⟩
theorem h226_k : FK Tryz.prog 226 Tryz.f226 h226 := ⟨by kernel_rfl, by kernel_rfl, Tryz.func226, by kernel_rfl⟩
def h225 : Hint := hm [6,14,10,1] [] [] []
@[go_sem] theorem h225_l : h225.lv 0 = [1,2] /\ h225.lv 1 = [1,2,3] /\ h225.lv 2 = [1,3] /\ h225.lv 3 = [0] := by decide +kernel
@[go_sem] def h225_q := hplain h225 rfl rfl rfl
@[go_sem] theorem h225_t : h225.tk = [] /\ h225.mt = [] /\ h225.pc = [] := ⟨rfl, rfl, rfl⟩
theorem h225_k : FK Tryz.prog 225 Tryz.f225 h225 := ⟨by kernel_rfl, by kernel_rfl, Tryz.func225, by kernel_rfl⟩
def h159 : Hint := hm [2,4] [] [] []
@[go_sem] theorem h159_l : h159.lv 0 = [1] /\ h159.lv 1 = [2] := by decide +kernel
@[go_sem] def h159_q := hplain h159 rfl rfl rfl
theorem h159_k : FK Tryz.prog 159 Tryz.f159 h159 := ⟨by kernel_rfl, by kernel_rfl, Tryz.func159, by kernel_rfl⟩
def h88 : Hint := hm [28,60,8252,16,65556,84,524372,1572948,144,134217872,1,536870996,848,274877907280,1,2199023255568,1,16] [] [] [11,25,35,45]
@[go_sem] theorem h88_l : h88.lv 0 = [2,3,4] /\ h88.lv 1 = [2,3,4,5] /\ h88.lv 2 = [2,3,4,5,13] /\ h88.lv 3 = [4] /\ h88.lv 4 = [2,4,16] /\ h88.lv 5 = [2,4,6] /\ h88.lv 6 = [2,4,6,19] /\ h88.lv 7 = [2,4,6,19,20] /\ h88.lv 8 = [4,7] /\ h88.lv 9 = [4,7,27] /\ h88.lv 10 = [0] /\ h88.lv 11 = [2,4,6,29] /\ h88.lv 12 = [4,6,8,9] /\ h88.lv 13 = [4,6,8,38] /\ h88.lv 14 = [0] /\ h88.lv 15 = [4,41] /\ h88.lv 16 = [0] /\ h88.lv 17 = [4] := by decide +kernel
@[go_sem] def h88_q := hplain h88 rfl rfl rfl
@[go_sem] theorem h88_t : h88.tk = [] /\ h88.mt = [] /\ h88.pc = [11,25,35,45] := ⟨rfl, rfl, rfl⟩
theorem h88_k : FK Tryz.prog 88 Tryz.f88 h88 := ⟨by kernel_rfl, by kernel_rfl, Tryz.func88, by kernel_rfl⟩
def h198 : Hint := hm [3,387,899,419,65955,16,387,16] [] [] []
@[go_sem] theorem h198_l : h198.lv 0 = [0,1] /\ h198.lv 1 = [0,1,7,8] /\ h198.lv 2 = [0,1,7,8,9] /\ h198.lv 3 = [0,1,5,7,8] /\ h198.lv 4 = [0,1,5,7,8,16] /\ h198.lv 5 = [4] /\ h198.lv 6 = [0,1,7,8] /\ h198.lv 7 = [4] := by decide +kernel
@[go_sem] def h198_q := hplain h198 rfl rfl rfl
@[go_sem] theorem h198_t : h198.tk = [] /\ h198.mt = [] /\ h198.pc = [] := ⟨rfl, rfl, rfl⟩
theorem h198_k : FK Tryz.prog 198 Tryz.f198 h198 := ⟨by kernel_rfl, by kernel_rfl, Tryz.func198, by kernel_rfl⟩
def h134 : Hint := hm [3,16] [5] [] [7]
@[go_sem] theorem h134_l : h134.lv 0 = [0,1] /\ h134.lv 1 = [4] := by decide +kernel
@[go_sem] def h134_q := hplain h134 rfl rfl rfl
@[go_sem] theorem h134_t : h134.tk = [5] /\ h134.mt = [] /\ h134.pc = [7] := ⟨rfl, rfl, rfl⟩
theorem h134_k : FK Tryz.prog 134 Tryz.f134 h134 := ⟨by kernel_rfl, by kernel_rfl, Tryz.func134, by kernel_rfl⟩
def h162 : Hint := hm [3,32,8] [] [] [9]
@[go_sem] theorem h162_l : h162.lv 0 = [0,1] /\ h162.lv 1 = [5] /\ h162.lv 2 = [3] := by decide +kernel
@[go_sem] def h162_q := hplain h162 rfl rfl rfl
@[go_sem] theorem h162_t : h162.tk = [] /\ h162.mt = [] /\ h162.pc = [9] := ⟨rfl, rfl, rfl⟩
theorem h162_k : FK Tryz.prog 162 Tryz.f162 h162 := ⟨by kernel_rfl, by kernel_rfl, Tryz.func162, by kernel_rfl⟩
def h231 : Hint := hm [3,8] [] [] []
@[go_sem] theorem h231_l : h231.lv 0 = [0,1] /\ h231.lv 1 = [3] := by decide +kernel
@[go_sem] def h231_q := hplain h231 rfl rfl rfl
@[go_sem] theorem h231_t : h231.tk = [] /\ h231.mt = [] /\ h231.pc = [] := ⟨rfl, rfl, rfl⟩
theorem h231_k : FK Tryz.prog 231 Tryz.f231 h231 := ⟨by kernel_rfl, by kernel_rfl, Tryz.func231, by kernel_rfl⟩
def h163 : Hint := hm [9,16] [5] [] []
@[go_sem] theorem h163_l : h163.lv 0 = [0,3] /\ h163.lv 1 = [4] := by decide +kernel
@[go_sem] def h163_q := hplain h163 rfl rfl rfl
@[go_sem] theorem h163_t : h163.tk = [5] /\ h163.mt = [] /\ h163.pc = [] := ⟨rfl, rfl, rfl⟩
theorem h163_k : FK Tryz.prog 163 Tryz.f163 h163 := ⟨by kernel_rfl, by kernel_rfl, Tryz.func163, by kernel_rfl⟩
def h89 : Hint := hm [12,44,524332,16,76,274877906956,16,7696581394444,0xf000000000c,7696581394828,4511296208764940,16,7696581394444,520,0x400000000000000000,16,16] [] [] [12,52,58,68]
@[go_sem] theorem h89_l : h89.lv 0 = [2,3] /\ h89.lv 1 = [2,3,5] /\ h89.lv 2 = [2,3,5,19] /\ h89.lv 3 = [4] /\ h89.lv 4 = [2,3,6] /\ h89.lv 5 = [2,3,38] /\ h89.lv 6 = [4] /\ h89.lv 7 = [2,3,40,41,42] /\ h89.lv 8 = [2,3,40,41,42,43] /\ h89.lv 9 = [2,3,7,8,40,41,42] /\ h89.lv 10 = [2,3,40,41,42,52] /\ h89.lv 11 = [4] /\ h89.lv 12 = [2,3,40,41,42] /\ h89.lv 13 = [3,9] /\ h89.lv 14 = [70] /\ h89.lv 15 = [4] /\ h89.lv 16 = [4] := by decide +kernel
@[go_sem] def h89_q := hplain h89 rfl rfl rfl
@[go_sem] theorem h89_t : h89.tk = [] /\ h89.mt = [] /\ h89.pc = [12,52,58,68] := ⟨rfl, rfl, rfl⟩
theorem h89_k : FK Tryz.prog 89 Tryz.f89 h89 := ⟨by kernel_rfl, by kernel_rfl, Tryz.func89, by kernel_rfl⟩
def h164 : Hint := hm [1,4] [] [] []
@[go_sem] theorem h164_l : h164.lv 0 = [0] /\ h164.lv 1 = [2] := by decide +kernel
@[go_sem] def h164_q := hplain h164 rfl rfl rfl
@[go_sem] theorem h164_t : h164.tk = [] /\ h164.mt = [] /\ h164.pc = [] := ⟨rfl, rfl, rfl⟩
theorem h164_k : FK Tryz.prog 164 Tryz.f164 h164 := ⟨by kernel_rfl, by kernel_rfl, Tryz.func164, by kernel_rfl⟩
def h165 : Hint := hm [3,1027,16,12291,28675,12323,16789507,16,12291,16] [] [] []
@[go_sem] theorem h165_l : h165.lv 0 = [0,1] /\ h165.lv 1 = [0,1,10] /\ h165.lv 2 = [4] /\ h165.lv 3 = [0,1,12,13] /\ h165.lv 4 = [0,1,12,13,14] /\ h165.lv 5 = [0,1,5,12,13] /\ h165.lv 6 = [0,1,12,13,24] /\ h165.lv 7 = [4] /\ h165.lv 8 = [0,1,12,13] /\ h165.lv 9 = [4] := by decide +kernel
@[go_sem] def h165_q := hplain h165 rfl rfl rfl
@[go_sem] theorem h165_t : h165.tk = [] /\ h165.mt = [] /\ h165.pc = [] := ⟨rfl, rfl, rfl⟩
theorem h165_k : FK Tryz.prog 165 Tryz.f165 h165 := ⟨by kernel_rfl, by kernel_rfl, Tryz.func165, by kernel_rfl⟩
def h90 : Hint := hx [3,67,195,14680257,31457473,14680769,14681281,2162164929,14683329,3848305380545,8246351891649,3848305388737,3848305396929,3848305380545,3848305380545,14748865,15142081,0x4000000000000e70cc1,15142081,0x800000000000000000000000e50cc1,48,0x10000000000000000000000000e10cc1,14746817,14680257,14680257,48] [21,52] [] [] [36,48,93] [(14, 5), (24, 2)] [18]
@[go_sem] theorem h90_l : h90.lv 0 = [0,1] /\ h90.lv 1 = [0,1,6] /\ h90.lv 2 = [0,1,6,7] /\ h90.lv 3 = [0,6,7,21,22,23] /\ h90.lv 4 = [0,6,7,21,22,23,24] /\ h90.lv 5 = [0,6,7,9,21,22,23] /\ h90.lv 6 = [0,6,7,10,21,22,23] /\ h90.lv 7 = [0,6,7,10,21,22,23,31] /\ h90.lv 8 = [0,6,7,10,11,21,22,23] /\ h90.lv 9 = [0,6,7,10,11,21,22,23,39,40,41] /\ h90.lv 10 = [0,6,7,10,11,21,22,23,39,40,41,42] /\ h90.lv 11 = [0,6,7,10,11,13,21,22,23,39,40,41] /\ h90.lv 12 = [0,6,7,10,11,14,21,22,23,39,40,41] /\ h90.lv 13 = [0,6,7,10,11,21,22,23,39,40,41] /\ h90.lv 14 = [0,6,7,10,11,21,22,23,39,40,41] /\ h90.lv 15 = [0,6,7,10,11,16,21,22,23] /\ h90.lv 16 = [0,6,7,10,11,16,17,18,21,22,23] /\ h90.lv 17 = [0,6,7,10,11,16,17,18,21,22,23,74] /\ h90.lv 18 = [0,6,7,10,11,16,17,18,21,22,23] /\ h90.lv 19 = [0,6,7,10,11,16,18,21,22,23,119] /\ h90.lv 20 = [4,5] /\ h90.lv 21 = [0,6,7,10,11,16,21,22,23,124] /\ h90.lv 22 = [0,6,7,10,16,21,22,23] /\ h90.lv 23 = [0,6,7,21,22,23] /\ h90.lv 24 = [0,6,7,21,22,23] /\ h90.lv 25 = [4,5] := by decide +kernel
@[go_sem] theorem h90_g : h90.ct 0 = none /\ h90.ct 1 = none /\ h90.ct 2 = none /\ h90.ct 3 = none /\ h90.ct 4 = none /\ h90.ct 5 = none /\ h90.ct 6 = none /\ h90.ct 7 = none /\ h90.ct 8 = none /\ h90.ct 9 = none /\ h90.ct 10 = none /\ h90.ct 11 = none /\ h90.ct 12 = none /\ h90.ct 13 = none /\ h90.ct 14 = some 5 /\ h90.ct 15 = none /\ h90.ct 16 = none /\ h90.ct 17 = none /\ h90.ct 18 = none /\ h90.ct 19 = none /\ h90.ct 20 = none /\ h90.ct 21 = none /\ h90.ct 22 = none /\ h90.ct 23 = none /\ h90.ct 24 = some 2 /\ h90.ct 25 = none := by decide +kernel
@[go_sem] theorem h90_z (k : Nat) : h90.at k = [] := rfl
@[go_sem] theorem h90_y : h90.dn 0 = false /\ h90.dn 1 = false /\ h90.dn 2 = false /\ h90.dn 3 = false /\ h90.dn 4 = false /\ h90.dn 5 = false /\ h90.dn 6 = false /\ h90.dn 7 = false /\ h90.dn 8 = false /\ h90.dn 9 = false /\ h90.dn 10 = false /\ h90.dn 11 = false /\ h90.dn 12 = false /\ h90.dn 13 = false /\ h90.dn 14 = false /\ h90.dn 15 = false /\ h90.dn 16 = false /\ h90.dn 17 = false /\ h90.dn 18 = true /\ h90.dn 19 = false /\ h90.dn 20 = false /\ h90.dn 21 = false /\ h90.dn 22 = false /\ h90.dn 23 = false /\ h90.dn 24 = false /\ h90.dn 25 = false := by decide +kernel
@[go_sem] theorem h90_t : h90.tk = [21,52] /\ h90.mt = [] /\ h90.pc = [36,48,93] := ⟨rfl, rfl, rfl⟩
theorem h90_k : FK Tryz.prog 90 Tryz.f90 h90 := ⟨by kernel_rfl, by kernel_rfl, Tryz.func90, by kernel_rfl⟩
def h37 : Hint := hx [3,35,32803,16,917507,1966083,917635,917891,269353347,16,918019,34360656387,16,917507,2048,35184372088832,16,16] [39,40] [] [] [13,26,33] [(13, 0)] []
@[go_sem] theorem h37_l : h37.lv 0 = [0,1] /\ h37.lv 1 = [0,1,5] /\ h37.lv 2 = [0,1,5,15] /\ h37.lv 3 = [4] /\ h37.lv 4 = [0,1,17,18,19] /\ h37.lv 5 = [0,1,17,18,19,20] /\ h37.lv 6 = [0,1,7,17,18,19] /\ h37.lv 7 = [0,1,7,8,17,18,19] /\ h37.lv 8 = [0,1,7,8,17,18,19,28] /\ h37.lv 9 = [4] /\ h37.lv 10 = [0,1,9,17,18,19] /\ h37.lv 11 = [0,1,9,17,18,19,35] /\ h37.lv 12 = [4] /\ h37.lv 13 = [0,1,17,18,19] /\ h37.lv 14 = [11] /\ h37.lv 15 = [45] /\ h37.lv 16 = [4] /\ h37.lv 17 = [4] := by decide +kernel
@[go_sem] theorem h37_g : h37.ct 0 = none /\ h37.ct 1 = none /\ h37.ct 2 = none /\ h37.ct 3 = none /\ h37.ct 4 = none /\ h37.ct 5 = none /\ h37.ct 6 = none /\ h37.ct 7 = none /\ h37.ct 8 = none /\ h37.ct 9 = none /\ h37.ct 10 = none /\ h37.ct 11 = none /\ h37.ct 12 = none /\ h37.ct 13 = some 0 /\ h37.ct 14 = none /\ h37.ct 15 = none /\ h37.ct 16 = none /\ h37.ct 17 = none := by decide +kernel
@[go_sem] theorem h37_z (k : Nat) : h37.at k = [] := rfl
@[go_sem] theorem h37_y (k : Nat) : h37.dn k = false := Eq.trans rfl rfl
@[go_sem] theorem h37_t : h37.tk = [39,40] /\ h37.mt = [] /\ h37.pc = [13,26,33] := ⟨rfl, rfl, rfl⟩
theorem h37_k : FK Tryz.prog 37 Tryz.f37 h37 := ⟨by kernel_rfl, by kernel_rfl, Tryz.func37, by kernel_rfl⟩
def h195 : Hint := hm [3,387,899,419,65955,16,387,16] [] [] []
@[go_sem] theorem h195_l : h195.lv 0 = [0,1] /\ h195.lv 1 = [0,1,7,8] /\ h195.lv 2 = [0,1,7,8,9] /\ h195.lv 3 = [0,1,5,7,8] /\ h195.lv 4 = [0,1,5,7,8,16] /\ h195.lv 5 = [4] /\ h195.lv 6 = [0,1,7,8] /\ h195.lv 7 = [4] := by decide +kernel
@[go_sem] def h195_q := hplain h195 rfl rfl rfl
@[go_sem] theorem h195_t : h195.tk = [] /\ h195.mt = [] /\ h195.pc = [] := ⟨rfl, rfl, rfl⟩
def h131 : Hint := hm [3,16] [5] [] []
@[go_sem] theorem h131_l : h131.lv 0 = [0,1] /\ h131.lv 1 = [4] := by decide +kernel
@[go_sem] def h131_q := hplain h131 rfl rfl rfl
@[go_sem] theorem h131_t : h131.tk = [5] /\ h131.mt = [] /\ h131.pc = [] := ⟨rfl, rfl, rfl⟩
def h197 : Hint := hm [2,4] [] [] []
@[go_sem] theorem h197_l : h197.lv 0 = [1] /\ h197.lv 1 = [2] := by decide +kernel
@[go_sem] def h197_q := hplain h197 rfl rfl rfl
def h132 : Hint := hm [2,10,136,24,65560,1,4] [] [] []
@[go_sem] theorem h132_l : h132.lv 0 = [1] /\ h132.lv 1 = [1,3] /\ h132.lv 2 = [3,7] /\ h132.lv 3 = [3,4] /\ h132.lv 4 = [3,4,16] /\ h132.lv 5 = [0] /\ h132.lv 6 = [2] := by decide +kernel
@[go_sem] def h132_q := hplain h132 rfl rfl rfl
@[go_sem] theorem h132_t : h132.tk = [] /\ h132.mt = [] /\ h132.pc = [] := ⟨rfl, rfl, rfl⟩
def h133 : Hint := hm [3,8] [] [] []
@[go_sem] theorem h133_l : h133.lv 0 = [0,1] /\ h133.lv 1 = [3] := by decide +kernel
@[go_sem] def h133_q := hplain h133 rfl rfl rfl
@[go_sem] theorem h133_t : h133.tk = [] /\ h133.mt = [] /\ h133.pc = [] := ⟨rfl, rfl, rfl⟩
def h57 : Hint := hx [12,40,16424,16,917512,1966088,917640,135135368,16,8796093939720,16,917512,16] [] [] [] [12,25,41] [(11, 2)] []
@[go_sem] theorem h57_l : h57.lv 0 = [2,3] /\ h57.lv 1 = [3,5] /\ h57.lv 2 = [3,5,14] /\ h57.lv 3 = [4] /\ h57.lv 4 = [3,17,18,19] /\ h57.lv 5 = [3,17,18,19,20] /\ h57.lv 6 = [3,7,17,18,19] /\ h57.lv 7 = [3,7,17,18,19,27] /\ h57.lv 8 = [4] /\ h57.lv 9 = [3,17,18,19,43] /\ h57.lv 10 = [4] /\ h57.lv 11 = [3,17,18,19] /\ h57.lv 12 = [4] := by decide +kernel
@[go_sem] theorem h57_g : h57.ct 0 = none /\ h57.ct 1 = none /\ h57.ct 2 = none /\ h57.ct 3 = none /\ h57.ct 4 = none /\ h57.ct 5 = none /\ h57.ct 6 = none /\ h57.ct 7 = none /\ h57.ct 8 = none /\ h57.ct 9 = none /\ h57.ct 10 = none /\ h57.ct 11 = some 2 /\ h57.ct 12 = none := by decide +kernel
@[go_sem] theorem h57_z (k : Nat) : h57.at k = [] := rfl
@[go_sem] theorem h57_y (k : Nat) : h57.dn k = false := Eq.trans rfl rfl
@[go_sem] theorem h57_t : h57.tk = [] /\ h57.mt = [] /\ h57.pc = [12,25,41] := ⟨rfl, rfl, rfl⟩
def h200 : Hint := hm [1,2] [] [] [3]
@[go_sem] theorem h200_l : h200.lv 0 = [0] /\ h200.lv 1 = [1] := by decide +kernel
@[go_sem] def h200_q := hplain h200 rfl rfl rfl
@[go_sem] theorem h200_t : h200.tk = [] /\ h200.mt = [] /\ h200.pc = [3] := ⟨rfl, rfl, rfl⟩
def h135 : Hint := hm [2,4] [] [] [4]
@[go_sem] theorem h135_l : h135.lv 0 = [1] /\ h135.lv 1 = [2] := by decide +kernel
@[go_sem] def h135_q := hplain h135 rfl rfl rfl
@[go_sem] theorem h135_t : h135.tk = [] /\ h135.mt = [] /\ h135.pc = [4] := ⟨rfl, rfl, rfl⟩
def h58 : Hint := hm [9,41,553,16,16] [11] [] [7,13]
@[go_sem] theorem h58_l : h58.lv 0 = [0,3] /\ h58.lv 1 = [0,3,5] /\ h58.lv 2 = [0,3,5,9] /\ h58.lv 3 = [4] /\ h58.lv 4 = [4] := by decide +kernel
@[go_sem] def h58_q := hplain h58 rfl rfl rfl
@[go_sem] theorem h58_t : h58.tk = [11] /\ h58.mt = [] /\ h58.pc = [7,13] := ⟨rfl, rfl, rfl⟩
def h203 : Hint := hx [19,51,3634,7730,3762,3634,3634,16] [9] [] [] [18,19] [(6, 2)] []
@[go_sem] theorem h203_l : h203.lv 0 = [0,1,4] /\ h203.lv 1 = [0,1,4,5] /\ h203.lv 2 = [1,4,5,9,10,11] /\ h203.lv 3 = [1,4,5,9,10,11,12] /\ h203.lv 4 = [1,4,5,7,9,10,11] /\ h203.lv 5 = [1,4,5,9,10,11] /\ h203.lv 6 = [1,4,5,9,10,11] /\ h203.lv 7 = [4] := by decide +kernel
@[go_sem] theorem h203_g : h203.ct 0 = none /\ h203.ct 1 = none /\ h203.ct 2 = none /\ h203.ct 3 = none /\ h203.ct 4 = none /\ h203.ct 5 = none /\ h203.ct 6 = some 2 /\ h203.ct 7 = none := by decide +kernel
@[go_sem] theorem h203_z (k : Nat) : h203.at k = [] := rfl
@[go_sem] theorem h203_y (k : Nat) : h203.dn k = false := Eq.trans rfl rfl
@[go_sem] theorem h203_t : h203.tk = [9] /\ h203.mt = [] /\ h203.pc = [18,19] := ⟨rfl, rfl, rfl⟩
def h137 : Hint := hm [6,4] [] [] [5]
@[go_sem] theorem h137_l : h137.lv 0 = [1,2] /\ h137.lv 1 = [2] := by decide +kernel
@[go_sem] def h137_q := hplain h137 rfl rfl rfl
@[go_sem] theorem h137_t : h137.tk = [] /\ h137.mt = [] /\ h137.pc = [5] := ⟨rfl, rfl, rfl⟩
def h208 : Hint := hm [3,387,899,419,65955,16,387,16] [] [] []
@[go_sem] theorem h208_l : h208.lv 0 = [0,1] /\ h208.lv 1 = [0,1,7,8] /\ h208.lv 2 = [0,1,7,8,9] /\ h208.lv 3 = [0,1,5,7,8] /\ h208.lv 4 = [0,1,5,7,8,16] /\ h208.lv 5 = [4] /\ h208.lv 6 = [0,1,7,8] /\ h208.lv 7 = [4] := by decide +kernel
@[go_sem] def h208_q := hplain h208 rfl rfl rfl
@[go_sem] theorem h208_t : h208.tk = [] /\ h208.mt = [] /\ h208.pc = [] := ⟨rfl, rfl, rfl⟩
def h143 : Hint := hm [3,16] [5] [] []
@[go_sem] theorem h143_l : h143.lv 0 = [0,1] /\ h143.lv 1 = [4] := by decide +kernel
@[go_sem] def h143_q := hplain h143 rfl rfl rfl
@[go_sem] theorem h143_t : h143.tk = [5] /\ h143.mt = [] /\ h143.pc = [] := ⟨rfl, rfl, rfl⟩
def h253 : Hint := hm [6,8] [] [] []
@[go_sem] theorem h253_l : h253.lv 0 = [1,2] /\ h253.lv 1 = [3] := by decide +kernel
@[go_sem] def h253_q := hplain h253 rfl rfl rfl
@[go_sem] theorem h253_t : h253.tk = [] /\ h253.mt = [] /\ h253.pc = [] := ⟨rfl, rfl, rfl⟩
def h206 : Hint := hm [35,64] [12] [] []
@[go_sem] theorem h206_l : h206.lv 0 = [0,1,5] /\ h206.lv 1 = [6] := by decide +kernel
@[go_sem] def h206_q := hplain h206 rfl rfl rfl
@[go_sem] theorem h206_t : h206.tk = [12] /\ h206.mt = [] /\ h206.pc = [] := ⟨rfl, rfl, rfl⟩
def h140 : Hint := hm [2,18,50,4,65554,65554,4,268435474,4,274877906962,274877906946,4,4] [] [] [9,36,47]
@[go_sem] theorem h140_l : h140.lv 0 = [1] /\ h140.lv 1 = [1,4] /\ h140.lv 2 = [1,4,5] /\ h140.lv 3 = [2] /\ h140.lv 4 = [1,4,16] /\ h140.lv 5 = [1,4,16] /\ h140.lv 6 = [2] /\ h140.lv 7 = [1,4,28] /\ h140.lv 8 = [2] /\ h140.lv 9 = [1,4,38] /\ h140.lv 10 = [1,38] /\ h140.lv 11 = [2] /\ h140.lv 12 = [2] := by decide +kernel
@[go_sem] def h140_q := hplain h140 rfl rfl rfl
@[go_sem] theorem h140_t : h140.tk = [] /\ h140.mt = [] /\ h140.pc = [9,36,47] := ⟨rfl, rfl, rfl⟩
def h139 : Hint := hm [1,2] [] [] [3]
@[go_sem] theorem h139_l : h139.lv 0 = [0] /\ h139.lv 1 = [1] := by decide +kernel
@[go_sem] def h139_q := hplain h139 rfl rfl rfl
@[go_sem] theorem h139_t : h139.tk = [] /\ h139.mt = [] /\ h139.pc = [3] := ⟨rfl, rfl, rfl⟩
def h59 : Hint := hm [2,4] [] [] [4]
@[go_sem] theorem h59_l : h59.lv 0 = [1] /\ h59.lv 1 = [2] := by decide +kernel
@[go_sem] def h59_q := hplain h59 rfl rfl rfl
@[go_sem] theorem h59_t : h59.tk = [] /\ h59.mt = [] /\ h59.pc = [4] := ⟨rfl, rfl, rfl⟩
def h207 : Hint := hm [3,387,899,419,65955,16,387,16] [] [] []
@[go_sem] theorem h207_l : h207.lv 0 = [0,1] /\ h207.lv 1 = [0,1,7,8] /\ h207.lv 2 = [0,1,7,8,9] /\ h207.lv 3 = [0,1,5,7,8] /\ h207.lv 4 = [0,1,5,7,8,16] /\ h207.lv 5 = [4] /\ h207.lv 6 = [0,1,7,8] /\ h207.lv 7 = [4] := by decide +kernel
@[go_sem] def h207_q := hplain h207 rfl rfl rfl
@[go_sem] theorem h207_t : h207.tk = [] /\ h207.mt = [] /\ h207.pc = [] := ⟨rfl, rfl, rfl⟩
def h141 : Hint := hm [3,16] [5] [] []
@[go_sem] theorem h141_l : h141.lv 0 = [0,1] /\ h141.lv 1 = [4] := by decide +kernel
@[go_sem] def h141_q := hplain h141 rfl rfl rfl
@[go_sem] theorem h141_t : h141.tk = [5] /\ h141.mt = [] /\ h141.pc = [] := ⟨rfl, rfl, rfl⟩
def h142 : Hint := hm [6,8] [] [] []
@[go_sem] theorem h142_l : h142.lv 0 = [1,2] /\ h142.lv 1 = [3] := by decide +kernel
@[go_sem] def h142_q := hplain h142 rfl rfl rfl
@[go_sem] theorem h142_t : h142.tk = [] /\ h142.mt = [] /\ h142.pc = [] := ⟨rfl, rfl, rfl⟩
def h144 : Hint := hm [6,8] [] [] [6]
@[go_sem] theorem h144_l : h144.lv 0 = [1,2] /\ h144.lv 1 = [3] := by decide +kernel
@[go_sem] def h144_q := hplain h144 rfl rfl rfl
@[go_sem] theorem h144_t : h144.tk = [] /\ h144.mt = [] /\ h144.pc = [6] := ⟨rfl, rfl, rfl⟩
def h60 : Hint := hm [12,16396,16,16] [] [] []
@[go_sem] theorem h60_l : h60.lv 0 = [2,3] /\ h60.lv 1 = [2,3,14] /\ h60.lv 2 = [4] /\ h60.lv 3 = [4] := by decide +kernel
@[go_sem] def h60_q := hplain h60 rfl rfl rfl
@[go_sem] theorem h60_t : h60.tk = [] /\ h60.mt = [] /\ h60.pc = [] := ⟨rfl, rfl, rfl⟩
def h61 : Hint := hm [6,16] [] [] [7]
@[go_sem] theorem h61_l : h61.lv 0 = [1,2] /\ h61.lv 1 = [4] := by decide +kernel
@[go_sem] def h61_q := hplain h61 rfl rfl rfl
@[go_sem] theorem h61_t : h61.tk = [] /\ h61.mt = [] /\ h61.pc = [7] := ⟨rfl, rfl, rfl⟩
def h63 : Hint := hx [3,35,3618,7714,3746,528034,16,3618,3618,16] [9] [] [] [] [(8, 1)] []
@[go_sem] theorem h63_l : h63.lv 0 = [0,1] /\ h63.lv 1 = [0,1,5] /\ h63.lv 2 = [1,5,9,10,11] /\ h63.lv 3 = [1,5,9,10,11,12] /\ h63.lv 4 = [1,5,7,9,10,11] /\ h63.lv 5 = [1,5,7,9,10,11,19] /\ h63.lv 6 = [4] /\ h63.lv 7 = [1,5,9,10,11] /\ h63.lv 8 = [1,5,9,10,11] /\ h63.lv 9 = [4] := by decide +kernel
@[go_sem] theorem h63_g : h63.ct 0 = none /\ h63.ct 1 = none /\ h63.ct 2 = none /\ h63.ct 3 = none /\ h63.ct 4 = none /\ h63.ct 5 = none /\ h63.ct 6 = none /\ h63.ct 7 = none /\ h63.ct 8 = some 1 /\ h63.ct 9 = none := by decide +kernel
@[go_sem] theorem h63_z (k : Nat) : h63.at k = [] := rfl
@[go_sem] theorem h63_y (k : Nat) : h63.dn k = false := Eq.trans rfl rfl
@[go_sem] theorem h63_t : h63.tk = [9] /\ h63.mt = [] /\ h63.pc = [] := ⟨rfl, rfl, rfl⟩
def h64 : Hint := hm [6,4] [] [] []
@[go_sem] theorem h64_l : h64.lv 0 = [1,2] /\ h64.lv 1 = [2] := by decide +kernel
@[go_sem] def h64_q := hplain h64 rfl rfl rfl
@[go_sem] theorem h64_t : h64.tk = [] /\ h64.mt = [] /\ h64.pc = [] := ⟨rfl, rfl, rfl⟩
def h12 : Hint := hx [12,17179869196,16,44,549755813932,16,76,35184372088908,16,0x700000000000c,0xf00000000000c,0x700000000010c,0x700000000030c,0x100700000000030c,16,0x700000000050c,0x4000700000000050c,16,0x200000700000000000c,16,0x700000000000c,0x70000000000000000008,0xf0000000000000000008,0x70000000000000001008,0x20000000070000000000000000008,16,0x70000000000000000008,0x200000000000000000000000000000,16,16] [] [] [] [37,43,58,64,72,85,91,106,117] [(20, 2), (26, 2)] []
@[go_sem] theorem h12_l : h12.lv 0 = [2,3] /\ h12.lv 1 = [2,3,34] /\ h12.lv 2 = [4] /\ h12.lv 3 = [2,3,5] /\ h12.lv 4 = [2,3,5,39] /\ h12.lv 5 = [4] /\ h12.lv 6 = [2,3,6] /\ h12.lv 7 = [2,3,6,45] /\ h12.lv 8 = [4] /\ h12.lv 9 = [2,3,48,49,50] /\ h12.lv 10 = [2,3,48,49,50,51] /\ h12.lv 11 = [2,3,8,48,49,50] /\ h12.lv 12 = [2,3,8,9,48,49,50] /\ h12.lv 13 = [2,3,8,9,48,49,50,60] /\ h12.lv 14 = [4] /\ h12.lv 15 = [2,3,8,10,48,49,50] /\ h12.lv 16 = [2,3,8,10,48,49,50,66] /\ h12.lv 17 = [4] /\ h12.lv 18 = [2,3,48,49,50,73] /\ h12.lv 19 = [4] /\ h12.lv 20 = [2,3,48,49,50] /\ h12.lv 21 = [3,76,77,78] /\ h12.lv 22 = [3,76,77,78,79] /\ h12.lv 23 = [3,12,76,77,78] /\ h12.lv 24 = [3,76,77,78,113] /\ h12.lv 25 = [4] /\ h12.lv 26 = [3,76,77,78] /\ h12.lv 27 = [117] /\ h12.lv 28 = [4] /\ h12.lv 29 = [4] := by decide +kernel
@[go_sem] theorem h12_g : h12.ct 0 = none /\ h12.ct 1 = none /\ h12.ct 2 = none /\ h12.ct 3 = none /\ h12.ct 4 = none /\ h12.ct 5 = none /\ h12.ct 6 = none /\ h12.ct 7 = none /\ h12.ct 8 = none /\ h12.ct 9 = none /\ h12.ct 10 = none /\ h12.ct 11 = none /\ h12.ct 12 = none /\ h12.ct 13 = none /\ h12.ct 14 = none /\ h12.ct 15 = none /\ h12.ct 16 = none /\ h12.ct 17 = none /\ h12.ct 18 = none /\ h12.ct 19 = none /\ h12.ct 20 = some 2 /\ h12.ct 21 = none /\ h12.ct 22 = none /\ h12.ct 23 = none /\ h12.ct 24 = none /\ h12.ct 25 = none /\ h12.ct 26 = some 2 /\ h12.ct 27 = none /\ h12.ct 28 = none /\ h12.ct 29 = none := by decide +kernel
@[go_sem] theorem h12_z (k : Nat) : h12.at k = [] := rfl
@[go_sem] theorem h12_y (k : Nat) : h12.dn k = false := Eq.trans rfl rfl
@[go_sem] theorem h12_t : h12.tk = [] /\ h12.mt = [] /\ h12.pc = [37,43,58,64,72,85,91,106,117] := ⟨rfl, rfl, rfl⟩
end Go.AI
set_option linter.defProp false
namespace Go.AI
open Go.Proofs
def h3 : Hint := hm [12,44,16428,16,16] [] [] [6,8,12,20,23]
@[go_sem] theorem h3_l : h3.lv 0 = [2,3] /\ h3.lv 1 = [2,3,5] /\ h3.lv 2 = [2,3,5,14] /\ h3.lv 3 = [4] /\ h3.lv 4 = [4] := by decide +kernel
@[go_sem] def h3_q := hplain h3 rfl rfl rfl
@[go_sem] theorem h3_t : h3.tk = [] /\ h3.mt = [] /\ h3.pc = [6,8,12,20,23] := ⟨rfl, rfl, rfl⟩
def h10 : Hint := hm [2,10,4] [] [] [6,11,17]
@[go_sem] theorem h10_l : h10.lv 0 = [1] /\ h10.lv 1 = [1,3] /\ h10.lv 2 = [2] := by decide +kernel
@[go_sem] def h10_q := hplain h10 rfl rfl rfl
@[go_sem] theorem h10_t : h10.tk = [] /\ h10.mt = [] /\ h10.pc = [6,11,17] := ⟨rfl, rfl, rfl⟩
end Go.AI
namespace Go.AI
open Go.Proofs
@[go_sem] theorem und75 : Tryz.prog.underlying 75 = some (.slice 134) := by kernel_rfl
end Go.AI
set_option linter.defProp false
namespace Go.AI
open Go.Proofs
def h40 : Hint := hm [3,32,160,1835168,3932320,1835680,1835168,1835168,16] [11,12,24,31] [] []
@[go_sem] theorem h40_l : h40.lv 0 = [0,1] /\ h40.lv 1 = [5] /\ h40.lv 2 = [5,7] /\ h40.lv 3 = [5,7,18,19,20] /\ h40.lv 4 = [5,7,18,19,20,21] /\ h40.lv 5 = [5,7,9,18,19,20] /\ h40.lv 6 = [5,7,18,19,20] /\ h40.lv 7 = [5,7,18,19,20] /\ h40.lv 8 = [4] := by decide +kernel
@[go_sem] def h40_q := hplain h40 rfl rfl rfl
@[go_sem] theorem h40_t : h40.tk = [11,12,24,31] /\ h40.mt = [] /\ h40.pc = [] := ⟨rfl, rfl, rfl⟩
theorem h40_k : FK Tryz.prog 40 Tryz.f40 h40 := ⟨by kernel_rfl, by kernel_rfl, Tryz.func40, by kernel_rfl⟩
def h93 : Hint := hm [2,4] [] [] []
@[go_sem] theorem h93_l : h93.lv 0 = [1] /\ h93.lv 1 = [2] := by decide +kernel
@[go_sem] def h93_q := hplain h93 rfl rfl rfl
theorem h93_k : FK Tryz.prog 93 Tryz.f93 h93 := ⟨by kernel_rfl, by kernel_rfl, Tryz.func93, by kernel_rfl⟩
def h91 : Hint := hm [12,44,16] [] [] [10]
@[go_sem] theorem h91_l : h91.lv 0 = [2,3] /\ h91.lv 1 = [2,3,5] /\ h91.lv 2 = [4] := by decide +kernel
@[go_sem] def h91_q := hplain h91 rfl rfl rfl
@[go_sem] theorem h91_t : h91.tk = [] /\ h91.mt = [] /\ h91.pc = [10] := ⟨rfl, rfl, rfl⟩
theorem h91_k : FK Tryz.prog 91 Tryz.f91 h91 := ⟨by kernel_rfl, by kernel_rfl, Tryz.func91, by kernel_rfl⟩
def h39 : Hint := hm [3,2051,16,35,32803,35,99,268435491,16,16] [] [] [26]
@[go_sem] theorem h39_l : h39.lv 0 = [0,1] /\ h39.lv 1 = [0,1,11] /\ h39.lv 2 = [4] /\ h39.lv 3 = [0,1,5] /\ h39.lv 4 = [0,1,5,15] /\ h39.lv 5 = [0,1,5] /\ h39.lv 6 = [0,1,5,6] /\ h39.lv 7 = [0,1,5,28] /\ h39.lv 8 = [4] /\ h39.lv 9 = [4] := by decide +kernel
@[go_sem] def h39_q := hplain h39 rfl rfl rfl
@[go_sem] theorem h39_t : h39.tk = [] /\ h39.mt = [] /\ h39.pc = [26] := ⟨rfl, rfl, rfl⟩
theorem h39_k : FK Tryz.prog 39 Tryz.f39 h39 := ⟨by kernel_rfl, by kernel_rfl, Tryz.func39, by kernel_rfl⟩
def h7 : Hint := hm [12,44,65580,16,236,492,492,1772,274877907180,16,1099511628012,16,0x20000000000000006c,16,2156,0x200000000000000086c,2156,0x1000000000000000000086c,16,16] [33,47,93] [] [12,15,20,27,36,67,87,94,99,100]
@[go_sem] theorem h7_l : h7.lv 0 = [2,3] /\ h7.lv 1 = [2,3,5] /\ h7.lv 2 = [2,3,5,16] /\ h7.lv 3 = [4] /\ h7.lv 4 = [2,3,5,6,7] /\ h7.lv 5 = [2,3,5,6,7,8] /\ h7.lv 6 = [2,3,5,6,7,8] /\ h7.lv 7 = [2,3,5,6,7,9,10] /\ h7.lv 8 = [2,3,5,6,7,38] /\ h7.lv 9 = [4] /\ h7.lv 10 = [2,3,5,6,7,40] /\ h7.lv 11 = [4] /\ h7.lv 12 = [2,3,5,6,69] /\ h7.lv 13 = [4] /\ h7.lv 14 = [2,3,5,6,11] /\ h7.lv 15 = [2,3,5,6,11,73] /\ h7.lv 16 = [2,3,5,6,11] /\ h7.lv 17 = [2,3,5,6,11,88] /\ h7.lv 18 = [4] /\ h7.lv 19 = [4] := by decide +kernel
@[go_sem] def h7_q := hplain h7 rfl rfl rfl
@[go_sem] theorem h7_t : h7.tk = [33,47,93] /\ h7.mt = [] /\ h7.pc = [12,15,20,27,36,67,87,94,99,100] := ⟨rfl, rfl, rfl⟩
theorem h7_k : FK Tryz.prog 7 Tryz.f7 h7 := ⟨by kernel_rfl, by kernel_rfl, Tryz.func7, by kernel_rfl⟩
end Go.AI
