/- Closed facts about the program's types. Printed by fa.py. -/
import Derived.Test.YtofajkggflobkaaGreatDoorProg
import Derived.Test.YtofajkggflobkaaGreatDoorLi
import Derived.KernelRfl
namespace Go.AI
open Go.Proofs
@[go_sem] theorem cellsOf3 : Tryz.prog.cellsOf 3 = 1:=by kernel_rfl
@[go_sem] theorem bytesOf3 : Tryz.prog.bytesOf 3 = 8:=by kernel_rfl
@[go_sem] theorem ldk3 : ldk Tryz.prog 3 = some none:=by kernel_rfl
@[go_sem] theorem und3 : Tryz.prog.underlying 3 = some (.int .i64):=by kernel_rfl
@[go_sem] theorem zeroOk3 : zeroOk Tryz.prog 3 = true:=by kernel_rfl
@[go_sem] theorem info3 : (Tryz.prog.info? 3).isSome = true:=by kernel_rfl
@[go_sem] theorem zeroAV3 : zeroAV Tryz.prog 3 = some (.int .i64 0):=by kernel_rfl
@[go_sem] theorem cellsOf4 : Tryz.prog.cellsOf 4 = 1:=by kernel_rfl
@[go_sem] theorem bytesOf4 : Tryz.prog.bytesOf 4 = 1:=by kernel_rfl
@[go_sem] theorem ldk4 : ldk Tryz.prog 4 = some none:=by kernel_rfl
@[go_sem] theorem isBool4 : isBool Tryz.prog 4 = true:=by kernel_rfl
@[go_sem] theorem info4 : (Tryz.prog.info? 4).isSome = true:=by kernel_rfl
@[go_sem] theorem zeroAV4 : zeroAV Tryz.prog 4 = some (.bool false):=by kernel_rfl
@[go_sem] theorem cellsOf9 : Tryz.prog.cellsOf 9 = 1:=by kernel_rfl
@[go_sem] theorem bytesOf9 : Tryz.prog.bytesOf 9 = 16:=by kernel_rfl
@[go_sem] theorem ldk9 : ldk Tryz.prog 9 = some none:=by kernel_rfl
@[go_sem] theorem und9 : Tryz.prog.underlying 9 = some .string:=by kernel_rfl
@[go_sem] theorem zeroOk9 : zeroOk Tryz.prog 9 = true:=by kernel_rfl
@[go_sem] theorem info9 : (Tryz.prog.info? 9).isSome = true:=by kernel_rfl
@[go_sem] theorem cellsOf22 : Tryz.prog.cellsOf 22 = 1:=by kernel_rfl
@[go_sem] theorem ldk22 : ldk Tryz.prog 22 = some none:=by kernel_rfl
@[go_sem] theorem und22 : Tryz.prog.underlying 22 = some (.slice 117):=by kernel_rfl
@[go_sem] theorem cellsOf23 : Tryz.prog.cellsOf 23 = 1:=by kernel_rfl
@[go_sem] theorem ldk23 : ldk Tryz.prog 23 = some none:=by kernel_rfl
@[go_sem] theorem und23 : Tryz.prog.underlying 23 = some (.slice 166):=by kernel_rfl
@[go_sem] theorem cellsOf24 : Tryz.prog.cellsOf 24 = 1:=by kernel_rfl
@[go_sem] theorem ldk24 : ldk Tryz.prog 24 = some none:=by kernel_rfl
@[go_sem] theorem und24 : Tryz.prog.underlying 24 = some (.slice 77):=by kernel_rfl
@[go_sem] theorem cellsOf26 : Tryz.prog.cellsOf 26 = 3:=by kernel_rfl
@[go_sem] theorem ldk26 : ldk Tryz.prog 26 = some (some 3):=by kernel_rfl
@[go_sem] theorem fplace26_0 : fplace Tryz.prog 26 0 = some (22,0):=by kernel_rfl
@[go_sem] theorem fplace26_1 : fplace Tryz.prog 26 1 = some (23,1):=by kernel_rfl
@[go_sem] theorem fplace26_2 : fplace Tryz.prog 26 2 = some (24,2):=by kernel_rfl
@[go_sem] theorem cellsOf27 : Tryz.prog.cellsOf 27 = 1:=by kernel_rfl
@[go_sem] theorem ldk27 : ldk Tryz.prog 27 = some none:=by kernel_rfl
@[go_sem] theorem und27 : Tryz.prog.underlying 27 = some (.slice 115):=by kernel_rfl
@[go_sem] theorem cellsOf28 : Tryz.prog.cellsOf 28 = 1:=by kernel_rfl
@[go_sem] theorem ldk28 : ldk Tryz.prog 28 = some none:=by kernel_rfl
@[go_sem] theorem und28 : Tryz.prog.underlying 28 = some (.slice 89):=by kernel_rfl
@[go_sem] theorem cellsOf29 : Tryz.prog.cellsOf 29 = 1:=by kernel_rfl
@[go_sem] theorem ldk29 : ldk Tryz.prog 29 = some none:=by kernel_rfl
@[go_sem] theorem und29 : Tryz.prog.underlying 29 = some (.slice 66):=by kernel_rfl
@[go_sem] theorem cellsOf31 : Tryz.prog.cellsOf 31 = 6:=by kernel_rfl
@[go_sem] theorem ldk31 : ldk Tryz.prog 31 = some (some 6):=by kernel_rfl
@[go_sem] theorem fplace31_0 : fplace Tryz.prog 31 0 = some (26,0):=by kernel_rfl
@[go_sem] theorem fplace31_1 : fplace Tryz.prog 31 1 = some (27,3):=by kernel_rfl
@[go_sem] theorem fplace31_2 : fplace Tryz.prog 31 2 = some (28,4):=by kernel_rfl
@[go_sem] theorem fplace31_3 : fplace Tryz.prog 31 3 = some (29,5):=by kernel_rfl
@[go_sem] theorem cellsOf34 : Tryz.prog.cellsOf 34 = 10:=by kernel_rfl
@[go_sem] theorem bytesOf34 : Tryz.prog.bytesOf 34 = 80:=by kernel_rfl
@[go_sem] theorem ldk34 : ldk Tryz.prog 34 = some (some 10):=by kernel_rfl
@[go_sem] theorem und34 : Tryz.prog.underlying 34 = some (.array 10 3):=by kernel_rfl
@[go_sem] theorem zeroOk34 : zeroOk Tryz.prog 34 = true:=by kernel_rfl
@[go_sem] theorem info34 : (Tryz.prog.info? 34).isSome = true:=by kernel_rfl
@[go_sem] theorem bkind34 : bkind Tryz.prog 34 = .array 1:=by kernel_rfl
@[go_sem] theorem cellsOf40 : Tryz.prog.cellsOf 40 = 1:=by kernel_rfl
@[go_sem] theorem ldk40 : ldk Tryz.prog 40 = some none:=by kernel_rfl
@[go_sem] theorem zeroAV40 : zeroAV Tryz.prog 40 = some (.int .i64 0):=by kernel_rfl
@[go_sem] theorem cellsOf50 : Tryz.prog.cellsOf 50 = 1:=by kernel_rfl
@[go_sem] theorem bytesOf50 : Tryz.prog.bytesOf 50 = 24:=by kernel_rfl
@[go_sem] theorem ldk50 : ldk Tryz.prog 50 = some none:=by kernel_rfl
@[go_sem] theorem und50 : Tryz.prog.underlying 50 = some (.slice 3):=by kernel_rfl
@[go_sem] theorem isSl50 : isSl Tryz.prog 50 = true:=by kernel_rfl
@[go_sem] theorem zeroOk50 : zeroOk Tryz.prog 50 = true:=by kernel_rfl
@[go_sem] theorem cellsOf62 : Tryz.prog.cellsOf 62 = 1:=by kernel_rfl
@[go_sem] theorem ldk62 : ldk Tryz.prog 62 = some none:=by kernel_rfl
@[go_sem] theorem und62 : Tryz.prog.underlying 62 = some (.slice 64):=by kernel_rfl
@[go_sem] theorem cellsOf64 : Tryz.prog.cellsOf 64 = 5:=by kernel_rfl
@[go_sem] theorem bytesOf64 : Tryz.prog.bytesOf 64 = 64:=by kernel_rfl
@[go_sem] theorem ldk64 : ldk Tryz.prog 64 = some (some 5):=by kernel_rfl
@[go_sem] theorem zeroOk64 : zeroOk Tryz.prog 64 = true:=by kernel_rfl
@[go_sem] theorem info64 : (Tryz.prog.info? 64).isSome = true:=by kernel_rfl
@[go_sem] theorem bkind64 : bkind Tryz.prog 64 = .struct [(0,1),(1,1),(2,1),(3,1),(4,1)]:=by kernel_rfl
@[go_sem] theorem fplace64_0 : fplace Tryz.prog 64 0 = some (3,0):=by kernel_rfl
@[go_sem] theorem fplace64_1 : fplace Tryz.prog 64 1 = some (9,1):=by kernel_rfl
@[go_sem] theorem fplace64_2 : fplace Tryz.prog 64 2 = some (3,2):=by kernel_rfl
@[go_sem] theorem fplace64_3 : fplace Tryz.prog 64 3 = some (3,3):=by kernel_rfl
@[go_sem] theorem fplace64_4 : fplace Tryz.prog 64 4 = some (62,4):=by kernel_rfl
@[go_sem] theorem cellsOf66 : Tryz.prog.cellsOf 66 = 12:=by kernel_rfl
@[go_sem] theorem ldk66 : ldk Tryz.prog 66 = some (some 12):=by kernel_rfl
@[go_sem] theorem fplace66_0 : fplace Tryz.prog 66 0 = some (9,0):=by kernel_rfl
@[go_sem] theorem fplace66_1 : fplace Tryz.prog 66 1 = some (9,1):=by kernel_rfl
@[go_sem] theorem fplace66_2 : fplace Tryz.prog 66 2 = some (3,2):=by kernel_rfl
@[go_sem] theorem fplace66_3 : fplace Tryz.prog 66 3 = some (3,3):=by kernel_rfl
@[go_sem] theorem fplace66_4 : fplace Tryz.prog 66 4 = some (64,4):=by kernel_rfl
@[go_sem] theorem fplace66_5 : fplace Tryz.prog 66 5 = some (3,9):=by kernel_rfl
@[go_sem] theorem fplace66_6 : fplace Tryz.prog 66 6 = some (3,10):=by kernel_rfl
@[go_sem] theorem fplace66_7 : fplace Tryz.prog 66 7 = some (3,11):=by kernel_rfl
@[go_sem] theorem cellsOf77 : Tryz.prog.cellsOf 77 = 2:=by kernel_rfl
@[go_sem] theorem fplace77_0 : fplace Tryz.prog 77 0 = some (9,0):=by kernel_rfl
@[go_sem] theorem fplace77_1 : fplace Tryz.prog 77 1 = some (3,1):=by kernel_rfl
@[go_sem] theorem cellsOf82 : Tryz.prog.cellsOf 82 = 1:=by kernel_rfl
@[go_sem] theorem ldk82 : ldk Tryz.prog 82 = some none:=by kernel_rfl
@[go_sem] theorem und82 : Tryz.prog.underlying 82 = some (.slice 120):=by kernel_rfl
@[go_sem] theorem cellsOf83 : Tryz.prog.cellsOf 83 = 1:=by kernel_rfl
@[go_sem] theorem ldk83 : ldk Tryz.prog 83 = some none:=by kernel_rfl
@[go_sem] theorem und83 : Tryz.prog.underlying 83 = some (.slice 252):=by kernel_rfl
@[go_sem] theorem cellsOf85 : Tryz.prog.cellsOf 85 = 1:=by kernel_rfl
@[go_sem] theorem ldk85 : ldk Tryz.prog 85 = some none:=by kernel_rfl
@[go_sem] theorem und85 : Tryz.prog.underlying 85 = some (.slice 128):=by kernel_rfl
@[go_sem] theorem cellsOf86 : Tryz.prog.cellsOf 86 = 1:=by kernel_rfl
@[go_sem] theorem ldk86 : ldk Tryz.prog 86 = some none:=by kernel_rfl
@[go_sem] theorem und86 : Tryz.prog.underlying 86 = some (.slice 216):=by kernel_rfl
@[go_sem] theorem cellsOf87 : Tryz.prog.cellsOf 87 = 1:=by kernel_rfl
@[go_sem] theorem ldk87 : ldk Tryz.prog 87 = some none:=by kernel_rfl
@[go_sem] theorem und87 : Tryz.prog.underlying 87 = some (.slice 246):=by kernel_rfl
@[go_sem] theorem cellsOf89 : Tryz.prog.cellsOf 89 = 6:=by kernel_rfl
@[go_sem] theorem ldk89 : ldk Tryz.prog 89 = some (some 6):=by kernel_rfl
@[go_sem] theorem fplace89_0 : fplace Tryz.prog 89 0 = some (9,0):=by kernel_rfl
@[go_sem] theorem fplace89_1 : fplace Tryz.prog 89 1 = some (82,1):=by kernel_rfl
@[go_sem] theorem fplace89_2 : fplace Tryz.prog 89 2 = some (83,2):=by kernel_rfl
@[go_sem] theorem fplace89_3 : fplace Tryz.prog 89 3 = some (85,3):=by kernel_rfl
@[go_sem] theorem fplace89_4 : fplace Tryz.prog 89 4 = some (86,4):=by kernel_rfl
@[go_sem] theorem fplace89_5 : fplace Tryz.prog 89 5 = some (87,5):=by kernel_rfl
@[go_sem] theorem cellsOf107 : Tryz.prog.cellsOf 107 = 4:=by kernel_rfl
@[go_sem] theorem bytesOf107 : Tryz.prog.bytesOf 107 = 56:=by kernel_rfl
@[go_sem] theorem ldk107 : ldk Tryz.prog 107 = some (some 4):=by kernel_rfl
@[go_sem] theorem zeroOk107 : zeroOk Tryz.prog 107 = true:=by kernel_rfl
@[go_sem] theorem info107 : (Tryz.prog.info? 107).isSome = true:=by kernel_rfl
@[go_sem] theorem bkind107 : bkind Tryz.prog 107 = .struct [(0,1),(1,1),(2,1),(3,1)]:=by kernel_rfl
@[go_sem] theorem fplace107_0 : fplace Tryz.prog 107 0 = some (9,0):=by kernel_rfl
@[go_sem] theorem fplace107_1 : fplace Tryz.prog 107 1 = some (50,1):=by kernel_rfl
@[go_sem] theorem fplace107_2 : fplace Tryz.prog 107 2 = some (3,2):=by kernel_rfl
@[go_sem] theorem fplace107_3 : fplace Tryz.prog 107 3 = some (3,3):=by kernel_rfl
@[go_sem] theorem cellsOf115 : Tryz.prog.cellsOf 115 = 3:=by kernel_rfl
@[go_sem] theorem ldk115 : ldk Tryz.prog 115 = some (some 3):=by kernel_rfl
@[go_sem] theorem bkind115 : bkind Tryz.prog 115 = .struct [(0,1),(1,1),(2,1)]:=by kernel_rfl
@[go_sem] theorem fplace115_0 : fplace Tryz.prog 115 0 = some (9,0):=by kernel_rfl
@[go_sem] theorem fplace115_1 : fplace Tryz.prog 115 1 = some (3,1):=by kernel_rfl
@[go_sem] theorem fplace115_2 : fplace Tryz.prog 115 2 = some (3,2):=by kernel_rfl
@[go_sem] theorem cellsOf117 : Tryz.prog.cellsOf 117 = 4:=by kernel_rfl
@[go_sem] theorem ldk117 : ldk Tryz.prog 117 = some (some 4):=by kernel_rfl
@[go_sem] theorem fplace117_0 : fplace Tryz.prog 117 0 = some (9,0):=by kernel_rfl
@[go_sem] theorem fplace117_1 : fplace Tryz.prog 117 1 = some (4,1):=by kernel_rfl
@[go_sem] theorem fplace117_2 : fplace Tryz.prog 117 2 = some (3,2):=by kernel_rfl
@[go_sem] theorem fplace117_3 : fplace Tryz.prog 117 3 = some (3,3):=by kernel_rfl
@[go_sem] theorem cellsOf118 : Tryz.prog.cellsOf 118 = 1:=by kernel_rfl
@[go_sem] theorem ldk118 : ldk Tryz.prog 118 = some none:=by kernel_rfl
@[go_sem] theorem und118 : Tryz.prog.underlying 118 = some (.slice 9):=by kernel_rfl
@[go_sem] theorem cellsOf120 : Tryz.prog.cellsOf 120 = 2:=by kernel_rfl
@[go_sem] theorem ldk120 : ldk Tryz.prog 120 = some (some 2):=by kernel_rfl
@[go_sem] theorem fplace120_0 : fplace Tryz.prog 120 0 = some (9,0):=by kernel_rfl
@[go_sem] theorem fplace120_1 : fplace Tryz.prog 120 1 = some (3,1):=by kernel_rfl
@[go_sem] theorem cellsOf121 : Tryz.prog.cellsOf 121 = 1:=by kernel_rfl
@[go_sem] theorem ldk121 : ldk Tryz.prog 121 = some none:=by kernel_rfl
@[go_sem] theorem und121 : Tryz.prog.underlying 121 = some (.slice 123):=by kernel_rfl
@[go_sem] theorem cellsOf123 : Tryz.prog.cellsOf 123 = 9:=by kernel_rfl
@[go_sem] theorem bytesOf123 : Tryz.prog.bytesOf 123 = 120:=by kernel_rfl
@[go_sem] theorem ldk123 : ldk Tryz.prog 123 = some (some 9):=by kernel_rfl
@[go_sem] theorem zeroOk123 : zeroOk Tryz.prog 123 = true:=by kernel_rfl
@[go_sem] theorem info123 : (Tryz.prog.info? 123).isSome = true:=by kernel_rfl
@[go_sem] theorem bkind123 : bkind Tryz.prog 123 = .struct [(0,1),(1,5),(6,1),(7,1),(8,1)]:=by kernel_rfl
@[go_sem] theorem fplace123_0 : fplace Tryz.prog 123 0 = some (3,0):=by kernel_rfl
@[go_sem] theorem fplace123_1 : fplace Tryz.prog 123 1 = some (64,1):=by kernel_rfl
@[go_sem] theorem fplace123_2 : fplace Tryz.prog 123 2 = some (9,6):=by kernel_rfl
@[go_sem] theorem fplace123_3 : fplace Tryz.prog 123 3 = some (3,7):=by kernel_rfl
@[go_sem] theorem fplace123_4 : fplace Tryz.prog 123 4 = some (121,8):=by kernel_rfl
@[go_sem] theorem cellsOf126 : Tryz.prog.cellsOf 126 = 6:=by kernel_rfl
@[go_sem] theorem ldk126 : ldk Tryz.prog 126 = some (some 6):=by kernel_rfl
@[go_sem] theorem bkind126 : bkind Tryz.prog 126 = .struct [(0,1),(1,1),(2,1),(3,1),(4,1),(5,1)]:=by kernel_rfl
@[go_sem] theorem fplace126_0 : fplace Tryz.prog 126 0 = some (3,0):=by kernel_rfl
@[go_sem] theorem fplace126_1 : fplace Tryz.prog 126 1 = some (9,1):=by kernel_rfl
@[go_sem] theorem fplace126_2 : fplace Tryz.prog 126 2 = some (118,2):=by kernel_rfl
@[go_sem] theorem fplace126_3 : fplace Tryz.prog 126 3 = some (9,3):=by kernel_rfl
@[go_sem] theorem fplace126_4 : fplace Tryz.prog 126 4 = some (3,4):=by kernel_rfl
@[go_sem] theorem fplace126_5 : fplace Tryz.prog 126 5 = some (3,5):=by kernel_rfl
@[go_sem] theorem cellsOf128 : Tryz.prog.cellsOf 128 = 15:=by kernel_rfl
@[go_sem] theorem bytesOf128 : Tryz.prog.bytesOf 128 = 200:=by kernel_rfl
@[go_sem] theorem ldk128 : ldk Tryz.prog 128 = some (some 15):=by kernel_rfl
@[go_sem] theorem zeroOk128 : zeroOk Tryz.prog 128 = true:=by kernel_rfl
@[go_sem] theorem bkind128 : bkind Tryz.prog 128 = .struct [(0,9),(9,6)]:=by kernel_rfl
@[go_sem] theorem fplace128_0 : fplace Tryz.prog 128 0 = some (123,0):=by kernel_rfl
@[go_sem] theorem fplace128_1 : fplace Tryz.prog 128 1 = some (126,9):=by kernel_rfl
@[go_sem] theorem cellsOf166 : Tryz.prog.cellsOf 166 = 3:=by kernel_rfl
@[go_sem] theorem ldk166 : ldk Tryz.prog 166 = some (some 3):=by kernel_rfl
@[go_sem] theorem fplace166_0 : fplace Tryz.prog 166 0 = some (3,0):=by kernel_rfl
@[go_sem] theorem fplace166_1 : fplace Tryz.prog 166 1 = some (3,1):=by kernel_rfl
@[go_sem] theorem fplace166_2 : fplace Tryz.prog 166 2 = some (3,2):=by kernel_rfl
@[go_sem] theorem cellsOf212 : Tryz.prog.cellsOf 212 = 1:=by kernel_rfl
@[go_sem] theorem ldk212 : ldk Tryz.prog 212 = some none:=by kernel_rfl
@[go_sem] theorem und212 : Tryz.prog.underlying 212 = some (.slice 214):=by kernel_rfl
@[go_sem] theorem cellsOf214 : Tryz.prog.cellsOf 214 = 3:=by kernel_rfl
@[go_sem] theorem ldk214 : ldk Tryz.prog 214 = some (some 3):=by kernel_rfl
@[go_sem] theorem fplace214_0 : fplace Tryz.prog 214 0 = some (3,0):=by kernel_rfl
@[go_sem] theorem fplace214_1 : fplace Tryz.prog 214 1 = some (9,1):=by kernel_rfl
@[go_sem] theorem fplace214_2 : fplace Tryz.prog 214 2 = some (212,2):=by kernel_rfl
@[go_sem] theorem cellsOf216 : Tryz.prog.cellsOf 216 = 8:=by kernel_rfl
@[go_sem] theorem fplace216_0 : fplace Tryz.prog 216 0 = some (64,0):=by kernel_rfl
@[go_sem] theorem fplace216_1 : fplace Tryz.prog 216 1 = some (214,5):=by kernel_rfl
@[go_sem] theorem cellsOf219 : Tryz.prog.cellsOf 219 = 2:=by kernel_rfl
@[go_sem] theorem ldk219 : ldk Tryz.prog 219 = some (some 2):=by kernel_rfl
@[go_sem] theorem bkind219 : bkind Tryz.prog 219 = .struct [(0,1),(1,1)]:=by kernel_rfl
@[go_sem] theorem fplace219_0 : fplace Tryz.prog 219 0 = some (3,0):=by kernel_rfl
@[go_sem] theorem fplace219_1 : fplace Tryz.prog 219 1 = some (3,1):=by kernel_rfl
@[go_sem] theorem cellsOf246 : Tryz.prog.cellsOf 246 = 4:=by kernel_rfl
@[go_sem] theorem ldk246 : ldk Tryz.prog 246 = some (some 4):=by kernel_rfl
@[go_sem] theorem fplace246_0 : fplace Tryz.prog 246 0 = some (3,0):=by kernel_rfl
@[go_sem] theorem fplace246_1 : fplace Tryz.prog 246 1 = some (3,1):=by kernel_rfl
@[go_sem] theorem fplace246_2 : fplace Tryz.prog 246 2 = some (3,2):=by kernel_rfl
@[go_sem] theorem fplace246_3 : fplace Tryz.prog 246 3 = some (3,3):=by kernel_rfl
@[go_sem] theorem cellsOf252 : Tryz.prog.cellsOf 252 = 2:=by kernel_rfl
@[go_sem] theorem ldk252 : ldk Tryz.prog 252 = some (some 2):=by kernel_rfl
@[go_sem] theorem fplace252_0 : fplace Tryz.prog 252 0 = some (3,0):=by kernel_rfl
@[go_sem] theorem fplace252_1 : fplace Tryz.prog 252 1 = some (3,1):=by kernel_rfl
theorem mixed : Tryz.prog.follows .mixedOrders = true:=by kernel_rfl
end Go.AI
set_option linter.defProp false
namespace Go.AI
open Go.Proofs
def h196 : Hint:=hm [28,16] [] [] []
@[go_sem] theorem h196_l : h196.lv 0 = [2,3,4] /\ h196.lv 1 = [4]:=by decide +kernel
@[go_sem] def h196_q:=hplain h196 rfl rfl rfl
@[go_sem] theorem h196_t : h196.tk = [] /\ h196.mt = [] /\ h196.pc = []:=⟨rfl,rfl,rfl⟩
theorem h196_k : FK Tryz.prog 196 Tryz.f196 h196:=⟨by kernel_rfl,by kernel_rfl,Tryz.func196,by kernel_rfl⟩
def h123 : Hint:=hm [6,14,30,1054,30,30,4] [] [] [19,20]
@[go_sem] theorem h123_l : h123.lv 0 = [1,2] /\ h123.lv 1 = [1,2,3] /\ h123.lv 2 = [1,2,3,4] /\ h123.lv 3 = [1,2,3,4,10] /\ h123.lv 4 = [1,2,3,4] /\ h123.lv 5 = [1,2,3,4] /\ h123.lv 6 = [2]:=by decide +kernel
@[go_sem] def h123_q:=hplain h123 rfl rfl rfl
@[go_sem] theorem h123_t : h123.tk = [] /\ h123.mt = [] /\ h123.pc = [19,20]:=⟨rfl,rfl,rfl⟩
theorem h123_k : FK Tryz.prog 123 Tryz.f123 h123:=⟨by kernel_rfl,by kernel_rfl,Tryz.func123,by kernel_rfl⟩
def h257 : Hint:=hm [6,14,270,14,30,262174,30,30,4] [] [] [12,13,27,28]
@[go_sem] theorem h257_l : h257.lv 0 = [1,2] /\ h257.lv 1 = [1,2,3] /\ h257.lv 2 = [1,2,3,8] /\ h257.lv 3 = [1,2,3] /\ h257.lv 4 = [1,2,3,4] /\ h257.lv 5 = [1,2,3,4,18] /\ h257.lv 6 = [1,2,3,4] /\ h257.lv 7 = [1,2,3,4] /\ h257.lv 8 = [2]:=by decide +kernel
@[go_sem] def h257_q:=hplain h257 rfl rfl rfl
@[go_sem] theorem h257_t : h257.tk = [] /\ h257.mt = [] /\ h257.pc = [12,13,27,28]:=⟨rfl,rfl,rfl⟩
theorem h257_k : FK Tryz.prog 257 Tryz.f257 h257:=⟨by kernel_rfl,by kernel_rfl,Tryz.func257,by kernel_rfl⟩
def h193 : Hint:=hm [2,10,24,4] [] [] [6,9]
@[go_sem] theorem h193_l : h193.lv 0 = [1] /\ h193.lv 1 = [1,3] /\ h193.lv 2 = [3,4] /\ h193.lv 3 = [2]:=by decide +kernel
@[go_sem] def h193_q:=hplain h193 rfl rfl rfl
@[go_sem] theorem h193_t : h193.tk = [] /\ h193.mt = [] /\ h193.pc = [6,9]:=⟨rfl,rfl,rfl⟩
theorem h193_k : FK Tryz.prog 193 Tryz.f193 h193:=⟨by kernel_rfl,by kernel_rfl,Tryz.func193,by kernel_rfl⟩
def h119 : Hint:=hm [1,9,4105,9,25,4294967305,4,4] [33] [] [20]
@[go_sem] theorem h119_l : h119.lv 0 = [0] /\ h119.lv 1 = [0,3] /\ h119.lv 2 = [0,3,12] /\ h119.lv 3 = [0,3] /\ h119.lv 4 = [0,3,4] /\ h119.lv 5 = [0,3,32] /\ h119.lv 6 = [2] /\ h119.lv 7 = [2]:=by decide +kernel
@[go_sem] def h119_q:=hplain h119 rfl rfl rfl
@[go_sem] theorem h119_t : h119.tk = [33] /\ h119.mt = [] /\ h119.pc = [20]:=⟨rfl,rfl,rfl⟩
theorem h119_k : FK Tryz.prog 119 Tryz.f119 h119:=⟨by kernel_rfl,by kernel_rfl,Tryz.func119,by kernel_rfl⟩
def h120 : Hint:=hm [2,10,26,538,26,26,4194312,8,4] [] [] [18]
@[go_sem] theorem h120_l : h120.lv 0 = [1] /\ h120.lv 1 = [1,3] /\ h120.lv 2 = [1,3,4] /\ h120.lv 3 = [1,3,4,9] /\ h120.lv 4 = [1,3,4] /\ h120.lv 5 = [1,3,4] /\ h120.lv 6 = [3,22] /\ h120.lv 7 = [3] /\ h120.lv 8 = [2]:=by decide +kernel
@[go_sem] def h120_q:=hplain h120 rfl rfl rfl
@[go_sem] theorem h120_t : h120.tk = [] /\ h120.mt = [] /\ h120.pc = [18]:=⟨rfl,rfl,rfl⟩
theorem h120_k : FK Tryz.prog 120 Tryz.f120 h120:=⟨by kernel_rfl,by kernel_rfl,Tryz.func120,by kernel_rfl⟩
def h194 : Hint:=hm [2,10,26,538,26,26,4194312,8,4] [] [] [18]
@[go_sem] theorem h194_l : h194.lv 0 = [1] /\ h194.lv 1 = [1,3] /\ h194.lv 2 = [1,3,4] /\ h194.lv 3 = [1,3,4,9] /\ h194.lv 4 = [1,3,4] /\ h194.lv 5 = [1,3,4] /\ h194.lv 6 = [3,22] /\ h194.lv 7 = [3] /\ h194.lv 8 = [2]:=by decide +kernel
@[go_sem] def h194_q:=hplain h194 rfl rfl rfl
@[go_sem] theorem h194_t : h194.tk = [] /\ h194.mt = [] /\ h194.pc = [18]:=⟨rfl,rfl,rfl⟩
theorem h194_k : FK Tryz.prog 194 Tryz.f194 h194:=⟨by kernel_rfl,by kernel_rfl,Tryz.func194,by kernel_rfl⟩
def h121 : Hint:=hm [2,10,24,4] [] [] [6,8]
@[go_sem] theorem h121_l : h121.lv 0 = [1] /\ h121.lv 1 = [1,3] /\ h121.lv 2 = [3,4] /\ h121.lv 3 = [2]:=by decide +kernel
@[go_sem] def h121_q:=hplain h121 rfl rfl rfl
@[go_sem] theorem h121_t : h121.tk = [] /\ h121.mt = [] /\ h121.pc = [6,8]:=⟨rfl,rfl,rfl⟩
theorem h121_k : FK Tryz.prog 121 Tryz.f121 h121:=⟨by kernel_rfl,by kernel_rfl,Tryz.func121,by kernel_rfl⟩
def h70 : Hint:=hm [2,8,4] [] [] [5]
@[go_sem] theorem h70_l : h70.lv 0 = [1] /\ h70.lv 1 = [3] /\ h70.lv 2 = [2]:=by decide +kernel
@[go_sem] def h70_q:=hplain h70 rfl rfl rfl
@[go_sem] theorem h70_t : h70.tk = [] /\ h70.mt = [] /\ h70.pc = [5]:=⟨rfl,rfl,rfl⟩
theorem h70_k : FK Tryz.prog 70 Tryz.f70 h70:=⟨by kernel_rfl,by kernel_rfl,Tryz.func70,by kernel_rfl⟩
def h195 : Hint:=hm [6,14,30,1054,30,30,4] [] [] [19,20]
@[go_sem] theorem h195_l : h195.lv 0 = [1,2] /\ h195.lv 1 = [1,2,3] /\ h195.lv 2 = [1,2,3,4] /\ h195.lv 3 = [1,2,3,4,10] /\ h195.lv 4 = [1,2,3,4] /\ h195.lv 5 = [1,2,3,4] /\ h195.lv 6 = [2]:=by decide +kernel
@[go_sem] def h195_q:=hplain h195 rfl rfl rfl
@[go_sem] theorem h195_t : h195.tk = [] /\ h195.mt = [] /\ h195.pc = [19,20]:=⟨rfl,rfl,rfl⟩
theorem h195_k : FK Tryz.prog 195 Tryz.f195 h195:=⟨by kernel_rfl,by kernel_rfl,Tryz.func195,by kernel_rfl⟩
def h122 : Hint:=hm [2,8,4] [] [] [5]
@[go_sem] theorem h122_l : h122.lv 0 = [1] /\ h122.lv 1 = [3] /\ h122.lv 2 = [2]:=by decide +kernel
@[go_sem] def h122_q:=hplain h122 rfl rfl rfl
@[go_sem] theorem h122_t : h122.tk = [] /\ h122.mt = [] /\ h122.pc = [5]:=⟨rfl,rfl,rfl⟩
theorem h122_k : FK Tryz.prog 122 Tryz.f122 h122:=⟨by kernel_rfl,by kernel_rfl,Tryz.func122,by kernel_rfl⟩
def h69 : Hint:=hm [2,10,68719476738,4,18,2199023255570,18,0x2000000000000012,4,34,0x40000000000000022,34,98,226,0x10000000000000000000022,4,4] [] [] [10,50,59,75,82]
@[go_sem] theorem h69_l : h69.lv 0 = [1] /\ h69.lv 1 = [1,3] /\ h69.lv 2 = [1,36] /\ h69.lv 3 = [2] /\ h69.lv 4 = [1,4] /\ h69.lv 5 = [1,4,41] /\ h69.lv 6 = [1,4] /\ h69.lv 7 = [1,4,61] /\ h69.lv 8 = [2] /\ h69.lv 9 = [1,5] /\ h69.lv 10 = [1,5,66] /\ h69.lv 11 = [1,5] /\ h69.lv 12 = [1,5,6] /\ h69.lv 13 = [1,5,6,7] /\ h69.lv 14 = [1,5,88] /\ h69.lv 15 = [2] /\ h69.lv 16 = [2]:=by decide +kernel
@[go_sem] def h69_q:=hplain h69 rfl rfl rfl
@[go_sem] theorem h69_t : h69.tk = [] /\ h69.mt = [] /\ h69.pc = [10,50,59,75,82]:=⟨rfl,rfl,rfl⟩
theorem h69_k : FK Tryz.prog 69 Tryz.f69 h69:=⟨by kernel_rfl,by kernel_rfl,Tryz.func69,by kernel_rfl⟩
def h127 : Hint:=hm [1,9,521,9,25,57,0x800000000009,4,4] [] [] []
@[go_sem] theorem h127_l : h127.lv 0 = [0] /\ h127.lv 1 = [0,3] /\ h127.lv 2 = [0,3,9] /\ h127.lv 3 = [0,3] /\ h127.lv 4 = [0,3,4] /\ h127.lv 5 = [0,3,4,5] /\ h127.lv 6 = [0,3,47] /\ h127.lv 7 = [2] /\ h127.lv 8 = [2]:=by decide +kernel
@[go_sem] def h127_q:=hplain h127 rfl rfl rfl
@[go_sem] theorem h127_t : h127.tk = [] /\ h127.mt = [] /\ h127.pc = []:=⟨rfl,rfl,rfl⟩
theorem h127_k : FK Tryz.prog 127 Tryz.f127 h127:=⟨by kernel_rfl,by kernel_rfl,Tryz.func127,by kernel_rfl⟩
def h260 : Hint:=hm [6,16] [] [] []
@[go_sem] theorem h260_l : h260.lv 0 = [1,2] /\ h260.lv 1 = [4]:=by decide +kernel
@[go_sem] def h260_q:=hplain h260 rfl rfl rfl
@[go_sem] theorem h260_t : h260.tk = [] /\ h260.mt = [] /\ h260.pc = []:=⟨rfl,rfl,rfl⟩
theorem h260_k : FK Tryz.prog 260 Tryz.f260 h260:=⟨by kernel_rfl,by kernel_rfl,Tryz.func260,by kernel_rfl⟩
def h258 : Hint:=hm [6,16] [] [] [7]
@[go_sem] theorem h258_l : h258.lv 0 = [1,2] /\ h258.lv 1 = [4]:=by decide +kernel
@[go_sem] def h258_q:=hplain h258 rfl rfl rfl
@[go_sem] theorem h258_t : h258.tk = [] /\ h258.mt = [] /\ h258.pc = [7]:=⟨rfl,rfl,rfl⟩
theorem h258_k : FK Tryz.prog 258 Tryz.f258 h258:=⟨by kernel_rfl,by kernel_rfl,Tryz.func258,by kernel_rfl⟩
def h197 : Hint:=hm [12,44,262156,16,76,8388684,76,204,17179869260,16,332,137438953804,332,4503599627370828,16,524,0x20000000000020c,524,1548,0x800000000000000060c,16,3596,0x40000000000000000e0c,3596,0x100000000000000000000e0c,16,4104,0x2000000000000000000001008,4104,0x800000000000000000000000001008,16,12296,0x4000000000000000000000000003008,12296,0x20000000000000000000000000000003008,16,16] [] [] [16,32,107,117]
@[go_sem] theorem h197_l : h197.lv 0 = [2,3] /\ h197.lv 1 = [2,3,5] /\ h197.lv 2 = [2,3,18] /\ h197.lv 3 = [4] /\ h197.lv 4 = [2,3,6] /\ h197.lv 5 = [2,3,6,23] /\ h197.lv 6 = [2,3,6] /\ h197.lv 7 = [2,3,6,7] /\ h197.lv 8 = [2,3,6,34] /\ h197.lv 9 = [4] /\ h197.lv 10 = [2,3,6,8] /\ h197.lv 11 = [2,3,6,8,37] /\ h197.lv 12 = [2,3,6,8] /\ h197.lv 13 = [2,3,6,8,52] /\ h197.lv 14 = [4] /\ h197.lv 15 = [2,3,9] /\ h197.lv 16 = [2,3,9,57] /\ h197.lv 17 = [2,3,9] /\ h197.lv 18 = [2,3,9,10] /\ h197.lv 19 = [2,3,9,10,75] /\ h197.lv 20 = [4] /\ h197.lv 21 = [2,3,9,10,11] /\ h197.lv 22 = [2,3,9,10,11,78] /\ h197.lv 23 = [2,3,9,10,11] /\ h197.lv 24 = [2,3,9,10,11,92] /\ h197.lv 25 = [4] /\ h197.lv 26 = [3,12] /\ h197.lv 27 = [3,12,97] /\ h197.lv 28 = [3,12] /\ h197.lv 29 = [3,12,119] /\ h197.lv 30 = [4] /\ h197.lv 31 = [3,12,13] /\ h197.lv 32 = [3,12,13,122] /\ h197.lv 33 = [3,12,13] /\ h197.lv 34 = [3,12,13,137] /\ h197.lv 35 = [4] /\ h197.lv 36 = [4]:=by decide +kernel
@[go_sem] def h197_q:=hplain h197 rfl rfl rfl
@[go_sem] theorem h197_t : h197.tk = [] /\ h197.mt = [] /\ h197.pc = [16,32,107,117]:=⟨rfl,rfl,rfl⟩
theorem h197_k : FK Tryz.prog 197 Tryz.f197 h197:=⟨by kernel_rfl,by kernel_rfl,Tryz.func197,by kernel_rfl⟩
def h307 : Hint:=hm [2,1024,4,4] [] [] []
@[go_sem] theorem h307_l : h307.lv 0 = [1] /\ h307.lv 1 = [10] /\ h307.lv 2 = [2] /\ h307.lv 3 = [2]:=by decide +kernel
@[go_sem] def h307_q:=hplain h307 rfl rfl rfl
@[go_sem] theorem h307_t : h307.tk = [] /\ h307.mt = [] /\ h307.pc = []:=⟨rfl,rfl,rfl⟩
theorem h307_k : FK Tryz.prog 307 Tryz.f307 h307:=⟨by kernel_rfl,by kernel_rfl,Tryz.func307,by kernel_rfl⟩
def h262 : Hint:=hm [6,34,8224,16,16] [] [] [7]
@[go_sem] theorem h262_l : h262.lv 0 = [1,2] /\ h262.lv 1 = [1,5] /\ h262.lv 2 = [5,13] /\ h262.lv 3 = [4] /\ h262.lv 4 = [4]:=by decide +kernel
@[go_sem] def h262_q:=hplain h262 rfl rfl rfl
@[go_sem] theorem h262_t : h262.tk = [] /\ h262.mt = [] /\ h262.pc = [7]:=⟨rfl,rfl,rfl⟩
theorem h262_k : FK Tryz.prog 262 Tryz.f262 h262:=⟨by kernel_rfl,by kernel_rfl,Tryz.func262,by kernel_rfl⟩
def h314 : Hint:=hm [12,2199023255564,16,44,70368744177708,44,108,0x200000000000002c,16,16] [] [] [59]
@[go_sem] theorem h314_l : h314.lv 0 = [2,3] /\ h314.lv 1 = [2,3,41] /\ h314.lv 2 = [4] /\ h314.lv 3 = [2,3,5] /\ h314.lv 4 = [2,3,5,46] /\ h314.lv 5 = [2,3,5] /\ h314.lv 6 = [2,3,5,6] /\ h314.lv 7 = [2,3,5,61] /\ h314.lv 8 = [4] /\ h314.lv 9 = [4]:=by decide +kernel
@[go_sem] def h314_q:=hplain h314 rfl rfl rfl
@[go_sem] theorem h314_t : h314.tk = [] /\ h314.mt = [] /\ h314.pc = [59]:=⟨rfl,rfl,rfl⟩
theorem h314_k : FK Tryz.prog 314 Tryz.f314 h314:=⟨by kernel_rfl,by kernel_rfl,Tryz.func314,by kernel_rfl⟩
def h347 : Hint:=hm [1,4] [] [] []
@[go_sem] theorem h347_l : h347.lv 0 = [0] /\ h347.lv 1 = [2]:=by decide +kernel
@[go_sem] def h347_q:=hplain h347 rfl rfl rfl
@[go_sem] theorem h347_t : h347.tk = [] /\ h347.mt = [] /\ h347.pc = []:=⟨rfl,rfl,rfl⟩
theorem h347_k : FK Tryz.prog 347 Tryz.f347 h347:=⟨by kernel_rfl,by kernel_rfl,Tryz.func347,by kernel_rfl⟩
def h348 : Hint:=hm [1,9,25,537,25,131097,4,4] [] [] [5]
@[go_sem] theorem h348_l : h348.lv 0 = [0] /\ h348.lv 1 = [0,3] /\ h348.lv 2 = [0,3,4] /\ h348.lv 3 = [0,3,4,9] /\ h348.lv 4 = [0,3,4] /\ h348.lv 5 = [0,3,4,17] /\ h348.lv 6 = [2] /\ h348.lv 7 = [2]:=by decide +kernel
@[go_sem] def h348_q:=hplain h348 rfl rfl rfl
@[go_sem] theorem h348_t : h348.tk = [] /\ h348.mt = [] /\ h348.pc = [5]:=⟨rfl,rfl,rfl⟩
theorem h348_k : FK Tryz.prog 348 Tryz.f348 h348:=⟨by kernel_rfl,by kernel_rfl,Tryz.func348,by kernel_rfl⟩
def h374 : Hint:=hm [1,4] [] [] []
@[go_sem] theorem h374_l : h374.lv 0 = [0] /\ h374.lv 1 = [2]:=by decide +kernel
@[go_sem] def h374_q:=hplain h374 rfl rfl rfl
@[go_sem] theorem h374_t : h374.tk = [] /\ h374.mt = [] /\ h374.pc = []:=⟨rfl,rfl,rfl⟩
theorem h374_k : FK Tryz.prog 374 Tryz.f374 h374:=⟨by kernel_rfl,by kernel_rfl,Tryz.func374,by kernel_rfl⟩
def h366 : Hint:=hm [1,9,25,4] [] [] [6,8]
@[go_sem] theorem h366_l : h366.lv 0 = [0] /\ h366.lv 1 = [0,3] /\ h366.lv 2 = [0,3,4] /\ h366.lv 3 = [2]:=by decide +kernel
@[go_sem] def h366_q:=hplain h366 rfl rfl rfl
@[go_sem] theorem h366_t : h366.tk = [] /\ h366.mt = [] /\ h366.pc = [6,8]:=⟨rfl,rfl,rfl⟩
theorem h366_k : FK Tryz.prog 366 Tryz.f366 h366:=⟨by kernel_rfl,by kernel_rfl,Tryz.func366,by kernel_rfl⟩
def h349 : Hint:=hm [1,9,265,25,16393,9,4] [] [] [12]
@[go_sem] theorem h349_l : h349.lv 0 = [0] /\ h349.lv 1 = [0,3] /\ h349.lv 2 = [0,3,8] /\ h349.lv 3 = [0,3,4] /\ h349.lv 4 = [0,3,14] /\ h349.lv 5 = [0,3] /\ h349.lv 6 = [2]:=by decide +kernel
@[go_sem] def h349_q:=hplain h349 rfl rfl rfl
@[go_sem] theorem h349_t : h349.tk = [] /\ h349.mt = [] /\ h349.pc = [12]:=⟨rfl,rfl,rfl⟩
theorem h349_k : FK Tryz.prog 349 Tryz.f349 h349:=⟨by kernel_rfl,by kernel_rfl,Tryz.func349,by kernel_rfl⟩
def h335 : Hint:=hm [1,4097,4,9,25,4] [] [] [15,17,21]
@[go_sem] theorem h335_l : h335.lv 0 = [0] /\ h335.lv 1 = [0,12] /\ h335.lv 2 = [2] /\ h335.lv 3 = [0,3] /\ h335.lv 4 = [0,3,4] /\ h335.lv 5 = [2]:=by decide +kernel
@[go_sem] def h335_q:=hplain h335 rfl rfl rfl
@[go_sem] theorem h335_t : h335.tk = [] /\ h335.mt = [] /\ h335.pc = [15,17,21]:=⟨rfl,rfl,rfl⟩
theorem h335_k : FK Tryz.prog 335 Tryz.f335 h335:=⟨by kernel_rfl,by kernel_rfl,Tryz.func335,by kernel_rfl⟩
def h308 : Hint:=hm [1,4] [] [] [4]
@[go_sem] theorem h308_l : h308.lv 0 = [0] /\ h308.lv 1 = [2]:=by decide +kernel
@[go_sem] def h308_q:=hplain h308 rfl rfl rfl
@[go_sem] theorem h308_t : h308.tk = [] /\ h308.mt = [] /\ h308.pc = [4]:=⟨rfl,rfl,rfl⟩
theorem h308_k : FK Tryz.prog 308 Tryz.f308 h308:=⟨by kernel_rfl,by kernel_rfl,Tryz.func308,by kernel_rfl⟩
def h313 : Hint:=hm [1,9,4] [] [] [5]
@[go_sem] theorem h313_l : h313.lv 0 = [0] /\ h313.lv 1 = [0,3] /\ h313.lv 2 = [2]:=by decide +kernel
@[go_sem] def h313_q:=hplain h313 rfl rfl rfl
@[go_sem] theorem h313_t : h313.tk = [] /\ h313.mt = [] /\ h313.pc = [5]:=⟨rfl,rfl,rfl⟩
theorem h313_k : FK Tryz.prog 313 Tryz.f313 h313:=⟨by kernel_rfl,by kernel_rfl,Tryz.func313,by kernel_rfl⟩
def h270 : Hint:=hm [2,10,26,58,122,250,34359738618,103079215354,103079215354,194,1133871366394,194,0x80008000000fa,194,0x800000008000000ea,194,0x80000000000008000000e2,130,194,0x400000000000008000000e2,0x400000000000008000000e2,130,194,0x4000000000000000000000c2,194,0x10000000000000000000000000000042,4,322,0x80000000000000000000000000000142,322,834,0x20000000000000000000000000000000142,4,4] [] [] [12,135]
@[go_sem] theorem h270_l : h270.lv 0 = [1] /\ h270.lv 1 = [1,3] /\ h270.lv 2 = [1,3,4] /\ h270.lv 3 = [1,3,4,5] /\ h270.lv 4 = [1,3,4,5,6] /\ h270.lv 5 = [1,3,4,5,6,7] /\ h270.lv 6 = [1,3,4,5,6,7,35] /\ h270.lv 7 = [1,3,4,5,6,7,35,36] /\ h270.lv 8 = [1,3,4,5,6,7,35,36] /\ h270.lv 9 = [1,6,7] /\ h270.lv 10 = [1,3,4,5,6,7,35,40] /\ h270.lv 11 = [1,6,7] /\ h270.lv 12 = [1,3,4,5,6,7,35,51] /\ h270.lv 13 = [1,6,7] /\ h270.lv 14 = [1,3,5,6,7,35,67] /\ h270.lv 15 = [1,6,7] /\ h270.lv 16 = [1,5,6,7,35,87] /\ h270.lv 17 = [1,7] /\ h270.lv 18 = [1,6,7] /\ h270.lv 19 = [1,5,6,7,35,90] /\ h270.lv 20 = [1,5,6,7,35,90] /\ h270.lv 21 = [1,7] /\ h270.lv 22 = [1,6,7] /\ h270.lv 23 = [1,6,7,94] /\ h270.lv 24 = [1,6,7] /\ h270.lv 25 = [1,6,124] /\ h270.lv 26 = [2] /\ h270.lv 27 = [1,6,8] /\ h270.lv 28 = [1,6,8,127] /\ h270.lv 29 = [1,6,8] /\ h270.lv 30 = [1,6,8,9] /\ h270.lv 31 = [1,6,8,137] /\ h270.lv 32 = [2] /\ h270.lv 33 = [2]:=by decide +kernel
@[go_sem] def h270_q:=hplain h270 rfl rfl rfl
@[go_sem] theorem h270_t : h270.tk = [] /\ h270.mt = [] /\ h270.pc = [12,135]:=⟨rfl,rfl,rfl⟩
theorem h270_k : FK Tryz.prog 270 Tryz.f270 h270:=⟨by kernel_rfl,by kernel_rfl,Tryz.func270,by kernel_rfl⟩
def h269 : Hint:=hm [2,10,26,58,122,250,67109114,201326842,194,34426847482,194,0x80000040000f2,0x80000040000f2,130,194,0x4000000000000f2,130,194,0x1000000000000000042,4,322,0x8000000000000000142,322,834,0x2000000000000000000142,4,4] [] [] [12,16,31,83]
@[go_sem] theorem h269_l : h269.lv 0 = [1] /\ h269.lv 1 = [1,3] /\ h269.lv 2 = [1,3,4] /\ h269.lv 3 = [1,3,4,5] /\ h269.lv 4 = [1,3,4,5,6] /\ h269.lv 5 = [1,3,4,5,6,7] /\ h269.lv 6 = [1,3,4,5,6,7,26] /\ h269.lv 7 = [1,3,4,5,6,7,26,27] /\ h269.lv 8 = [1,6,7] /\ h269.lv 9 = [1,3,4,5,6,7,26,35] /\ h269.lv 10 = [1,6,7] /\ h269.lv 11 = [1,4,5,6,7,26,51] /\ h269.lv 12 = [1,4,5,6,7,26,51] /\ h269.lv 13 = [1,7] /\ h269.lv 14 = [1,6,7] /\ h269.lv 15 = [1,4,5,6,7,58] /\ h269.lv 16 = [1,7] /\ h269.lv 17 = [1,6,7] /\ h269.lv 18 = [1,6,72] /\ h269.lv 19 = [2] /\ h269.lv 20 = [1,6,8] /\ h269.lv 21 = [1,6,8,75] /\ h269.lv 22 = [1,6,8] /\ h269.lv 23 = [1,6,8,9] /\ h269.lv 24 = [1,6,8,85] /\ h269.lv 25 = [2] /\ h269.lv 26 = [2]:=by decide +kernel
@[go_sem] def h269_q:=hplain h269 rfl rfl rfl
@[go_sem] theorem h269_t : h269.tk = [] /\ h269.mt = [] /\ h269.pc = [12,16,31,83]:=⟨rfl,rfl,rfl⟩
theorem h269_k : FK Tryz.prog 269 Tryz.f269 h269:=⟨by kernel_rfl,by kernel_rfl,Tryz.func269,by kernel_rfl⟩
def h203 : Hint:=hm [2,4] [] [] [4,6,7]
@[go_sem] theorem h203_l : h203.lv 0 = [1] /\ h203.lv 1 = [2]:=by decide +kernel
@[go_sem] def h203_q:=hplain h203 rfl rfl rfl
@[go_sem] theorem h203_t : h203.tk = [] /\ h203.mt = [] /\ h203.pc = [4,6,7]:=⟨rfl,rfl,rfl⟩
theorem h203_k : FK Tryz.prog 203 Tryz.f203 h203:=⟨by kernel_rfl,by kernel_rfl,Tryz.func203,by kernel_rfl⟩
def h315 : Hint:=hm [12,0x80000000000c,16,44,4503599627370540,44,0x2000000000000002c,16,16] [] [] []
@[go_sem] theorem h315_l : h315.lv 0 = [2,3] /\ h315.lv 1 = [2,3,47] /\ h315.lv 2 = [4] /\ h315.lv 3 = [2,3,5] /\ h315.lv 4 = [2,3,5,52] /\ h315.lv 5 = [2,3,5] /\ h315.lv 6 = [2,3,5,65] /\ h315.lv 7 = [4] /\ h315.lv 8 = [4]:=by decide +kernel
@[go_sem] def h315_q:=hplain h315 rfl rfl rfl
@[go_sem] theorem h315_t : h315.tk = [] /\ h315.mt = [] /\ h315.pc = []:=⟨rfl,rfl,rfl⟩
theorem h315_k : FK Tryz.prog 315 Tryz.f315 h315:=⟨by kernel_rfl,by kernel_rfl,Tryz.func315,by kernel_rfl⟩
def h273 : Hint:=hm [2,10,4098,4,18,536870914,4,34,17179869218,34,98,17592186044450,4,130,386,0x200000000000182,0x600000000000182,4,0x200200000000000182,4,0x20000200000000000182,4,0x2000000000200000000000182,4,0x200000000000000200000000000182,4,0x8000000000000000000000000000002,4,4] [] [] [11,15,42,47]
@[go_sem] theorem h273_l : h273.lv 0 = [1] /\ h273.lv 1 = [1,3] /\ h273.lv 2 = [1,12] /\ h273.lv 3 = [2] /\ h273.lv 4 = [1,4] /\ h273.lv 5 = [1,29] /\ h273.lv 6 = [2] /\ h273.lv 7 = [1,5] /\ h273.lv 8 = [1,5,34] /\ h273.lv 9 = [1,5] /\ h273.lv 10 = [1,5,6] /\ h273.lv 11 = [1,5,44] /\ h273.lv 12 = [2] /\ h273.lv 13 = [1,7] /\ h273.lv 14 = [1,7,8] /\ h273.lv 15 = [1,7,8,57] /\ h273.lv 16 = [1,7,8,57,58] /\ h273.lv 17 = [2] /\ h273.lv 18 = [1,7,8,57,69] /\ h273.lv 19 = [2] /\ h273.lv 20 = [1,7,8,57,77] /\ h273.lv 21 = [2] /\ h273.lv 22 = [1,7,8,57,97] /\ h273.lv 23 = [2] /\ h273.lv 24 = [1,7,8,57,117] /\ h273.lv 25 = [2] /\ h273.lv 26 = [1,123] /\ h273.lv 27 = [2] /\ h273.lv 28 = [2]:=by decide +kernel
@[go_sem] def h273_q:=hplain h273 rfl rfl rfl
@[go_sem] theorem h273_t : h273.tk = [] /\ h273.mt = [] /\ h273.pc = [11,15,42,47]:=⟨rfl,rfl,rfl⟩
theorem h273_k : FK Tryz.prog 273 Tryz.f273 h273:=⟨by kernel_rfl,by kernel_rfl,Tryz.func273,by kernel_rfl⟩
def h206 : Hint:=hm [2,8,128,4,4] [] [] [5]
@[go_sem] theorem h206_l : h206.lv 0 = [1] /\ h206.lv 1 = [3] /\ h206.lv 2 = [7] /\ h206.lv 3 = [2] /\ h206.lv 4 = [2]:=by decide +kernel
@[go_sem] def h206_q:=hplain h206 rfl rfl rfl
@[go_sem] theorem h206_t : h206.tk = [] /\ h206.mt = [] /\ h206.pc = [5]:=⟨rfl,rfl,rfl⟩
theorem h206_k : FK Tryz.prog 206 Tryz.f206 h206:=⟨by kernel_rfl,by kernel_rfl,Tryz.func206,by kernel_rfl⟩
def h136 : Hint:=hm [1,257,4,9,4105,9,25,4194329,4,41,2147483689,4,4] [] [] [20,29]
@[go_sem] theorem h136_l : h136.lv 0 = [0] /\ h136.lv 1 = [0,8] /\ h136.lv 2 = [2] /\ h136.lv 3 = [0,3] /\ h136.lv 4 = [0,3,12] /\ h136.lv 5 = [0,3] /\ h136.lv 6 = [0,3,4] /\ h136.lv 7 = [0,3,4,22] /\ h136.lv 8 = [2] /\ h136.lv 9 = [0,3,5] /\ h136.lv 10 = [0,3,5,31] /\ h136.lv 11 = [2] /\ h136.lv 12 = [2]:=by decide +kernel
@[go_sem] def h136_q:=hplain h136 rfl rfl rfl
@[go_sem] theorem h136_t : h136.tk = [] /\ h136.mt = [] /\ h136.pc = [20,29]:=⟨rfl,rfl,rfl⟩
theorem h136_k : FK Tryz.prog 136 Tryz.f136 h136:=⟨by kernel_rfl,by kernel_rfl,Tryz.func136,by kernel_rfl⟩
def h208 : Hint:=hm [19,275,48,83,8275,83,4194387,48,48] [23] [] [9]
@[go_sem] theorem h208_l : h208.lv 0 = [0,1,4] /\ h208.lv 1 = [0,1,4,8] /\ h208.lv 2 = [4,5] /\ h208.lv 3 = [0,1,4,6] /\ h208.lv 4 = [0,1,4,6,13] /\ h208.lv 5 = [0,1,4,6] /\ h208.lv 6 = [0,1,4,6,22] /\ h208.lv 7 = [4,5] /\ h208.lv 8 = [4,5]:=by decide +kernel
@[go_sem] def h208_q:=hplain h208 rfl rfl rfl
@[go_sem] theorem h208_t : h208.tk = [23] /\ h208.mt = [] /\ h208.pc = [9]:=⟨rfl,rfl,rfl⟩
theorem h208_k : FK Tryz.prog 208 Tryz.f208 h208:=⟨by kernel_rfl,by kernel_rfl,Tryz.func208,by kernel_rfl⟩
def h271 : Hint:=hm [2,10,26,2074,26,26,4] [14,22] [] [20]
@[go_sem] theorem h271_l : h271.lv 0 = [1] /\ h271.lv 1 = [1,3] /\ h271.lv 2 = [1,3,4] /\ h271.lv 3 = [1,3,4,11] /\ h271.lv 4 = [1,3,4] /\ h271.lv 5 = [1,3,4] /\ h271.lv 6 = [2]:=by decide +kernel
@[go_sem] def h271_q:=hplain h271 rfl rfl rfl
@[go_sem] theorem h271_t : h271.tk = [14,22] /\ h271.mt = [] /\ h271.pc = [20]:=⟨rfl,rfl,rfl⟩
theorem h271_k : FK Tryz.prog 271 Tryz.f271 h271:=⟨by kernel_rfl,by kernel_rfl,Tryz.func271,by kernel_rfl⟩
def h275 : Hint:=hm [1,9,25,153,25,25,4] [] [] []
@[go_sem] theorem h275_l : h275.lv 0 = [0] /\ h275.lv 1 = [0,3] /\ h275.lv 2 = [0,3,4] /\ h275.lv 3 = [0,3,4,7] /\ h275.lv 4 = [0,3,4] /\ h275.lv 5 = [0,3,4] /\ h275.lv 6 = [2]:=by decide +kernel
@[go_sem] def h275_q:=hplain h275 rfl rfl rfl
@[go_sem] theorem h275_t : h275.tk = [] /\ h275.mt = [] /\ h275.pc = []:=⟨rfl,rfl,rfl⟩
theorem h275_k : FK Tryz.prog 275 Tryz.f275 h275:=⟨by kernel_rfl,by kernel_rfl,Tryz.func275,by kernel_rfl⟩
def h209 : Hint:=hm [2,4] [] [] [5]
@[go_sem] theorem h209_l : h209.lv 0 = [1] /\ h209.lv 1 = [2]:=by decide +kernel
@[go_sem] def h209_q:=hplain h209 rfl rfl rfl
@[go_sem] theorem h209_t : h209.tk = [] /\ h209.mt = [] /\ h209.pc = [5]:=⟨rfl,rfl,rfl⟩
theorem h209_k : FK Tryz.prog 209 Tryz.f209 h209:=⟨by kernel_rfl,by kernel_rfl,Tryz.func209,by kernel_rfl⟩
def h272 : Hint:=hm [9,1048585,16,104,536870952,16,168,17179869352,168,4503599627370496,16,16] [22] [] [25,39]
@[go_sem] theorem h272_l : h272.lv 0 = [0,3] /\ h272.lv 1 = [0,3,20] /\ h272.lv 2 = [4] /\ h272.lv 3 = [3,5,6] /\ h272.lv 4 = [3,5,29] /\ h272.lv 5 = [4] /\ h272.lv 6 = [3,5,7] /\ h272.lv 7 = [3,5,7,34] /\ h272.lv 8 = [3,5,7] /\ h272.lv 9 = [52] /\ h272.lv 10 = [4] /\ h272.lv 11 = [4]:=by decide +kernel
@[go_sem] def h272_q:=hplain h272 rfl rfl rfl
@[go_sem] theorem h272_t : h272.tk = [22] /\ h272.mt = [] /\ h272.pc = [25,39]:=⟨rfl,rfl,rfl⟩
theorem h272_k : FK Tryz.prog 272 Tryz.f272 h272:=⟨by kernel_rfl,by kernel_rfl,Tryz.func272,by kernel_rfl⟩
def h205 : Hint:=hm [9,33,97,8289,97,225,8388833,16,16] [] [] [9,21]
@[go_sem] theorem h205_l : h205.lv 0 = [0,3] /\ h205.lv 1 = [0,5] /\ h205.lv 2 = [0,5,6] /\ h205.lv 3 = [0,5,6,13] /\ h205.lv 4 = [0,5,6] /\ h205.lv 5 = [0,5,6,7] /\ h205.lv 6 = [0,5,6,7,23] /\ h205.lv 7 = [4] /\ h205.lv 8 = [4]:=by decide +kernel
@[go_sem] def h205_q:=hplain h205 rfl rfl rfl
@[go_sem] theorem h205_t : h205.tk = [] /\ h205.mt = [] /\ h205.pc = [9,21]:=⟨rfl,rfl,rfl⟩
theorem h205_k : FK Tryz.prog 205 Tryz.f205 h205:=⟨by kernel_rfl,by kernel_rfl,Tryz.func205,by kernel_rfl⟩
def h207 : Hint:=hm [2,10,26,2074,26,26,4] [14,22] [] [20]
@[go_sem] theorem h207_l : h207.lv 0 = [1] /\ h207.lv 1 = [1,3] /\ h207.lv 2 = [1,3,4] /\ h207.lv 3 = [1,3,4,11] /\ h207.lv 4 = [1,3,4] /\ h207.lv 5 = [1,3,4] /\ h207.lv 6 = [2]:=by decide +kernel
@[go_sem] def h207_q:=hplain h207 rfl rfl rfl
@[go_sem] theorem h207_t : h207.tk = [14,22] /\ h207.mt = [] /\ h207.pc = [20]:=⟨rfl,rfl,rfl⟩
theorem h207_k : FK Tryz.prog 207 Tryz.f207 h207:=⟨by kernel_rfl,by kernel_rfl,Tryz.func207,by kernel_rfl⟩
def h137 : Hint:=hx [9,41,8233,16,97,225,1048801,225,268435681,225,2199023255777,993,9007199254741473,225,0x20000000000000e1,225,0x80000000000000e1,16,16] [] [] [] [11,16,35,49,60] [(7,1)] []
@[go_sem] theorem h137_l : h137.lv 0 = [0,3] /\ h137.lv 1 = [0,3,5] /\ h137.lv 2 = [0,3,5,13] /\ h137.lv 3 = [4] /\ h137.lv 4 = [0,5,6] /\ h137.lv 5 = [0,5,6,7] /\ h137.lv 6 = [0,5,6,7,20] /\ h137.lv 7 = [0,5,6,7] /\ h137.lv 8 = [0,5,6,7,28] /\ h137.lv 9 = [0,5,6,7] /\ h137.lv 10 = [0,5,6,7,41] /\ h137.lv 11 = [0,5,6,7,8,9] /\ h137.lv 12 = [0,5,6,7,8,53] /\ h137.lv 13 = [0,5,6,7] /\ h137.lv 14 = [0,5,6,7,61] /\ h137.lv 15 = [0,5,6,7] /\ h137.lv 16 = [0,5,6,7,63] /\ h137.lv 17 = [4] /\ h137.lv 18 = [4]:=by decide +kernel
@[go_sem] theorem h137_g : h137.ct 0 = none /\ h137.ct 1 = none /\ h137.ct 2 = none /\ h137.ct 3 = none /\ h137.ct 4 = none /\ h137.ct 5 = none /\ h137.ct 6 = none /\ h137.ct 7 = some 1 /\ h137.ct 8 = none /\ h137.ct 9 = none /\ h137.ct 10 = none /\ h137.ct 11 = none /\ h137.ct 12 = none /\ h137.ct 13 = none /\ h137.ct 14 = none /\ h137.ct 15 = none /\ h137.ct 16 = none /\ h137.ct 17 = none /\ h137.ct 18 = none:=by decide +kernel
@[go_sem] theorem h137_z (k : Nat) : h137.at k = []:=rfl
@[go_sem] theorem h137_y (k : Nat) : h137.dn k = false:=Eq.trans rfl rfl
@[go_sem] theorem h137_t : h137.tk = [] /\ h137.mt = [] /\ h137.pc = [11,16,35,49,60]:=⟨rfl,rfl,rfl⟩
theorem h137_k : FK Tryz.prog 137 Tryz.f137 h137:=⟨by kernel_rfl,by kernel_rfl,Tryz.func137,by kernel_rfl⟩
def h138 : Hint:=hx [9,41,4194345,16,73,1073741897,73,201,549755814089,201,713,4503599627370697,16,1033,0x200000000000409,1033,3081,0x4000000000000c09,3081,0x8000000000000000c09,16,4104,0x100000000000000000000000,16,16] [31,77] [] [] [15,48,80,90] [(9,1)] []
@[go_sem] theorem h138_l : h138.lv 0 = [0,3] /\ h138.lv 1 = [0,3,5] /\ h138.lv 2 = [0,3,5,22] /\ h138.lv 3 = [4] /\ h138.lv 4 = [0,3,6] /\ h138.lv 5 = [0,3,6,30] /\ h138.lv 6 = [0,3,6] /\ h138.lv 7 = [0,3,6,7] /\ h138.lv 8 = [0,3,6,7,39] /\ h138.lv 9 = [0,3,6,7] /\ h138.lv 10 = [0,3,6,7,9] /\ h138.lv 11 = [0,3,6,7,52] /\ h138.lv 12 = [4] /\ h138.lv 13 = [0,3,10] /\ h138.lv 14 = [0,3,10,57] /\ h138.lv 15 = [0,3,10] /\ h138.lv 16 = [0,3,10,11] /\ h138.lv 17 = [0,3,10,11,62] /\ h138.lv 18 = [0,3,10,11] /\ h138.lv 19 = [0,3,10,11,75] /\ h138.lv 20 = [4] /\ h138.lv 21 = [3,12] /\ h138.lv 22 = [92] /\ h138.lv 23 = [4] /\ h138.lv 24 = [4]:=by decide +kernel
@[go_sem] theorem h138_g : h138.ct 0 = none /\ h138.ct 1 = none /\ h138.ct 2 = none /\ h138.ct 3 = none /\ h138.ct 4 = none /\ h138.ct 5 = none /\ h138.ct 6 = none /\ h138.ct 7 = none /\ h138.ct 8 = none /\ h138.ct 9 = some 1 /\ h138.ct 10 = none /\ h138.ct 11 = none /\ h138.ct 12 = none /\ h138.ct 13 = none /\ h138.ct 14 = none /\ h138.ct 15 = none /\ h138.ct 16 = none /\ h138.ct 17 = none /\ h138.ct 18 = none /\ h138.ct 19 = none /\ h138.ct 20 = none /\ h138.ct 21 = none /\ h138.ct 22 = none /\ h138.ct 23 = none /\ h138.ct 24 = none:=by decide +kernel
@[go_sem] theorem h138_z (k : Nat) : h138.at k = []:=rfl
@[go_sem] theorem h138_y (k : Nat) : h138.dn k = false:=Eq.trans rfl rfl
@[go_sem] theorem h138_t : h138.tk = [31,77] /\ h138.mt = [] /\ h138.pc = [15,48,80,90]:=⟨rfl,rfl,rfl⟩
theorem h138_k : FK Tryz.prog 138 Tryz.f138 h138:=⟨by kernel_rfl,by kernel_rfl,Tryz.func138,by kernel_rfl⟩
def h210 : Hint:=hm [3,1027,16,35,16419,35,33554467,16,16] [] [] []
@[go_sem] theorem h210_l : h210.lv 0 = [0,1] /\ h210.lv 1 = [0,1,10] /\ h210.lv 2 = [4] /\ h210.lv 3 = [0,1,5] /\ h210.lv 4 = [0,1,5,14] /\ h210.lv 5 = [0,1,5] /\ h210.lv 6 = [0,1,5,25] /\ h210.lv 7 = [4] /\ h210.lv 8 = [4]:=by decide +kernel
@[go_sem] def h210_q:=hplain h210 rfl rfl rfl
@[go_sem] theorem h210_t : h210.tk = [] /\ h210.mt = [] /\ h210.pc = []:=⟨rfl,rfl,rfl⟩
theorem h210_k : FK Tryz.prog 210 Tryz.f210 h210:=⟨by kernel_rfl,by kernel_rfl,Tryz.func210,by kernel_rfl⟩
def h147 : Hint:=hm [2,4] [] [] []
@[go_sem] theorem h147_l : h147.lv 0 = [1] /\ h147.lv 1 = [2]:=by decide +kernel
@[go_sem] def h147_q:=hplain h147 rfl rfl rfl
@[go_sem] theorem h147_t : h147.tk = [] /\ h147.mt = [] /\ h147.pc = []:=⟨rfl,rfl,rfl⟩
theorem h147_k : FK Tryz.prog 147 Tryz.f147 h147:=⟨by kernel_rfl,by kernel_rfl,Tryz.func147,by kernel_rfl⟩
def h146 : Hint:=hx [3,35,99,4195,99,227,99,16] [24,29] [] [] [21] [(4,0)] []
@[go_sem] theorem h146_l : h146.lv 0 = [0,1] /\ h146.lv 1 = [0,1,5] /\ h146.lv 2 = [0,1,5,6] /\ h146.lv 3 = [0,1,5,6,12] /\ h146.lv 4 = [0,1,5,6] /\ h146.lv 5 = [0,1,5,6,7] /\ h146.lv 6 = [0,1,5,6] /\ h146.lv 7 = [4]:=by decide +kernel
@[go_sem] theorem h146_g : h146.ct 0 = none /\ h146.ct 1 = none /\ h146.ct 2 = none /\ h146.ct 3 = none /\ h146.ct 4 = some 0 /\ h146.ct 5 = none /\ h146.ct 6 = none /\ h146.ct 7 = none:=by decide +kernel
@[go_sem] theorem h146_z (k : Nat) : h146.at k = []:=rfl
@[go_sem] theorem h146_y (k : Nat) : h146.dn k = false:=Eq.trans rfl rfl
@[go_sem] theorem h146_t : h146.tk = [24,29] /\ h146.mt = [] /\ h146.pc = [21]:=⟨rfl,rfl,rfl⟩
theorem h146_k : FK Tryz.prog 146 Tryz.f146 h146:=⟨by kernel_rfl,by kernel_rfl,Tryz.func146,by kernel_rfl⟩
def h145 : Hint:=hm [1,8,24,4,72,72,4,520,512,4,4] [] [] []
@[go_sem] theorem h145_l : h145.lv 0 = [0] /\ h145.lv 1 = [3] /\ h145.lv 2 = [3,4] /\ h145.lv 3 = [2] /\ h145.lv 4 = [3,6] /\ h145.lv 5 = [3,6] /\ h145.lv 6 = [2] /\ h145.lv 7 = [3,9] /\ h145.lv 8 = [9] /\ h145.lv 9 = [2] /\ h145.lv 10 = [2]:=by decide +kernel
@[go_sem] def h145_q:=hplain h145 rfl rfl rfl
@[go_sem] theorem h145_t : h145.tk = [] /\ h145.mt = [] /\ h145.pc = []:=⟨rfl,rfl,rfl⟩
theorem h145_k : FK Tryz.prog 145 Tryz.f145 h145:=⟨by kernel_rfl,by kernel_rfl,Tryz.func145,by kernel_rfl⟩
def h139 : Hint:=hm [49,134217777,64,176,64] [] [] [9,12,31,35,36,41,44]
@[go_sem] theorem h139_l : h139.lv 0 = [0,4,5] /\ h139.lv 1 = [0,4,5,27] /\ h139.lv 2 = [6] /\ h139.lv 3 = [4,5,7] /\ h139.lv 4 = [6]:=by decide +kernel
@[go_sem] def h139_q:=hplain h139 rfl rfl rfl
@[go_sem] theorem h139_t : h139.tk = [] /\ h139.mt = [] /\ h139.pc = [9,12,31,35,36,41,44]:=⟨rfl,rfl,rfl⟩
theorem h139_k : FK Tryz.prog 139 Tryz.f139 h139:=⟨by kernel_rfl,by kernel_rfl,Tryz.func139,by kernel_rfl⟩
def h76 : Hint:=hx [3,35,65571,16,67,2097219,67,195,4294967491,16,323,4398046511427,16,515,0x800000000203,515,1539,4503599627372035,1539,3587,7683,0x4000000000000000000603,16,16] [] [] [] [14,30,40,84] [(18,0)] []
@[go_sem] theorem h76_l : h76.lv 0 = [0,1] /\ h76.lv 1 = [0,1,5] /\ h76.lv 2 = [0,1,5,16] /\ h76.lv 3 = [4] /\ h76.lv 4 = [0,1,6] /\ h76.lv 5 = [0,1,6,21] /\ h76.lv 6 = [0,1,6] /\ h76.lv 7 = [0,1,6,7] /\ h76.lv 8 = [0,1,6,7,32] /\ h76.lv 9 = [4] /\ h76.lv 10 = [0,1,6,8] /\ h76.lv 11 = [0,1,6,8,42] /\ h76.lv 12 = [4] /\ h76.lv 13 = [0,1,9] /\ h76.lv 14 = [0,1,9,47] /\ h76.lv 15 = [0,1,9] /\ h76.lv 16 = [0,1,9,10] /\ h76.lv 17 = [0,1,9,10,52] /\ h76.lv 18 = [0,1,9,10] /\ h76.lv 19 = [0,1,9,10,11] /\ h76.lv 20 = [0,1,9,10,11,12] /\ h76.lv 21 = [0,1,9,10,86] /\ h76.lv 22 = [4] /\ h76.lv 23 = [4]:=by decide +kernel
@[go_sem] theorem h76_g : h76.ct 0 = none /\ h76.ct 1 = none /\ h76.ct 2 = none /\ h76.ct 3 = none /\ h76.ct 4 = none /\ h76.ct 5 = none /\ h76.ct 6 = none /\ h76.ct 7 = none /\ h76.ct 8 = none /\ h76.ct 9 = none /\ h76.ct 10 = none /\ h76.ct 11 = none /\ h76.ct 12 = none /\ h76.ct 13 = none /\ h76.ct 14 = none /\ h76.ct 15 = none /\ h76.ct 16 = none /\ h76.ct 17 = none /\ h76.ct 18 = some 0 /\ h76.ct 19 = none /\ h76.ct 20 = none /\ h76.ct 21 = none /\ h76.ct 22 = none /\ h76.ct 23 = none:=by decide +kernel
@[go_sem] theorem h76_z (k : Nat) : h76.at k = []:=rfl
@[go_sem] theorem h76_y (k : Nat) : h76.dn k = false:=Eq.trans rfl rfl
@[go_sem] theorem h76_t : h76.tk = [] /\ h76.mt = [] /\ h76.pc = [14,30,40,84]:=⟨rfl,rfl,rfl⟩
theorem h76_k : FK Tryz.prog 76 Tryz.f76 h76:=⟨by kernel_rfl,by kernel_rfl,Tryz.func76,by kernel_rfl⟩
def h306 : Hint:=hm [3,35,99,227,2275,227,8388835,163,227,8589934819,227,4398046511138,32,16] [24,34,43,47] [] []
@[go_sem] theorem h306_l : h306.lv 0 = [0,1] /\ h306.lv 1 = [0,1,5] /\ h306.lv 2 = [0,1,5,6] /\ h306.lv 3 = [0,1,5,6,7] /\ h306.lv 4 = [0,1,5,6,7,11] /\ h306.lv 5 = [0,1,5,6,7] /\ h306.lv 6 = [0,1,5,6,7,23] /\ h306.lv 7 = [0,1,5,7] /\ h306.lv 8 = [0,1,5,6,7] /\ h306.lv 9 = [0,1,5,6,7,33] /\ h306.lv 10 = [0,1,5,6,7] /\ h306.lv 11 = [1,5,42] /\ h306.lv 12 = [5] /\ h306.lv 13 = [4]:=by decide +kernel
@[go_sem] def h306_q:=hplain h306 rfl rfl rfl
@[go_sem] theorem h306_t : h306.tk = [24,34,43,47] /\ h306.mt = [] /\ h306.pc = []:=⟨rfl,rfl,rfl⟩
theorem h306_k : FK Tryz.prog 306 Tryz.f306 h306:=⟨by kernel_rfl,by kernel_rfl,Tryz.func306,by kernel_rfl⟩
def h259 : Hint:=hm [2,10,24,56,2104,56,134217784,56,4] [] [] [7,34]
@[go_sem] theorem h259_l : h259.lv 0 = [1] /\ h259.lv 1 = [1,3] /\ h259.lv 2 = [3,4] /\ h259.lv 3 = [3,4,5] /\ h259.lv 4 = [3,4,5,11] /\ h259.lv 5 = [3,4,5] /\ h259.lv 6 = [3,4,5,27] /\ h259.lv 7 = [3,4,5] /\ h259.lv 8 = [2]:=by decide +kernel
@[go_sem] def h259_q:=hplain h259 rfl rfl rfl
@[go_sem] theorem h259_t : h259.tk = [] /\ h259.mt = [] /\ h259.pc = [7,34]:=⟨rfl,rfl,rfl⟩
theorem h259_k : FK Tryz.prog 259 Tryz.f259 h259:=⟨by kernel_rfl,by kernel_rfl,Tryz.func259,by kernel_rfl⟩
def h261 : Hint:=hm [3,35,547,35,131107,16,16] [] [] []
@[go_sem] theorem h261_l : h261.lv 0 = [0,1] /\ h261.lv 1 = [0,1,5] /\ h261.lv 2 = [0,1,5,9] /\ h261.lv 3 = [0,1,5] /\ h261.lv 4 = [0,1,5,17] /\ h261.lv 5 = [4] /\ h261.lv 6 = [4]:=by decide +kernel
@[go_sem] def h261_q:=hplain h261 rfl rfl rfl
@[go_sem] theorem h261_t : h261.tk = [] /\ h261.mt = [] /\ h261.pc = []:=⟨rfl,rfl,rfl⟩
theorem h261_k : FK Tryz.prog 261 Tryz.f261 h261:=⟨by kernel_rfl,by kernel_rfl,Tryz.func261,by kernel_rfl⟩
def h198 : Hint:=hx [12,40,65576,16,72,4194376,72,200,456,34359738824,456,17592186044872,16,584,0x8000000000000048,16,16] [] [] [] [14,31,43,61] [(6,2)] []
@[go_sem] theorem h198_l : h198.lv 0 = [2,3] /\ h198.lv 1 = [3,5] /\ h198.lv 2 = [3,5,16] /\ h198.lv 3 = [4] /\ h198.lv 4 = [3,6] /\ h198.lv 5 = [3,6,22] /\ h198.lv 6 = [3,6] /\ h198.lv 7 = [3,6,7] /\ h198.lv 8 = [3,6,7,8] /\ h198.lv 9 = [3,6,7,8,35] /\ h198.lv 10 = [3,6,7,8] /\ h198.lv 11 = [3,6,7,8,44] /\ h198.lv 12 = [4] /\ h198.lv 13 = [3,6,9] /\ h198.lv 14 = [3,6,63] /\ h198.lv 15 = [4] /\ h198.lv 16 = [4]:=by decide +kernel
@[go_sem] theorem h198_g : h198.ct 0 = none /\ h198.ct 1 = none /\ h198.ct 2 = none /\ h198.ct 3 = none /\ h198.ct 4 = none /\ h198.ct 5 = none /\ h198.ct 6 = some 2 /\ h198.ct 7 = none /\ h198.ct 8 = none /\ h198.ct 9 = none /\ h198.ct 10 = none /\ h198.ct 11 = none /\ h198.ct 12 = none /\ h198.ct 13 = none /\ h198.ct 14 = none /\ h198.ct 15 = none /\ h198.ct 16 = none:=by decide +kernel
@[go_sem] theorem h198_z (k : Nat) : h198.at k = []:=rfl
@[go_sem] theorem h198_y (k : Nat) : h198.dn k = false:=Eq.trans rfl rfl
@[go_sem] theorem h198_t : h198.tk = [] /\ h198.mt = [] /\ h198.pc = [14,31,43,61]:=⟨rfl,rfl,rfl⟩
theorem h198_k : FK Tryz.prog 198 Tryz.f198 h198:=⟨by kernel_rfl,by kernel_rfl,Tryz.func198,by kernel_rfl⟩
def h204 : Hint:=hm [2,4] [] [] [4,6,7]
@[go_sem] theorem h204_l : h204.lv 0 = [1] /\ h204.lv 1 = [2]:=by decide +kernel
@[go_sem] def h204_q:=hplain h204 rfl rfl rfl
@[go_sem] theorem h204_t : h204.tk = [] /\ h204.mt = [] /\ h204.pc = [4,6,7]:=⟨rfl,rfl,rfl⟩
theorem h204_k : FK Tryz.prog 204 Tryz.f204 h204:=⟨by kernel_rfl,by kernel_rfl,Tryz.func204,by kernel_rfl⟩
def h135 : Hint:=hm [9,41,553,16,16] [11] [] [7,13]
@[go_sem] theorem h135_l : h135.lv 0 = [0,3] /\ h135.lv 1 = [0,3,5] /\ h135.lv 2 = [0,3,5,9] /\ h135.lv 3 = [4] /\ h135.lv 4 = [4]:=by decide +kernel
@[go_sem] def h135_q:=hplain h135 rfl rfl rfl
@[go_sem] theorem h135_t : h135.tk = [11] /\ h135.mt = [] /\ h135.pc = [7,13]:=⟨rfl,rfl,rfl⟩
theorem h135_k : FK Tryz.prog 135 Tryz.f135 h135:=⟨by kernel_rfl,by kernel_rfl,Tryz.func135,by kernel_rfl⟩
def h263 : Hint:=hm [2,10,26,58,32826,4,98362,98362,50,557114,50,4227106,4227106,50,33554466,50,34359738386,4,82,274877907026,82,210,281474976710738,4,4] [] [] [10,46]
@[go_sem] theorem h263_l : h263.lv 0 = [1] /\ h263.lv 1 = [1,3] /\ h263.lv 2 = [1,3,4] /\ h263.lv 3 = [1,3,4,5] /\ h263.lv 4 = [1,3,4,5,15] /\ h263.lv 5 = [2] /\ h263.lv 6 = [1,3,4,5,15,16] /\ h263.lv 7 = [1,3,4,5,15,16] /\ h263.lv 8 = [1,4,5] /\ h263.lv 9 = [1,3,4,5,15,19] /\ h263.lv 10 = [1,4,5] /\ h263.lv 11 = [1,5,15,22] /\ h263.lv 12 = [1,5,15,22] /\ h263.lv 13 = [1,4,5] /\ h263.lv 14 = [1,5,25] /\ h263.lv 15 = [1,4,5] /\ h263.lv 16 = [1,4,35] /\ h263.lv 17 = [2] /\ h263.lv 18 = [1,4,6] /\ h263.lv 19 = [1,4,6,38] /\ h263.lv 20 = [1,4,6] /\ h263.lv 21 = [1,4,6,7] /\ h263.lv 22 = [1,4,6,48] /\ h263.lv 23 = [2] /\ h263.lv 24 = [2]:=by decide +kernel
@[go_sem] def h263_q:=hplain h263 rfl rfl rfl
@[go_sem] theorem h263_t : h263.tk = [] /\ h263.mt = [] /\ h263.pc = [10,46]:=⟨rfl,rfl,rfl⟩
theorem h263_k : FK Tryz.prog 263 Tryz.f263 h263:=⟨by kernel_rfl,by kernel_rfl,Tryz.func263,by kernel_rfl⟩
def h199 : Hint:=hm [2,4] [] [] [4,6,7]
@[go_sem] theorem h199_l : h199.lv 0 = [1] /\ h199.lv 1 = [2]:=by decide +kernel
@[go_sem] def h199_q:=hplain h199 rfl rfl rfl
@[go_sem] theorem h199_t : h199.tk = [] /\ h199.mt = [] /\ h199.pc = [4,6,7]:=⟨rfl,rfl,rfl⟩
theorem h199_k : FK Tryz.prog 199 Tryz.f199 h199:=⟨by kernel_rfl,by kernel_rfl,Tryz.func199,by kernel_rfl⟩
def h124 : Hint:=hm [2,18,50,114,4210,114,114,178,268435634,178,178,12] [15,31,40,41] [] []
@[go_sem] theorem h124_l : h124.lv 0 = [1] /\ h124.lv 1 = [1,4] /\ h124.lv 2 = [1,4,5] /\ h124.lv 3 = [1,4,5,6] /\ h124.lv 4 = [1,4,5,6,12] /\ h124.lv 5 = [1,4,5,6] /\ h124.lv 6 = [1,4,5,6] /\ h124.lv 7 = [1,4,5,7] /\ h124.lv 8 = [1,4,5,7,28] /\ h124.lv 9 = [1,4,5,7] /\ h124.lv 10 = [1,4,5,7] /\ h124.lv 11 = [2,3]:=by decide +kernel
@[go_sem] def h124_q:=hplain h124 rfl rfl rfl
@[go_sem] theorem h124_t : h124.tk = [15,31,40,41] /\ h124.mt = [] /\ h124.pc = []:=⟨rfl,rfl,rfl⟩
theorem h124_k : FK Tryz.prog 124 Tryz.f124 h124:=⟨by kernel_rfl,by kernel_rfl,Tryz.func124,by kernel_rfl⟩
def h200 : Hint:=hm [12,44,4194316,16,140,134217868,140,137438953612,16,16] [17] [] [10,20,36]
@[go_sem] theorem h200_l : h200.lv 0 = [2,3] /\ h200.lv 1 = [2,3,5] /\ h200.lv 2 = [2,3,22] /\ h200.lv 3 = [4] /\ h200.lv 4 = [2,3,7] /\ h200.lv 5 = [2,3,7,27] /\ h200.lv 6 = [2,3,7] /\ h200.lv 7 = [2,3,7,37] /\ h200.lv 8 = [4] /\ h200.lv 9 = [4]:=by decide +kernel
@[go_sem] def h200_q:=hplain h200 rfl rfl rfl
@[go_sem] theorem h200_t : h200.tk = [17] /\ h200.mt = [] /\ h200.pc = [10,20,36]:=⟨rfl,rfl,rfl⟩
theorem h200_k : FK Tryz.prog 200 Tryz.f200 h200:=⟨by kernel_rfl,by kernel_rfl,Tryz.func200,by kernel_rfl⟩
def h201 : Hint:=hm [6,16] [] [] [7]
@[go_sem] theorem h201_l : h201.lv 0 = [1,2] /\ h201.lv 1 = [4]:=by decide +kernel
@[go_sem] def h201_q:=hplain h201 rfl rfl rfl
@[go_sem] theorem h201_t : h201.tk = [] /\ h201.mt = [] /\ h201.pc = [7]:=⟨rfl,rfl,rfl⟩
theorem h201_k : FK Tryz.prog 201 Tryz.f201 h201:=⟨by kernel_rfl,by kernel_rfl,Tryz.func201,by kernel_rfl⟩
def h130 : Hint:=hx [12,2147483660,16,44,68719476780,44,2199023255596,16,76,0x80000000004c,76,108,0x100000000000006c,108,0x20000000000000000006c,108,0x80000000000000000006c,16,136,0x20000000000000000000088,136,392,0x1000000000000000000000000000000188,16,904,0x8000000000000000000000000000000388,904,0x2000000000000000000000000000000000000388,16,16] [] [] [] [34,39,58,67,79,100,106] [(20,2)] []
@[go_sem] theorem h130_l : h130.lv 0 = [2,3] /\ h130.lv 1 = [2,3,31] /\ h130.lv 2 = [4] /\ h130.lv 3 = [2,3,5] /\ h130.lv 4 = [2,3,5,36] /\ h130.lv 5 = [2,3,5] /\ h130.lv 6 = [2,3,5,41] /\ h130.lv 7 = [4] /\ h130.lv 8 = [2,3,6] /\ h130.lv 9 = [2,3,6,47] /\ h130.lv 10 = [2,3,6] /\ h130.lv 11 = [2,3,5,6] /\ h130.lv 12 = [2,3,5,6,60] /\ h130.lv 13 = [2,3,5,6] /\ h130.lv 14 = [2,3,5,6,81] /\ h130.lv 15 = [2,3,5,6] /\ h130.lv 16 = [2,3,5,6,83] /\ h130.lv 17 = [4] /\ h130.lv 18 = [3,7] /\ h130.lv 19 = [3,7,89] /\ h130.lv 20 = [3,7] /\ h130.lv 21 = [3,7,8] /\ h130.lv 22 = [3,7,8,132] /\ h130.lv 23 = [4] /\ h130.lv 24 = [3,7,8,9] /\ h130.lv 25 = [3,7,8,9,135] /\ h130.lv 26 = [3,7,8,9] /\ h130.lv 27 = [3,7,8,9,157] /\ h130.lv 28 = [4] /\ h130.lv 29 = [4]:=by decide +kernel
@[go_sem] theorem h130_g : h130.ct 0 = none /\ h130.ct 1 = none /\ h130.ct 2 = none /\ h130.ct 3 = none /\ h130.ct 4 = none /\ h130.ct 5 = none /\ h130.ct 6 = none /\ h130.ct 7 = none /\ h130.ct 8 = none /\ h130.ct 9 = none /\ h130.ct 10 = none /\ h130.ct 11 = none /\ h130.ct 12 = none /\ h130.ct 13 = none /\ h130.ct 14 = none /\ h130.ct 15 = none /\ h130.ct 16 = none /\ h130.ct 17 = none /\ h130.ct 18 = none /\ h130.ct 19 = none /\ h130.ct 20 = some 2 /\ h130.ct 21 = none /\ h130.ct 22 = none /\ h130.ct 23 = none /\ h130.ct 24 = none /\ h130.ct 25 = none /\ h130.ct 26 = none /\ h130.ct 27 = none /\ h130.ct 28 = none /\ h130.ct 29 = none:=by decide +kernel
@[go_sem] theorem h130_z (k : Nat) : h130.at k = []:=rfl
@[go_sem] theorem h130_y (k : Nat) : h130.dn k = false:=Eq.trans rfl rfl
@[go_sem] theorem h130_t : h130.tk = [] /\ h130.mt = [] /\ h130.pc = [34,39,58,67,79,100,106]:=⟨rfl,rfl,rfl⟩
theorem h130_k : FK Tryz.prog 130 Tryz.f130 h130:=⟨by kernel_rfl,by kernel_rfl,Tryz.func130,by kernel_rfl⟩
def h68 : Hint:=hm [30,256] [] [] []
@[go_sem] theorem h68_l : h68.lv 0 = [1,2,3,4] /\ h68.lv 1 = [8]:=by decide +kernel
@[go_sem] def h68_q:=hplain h68 rfl rfl rfl
@[go_sem] theorem h68_t : h68.tk = [] /\ h68.mt = [] /\ h68.pc = []:=⟨rfl,rfl,rfl⟩
theorem h68_k : FK Tryz.prog 68 Tryz.f68 h68:=⟨by kernel_rfl,by kernel_rfl,Tryz.func68,by kernel_rfl⟩
def h125 : Hint:=hm [1,9,521,9,25,262153,4,41,2097193,41,4294967337,4,4] [] [] [16]
@[go_sem] theorem h125_l : h125.lv 0 = [0] /\ h125.lv 1 = [0,3] /\ h125.lv 2 = [0,3,9] /\ h125.lv 3 = [0,3] /\ h125.lv 4 = [0,3,4] /\ h125.lv 5 = [0,3,18] /\ h125.lv 6 = [2] /\ h125.lv 7 = [0,3,5] /\ h125.lv 8 = [0,3,5,21] /\ h125.lv 9 = [0,3,5] /\ h125.lv 10 = [0,3,5,32] /\ h125.lv 11 = [2] /\ h125.lv 12 = [2]:=by decide +kernel
@[go_sem] def h125_q:=hplain h125 rfl rfl rfl
@[go_sem] theorem h125_t : h125.tk = [] /\ h125.mt = [] /\ h125.pc = [16]:=⟨rfl,rfl,rfl⟩
theorem h125_k : FK Tryz.prog 125 Tryz.f125 h125:=⟨by kernel_rfl,by kernel_rfl,Tryz.func125,by kernel_rfl⟩
def h126 : Hint:=hm [6,16] [] [] []
@[go_sem] theorem h126_l : h126.lv 0 = [1,2] /\ h126.lv 1 = [4]:=by decide +kernel
@[go_sem] def h126_q:=hplain h126 rfl rfl rfl
@[go_sem] theorem h126_t : h126.tk = [] /\ h126.mt = [] /\ h126.pc = []:=⟨rfl,rfl,rfl⟩
theorem h126_k : FK Tryz.prog 126 Tryz.f126 h126:=⟨by kernel_rfl,by kernel_rfl,Tryz.func126,by kernel_rfl⟩
def h71 : Hint:=hx [2,134217730,4,26,50,98,4398046511106,4,130,0x800000000082,130,386,0x1000000000000000082,4,514,0x20000000000000000202,514,1538,0x20000000000000000000000000202,4,2050,0x400000000000000000000000000802,2050,0x200000000000000000000000000000802,4,4] [33,35] [] [] [30,34,36,88,94,128] [(10,1),(16,1)] []
@[go_sem] theorem h71_l : h71.lv 0 = [1] /\ h71.lv 1 = [1,27] /\ h71.lv 2 = [2] /\ h71.lv 3 = [1,3,4] /\ h71.lv 4 = [1,4,5] /\ h71.lv 5 = [1,5,6] /\ h71.lv 6 = [1,42] /\ h71.lv 7 = [2] /\ h71.lv 8 = [1,7] /\ h71.lv 9 = [1,7,47] /\ h71.lv 10 = [1,7] /\ h71.lv 11 = [1,7,8] /\ h71.lv 12 = [1,7,72] /\ h71.lv 13 = [2] /\ h71.lv 14 = [1,9] /\ h71.lv 15 = [1,9,77] /\ h71.lv 16 = [1,9] /\ h71.lv 17 = [1,9,10] /\ h71.lv 18 = [1,9,113] /\ h71.lv 19 = [2] /\ h71.lv 20 = [1,11] /\ h71.lv 21 = [1,11,118] /\ h71.lv 22 = [1,11] /\ h71.lv 23 = [1,11,129] /\ h71.lv 24 = [2] /\ h71.lv 25 = [2]:=by decide +kernel
@[go_sem] theorem h71_g : h71.ct 0 = none /\ h71.ct 1 = none /\ h71.ct 2 = none /\ h71.ct 3 = none /\ h71.ct 4 = none /\ h71.ct 5 = none /\ h71.ct 6 = none /\ h71.ct 7 = none /\ h71.ct 8 = none /\ h71.ct 9 = none /\ h71.ct 10 = some 1 /\ h71.ct 11 = none /\ h71.ct 12 = none /\ h71.ct 13 = none /\ h71.ct 14 = none /\ h71.ct 15 = none /\ h71.ct 16 = some 1 /\ h71.ct 17 = none /\ h71.ct 18 = none /\ h71.ct 19 = none /\ h71.ct 20 = none /\ h71.ct 21 = none /\ h71.ct 22 = none /\ h71.ct 23 = none /\ h71.ct 24 = none /\ h71.ct 25 = none:=by decide +kernel
@[go_sem] theorem h71_z (k : Nat) : h71.at k = []:=rfl
@[go_sem] theorem h71_y (k : Nat) : h71.dn k = false:=Eq.trans rfl rfl
@[go_sem] theorem h71_t : h71.tk = [33,35] /\ h71.mt = [] /\ h71.pc = [30,34,36,88,94,128]:=⟨rfl,rfl,rfl⟩
theorem h71_k : FK Tryz.prog 71 Tryz.f71 h71:=⟨by kernel_rfl,by kernel_rfl,Tryz.func71,by kernel_rfl⟩
def h128 : Hint:=hm [2,4] [] [] []
@[go_sem] theorem h128_l : h128.lv 0 = [1] /\ h128.lv 1 = [2]:=by decide +kernel
@[go_sem] def h128_q:=hplain h128 rfl rfl rfl
@[go_sem] theorem h128_t : h128.tk = [] /\ h128.mt = [] /\ h128.pc = []:=⟨rfl,rfl,rfl⟩
theorem h128_k : FK Tryz.prog 128 Tryz.f128 h128:=⟨by kernel_rfl,by kernel_rfl,Tryz.func128,by kernel_rfl⟩
def h129 : Hint:=hm [12,16] [] [] []
@[go_sem] theorem h129_l : h129.lv 0 = [2,3] /\ h129.lv 1 = [4]:=by decide +kernel
@[go_sem] def h129_q:=hplain h129 rfl rfl rfl
@[go_sem] theorem h129_t : h129.tk = [] /\ h129.mt = [] /\ h129.pc = []:=⟨rfl,rfl,rfl⟩
theorem h129_k : FK Tryz.prog 129 Tryz.f129 h129:=⟨by kernel_rfl,by kernel_rfl,Tryz.func129,by kernel_rfl⟩
def h72 : Hint:=hm [1,2049,4,9,32777,9,25,8589934601,4,41,68719476777,41,562949953421353,4,73,72057594037927945,4,137,0x800000000000089,137,393,0x800000000000000089,4,4] [] [] [23,54,70]
@[go_sem] theorem h72_l : h72.lv 0 = [0] /\ h72.lv 1 = [0,11] /\ h72.lv 2 = [2] /\ h72.lv 3 = [0,3] /\ h72.lv 4 = [0,3,15] /\ h72.lv 5 = [0,3] /\ h72.lv 6 = [0,3,4] /\ h72.lv 7 = [0,3,33] /\ h72.lv 8 = [2] /\ h72.lv 9 = [0,3,5] /\ h72.lv 10 = [0,3,5,36] /\ h72.lv 11 = [0,3,5] /\ h72.lv 12 = [0,3,5,49] /\ h72.lv 13 = [2] /\ h72.lv 14 = [0,3,6] /\ h72.lv 15 = [0,3,56] /\ h72.lv 16 = [2] /\ h72.lv 17 = [0,3,7] /\ h72.lv 18 = [0,3,7,59] /\ h72.lv 19 = [0,3,7] /\ h72.lv 20 = [0,3,7,8] /\ h72.lv 21 = [0,3,7,71] /\ h72.lv 22 = [2] /\ h72.lv 23 = [2]:=by decide +kernel
@[go_sem] def h72_q:=hplain h72 rfl rfl rfl
@[go_sem] theorem h72_t : h72.tk = [] /\ h72.mt = [] /\ h72.pc = [23,54,70]:=⟨rfl,rfl,rfl⟩
theorem h72_k : FK Tryz.prog 72 Tryz.f72 h72:=⟨by kernel_rfl,by kernel_rfl,Tryz.func72,by kernel_rfl⟩
def h42 : Hint:=hm [2,10,42,10,131082,4,4] [] [] []
@[go_sem] theorem h42_l : h42.lv 0 = [1] /\ h42.lv 1 = [1,3] /\ h42.lv 2 = [1,3,5] /\ h42.lv 3 = [1,3] /\ h42.lv 4 = [1,3,17] /\ h42.lv 5 = [2] /\ h42.lv 6 = [2]:=by decide +kernel
@[go_sem] def h42_q:=hplain h42 rfl rfl rfl
@[go_sem] theorem h42_t : h42.tk = [] /\ h42.mt = [] /\ h42.pc = []:=⟨rfl,rfl,rfl⟩
theorem h42_k : FK Tryz.prog 42 Tryz.f42 h42:=⟨by kernel_rfl,by kernel_rfl,Tryz.func42,by kernel_rfl⟩
def h118 : Hint:=hm [449,961,473,8389057,449] [] [] []
@[go_sem] theorem h118_l : h118.lv 0 = [0,6,7,8] /\ h118.lv 1 = [0,6,7,8,9] /\ h118.lv 2 = [0,3,4,6,7,8] /\ h118.lv 3 = [0,6,7,8,23] /\ h118.lv 4 = [0,6,7,8]:=by decide +kernel
@[go_sem] def h118_q:=hplain h118 rfl rfl rfl
@[go_sem] theorem h118_t : h118.tk = [] /\ h118.mt = [] /\ h118.pc = []:=⟨rfl,rfl,rfl⟩
theorem h118_k : FK Tryz.prog 118 Tryz.f118 h118:=⟨by kernel_rfl,by kernel_rfl,Tryz.func118,by kernel_rfl⟩
def h67 : Hint:=hm [2,4] [] [] []
@[go_sem] theorem h67_l : h67.lv 0 = [1] /\ h67.lv 1 = [2]:=by decide +kernel
@[go_sem] def h67_q:=hplain h67 rfl rfl rfl
theorem h67_k : FK Tryz.prog 67 Tryz.f67 h67:=⟨by kernel_rfl,by kernel_rfl,Tryz.func67,by kernel_rfl⟩
def h38 : Hint:=hm [28,280,1080,120,8240,1,16] [] [] []
@[go_sem] theorem h38_l : h38.lv 0 = [2,3,4] /\ h38.lv 1 = [3,4,8] /\ h38.lv 2 = [3,4,5,10] /\ h38.lv 3 = [3,4,5,6] /\ h38.lv 4 = [4,5,13] /\ h38.lv 5 = [0] /\ h38.lv 6 = [4]:=by decide +kernel
@[go_sem] def h38_q:=hplain h38 rfl rfl rfl
@[go_sem] theorem h38_t : h38.tk = [] /\ h38.mt = [] /\ h38.pc = []:=⟨rfl,rfl,rfl⟩
theorem h38_k : FK Tryz.prog 38 Tryz.f38 h38:=⟨by kernel_rfl,by kernel_rfl,Tryz.func38,by kernel_rfl⟩
def h25 : Hint:=hm [28,88,8280,48,24,48] [] [] [11]
@[go_sem] theorem h25_l : h25.lv 0 = [2,3,4] /\ h25.lv 1 = [3,4,6] /\ h25.lv 2 = [3,4,6,13] /\ h25.lv 3 = [4,5] /\ h25.lv 4 = [3,4] /\ h25.lv 5 = [4,5]:=by decide +kernel
@[go_sem] def h25_q:=hplain h25 rfl rfl rfl
@[go_sem] theorem h25_t : h25.tk = [] /\ h25.mt = [] /\ h25.pc = [11]:=⟨rfl,rfl,rfl⟩
theorem h25_k : FK Tryz.prog 25 Tryz.f25 h25:=⟨by kernel_rfl,by kernel_rfl,Tryz.func25,by kernel_rfl⟩
def h132 : Hint:=hm [6,38,1062,38,16777254,16,16] [] [] []
@[go_sem] theorem h132_l : h132.lv 0 = [1,2] /\ h132.lv 1 = [1,2,5] /\ h132.lv 2 = [1,2,5,10] /\ h132.lv 3 = [1,2,5] /\ h132.lv 4 = [1,2,5,24] /\ h132.lv 5 = [4] /\ h132.lv 6 = [4]:=by decide +kernel
@[go_sem] def h132_q:=hplain h132 rfl rfl rfl
@[go_sem] theorem h132_t : h132.tk = [] /\ h132.mt = [] /\ h132.pc = []:=⟨rfl,rfl,rfl⟩
theorem h132_k : FK Tryz.prog 132 Tryz.f132 h132:=⟨by kernel_rfl,by kernel_rfl,Tryz.func132,by kernel_rfl⟩
def h115 : Hint:=hm [7,64] [] [] []
@[go_sem] theorem h115_l : h115.lv 0 = [0,1,2] /\ h115.lv 1 = [6]:=by decide +kernel
@[go_sem] def h115_q:=hplain h115 rfl rfl rfl
@[go_sem] theorem h115_t : h115.tk = [] /\ h115.mt = [] /\ h115.pc = []:=⟨rfl,rfl,rfl⟩
theorem h115_k : FK Tryz.prog 115 Tryz.f115 h115:=⟨by kernel_rfl,by kernel_rfl,Tryz.func115,by kernel_rfl⟩
def h55 : Hint:=hm [6,2054,16,16] [] [] [10]
@[go_sem] theorem h55_l : h55.lv 0 = [1,2] /\ h55.lv 1 = [1,2,11] /\ h55.lv 2 = [4] /\ h55.lv 3 = [4]:=by decide +kernel
@[go_sem] def h55_q:=hplain h55 rfl rfl rfl
@[go_sem] theorem h55_t : h55.tk = [] /\ h55.mt = [] /\ h55.pc = [10]:=⟨rfl,rfl,rfl⟩
theorem h55_k : FK Tryz.prog 55 Tryz.f55 h55:=⟨by kernel_rfl,by kernel_rfl,Tryz.func55,by kernel_rfl⟩
def h29 : Hint:=hm [28,88,4184,48,24,48] [] [] [10]
@[go_sem] theorem h29_l : h29.lv 0 = [2,3,4] /\ h29.lv 1 = [3,4,6] /\ h29.lv 2 = [3,4,6,12] /\ h29.lv 3 = [4,5] /\ h29.lv 4 = [3,4] /\ h29.lv 5 = [4,5]:=by decide +kernel
@[go_sem] def h29_q:=hplain h29 rfl rfl rfl
@[go_sem] theorem h29_t : h29.tk = [] /\ h29.mt = [] /\ h29.pc = [10]:=⟨rfl,rfl,rfl⟩
theorem h29_k : FK Tryz.prog 29 Tryz.f29 h29:=⟨by kernel_rfl,by kernel_rfl,Tryz.func29,by kernel_rfl⟩
end Go.AI
namespace Go.AI
open Go.Proofs
@[go_sem] theorem cellsOf156 : Tryz.prog.cellsOf 156 = 1:=by kernel_rfl
@[go_sem] theorem ldk156 : ldk Tryz.prog 156 = some none:=by kernel_rfl
@[go_sem] theorem zeroAV156 : zeroAV Tryz.prog 156 = some (.nilf):=by kernel_rfl
@[go_sem] theorem ldk174 : ldk Tryz.prog 174 = some none:=by kernel_rfl
@[go_sem] theorem cellsOf187 : Tryz.prog.cellsOf 187 = 2:=by kernel_rfl
@[go_sem] theorem ldk187 : ldk Tryz.prog 187 = some (some 2):=by kernel_rfl
@[go_sem] theorem bkind187 : bkind Tryz.prog 187 = .struct [(0,1),(1,1)]:=by kernel_rfl
@[go_sem] theorem fplace187_0 : fplace Tryz.prog 187 0 = some (3,0):=by kernel_rfl
@[go_sem] theorem fplace187_1 : fplace Tryz.prog 187 1 = some (3,1):=by kernel_rfl
@[go_sem] theorem zeroAV187 : zeroAV Tryz.prog 187 = some (.agg [.int .i64 0,.int .i64 0]):=by kernel_rfl
@[go_sem] theorem cellsOf190 : Tryz.prog.cellsOf 190 = 1:=by kernel_rfl
@[go_sem] theorem ldk190 : ldk Tryz.prog 190 = some none:=by kernel_rfl
@[go_sem] theorem zeroAV190 : zeroAV Tryz.prog 190 = some (.nilf):=by kernel_rfl
@[go_sem] theorem und355 : Tryz.prog.underlying 355 = some (.int .u64):=by kernel_rfl
@[go_sem] theorem und367 : Tryz.prog.underlying 367 = some (.array 49 9):=by kernel_rfl
end Go.AI
set_option linter.defProp false
namespace Go.AI
open Go.Proofs
def h309 : Hint:=hm [5,4] [] [] []
@[go_sem] theorem h309_l : h309.lv 0 = [0,2] /\ h309.lv 1 = [2]:=by decide +kernel
@[go_sem] def h309_q:=hplain h309 rfl rfl rfl
@[go_sem] theorem h309_t : h309.tk = [] /\ h309.mt = [] /\ h309.pc = []:=⟨rfl,rfl,rfl⟩
theorem h309_k : FK Tryz.prog 309 Tryz.f309 h309:=⟨by kernel_rfl,by kernel_rfl,Tryz.func309,by kernel_rfl⟩
def h312 : Hint:=hm [5,133,4,13,29,32797,29,29,4] [] [] []
@[go_sem] theorem h312_l : h312.lv 0 = [0,2] /\ h312.lv 1 = [0,2,7] /\ h312.lv 2 = [2] /\ h312.lv 3 = [0,2,3] /\ h312.lv 4 = [0,2,3,4] /\ h312.lv 5 = [0,2,3,4,15] /\ h312.lv 6 = [0,2,3,4] /\ h312.lv 7 = [0,2,3,4] /\ h312.lv 8 = [2]:=by decide +kernel
@[go_sem] def h312_q:=hplain h312 rfl rfl rfl
@[go_sem] theorem h312_t : h312.tk = [] /\ h312.mt = [] /\ h312.pc = []:=⟨rfl,rfl,rfl⟩
theorem h312_k : FK Tryz.prog 312 Tryz.f312 h312:=⟨by kernel_rfl,by kernel_rfl,Tryz.func312,by kernel_rfl⟩
def h268 : Hint:=hm [6,14,30,542,30,30,4] [12,22] [] [19,23]
@[go_sem] theorem h268_l : h268.lv 0 = [1,2] /\ h268.lv 1 = [1,2,3] /\ h268.lv 2 = [1,2,3,4] /\ h268.lv 3 = [1,2,3,4,9] /\ h268.lv 4 = [1,2,3,4] /\ h268.lv 5 = [1,2,3,4] /\ h268.lv 6 = [2]:=by decide +kernel
@[go_sem] def h268_q:=hplain h268 rfl rfl rfl
@[go_sem] theorem h268_t : h268.tk = [12,22] /\ h268.mt = [] /\ h268.pc = [19,23]:=⟨rfl,rfl,rfl⟩
theorem h268_k : FK Tryz.prog 268 Tryz.f268 h268:=⟨by kernel_rfl,by kernel_rfl,Tryz.func268,by kernel_rfl⟩
def h310 : Hint:=hm [19,16] [] [] []
@[go_sem] theorem h310_l : h310.lv 0 = [0,1,4] /\ h310.lv 1 = [4]:=by decide +kernel
@[go_sem] def h310_q:=hplain h310 rfl rfl rfl
@[go_sem] theorem h310_t : h310.tk = [] /\ h310.mt = [] /\ h310.pc = []:=⟨rfl,rfl,rfl⟩
theorem h310_k : FK Tryz.prog 310 Tryz.f310 h310:=⟨by kernel_rfl,by kernel_rfl,Tryz.func310,by kernel_rfl⟩
def h265 : Hint:=hm [28,16] [] [] []
@[go_sem] theorem h265_l : h265.lv 0 = [2,3,4] /\ h265.lv 1 = [4]:=by decide +kernel
@[go_sem] def h265_q:=hplain h265 rfl rfl rfl
@[go_sem] theorem h265_t : h265.tk = [] /\ h265.mt = [] /\ h265.pc = []:=⟨rfl,rfl,rfl⟩
theorem h265_k : FK Tryz.prog 265 Tryz.f265 h265:=⟨by kernel_rfl,by kernel_rfl,Tryz.func265,by kernel_rfl⟩
def h267 : Hint:=hm [6,4] [] [] []
@[go_sem] theorem h267_l : h267.lv 0 = [1,2] /\ h267.lv 1 = [2]:=by decide +kernel
@[go_sem] def h267_q:=hplain h267 rfl rfl rfl
@[go_sem] theorem h267_t : h267.tk = [] /\ h267.mt = [] /\ h267.pc = []:=⟨rfl,rfl,rfl⟩
theorem h267_k : FK Tryz.prog 267 Tryz.f267 h267:=⟨by kernel_rfl,by kernel_rfl,Tryz.func267,by kernel_rfl⟩
def h311 : Hint:=hm [28,16] [] [] []
@[go_sem] theorem h311_l : h311.lv 0 = [2,3,4] /\ h311.lv 1 = [4]:=by decide +kernel
@[go_sem] def h311_q:=hplain h311 rfl rfl rfl
@[go_sem] theorem h311_t : h311.tk = [] /\ h311.mt = [] /\ h311.pc = []:=⟨rfl,rfl,rfl⟩
theorem h311_k : FK Tryz.prog 311 Tryz.f311 h311:=⟨by kernel_rfl,by kernel_rfl,Tryz.func311,by kernel_rfl⟩
def h266 : Hint:=hx [6,14,30,4126,30,62,4294967358,30,30,4] [] [] [] [7,21,22,29,30,36] [(4,3)] []
@[go_sem] theorem h266_l : h266.lv 0 = [1,2] /\ h266.lv 1 = [1,2,3] /\ h266.lv 2 = [1,2,3,4] /\ h266.lv 3 = [1,2,3,4,12] /\ h266.lv 4 = [1,2,3,4] /\ h266.lv 5 = [1,2,3,4,5] /\ h266.lv 6 = [1,2,3,4,5,32] /\ h266.lv 7 = [1,2,3,4] /\ h266.lv 8 = [1,2,3,4] /\ h266.lv 9 = [2]:=by decide +kernel
@[go_sem] theorem h266_g : h266.ct 0 = none /\ h266.ct 1 = none /\ h266.ct 2 = none /\ h266.ct 3 = none /\ h266.ct 4 = some 3 /\ h266.ct 5 = none /\ h266.ct 6 = none /\ h266.ct 7 = none /\ h266.ct 8 = none /\ h266.ct 9 = none:=by decide +kernel
@[go_sem] theorem h266_z (k : Nat) : h266.at k = []:=rfl
@[go_sem] theorem h266_y (k : Nat) : h266.dn k = false:=Eq.trans rfl rfl
@[go_sem] theorem h266_t : h266.tk = [] /\ h266.mt = [] /\ h266.pc = [7,21,22,29,30,36]:=⟨rfl,rfl,rfl⟩
theorem h266_k : FK Tryz.prog 266 Tryz.f266 h266:=⟨by kernel_rfl,by kernel_rfl,Tryz.func266,by kernel_rfl⟩
def h264 : Hint:=hm [6,4] [] [] []
@[go_sem] theorem h264_l : h264.lv 0 = [1,2] /\ h264.lv 1 = [2]:=by decide +kernel
@[go_sem] def h264_q:=hplain h264 rfl rfl rfl
@[go_sem] theorem h264_t : h264.tk = [] /\ h264.mt = [] /\ h264.pc = []:=⟨rfl,rfl,rfl⟩
theorem h264_k : FK Tryz.prog 264 Tryz.f264 h264:=⟨by kernel_rfl,by kernel_rfl,Tryz.func264,by kernel_rfl⟩
def h202 : Hint:=hm [28,1052,16,60,120,16] [] [] [13,15,16,18,21,24,26]
@[go_sem] theorem h202_l : h202.lv 0 = [2,3,4] /\ h202.lv 1 = [2,3,4,10] /\ h202.lv 2 = [4] /\ h202.lv 3 = [2,3,4,5] /\ h202.lv 4 = [3,4,5,6] /\ h202.lv 5 = [4]:=by decide +kernel
@[go_sem] def h202_q:=hplain h202 rfl rfl rfl
@[go_sem] theorem h202_t : h202.tk = [] /\ h202.mt = [] /\ h202.pc = [13,15,16,18,21,24,26]:=⟨rfl,rfl,rfl⟩
theorem h202_k : FK Tryz.prog 202 Tryz.f202 h202:=⟨by kernel_rfl,by kernel_rfl,Tryz.func202,by kernel_rfl⟩
def h131 : Hint:=hx [2,18,50,2098,50,114,16777330,12,50,12] [25,36] [] [] [21,23] [(4,1)] []
@[go_sem] theorem h131_l : h131.lv 0 = [1] /\ h131.lv 1 = [1,4] /\ h131.lv 2 = [1,4,5] /\ h131.lv 3 = [1,4,5,11] /\ h131.lv 4 = [1,4,5] /\ h131.lv 5 = [1,4,5,6] /\ h131.lv 6 = [1,4,5,6,24] /\ h131.lv 7 = [2,3] /\ h131.lv 8 = [1,4,5] /\ h131.lv 9 = [2,3]:=by decide +kernel
@[go_sem] theorem h131_g : h131.ct 0 = none /\ h131.ct 1 = none /\ h131.ct 2 = none /\ h131.ct 3 = none /\ h131.ct 4 = some 1 /\ h131.ct 5 = none /\ h131.ct 6 = none /\ h131.ct 7 = none /\ h131.ct 8 = none /\ h131.ct 9 = none:=by decide +kernel
@[go_sem] theorem h131_z (k : Nat) : h131.at k = []:=rfl
@[go_sem] theorem h131_y (k : Nat) : h131.dn k = false:=Eq.trans rfl rfl
@[go_sem] theorem h131_t : h131.tk = [25,36] /\ h131.mt = [] /\ h131.pc = [21,23]:=⟨rfl,rfl,rfl⟩
theorem h131_k : FK Tryz.prog 131 Tryz.f131 h131:=⟨by kernel_rfl,by kernel_rfl,Tryz.func131,by kernel_rfl⟩
def h160 : Hint:=hm [5,4] [] [] []
@[go_sem] theorem h160_l : h160.lv 0 = [0,2] /\ h160.lv 1 = [2]:=by decide +kernel
@[go_sem] def h160_q:=hplain h160 rfl rfl rfl
@[go_sem] theorem h160_t : h160.tk = [] /\ h160.mt = [] /\ h160.pc = []:=⟨rfl,rfl,rfl⟩
theorem h160_k : FK Tryz.prog 160 Tryz.f160 h160:=⟨by kernel_rfl,by kernel_rfl,Tryz.func160,by kernel_rfl⟩
def h237 : Hint:=hx [85,4181,64,197,1835204,3932356,1835716,1835204,1835204,64] [17] [] [] [] [(8,3)] []
@[go_sem] theorem h237_l : h237.lv 0 = [0,2,4,6] /\ h237.lv 1 = [0,2,4,6,12] /\ h237.lv 2 = [6] /\ h237.lv 3 = [0,2,6,7] /\ h237.lv 4 = [2,6,7,18,19,20] /\ h237.lv 5 = [2,6,7,18,19,20,21] /\ h237.lv 6 = [2,6,7,9,18,19,20] /\ h237.lv 7 = [2,6,7,18,19,20] /\ h237.lv 8 = [2,6,7,18,19,20] /\ h237.lv 9 = [6]:=by decide +kernel
@[go_sem] theorem h237_g : h237.ct 0 = none /\ h237.ct 1 = none /\ h237.ct 2 = none /\ h237.ct 3 = none /\ h237.ct 4 = none /\ h237.ct 5 = none /\ h237.ct 6 = none /\ h237.ct 7 = none /\ h237.ct 8 = some 3 /\ h237.ct 9 = none:=by decide +kernel
@[go_sem] theorem h237_z (k : Nat) : h237.at k = []:=rfl
@[go_sem] theorem h237_y (k : Nat) : h237.dn k = false:=Eq.trans rfl rfl
@[go_sem] theorem h237_t : h237.tk = [17] /\ h237.mt = [] /\ h237.pc = []:=⟨rfl,rfl,rfl⟩
theorem h237_k : FK Tryz.prog 237 Tryz.f237 h237:=⟨by kernel_rfl,by kernel_rfl,Tryz.func237,by kernel_rfl⟩
def h238 : Hint:=hm [28,16] [] [] []
@[go_sem] theorem h238_l : h238.lv 0 = [2,3,4] /\ h238.lv 1 = [4]:=by decide +kernel
@[go_sem] def h238_q:=hplain h238 rfl rfl rfl
@[go_sem] theorem h238_t : h238.tk = [] /\ h238.mt = [] /\ h238.pc = []:=⟨rfl,rfl,rfl⟩
theorem h238_k : FK Tryz.prog 238 Tryz.f238 h238:=⟨by kernel_rfl,by kernel_rfl,Tryz.func238,by kernel_rfl⟩
def h163 : Hint:=hm [5,13,460,972,492,460,460,4] [6,12,18] [] [14,20]
@[go_sem] theorem h163_l : h163.lv 0 = [0,2] /\ h163.lv 1 = [0,2,3] /\ h163.lv 2 = [2,3,6,7,8] /\ h163.lv 3 = [2,3,6,7,8,9] /\ h163.lv 4 = [2,3,5,6,7,8] /\ h163.lv 5 = [2,3,6,7,8] /\ h163.lv 6 = [2,3,6,7,8] /\ h163.lv 7 = [2]:=by decide +kernel
@[go_sem] def h163_q:=hplain h163 rfl rfl rfl
@[go_sem] theorem h163_t : h163.tk = [6,12,18] /\ h163.mt = [] /\ h163.pc = [14,20]:=⟨rfl,rfl,rfl⟩
theorem h163_k : FK Tryz.prog 163 Tryz.f163 h163:=⟨by kernel_rfl,by kernel_rfl,Tryz.func163,by kernel_rfl⟩
def h100 : Hint:=hx [6,14,908,1932,940,908,908,4] [13,19] [] [] [20] [(6,2)] []
@[go_sem] theorem h100_l : h100.lv 0 = [1,2] /\ h100.lv 1 = [1,2,3] /\ h100.lv 2 = [2,3,7,8,9] /\ h100.lv 3 = [2,3,7,8,9,10] /\ h100.lv 4 = [2,3,5,7,8,9] /\ h100.lv 5 = [2,3,7,8,9] /\ h100.lv 6 = [2,3,7,8,9] /\ h100.lv 7 = [2]:=by decide +kernel
@[go_sem] theorem h100_g : h100.ct 0 = none /\ h100.ct 1 = none /\ h100.ct 2 = none /\ h100.ct 3 = none /\ h100.ct 4 = none /\ h100.ct 5 = none /\ h100.ct 6 = some 2 /\ h100.ct 7 = none:=by decide +kernel
@[go_sem] theorem h100_z (k : Nat) : h100.at k = []:=rfl
@[go_sem] theorem h100_y (k : Nat) : h100.dn k = false:=Eq.trans rfl rfl
@[go_sem] theorem h100_t : h100.tk = [13,19] /\ h100.mt = [] /\ h100.pc = [20]:=⟨rfl,rfl,rfl⟩
theorem h100_k : FK Tryz.prog 100 Tryz.f100 h100:=⟨by kernel_rfl,by kernel_rfl,Tryz.func100,by kernel_rfl⟩
def h97 : Hint:=hm [28,16] [] [] []
@[go_sem] theorem h97_l : h97.lv 0 = [2,3,4] /\ h97.lv 1 = [4]:=by decide +kernel
@[go_sem] def h97_q:=hplain h97 rfl rfl rfl
@[go_sem] theorem h97_t : h97.tk = [] /\ h97.mt = [] /\ h97.pc = []:=⟨rfl,rfl,rfl⟩
theorem h97_k : FK Tryz.prog 97 Tryz.f97 h97:=⟨by kernel_rfl,by kernel_rfl,Tryz.func97,by kernel_rfl⟩
def h99 : Hint:=hm [6,4] [] [] []
@[go_sem] theorem h99_l : h99.lv 0 = [1,2] /\ h99.lv 1 = [2]:=by decide +kernel
@[go_sem] def h99_q:=hplain h99 rfl rfl rfl
@[go_sem] theorem h99_t : h99.tk = [] /\ h99.mt = [] /\ h99.pc = []:=⟨rfl,rfl,rfl⟩
theorem h99_k : FK Tryz.prog 99 Tryz.f99 h99:=⟨by kernel_rfl,by kernel_rfl,Tryz.func99,by kernel_rfl⟩
def h161 : Hint:=hx [85,4181,64,197,1835204,3932356,1835716,1835204,1835204,64] [17] [] [] [] [(8,3)] []
@[go_sem] theorem h161_l : h161.lv 0 = [0,2,4,6] /\ h161.lv 1 = [0,2,4,6,12] /\ h161.lv 2 = [6] /\ h161.lv 3 = [0,2,6,7] /\ h161.lv 4 = [2,6,7,18,19,20] /\ h161.lv 5 = [2,6,7,18,19,20,21] /\ h161.lv 6 = [2,6,7,9,18,19,20] /\ h161.lv 7 = [2,6,7,18,19,20] /\ h161.lv 8 = [2,6,7,18,19,20] /\ h161.lv 9 = [6]:=by decide +kernel
@[go_sem] theorem h161_g : h161.ct 0 = none /\ h161.ct 1 = none /\ h161.ct 2 = none /\ h161.ct 3 = none /\ h161.ct 4 = none /\ h161.ct 5 = none /\ h161.ct 6 = none /\ h161.ct 7 = none /\ h161.ct 8 = some 3 /\ h161.ct 9 = none:=by decide +kernel
@[go_sem] theorem h161_z (k : Nat) : h161.at k = []:=rfl
@[go_sem] theorem h161_y (k : Nat) : h161.dn k = false:=Eq.trans rfl rfl
@[go_sem] theorem h161_t : h161.tk = [17] /\ h161.mt = [] /\ h161.pc = []:=⟨rfl,rfl,rfl⟩
theorem h161_k : FK Tryz.prog 161 Tryz.f161 h161:=⟨by kernel_rfl,by kernel_rfl,Tryz.func161,by kernel_rfl⟩
def h162 : Hint:=hm [28,16] [] [] []
@[go_sem] theorem h162_l : h162.lv 0 = [2,3,4] /\ h162.lv 1 = [4]:=by decide +kernel
@[go_sem] def h162_q:=hplain h162 rfl rfl rfl
@[go_sem] theorem h162_t : h162.tk = [] /\ h162.mt = [] /\ h162.pc = []:=⟨rfl,rfl,rfl⟩
theorem h162_k : FK Tryz.prog 162 Tryz.f162 h162:=⟨by kernel_rfl,by kernel_rfl,Tryz.func162,by kernel_rfl⟩
def h98 : Hint:=hx [6,14,908,1932,940,908,908,4] [13,25] [] [] [16,17,21,27,28] [(6,2)] []
@[go_sem] theorem h98_l : h98.lv 0 = [1,2] /\ h98.lv 1 = [1,2,3] /\ h98.lv 2 = [2,3,7,8,9] /\ h98.lv 3 = [2,3,7,8,9,10] /\ h98.lv 4 = [2,3,5,7,8,9] /\ h98.lv 5 = [2,3,7,8,9] /\ h98.lv 6 = [2,3,7,8,9] /\ h98.lv 7 = [2]:=by decide +kernel
@[go_sem] theorem h98_g : h98.ct 0 = none /\ h98.ct 1 = none /\ h98.ct 2 = none /\ h98.ct 3 = none /\ h98.ct 4 = none /\ h98.ct 5 = none /\ h98.ct 6 = some 2 /\ h98.ct 7 = none:=by decide +kernel
@[go_sem] theorem h98_z (k : Nat) : h98.at k = []:=rfl
@[go_sem] theorem h98_y (k : Nat) : h98.dn k = false:=Eq.trans rfl rfl
@[go_sem] theorem h98_t : h98.tk = [13,25] /\ h98.mt = [] /\ h98.pc = [16,17,21,27,28]:=⟨rfl,rfl,rfl⟩
theorem h98_k : FK Tryz.prog 98 Tryz.f98 h98:=⟨by kernel_rfl,by kernel_rfl,Tryz.func98,by kernel_rfl⟩
def h51 : Hint:=hm [28,540,16,60,16] [] [] [12,14,19,21,24,25]
@[go_sem] theorem h51_l : h51.lv 0 = [2,3,4] /\ h51.lv 1 = [2,3,4,9] /\ h51.lv 2 = [4] /\ h51.lv 3 = [2,3,4,5] /\ h51.lv 4 = [4]:=by decide +kernel
@[go_sem] def h51_q:=hplain h51 rfl rfl rfl
@[go_sem] theorem h51_t : h51.tk = [] /\ h51.mt = [] /\ h51.pc = [12,14,19,21,24,25]:=⟨rfl,rfl,rfl⟩
theorem h51_k : FK Tryz.prog 51 Tryz.f51 h51:=⟨by kernel_rfl,by kernel_rfl,Tryz.func51,by kernel_rfl⟩
def h167 : Hint:=hm [2,1024,4,4] [] [] []
@[go_sem] theorem h167_l : h167.lv 0 = [1] /\ h167.lv 1 = [10] /\ h167.lv 2 = [2] /\ h167.lv 3 = [2]:=by decide +kernel
@[go_sem] def h167_q:=hplain h167 rfl rfl rfl
@[go_sem] theorem h167_t : h167.tk = [] /\ h167.mt = [] /\ h167.pc = []:=⟨rfl,rfl,rfl⟩
theorem h167_k : FK Tryz.prog 167 Tryz.f167 h167:=⟨by kernel_rfl,by kernel_rfl,Tryz.func167,by kernel_rfl⟩
def h102 : Hint:=hm [6,34,546,16,8192,16,16] [] [] [7]
@[go_sem] theorem h102_l : h102.lv 0 = [1,2] /\ h102.lv 1 = [1,5] /\ h102.lv 2 = [1,5,9] /\ h102.lv 3 = [4] /\ h102.lv 4 = [13] /\ h102.lv 5 = [4] /\ h102.lv 6 = [4]:=by decide +kernel
@[go_sem] def h102_q:=hplain h102 rfl rfl rfl
@[go_sem] theorem h102_t : h102.tk = [] /\ h102.mt = [] /\ h102.pc = [7]:=⟨rfl,rfl,rfl⟩
theorem h102_k : FK Tryz.prog 102 Tryz.f102 h102:=⟨by kernel_rfl,by kernel_rfl,Tryz.func102,by kernel_rfl⟩
def h165 : Hint:=hm [28,16] [] [] []
@[go_sem] theorem h165_l : h165.lv 0 = [2,3,4] /\ h165.lv 1 = [4]:=by decide +kernel
@[go_sem] def h165_q:=hplain h165 rfl rfl rfl
@[go_sem] theorem h165_t : h165.tk = [] /\ h165.mt = [] /\ h165.pc = []:=⟨rfl,rfl,rfl⟩
theorem h165_k : FK Tryz.prog 165 Tryz.f165 h165:=⟨by kernel_rfl,by kernel_rfl,Tryz.func165,by kernel_rfl⟩
def h239 : Hint:=hx [19,51,3634,7730,3762,3634,3634,16] [9] [] [] [18,19] [(6,2)] []
@[go_sem] theorem h239_l : h239.lv 0 = [0,1,4] /\ h239.lv 1 = [0,1,4,5] /\ h239.lv 2 = [1,4,5,9,10,11] /\ h239.lv 3 = [1,4,5,9,10,11,12] /\ h239.lv 4 = [1,4,5,7,9,10,11] /\ h239.lv 5 = [1,4,5,9,10,11] /\ h239.lv 6 = [1,4,5,9,10,11] /\ h239.lv 7 = [4]:=by decide +kernel
@[go_sem] theorem h239_g : h239.ct 0 = none /\ h239.ct 1 = none /\ h239.ct 2 = none /\ h239.ct 3 = none /\ h239.ct 4 = none /\ h239.ct 5 = none /\ h239.ct 6 = some 2 /\ h239.ct 7 = none:=by decide +kernel
@[go_sem] theorem h239_z (k : Nat) : h239.at k = []:=rfl
@[go_sem] theorem h239_y (k : Nat) : h239.dn k = false:=Eq.trans rfl rfl
@[go_sem] theorem h239_t : h239.tk = [9] /\ h239.mt = [] /\ h239.pc = [18,19]:=⟨rfl,rfl,rfl⟩
theorem h239_k : FK Tryz.prog 239 Tryz.f239 h239:=⟨by kernel_rfl,by kernel_rfl,Tryz.func239,by kernel_rfl⟩
def h166 : Hint:=hm [6,4] [] [] [5]
@[go_sem] theorem h166_l : h166.lv 0 = [1,2] /\ h166.lv 1 = [2]:=by decide +kernel
@[go_sem] def h166_q:=hplain h166 rfl rfl rfl
@[go_sem] theorem h166_t : h166.tk = [] /\ h166.mt = [] /\ h166.pc = [5]:=⟨rfl,rfl,rfl⟩
theorem h166_k : FK Tryz.prog 166 Tryz.f166 h166:=⟨by kernel_rfl,by kernel_rfl,Tryz.func166,by kernel_rfl⟩
def h164 : Hint:=hx [19,51,3634,7730,3762,3634,3634,16] [9] [] [] [18,19] [(6,2)] []
@[go_sem] theorem h164_l : h164.lv 0 = [0,1,4] /\ h164.lv 1 = [0,1,4,5] /\ h164.lv 2 = [1,4,5,9,10,11] /\ h164.lv 3 = [1,4,5,9,10,11,12] /\ h164.lv 4 = [1,4,5,7,9,10,11] /\ h164.lv 5 = [1,4,5,9,10,11] /\ h164.lv 6 = [1,4,5,9,10,11] /\ h164.lv 7 = [4]:=by decide +kernel
@[go_sem] theorem h164_g : h164.ct 0 = none /\ h164.ct 1 = none /\ h164.ct 2 = none /\ h164.ct 3 = none /\ h164.ct 4 = none /\ h164.ct 5 = none /\ h164.ct 6 = some 2 /\ h164.ct 7 = none:=by decide +kernel
@[go_sem] theorem h164_z (k : Nat) : h164.at k = []:=rfl
@[go_sem] theorem h164_y (k : Nat) : h164.dn k = false:=Eq.trans rfl rfl
@[go_sem] theorem h164_t : h164.tk = [9] /\ h164.mt = [] /\ h164.pc = [18,19]:=⟨rfl,rfl,rfl⟩
theorem h164_k : FK Tryz.prog 164 Tryz.f164 h164:=⟨by kernel_rfl,by kernel_rfl,Tryz.func164,by kernel_rfl⟩
def h101 : Hint:=hm [6,14,526,12,4] [] [] [6,13,14]
@[go_sem] theorem h101_l : h101.lv 0 = [1,2] /\ h101.lv 1 = [1,2,3] /\ h101.lv 2 = [1,2,3,9] /\ h101.lv 3 = [2,3] /\ h101.lv 4 = [2]:=by decide +kernel
@[go_sem] def h101_q:=hplain h101 rfl rfl rfl
@[go_sem] theorem h101_t : h101.tk = [] /\ h101.mt = [] /\ h101.pc = [6,13,14]:=⟨rfl,rfl,rfl⟩
theorem h101_k : FK Tryz.prog 101 Tryz.f101 h101:=⟨by kernel_rfl,by kernel_rfl,Tryz.func101,by kernel_rfl⟩
def h342 : Hint:=hm [7,64] [] [] []
@[go_sem] theorem h342_l : h342.lv 0 = [0,1,2] /\ h342.lv 1 = [6]:=by decide +kernel
@[go_sem] def h342_q:=hplain h342 rfl rfl rfl
@[go_sem] theorem h342_t : h342.tk = [] /\ h342.mt = [] /\ h342.pc = []:=⟨rfl,rfl,rfl⟩
theorem h342_k : FK Tryz.prog 342 Tryz.f342 h342:=⟨by kernel_rfl,by kernel_rfl,Tryz.func342,by kernel_rfl⟩
def h328 : Hint:=hm [1,4] [] [] [4]
@[go_sem] theorem h328_l : h328.lv 0 = [0] /\ h328.lv 1 = [2]:=by decide +kernel
@[go_sem] def h328_q:=hplain h328 rfl rfl rfl
@[go_sem] theorem h328_t : h328.tk = [] /\ h328.mt = [] /\ h328.pc = [4]:=⟨rfl,rfl,rfl⟩
theorem h328_k : FK Tryz.prog 328 Tryz.f328 h328:=⟨by kernel_rfl,by kernel_rfl,Tryz.func328,by kernel_rfl⟩
def h116 : Hint:=hm [1,4] [] [] []
@[go_sem] theorem h116_l : h116.lv 0 = [0] /\ h116.lv 1 = [2]:=by decide +kernel
@[go_sem] def h116_q:=hplain h116 rfl rfl rfl
@[go_sem] theorem h116_t : h116.tk = [] /\ h116.mt = [] /\ h116.pc = []:=⟨rfl,rfl,rfl⟩
theorem h116_k : FK Tryz.prog 116 Tryz.f116 h116:=⟨by kernel_rfl,by kernel_rfl,Tryz.func116,by kernel_rfl⟩
def h343 : Hint:=hm [3,16] [] [] [6,9]
@[go_sem] theorem h343_l : h343.lv 0 = [0,1] /\ h343.lv 1 = [4]:=by decide +kernel
@[go_sem] def h343_q:=hplain h343 rfl rfl rfl
@[go_sem] theorem h343_t : h343.tk = [] /\ h343.mt = [] /\ h343.pc = [6,9]:=⟨rfl,rfl,rfl⟩
theorem h343_k : FK Tryz.prog 343 Tryz.f343 h343:=⟨by kernel_rfl,by kernel_rfl,Tryz.func343,by kernel_rfl⟩
def h344 : Hint:=hm [1,4] [] [] []
@[go_sem] theorem h344_l : h344.lv 0 = [0] /\ h344.lv 1 = [2]:=by decide +kernel
@[go_sem] def h344_q:=hplain h344 rfl rfl rfl
@[go_sem] theorem h344_t : h344.tk = [] /\ h344.mt = [] /\ h344.pc = []:=⟨rfl,rfl,rfl⟩
theorem h344_k : FK Tryz.prog 344 Tryz.f344 h344:=⟨by kernel_rfl,by kernel_rfl,Tryz.func344,by kernel_rfl⟩
def h329 : Hint:=hm [3,67,451,33219,963,134218691,451,451,48] [43] [] [27,47,50]
@[go_sem] theorem h329_l : h329.lv 0 = [0,1] /\ h329.lv 1 = [0,1,6] /\ h329.lv 2 = [0,1,6,7,8] /\ h329.lv 3 = [0,1,6,7,8,15] /\ h329.lv 4 = [0,1,6,7,8,9] /\ h329.lv 5 = [0,1,6,7,8,9,27] /\ h329.lv 6 = [0,1,6,7,8] /\ h329.lv 7 = [0,1,6,7,8] /\ h329.lv 8 = [4,5]:=by decide +kernel
@[go_sem] def h329_q:=hplain h329 rfl rfl rfl
@[go_sem] theorem h329_t : h329.tk = [43] /\ h329.mt = [] /\ h329.pc = [27,47,50]:=⟨rfl,rfl,rfl⟩
theorem h329_k : FK Tryz.prog 329 Tryz.f329 h329:=⟨by kernel_rfl,by kernel_rfl,Tryz.func329,by kernel_rfl⟩
def h330 : Hint:=hm [3,35,65571,35,16] [] [] []
@[go_sem] theorem h330_l : h330.lv 0 = [0,1] /\ h330.lv 1 = [0,1,5] /\ h330.lv 2 = [0,1,5,16] /\ h330.lv 3 = [0,1,5] /\ h330.lv 4 = [4]:=by decide +kernel
@[go_sem] def h330_q:=hplain h330 rfl rfl rfl
@[go_sem] theorem h330_t : h330.tk = [] /\ h330.mt = [] /\ h330.pc = []:=⟨rfl,rfl,rfl⟩
theorem h330_k : FK Tryz.prog 330 Tryz.f330 h330:=⟨by kernel_rfl,by kernel_rfl,Tryz.func330,by kernel_rfl⟩
def h345 : Hint:=hm [1,4] [] [] [4]
@[go_sem] theorem h345_l : h345.lv 0 = [0] /\ h345.lv 1 = [2]:=by decide +kernel
@[go_sem] def h345_q:=hplain h345 rfl rfl rfl
@[go_sem] theorem h345_t : h345.tk = [] /\ h345.mt = [] /\ h345.pc = [4]:=⟨rfl,rfl,rfl⟩
theorem h345_k : FK Tryz.prog 345 Tryz.f345 h345:=⟨by kernel_rfl,by kernel_rfl,Tryz.func345,by kernel_rfl⟩
def h332 : Hint:=hm [1,4] [] [] [4,7]
@[go_sem] theorem h332_l : h332.lv 0 = [0] /\ h332.lv 1 = [2]:=by decide +kernel
@[go_sem] def h332_q:=hplain h332 rfl rfl rfl
@[go_sem] theorem h332_t : h332.tk = [] /\ h332.mt = [] /\ h332.pc = [4,7]:=⟨rfl,rfl,rfl⟩
theorem h332_k : FK Tryz.prog 332 Tryz.f332 h332:=⟨by kernel_rfl,by kernel_rfl,Tryz.func332,by kernel_rfl⟩
def h331 : Hint:=hm [1,4] [] [] [5]
@[go_sem] theorem h331_l : h331.lv 0 = [0] /\ h331.lv 1 = [2]:=by decide +kernel
@[go_sem] def h331_q:=hplain h331 rfl rfl rfl
@[go_sem] theorem h331_t : h331.tk = [] /\ h331.mt = [] /\ h331.pc = [5]:=⟨rfl,rfl,rfl⟩
theorem h331_k : FK Tryz.prog 331 Tryz.f331 h331:=⟨by kernel_rfl,by kernel_rfl,Tryz.func331,by kernel_rfl⟩
def h296 : Hint:=hm [1,131073,4,17,4] [] [] [15,21,28]
@[go_sem] theorem h296_l : h296.lv 0 = [0] /\ h296.lv 1 = [0,17] /\ h296.lv 2 = [2] /\ h296.lv 3 = [0,4] /\ h296.lv 4 = [2]:=by decide +kernel
@[go_sem] def h296_q:=hplain h296 rfl rfl rfl
@[go_sem] theorem h296_t : h296.tk = [] /\ h296.mt = [] /\ h296.pc = [15,21,28]:=⟨rfl,rfl,rfl⟩
theorem h296_k : FK Tryz.prog 296 Tryz.f296 h296:=⟨by kernel_rfl,by kernel_rfl,Tryz.func296,by kernel_rfl⟩
def h243 : Hint:=hm [1,4] [] [] [4]
@[go_sem] theorem h243_l : h243.lv 0 = [0] /\ h243.lv 1 = [2]:=by decide +kernel
@[go_sem] def h243_q:=hplain h243 rfl rfl rfl
@[go_sem] theorem h243_t : h243.tk = [] /\ h243.mt = [] /\ h243.pc = [4]:=⟨rfl,rfl,rfl⟩
theorem h243_k : FK Tryz.prog 243 Tryz.f243 h243:=⟨by kernel_rfl,by kernel_rfl,Tryz.func243,by kernel_rfl⟩
def h170 : Hint:=hm [1,4] [] [] [7]
@[go_sem] theorem h170_l : h170.lv 0 = [0] /\ h170.lv 1 = [2]:=by decide +kernel
@[go_sem] def h170_q:=hplain h170 rfl rfl rfl
@[go_sem] theorem h170_t : h170.tk = [] /\ h170.mt = [] /\ h170.pc = [7]:=⟨rfl,rfl,rfl⟩
theorem h170_k : FK Tryz.prog 170 Tryz.f170 h170:=⟨by kernel_rfl,by kernel_rfl,Tryz.func170,by kernel_rfl⟩
def h171 : Hint:=hm [1,4] [] [] []
@[go_sem] theorem h171_l : h171.lv 0 = [0] /\ h171.lv 1 = [2]:=by decide +kernel
@[go_sem] def h171_q:=hplain h171 rfl rfl rfl
@[go_sem] theorem h171_t : h171.tk = [] /\ h171.mt = [] /\ h171.pc = []:=⟨rfl,rfl,rfl⟩
theorem h171_k : FK Tryz.prog 171 Tryz.f171 h171:=⟨by kernel_rfl,by kernel_rfl,Tryz.func171,by kernel_rfl⟩
def h241 : Hint:=hm [1,4] [] [] []
@[go_sem] theorem h241_l : h241.lv 0 = [0] /\ h241.lv 1 = [2]:=by decide +kernel
@[go_sem] def h241_q:=hplain h241 rfl rfl rfl
@[go_sem] theorem h241_t : h241.tk = [] /\ h241.mt = [] /\ h241.pc = []:=⟨rfl,rfl,rfl⟩
theorem h241_k : FK Tryz.prog 241 Tryz.f241 h241:=⟨by kernel_rfl,by kernel_rfl,Tryz.func241,by kernel_rfl⟩
def h327 : Hint:=hm [3,387,899,419,65955,16,387,16] [] [] []
@[go_sem] theorem h327_l : h327.lv 0 = [0,1] /\ h327.lv 1 = [0,1,7,8] /\ h327.lv 2 = [0,1,7,8,9] /\ h327.lv 3 = [0,1,5,7,8] /\ h327.lv 4 = [0,1,5,7,8,16] /\ h327.lv 5 = [4] /\ h327.lv 6 = [0,1,7,8] /\ h327.lv 7 = [4]:=by decide +kernel
@[go_sem] def h327_q:=hplain h327 rfl rfl rfl
@[go_sem] theorem h327_t : h327.tk = [] /\ h327.mt = [] /\ h327.pc = []:=⟨rfl,rfl,rfl⟩
theorem h327_k : FK Tryz.prog 327 Tryz.f327 h327:=⟨by kernel_rfl,by kernel_rfl,Tryz.func327,by kernel_rfl⟩
def h294 : Hint:=hm [3,16] [5] [] []
@[go_sem] theorem h294_l : h294.lv 0 = [0,1] /\ h294.lv 1 = [4]:=by decide +kernel
@[go_sem] def h294_q:=hplain h294 rfl rfl rfl
@[go_sem] theorem h294_t : h294.tk = [5] /\ h294.mt = [] /\ h294.pc = []:=⟨rfl,rfl,rfl⟩
theorem h294_k : FK Tryz.prog 294 Tryz.f294 h294:=⟨by kernel_rfl,by kernel_rfl,Tryz.func294,by kernel_rfl⟩
def h295 : Hint:=hm [6,8] [] [] []
@[go_sem] theorem h295_l : h295.lv 0 = [1,2] /\ h295.lv 1 = [3]:=by decide +kernel
@[go_sem] def h295_q:=hplain h295 rfl rfl rfl
@[go_sem] theorem h295_t : h295.tk = [] /\ h295.mt = [] /\ h295.pc = []:=⟨rfl,rfl,rfl⟩
theorem h295_k : FK Tryz.prog 295 Tryz.f295 h295:=⟨by kernel_rfl,by kernel_rfl,Tryz.func295,by kernel_rfl⟩
def h242 : Hint:=hm [35,64] [12] [] []
@[go_sem] theorem h242_l : h242.lv 0 = [0,1,5] /\ h242.lv 1 = [6]:=by decide +kernel
@[go_sem] def h242_q:=hplain h242 rfl rfl rfl
@[go_sem] theorem h242_t : h242.tk = [12] /\ h242.mt = [] /\ h242.pc = []:=⟨rfl,rfl,rfl⟩
theorem h242_k : FK Tryz.prog 242 Tryz.f242 h242:=⟨by kernel_rfl,by kernel_rfl,Tryz.func242,by kernel_rfl⟩
def h169 : Hint:=hm [2,10,262154,786442,786442,4,537133066,4,0x400000004000a,4,0x1000000000000004000a,4,0x10000000000000000000004000a,4,0x100000000000000000000000000004000a,4,0x10000000000000000000000000000004000a,0x10000000000000000000000000000000000a,4,4] [] [] [33,37,54,58,80,84,89,112,117,138,147]
@[go_sem] theorem h169_l : h169.lv 0 = [1] /\ h169.lv 1 = [1,3] /\ h169.lv 2 = [1,3,18] /\ h169.lv 3 = [1,3,18,19] /\ h169.lv 4 = [1,3,18,19] /\ h169.lv 5 = [2] /\ h169.lv 6 = [1,3,18,29] /\ h169.lv 7 = [2] /\ h169.lv 8 = [1,3,18,50] /\ h169.lv 9 = [2] /\ h169.lv 10 = [1,3,18,76] /\ h169.lv 11 = [2] /\ h169.lv 12 = [1,3,18,104] /\ h169.lv 13 = [2] /\ h169.lv 14 = [1,3,18,132] /\ h169.lv 15 = [2] /\ h169.lv 16 = [1,3,18,140] /\ h169.lv 17 = [1,3,140] /\ h169.lv 18 = [2] /\ h169.lv 19 = [2]:=by decide +kernel
@[go_sem] def h169_q:=hplain h169 rfl rfl rfl
@[go_sem] theorem h169_t : h169.tk = [] /\ h169.mt = [] /\ h169.pc = [33,37,54,58,80,84,89,112,117,138,147]:=⟨rfl,rfl,rfl⟩
theorem h169_k : FK Tryz.prog 169 Tryz.f169 h169:=⟨by kernel_rfl,by kernel_rfl,Tryz.func169,by kernel_rfl⟩
def h240 : Hint:=hx [7,16391,64,229382,491526,229766,230150,1073971206,64,229382,64] [15] [] [] [] [(9,0)] []
@[go_sem] theorem h240_l : h240.lv 0 = [0,1,2] /\ h240.lv 1 = [0,1,2,14] /\ h240.lv 2 = [6] /\ h240.lv 3 = [1,2,15,16,17] /\ h240.lv 4 = [1,2,15,16,17,18] /\ h240.lv 5 = [1,2,7,8,15,16,17] /\ h240.lv 6 = [1,2,8,9,15,16,17] /\ h240.lv 7 = [1,2,15,16,17,30] /\ h240.lv 8 = [6] /\ h240.lv 9 = [1,2,15,16,17] /\ h240.lv 10 = [6]:=by decide +kernel
@[go_sem] theorem h240_g : h240.ct 0 = none /\ h240.ct 1 = none /\ h240.ct 2 = none /\ h240.ct 3 = none /\ h240.ct 4 = none /\ h240.ct 5 = none /\ h240.ct 6 = none /\ h240.ct 7 = none /\ h240.ct 8 = none /\ h240.ct 9 = some 0 /\ h240.ct 10 = none:=by decide +kernel
@[go_sem] theorem h240_z (k : Nat) : h240.at k = []:=rfl
@[go_sem] theorem h240_y (k : Nat) : h240.dn k = false:=Eq.trans rfl rfl
@[go_sem] theorem h240_t : h240.tk = [15] /\ h240.mt = [] /\ h240.pc = []:=⟨rfl,rfl,rfl⟩
theorem h240_k : FK Tryz.prog 240 Tryz.f240 h240:=⟨by kernel_rfl,by kernel_rfl,Tryz.func240,by kernel_rfl⟩
def h168 : Hint:=hm [12,16] [] [] [36]
@[go_sem] theorem h168_l : h168.lv 0 = [2,3] /\ h168.lv 1 = [4]:=by decide +kernel
@[go_sem] def h168_q:=hplain h168 rfl rfl rfl
@[go_sem] theorem h168_t : h168.tk = [] /\ h168.mt = [] /\ h168.pc = [36]:=⟨rfl,rfl,rfl⟩
theorem h168_k : FK Tryz.prog 168 Tryz.f168 h168:=⟨by kernel_rfl,by kernel_rfl,Tryz.func168,by kernel_rfl⟩
def h297 : Hint:=hm [3,387,899,419,65955,16,387,16] [] [] []
@[go_sem] theorem h297_l : h297.lv 0 = [0,1] /\ h297.lv 1 = [0,1,7,8] /\ h297.lv 2 = [0,1,7,8,9] /\ h297.lv 3 = [0,1,5,7,8] /\ h297.lv 4 = [0,1,5,7,8,16] /\ h297.lv 5 = [4] /\ h297.lv 6 = [0,1,7,8] /\ h297.lv 7 = [4]:=by decide +kernel
@[go_sem] def h297_q:=hplain h297 rfl rfl rfl
@[go_sem] theorem h297_t : h297.tk = [] /\ h297.mt = [] /\ h297.pc = []:=⟨rfl,rfl,rfl⟩
theorem h297_k : FK Tryz.prog 297 Tryz.f297 h297:=⟨by kernel_rfl,by kernel_rfl,Tryz.func297,by kernel_rfl⟩
def h244 : Hint:=hm [3,16] [5] [] []
@[go_sem] theorem h244_l : h244.lv 0 = [0,1] /\ h244.lv 1 = [4]:=by decide +kernel
@[go_sem] def h244_q:=hplain h244 rfl rfl rfl
@[go_sem] theorem h244_t : h244.tk = [5] /\ h244.mt = [] /\ h244.pc = []:=⟨rfl,rfl,rfl⟩
theorem h244_k : FK Tryz.prog 244 Tryz.f244 h244:=⟨by kernel_rfl,by kernel_rfl,Tryz.func244,by kernel_rfl⟩
def h245 : Hint:=hm [6,8] [] [] []
@[go_sem] theorem h245_l : h245.lv 0 = [1,2] /\ h245.lv 1 = [3]:=by decide +kernel
@[go_sem] def h245_q:=hplain h245 rfl rfl rfl
@[go_sem] theorem h245_t : h245.tk = [] /\ h245.mt = [] /\ h245.pc = []:=⟨rfl,rfl,rfl⟩
theorem h245_k : FK Tryz.prog 245 Tryz.f245 h245:=⟨by kernel_rfl,by kernel_rfl,Tryz.func245,by kernel_rfl⟩
def h172 : Hint:=hm [35,64] [12] [] []
@[go_sem] theorem h172_l : h172.lv 0 = [0,1,5] /\ h172.lv 1 = [6]:=by decide +kernel
@[go_sem] def h172_q:=hplain h172 rfl rfl rfl
@[go_sem] theorem h172_t : h172.tk = [12] /\ h172.mt = [] /\ h172.pc = []:=⟨rfl,rfl,rfl⟩
theorem h172_k : FK Tryz.prog 172 Tryz.f172 h172:=⟨by kernel_rfl,by kernel_rfl,Tryz.func172,by kernel_rfl⟩
def h104 : Hint:=hm [2,26,262170,786458,4,8590196762,4,4503599627632666,4,0x800000000004001a,0x800000000000001a,4,4] [] [] [8,31,45,50,61,73]
@[go_sem] theorem h104_l : h104.lv 0 = [1] /\ h104.lv 1 = [1,3,4] /\ h104.lv 2 = [1,3,4,18] /\ h104.lv 3 = [1,3,4,18,19] /\ h104.lv 4 = [2] /\ h104.lv 5 = [1,3,4,18,33] /\ h104.lv 6 = [2] /\ h104.lv 7 = [1,3,4,18,52] /\ h104.lv 8 = [2] /\ h104.lv 9 = [1,3,4,18,63] /\ h104.lv 10 = [1,3,4,63] /\ h104.lv 11 = [2] /\ h104.lv 12 = [2]:=by decide +kernel
@[go_sem] def h104_q:=hplain h104 rfl rfl rfl
@[go_sem] theorem h104_t : h104.tk = [] /\ h104.mt = [] /\ h104.pc = [8,31,45,50,61,73]:=⟨rfl,rfl,rfl⟩
theorem h104_k : FK Tryz.prog 104 Tryz.f104 h104:=⟨by kernel_rfl,by kernel_rfl,Tryz.func104,by kernel_rfl⟩
def h103 : Hint:=hm [1,2] [] [] [3]
@[go_sem] theorem h103_l : h103.lv 0 = [0] /\ h103.lv 1 = [1]:=by decide +kernel
@[go_sem] def h103_q:=hplain h103 rfl rfl rfl
@[go_sem] theorem h103_t : h103.tk = [] /\ h103.mt = [] /\ h103.pc = [3]:=⟨rfl,rfl,rfl⟩
theorem h103_k : FK Tryz.prog 103 Tryz.f103 h103:=⟨by kernel_rfl,by kernel_rfl,Tryz.func103,by kernel_rfl⟩
def h52 : Hint:=hm [2,4] [] [] [4]
@[go_sem] theorem h52_l : h52.lv 0 = [1] /\ h52.lv 1 = [2]:=by decide +kernel
@[go_sem] def h52_q:=hplain h52 rfl rfl rfl
@[go_sem] theorem h52_t : h52.tk = [] /\ h52.mt = [] /\ h52.pc = [4]:=⟨rfl,rfl,rfl⟩
theorem h52_k : FK Tryz.prog 52 Tryz.f52 h52:=⟨by kernel_rfl,by kernel_rfl,Tryz.func52,by kernel_rfl⟩
def h27 : Hint:=hx [2,18,1810,3858,1874,1874,4196178,12,1810,1810,12] [23,28] [] [] [17,21] [(9,1)] []
@[go_sem] theorem h27_l : h27.lv 0 = [1] /\ h27.lv 1 = [1,4] /\ h27.lv 2 = [1,4,8,9,10] /\ h27.lv 3 = [1,4,8,9,10,11] /\ h27.lv 4 = [1,4,6,8,9,10] /\ h27.lv 5 = [1,4,6,8,9,10] /\ h27.lv 6 = [1,4,6,8,9,10,22] /\ h27.lv 7 = [2,3] /\ h27.lv 8 = [1,4,8,9,10] /\ h27.lv 9 = [1,4,8,9,10] /\ h27.lv 10 = [2,3]:=by decide +kernel
@[go_sem] theorem h27_g : h27.ct 0 = none /\ h27.ct 1 = none /\ h27.ct 2 = none /\ h27.ct 3 = none /\ h27.ct 4 = none /\ h27.ct 5 = none /\ h27.ct 6 = none /\ h27.ct 7 = none /\ h27.ct 8 = none /\ h27.ct 9 = some 1 /\ h27.ct 10 = none:=by decide +kernel
@[go_sem] theorem h27_z (k : Nat) : h27.at k = []:=rfl
@[go_sem] theorem h27_y (k : Nat) : h27.dn k = false:=Eq.trans rfl rfl
@[go_sem] theorem h27_t : h27.tk = [23,28] /\ h27.mt = [] /\ h27.pc = [17,21]:=⟨rfl,rfl,rfl⟩
theorem h27_k : FK Tryz.prog 27 Tryz.f27 h27:=⟨by kernel_rfl,by kernel_rfl,Tryz.func27,by kernel_rfl⟩
end Go.AI
namespace Go.AI
open Go.Proofs
@[go_sem] theorem cellsOf131 : Tryz.prog.cellsOf 131 = 1:=by kernel_rfl
@[go_sem] theorem ldk131 : ldk Tryz.prog 131 = some none:=by kernel_rfl
@[go_sem] theorem ldk217 : ldk Tryz.prog 217 = some none:=by kernel_rfl
@[go_sem] theorem cellsOf233 : Tryz.prog.cellsOf 233 = 5:=by kernel_rfl
@[go_sem] theorem bytesOf233 : Tryz.prog.bytesOf 233 = 64:=by kernel_rfl
@[go_sem] theorem ldk233 : ldk Tryz.prog 233 = some (some 5):=by kernel_rfl
@[go_sem] theorem zeroOk233 : zeroOk Tryz.prog 233 = true:=by kernel_rfl
@[go_sem] theorem bkind233 : bkind Tryz.prog 233 = .struct [(0,1),(1,1),(2,1),(3,1),(4,1)]:=by kernel_rfl
@[go_sem] theorem fplace233_0 : fplace Tryz.prog 233 0 = some (9,0):=by kernel_rfl
@[go_sem] theorem fplace233_1 : fplace Tryz.prog 233 1 = some (3,1):=by kernel_rfl
@[go_sem] theorem fplace233_2 : fplace Tryz.prog 233 2 = some (50,2):=by kernel_rfl
@[go_sem] theorem fplace233_3 : fplace Tryz.prog 233 3 = some (3,3):=by kernel_rfl
@[go_sem] theorem fplace233_4 : fplace Tryz.prog 233 4 = some (3,4):=by kernel_rfl
end Go.AI
set_option linter.defProp false
namespace Go.AI
open Go.Proofs
def h150 : Hint:=hm [3,387,899,419,65955,16,387,16] [] [] []
@[go_sem] theorem h150_l : h150.lv 0 = [0,1] /\ h150.lv 1 = [0,1,7,8] /\ h150.lv 2 = [0,1,7,8,9] /\ h150.lv 3 = [0,1,5,7,8] /\ h150.lv 4 = [0,1,5,7,8,16] /\ h150.lv 5 = [4] /\ h150.lv 6 = [0,1,7,8] /\ h150.lv 7 = [4]:=by decide +kernel
@[go_sem] def h150_q:=hplain h150 rfl rfl rfl
@[go_sem] theorem h150_t : h150.tk = [] /\ h150.mt = [] /\ h150.pc = []:=⟨rfl,rfl,rfl⟩
theorem h150_k : FK Tryz.prog 150 Tryz.f150 h150:=⟨by kernel_rfl,by kernel_rfl,Tryz.func150,by kernel_rfl⟩
def h246 : Hint:=hm [6,8] [] [] []
@[go_sem] theorem h246_l : h246.lv 0 = [1,2] /\ h246.lv 1 = [3]:=by decide +kernel
@[go_sem] def h246_q:=hplain h246 rfl rfl rfl
@[go_sem] theorem h246_t : h246.tk = [] /\ h246.mt = [] /\ h246.pc = []:=⟨rfl,rfl,rfl⟩
theorem h246_k : FK Tryz.prog 246 Tryz.f246 h246:=⟨by kernel_rfl,by kernel_rfl,Tryz.func246,by kernel_rfl⟩
def h174 : Hint:=hm [25,1049,48,81,65617,48,48] [18] [] [8,11]
@[go_sem] theorem h174_l : h174.lv 0 = [0,3,4] /\ h174.lv 1 = [0,3,4,10] /\ h174.lv 2 = [4,5] /\ h174.lv 3 = [0,4,6] /\ h174.lv 4 = [0,4,6,16] /\ h174.lv 5 = [4,5] /\ h174.lv 6 = [4,5]:=by decide +kernel
@[go_sem] def h174_q:=hplain h174 rfl rfl rfl
@[go_sem] theorem h174_t : h174.tk = [18] /\ h174.mt = [] /\ h174.pc = [8,11]:=⟨rfl,rfl,rfl⟩
theorem h174_k : FK Tryz.prog 174 Tryz.f174 h174:=⟨by kernel_rfl,by kernel_rfl,Tryz.func174,by kernel_rfl⟩
def h236 : Hint:=hm [2,4] [] [] []
@[go_sem] theorem h236_l : h236.lv 0 = [1] /\ h236.lv 1 = [2]:=by decide +kernel
@[go_sem] def h236_q:=hplain h236 rfl rfl rfl
@[go_sem] theorem h236_t : h236.tk = [] /\ h236.mt = [] /\ h236.pc = []:=⟨rfl,rfl,rfl⟩
theorem h236_k : FK Tryz.prog 236 Tryz.f236 h236:=⟨by kernel_rfl,by kernel_rfl,Tryz.func236,by kernel_rfl⟩
end Go.AI
namespace Go.AI
open Go.Proofs
@[go_sem] theorem cellsOf95 : Tryz.prog.cellsOf 95 = 1:=by kernel_rfl
@[go_sem] theorem ldk95 : ldk Tryz.prog 95 = some none:=by kernel_rfl
@[go_sem] theorem und95 : Tryz.prog.underlying 95 = some (.slice 34):=by kernel_rfl
@[go_sem] theorem zeroAV95 : zeroAV Tryz.prog 95 = some (.sl (some 10) []):=by kernel_rfl
@[go_sem] theorem cellsOf193 : Tryz.prog.cellsOf 193 = 1:=by kernel_rfl
@[go_sem] theorem ldk193 : ldk Tryz.prog 193 = some none:=by kernel_rfl
@[go_sem] theorem cellsOf194 : Tryz.prog.cellsOf 194 = 1:=by kernel_rfl
@[go_sem] theorem ldk194 : ldk Tryz.prog 194 = some none:=by kernel_rfl
@[go_sem] theorem bkind196 : bkind Tryz.prog 196 = .struct [(0,1),(1,1)]:=by kernel_rfl
@[go_sem] theorem fplace196_0 : fplace Tryz.prog 196 0 = some (193,0):=by kernel_rfl
@[go_sem] theorem fplace196_1 : fplace Tryz.prog 196 1 = some (194,1):=by kernel_rfl
@[go_sem] theorem zeroAV196 : zeroAV Tryz.prog 196 = some (.agg [.nilf,.nilf]):=by kernel_rfl
@[go_sem] theorem cellsOf197 : Tryz.prog.cellsOf 197 = 1:=by kernel_rfl
@[go_sem] theorem ldk197 : ldk Tryz.prog 197 = some none:=by kernel_rfl
@[go_sem] theorem zeroAV197 : zeroAV Tryz.prog 197 = some (.nilp):=by kernel_rfl
@[go_sem] theorem cellsOf267 : Tryz.prog.cellsOf 267 = 20:=by kernel_rfl
@[go_sem] theorem ldk267 : ldk Tryz.prog 267 = some (some 20):=by kernel_rfl
@[go_sem] theorem bkind267 : bkind Tryz.prog 267 = .struct [(0,10),(10,10)]:=by kernel_rfl
@[go_sem] theorem fplace267_0 : fplace Tryz.prog 267 0 = some (34,0):=by kernel_rfl
@[go_sem] theorem fplace267_1 : fplace Tryz.prog 267 1 = some (34,10):=by kernel_rfl
@[go_sem] theorem cellsOf272 : Tryz.prog.cellsOf 272 = 20:=by kernel_rfl
@[go_sem] theorem ldk272 : ldk Tryz.prog 272 = some (some 20):=by kernel_rfl
@[go_sem] theorem fplace272_0 : fplace Tryz.prog 272 0 = some (34,0):=by kernel_rfl
@[go_sem] theorem fplace272_1 : fplace Tryz.prog 272 1 = some (34,10):=by kernel_rfl
@[go_sem] theorem zeroAV272 : zeroAV Tryz.prog 272 = some (.agg [.int .i64 0,.int .i64 0,.int .i64 0,.int .i64 0,.int .i64 0,.int .i64 0,.int .i64 0,.int .i64 0,.int .i64 0,.int .i64 0,.int .i64 0,.int .i64 0,.int .i64 0,.int .i64 0,.int .i64 0,.int .i64 0,.int .i64 0,.int .i64 0,.int .i64 0,.int .i64 0]):=by kernel_rfl
end Go.AI
set_option linter.defProp false
namespace Go.AI
open Go.Proofs
def h105 : Hint:=hm [3,129,48,48] [8] [] []
@[go_sem] theorem h105_l : h105.lv 0 = [0,1] /\ h105.lv 1 = [0,7] /\ h105.lv 2 = [4,5] /\ h105.lv 3 = [4,5]:=by decide +kernel
@[go_sem] def h105_q:=hplain h105 rfl rfl rfl
@[go_sem] theorem h105_t : h105.tk = [8] /\ h105.mt = [] /\ h105.pc = []:=⟨rfl,rfl,rfl⟩
theorem h105_k : FK Tryz.prog 105 Tryz.f105 h105:=⟨by kernel_rfl,by kernel_rfl,Tryz.func105,by kernel_rfl⟩
def h175 : Hint:=hm [12,76,204,108,4194380,16,76,16] [] [] []
@[go_sem] theorem h175_l : h175.lv 0 = [2,3] /\ h175.lv 1 = [2,3,6] /\ h175.lv 2 = [2,3,6,7] /\ h175.lv 3 = [2,3,5,6] /\ h175.lv 4 = [2,3,6,22] /\ h175.lv 5 = [4] /\ h175.lv 6 = [2,3,6] /\ h175.lv 7 = [4]:=by decide +kernel
@[go_sem] def h175_q:=hplain h175 rfl rfl rfl
@[go_sem] theorem h175_t : h175.tk = [] /\ h175.mt = [] /\ h175.pc = []:=⟨rfl,rfl,rfl⟩
theorem h175_k : FK Tryz.prog 175 Tryz.f175 h175:=⟨by kernel_rfl,by kernel_rfl,Tryz.func175,by kernel_rfl⟩
def h248 : Hint:=hm [2,4] [] [] []
@[go_sem] theorem h248_l : h248.lv 0 = [1] /\ h248.lv 1 = [2]:=by decide +kernel
@[go_sem] def h248_q:=hplain h248 rfl rfl rfl
@[go_sem] theorem h248_t : h248.tk = [] /\ h248.mt = [] /\ h248.pc = []:=⟨rfl,rfl,rfl⟩
theorem h248_k : FK Tryz.prog 248 Tryz.f248 h248:=⟨by kernel_rfl,by kernel_rfl,Tryz.func248,by kernel_rfl⟩
def h247 : Hint:=hm [92,220,80,64] [] [] [17,19,24]
@[go_sem] theorem h247_l : h247.lv 0 = [2,3,4,6] /\ h247.lv 1 = [2,3,4,6,7] /\ h247.lv 2 = [4,6] /\ h247.lv 3 = [6]:=by decide +kernel
@[go_sem] def h247_q:=hplain h247 rfl rfl rfl
@[go_sem] theorem h247_t : h247.tk = [] /\ h247.mt = [] /\ h247.pc = [17,19,24]:=⟨rfl,rfl,rfl⟩
theorem h247_k : FK Tryz.prog 247 Tryz.f247 h247:=⟨by kernel_rfl,by kernel_rfl,Tryz.func247,by kernel_rfl⟩
def h177 : Hint:=hm [78,202,64] [] [] [9,20,26]
@[go_sem] theorem h177_l : h177.lv 0 = [1,2,3,6] /\ h177.lv 1 = [1,3,6,7] /\ h177.lv 2 = [6]:=by decide +kernel
@[go_sem] def h177_q:=hplain h177 rfl rfl rfl
@[go_sem] theorem h177_t : h177.tk = [] /\ h177.mt = [] /\ h177.pc = [9,20,26]:=⟨rfl,rfl,rfl⟩
theorem h177_k : FK Tryz.prog 177 Tryz.f177 h177:=⟨by kernel_rfl,by kernel_rfl,Tryz.func177,by kernel_rfl⟩
def h176 : Hint:=hm [22,16] [] [] [9]
@[go_sem] theorem h176_l : h176.lv 0 = [1,2,4] /\ h176.lv 1 = [4]:=by decide +kernel
@[go_sem] def h176_q:=hplain h176 rfl rfl rfl
@[go_sem] theorem h176_t : h176.tk = [] /\ h176.mt = [] /\ h176.pc = [9]:=⟨rfl,rfl,rfl⟩
theorem h176_k : FK Tryz.prog 176 Tryz.f176 h176:=⟨by kernel_rfl,by kernel_rfl,Tryz.func176,by kernel_rfl⟩
def h178 : Hint:=hm [12,16] [] [] [11,14]
@[go_sem] theorem h178_l : h178.lv 0 = [2,3] /\ h178.lv 1 = [4]:=by decide +kernel
@[go_sem] def h178_q:=hplain h178 rfl rfl rfl
@[go_sem] theorem h178_t : h178.tk = [] /\ h178.mt = [] /\ h178.pc = [11,14]:=⟨rfl,rfl,rfl⟩
theorem h178_k : FK Tryz.prog 178 Tryz.f178 h178:=⟨by kernel_rfl,by kernel_rfl,Tryz.func178,by kernel_rfl⟩
def h173 : Hint:=hm [124,4220,12412,12412,128,528508,128,2147487864,128,17592186048632,17592186044536,0x1000000000000068,128,128,352,0x400000000000000000160,0xc00000000000000000160,128,0x80000000000000000000160,128,1056,128] [] [42,56,73] [42,56,73,78,88,90,98,100,103]
@[go_sem] theorem h173_l : h173.lv 0 = [2,3,4,5,6] /\ h173.lv 1 = [2,3,4,5,6,12] /\ h173.lv 2 = [2,3,4,5,6,12,13] /\ h173.lv 3 = [2,3,4,5,6,12,13] /\ h173.lv 4 = [7] /\ h173.lv 5 = [2,3,4,5,6,12,19] /\ h173.lv 6 = [7] /\ h173.lv 7 = [3,4,5,6,12,31] /\ h173.lv 8 = [7] /\ h173.lv 9 = [3,4,5,6,12,44] /\ h173.lv 10 = [3,4,5,6,44] /\ h173.lv 11 = [3,5,6,60] /\ h173.lv 12 = [7] /\ h173.lv 13 = [7] /\ h173.lv 14 = [5,6,8] /\ h173.lv 15 = [5,6,8,82] /\ h173.lv 16 = [5,6,8,82,83] /\ h173.lv 17 = [7] /\ h173.lv 18 = [5,6,8,91] /\ h173.lv 19 = [7] /\ h173.lv 20 = [5,10] /\ h173.lv 21 = [7]:=by decide +kernel
@[go_sem] def h173_q:=hplain h173 rfl rfl rfl
@[go_sem] theorem h173_t : h173.tk = [] /\ h173.mt = [42,56,73] /\ h173.pc = [42,56,73,78,88,90,98,100,103]:=⟨rfl,rfl,rfl⟩
theorem h173_k : FK Tryz.prog 173 Tryz.f173 h173:=⟨by kernel_rfl,by kernel_rfl,Tryz.func173,by kernel_rfl⟩
def h180 : Hint:=hm [28,92,220,124,92,92,16] [] [] []
@[go_sem] theorem h180_l : h180.lv 0 = [2,3,4] /\ h180.lv 1 = [2,3,4,6] /\ h180.lv 2 = [2,3,4,6,7] /\ h180.lv 3 = [2,3,4,5,6] /\ h180.lv 4 = [2,3,4,6] /\ h180.lv 5 = [2,3,4,6] /\ h180.lv 6 = [4]:=by decide +kernel
@[go_sem] def h180_q:=hplain h180 rfl rfl rfl
@[go_sem] theorem h180_t : h180.tk = [] /\ h180.mt = [] /\ h180.pc = []:=⟨rfl,rfl,rfl⟩
theorem h180_k : FK Tryz.prog 180 Tryz.f180 h180:=⟨by kernel_rfl,by kernel_rfl,Tryz.func180,by kernel_rfl⟩
def h181 : Hint:=hm [22,16] [] [] [7]
@[go_sem] theorem h181_l : h181.lv 0 = [1,2,4] /\ h181.lv 1 = [4]:=by decide +kernel
@[go_sem] def h181_q:=hplain h181 rfl rfl rfl
@[go_sem] theorem h181_t : h181.tk = [] /\ h181.mt = [] /\ h181.pc = [7]:=⟨rfl,rfl,rfl⟩
theorem h181_k : FK Tryz.prog 181 Tryz.f181 h181:=⟨by kernel_rfl,by kernel_rfl,Tryz.func181,by kernel_rfl⟩
def h182 : Hint:=hm [3,4097,48,48] [13] [] []
@[go_sem] theorem h182_l : h182.lv 0 = [0,1] /\ h182.lv 1 = [0,12] /\ h182.lv 2 = [4,5] /\ h182.lv 3 = [4,5]:=by decide +kernel
@[go_sem] def h182_q:=hplain h182 rfl rfl rfl
@[go_sem] theorem h182_t : h182.tk = [13] /\ h182.mt = [] /\ h182.pc = []:=⟨rfl,rfl,rfl⟩
theorem h182_k : FK Tryz.prog 182 Tryz.f182 h182:=⟨by kernel_rfl,by kernel_rfl,Tryz.func182,by kernel_rfl⟩
def h117 : Hint:=hm [3,35,99,2115,4096,16,16,8195,16,65539,16,524288,16,16] [] [] [8,10]
@[go_sem] theorem h117_l : h117.lv 0 = [0,1] /\ h117.lv 1 = [0,1,5] /\ h117.lv 2 = [0,1,5,6] /\ h117.lv 3 = [0,1,6,11] /\ h117.lv 4 = [12] /\ h117.lv 5 = [4] /\ h117.lv 6 = [4] /\ h117.lv 7 = [0,1,13] /\ h117.lv 8 = [4] /\ h117.lv 9 = [0,1,16] /\ h117.lv 10 = [4] /\ h117.lv 11 = [19] /\ h117.lv 12 = [4] /\ h117.lv 13 = [4]:=by decide +kernel
@[go_sem] def h117_q:=hplain h117 rfl rfl rfl
@[go_sem] theorem h117_t : h117.tk = [] /\ h117.mt = [] /\ h117.pc = [8,10]:=⟨rfl,rfl,rfl⟩
theorem h117_k : FK Tryz.prog 117 Tryz.f117 h117:=⟨by kernel_rfl,by kernel_rfl,Tryz.func117,by kernel_rfl⟩
def h66 : Hint:=hm [3,3587,7683,3683,527971,16,3779,3843,268439299,16,3587,34359738368,16,16] [31,33] [] [26]
@[go_sem] theorem h66_l : h66.lv 0 = [0,1] /\ h66.lv 1 = [0,1,9,10,11] /\ h66.lv 2 = [0,1,9,10,11,12] /\ h66.lv 3 = [0,1,5,6,9,10,11] /\ h66.lv 4 = [0,1,5,6,9,10,11,19] /\ h66.lv 5 = [4] /\ h66.lv 6 = [0,1,6,7,9,10,11] /\ h66.lv 7 = [0,1,8,9,10,11] /\ h66.lv 8 = [0,1,8,9,10,11,28] /\ h66.lv 9 = [4] /\ h66.lv 10 = [0,1,9,10,11] /\ h66.lv 11 = [35] /\ h66.lv 12 = [4] /\ h66.lv 13 = [4]:=by decide +kernel
@[go_sem] def h66_q:=hplain h66 rfl rfl rfl
@[go_sem] theorem h66_t : h66.tk = [31,33] /\ h66.mt = [] /\ h66.pc = [26]:=⟨rfl,rfl,rfl⟩
theorem h66_k : FK Tryz.prog 66 Tryz.f66 h66:=⟨by kernel_rfl,by kernel_rfl,Tryz.func66,by kernel_rfl⟩
def h299 : Hint:=hm [12,16] [] [5,6] []
@[go_sem] theorem h299_l : h299.lv 0 = [2,3] /\ h299.lv 1 = [4]:=by decide +kernel
@[go_sem] def h299_q:=hplain h299 rfl rfl rfl
@[go_sem] theorem h299_t : h299.tk = [] /\ h299.mt = [5,6] /\ h299.pc = []:=⟨rfl,rfl,rfl⟩
theorem h299_k : FK Tryz.prog 299 Tryz.f299 h299:=⟨by kernel_rfl,by kernel_rfl,Tryz.func299,by kernel_rfl⟩
def h298 : Hint:=hx [8199,7,23,2097159,23,33554439,23,55,1073741879,55,137438953511,39,70368744177671] [] [] [] [20] [] [9,11]
@[go_sem] theorem h298_l : h298.lv 0 = [0,1,2,13] /\ h298.lv 1 = [0,1,2] /\ h298.lv 2 = [0,1,2,4] /\ h298.lv 3 = [0,1,2,21] /\ h298.lv 4 = [0,1,2,4] /\ h298.lv 5 = [0,1,2,25] /\ h298.lv 6 = [0,1,2,4] /\ h298.lv 7 = [0,1,2,4,5] /\ h298.lv 8 = [0,1,2,4,5,30] /\ h298.lv 9 = [0,1,2,4,5] /\ h298.lv 10 = [0,1,2,5,37] /\ h298.lv 11 = [0,1,2,5] /\ h298.lv 12 = [0,1,2,46]:=by decide +kernel
@[go_sem] theorem h298_g (k : Nat) : h298.ct k = none:=rfl
@[go_sem] theorem h298_z (k : Nat) : h298.at k = []:=rfl
@[go_sem] theorem h298_y : h298.dn 0 = false /\ h298.dn 1 = false /\ h298.dn 2 = false /\ h298.dn 3 = false /\ h298.dn 4 = false /\ h298.dn 5 = false /\ h298.dn 6 = false /\ h298.dn 7 = false /\ h298.dn 8 = false /\ h298.dn 9 = true /\ h298.dn 10 = false /\ h298.dn 11 = true /\ h298.dn 12 = false:=by decide +kernel
@[go_sem] theorem h298_t : h298.tk = [] /\ h298.mt = [] /\ h298.pc = [20]:=⟨rfl,rfl,rfl⟩
theorem h298_k : FK Tryz.prog 298 Tryz.f298 h298:=⟨by kernel_rfl,by kernel_rfl,Tryz.func298,by kernel_rfl⟩
def h249 : Hint:=hm [12,16] [] [] []
@[go_sem] theorem h249_l : h249.lv 0 = [2,3] /\ h249.lv 1 = [4]:=by decide +kernel
@[go_sem] def h249_q:=hplain h249 rfl rfl rfl
theorem h249_k : FK Tryz.prog 249 Tryz.f249 h249:=⟨by kernel_rfl,by kernel_rfl,Tryz.func249,by kernel_rfl⟩
def h183 : Hint:=hm [3,35,544,96,1,16] [7,8,11] [5,14] []
@[go_sem] theorem h183_l : h183.lv 0 = [0,1] /\ h183.lv 1 = [0,1,5] /\ h183.lv 2 = [5,9] /\ h183.lv 3 = [5,6] /\ h183.lv 4 = [0] /\ h183.lv 5 = [4]:=by decide +kernel
@[go_sem] def h183_q:=hplain h183 rfl rfl rfl
@[go_sem] theorem h183_t : h183.tk = [7,8,11] /\ h183.mt = [5,14] /\ h183.pc = []:=⟨rfl,rfl,rfl⟩
theorem h183_k : FK Tryz.prog 183 Tryz.f183 h183:=⟨by kernel_rfl,by kernel_rfl,Tryz.func183,by kernel_rfl⟩
def h184 : Hint:=hx [21,277,789,115473,246545,117009,127249,115473,549755929361,115473,192] [14,31,32,41] [27] [(6,[(8,none,true)])] [27] [] []
@[go_sem] theorem h184_l : h184.lv 0 = [0,2,4] /\ h184.lv 1 = [0,2,4,8] /\ h184.lv 2 = [0,2,4,8,9] /\ h184.lv 3 = [0,4,8,9,14,15,16] /\ h184.lv 4 = [0,4,8,9,14,15,16,17] /\ h184.lv 5 = [0,4,8,11,14,15,16] /\ h184.lv 6 = [0,4,8,12,13,14,15,16] /\ h184.lv 7 = [0,4,8,9,14,15,16] /\ h184.lv 8 = [0,4,8,9,14,15,16,39] /\ h184.lv 9 = [0,4,8,9,14,15,16] /\ h184.lv 10 = [6,7]:=by decide +kernel
@[go_sem] theorem h184_g (k : Nat) : h184.ct k = none:=rfl
@[go_sem] theorem h184_z : h184.at 0 = [] /\ h184.at 1 = [] /\ h184.at 2 = [] /\ h184.at 3 = [] /\ h184.at 4 = [] /\ h184.at 5 = [] /\ h184.at 6 = [(8,none,true)] /\ h184.at 7 = [] /\ h184.at 8 = [] /\ h184.at 9 = [] /\ h184.at 10 = []:=by decide +kernel
@[go_sem] theorem h184_y (k : Nat) : h184.dn k = false:=Eq.trans rfl rfl
@[go_sem] theorem h184_t : h184.tk = [14,31,32,41] /\ h184.mt = [27] /\ h184.pc = [27]:=⟨rfl,rfl,rfl⟩
theorem h184_k : FK Tryz.prog 184 Tryz.f184 h184:=⟨by kernel_rfl,by kernel_rfl,Tryz.func184,by kernel_rfl⟩
def h300 : Hint:=hm [3,387,899,419,65955,16,387,16] [] [] []
@[go_sem] theorem h300_l : h300.lv 0 = [0,1] /\ h300.lv 1 = [0,1,7,8] /\ h300.lv 2 = [0,1,7,8,9] /\ h300.lv 3 = [0,1,5,7,8] /\ h300.lv 4 = [0,1,5,7,8,16] /\ h300.lv 5 = [4] /\ h300.lv 6 = [0,1,7,8] /\ h300.lv 7 = [4]:=by decide +kernel
@[go_sem] def h300_q:=hplain h300 rfl rfl rfl
@[go_sem] theorem h300_t : h300.tk = [] /\ h300.mt = [] /\ h300.pc = []:=⟨rfl,rfl,rfl⟩
theorem h300_k : FK Tryz.prog 300 Tryz.f300 h300:=⟨by kernel_rfl,by kernel_rfl,Tryz.func300,by kernel_rfl⟩
def h250 : Hint:=hm [3,35,4131,16,99,524387,99,227,536871139,99,99,33,16] [13,39] [] []
@[go_sem] theorem h250_l : h250.lv 0 = [0,1] /\ h250.lv 1 = [0,1,5] /\ h250.lv 2 = [0,1,5,12] /\ h250.lv 3 = [4] /\ h250.lv 4 = [0,1,5,6] /\ h250.lv 5 = [0,1,5,6,19] /\ h250.lv 6 = [0,1,5,6] /\ h250.lv 7 = [0,1,5,6,7] /\ h250.lv 8 = [0,1,5,6,7,29] /\ h250.lv 9 = [0,1,5,6] /\ h250.lv 10 = [0,1,5,6] /\ h250.lv 11 = [0,5] /\ h250.lv 12 = [4]:=by decide +kernel
@[go_sem] def h250_q:=hplain h250 rfl rfl rfl
@[go_sem] theorem h250_t : h250.tk = [13,39] /\ h250.mt = [] /\ h250.pc = []:=⟨rfl,rfl,rfl⟩
theorem h250_k : FK Tryz.prog 250 Tryz.f250 h250:=⟨by kernel_rfl,by kernel_rfl,Tryz.func250,by kernel_rfl⟩
def h301 : Hint:=hm [21,277,1813,132885,3861,2147487509,1813,1813,192] [41] [] [30,46]
@[go_sem] theorem h301_l : h301.lv 0 = [0,2,4] /\ h301.lv 1 = [0,2,4,8] /\ h301.lv 2 = [0,2,4,8,9,10] /\ h301.lv 3 = [0,2,4,8,9,10,17] /\ h301.lv 4 = [0,2,4,8,9,10,11] /\ h301.lv 5 = [0,2,4,8,9,10,11,31] /\ h301.lv 6 = [0,2,4,8,9,10] /\ h301.lv 7 = [0,2,4,8,9,10] /\ h301.lv 8 = [6,7]:=by decide +kernel
@[go_sem] def h301_q:=hplain h301 rfl rfl rfl
@[go_sem] theorem h301_t : h301.tk = [41] /\ h301.mt = [] /\ h301.pc = [30,46]:=⟨rfl,rfl,rfl⟩
theorem h301_k : FK Tryz.prog 301 Tryz.f301 h301:=⟨by kernel_rfl,by kernel_rfl,Tryz.func301,by kernel_rfl⟩
def h252 : Hint:=hm [9,64,16] [8] [] [10]
@[go_sem] theorem h252_l : h252.lv 0 = [0,3] /\ h252.lv 1 = [6] /\ h252.lv 2 = [4]:=by decide +kernel
@[go_sem] def h252_q:=hplain h252 rfl rfl rfl
@[go_sem] theorem h252_t : h252.tk = [8] /\ h252.mt = [] /\ h252.pc = [10]:=⟨rfl,rfl,rfl⟩
theorem h252_k : FK Tryz.prog 252 Tryz.f252 h252:=⟨by kernel_rfl,by kernel_rfl,Tryz.func252,by kernel_rfl⟩
def h251 : Hint:=hm [6,8] [] [] [6]
@[go_sem] theorem h251_l : h251.lv 0 = [1,2] /\ h251.lv 1 = [3]:=by decide +kernel
@[go_sem] def h251_q:=hplain h251 rfl rfl rfl
@[go_sem] theorem h251_t : h251.tk = [] /\ h251.mt = [] /\ h251.pc = [6]:=⟨rfl,rfl,rfl⟩
theorem h251_k : FK Tryz.prog 251 Tryz.f251 h251:=⟨by kernel_rfl,by kernel_rfl,Tryz.func251,by kernel_rfl⟩
def h185 : Hint:=hx [49,529,3601,3601,13841,11793,11793,274877910545,448,2199023259153,448] [22,26] [] [(5,[(11,none,true)])] [] [] []
@[go_sem] theorem h185_l : h185.lv 0 = [0,4,5] /\ h185.lv 1 = [0,4,9] /\ h185.lv 2 = [0,4,9,10,11] /\ h185.lv 3 = [0,4,9,10,11] /\ h185.lv 4 = [0,4,9,10,12,13] /\ h185.lv 5 = [0,4,9,10,11,13] /\ h185.lv 6 = [0,4,9,10,11,13] /\ h185.lv 7 = [0,4,9,10,11,38] /\ h185.lv 8 = [6,7,8] /\ h185.lv 9 = [0,4,9,10,11,41] /\ h185.lv 10 = [6,7,8]:=by decide +kernel
@[go_sem] theorem h185_g (k : Nat) : h185.ct k = none:=rfl
@[go_sem] theorem h185_z : h185.at 0 = [] /\ h185.at 1 = [] /\ h185.at 2 = [] /\ h185.at 3 = [] /\ h185.at 4 = [] /\ h185.at 5 = [(11,none,true)] /\ h185.at 6 = [] /\ h185.at 7 = [] /\ h185.at 8 = [] /\ h185.at 9 = [] /\ h185.at 10 = []:=by decide +kernel
@[go_sem] theorem h185_y (k : Nat) : h185.dn k = false:=Eq.trans rfl rfl
@[go_sem] theorem h185_t : h185.tk = [22,26] /\ h185.mt = [] /\ h185.pc = []:=⟨rfl,rfl,rfl⟩
theorem h185_k : FK Tryz.prog 185 Tryz.f185 h185:=⟨by kernel_rfl,by kernel_rfl,Tryz.func185,by kernel_rfl⟩
def h179 : Hint:=hm [60,1048636,3145788,2147483680,192,192,17180917820,304,192,0x4000000100034,3124,15360,192,0x10000000000000000000034,49172,0x100000000000000000000004014,192,192,327680,192] [78,79,110,125] [30,62,75,100,111,121] [30,40,46,48,62,75,85,100]
@[go_sem] theorem h179_l : h179.lv 0 = [2,3,4,5] /\ h179.lv 1 = [2,3,4,5,20] /\ h179.lv 2 = [2,3,4,5,20,21] /\ h179.lv 3 = [5,31] /\ h179.lv 4 = [6,7] /\ h179.lv 5 = [6,7] /\ h179.lv 6 = [2,3,4,5,20,34] /\ h179.lv 7 = [4,5,8] /\ h179.lv 8 = [6,7] /\ h179.lv 9 = [2,4,5,20,50] /\ h179.lv 10 = [2,4,5,10,11] /\ h179.lv 11 = [10,11,12,13] /\ h179.lv 12 = [6,7] /\ h179.lv 13 = [2,4,5,88] /\ h179.lv 14 = [2,4,14,15] /\ h179.lv 15 = [2,4,14,104] /\ h179.lv 16 = [6,7] /\ h179.lv 17 = [6,7] /\ h179.lv 18 = [16,18] /\ h179.lv 19 = [6,7]:=by decide +kernel
@[go_sem] def h179_q:=hplain h179 rfl rfl rfl
@[go_sem] theorem h179_t : h179.tk = [78,79,110,125] /\ h179.mt = [30,62,75,100,111,121] /\ h179.pc = [30,40,46,48,62,75,85,100]:=⟨rfl,rfl,rfl⟩
theorem h179_k : FK Tryz.prog 179 Tryz.f179 h179:=⟨by kernel_rfl,by kernel_rfl,Tryz.func179,by kernel_rfl⟩
def h106 : Hint:=hm [12,44,36,32,16] [] [] []
@[go_sem] theorem h106_l : h106.lv 0 = [2,3] /\ h106.lv 1 = [2,3,5] /\ h106.lv 2 = [2,5] /\ h106.lv 3 = [5] /\ h106.lv 4 = [4]:=by decide +kernel
@[go_sem] def h106_q:=hplain h106 rfl rfl rfl
@[go_sem] theorem h106_t : h106.tk = [] /\ h106.mt = [] /\ h106.pc = []:=⟨rfl,rfl,rfl⟩
theorem h106_k : FK Tryz.prog 106 Tryz.f106 h106:=⟨by kernel_rfl,by kernel_rfl,Tryz.func106,by kernel_rfl⟩
def h53 : Hint:=hx [105,768] [10] [12,18] [] [18,21] [] [2006,2007]
@[go_sem] theorem h53_l : h53.lv 0 = [0,3,5,6] /\ h53.lv 1 = [8,9]:=by decide +kernel
@[go_sem] theorem h53_g (k : Nat) : h53.ct k = none:=rfl
@[go_sem] theorem h53_z (k : Nat) : h53.at k = []:=rfl
@[go_sem] theorem h53_y : h53.dn 0 = false /\ h53.dn 1 = true:=by decide +kernel
@[go_sem] theorem h53_t : h53.tk = [10] /\ h53.mt = [12,18] /\ h53.pc = [18,21]:=⟨rfl,rfl,rfl⟩
theorem h53_k : FK Tryz.prog 53 Tryz.f53 h53:=⟨by kernel_rfl,by kernel_rfl,Tryz.func53,by kernel_rfl⟩
def h192 : Hint:=hm [1,4] [] [] []
@[go_sem] theorem h192_l : h192.lv 0 = [0] /\ h192.lv 1 = [2]:=by decide +kernel
@[go_sem] def h192_q:=hplain h192 rfl rfl rfl
@[go_sem] theorem h192_t : h192.tk = [] /\ h192.mt = [] /\ h192.pc = []:=⟨rfl,rfl,rfl⟩
theorem h192_k : FK Tryz.prog 192 Tryz.f192 h192:=⟨by kernel_rfl,by kernel_rfl,Tryz.func192,by kernel_rfl⟩
end Go.AI
namespace Go.AI
open Go.Proofs
@[go_sem] theorem und32 : Tryz.prog.underlying 32 = some (.slice 49):=by kernel_rfl
@[go_sem] theorem isSl32 : isSl Tryz.prog 32 = true:=by kernel_rfl
@[go_sem] theorem cellsOf36 : Tryz.prog.cellsOf 36 = 11:=by kernel_rfl
@[go_sem] theorem ldk36 : ldk Tryz.prog 36 = some (some 11):=by kernel_rfl
@[go_sem] theorem zeroOk36 : zeroOk Tryz.prog 36 = true:=by kernel_rfl
@[go_sem] theorem fplace36_0 : fplace Tryz.prog 36 0 = some (34,0):=by kernel_rfl
@[go_sem] theorem fplace36_1 : fplace Tryz.prog 36 1 = some (3,10):=by kernel_rfl
@[go_sem] theorem und39 : Tryz.prog.underlying 39 = some (.slice 52):=by kernel_rfl
@[go_sem] theorem cellsOf45 : Tryz.prog.cellsOf 45 = 1:=by kernel_rfl
@[go_sem] theorem ldk45 : ldk Tryz.prog 45 = some none:=by kernel_rfl
@[go_sem] theorem und45 : Tryz.prog.underlying 45 = some (.slice 50):=by kernel_rfl
@[go_sem] theorem zeroAV45 : zeroAV Tryz.prog 45 = some (.sl (some 1) []):=by kernel_rfl
@[go_sem] theorem cellsOf49 : Tryz.prog.cellsOf 49 = 1:=by kernel_rfl
@[go_sem] theorem bytesOf49 : Tryz.prog.bytesOf 49 = 24:=by kernel_rfl
@[go_sem] theorem ldk49 : ldk Tryz.prog 49 = some none:=by kernel_rfl
@[go_sem] theorem und49 : Tryz.prog.underlying 49 = some (.slice 107):=by kernel_rfl
@[go_sem] theorem isSl49 : isSl Tryz.prog 49 = true:=by kernel_rfl
@[go_sem] theorem zeroOk49 : zeroOk Tryz.prog 49 = true:=by kernel_rfl
@[go_sem] theorem cellsOf52 : Tryz.prog.cellsOf 52 = 12:=by kernel_rfl
@[go_sem] theorem bytesOf52 : Tryz.prog.bytesOf 52 = 112:=by kernel_rfl
@[go_sem] theorem ldk52 : ldk Tryz.prog 52 = some (some 12):=by kernel_rfl
@[go_sem] theorem zeroOk52 : zeroOk Tryz.prog 52 = true:=by kernel_rfl
@[go_sem] theorem bkind52 : bkind Tryz.prog 52 = .struct [(0,1),(1,10),(11,1)]:=by kernel_rfl
@[go_sem] theorem fplace52_0 : fplace Tryz.prog 52 0 = some (3,0):=by kernel_rfl
@[go_sem] theorem fplace52_1 : fplace Tryz.prog 52 1 = some (34,1):=by kernel_rfl
@[go_sem] theorem fplace52_2 : fplace Tryz.prog 52 2 = some (50,11):=by kernel_rfl
@[go_sem] theorem und57 : Tryz.prog.underlying 57 = some (.slice 36):=by kernel_rfl
@[go_sem] theorem cellsOf78 : Tryz.prog.cellsOf 78 = 1:=by kernel_rfl
@[go_sem] theorem ldk78 : ldk Tryz.prog 78 = some none:=by kernel_rfl
@[go_sem] theorem und78 : Tryz.prog.underlying 78 = some (.slice 80):=by kernel_rfl
@[go_sem] theorem zeroAV78 : zeroAV Tryz.prog 78 = some (.sl (some 12) []):=by kernel_rfl
@[go_sem] theorem cellsOf80 : Tryz.prog.cellsOf 80 = 12:=by kernel_rfl
@[go_sem] theorem bytesOf80 : Tryz.prog.bytesOf 80 = 112:=by kernel_rfl
@[go_sem] theorem ldk80 : ldk Tryz.prog 80 = some (some 12):=by kernel_rfl
@[go_sem] theorem zeroOk80 : zeroOk Tryz.prog 80 = true:=by kernel_rfl
@[go_sem] theorem bkind80 : bkind Tryz.prog 80 = .struct [(0,1),(1,10),(11,1)]:=by kernel_rfl
@[go_sem] theorem fplace80_0 : fplace Tryz.prog 80 0 = some (3,0):=by kernel_rfl
@[go_sem] theorem fplace80_1 : fplace Tryz.prog 80 1 = some (34,1):=by kernel_rfl
@[go_sem] theorem fplace80_2 : fplace Tryz.prog 80 2 = some (50,11):=by kernel_rfl
@[go_sem] theorem ldk148 : ldk Tryz.prog 148 = some none:=by kernel_rfl
@[go_sem] theorem cellsOf149 : Tryz.prog.cellsOf 149 = 1:=by kernel_rfl
@[go_sem] theorem ldk149 : ldk Tryz.prog 149 = some none:=by kernel_rfl
@[go_sem] theorem zeroAV149 : zeroAV Tryz.prog 149 = some (.nilf):=by kernel_rfl
@[go_sem] theorem und158 : Tryz.prog.underlying 158 = some (.slice 4):=by kernel_rfl
@[go_sem] theorem und162 : Tryz.prog.underlying 162 = some (.slice 233):=by kernel_rfl
@[go_sem] theorem cellsOf199 : Tryz.prog.cellsOf 199 = 1:=by kernel_rfl
@[go_sem] theorem ldk199 : ldk Tryz.prog 199 = some none:=by kernel_rfl
@[go_sem] theorem ldk200 : ldk Tryz.prog 200 = some none:=by kernel_rfl
@[go_sem] theorem cellsOf201 : Tryz.prog.cellsOf 201 = 7:=by kernel_rfl
@[go_sem] theorem und201 : Tryz.prog.underlying 201 = some (.array 7 199):=by kernel_rfl
@[go_sem] theorem bkind201 : bkind Tryz.prog 201 = .array 1:=by kernel_rfl
@[go_sem] theorem zeroAV201 : zeroAV Tryz.prog 201 = some (.agg [.nilf,.nilf,.nilf,.nilf,.nilf,.nilf,.nilf]):=by kernel_rfl
@[go_sem] theorem bkind205 : bkind Tryz.prog 205 = .struct [(0,1),(1,6),(7,1),(8,10),(18,1),(19,4),(23,1)]:=by kernel_rfl
@[go_sem] theorem fplace205_0 : fplace Tryz.prog 205 0 = some (27,0):=by kernel_rfl
@[go_sem] theorem fplace205_1 : fplace Tryz.prog 205 1 = some (126,1):=by kernel_rfl
@[go_sem] theorem fplace205_2 : fplace Tryz.prog 205 2 = some (49,7):=by kernel_rfl
@[go_sem] theorem fplace205_3 : fplace Tryz.prog 205 3 = some (34,8):=by kernel_rfl
@[go_sem] theorem fplace205_4 : fplace Tryz.prog 205 4 = some (3,18):=by kernel_rfl
@[go_sem] theorem fplace205_5 : fplace Tryz.prog 205 5 = some (107,19):=by kernel_rfl
@[go_sem] theorem fplace205_6 : fplace Tryz.prog 205 6 = some (4,23):=by kernel_rfl
@[go_sem] theorem ldk282 : ldk Tryz.prog 282 = some none:=by kernel_rfl
end Go.AI
set_option linter.defProp false
namespace Go.AI
open Go.Proofs
def h39 : Hint:=hm [2,10,1073741826,4,18,34359738386,18,50,35184372088850,4,66,0x4000000000042,66,194,0x2000000000000042,4,4] [] [] [10,43,59]
@[go_sem] theorem h39_l : h39.lv 0 = [1] /\ h39.lv 1 = [1,3] /\ h39.lv 2 = [1,30] /\ h39.lv 3 = [2] /\ h39.lv 4 = [1,4] /\ h39.lv 5 = [1,4,35] /\ h39.lv 6 = [1,4] /\ h39.lv 7 = [1,4,5] /\ h39.lv 8 = [1,4,45] /\ h39.lv 9 = [2] /\ h39.lv 10 = [1,6] /\ h39.lv 11 = [1,6,50] /\ h39.lv 12 = [1,6] /\ h39.lv 13 = [1,6,7] /\ h39.lv 14 = [1,6,61] /\ h39.lv 15 = [2] /\ h39.lv 16 = [2]:=by decide +kernel
@[go_sem] def h39_q:=hplain h39 rfl rfl rfl
@[go_sem] theorem h39_t : h39.tk = [] /\ h39.mt = [] /\ h39.pc = [10,43,59]:=⟨rfl,rfl,rfl⟩
theorem h39_k : FK Tryz.prog 39 Tryz.f39 h39:=⟨by kernel_rfl,by kernel_rfl,Tryz.func39,by kernel_rfl⟩
def h73 : Hint:=hm [6,38,102,2097254,16,294,536871206,16,17592186044454,16,550,562949953421862,550,1574,0x40000000000626,1574,3622,0x8000000000000e26,3622,0x20000000000000000626,16,16] [] [] [19,25,75]
@[go_sem] theorem h73_l : h73.lv 0 = [1,2] /\ h73.lv 1 = [1,2,5] /\ h73.lv 2 = [1,2,5,6] /\ h73.lv 3 = [1,2,5,6,21] /\ h73.lv 4 = [4] /\ h73.lv 5 = [1,2,5,8] /\ h73.lv 6 = [1,2,5,8,29] /\ h73.lv 7 = [4] /\ h73.lv 8 = [1,2,5,44] /\ h73.lv 9 = [4] /\ h73.lv 10 = [1,2,5,9] /\ h73.lv 11 = [1,2,5,9,49] /\ h73.lv 12 = [1,2,5,9] /\ h73.lv 13 = [1,2,5,9,10] /\ h73.lv 14 = [1,2,5,9,10,54] /\ h73.lv 15 = [1,2,5,9,10] /\ h73.lv 16 = [1,2,5,9,10,11] /\ h73.lv 17 = [1,2,5,9,10,11,63] /\ h73.lv 18 = [1,2,5,9,10,11] /\ h73.lv 19 = [1,2,5,9,10,77] /\ h73.lv 20 = [4] /\ h73.lv 21 = [4]:=by decide +kernel
@[go_sem] def h73_q:=hplain h73 rfl rfl rfl
@[go_sem] theorem h73_t : h73.tk = [] /\ h73.mt = [] /\ h73.pc = [19,25,75]:=⟨rfl,rfl,rfl⟩
theorem h73_k : FK Tryz.prog 73 Tryz.f73 h73:=⟨by kernel_rfl,by kernel_rfl,Tryz.func73,by kernel_rfl⟩
def h133 : Hint:=hm [6,70,2118,70,2097222,48,48] [] [] []
@[go_sem] theorem h133_l : h133.lv 0 = [1,2] /\ h133.lv 1 = [1,2,6] /\ h133.lv 2 = [1,2,6,11] /\ h133.lv 3 = [1,2,6] /\ h133.lv 4 = [1,2,6,21] /\ h133.lv 5 = [4,5] /\ h133.lv 6 = [4,5]:=by decide +kernel
@[go_sem] def h133_q:=hplain h133 rfl rfl rfl
@[go_sem] theorem h133_t : h133.tk = [] /\ h133.mt = [] /\ h133.pc = []:=⟨rfl,rfl,rfl⟩
theorem h133_k : FK Tryz.prog 133 Tryz.f133 h133:=⟨by kernel_rfl,by kernel_rfl,Tryz.func133,by kernel_rfl⟩
def h134 : Hint:=hm [6,16] [] [] []
@[go_sem] theorem h134_l : h134.lv 0 = [1,2] /\ h134.lv 1 = [4]:=by decide +kernel
@[go_sem] def h134_q:=hplain h134 rfl rfl rfl
@[go_sem] theorem h134_t : h134.tk = [] /\ h134.mt = [] /\ h134.pc = []:=⟨rfl,rfl,rfl⟩
theorem h134_k : FK Tryz.prog 134 Tryz.f134 h134:=⟨by kernel_rfl,by kernel_rfl,Tryz.func134,by kernel_rfl⟩
def h74 : Hint:=hm [12,108,492,2147483820,16,684,1708,0x40000000000000c,16,2060,0x2000000000000080c,16,0x40000000000000000000000000000,16,16] [] [] [16,23,39,47,63]
@[go_sem] theorem h74_l : h74.lv 0 = [2,3] /\ h74.lv 1 = [2,3,5,6] /\ h74.lv 2 = [2,3,5,6,7,8] /\ h74.lv 3 = [2,3,5,7,31] /\ h74.lv 4 = [4] /\ h74.lv 5 = [2,3,5,7,9] /\ h74.lv 6 = [2,3,5,7,9,10] /\ h74.lv 7 = [2,3,58] /\ h74.lv 8 = [4] /\ h74.lv 9 = [2,3,11] /\ h74.lv 10 = [2,3,11,65] /\ h74.lv 11 = [4] /\ h74.lv 12 = [114] /\ h74.lv 13 = [4] /\ h74.lv 14 = [4]:=by decide +kernel
@[go_sem] def h74_q:=hplain h74 rfl rfl rfl
@[go_sem] theorem h74_t : h74.tk = [] /\ h74.mt = [] /\ h74.pc = [16,23,39,47,63]:=⟨rfl,rfl,rfl⟩
theorem h74_k : FK Tryz.prog 74 Tryz.f74 h74:=⟨by kernel_rfl,by kernel_rfl,Tryz.func74,by kernel_rfl⟩
def h75 : Hint:=hx [6,38,100,228,1048804,228,484,134218212,484,996,0x80000000000003e4,996,484,16] [67,71] [] [(13,[(4,none,false)])] [38] [] []
@[go_sem] theorem h75_l : h75.lv 0 = [1,2] /\ h75.lv 1 = [1,2,5] /\ h75.lv 2 = [2,5,6] /\ h75.lv 3 = [2,5,6,7] /\ h75.lv 4 = [2,5,6,7,20] /\ h75.lv 5 = [2,5,6,7] /\ h75.lv 6 = [2,5,6,7,8] /\ h75.lv 7 = [2,5,6,7,8,27] /\ h75.lv 8 = [2,5,6,7,8] /\ h75.lv 9 = [2,5,6,7,8,9] /\ h75.lv 10 = [2,5,6,7,8,9,63] /\ h75.lv 11 = [2,5,6,7,8,9] /\ h75.lv 12 = [2,5,6,7,8] /\ h75.lv 13 = [4]:=by decide +kernel
@[go_sem] theorem h75_g (k : Nat) : h75.ct k = none:=rfl
@[go_sem] theorem h75_z : h75.at 0 = [] /\ h75.at 1 = [] /\ h75.at 2 = [] /\ h75.at 3 = [] /\ h75.at 4 = [] /\ h75.at 5 = [] /\ h75.at 6 = [] /\ h75.at 7 = [] /\ h75.at 8 = [] /\ h75.at 9 = [] /\ h75.at 10 = [] /\ h75.at 11 = [] /\ h75.at 12 = [] /\ h75.at 13 = [(4,none,false)]:=by decide +kernel
@[go_sem] theorem h75_y (k : Nat) : h75.dn k = false:=Eq.trans rfl rfl
@[go_sem] theorem h75_t : h75.tk = [67,71] /\ h75.mt = [] /\ h75.pc = [38]:=⟨rfl,rfl,rfl⟩
theorem h75_k : FK Tryz.prog 75 Tryz.f75 h75:=⟨by kernel_rfl,by kernel_rfl,Tryz.func75,by kernel_rfl⟩
def h40 : Hint:=hm [2,18,8210,12,18,524306,12,1073741826,12,34,34359738402,34,50,4398046511154,12,66,562949953421378,66,82,0x1000000000000052,12,130,0x80000000000000082,130,386,0x10000000000000000082,12,12] [73] [] [11,17,40,58,72]
@[go_sem] theorem h40_l : h40.lv 0 = [1] /\ h40.lv 1 = [1,4] /\ h40.lv 2 = [1,4,13] /\ h40.lv 3 = [2,3] /\ h40.lv 4 = [1,4] /\ h40.lv 5 = [1,4,19] /\ h40.lv 6 = [2,3] /\ h40.lv 7 = [1,30] /\ h40.lv 8 = [2,3] /\ h40.lv 9 = [1,5] /\ h40.lv 10 = [1,5,35] /\ h40.lv 11 = [1,5] /\ h40.lv 12 = [1,4,5] /\ h40.lv 13 = [1,4,5,42] /\ h40.lv 14 = [2,3] /\ h40.lv 15 = [1,6] /\ h40.lv 16 = [1,6,49] /\ h40.lv 17 = [1,6] /\ h40.lv 18 = [1,4,6] /\ h40.lv 19 = [1,4,6,60] /\ h40.lv 20 = [2,3] /\ h40.lv 21 = [1,7] /\ h40.lv 22 = [1,7,67] /\ h40.lv 23 = [1,7] /\ h40.lv 24 = [1,7,8] /\ h40.lv 25 = [1,7,76] /\ h40.lv 26 = [2,3] /\ h40.lv 27 = [2,3]:=by decide +kernel
@[go_sem] def h40_q:=hplain h40 rfl rfl rfl
@[go_sem] theorem h40_t : h40.tk = [73] /\ h40.mt = [] /\ h40.pc = [11,17,40,58,72]:=⟨rfl,rfl,rfl⟩
theorem h40_k : FK Tryz.prog 40 Tryz.f40 h40:=⟨by kernel_rfl,by kernel_rfl,Tryz.func40,by kernel_rfl⟩
def h13 : Hint:=hm [2,10,514,4,32,4] [] [] [7,12]
@[go_sem] theorem h13_l : h13.lv 0 = [1] /\ h13.lv 1 = [1,3] /\ h13.lv 2 = [1,9] /\ h13.lv 3 = [2] /\ h13.lv 4 = [5] /\ h13.lv 5 = [2]:=by decide +kernel
@[go_sem] def h13_q:=hplain h13 rfl rfl rfl
@[go_sem] theorem h13_t : h13.tk = [] /\ h13.mt = [] /\ h13.pc = [7,12]:=⟨rfl,rfl,rfl⟩
theorem h13_k : FK Tryz.prog 13 Tryz.f13 h13:=⟨by kernel_rfl,by kernel_rfl,Tryz.func13,by kernel_rfl⟩
def h140 : Hint:=hm [3,35,547,35,262179,16,16] [] [] []
@[go_sem] theorem h140_l : h140.lv 0 = [0,1] /\ h140.lv 1 = [0,1,5] /\ h140.lv 2 = [0,1,5,9] /\ h140.lv 3 = [0,1,5] /\ h140.lv 4 = [0,1,5,18] /\ h140.lv 5 = [4] /\ h140.lv 6 = [4]:=by decide +kernel
@[go_sem] def h140_q:=hplain h140 rfl rfl rfl
@[go_sem] theorem h140_t : h140.tk = [] /\ h140.mt = [] /\ h140.pc = []:=⟨rfl,rfl,rfl⟩
theorem h140_k : FK Tryz.prog 140 Tryz.f140 h140:=⟨by kernel_rfl,by kernel_rfl,Tryz.func140,by kernel_rfl⟩
def h211 : Hint:=hm [1,9,25,153,25,25,4] [] [] []
@[go_sem] theorem h211_l : h211.lv 0 = [0] /\ h211.lv 1 = [0,3] /\ h211.lv 2 = [0,3,4] /\ h211.lv 3 = [0,3,4,7] /\ h211.lv 4 = [0,3,4] /\ h211.lv 5 = [0,3,4] /\ h211.lv 6 = [2]:=by decide +kernel
@[go_sem] def h211_q:=hplain h211 rfl rfl rfl
@[go_sem] theorem h211_t : h211.tk = [] /\ h211.mt = [] /\ h211.pc = []:=⟨rfl,rfl,rfl⟩
theorem h211_k : FK Tryz.prog 211 Tryz.f211 h211:=⟨by kernel_rfl,by kernel_rfl,Tryz.func211,by kernel_rfl⟩
def h141 : Hint:=hm [28,34359738396,64,156,1099511627932,156,0x400000000000009c,64,0x1000000000000001c,0x3000000000000001c,64,0x41000000000000001c,284,0x800000000000000011c,284,0x80000000000000000000011c,64,64,0x1000000000000000000000000018,64,64] [] [] [60]
@[go_sem] theorem h141_l : h141.lv 0 = [2,3,4] /\ h141.lv 1 = [2,3,4,35] /\ h141.lv 2 = [6] /\ h141.lv 3 = [2,3,4,7] /\ h141.lv 4 = [2,3,4,7,40] /\ h141.lv 5 = [2,3,4,7] /\ h141.lv 6 = [2,3,4,7,62] /\ h141.lv 7 = [6] /\ h141.lv 8 = [2,3,4,64] /\ h141.lv 9 = [2,3,4,64,65] /\ h141.lv 10 = [6] /\ h141.lv 11 = [2,3,4,64,70] /\ h141.lv 12 = [2,3,4,8] /\ h141.lv 13 = [2,3,4,8,75] /\ h141.lv 14 = [2,3,4,8] /\ h141.lv 15 = [2,3,4,8,95] /\ h141.lv 16 = [6] /\ h141.lv 17 = [6] /\ h141.lv 18 = [3,4,108] /\ h141.lv 19 = [6] /\ h141.lv 20 = [6]:=by decide +kernel
@[go_sem] def h141_q:=hplain h141 rfl rfl rfl
@[go_sem] theorem h141_t : h141.tk = [] /\ h141.mt = [] /\ h141.pc = [60]:=⟨rfl,rfl,rfl⟩
theorem h141_k : FK Tryz.prog 141 Tryz.f141 h141:=⟨by kernel_rfl,by kernel_rfl,Tryz.func141,by kernel_rfl⟩
def h61 : Hint:=hm [3,35,32803,35,67108899,16,34359738403,16,1099511627779,16,35184372088832,16,16] [41,43] [] []
@[go_sem] theorem h61_l : h61.lv 0 = [0,1] /\ h61.lv 1 = [0,1,5] /\ h61.lv 2 = [0,1,5,15] /\ h61.lv 3 = [0,1,5] /\ h61.lv 4 = [0,1,5,26] /\ h61.lv 5 = [4] /\ h61.lv 6 = [0,1,5,35] /\ h61.lv 7 = [4] /\ h61.lv 8 = [0,1,40] /\ h61.lv 9 = [4] /\ h61.lv 10 = [45] /\ h61.lv 11 = [4] /\ h61.lv 12 = [4]:=by decide +kernel
@[go_sem] def h61_q:=hplain h61 rfl rfl rfl
@[go_sem] theorem h61_t : h61.tk = [41,43] /\ h61.mt = [] /\ h61.pc = []:=⟨rfl,rfl,rfl⟩
theorem h61_k : FK Tryz.prog 61 Tryz.f61 h61:=⟨by kernel_rfl,by kernel_rfl,Tryz.func61,by kernel_rfl⟩
def h142 : Hint:=hm [12,524,16,16396,16,16] [] [] [19]
@[go_sem] theorem h142_l : h142.lv 0 = [2,3] /\ h142.lv 1 = [2,3,9] /\ h142.lv 2 = [4] /\ h142.lv 3 = [2,3,14] /\ h142.lv 4 = [4] /\ h142.lv 5 = [4]:=by decide +kernel
@[go_sem] def h142_q:=hplain h142 rfl rfl rfl
@[go_sem] theorem h142_t : h142.tk = [] /\ h142.mt = [] /\ h142.pc = [19]:=⟨rfl,rfl,rfl⟩
theorem h142_k : FK Tryz.prog 142 Tryz.f142 h142:=⟨by kernel_rfl,by kernel_rfl,Tryz.func142,by kernel_rfl⟩
def h143 : Hint:=hm [3,35,99,1123,99,524387,99,16] [] [] []
@[go_sem] theorem h143_l : h143.lv 0 = [0,1] /\ h143.lv 1 = [0,1,5] /\ h143.lv 2 = [0,1,5,6] /\ h143.lv 3 = [0,1,5,6,10] /\ h143.lv 4 = [0,1,5,6] /\ h143.lv 5 = [0,1,5,6,19] /\ h143.lv 6 = [0,1,5,6] /\ h143.lv 7 = [4]:=by decide +kernel
@[go_sem] def h143_q:=hplain h143 rfl rfl rfl
@[go_sem] theorem h143_t : h143.tk = [] /\ h143.mt = [] /\ h143.pc = []:=⟨rfl,rfl,rfl⟩
theorem h143_k : FK Tryz.prog 143 Tryz.f143 h143:=⟨by kernel_rfl,by kernel_rfl,Tryz.func143,by kernel_rfl⟩
def h144 : Hint:=hm [3,35,99,227,2275,227,8388835,163,227,8589934819,227,4398046511138,32,16] [24,34,43,47] [] []
@[go_sem] theorem h144_l : h144.lv 0 = [0,1] /\ h144.lv 1 = [0,1,5] /\ h144.lv 2 = [0,1,5,6] /\ h144.lv 3 = [0,1,5,6,7] /\ h144.lv 4 = [0,1,5,6,7,11] /\ h144.lv 5 = [0,1,5,6,7] /\ h144.lv 6 = [0,1,5,6,7,23] /\ h144.lv 7 = [0,1,5,7] /\ h144.lv 8 = [0,1,5,6,7] /\ h144.lv 9 = [0,1,5,6,7,33] /\ h144.lv 10 = [0,1,5,6,7] /\ h144.lv 11 = [1,5,42] /\ h144.lv 12 = [5] /\ h144.lv 13 = [4]:=by decide +kernel
@[go_sem] def h144_q:=hplain h144 rfl rfl rfl
@[go_sem] theorem h144_t : h144.tk = [24,34,43,47] /\ h144.mt = [] /\ h144.pc = []:=⟨rfl,rfl,rfl⟩
theorem h144_k : FK Tryz.prog 144 Tryz.f144 h144:=⟨by kernel_rfl,by kernel_rfl,Tryz.func144,by kernel_rfl⟩
def h15 : Hint:=hm [2,10,4] [] [] [6]
@[go_sem] theorem h15_l : h15.lv 0 = [1] /\ h15.lv 1 = [1,3] /\ h15.lv 2 = [2]:=by decide +kernel
@[go_sem] def h15_q:=hplain h15 rfl rfl rfl
@[go_sem] theorem h15_t : h15.tk = [] /\ h15.mt = [] /\ h15.pc = [6]:=⟨rfl,rfl,rfl⟩
theorem h15_k : FK Tryz.prog 15 Tryz.f15 h15:=⟨by kernel_rfl,by kernel_rfl,Tryz.func15,by kernel_rfl⟩
def h24 : Hint:=hm [6,1] [3] [] []
@[go_sem] theorem h24_l : h24.lv 0 = [1,2] /\ h24.lv 1 = [0]:=by decide +kernel
@[go_sem] def h24_q:=hplain h24 rfl rfl rfl
@[go_sem] theorem h24_t : h24.tk = [3] /\ h24.mt = [] /\ h24.pc = []:=⟨rfl,rfl,rfl⟩
theorem h24_k : FK Tryz.prog 24 Tryz.f24 h24:=⟨by kernel_rfl,by kernel_rfl,Tryz.func24,by kernel_rfl⟩
def h302 : Hint:=hm [1,17,4,4] [6] [5,7] []
@[go_sem] theorem h302_l : h302.lv 0 = [0] /\ h302.lv 1 = [0,4] /\ h302.lv 2 = [2] /\ h302.lv 3 = [2]:=by decide +kernel
@[go_sem] def h302_q:=hplain h302 rfl rfl rfl
@[go_sem] theorem h302_t : h302.tk = [6] /\ h302.mt = [5,7] /\ h302.pc = []:=⟨rfl,rfl,rfl⟩
theorem h302_k : FK Tryz.prog 302 Tryz.f302 h302:=⟨by kernel_rfl,by kernel_rfl,Tryz.func302,by kernel_rfl⟩
def h189 : Hint:=hm [3,387,899,419,65955,16,387,16] [] [] []
@[go_sem] theorem h189_l : h189.lv 0 = [0,1] /\ h189.lv 1 = [0,1,7,8] /\ h189.lv 2 = [0,1,7,8,9] /\ h189.lv 3 = [0,1,5,7,8] /\ h189.lv 4 = [0,1,5,7,8,16] /\ h189.lv 5 = [4] /\ h189.lv 6 = [0,1,7,8] /\ h189.lv 7 = [4]:=by decide +kernel
@[go_sem] def h189_q:=hplain h189 rfl rfl rfl
@[go_sem] theorem h189_t : h189.tk = [] /\ h189.mt = [] /\ h189.pc = []:=⟨rfl,rfl,rfl⟩
theorem h189_k : FK Tryz.prog 189 Tryz.f189 h189:=⟨by kernel_rfl,by kernel_rfl,Tryz.func189,by kernel_rfl⟩
def h304 : Hint:=hm [3,35,4131,16,99,524387,99,227,536871139,99,99,33,16] [13,39] [] []
@[go_sem] theorem h304_l : h304.lv 0 = [0,1] /\ h304.lv 1 = [0,1,5] /\ h304.lv 2 = [0,1,5,12] /\ h304.lv 3 = [4] /\ h304.lv 4 = [0,1,5,6] /\ h304.lv 5 = [0,1,5,6,19] /\ h304.lv 6 = [0,1,5,6] /\ h304.lv 7 = [0,1,5,6,7] /\ h304.lv 8 = [0,1,5,6,7,29] /\ h304.lv 9 = [0,1,5,6] /\ h304.lv 10 = [0,1,5,6] /\ h304.lv 11 = [0,5] /\ h304.lv 12 = [4]:=by decide +kernel
@[go_sem] def h304_q:=hplain h304 rfl rfl rfl
@[go_sem] theorem h304_t : h304.tk = [13,39] /\ h304.mt = [] /\ h304.pc = []:=⟨rfl,rfl,rfl⟩
theorem h304_k : FK Tryz.prog 304 Tryz.f304 h304:=⟨by kernel_rfl,by kernel_rfl,Tryz.func304,by kernel_rfl⟩
def h305 : Hint:=hm [6,8] [] [] []
@[go_sem] theorem h305_l : h305.lv 0 = [1,2] /\ h305.lv 1 = [3]:=by decide +kernel
@[go_sem] def h305_q:=hplain h305 rfl rfl rfl
@[go_sem] theorem h305_t : h305.tk = [] /\ h305.mt = [] /\ h305.pc = []:=⟨rfl,rfl,rfl⟩
theorem h305_k : FK Tryz.prog 305 Tryz.f305 h305:=⟨by kernel_rfl,by kernel_rfl,Tryz.func305,by kernel_rfl⟩
def h254 : Hint:=hm [9,16] [5] [] []
@[go_sem] theorem h254_l : h254.lv 0 = [0,3] /\ h254.lv 1 = [4]:=by decide +kernel
@[go_sem] def h254_q:=hplain h254 rfl rfl rfl
@[go_sem] theorem h254_t : h254.tk = [5] /\ h254.mt = [] /\ h254.pc = []:=⟨rfl,rfl,rfl⟩
theorem h254_k : FK Tryz.prog 254 Tryz.f254 h254:=⟨by kernel_rfl,by kernel_rfl,Tryz.func254,by kernel_rfl⟩
def h255 : Hint:=hm [6,8] [] [] []
@[go_sem] theorem h255_l : h255.lv 0 = [1,2] /\ h255.lv 1 = [3]:=by decide +kernel
@[go_sem] def h255_q:=hplain h255 rfl rfl rfl
@[go_sem] theorem h255_t : h255.tk = [] /\ h255.mt = [] /\ h255.pc = []:=⟨rfl,rfl,rfl⟩
theorem h255_k : FK Tryz.prog 255 Tryz.f255 h255:=⟨by kernel_rfl,by kernel_rfl,Tryz.func255,by kernel_rfl⟩
def h188 : Hint:=hm [9,16] [5] [] []
@[go_sem] theorem h188_l : h188.lv 0 = [0,3] /\ h188.lv 1 = [4]:=by decide +kernel
@[go_sem] def h188_q:=hplain h188 rfl rfl rfl
@[go_sem] theorem h188_t : h188.tk = [5] /\ h188.mt = [] /\ h188.pc = []:=⟨rfl,rfl,rfl⟩
theorem h188_k : FK Tryz.prog 188 Tryz.f188 h188:=⟨by kernel_rfl,by kernel_rfl,Tryz.func188,by kernel_rfl⟩
def h64 : Hint:=hm [1,9,456,968,488,16872,4,456,4] [6] [] []
@[go_sem] theorem h64_l : h64.lv 0 = [0] /\ h64.lv 1 = [0,3] /\ h64.lv 2 = [3,6,7,8] /\ h64.lv 3 = [3,6,7,8,9] /\ h64.lv 4 = [3,5,6,7,8] /\ h64.lv 5 = [3,5,6,7,8,14] /\ h64.lv 6 = [2] /\ h64.lv 7 = [3,6,7,8] /\ h64.lv 8 = [2]:=by decide +kernel
@[go_sem] def h64_q:=hplain h64 rfl rfl rfl
@[go_sem] theorem h64_t : h64.tk = [6] /\ h64.mt = [] /\ h64.pc = []:=⟨rfl,rfl,rfl⟩
theorem h64_k : FK Tryz.prog 64 Tryz.f64 h64:=⟨by kernel_rfl,by kernel_rfl,Tryz.func64,by kernel_rfl⟩
def h65 : Hint:=hm [3,35,99,2115,4096,16,16,8195,16,65539,16,524288,16,16] [] [] [8,10]
@[go_sem] theorem h65_l : h65.lv 0 = [0,1] /\ h65.lv 1 = [0,1,5] /\ h65.lv 2 = [0,1,5,6] /\ h65.lv 3 = [0,1,6,11] /\ h65.lv 4 = [12] /\ h65.lv 5 = [4] /\ h65.lv 6 = [4] /\ h65.lv 7 = [0,1,13] /\ h65.lv 8 = [4] /\ h65.lv 9 = [0,1,16] /\ h65.lv 10 = [4] /\ h65.lv 11 = [19] /\ h65.lv 12 = [4] /\ h65.lv 13 = [4]:=by decide +kernel
@[go_sem] def h65_q:=hplain h65 rfl rfl rfl
@[go_sem] theorem h65_t : h65.tk = [] /\ h65.mt = [] /\ h65.pc = [8,10]:=⟨rfl,rfl,rfl⟩
theorem h65_k : FK Tryz.prog 65 Tryz.f65 h65:=⟨by kernel_rfl,by kernel_rfl,Tryz.func65,by kernel_rfl⟩
def h37 : Hint:=hm [12,16] [] [] [9,14,16]
@[go_sem] theorem h37_l : h37.lv 0 = [2,3] /\ h37.lv 1 = [4]:=by decide +kernel
@[go_sem] def h37_q:=hplain h37 rfl rfl rfl
@[go_sem] theorem h37_t : h37.tk = [] /\ h37.mt = [] /\ h37.pc = [9,14,16]:=⟨rfl,rfl,rfl⟩
theorem h37_k : FK Tryz.prog 37 Tryz.f37 h37:=⟨by kernel_rfl,by kernel_rfl,Tryz.func37,by kernel_rfl⟩
def h256 : Hint:=hm [21,277,1813,132885,3861,2147487509,1813,1813,192] [41] [] [30,46]
@[go_sem] theorem h256_l : h256.lv 0 = [0,2,4] /\ h256.lv 1 = [0,2,4,8] /\ h256.lv 2 = [0,2,4,8,9,10] /\ h256.lv 3 = [0,2,4,8,9,10,17] /\ h256.lv 4 = [0,2,4,8,9,10,11] /\ h256.lv 5 = [0,2,4,8,9,10,11,31] /\ h256.lv 6 = [0,2,4,8,9,10] /\ h256.lv 7 = [0,2,4,8,9,10] /\ h256.lv 8 = [6,7]:=by decide +kernel
@[go_sem] def h256_q:=hplain h256 rfl rfl rfl
@[go_sem] theorem h256_t : h256.tk = [41] /\ h256.mt = [] /\ h256.pc = [30,46]:=⟨rfl,rfl,rfl⟩
theorem h256_k : FK Tryz.prog 256 Tryz.f256 h256:=⟨by kernel_rfl,by kernel_rfl,Tryz.func256,by kernel_rfl⟩
def h191 : Hint:=hm [21,192] [8] [] [11]
@[go_sem] theorem h191_l : h191.lv 0 = [0,2,4] /\ h191.lv 1 = [6,7]:=by decide +kernel
@[go_sem] def h191_q:=hplain h191 rfl rfl rfl
@[go_sem] theorem h191_t : h191.tk = [8] /\ h191.mt = [] /\ h191.pc = [11]:=⟨rfl,rfl,rfl⟩
theorem h191_k : FK Tryz.prog 191 Tryz.f191 h191:=⟨by kernel_rfl,by kernel_rfl,Tryz.func191,by kernel_rfl⟩
def h303 : Hint:=hm [7,7,135,65671,64,391,4194695,64,2147484039,647,643,512,64,391,0x100000000000000187,7,1,64,131,1,64] [17,23,24,44,51,55,56,81,83,87,94] [25,40,67] [67,93]
@[go_sem] theorem h303_l : h303.lv 0 = [0,1,2] /\ h303.lv 1 = [0,1,2] /\ h303.lv 2 = [0,1,2,7] /\ h303.lv 3 = [0,1,2,7,16] /\ h303.lv 4 = [6] /\ h303.lv 5 = [0,1,2,7,8] /\ h303.lv 6 = [0,1,2,7,8,22] /\ h303.lv 7 = [6] /\ h303.lv 8 = [0,1,2,7,8,31] /\ h303.lv 9 = [0,1,2,7,9] /\ h303.lv 10 = [0,1,7,9] /\ h303.lv 11 = [9] /\ h303.lv 12 = [6] /\ h303.lv 13 = [0,1,2,7,8] /\ h303.lv 14 = [0,1,2,7,8,68] /\ h303.lv 15 = [0,1,2] /\ h303.lv 16 = [0] /\ h303.lv 17 = [6] /\ h303.lv 18 = [0,1,7] /\ h303.lv 19 = [0] /\ h303.lv 20 = [6]:=by decide +kernel
@[go_sem] def h303_q:=hplain h303 rfl rfl rfl
@[go_sem] theorem h303_t : h303.tk = [17,23,24,44,51,55,56,81,83,87,94] /\ h303.mt = [25,40,67] /\ h303.pc = [67,93]:=⟨rfl,rfl,rfl⟩
theorem h303_k : FK Tryz.prog 303 Tryz.f303 h303:=⟨by kernel_rfl,by kernel_rfl,Tryz.func303,by kernel_rfl⟩
def h253 : Hint:=hm [9,105,232,65704,128,16,16] [14,21,22] [25] [11]
@[go_sem] theorem h253_l : h253.lv 0 = [0,3] /\ h253.lv 1 = [0,3,5,6] /\ h253.lv 2 = [3,5,6,7] /\ h253.lv 3 = [3,5,7,16] /\ h253.lv 4 = [7] /\ h253.lv 5 = [4] /\ h253.lv 6 = [4]:=by decide +kernel
@[go_sem] def h253_q:=hplain h253 rfl rfl rfl
@[go_sem] theorem h253_t : h253.tk = [14,21,22] /\ h253.mt = [25] /\ h253.pc = [11]:=⟨rfl,rfl,rfl⟩
theorem h253_k : FK Tryz.prog 253 Tryz.f253 h253:=⟨by kernel_rfl,by kernel_rfl,Tryz.func253,by kernel_rfl⟩
def h186 : Hint:=hm [1,2097153,4,1,4] [] [] [18,31]
@[go_sem] theorem h186_l : h186.lv 0 = [0] /\ h186.lv 1 = [0,21] /\ h186.lv 2 = [2] /\ h186.lv 3 = [0] /\ h186.lv 4 = [2]:=by decide +kernel
@[go_sem] def h186_q:=hplain h186 rfl rfl rfl
@[go_sem] theorem h186_t : h186.tk = [] /\ h186.mt = [] /\ h186.pc = [18,31]:=⟨rfl,rfl,rfl⟩
theorem h186_k : FK Tryz.prog 186 Tryz.f186 h186:=⟨by kernel_rfl,by kernel_rfl,Tryz.func186,by kernel_rfl⟩
def h187 : Hint:=hm [197,131141,1] [] [] [14,26,28]
@[go_sem] theorem h187_l : h187.lv 0 = [0,2,6,7] /\ h187.lv 1 = [0,2,6,17] /\ h187.lv 2 = [0]:=by decide +kernel
@[go_sem] def h187_q:=hplain h187 rfl rfl rfl
@[go_sem] theorem h187_t : h187.tk = [] /\ h187.mt = [] /\ h187.pc = [14,26,28]:=⟨rfl,rfl,rfl⟩
theorem h187_k : FK Tryz.prog 187 Tryz.f187 h187:=⟨by kernel_rfl,by kernel_rfl,Tryz.func187,by kernel_rfl⟩
def h109 : Hint:=hm [1,4] [] [] []
@[go_sem] theorem h109_l : h109.lv 0 = [0] /\ h109.lv 1 = [2]:=by decide +kernel
@[go_sem] def h109_q:=hplain h109 rfl rfl rfl
@[go_sem] theorem h109_t : h109.tk = [] /\ h109.mt = [] /\ h109.pc = []:=⟨rfl,rfl,rfl⟩
theorem h109_k : FK Tryz.prog 109 Tryz.f109 h109:=⟨by kernel_rfl,by kernel_rfl,Tryz.func109,by kernel_rfl⟩
def h190 : Hint:=hm [14,16] [] [] []
@[go_sem] theorem h190_l : h190.lv 0 = [1,2,3] /\ h190.lv 1 = [4]:=by decide +kernel
@[go_sem] def h190_q:=hplain h190 rfl rfl rfl
@[go_sem] theorem h190_t : h190.tk = [] /\ h190.mt = [] /\ h190.pc = []:=⟨rfl,rfl,rfl⟩
theorem h190_k : FK Tryz.prog 190 Tryz.f190 h190:=⟨by kernel_rfl,by kernel_rfl,Tryz.func190,by kernel_rfl⟩
def h113 : Hint:=hm [35,291,57633,123169,58657,63777,67168545,192,57633,57633,192] [13,27,34] [] [22,30]
@[go_sem] theorem h113_l : h113.lv 0 = [0,1,5] /\ h113.lv 1 = [0,1,5,8] /\ h113.lv 2 = [0,5,8,13,14,15] /\ h113.lv 3 = [0,5,8,13,14,15,16] /\ h113.lv 4 = [0,5,8,10,13,14,15] /\ h113.lv 5 = [0,5,8,11,12,13,14,15] /\ h113.lv 6 = [0,5,8,11,13,14,15,26] /\ h113.lv 7 = [6,7] /\ h113.lv 8 = [0,5,8,13,14,15] /\ h113.lv 9 = [0,5,8,13,14,15] /\ h113.lv 10 = [6,7]:=by decide +kernel
@[go_sem] def h113_q:=hplain h113 rfl rfl rfl
@[go_sem] theorem h113_t : h113.tk = [13,27,34] /\ h113.mt = [] /\ h113.pc = [22,30]:=⟨rfl,rfl,rfl⟩
theorem h113_k : FK Tryz.prog 113 Tryz.f113 h113:=⟨by kernel_rfl,by kernel_rfl,Tryz.func113,by kernel_rfl⟩
def h114 : Hint:=hm [71,833,524609,192,192] [13,21] [] [15]
@[go_sem] theorem h114_l : h114.lv 0 = [0,1,2,6] /\ h114.lv 1 = [0,6,8,9] /\ h114.lv 2 = [0,6,8,19] /\ h114.lv 3 = [6,7] /\ h114.lv 4 = [6,7]:=by decide +kernel
@[go_sem] def h114_q:=hplain h114 rfl rfl rfl
@[go_sem] theorem h114_t : h114.tk = [13,21] /\ h114.mt = [] /\ h114.pc = [15]:=⟨rfl,rfl,rfl⟩
theorem h114_k : FK Tryz.prog 114 Tryz.f114 h114:=⟨by kernel_rfl,by kernel_rfl,Tryz.func114,by kernel_rfl⟩
def h54 : Hint:=hx [1365,525653,7168,9557,25941,91460,91456,72057594038019392,75072,0x400000000000010500,7168,7168] [21,31,41,60] [] [] [28,45] [] [10,11]
@[go_sem] theorem h54_l : h54.lv 0 = [0,2,4,6,8,10] /\ h54.lv 1 = [0,2,4,6,8,10,19] /\ h54.lv 2 = [10,11,12] /\ h54.lv 3 = [0,2,4,6,8,10,13] /\ h54.lv 4 = [0,2,4,6,8,10,13,14] /\ h54.lv 5 = [2,6,8,10,13,14,16] /\ h54.lv 6 = [6,8,10,13,14,16] /\ h54.lv 7 = [6,8,10,13,14,16,56] /\ h54.lv 8 = [6,8,10,13,16] /\ h54.lv 9 = [8,10,16,70] /\ h54.lv 10 = [10,11,12] /\ h54.lv 11 = [10,11,12]:=by decide +kernel
@[go_sem] theorem h54_g (k : Nat) : h54.ct k = none:=rfl
@[go_sem] theorem h54_z (k : Nat) : h54.at k = []:=rfl
@[go_sem] theorem h54_y : h54.dn 0 = false /\ h54.dn 1 = false /\ h54.dn 2 = false /\ h54.dn 3 = false /\ h54.dn 4 = false /\ h54.dn 5 = false /\ h54.dn 6 = false /\ h54.dn 7 = false /\ h54.dn 8 = false /\ h54.dn 9 = false /\ h54.dn 10 = true /\ h54.dn 11 = true:=by decide +kernel
@[go_sem] theorem h54_t : h54.tk = [21,31,41,60] /\ h54.mt = [] /\ h54.pc = [28,45]:=⟨rfl,rfl,rfl⟩
theorem h54_k : FK Tryz.prog 54 Tryz.f54 h54:=⟨by kernel_rfl,by kernel_rfl,Tryz.func54,by kernel_rfl⟩
def h28 : Hint:=hm [279,24599,1879072789,4026556437,1879138325,1879269397,122138345493,259577298965,122138869781,122141491221,122140442645,0x400001c70034015,7168,122138345493,1879269397,0xe000000070016015,0x1e000000070016015,0xe000000070816015,0xe000000070816015,0xe000000071816015,0x4000e000000070816015,0xe000000070016015,0xe000000070016015,1879072789,7168] [28,34,49,50,59,61,71,79,85,86] [] [46,74]
@[go_sem] theorem h28_l : h28.lv 0 = [0,1,2,4,8] /\ h28.lv 1 = [0,1,2,4,13,14] /\ h28.lv 2 = [0,2,4,13,14,28,29,30] /\ h28.lv 3 = [0,2,4,13,14,28,29,30,31] /\ h28.lv 4 = [0,2,4,13,14,16,28,29,30] /\ h28.lv 5 = [0,2,4,13,14,16,17,28,29,30] /\ h28.lv 6 = [0,2,4,14,16,17,28,29,30,34,35,36] /\ h28.lv 7 = [0,2,4,14,16,17,28,29,30,34,35,36,37] /\ h28.lv 8 = [0,2,4,14,16,17,19,28,29,30,34,35,36] /\ h28.lv 9 = [0,2,4,14,16,17,20,21,28,29,30,34,35,36] /\ h28.lv 10 = [0,2,4,14,16,17,21,28,29,30,34,35,36] /\ h28.lv 11 = [0,2,4,14,16,17,28,29,30,34,35,36,58] /\ h28.lv 12 = [10,11,12] /\ h28.lv 13 = [0,2,4,14,16,17,28,29,30,34,35,36] /\ h28.lv 14 = [0,2,4,13,14,16,17,28,29,30] /\ h28.lv 15 = [0,2,4,13,14,16,28,29,30,61,62,63] /\ h28.lv 16 = [0,2,4,13,14,16,28,29,30,61,62,63,64] /\ h28.lv 17 = [0,2,4,13,14,16,23,28,29,30,61,62,63] /\ h28.lv 18 = [0,2,4,13,14,16,23,28,29,30,61,62,63] /\ h28.lv 19 = [0,2,4,13,14,16,23,24,28,29,30,61,62,63] /\ h28.lv 20 = [0,2,4,13,14,16,23,28,29,30,61,62,63,78] /\ h28.lv 21 = [0,2,4,13,14,16,28,29,30,61,62,63] /\ h28.lv 22 = [0,2,4,13,14,16,28,29,30,61,62,63] /\ h28.lv 23 = [0,2,4,13,14,28,29,30] /\ h28.lv 24 = [10,11,12]:=by decide +kernel
@[go_sem] def h28_q:=hplain h28 rfl rfl rfl
@[go_sem] theorem h28_t : h28.tk = [28,34,49,50,59,61,71,79,85,86] /\ h28.mt = [] /\ h28.pc = [46,74]:=⟨rfl,rfl,rfl⟩
theorem h28_k : FK Tryz.prog 28 Tryz.f28 h28:=⟨by kernel_rfl,by kernel_rfl,Tryz.func28,by kernel_rfl⟩
def h56 : Hint:=hm [3,387,899,419,65955,16,387,16] [] [] []
@[go_sem] theorem h56_l : h56.lv 0 = [0,1] /\ h56.lv 1 = [0,1,7,8] /\ h56.lv 2 = [0,1,7,8,9] /\ h56.lv 3 = [0,1,5,7,8] /\ h56.lv 4 = [0,1,5,7,8,16] /\ h56.lv 5 = [4] /\ h56.lv 6 = [0,1,7,8] /\ h56.lv 7 = [4]:=by decide +kernel
@[go_sem] def h56_q:=hplain h56 rfl rfl rfl
@[go_sem] theorem h56_t : h56.tk = [] /\ h56.mt = [] /\ h56.pc = []:=⟨rfl,rfl,rfl⟩
theorem h56_k : FK Tryz.prog 56 Tryz.f56 h56:=⟨by kernel_rfl,by kernel_rfl,Tryz.func56,by kernel_rfl⟩
def h58 : Hint:=hx [105,256] [9] [11,17] [] [17] [] [2006,2007]
@[go_sem] theorem h58_l : h58.lv 0 = [0,3,5,6] /\ h58.lv 1 = [8]:=by decide +kernel
@[go_sem] theorem h58_g (k : Nat) : h58.ct k = none:=rfl
@[go_sem] theorem h58_z (k : Nat) : h58.at k = []:=rfl
@[go_sem] theorem h58_y : h58.dn 0 = false /\ h58.dn 1 = true:=by decide +kernel
@[go_sem] theorem h58_t : h58.tk = [9] /\ h58.mt = [11,17] /\ h58.pc = [17]:=⟨rfl,rfl,rfl⟩
theorem h58_k : FK Tryz.prog 58 Tryz.f58 h58:=⟨by kernel_rfl,by kernel_rfl,Tryz.func58,by kernel_rfl⟩
def h57 : Hint:=hm [62,64] [] [] [30]
@[go_sem] theorem h57_l : h57.lv 0 = [1,2,3,4,5] /\ h57.lv 1 = [6]:=by decide +kernel
@[go_sem] def h57_q:=hplain h57 rfl rfl rfl
@[go_sem] theorem h57_t : h57.tk = [] /\ h57.mt = [] /\ h57.pc = [30]:=⟨rfl,rfl,rfl⟩
theorem h57_k : FK Tryz.prog 57 Tryz.f57 h57:=⟨by kernel_rfl,by kernel_rfl,Tryz.func57,by kernel_rfl⟩
def h30 : Hint:=hm [240,256] [] [] []
@[go_sem] theorem h30_l : h30.lv 0 = [4,5,6,7] /\ h30.lv 1 = [8]:=by decide +kernel
@[go_sem] def h30_q:=hplain h30 rfl rfl rfl
@[go_sem] theorem h30_t : h30.tk = [] /\ h30.mt = [] /\ h30.pc = []:=⟨rfl,rfl,rfl⟩
theorem h30_k : FK Tryz.prog 30 Tryz.f30 h30:=⟨by kernel_rfl,by kernel_rfl,Tryz.func30,by kernel_rfl⟩
def h31 : Hint:=hm [1,17,4,4] [6] [] []
@[go_sem] theorem h31_l : h31.lv 0 = [0] /\ h31.lv 1 = [0,4] /\ h31.lv 2 = [2] /\ h31.lv 3 = [2]:=by decide +kernel
@[go_sem] def h31_q:=hplain h31 rfl rfl rfl
@[go_sem] theorem h31_t : h31.tk = [6] /\ h31.mt = [] /\ h31.pc = []:=⟨rfl,rfl,rfl⟩
theorem h31_k : FK Tryz.prog 31 Tryz.f31 h31:=⟨by kernel_rfl,by kernel_rfl,Tryz.func31,by kernel_rfl⟩
def h59 : Hint:=hm [3,387,899,419,65955,16,387,16] [] [] []
@[go_sem] theorem h59_l : h59.lv 0 = [0,1] /\ h59.lv 1 = [0,1,7,8] /\ h59.lv 2 = [0,1,7,8,9] /\ h59.lv 3 = [0,1,5,7,8] /\ h59.lv 4 = [0,1,5,7,8,16] /\ h59.lv 5 = [4] /\ h59.lv 6 = [0,1,7,8] /\ h59.lv 7 = [4]:=by decide +kernel
@[go_sem] def h59_q:=hplain h59 rfl rfl rfl
@[go_sem] theorem h59_t : h59.tk = [] /\ h59.mt = [] /\ h59.pc = []:=⟨rfl,rfl,rfl⟩
theorem h59_k : FK Tryz.prog 59 Tryz.f59 h59:=⟨by kernel_rfl,by kernel_rfl,Tryz.func59,by kernel_rfl⟩
def h60 : Hint:=hm [6,8] [] [] []
@[go_sem] theorem h60_l : h60.lv 0 = [1,2] /\ h60.lv 1 = [3]:=by decide +kernel
@[go_sem] def h60_q:=hplain h60 rfl rfl rfl
@[go_sem] theorem h60_t : h60.tk = [] /\ h60.mt = [] /\ h60.pc = []:=⟨rfl,rfl,rfl⟩
theorem h60_k : FK Tryz.prog 60 Tryz.f60 h60:=⟨by kernel_rfl,by kernel_rfl,Tryz.func60,by kernel_rfl⟩
def h32 : Hint:=hm [12,64,48] [] [] []
@[go_sem] theorem h32_l : h32.lv 0 = [2,3] /\ h32.lv 1 = [6] /\ h32.lv 2 = [4,5]:=by decide +kernel
@[go_sem] def h32_q:=hplain h32 rfl rfl rfl
@[go_sem] theorem h32_t : h32.tk = [] /\ h32.mt = [] /\ h32.pc = []:=⟨rfl,rfl,rfl⟩
theorem h32_k : FK Tryz.prog 32 Tryz.f32 h32:=⟨by kernel_rfl,by kernel_rfl,Tryz.func32,by kernel_rfl⟩
def h63 : Hint:=hm [63,32827,256,14680115,31457331,14681651,68734158387,14682675,72057594052608051,256,14680115,256] [17] [] [18,41]
@[go_sem] theorem h63_l : h63.lv 0 = [0,1,2,3,4,5] /\ h63.lv 1 = [0,1,3,4,5,15] /\ h63.lv 2 = [8] /\ h63.lv 3 = [0,1,4,5,21,22,23] /\ h63.lv 4 = [0,1,4,5,21,22,23,24] /\ h63.lv 5 = [0,1,4,5,9,10,21,22,23] /\ h63.lv 6 = [0,1,4,5,9,10,21,22,23,36] /\ h63.lv 7 = [0,1,4,5,9,11,21,22,23] /\ h63.lv 8 = [0,1,4,5,21,22,23,56] /\ h63.lv 9 = [8] /\ h63.lv 10 = [0,1,4,5,21,22,23] /\ h63.lv 11 = [8]:=by decide +kernel
@[go_sem] def h63_q:=hplain h63 rfl rfl rfl
@[go_sem] theorem h63_t : h63.tk = [17] /\ h63.mt = [] /\ h63.pc = [18,41]:=⟨rfl,rfl,rfl⟩
theorem h63_k : FK Tryz.prog 63 Tryz.f63 h63:=⟨by kernel_rfl,by kernel_rfl,Tryz.func63,by kernel_rfl⟩
def h62 : Hint:=hm [30,62,40,1] [] [] []
@[go_sem] theorem h62_l : h62.lv 0 = [1,2,3,4] /\ h62.lv 1 = [1,2,3,4,5] /\ h62.lv 2 = [3,5] /\ h62.lv 3 = [0]:=by decide +kernel
@[go_sem] def h62_q:=hplain h62 rfl rfl rfl
@[go_sem] theorem h62_t : h62.tk = [] /\ h62.mt = [] /\ h62.pc = []:=⟨rfl,rfl,rfl⟩
theorem h62_k : FK Tryz.prog 62 Tryz.f62 h62:=⟨by kernel_rfl,by kernel_rfl,Tryz.func62,by kernel_rfl⟩
def h34 : Hint:=hm [56,64] [] [] []
@[go_sem] theorem h34_l : h34.lv 0 = [3,4,5] /\ h34.lv 1 = [6]:=by decide +kernel
@[go_sem] def h34_q:=hplain h34 rfl rfl rfl
theorem h34_k : FK Tryz.prog 34 Tryz.f34 h34:=⟨by kernel_rfl,by kernel_rfl,Tryz.func34,by kernel_rfl⟩
def h9 : Hint:=hm [206,462,8640,960,448,2097344,1,192] [15,16] [] []
@[go_sem] theorem h9_l : h9.lv 0 = [1,2,3,6,7] /\ h9.lv 1 = [1,2,3,6,7,8] /\ h9.lv 2 = [6,7,8,13] /\ h9.lv 3 = [6,7,8,9] /\ h9.lv 4 = [6,7,8] /\ h9.lv 5 = [6,7,21] /\ h9.lv 6 = [0] /\ h9.lv 7 = [6,7]:=by decide +kernel
@[go_sem] def h9_q:=hplain h9 rfl rfl rfl
@[go_sem] theorem h9_t : h9.tk = [15,16] /\ h9.mt = [] /\ h9.pc = []:=⟨rfl,rfl,rfl⟩
theorem h9_k : FK Tryz.prog 9 Tryz.f9 h9:=⟨by kernel_rfl,by kernel_rfl,Tryz.func9,by kernel_rfl⟩
def h11 : Hint:=hm [3,1027,16,35,16419,35,33554467,16,16] [] [] []
@[go_sem] theorem h11_l : h11.lv 0 = [0,1] /\ h11.lv 1 = [0,1,10] /\ h11.lv 2 = [4] /\ h11.lv 3 = [0,1,5] /\ h11.lv 4 = [0,1,5,14] /\ h11.lv 5 = [0,1,5] /\ h11.lv 6 = [0,1,5,25] /\ h11.lv 7 = [4] /\ h11.lv 8 = [4]:=by decide +kernel
@[go_sem] def h11_q:=hplain h11 rfl rfl rfl
@[go_sem] theorem h11_t : h11.tk = [] /\ h11.mt = [] /\ h11.pc = []:=⟨rfl,rfl,rfl⟩
theorem h11_k : FK Tryz.prog 11 Tryz.f11 h11:=⟨by kernel_rfl,by kernel_rfl,Tryz.func11,by kernel_rfl⟩
def h12 : Hint:=hx [6,7170,15362,7362,7490,2104642,48,7170,48] [] [] [] [19] [(7,1)] []
@[go_sem] theorem h12_l : h12.lv 0 = [1,2] /\ h12.lv 1 = [1,10,11,12] /\ h12.lv 2 = [1,10,11,12,13] /\ h12.lv 3 = [1,6,7,10,11,12] /\ h12.lv 4 = [1,6,8,10,11,12] /\ h12.lv 5 = [1,6,8,10,11,12,21] /\ h12.lv 6 = [4,5] /\ h12.lv 7 = [1,10,11,12] /\ h12.lv 8 = [4,5]:=by decide +kernel
@[go_sem] theorem h12_g : h12.ct 0 = none /\ h12.ct 1 = none /\ h12.ct 2 = none /\ h12.ct 3 = none /\ h12.ct 4 = none /\ h12.ct 5 = none /\ h12.ct 6 = none /\ h12.ct 7 = some 1 /\ h12.ct 8 = none:=by decide +kernel
@[go_sem] theorem h12_z (k : Nat) : h12.at k = []:=rfl
@[go_sem] theorem h12_y (k : Nat) : h12.dn k = false:=Eq.trans rfl rfl
@[go_sem] theorem h12_t : h12.tk = [] /\ h12.mt = [] /\ h12.pc = [19]:=⟨rfl,rfl,rfl⟩
theorem h12_k : FK Tryz.prog 12 Tryz.f12 h12:=⟨by kernel_rfl,by kernel_rfl,Tryz.func12,by kernel_rfl⟩
def h5 : Hint:=hx [1,2,6,6,30,122,506,4090,24570,122874,516090,2088954,0x800000000000000000000000000a9202,1,2789890,6984194,15372802,1] [124,137,138,141,142,146,152,157] [31] [(1,[(1,some 5,true)]),(3,[(2,some 5,true)])] [51,60] [] []
@[go_sem] theorem h5_l : h5.lv 0 = [0] /\ h5.lv 1 = [1] /\ h5.lv 2 = [1,2] /\ h5.lv 3 = [1,2] /\ h5.lv 4 = [1,2,3,4] /\ h5.lv 5 = [1,3,4,5,6] /\ h5.lv 6 = [1,3,4,5,6,7,8] /\ h5.lv 7 = [1,3,4,5,6,7,8,9,10,11] /\ h5.lv 8 = [1,3,4,5,6,7,8,9,10,11,12,14] /\ h5.lv 9 = [1,3,4,5,6,7,8,9,10,11,12,14,15,16] /\ h5.lv 10 = [1,3,4,5,6,7,8,9,10,11,12,14,15,16,17,18] /\ h5.lv 11 = [1,3,4,5,6,7,8,9,10,11,12,14,15,16,17,18,19,20] /\ h5.lv 12 = [1,9,12,15,17,19,127] /\ h5.lv 13 = [0] /\ h5.lv 14 = [1,9,12,15,17,19,21] /\ h5.lv 15 = [1,9,12,15,17,19,21,22] /\ h5.lv 16 = [1,9,12,15,17,19,21,22,23] /\ h5.lv 17 = [0]:=by decide +kernel
@[go_sem] theorem h5_g (k : Nat) : h5.ct k = none:=rfl
@[go_sem] theorem h5_z : h5.at 0 = [] /\ h5.at 1 = [(1,some 5,true)] /\ h5.at 2 = [] /\ h5.at 3 = [(2,some 5,true)] /\ h5.at 4 = [] /\ h5.at 5 = [] /\ h5.at 6 = [] /\ h5.at 7 = [] /\ h5.at 8 = [] /\ h5.at 9 = [] /\ h5.at 10 = [] /\ h5.at 11 = [] /\ h5.at 12 = [] /\ h5.at 13 = [] /\ h5.at 14 = [] /\ h5.at 15 = [] /\ h5.at 16 = [] /\ h5.at 17 = []:=by decide +kernel
@[go_sem] theorem h5_y (k : Nat) : h5.dn k = false:=Eq.trans rfl rfl
@[go_sem] theorem h5_t : h5.tk = [124,137,138,141,142,146,152,157] /\ h5.mt = [31] /\ h5.pc = [51,60]:=⟨rfl,rfl,rfl⟩
theorem h5_k : FK Tryz.prog 5 Tryz.f5 h5:=⟨by kernel_rfl,by kernel_rfl,Tryz.func5,by kernel_rfl⟩
def h7 : Hint:=hm [12,7176,15368,7272,7464,8395816,16,7176,16] [] [] [20]
@[go_sem] theorem h7_l : h7.lv 0 = [2,3] /\ h7.lv 1 = [3,10,11,12] /\ h7.lv 2 = [3,10,11,12,13] /\ h7.lv 3 = [3,5,6,10,11,12] /\ h7.lv 4 = [3,5,8,10,11,12] /\ h7.lv 5 = [3,5,10,11,12,23] /\ h7.lv 6 = [4] /\ h7.lv 7 = [3,10,11,12] /\ h7.lv 8 = [4]:=by decide +kernel
@[go_sem] def h7_q:=hplain h7 rfl rfl rfl
@[go_sem] theorem h7_t : h7.tk = [] /\ h7.mt = [] /\ h7.pc = [20]:=⟨rfl,rfl,rfl⟩
theorem h7_k : FK Tryz.prog 7 Tryz.f7 h7:=⟨by kernel_rfl,by kernel_rfl,Tryz.func7,by kernel_rfl⟩
def h33 : Hint:=hm [3,1027,16,35,16419,35,0x80000000000000023,16,16] [] [] [65]
@[go_sem] theorem h33_l : h33.lv 0 = [0,1] /\ h33.lv 1 = [0,1,10] /\ h33.lv 2 = [4] /\ h33.lv 3 = [0,1,5] /\ h33.lv 4 = [0,1,5,14] /\ h33.lv 5 = [0,1,5] /\ h33.lv 6 = [0,1,5,67] /\ h33.lv 7 = [4] /\ h33.lv 8 = [4]:=by decide +kernel
@[go_sem] def h33_q:=hplain h33 rfl rfl rfl
@[go_sem] theorem h33_t : h33.tk = [] /\ h33.mt = [] /\ h33.pc = [65]:=⟨rfl,rfl,rfl⟩
theorem h33_k : FK Tryz.prog 33 Tryz.f33 h33:=⟨by kernel_rfl,by kernel_rfl,Tryz.func33,by kernel_rfl⟩
def h8 : Hint:=hm [3,2051,16,35,32803,35,99,268435491,16,16] [] [] [26]
@[go_sem] theorem h8_l : h8.lv 0 = [0,1] /\ h8.lv 1 = [0,1,11] /\ h8.lv 2 = [4] /\ h8.lv 3 = [0,1,5] /\ h8.lv 4 = [0,1,5,15] /\ h8.lv 5 = [0,1,5] /\ h8.lv 6 = [0,1,5,6] /\ h8.lv 7 = [0,1,5,28] /\ h8.lv 8 = [4] /\ h8.lv 9 = [4]:=by decide +kernel
@[go_sem] def h8_q:=hplain h8 rfl rfl rfl
@[go_sem] theorem h8_t : h8.tk = [] /\ h8.mt = [] /\ h8.pc = [26]:=⟨rfl,rfl,rfl⟩
theorem h8_k : FK Tryz.prog 8 Tryz.f8 h8:=⟨by kernel_rfl,by kernel_rfl,Tryz.func8,by kernel_rfl⟩
def h35 : Hint:=hx [7,16391,64,229382,491526,229766,230150,1073971206,64,229382,64] [15] [] [] [] [(9,0)] []
@[go_sem] theorem h35_l : h35.lv 0 = [0,1,2] /\ h35.lv 1 = [0,1,2,14] /\ h35.lv 2 = [6] /\ h35.lv 3 = [1,2,15,16,17] /\ h35.lv 4 = [1,2,15,16,17,18] /\ h35.lv 5 = [1,2,7,8,15,16,17] /\ h35.lv 6 = [1,2,8,9,15,16,17] /\ h35.lv 7 = [1,2,15,16,17,30] /\ h35.lv 8 = [6] /\ h35.lv 9 = [1,2,15,16,17] /\ h35.lv 10 = [6]:=by decide +kernel
@[go_sem] theorem h35_g : h35.ct 0 = none /\ h35.ct 1 = none /\ h35.ct 2 = none /\ h35.ct 3 = none /\ h35.ct 4 = none /\ h35.ct 5 = none /\ h35.ct 6 = none /\ h35.ct 7 = none /\ h35.ct 8 = none /\ h35.ct 9 = some 0 /\ h35.ct 10 = none:=by decide +kernel
@[go_sem] theorem h35_z (k : Nat) : h35.at k = []:=rfl
@[go_sem] theorem h35_y (k : Nat) : h35.dn k = false:=Eq.trans rfl rfl
@[go_sem] theorem h35_t : h35.tk = [15] /\ h35.mt = [] /\ h35.pc = []:=⟨rfl,rfl,rfl⟩
theorem h35_k : FK Tryz.prog 35 Tryz.f35 h35:=⟨by kernel_rfl,by kernel_rfl,Tryz.func35,by kernel_rfl⟩
def h36 : Hint:=hm [12,16] [] [] [7]
@[go_sem] theorem h36_l : h36.lv 0 = [2,3] /\ h36.lv 1 = [4]:=by decide +kernel
@[go_sem] def h36_q:=hplain h36 rfl rfl rfl
@[go_sem] theorem h36_t : h36.tk = [] /\ h36.mt = [] /\ h36.pc = [7]:=⟨rfl,rfl,rfl⟩
theorem h36_k : FK Tryz.prog 36 Tryz.f36 h36:=⟨by kernel_rfl,by kernel_rfl,Tryz.func36,by kernel_rfl⟩
def h10 : Hint:=hm [3,16] [5,6] [] [7]
@[go_sem] theorem h10_l : h10.lv 0 = [0,1] /\ h10.lv 1 = [4]:=by decide +kernel
@[go_sem] def h10_q:=hplain h10 rfl rfl rfl
@[go_sem] theorem h10_t : h10.tk = [5,6] /\ h10.mt = [] /\ h10.pc = [7]:=⟨rfl,rfl,rfl⟩
theorem h10_k : FK Tryz.prog 10 Tryz.f10 h10:=⟨by kernel_rfl,by kernel_rfl,Tryz.func10,by kernel_rfl⟩
end Go.AI
