/- Closed facts about the program's types. Printed by fa.py. -/
import Derived.Test.YtckllbljhigedaaGreatDoorProg
import Derived.Test.YtckllbljhigedaaGreatDoorMj
import Derived.KernelRfl
set_option linter.unusedSimpArgs false
set_option linter.unusedVariables false
namespace Go.AI
open Go.Proofs
@[go_sem] theorem cellsOf0 : Tryz.prog.cellsOf 0 = 1:=by kernel_rfl
@[go_sem] theorem bytesOf0 : Tryz.prog.bytesOf 0 = 0:=by kernel_rfl
@[go_sem] theorem ldk0 : ldk Tryz.prog 0 = some none:=by kernel_rfl
@[go_sem] theorem aggTy0 : aggTy Tryz.prog 0 = false:=by kernel_rfl
@[go_sem] theorem zeroOk0 : zeroOk Tryz.prog 0 = true:=by kernel_rfl
@[go_sem] theorem info0 : (Tryz.prog.info? 0).isSome = true:=by kernel_rfl
@[go_sem] theorem cellsOf3 : Tryz.prog.cellsOf 3 = 1:=by kernel_rfl
@[go_sem] theorem bytesOf3 : Tryz.prog.bytesOf 3 = 8:=by kernel_rfl
@[go_sem] theorem ldk3 : ldk Tryz.prog 3 = some none:=by kernel_rfl
@[go_sem] theorem aggTy3 : aggTy Tryz.prog 3 = false:=by kernel_rfl
@[go_sem] theorem und3 : Tryz.prog.underlying 3 = some (.int .i64):=by kernel_rfl
@[go_sem] theorem zeroOk3 : zeroOk Tryz.prog 3 = true:=by kernel_rfl
@[go_sem] theorem info3 : (Tryz.prog.info? 3).isSome = true:=by kernel_rfl
@[go_sem] theorem zeroAV3 : zeroAV Tryz.prog 3 = some (.int .i64 0):=by kernel_rfl
@[go_sem] theorem cellsOf4 : Tryz.prog.cellsOf 4 = 1:=by kernel_rfl
@[go_sem] theorem bytesOf4 : Tryz.prog.bytesOf 4 = 1:=by kernel_rfl
@[go_sem] theorem ldk4 : ldk Tryz.prog 4 = some none:=by kernel_rfl
@[go_sem] theorem aggTy4 : aggTy Tryz.prog 4 = false:=by kernel_rfl
@[go_sem] theorem und4 : Tryz.prog.underlying 4 = some .bool:=by kernel_rfl
@[go_sem] theorem isBool4 : isBool Tryz.prog 4 = true:=by kernel_rfl
@[go_sem] theorem zeroOk4 : zeroOk Tryz.prog 4 = true:=by kernel_rfl
@[go_sem] theorem info4 : (Tryz.prog.info? 4).isSome = true:=by kernel_rfl
@[go_sem] theorem zeroAV4 : zeroAV Tryz.prog 4 = some (.bool false):=by kernel_rfl
@[go_sem] theorem cellsOf5 : Tryz.prog.cellsOf 5 = 1:=by kernel_rfl
@[go_sem] theorem bytesOf5 : Tryz.prog.bytesOf 5 = 1:=by kernel_rfl
@[go_sem] theorem ldk5 : ldk Tryz.prog 5 = some none:=by kernel_rfl
@[go_sem] theorem aggTy5 : aggTy Tryz.prog 5 = false:=by kernel_rfl
@[go_sem] theorem und5 : Tryz.prog.underlying 5 = some (.int .u8):=by kernel_rfl
@[go_sem] theorem zeroOk5 : zeroOk Tryz.prog 5 = true:=by kernel_rfl
@[go_sem] theorem info5 : (Tryz.prog.info? 5).isSome = true:=by kernel_rfl
@[go_sem] theorem zeroAV5 : zeroAV Tryz.prog 5 = some (.int .u8 0):=by kernel_rfl
@[go_sem] theorem cellsOf9 : Tryz.prog.cellsOf 9 = 1:=by kernel_rfl
@[go_sem] theorem bytesOf9 : Tryz.prog.bytesOf 9 = 16:=by kernel_rfl
@[go_sem] theorem ldk9 : ldk Tryz.prog 9 = some none:=by kernel_rfl
@[go_sem] theorem aggTy9 : aggTy Tryz.prog 9 = false:=by kernel_rfl
@[go_sem] theorem und9 : Tryz.prog.underlying 9 = some .string:=by kernel_rfl
@[go_sem] theorem zeroOk9 : zeroOk Tryz.prog 9 = true:=by kernel_rfl
@[go_sem] theorem info9 : (Tryz.prog.info? 9).isSome = true:=by kernel_rfl
@[go_sem] theorem zeroAV9 : zeroAV Tryz.prog 9 = some (.str ByteArray.empty):=by kernel_rfl
@[go_sem] theorem cellsOf10 : Tryz.prog.cellsOf 10 = 1:=by kernel_rfl
@[go_sem] theorem bytesOf10 : Tryz.prog.bytesOf 10 = 16:=by kernel_rfl
@[go_sem] theorem ldk10 : ldk Tryz.prog 10 = some none:=by kernel_rfl
@[go_sem] theorem aggTy10 : aggTy Tryz.prog 10 = false:=by kernel_rfl
@[go_sem] theorem und10 : Tryz.prog.underlying 10 = some .string:=by kernel_rfl
@[go_sem] theorem zeroOk10 : zeroOk Tryz.prog 10 = true:=by kernel_rfl
@[go_sem] theorem info10 : (Tryz.prog.info? 10).isSome = true:=by kernel_rfl
@[go_sem] theorem zeroAV10 : zeroAV Tryz.prog 10 = some (.str ByteArray.empty):=by kernel_rfl
@[go_sem] theorem cellsOf22 : Tryz.prog.cellsOf 22 = 1:=by kernel_rfl
@[go_sem] theorem bytesOf22 : Tryz.prog.bytesOf 22 = 24:=by kernel_rfl
@[go_sem] theorem ldk22 : ldk Tryz.prog 22 = some none:=by kernel_rfl
@[go_sem] theorem aggTy22 : aggTy Tryz.prog 22 = false:=by kernel_rfl
@[go_sem] theorem und22 : Tryz.prog.underlying 22 = some (.slice 100):=by kernel_rfl
@[go_sem] theorem isSl22 : isSl Tryz.prog 22 = true:=by kernel_rfl
@[go_sem] theorem zeroOk22 : zeroOk Tryz.prog 22 = true:=by kernel_rfl
@[go_sem] theorem info22 : (Tryz.prog.info? 22).isSome = true:=by kernel_rfl
@[go_sem] theorem zeroAV22 : zeroAV Tryz.prog 22 = some (.sl (some 4) []):=by kernel_rfl
@[go_sem] theorem cellsOf23 : Tryz.prog.cellsOf 23 = 1:=by kernel_rfl
@[go_sem] theorem bytesOf23 : Tryz.prog.bytesOf 23 = 24:=by kernel_rfl
@[go_sem] theorem ldk23 : ldk Tryz.prog 23 = some none:=by kernel_rfl
@[go_sem] theorem aggTy23 : aggTy Tryz.prog 23 = false:=by kernel_rfl
@[go_sem] theorem und23 : Tryz.prog.underlying 23 = some (.slice 169):=by kernel_rfl
@[go_sem] theorem isSl23 : isSl Tryz.prog 23 = true:=by kernel_rfl
@[go_sem] theorem zeroOk23 : zeroOk Tryz.prog 23 = true:=by kernel_rfl
@[go_sem] theorem info23 : (Tryz.prog.info? 23).isSome = true:=by kernel_rfl
@[go_sem] theorem zeroAV23 : zeroAV Tryz.prog 23 = some (.sl (some 3) []):=by kernel_rfl
@[go_sem] theorem cellsOf24 : Tryz.prog.cellsOf 24 = 1:=by kernel_rfl
@[go_sem] theorem bytesOf24 : Tryz.prog.bytesOf 24 = 24:=by kernel_rfl
@[go_sem] theorem ldk24 : ldk Tryz.prog 24 = some none:=by kernel_rfl
@[go_sem] theorem aggTy24 : aggTy Tryz.prog 24 = false:=by kernel_rfl
@[go_sem] theorem und24 : Tryz.prog.underlying 24 = some (.slice 78):=by kernel_rfl
@[go_sem] theorem isSl24 : isSl Tryz.prog 24 = true:=by kernel_rfl
@[go_sem] theorem zeroOk24 : zeroOk Tryz.prog 24 = true:=by kernel_rfl
@[go_sem] theorem info24 : (Tryz.prog.info? 24).isSome = true:=by kernel_rfl
@[go_sem] theorem zeroAV24 : zeroAV Tryz.prog 24 = some (.sl (some 2) []):=by kernel_rfl
@[go_sem] theorem cellsOf25 : Tryz.prog.cellsOf 25 = 3:=by kernel_rfl
@[go_sem] theorem bytesOf25 : Tryz.prog.bytesOf 25 = 72:=by kernel_rfl
@[go_sem] theorem ldk25 : ldk Tryz.prog 25 = some (some 3):=by kernel_rfl
@[go_sem] theorem aggTy25 : aggTy Tryz.prog 25 = true:=by kernel_rfl
@[go_sem] theorem zeroOk25 : zeroOk Tryz.prog 25 = true:=by kernel_rfl
@[go_sem] theorem info25 : (Tryz.prog.info? 25).isSome = true:=by kernel_rfl
@[go_sem] theorem bkind25 : bkind Tryz.prog 25 = .struct [(0,1),(1,1),(2,1)]:=by kernel_rfl
@[go_sem] theorem fplace25_0 : fplace Tryz.prog 25 0 = some (22,0):=by kernel_rfl
@[go_sem] theorem fplace25_1 : fplace Tryz.prog 25 1 = some (23,1):=by kernel_rfl
@[go_sem] theorem fplace25_2 : fplace Tryz.prog 25 2 = some (24,2):=by kernel_rfl
@[go_sem] theorem zeroAV25 : zeroAV Tryz.prog 25 = some (.agg [.sl (some 4) [],.sl (some 3) [],.sl (some 2) []]):=by kernel_rfl
@[go_sem] theorem cellsOf26 : Tryz.prog.cellsOf 26 = 3:=by kernel_rfl
@[go_sem] theorem bytesOf26 : Tryz.prog.bytesOf 26 = 72:=by kernel_rfl
@[go_sem] theorem ldk26 : ldk Tryz.prog 26 = some (some 3):=by kernel_rfl
@[go_sem] theorem aggTy26 : aggTy Tryz.prog 26 = true:=by kernel_rfl
@[go_sem] theorem zeroOk26 : zeroOk Tryz.prog 26 = true:=by kernel_rfl
@[go_sem] theorem info26 : (Tryz.prog.info? 26).isSome = true:=by kernel_rfl
@[go_sem] theorem bkind26 : bkind Tryz.prog 26 = .struct [(0,1),(1,1),(2,1)]:=by kernel_rfl
@[go_sem] theorem fplace26_0 : fplace Tryz.prog 26 0 = some (22,0):=by kernel_rfl
@[go_sem] theorem fplace26_1 : fplace Tryz.prog 26 1 = some (23,1):=by kernel_rfl
@[go_sem] theorem fplace26_2 : fplace Tryz.prog 26 2 = some (24,2):=by kernel_rfl
@[go_sem] theorem cellsOf27 : Tryz.prog.cellsOf 27 = 1:=by kernel_rfl
@[go_sem] theorem bytesOf27 : Tryz.prog.bytesOf 27 = 24:=by kernel_rfl
@[go_sem] theorem ldk27 : ldk Tryz.prog 27 = some none:=by kernel_rfl
@[go_sem] theorem aggTy27 : aggTy Tryz.prog 27 = false:=by kernel_rfl
@[go_sem] theorem und27 : Tryz.prog.underlying 27 = some (.slice 98):=by kernel_rfl
@[go_sem] theorem isSl27 : isSl Tryz.prog 27 = true:=by kernel_rfl
@[go_sem] theorem zeroOk27 : zeroOk Tryz.prog 27 = true:=by kernel_rfl
@[go_sem] theorem info27 : (Tryz.prog.info? 27).isSome = true:=by kernel_rfl
@[go_sem] theorem zeroAV27 : zeroAV Tryz.prog 27 = some (.sl (some 3) []):=by kernel_rfl
@[go_sem] theorem cellsOf28 : Tryz.prog.cellsOf 28 = 1:=by kernel_rfl
@[go_sem] theorem bytesOf28 : Tryz.prog.bytesOf 28 = 24:=by kernel_rfl
@[go_sem] theorem ldk28 : ldk Tryz.prog 28 = some none:=by kernel_rfl
@[go_sem] theorem aggTy28 : aggTy Tryz.prog 28 = false:=by kernel_rfl
@[go_sem] theorem und28 : Tryz.prog.underlying 28 = some (.slice 50):=by kernel_rfl
@[go_sem] theorem isSl28 : isSl Tryz.prog 28 = true:=by kernel_rfl
@[go_sem] theorem zeroOk28 : zeroOk Tryz.prog 28 = true:=by kernel_rfl
@[go_sem] theorem info28 : (Tryz.prog.info? 28).isSome = true:=by kernel_rfl
@[go_sem] theorem zeroAV28 : zeroAV Tryz.prog 28 = some (.sl (some 6) []):=by kernel_rfl
@[go_sem] theorem cellsOf29 : Tryz.prog.cellsOf 29 = 1:=by kernel_rfl
@[go_sem] theorem bytesOf29 : Tryz.prog.bytesOf 29 = 24:=by kernel_rfl
@[go_sem] theorem ldk29 : ldk Tryz.prog 29 = some none:=by kernel_rfl
@[go_sem] theorem aggTy29 : aggTy Tryz.prog 29 = false:=by kernel_rfl
@[go_sem] theorem und29 : Tryz.prog.underlying 29 = some (.slice 42):=by kernel_rfl
@[go_sem] theorem isSl29 : isSl Tryz.prog 29 = true:=by kernel_rfl
@[go_sem] theorem zeroOk29 : zeroOk Tryz.prog 29 = true:=by kernel_rfl
@[go_sem] theorem info29 : (Tryz.prog.info? 29).isSome = true:=by kernel_rfl
@[go_sem] theorem zeroAV29 : zeroAV Tryz.prog 29 = some (.sl (some 12) []):=by kernel_rfl
@[go_sem] theorem cellsOf30 : Tryz.prog.cellsOf 30 = 6:=by kernel_rfl
@[go_sem] theorem bytesOf30 : Tryz.prog.bytesOf 30 = 144:=by kernel_rfl
@[go_sem] theorem ldk30 : ldk Tryz.prog 30 = some (some 6):=by kernel_rfl
@[go_sem] theorem aggTy30 : aggTy Tryz.prog 30 = true:=by kernel_rfl
@[go_sem] theorem zeroOk30 : zeroOk Tryz.prog 30 = true:=by kernel_rfl
@[go_sem] theorem info30 : (Tryz.prog.info? 30).isSome = true:=by kernel_rfl
@[go_sem] theorem bkind30 : bkind Tryz.prog 30 = .struct [(0,3),(3,1),(4,1),(5,1)]:=by kernel_rfl
@[go_sem] theorem fplace30_0 : fplace Tryz.prog 30 0 = some (26,0):=by kernel_rfl
@[go_sem] theorem fplace30_1 : fplace Tryz.prog 30 1 = some (27,3):=by kernel_rfl
@[go_sem] theorem fplace30_2 : fplace Tryz.prog 30 2 = some (28,4):=by kernel_rfl
@[go_sem] theorem fplace30_3 : fplace Tryz.prog 30 3 = some (29,5):=by kernel_rfl
@[go_sem] theorem zeroAV30 : zeroAV Tryz.prog 30 = some (.agg [.sl (some 4) [],.sl (some 3) [],.sl (some 2) [],.sl (some 3) [],.sl (some 6) [],.sl (some 12) []]):=by kernel_rfl
@[go_sem] theorem cellsOf31 : Tryz.prog.cellsOf 31 = 6:=by kernel_rfl
@[go_sem] theorem bytesOf31 : Tryz.prog.bytesOf 31 = 144:=by kernel_rfl
@[go_sem] theorem ldk31 : ldk Tryz.prog 31 = some (some 6):=by kernel_rfl
@[go_sem] theorem aggTy31 : aggTy Tryz.prog 31 = true:=by kernel_rfl
@[go_sem] theorem zeroOk31 : zeroOk Tryz.prog 31 = true:=by kernel_rfl
@[go_sem] theorem info31 : (Tryz.prog.info? 31).isSome = true:=by kernel_rfl
@[go_sem] theorem bkind31 : bkind Tryz.prog 31 = .struct [(0,3),(3,1),(4,1),(5,1)]:=by kernel_rfl
@[go_sem] theorem fplace31_0 : fplace Tryz.prog 31 0 = some (26,0):=by kernel_rfl
@[go_sem] theorem fplace31_1 : fplace Tryz.prog 31 1 = some (27,3):=by kernel_rfl
@[go_sem] theorem fplace31_2 : fplace Tryz.prog 31 2 = some (28,4):=by kernel_rfl
@[go_sem] theorem fplace31_3 : fplace Tryz.prog 31 3 = some (29,5):=by kernel_rfl
@[go_sem] theorem cellsOf32 : Tryz.prog.cellsOf 32 = 10:=by kernel_rfl
@[go_sem] theorem bytesOf32 : Tryz.prog.bytesOf 32 = 80:=by kernel_rfl
@[go_sem] theorem ldk32 : ldk Tryz.prog 32 = some (some 10):=by kernel_rfl
@[go_sem] theorem aggTy32 : aggTy Tryz.prog 32 = true:=by kernel_rfl
@[go_sem] theorem und32 : Tryz.prog.underlying 32 = some (.array 10 3):=by kernel_rfl
@[go_sem] theorem zeroOk32 : zeroOk Tryz.prog 32 = true:=by kernel_rfl
@[go_sem] theorem info32 : (Tryz.prog.info? 32).isSome = true:=by kernel_rfl
@[go_sem] theorem bkind32 : bkind Tryz.prog 32 = .array 1:=by kernel_rfl
@[go_sem] theorem zeroAV32 : zeroAV Tryz.prog 32 = some (.agg [.int .i64 0,.int .i64 0,.int .i64 0,.int .i64 0,.int .i64 0,.int .i64 0,.int .i64 0,.int .i64 0,.int .i64 0,.int .i64 0]):=by kernel_rfl
@[go_sem] theorem cellsOf33 : Tryz.prog.cellsOf 33 = 10:=by kernel_rfl
@[go_sem] theorem bytesOf33 : Tryz.prog.bytesOf 33 = 80:=by kernel_rfl
@[go_sem] theorem ldk33 : ldk Tryz.prog 33 = some (some 10):=by kernel_rfl
@[go_sem] theorem aggTy33 : aggTy Tryz.prog 33 = true:=by kernel_rfl
@[go_sem] theorem und33 : Tryz.prog.underlying 33 = some (.array 10 3):=by kernel_rfl
@[go_sem] theorem zeroOk33 : zeroOk Tryz.prog 33 = true:=by kernel_rfl
@[go_sem] theorem info33 : (Tryz.prog.info? 33).isSome = true:=by kernel_rfl
@[go_sem] theorem bkind33 : bkind Tryz.prog 33 = .array 1:=by kernel_rfl
@[go_sem] theorem cellsOf38 : Tryz.prog.cellsOf 38 = 1:=by kernel_rfl
@[go_sem] theorem bytesOf38 : Tryz.prog.bytesOf 38 = 24:=by kernel_rfl
@[go_sem] theorem ldk38 : ldk Tryz.prog 38 = some none:=by kernel_rfl
@[go_sem] theorem aggTy38 : aggTy Tryz.prog 38 = false:=by kernel_rfl
@[go_sem] theorem und38 : Tryz.prog.underlying 38 = some (.slice 40):=by kernel_rfl
@[go_sem] theorem isSl38 : isSl Tryz.prog 38 = true:=by kernel_rfl
@[go_sem] theorem zeroOk38 : zeroOk Tryz.prog 38 = true:=by kernel_rfl
@[go_sem] theorem info38 : (Tryz.prog.info? 38).isSome = true:=by kernel_rfl
@[go_sem] theorem zeroAV38 : zeroAV Tryz.prog 38 = some (.sl (some 5) []):=by kernel_rfl
@[go_sem] theorem cellsOf39 : Tryz.prog.cellsOf 39 = 5:=by kernel_rfl
@[go_sem] theorem bytesOf39 : Tryz.prog.bytesOf 39 = 64:=by kernel_rfl
@[go_sem] theorem ldk39 : ldk Tryz.prog 39 = some (some 5):=by kernel_rfl
@[go_sem] theorem aggTy39 : aggTy Tryz.prog 39 = true:=by kernel_rfl
@[go_sem] theorem zeroOk39 : zeroOk Tryz.prog 39 = true:=by kernel_rfl
@[go_sem] theorem info39 : (Tryz.prog.info? 39).isSome = true:=by kernel_rfl
@[go_sem] theorem bkind39 : bkind Tryz.prog 39 = .struct [(0,1),(1,1),(2,1),(3,1),(4,1)]:=by kernel_rfl
@[go_sem] theorem fplace39_0 : fplace Tryz.prog 39 0 = some (3,0):=by kernel_rfl
@[go_sem] theorem fplace39_1 : fplace Tryz.prog 39 1 = some (9,1):=by kernel_rfl
@[go_sem] theorem fplace39_2 : fplace Tryz.prog 39 2 = some (3,2):=by kernel_rfl
@[go_sem] theorem fplace39_3 : fplace Tryz.prog 39 3 = some (3,3):=by kernel_rfl
@[go_sem] theorem fplace39_4 : fplace Tryz.prog 39 4 = some (38,4):=by kernel_rfl
@[go_sem] theorem zeroAV39 : zeroAV Tryz.prog 39 = some (.agg [.int .i64 0,.str ByteArray.empty,.int .i64 0,.int .i64 0,.sl (some 5) []]):=by kernel_rfl
@[go_sem] theorem cellsOf40 : Tryz.prog.cellsOf 40 = 5:=by kernel_rfl
@[go_sem] theorem bytesOf40 : Tryz.prog.bytesOf 40 = 64:=by kernel_rfl
@[go_sem] theorem ldk40 : ldk Tryz.prog 40 = some (some 5):=by kernel_rfl
@[go_sem] theorem aggTy40 : aggTy Tryz.prog 40 = true:=by kernel_rfl
@[go_sem] theorem zeroOk40 : zeroOk Tryz.prog 40 = true:=by kernel_rfl
@[go_sem] theorem info40 : (Tryz.prog.info? 40).isSome = true:=by kernel_rfl
@[go_sem] theorem bkind40 : bkind Tryz.prog 40 = .struct [(0,1),(1,1),(2,1),(3,1),(4,1)]:=by kernel_rfl
@[go_sem] theorem fplace40_0 : fplace Tryz.prog 40 0 = some (3,0):=by kernel_rfl
@[go_sem] theorem fplace40_1 : fplace Tryz.prog 40 1 = some (9,1):=by kernel_rfl
@[go_sem] theorem fplace40_2 : fplace Tryz.prog 40 2 = some (3,2):=by kernel_rfl
@[go_sem] theorem fplace40_3 : fplace Tryz.prog 40 3 = some (3,3):=by kernel_rfl
@[go_sem] theorem fplace40_4 : fplace Tryz.prog 40 4 = some (38,4):=by kernel_rfl
@[go_sem] theorem cellsOf41 : Tryz.prog.cellsOf 41 = 12:=by kernel_rfl
@[go_sem] theorem bytesOf41 : Tryz.prog.bytesOf 41 = 136:=by kernel_rfl
@[go_sem] theorem ldk41 : ldk Tryz.prog 41 = some (some 12):=by kernel_rfl
@[go_sem] theorem aggTy41 : aggTy Tryz.prog 41 = true:=by kernel_rfl
@[go_sem] theorem zeroOk41 : zeroOk Tryz.prog 41 = true:=by kernel_rfl
@[go_sem] theorem info41 : (Tryz.prog.info? 41).isSome = true:=by kernel_rfl
@[go_sem] theorem bkind41 : bkind Tryz.prog 41 = .struct [(0,1),(1,1),(2,1),(3,1),(4,5),(9,1),(10,1),(11,1)]:=by kernel_rfl
@[go_sem] theorem fplace41_0 : fplace Tryz.prog 41 0 = some (9,0):=by kernel_rfl
@[go_sem] theorem fplace41_1 : fplace Tryz.prog 41 1 = some (9,1):=by kernel_rfl
@[go_sem] theorem fplace41_2 : fplace Tryz.prog 41 2 = some (3,2):=by kernel_rfl
@[go_sem] theorem fplace41_3 : fplace Tryz.prog 41 3 = some (3,3):=by kernel_rfl
@[go_sem] theorem fplace41_4 : fplace Tryz.prog 41 4 = some (40,4):=by kernel_rfl
@[go_sem] theorem fplace41_5 : fplace Tryz.prog 41 5 = some (3,9):=by kernel_rfl
@[go_sem] theorem fplace41_6 : fplace Tryz.prog 41 6 = some (3,10):=by kernel_rfl
@[go_sem] theorem fplace41_7 : fplace Tryz.prog 41 7 = some (3,11):=by kernel_rfl
@[go_sem] theorem zeroAV41 : zeroAV Tryz.prog 41 = some (.agg [.str ByteArray.empty,.str ByteArray.empty,.int .i64 0,.int .i64 0,.int .i64 0,.str ByteArray.empty,.int .i64 0,.int .i64 0,.sl (some 5) [],.int .i64 0,.int .i64 0,.int .i64 0]):=by kernel_rfl
@[go_sem] theorem cellsOf42 : Tryz.prog.cellsOf 42 = 12:=by kernel_rfl
@[go_sem] theorem bytesOf42 : Tryz.prog.bytesOf 42 = 136:=by kernel_rfl
@[go_sem] theorem ldk42 : ldk Tryz.prog 42 = some (some 12):=by kernel_rfl
@[go_sem] theorem aggTy42 : aggTy Tryz.prog 42 = true:=by kernel_rfl
@[go_sem] theorem zeroOk42 : zeroOk Tryz.prog 42 = true:=by kernel_rfl
@[go_sem] theorem info42 : (Tryz.prog.info? 42).isSome = true:=by kernel_rfl
@[go_sem] theorem bkind42 : bkind Tryz.prog 42 = .struct [(0,1),(1,1),(2,1),(3,1),(4,5),(9,1),(10,1),(11,1)]:=by kernel_rfl
@[go_sem] theorem fplace42_0 : fplace Tryz.prog 42 0 = some (9,0):=by kernel_rfl
@[go_sem] theorem fplace42_1 : fplace Tryz.prog 42 1 = some (9,1):=by kernel_rfl
@[go_sem] theorem fplace42_2 : fplace Tryz.prog 42 2 = some (3,2):=by kernel_rfl
@[go_sem] theorem fplace42_3 : fplace Tryz.prog 42 3 = some (3,3):=by kernel_rfl
@[go_sem] theorem fplace42_4 : fplace Tryz.prog 42 4 = some (40,4):=by kernel_rfl
@[go_sem] theorem fplace42_5 : fplace Tryz.prog 42 5 = some (3,9):=by kernel_rfl
@[go_sem] theorem fplace42_6 : fplace Tryz.prog 42 6 = some (3,10):=by kernel_rfl
@[go_sem] theorem fplace42_7 : fplace Tryz.prog 42 7 = some (3,11):=by kernel_rfl
@[go_sem] theorem cellsOf43 : Tryz.prog.cellsOf 43 = 1:=by kernel_rfl
@[go_sem] theorem bytesOf43 : Tryz.prog.bytesOf 43 = 24:=by kernel_rfl
@[go_sem] theorem ldk43 : ldk Tryz.prog 43 = some none:=by kernel_rfl
@[go_sem] theorem aggTy43 : aggTy Tryz.prog 43 = false:=by kernel_rfl
@[go_sem] theorem und43 : Tryz.prog.underlying 43 = some (.slice 103):=by kernel_rfl
@[go_sem] theorem isSl43 : isSl Tryz.prog 43 = true:=by kernel_rfl
@[go_sem] theorem zeroOk43 : zeroOk Tryz.prog 43 = true:=by kernel_rfl
@[go_sem] theorem info43 : (Tryz.prog.info? 43).isSome = true:=by kernel_rfl
@[go_sem] theorem zeroAV43 : zeroAV Tryz.prog 43 = some (.sl (some 2) []):=by kernel_rfl
@[go_sem] theorem cellsOf44 : Tryz.prog.cellsOf 44 = 1:=by kernel_rfl
@[go_sem] theorem bytesOf44 : Tryz.prog.bytesOf 44 = 24:=by kernel_rfl
@[go_sem] theorem ldk44 : ldk Tryz.prog 44 = some none:=by kernel_rfl
@[go_sem] theorem aggTy44 : aggTy Tryz.prog 44 = false:=by kernel_rfl
@[go_sem] theorem und44 : Tryz.prog.underlying 44 = some (.slice 248):=by kernel_rfl
@[go_sem] theorem isSl44 : isSl Tryz.prog 44 = true:=by kernel_rfl
@[go_sem] theorem zeroOk44 : zeroOk Tryz.prog 44 = true:=by kernel_rfl
@[go_sem] theorem info44 : (Tryz.prog.info? 44).isSome = true:=by kernel_rfl
@[go_sem] theorem zeroAV44 : zeroAV Tryz.prog 44 = some (.sl (some 2) []):=by kernel_rfl
@[go_sem] theorem cellsOf45 : Tryz.prog.cellsOf 45 = 1:=by kernel_rfl
@[go_sem] theorem bytesOf45 : Tryz.prog.bytesOf 45 = 24:=by kernel_rfl
@[go_sem] theorem ldk45 : ldk Tryz.prog 45 = some none:=by kernel_rfl
@[go_sem] theorem aggTy45 : aggTy Tryz.prog 45 = false:=by kernel_rfl
@[go_sem] theorem und45 : Tryz.prog.underlying 45 = some (.slice 111):=by kernel_rfl
@[go_sem] theorem isSl45 : isSl Tryz.prog 45 = true:=by kernel_rfl
@[go_sem] theorem zeroOk45 : zeroOk Tryz.prog 45 = true:=by kernel_rfl
@[go_sem] theorem info45 : (Tryz.prog.info? 45).isSome = true:=by kernel_rfl
@[go_sem] theorem zeroAV45 : zeroAV Tryz.prog 45 = some (.sl (some 15) []):=by kernel_rfl
@[go_sem] theorem cellsOf46 : Tryz.prog.cellsOf 46 = 1:=by kernel_rfl
@[go_sem] theorem bytesOf46 : Tryz.prog.bytesOf 46 = 24:=by kernel_rfl
@[go_sem] theorem ldk46 : ldk Tryz.prog 46 = some none:=by kernel_rfl
@[go_sem] theorem aggTy46 : aggTy Tryz.prog 46 = false:=by kernel_rfl
@[go_sem] theorem und46 : Tryz.prog.underlying 46 = some (.slice 111):=by kernel_rfl
@[go_sem] theorem isSl46 : isSl Tryz.prog 46 = true:=by kernel_rfl
@[go_sem] theorem zeroOk46 : zeroOk Tryz.prog 46 = true:=by kernel_rfl
@[go_sem] theorem info46 : (Tryz.prog.info? 46).isSome = true:=by kernel_rfl
@[go_sem] theorem zeroAV46 : zeroAV Tryz.prog 46 = some (.sl (some 15) []):=by kernel_rfl
@[go_sem] theorem cellsOf47 : Tryz.prog.cellsOf 47 = 1:=by kernel_rfl
@[go_sem] theorem bytesOf47 : Tryz.prog.bytesOf 47 = 24:=by kernel_rfl
@[go_sem] theorem ldk47 : ldk Tryz.prog 47 = some none:=by kernel_rfl
@[go_sem] theorem aggTy47 : aggTy Tryz.prog 47 = false:=by kernel_rfl
@[go_sem] theorem und47 : Tryz.prog.underlying 47 = some (.slice 160):=by kernel_rfl
@[go_sem] theorem isSl47 : isSl Tryz.prog 47 = true:=by kernel_rfl
@[go_sem] theorem zeroOk47 : zeroOk Tryz.prog 47 = true:=by kernel_rfl
@[go_sem] theorem info47 : (Tryz.prog.info? 47).isSome = true:=by kernel_rfl
@[go_sem] theorem zeroAV47 : zeroAV Tryz.prog 47 = some (.sl (some 8) []):=by kernel_rfl
@[go_sem] theorem cellsOf48 : Tryz.prog.cellsOf 48 = 1:=by kernel_rfl
@[go_sem] theorem bytesOf48 : Tryz.prog.bytesOf 48 = 24:=by kernel_rfl
@[go_sem] theorem ldk48 : ldk Tryz.prog 48 = some none:=by kernel_rfl
@[go_sem] theorem aggTy48 : aggTy Tryz.prog 48 = false:=by kernel_rfl
@[go_sem] theorem und48 : Tryz.prog.underlying 48 = some (.slice 213):=by kernel_rfl
@[go_sem] theorem isSl48 : isSl Tryz.prog 48 = true:=by kernel_rfl
@[go_sem] theorem zeroOk48 : zeroOk Tryz.prog 48 = true:=by kernel_rfl
@[go_sem] theorem info48 : (Tryz.prog.info? 48).isSome = true:=by kernel_rfl
@[go_sem] theorem zeroAV48 : zeroAV Tryz.prog 48 = some (.sl (some 4) []):=by kernel_rfl
@[go_sem] theorem cellsOf49 : Tryz.prog.cellsOf 49 = 6:=by kernel_rfl
@[go_sem] theorem bytesOf49 : Tryz.prog.bytesOf 49 = 136:=by kernel_rfl
@[go_sem] theorem ldk49 : ldk Tryz.prog 49 = some (some 6):=by kernel_rfl
@[go_sem] theorem aggTy49 : aggTy Tryz.prog 49 = true:=by kernel_rfl
@[go_sem] theorem zeroOk49 : zeroOk Tryz.prog 49 = true:=by kernel_rfl
@[go_sem] theorem info49 : (Tryz.prog.info? 49).isSome = true:=by kernel_rfl
@[go_sem] theorem bkind49 : bkind Tryz.prog 49 = .struct [(0,1),(1,1),(2,1),(3,1),(4,1),(5,1)]:=by kernel_rfl
@[go_sem] theorem fplace49_0 : fplace Tryz.prog 49 0 = some (9,0):=by kernel_rfl
@[go_sem] theorem fplace49_1 : fplace Tryz.prog 49 1 = some (43,1):=by kernel_rfl
@[go_sem] theorem fplace49_2 : fplace Tryz.prog 49 2 = some (44,2):=by kernel_rfl
@[go_sem] theorem fplace49_3 : fplace Tryz.prog 49 3 = some (46,3):=by kernel_rfl
@[go_sem] theorem fplace49_4 : fplace Tryz.prog 49 4 = some (47,4):=by kernel_rfl
@[go_sem] theorem fplace49_5 : fplace Tryz.prog 49 5 = some (48,5):=by kernel_rfl
@[go_sem] theorem zeroAV49 : zeroAV Tryz.prog 49 = some (.agg [.str ByteArray.empty,.sl (some 2) [],.sl (some 2) [],.sl (some 15) [],.sl (some 8) [],.sl (some 4) []]):=by kernel_rfl
@[go_sem] theorem cellsOf50 : Tryz.prog.cellsOf 50 = 6:=by kernel_rfl
@[go_sem] theorem bytesOf50 : Tryz.prog.bytesOf 50 = 136:=by kernel_rfl
@[go_sem] theorem ldk50 : ldk Tryz.prog 50 = some (some 6):=by kernel_rfl
@[go_sem] theorem aggTy50 : aggTy Tryz.prog 50 = true:=by kernel_rfl
@[go_sem] theorem zeroOk50 : zeroOk Tryz.prog 50 = true:=by kernel_rfl
@[go_sem] theorem info50 : (Tryz.prog.info? 50).isSome = true:=by kernel_rfl
@[go_sem] theorem bkind50 : bkind Tryz.prog 50 = .struct [(0,1),(1,1),(2,1),(3,1),(4,1),(5,1)]:=by kernel_rfl
@[go_sem] theorem fplace50_0 : fplace Tryz.prog 50 0 = some (9,0):=by kernel_rfl
@[go_sem] theorem fplace50_1 : fplace Tryz.prog 50 1 = some (43,1):=by kernel_rfl
@[go_sem] theorem fplace50_2 : fplace Tryz.prog 50 2 = some (44,2):=by kernel_rfl
@[go_sem] theorem fplace50_3 : fplace Tryz.prog 50 3 = some (46,3):=by kernel_rfl
@[go_sem] theorem fplace50_4 : fplace Tryz.prog 50 4 = some (47,4):=by kernel_rfl
@[go_sem] theorem fplace50_5 : fplace Tryz.prog 50 5 = some (48,5):=by kernel_rfl
@[go_sem] theorem cellsOf53 : Tryz.prog.cellsOf 53 = 1:=by kernel_rfl
@[go_sem] theorem bytesOf53 : Tryz.prog.bytesOf 53 = 8:=by kernel_rfl
@[go_sem] theorem ldk53 : ldk Tryz.prog 53 = some none:=by kernel_rfl
@[go_sem] theorem aggTy53 : aggTy Tryz.prog 53 = false:=by kernel_rfl
@[go_sem] theorem und53 : Tryz.prog.underlying 53 = some (.int .i64):=by kernel_rfl
@[go_sem] theorem zeroOk53 : zeroOk Tryz.prog 53 = true:=by kernel_rfl
@[go_sem] theorem info53 : (Tryz.prog.info? 53).isSome = true:=by kernel_rfl
@[go_sem] theorem zeroAV53 : zeroAV Tryz.prog 53 = some (.int .i64 0):=by kernel_rfl
@[go_sem] theorem cellsOf67 : Tryz.prog.cellsOf 67 = 1:=by kernel_rfl
@[go_sem] theorem bytesOf67 : Tryz.prog.bytesOf 67 = 24:=by kernel_rfl
@[go_sem] theorem ldk67 : ldk Tryz.prog 67 = some none:=by kernel_rfl
@[go_sem] theorem aggTy67 : aggTy Tryz.prog 67 = false:=by kernel_rfl
@[go_sem] theorem und67 : Tryz.prog.underlying 67 = some (.slice 3):=by kernel_rfl
@[go_sem] theorem isSl67 : isSl Tryz.prog 67 = true:=by kernel_rfl
@[go_sem] theorem zeroOk67 : zeroOk Tryz.prog 67 = true:=by kernel_rfl
@[go_sem] theorem info67 : (Tryz.prog.info? 67).isSome = true:=by kernel_rfl
@[go_sem] theorem zeroAV67 : zeroAV Tryz.prog 67 = some (.sl (some 1) []):=by kernel_rfl
@[go_sem] theorem cellsOf77 : Tryz.prog.cellsOf 77 = 2:=by kernel_rfl
@[go_sem] theorem bytesOf77 : Tryz.prog.bytesOf 77 = 24:=by kernel_rfl
@[go_sem] theorem ldk77 : ldk Tryz.prog 77 = some (some 2):=by kernel_rfl
@[go_sem] theorem aggTy77 : aggTy Tryz.prog 77 = true:=by kernel_rfl
@[go_sem] theorem zeroOk77 : zeroOk Tryz.prog 77 = true:=by kernel_rfl
@[go_sem] theorem info77 : (Tryz.prog.info? 77).isSome = true:=by kernel_rfl
@[go_sem] theorem bkind77 : bkind Tryz.prog 77 = .struct [(0,1),(1,1)]:=by kernel_rfl
@[go_sem] theorem fplace77_0 : fplace Tryz.prog 77 0 = some (9,0):=by kernel_rfl
@[go_sem] theorem fplace77_1 : fplace Tryz.prog 77 1 = some (3,1):=by kernel_rfl
@[go_sem] theorem zeroAV77 : zeroAV Tryz.prog 77 = some (.agg [.str ByteArray.empty,.int .i64 0]):=by kernel_rfl
@[go_sem] theorem cellsOf78 : Tryz.prog.cellsOf 78 = 2:=by kernel_rfl
@[go_sem] theorem bytesOf78 : Tryz.prog.bytesOf 78 = 24:=by kernel_rfl
@[go_sem] theorem ldk78 : ldk Tryz.prog 78 = some (some 2):=by kernel_rfl
@[go_sem] theorem aggTy78 : aggTy Tryz.prog 78 = true:=by kernel_rfl
@[go_sem] theorem zeroOk78 : zeroOk Tryz.prog 78 = true:=by kernel_rfl
@[go_sem] theorem info78 : (Tryz.prog.info? 78).isSome = true:=by kernel_rfl
@[go_sem] theorem bkind78 : bkind Tryz.prog 78 = .struct [(0,1),(1,1)]:=by kernel_rfl
@[go_sem] theorem fplace78_0 : fplace Tryz.prog 78 0 = some (9,0):=by kernel_rfl
@[go_sem] theorem fplace78_1 : fplace Tryz.prog 78 1 = some (3,1):=by kernel_rfl
@[go_sem] theorem cellsOf97 : Tryz.prog.cellsOf 97 = 3:=by kernel_rfl
@[go_sem] theorem bytesOf97 : Tryz.prog.bytesOf 97 = 32:=by kernel_rfl
@[go_sem] theorem ldk97 : ldk Tryz.prog 97 = some (some 3):=by kernel_rfl
@[go_sem] theorem aggTy97 : aggTy Tryz.prog 97 = true:=by kernel_rfl
@[go_sem] theorem zeroOk97 : zeroOk Tryz.prog 97 = true:=by kernel_rfl
@[go_sem] theorem info97 : (Tryz.prog.info? 97).isSome = true:=by kernel_rfl
@[go_sem] theorem bkind97 : bkind Tryz.prog 97 = .struct [(0,1),(1,1),(2,1)]:=by kernel_rfl
@[go_sem] theorem fplace97_0 : fplace Tryz.prog 97 0 = some (9,0):=by kernel_rfl
@[go_sem] theorem fplace97_1 : fplace Tryz.prog 97 1 = some (3,1):=by kernel_rfl
@[go_sem] theorem fplace97_2 : fplace Tryz.prog 97 2 = some (3,2):=by kernel_rfl
@[go_sem] theorem zeroAV97 : zeroAV Tryz.prog 97 = some (.agg [.str ByteArray.empty,.int .i64 0,.int .i64 0]):=by kernel_rfl
@[go_sem] theorem cellsOf98 : Tryz.prog.cellsOf 98 = 3:=by kernel_rfl
@[go_sem] theorem bytesOf98 : Tryz.prog.bytesOf 98 = 32:=by kernel_rfl
@[go_sem] theorem ldk98 : ldk Tryz.prog 98 = some (some 3):=by kernel_rfl
@[go_sem] theorem aggTy98 : aggTy Tryz.prog 98 = true:=by kernel_rfl
@[go_sem] theorem zeroOk98 : zeroOk Tryz.prog 98 = true:=by kernel_rfl
@[go_sem] theorem info98 : (Tryz.prog.info? 98).isSome = true:=by kernel_rfl
@[go_sem] theorem bkind98 : bkind Tryz.prog 98 = .struct [(0,1),(1,1),(2,1)]:=by kernel_rfl
@[go_sem] theorem fplace98_0 : fplace Tryz.prog 98 0 = some (9,0):=by kernel_rfl
@[go_sem] theorem fplace98_1 : fplace Tryz.prog 98 1 = some (3,1):=by kernel_rfl
@[go_sem] theorem fplace98_2 : fplace Tryz.prog 98 2 = some (3,2):=by kernel_rfl
@[go_sem] theorem cellsOf99 : Tryz.prog.cellsOf 99 = 4:=by kernel_rfl
@[go_sem] theorem bytesOf99 : Tryz.prog.bytesOf 99 = 40:=by kernel_rfl
@[go_sem] theorem ldk99 : ldk Tryz.prog 99 = some (some 4):=by kernel_rfl
@[go_sem] theorem aggTy99 : aggTy Tryz.prog 99 = true:=by kernel_rfl
@[go_sem] theorem zeroOk99 : zeroOk Tryz.prog 99 = true:=by kernel_rfl
@[go_sem] theorem info99 : (Tryz.prog.info? 99).isSome = true:=by kernel_rfl
@[go_sem] theorem bkind99 : bkind Tryz.prog 99 = .struct [(0,1),(1,1),(2,1),(3,1)]:=by kernel_rfl
@[go_sem] theorem fplace99_0 : fplace Tryz.prog 99 0 = some (9,0):=by kernel_rfl
@[go_sem] theorem fplace99_1 : fplace Tryz.prog 99 1 = some (4,1):=by kernel_rfl
@[go_sem] theorem fplace99_2 : fplace Tryz.prog 99 2 = some (3,2):=by kernel_rfl
@[go_sem] theorem fplace99_3 : fplace Tryz.prog 99 3 = some (3,3):=by kernel_rfl
@[go_sem] theorem zeroAV99 : zeroAV Tryz.prog 99 = some (.agg [.str ByteArray.empty,.bool false,.int .i64 0,.int .i64 0]):=by kernel_rfl
@[go_sem] theorem cellsOf100 : Tryz.prog.cellsOf 100 = 4:=by kernel_rfl
@[go_sem] theorem bytesOf100 : Tryz.prog.bytesOf 100 = 40:=by kernel_rfl
@[go_sem] theorem ldk100 : ldk Tryz.prog 100 = some (some 4):=by kernel_rfl
@[go_sem] theorem aggTy100 : aggTy Tryz.prog 100 = true:=by kernel_rfl
@[go_sem] theorem zeroOk100 : zeroOk Tryz.prog 100 = true:=by kernel_rfl
@[go_sem] theorem info100 : (Tryz.prog.info? 100).isSome = true:=by kernel_rfl
@[go_sem] theorem bkind100 : bkind Tryz.prog 100 = .struct [(0,1),(1,1),(2,1),(3,1)]:=by kernel_rfl
@[go_sem] theorem fplace100_0 : fplace Tryz.prog 100 0 = some (9,0):=by kernel_rfl
@[go_sem] theorem fplace100_1 : fplace Tryz.prog 100 1 = some (4,1):=by kernel_rfl
@[go_sem] theorem fplace100_2 : fplace Tryz.prog 100 2 = some (3,2):=by kernel_rfl
@[go_sem] theorem fplace100_3 : fplace Tryz.prog 100 3 = some (3,3):=by kernel_rfl
@[go_sem] theorem cellsOf101 : Tryz.prog.cellsOf 101 = 1:=by kernel_rfl
@[go_sem] theorem bytesOf101 : Tryz.prog.bytesOf 101 = 24:=by kernel_rfl
@[go_sem] theorem ldk101 : ldk Tryz.prog 101 = some none:=by kernel_rfl
@[go_sem] theorem aggTy101 : aggTy Tryz.prog 101 = false:=by kernel_rfl
@[go_sem] theorem und101 : Tryz.prog.underlying 101 = some (.slice 9):=by kernel_rfl
@[go_sem] theorem isSl101 : isSl Tryz.prog 101 = true:=by kernel_rfl
@[go_sem] theorem zeroOk101 : zeroOk Tryz.prog 101 = true:=by kernel_rfl
@[go_sem] theorem info101 : (Tryz.prog.info? 101).isSome = true:=by kernel_rfl
@[go_sem] theorem zeroAV101 : zeroAV Tryz.prog 101 = some (.sl (some 1) []):=by kernel_rfl
@[go_sem] theorem cellsOf102 : Tryz.prog.cellsOf 102 = 2:=by kernel_rfl
@[go_sem] theorem bytesOf102 : Tryz.prog.bytesOf 102 = 24:=by kernel_rfl
@[go_sem] theorem ldk102 : ldk Tryz.prog 102 = some (some 2):=by kernel_rfl
@[go_sem] theorem aggTy102 : aggTy Tryz.prog 102 = true:=by kernel_rfl
@[go_sem] theorem zeroOk102 : zeroOk Tryz.prog 102 = true:=by kernel_rfl
@[go_sem] theorem info102 : (Tryz.prog.info? 102).isSome = true:=by kernel_rfl
@[go_sem] theorem bkind102 : bkind Tryz.prog 102 = .struct [(0,1),(1,1)]:=by kernel_rfl
@[go_sem] theorem fplace102_0 : fplace Tryz.prog 102 0 = some (9,0):=by kernel_rfl
@[go_sem] theorem fplace102_1 : fplace Tryz.prog 102 1 = some (3,1):=by kernel_rfl
@[go_sem] theorem zeroAV102 : zeroAV Tryz.prog 102 = some (.agg [.str ByteArray.empty,.int .i64 0]):=by kernel_rfl
@[go_sem] theorem cellsOf103 : Tryz.prog.cellsOf 103 = 2:=by kernel_rfl
@[go_sem] theorem bytesOf103 : Tryz.prog.bytesOf 103 = 24:=by kernel_rfl
@[go_sem] theorem ldk103 : ldk Tryz.prog 103 = some (some 2):=by kernel_rfl
@[go_sem] theorem aggTy103 : aggTy Tryz.prog 103 = true:=by kernel_rfl
@[go_sem] theorem zeroOk103 : zeroOk Tryz.prog 103 = true:=by kernel_rfl
@[go_sem] theorem info103 : (Tryz.prog.info? 103).isSome = true:=by kernel_rfl
@[go_sem] theorem bkind103 : bkind Tryz.prog 103 = .struct [(0,1),(1,1)]:=by kernel_rfl
@[go_sem] theorem fplace103_0 : fplace Tryz.prog 103 0 = some (9,0):=by kernel_rfl
@[go_sem] theorem fplace103_1 : fplace Tryz.prog 103 1 = some (3,1):=by kernel_rfl
@[go_sem] theorem cellsOf104 : Tryz.prog.cellsOf 104 = 1:=by kernel_rfl
@[go_sem] theorem bytesOf104 : Tryz.prog.bytesOf 104 = 24:=by kernel_rfl
@[go_sem] theorem ldk104 : ldk Tryz.prog 104 = some none:=by kernel_rfl
@[go_sem] theorem aggTy104 : aggTy Tryz.prog 104 = false:=by kernel_rfl
@[go_sem] theorem und104 : Tryz.prog.underlying 104 = some (.slice 106):=by kernel_rfl
@[go_sem] theorem isSl104 : isSl Tryz.prog 104 = true:=by kernel_rfl
@[go_sem] theorem zeroOk104 : zeroOk Tryz.prog 104 = true:=by kernel_rfl
@[go_sem] theorem info104 : (Tryz.prog.info? 104).isSome = true:=by kernel_rfl
@[go_sem] theorem zeroAV104 : zeroAV Tryz.prog 104 = some (.sl (some 9) []):=by kernel_rfl
@[go_sem] theorem cellsOf105 : Tryz.prog.cellsOf 105 = 9:=by kernel_rfl
@[go_sem] theorem bytesOf105 : Tryz.prog.bytesOf 105 = 120:=by kernel_rfl
@[go_sem] theorem ldk105 : ldk Tryz.prog 105 = some (some 9):=by kernel_rfl
@[go_sem] theorem aggTy105 : aggTy Tryz.prog 105 = true:=by kernel_rfl
@[go_sem] theorem zeroOk105 : zeroOk Tryz.prog 105 = true:=by kernel_rfl
@[go_sem] theorem info105 : (Tryz.prog.info? 105).isSome = true:=by kernel_rfl
@[go_sem] theorem bkind105 : bkind Tryz.prog 105 = .struct [(0,1),(1,5),(6,1),(7,1),(8,1)]:=by kernel_rfl
@[go_sem] theorem fplace105_0 : fplace Tryz.prog 105 0 = some (3,0):=by kernel_rfl
@[go_sem] theorem fplace105_1 : fplace Tryz.prog 105 1 = some (40,1):=by kernel_rfl
@[go_sem] theorem fplace105_2 : fplace Tryz.prog 105 2 = some (9,6):=by kernel_rfl
@[go_sem] theorem fplace105_3 : fplace Tryz.prog 105 3 = some (3,7):=by kernel_rfl
@[go_sem] theorem fplace105_4 : fplace Tryz.prog 105 4 = some (104,8):=by kernel_rfl
@[go_sem] theorem zeroAV105 : zeroAV Tryz.prog 105 = some (.agg [.int .i64 0,.int .i64 0,.str ByteArray.empty,.int .i64 0,.int .i64 0,.sl (some 5) [],.str ByteArray.empty,.int .i64 0,.sl (some 9) []]):=by kernel_rfl
@[go_sem] theorem cellsOf106 : Tryz.prog.cellsOf 106 = 9:=by kernel_rfl
@[go_sem] theorem bytesOf106 : Tryz.prog.bytesOf 106 = 120:=by kernel_rfl
@[go_sem] theorem ldk106 : ldk Tryz.prog 106 = some (some 9):=by kernel_rfl
@[go_sem] theorem aggTy106 : aggTy Tryz.prog 106 = true:=by kernel_rfl
@[go_sem] theorem zeroOk106 : zeroOk Tryz.prog 106 = true:=by kernel_rfl
@[go_sem] theorem info106 : (Tryz.prog.info? 106).isSome = true:=by kernel_rfl
@[go_sem] theorem bkind106 : bkind Tryz.prog 106 = .struct [(0,1),(1,5),(6,1),(7,1),(8,1)]:=by kernel_rfl
@[go_sem] theorem fplace106_0 : fplace Tryz.prog 106 0 = some (3,0):=by kernel_rfl
@[go_sem] theorem fplace106_1 : fplace Tryz.prog 106 1 = some (40,1):=by kernel_rfl
@[go_sem] theorem fplace106_2 : fplace Tryz.prog 106 2 = some (9,6):=by kernel_rfl
@[go_sem] theorem fplace106_3 : fplace Tryz.prog 106 3 = some (3,7):=by kernel_rfl
@[go_sem] theorem fplace106_4 : fplace Tryz.prog 106 4 = some (104,8):=by kernel_rfl
@[go_sem] theorem cellsOf107 : Tryz.prog.cellsOf 107 = 1:=by kernel_rfl
@[go_sem] theorem bytesOf107 : Tryz.prog.bytesOf 107 = 8:=by kernel_rfl
@[go_sem] theorem ldk107 : ldk Tryz.prog 107 = some none:=by kernel_rfl
@[go_sem] theorem aggTy107 : aggTy Tryz.prog 107 = false:=by kernel_rfl
@[go_sem] theorem zeroOk107 : zeroOk Tryz.prog 107 = true:=by kernel_rfl
@[go_sem] theorem info107 : (Tryz.prog.info? 107).isSome = true:=by kernel_rfl
@[go_sem] theorem zeroAV107 : zeroAV Tryz.prog 107 = some (.nilf):=by kernel_rfl
@[go_sem] theorem cellsOf108 : Tryz.prog.cellsOf 108 = 6:=by kernel_rfl
@[go_sem] theorem bytesOf108 : Tryz.prog.bytesOf 108 = 80:=by kernel_rfl
@[go_sem] theorem ldk108 : ldk Tryz.prog 108 = some (some 6):=by kernel_rfl
@[go_sem] theorem aggTy108 : aggTy Tryz.prog 108 = true:=by kernel_rfl
@[go_sem] theorem zeroOk108 : zeroOk Tryz.prog 108 = true:=by kernel_rfl
@[go_sem] theorem info108 : (Tryz.prog.info? 108).isSome = true:=by kernel_rfl
@[go_sem] theorem bkind108 : bkind Tryz.prog 108 = .struct [(0,1),(1,1),(2,1),(3,1),(4,1),(5,1)]:=by kernel_rfl
@[go_sem] theorem fplace108_0 : fplace Tryz.prog 108 0 = some (3,0):=by kernel_rfl
@[go_sem] theorem fplace108_1 : fplace Tryz.prog 108 1 = some (9,1):=by kernel_rfl
@[go_sem] theorem fplace108_2 : fplace Tryz.prog 108 2 = some (101,2):=by kernel_rfl
@[go_sem] theorem fplace108_3 : fplace Tryz.prog 108 3 = some (9,3):=by kernel_rfl
@[go_sem] theorem fplace108_4 : fplace Tryz.prog 108 4 = some (3,4):=by kernel_rfl
@[go_sem] theorem fplace108_5 : fplace Tryz.prog 108 5 = some (3,5):=by kernel_rfl
@[go_sem] theorem zeroAV108 : zeroAV Tryz.prog 108 = some (.agg [.int .i64 0,.str ByteArray.empty,.sl (some 1) [],.str ByteArray.empty,.int .i64 0,.int .i64 0]):=by kernel_rfl
@[go_sem] theorem cellsOf109 : Tryz.prog.cellsOf 109 = 6:=by kernel_rfl
@[go_sem] theorem bytesOf109 : Tryz.prog.bytesOf 109 = 80:=by kernel_rfl
@[go_sem] theorem ldk109 : ldk Tryz.prog 109 = some (some 6):=by kernel_rfl
@[go_sem] theorem aggTy109 : aggTy Tryz.prog 109 = true:=by kernel_rfl
@[go_sem] theorem zeroOk109 : zeroOk Tryz.prog 109 = true:=by kernel_rfl
@[go_sem] theorem info109 : (Tryz.prog.info? 109).isSome = true:=by kernel_rfl
@[go_sem] theorem bkind109 : bkind Tryz.prog 109 = .struct [(0,1),(1,1),(2,1),(3,1),(4,1),(5,1)]:=by kernel_rfl
@[go_sem] theorem fplace109_0 : fplace Tryz.prog 109 0 = some (3,0):=by kernel_rfl
@[go_sem] theorem fplace109_1 : fplace Tryz.prog 109 1 = some (9,1):=by kernel_rfl
@[go_sem] theorem fplace109_2 : fplace Tryz.prog 109 2 = some (101,2):=by kernel_rfl
@[go_sem] theorem fplace109_3 : fplace Tryz.prog 109 3 = some (9,3):=by kernel_rfl
@[go_sem] theorem fplace109_4 : fplace Tryz.prog 109 4 = some (3,4):=by kernel_rfl
@[go_sem] theorem fplace109_5 : fplace Tryz.prog 109 5 = some (3,5):=by kernel_rfl
@[go_sem] theorem cellsOf110 : Tryz.prog.cellsOf 110 = 15:=by kernel_rfl
@[go_sem] theorem bytesOf110 : Tryz.prog.bytesOf 110 = 200:=by kernel_rfl
@[go_sem] theorem ldk110 : ldk Tryz.prog 110 = some (some 15):=by kernel_rfl
@[go_sem] theorem aggTy110 : aggTy Tryz.prog 110 = true:=by kernel_rfl
@[go_sem] theorem zeroOk110 : zeroOk Tryz.prog 110 = true:=by kernel_rfl
@[go_sem] theorem info110 : (Tryz.prog.info? 110).isSome = true:=by kernel_rfl
@[go_sem] theorem bkind110 : bkind Tryz.prog 110 = .struct [(0,9),(9,6)]:=by kernel_rfl
@[go_sem] theorem fplace110_0 : fplace Tryz.prog 110 0 = some (106,0):=by kernel_rfl
@[go_sem] theorem fplace110_1 : fplace Tryz.prog 110 1 = some (109,9):=by kernel_rfl
@[go_sem] theorem zeroAV110 : zeroAV Tryz.prog 110 = some (.agg [.int .i64 0,.int .i64 0,.str ByteArray.empty,.int .i64 0,.int .i64 0,.sl (some 5) [],.str ByteArray.empty,.int .i64 0,.sl (some 9) [],.int .i64 0,.str ByteArray.empty,.sl (some 1) [],.str ByteArray.empty,.int .i64 0,.int .i64 0]):=by kernel_rfl
@[go_sem] theorem cellsOf111 : Tryz.prog.cellsOf 111 = 15:=by kernel_rfl
@[go_sem] theorem bytesOf111 : Tryz.prog.bytesOf 111 = 200:=by kernel_rfl
@[go_sem] theorem ldk111 : ldk Tryz.prog 111 = some (some 15):=by kernel_rfl
@[go_sem] theorem aggTy111 : aggTy Tryz.prog 111 = true:=by kernel_rfl
@[go_sem] theorem zeroOk111 : zeroOk Tryz.prog 111 = true:=by kernel_rfl
@[go_sem] theorem info111 : (Tryz.prog.info? 111).isSome = true:=by kernel_rfl
@[go_sem] theorem bkind111 : bkind Tryz.prog 111 = .struct [(0,9),(9,6)]:=by kernel_rfl
@[go_sem] theorem fplace111_0 : fplace Tryz.prog 111 0 = some (106,0):=by kernel_rfl
@[go_sem] theorem fplace111_1 : fplace Tryz.prog 111 1 = some (109,9):=by kernel_rfl
@[go_sem] theorem cellsOf112 : Tryz.prog.cellsOf 112 = 1:=by kernel_rfl
@[go_sem] theorem bytesOf112 : Tryz.prog.bytesOf 112 = 8:=by kernel_rfl
@[go_sem] theorem ldk112 : ldk Tryz.prog 112 = some none:=by kernel_rfl
@[go_sem] theorem aggTy112 : aggTy Tryz.prog 112 = false:=by kernel_rfl
@[go_sem] theorem zeroOk112 : zeroOk Tryz.prog 112 = true:=by kernel_rfl
@[go_sem] theorem info112 : (Tryz.prog.info? 112).isSome = true:=by kernel_rfl
@[go_sem] theorem cellsOf114 : Tryz.prog.cellsOf 114 = 1:=by kernel_rfl
@[go_sem] theorem bytesOf114 : Tryz.prog.bytesOf 114 = 8:=by kernel_rfl
@[go_sem] theorem ldk114 : ldk Tryz.prog 114 = some none:=by kernel_rfl
@[go_sem] theorem aggTy114 : aggTy Tryz.prog 114 = false:=by kernel_rfl
@[go_sem] theorem zeroOk114 : zeroOk Tryz.prog 114 = true:=by kernel_rfl
@[go_sem] theorem info114 : (Tryz.prog.info? 114).isSome = true:=by kernel_rfl
@[go_sem] theorem zeroAV114 : zeroAV Tryz.prog 114 = some (.nilf):=by kernel_rfl
@[go_sem] theorem cellsOf115 : Tryz.prog.cellsOf 115 = 1:=by kernel_rfl
@[go_sem] theorem bytesOf115 : Tryz.prog.bytesOf 115 = 24:=by kernel_rfl
@[go_sem] theorem ldk115 : ldk Tryz.prog 115 = some none:=by kernel_rfl
@[go_sem] theorem aggTy115 : aggTy Tryz.prog 115 = false:=by kernel_rfl
@[go_sem] theorem und115 : Tryz.prog.underlying 115 = some (.slice 117):=by kernel_rfl
@[go_sem] theorem isSl115 : isSl Tryz.prog 115 = true:=by kernel_rfl
@[go_sem] theorem zeroOk115 : zeroOk Tryz.prog 115 = true:=by kernel_rfl
@[go_sem] theorem info115 : (Tryz.prog.info? 115).isSome = true:=by kernel_rfl
@[go_sem] theorem zeroAV115 : zeroAV Tryz.prog 115 = some (.sl (some 12) []):=by kernel_rfl
@[go_sem] theorem cellsOf116 : Tryz.prog.cellsOf 116 = 12:=by kernel_rfl
@[go_sem] theorem bytesOf116 : Tryz.prog.bytesOf 116 = 112:=by kernel_rfl
@[go_sem] theorem ldk116 : ldk Tryz.prog 116 = some (some 12):=by kernel_rfl
@[go_sem] theorem aggTy116 : aggTy Tryz.prog 116 = true:=by kernel_rfl
@[go_sem] theorem zeroOk116 : zeroOk Tryz.prog 116 = true:=by kernel_rfl
@[go_sem] theorem info116 : (Tryz.prog.info? 116).isSome = true:=by kernel_rfl
@[go_sem] theorem bkind116 : bkind Tryz.prog 116 = .struct [(0,1),(1,10),(11,1)]:=by kernel_rfl
@[go_sem] theorem fplace116_0 : fplace Tryz.prog 116 0 = some (3,0):=by kernel_rfl
@[go_sem] theorem fplace116_1 : fplace Tryz.prog 116 1 = some (33,1):=by kernel_rfl
@[go_sem] theorem fplace116_2 : fplace Tryz.prog 116 2 = some (67,11):=by kernel_rfl
@[go_sem] theorem zeroAV116 : zeroAV Tryz.prog 116 = some (.agg [.int .i64 0,.int .i64 0,.int .i64 0,.int .i64 0,.int .i64 0,.int .i64 0,.int .i64 0,.int .i64 0,.int .i64 0,.int .i64 0,.int .i64 0,.sl (some 1) []]):=by kernel_rfl
@[go_sem] theorem cellsOf117 : Tryz.prog.cellsOf 117 = 12:=by kernel_rfl
@[go_sem] theorem bytesOf117 : Tryz.prog.bytesOf 117 = 112:=by kernel_rfl
@[go_sem] theorem ldk117 : ldk Tryz.prog 117 = some (some 12):=by kernel_rfl
@[go_sem] theorem aggTy117 : aggTy Tryz.prog 117 = true:=by kernel_rfl
@[go_sem] theorem zeroOk117 : zeroOk Tryz.prog 117 = true:=by kernel_rfl
@[go_sem] theorem info117 : (Tryz.prog.info? 117).isSome = true:=by kernel_rfl
@[go_sem] theorem bkind117 : bkind Tryz.prog 117 = .struct [(0,1),(1,10),(11,1)]:=by kernel_rfl
@[go_sem] theorem fplace117_0 : fplace Tryz.prog 117 0 = some (3,0):=by kernel_rfl
@[go_sem] theorem fplace117_1 : fplace Tryz.prog 117 1 = some (33,1):=by kernel_rfl
@[go_sem] theorem fplace117_2 : fplace Tryz.prog 117 2 = some (67,11):=by kernel_rfl
@[go_sem] theorem zeroAV117 : zeroAV Tryz.prog 117 = some (.agg [.int .i64 0,.int .i64 0,.int .i64 0,.int .i64 0,.int .i64 0,.int .i64 0,.int .i64 0,.int .i64 0,.int .i64 0,.int .i64 0,.int .i64 0,.sl (some 1) []]):=by kernel_rfl
@[go_sem] theorem cellsOf118 : Tryz.prog.cellsOf 118 = 1:=by kernel_rfl
@[go_sem] theorem bytesOf118 : Tryz.prog.bytesOf 118 = 8:=by kernel_rfl
@[go_sem] theorem ldk118 : ldk Tryz.prog 118 = some none:=by kernel_rfl
@[go_sem] theorem aggTy118 : aggTy Tryz.prog 118 = false:=by kernel_rfl
@[go_sem] theorem zeroOk118 : zeroOk Tryz.prog 118 = true:=by kernel_rfl
@[go_sem] theorem info118 : (Tryz.prog.info? 118).isSome = true:=by kernel_rfl
@[go_sem] theorem zeroAV118 : zeroAV Tryz.prog 118 = some (.nilf):=by kernel_rfl
@[go_sem] theorem cellsOf119 : Tryz.prog.cellsOf 119 = 1:=by kernel_rfl
@[go_sem] theorem bytesOf119 : Tryz.prog.bytesOf 119 = 0:=by kernel_rfl
@[go_sem] theorem ldk119 : ldk Tryz.prog 119 = some none:=by kernel_rfl
@[go_sem] theorem aggTy119 : aggTy Tryz.prog 119 = false:=by kernel_rfl
@[go_sem] theorem zeroOk119 : zeroOk Tryz.prog 119 = true:=by kernel_rfl
@[go_sem] theorem info119 : (Tryz.prog.info? 119).isSome = true:=by kernel_rfl
@[go_sem] theorem cellsOf120 : Tryz.prog.cellsOf 120 = 1:=by kernel_rfl
@[go_sem] theorem bytesOf120 : Tryz.prog.bytesOf 120 = 8:=by kernel_rfl
@[go_sem] theorem ldk120 : ldk Tryz.prog 120 = some none:=by kernel_rfl
@[go_sem] theorem aggTy120 : aggTy Tryz.prog 120 = false:=by kernel_rfl
@[go_sem] theorem zeroOk120 : zeroOk Tryz.prog 120 = true:=by kernel_rfl
@[go_sem] theorem info120 : (Tryz.prog.info? 120).isSome = true:=by kernel_rfl
@[go_sem] theorem zeroAV120 : zeroAV Tryz.prog 120 = some (.nilf):=by kernel_rfl
@[go_sem] theorem cellsOf121 : Tryz.prog.cellsOf 121 = 1:=by kernel_rfl
@[go_sem] theorem bytesOf121 : Tryz.prog.bytesOf 121 = 8:=by kernel_rfl
@[go_sem] theorem ldk121 : ldk Tryz.prog 121 = some none:=by kernel_rfl
@[go_sem] theorem aggTy121 : aggTy Tryz.prog 121 = false:=by kernel_rfl
@[go_sem] theorem zeroOk121 : zeroOk Tryz.prog 121 = true:=by kernel_rfl
@[go_sem] theorem info121 : (Tryz.prog.info? 121).isSome = true:=by kernel_rfl
@[go_sem] theorem zeroAV121 : zeroAV Tryz.prog 121 = some (.nilf):=by kernel_rfl
@[go_sem] theorem cellsOf144 : Tryz.prog.cellsOf 144 = 1:=by kernel_rfl
@[go_sem] theorem bytesOf144 : Tryz.prog.bytesOf 144 = 8:=by kernel_rfl
@[go_sem] theorem ldk144 : ldk Tryz.prog 144 = some none:=by kernel_rfl
@[go_sem] theorem aggTy144 : aggTy Tryz.prog 144 = false:=by kernel_rfl
@[go_sem] theorem zeroOk144 : zeroOk Tryz.prog 144 = true:=by kernel_rfl
@[go_sem] theorem info144 : (Tryz.prog.info? 144).isSome = true:=by kernel_rfl
@[go_sem] theorem zeroAV144 : zeroAV Tryz.prog 144 = some (.nilf):=by kernel_rfl
@[go_sem] theorem cellsOf156 : Tryz.prog.cellsOf 156 = 1:=by kernel_rfl
@[go_sem] theorem bytesOf156 : Tryz.prog.bytesOf 156 = 24:=by kernel_rfl
@[go_sem] theorem ldk156 : ldk Tryz.prog 156 = some none:=by kernel_rfl
@[go_sem] theorem aggTy156 : aggTy Tryz.prog 156 = false:=by kernel_rfl
@[go_sem] theorem und156 : Tryz.prog.underlying 156 = some (.slice 158):=by kernel_rfl
@[go_sem] theorem isSl156 : isSl Tryz.prog 156 = true:=by kernel_rfl
@[go_sem] theorem zeroOk156 : zeroOk Tryz.prog 156 = true:=by kernel_rfl
@[go_sem] theorem info156 : (Tryz.prog.info? 156).isSome = true:=by kernel_rfl
@[go_sem] theorem zeroAV156 : zeroAV Tryz.prog 156 = some (.sl (some 3) []):=by kernel_rfl
@[go_sem] theorem cellsOf157 : Tryz.prog.cellsOf 157 = 3:=by kernel_rfl
@[go_sem] theorem bytesOf157 : Tryz.prog.bytesOf 157 = 48:=by kernel_rfl
@[go_sem] theorem ldk157 : ldk Tryz.prog 157 = some (some 3):=by kernel_rfl
@[go_sem] theorem aggTy157 : aggTy Tryz.prog 157 = true:=by kernel_rfl
@[go_sem] theorem zeroOk157 : zeroOk Tryz.prog 157 = true:=by kernel_rfl
@[go_sem] theorem info157 : (Tryz.prog.info? 157).isSome = true:=by kernel_rfl
@[go_sem] theorem bkind157 : bkind Tryz.prog 157 = .struct [(0,1),(1,1),(2,1)]:=by kernel_rfl
@[go_sem] theorem fplace157_0 : fplace Tryz.prog 157 0 = some (3,0):=by kernel_rfl
@[go_sem] theorem fplace157_1 : fplace Tryz.prog 157 1 = some (9,1):=by kernel_rfl
@[go_sem] theorem fplace157_2 : fplace Tryz.prog 157 2 = some (156,2):=by kernel_rfl
@[go_sem] theorem zeroAV157 : zeroAV Tryz.prog 157 = some (.agg [.int .i64 0,.str ByteArray.empty,.sl (some 3) []]):=by kernel_rfl
@[go_sem] theorem cellsOf158 : Tryz.prog.cellsOf 158 = 3:=by kernel_rfl
@[go_sem] theorem bytesOf158 : Tryz.prog.bytesOf 158 = 48:=by kernel_rfl
@[go_sem] theorem ldk158 : ldk Tryz.prog 158 = some (some 3):=by kernel_rfl
@[go_sem] theorem aggTy158 : aggTy Tryz.prog 158 = true:=by kernel_rfl
@[go_sem] theorem zeroOk158 : zeroOk Tryz.prog 158 = true:=by kernel_rfl
@[go_sem] theorem info158 : (Tryz.prog.info? 158).isSome = true:=by kernel_rfl
@[go_sem] theorem bkind158 : bkind Tryz.prog 158 = .struct [(0,1),(1,1),(2,1)]:=by kernel_rfl
@[go_sem] theorem fplace158_0 : fplace Tryz.prog 158 0 = some (3,0):=by kernel_rfl
@[go_sem] theorem fplace158_1 : fplace Tryz.prog 158 1 = some (9,1):=by kernel_rfl
@[go_sem] theorem fplace158_2 : fplace Tryz.prog 158 2 = some (156,2):=by kernel_rfl
@[go_sem] theorem cellsOf159 : Tryz.prog.cellsOf 159 = 8:=by kernel_rfl
@[go_sem] theorem bytesOf159 : Tryz.prog.bytesOf 159 = 112:=by kernel_rfl
@[go_sem] theorem ldk159 : ldk Tryz.prog 159 = some (some 8):=by kernel_rfl
@[go_sem] theorem aggTy159 : aggTy Tryz.prog 159 = true:=by kernel_rfl
@[go_sem] theorem zeroOk159 : zeroOk Tryz.prog 159 = true:=by kernel_rfl
@[go_sem] theorem info159 : (Tryz.prog.info? 159).isSome = true:=by kernel_rfl
@[go_sem] theorem bkind159 : bkind Tryz.prog 159 = .struct [(0,5),(5,3)]:=by kernel_rfl
@[go_sem] theorem fplace159_0 : fplace Tryz.prog 159 0 = some (40,0):=by kernel_rfl
@[go_sem] theorem fplace159_1 : fplace Tryz.prog 159 1 = some (158,5):=by kernel_rfl
@[go_sem] theorem zeroAV159 : zeroAV Tryz.prog 159 = some (.agg [.int .i64 0,.str ByteArray.empty,.int .i64 0,.int .i64 0,.sl (some 5) [],.int .i64 0,.str ByteArray.empty,.sl (some 3) []]):=by kernel_rfl
@[go_sem] theorem cellsOf160 : Tryz.prog.cellsOf 160 = 8:=by kernel_rfl
@[go_sem] theorem bytesOf160 : Tryz.prog.bytesOf 160 = 112:=by kernel_rfl
@[go_sem] theorem ldk160 : ldk Tryz.prog 160 = some (some 8):=by kernel_rfl
@[go_sem] theorem aggTy160 : aggTy Tryz.prog 160 = true:=by kernel_rfl
@[go_sem] theorem zeroOk160 : zeroOk Tryz.prog 160 = true:=by kernel_rfl
@[go_sem] theorem info160 : (Tryz.prog.info? 160).isSome = true:=by kernel_rfl
@[go_sem] theorem bkind160 : bkind Tryz.prog 160 = .struct [(0,5),(5,3)]:=by kernel_rfl
@[go_sem] theorem fplace160_0 : fplace Tryz.prog 160 0 = some (40,0):=by kernel_rfl
@[go_sem] theorem fplace160_1 : fplace Tryz.prog 160 1 = some (158,5):=by kernel_rfl
@[go_sem] theorem cellsOf162 : Tryz.prog.cellsOf 162 = 2:=by kernel_rfl
@[go_sem] theorem bytesOf162 : Tryz.prog.bytesOf 162 = 16:=by kernel_rfl
@[go_sem] theorem ldk162 : ldk Tryz.prog 162 = some (some 2):=by kernel_rfl
@[go_sem] theorem aggTy162 : aggTy Tryz.prog 162 = true:=by kernel_rfl
@[go_sem] theorem zeroOk162 : zeroOk Tryz.prog 162 = true:=by kernel_rfl
@[go_sem] theorem info162 : (Tryz.prog.info? 162).isSome = true:=by kernel_rfl
@[go_sem] theorem bkind162 : bkind Tryz.prog 162 = .struct [(0,1),(1,1)]:=by kernel_rfl
@[go_sem] theorem fplace162_0 : fplace Tryz.prog 162 0 = some (3,0):=by kernel_rfl
@[go_sem] theorem fplace162_1 : fplace Tryz.prog 162 1 = some (3,1):=by kernel_rfl
@[go_sem] theorem zeroAV162 : zeroAV Tryz.prog 162 = some (.agg [.int .i64 0,.int .i64 0]):=by kernel_rfl
@[go_sem] theorem cellsOf163 : Tryz.prog.cellsOf 163 = 2:=by kernel_rfl
@[go_sem] theorem bytesOf163 : Tryz.prog.bytesOf 163 = 16:=by kernel_rfl
@[go_sem] theorem ldk163 : ldk Tryz.prog 163 = some (some 2):=by kernel_rfl
@[go_sem] theorem aggTy163 : aggTy Tryz.prog 163 = true:=by kernel_rfl
@[go_sem] theorem zeroOk163 : zeroOk Tryz.prog 163 = true:=by kernel_rfl
@[go_sem] theorem info163 : (Tryz.prog.info? 163).isSome = true:=by kernel_rfl
@[go_sem] theorem bkind163 : bkind Tryz.prog 163 = .struct [(0,1),(1,1)]:=by kernel_rfl
@[go_sem] theorem fplace163_0 : fplace Tryz.prog 163 0 = some (3,0):=by kernel_rfl
@[go_sem] theorem fplace163_1 : fplace Tryz.prog 163 1 = some (3,1):=by kernel_rfl
@[go_sem] theorem cellsOf168 : Tryz.prog.cellsOf 168 = 3:=by kernel_rfl
@[go_sem] theorem bytesOf168 : Tryz.prog.bytesOf 168 = 24:=by kernel_rfl
@[go_sem] theorem ldk168 : ldk Tryz.prog 168 = some (some 3):=by kernel_rfl
@[go_sem] theorem aggTy168 : aggTy Tryz.prog 168 = true:=by kernel_rfl
@[go_sem] theorem zeroOk168 : zeroOk Tryz.prog 168 = true:=by kernel_rfl
@[go_sem] theorem info168 : (Tryz.prog.info? 168).isSome = true:=by kernel_rfl
@[go_sem] theorem bkind168 : bkind Tryz.prog 168 = .struct [(0,1),(1,1),(2,1)]:=by kernel_rfl
@[go_sem] theorem fplace168_0 : fplace Tryz.prog 168 0 = some (3,0):=by kernel_rfl
@[go_sem] theorem fplace168_1 : fplace Tryz.prog 168 1 = some (3,1):=by kernel_rfl
@[go_sem] theorem fplace168_2 : fplace Tryz.prog 168 2 = some (3,2):=by kernel_rfl
@[go_sem] theorem zeroAV168 : zeroAV Tryz.prog 168 = some (.agg [.int .i64 0,.int .i64 0,.int .i64 0]):=by kernel_rfl
@[go_sem] theorem cellsOf169 : Tryz.prog.cellsOf 169 = 3:=by kernel_rfl
@[go_sem] theorem bytesOf169 : Tryz.prog.bytesOf 169 = 24:=by kernel_rfl
@[go_sem] theorem ldk169 : ldk Tryz.prog 169 = some (some 3):=by kernel_rfl
@[go_sem] theorem aggTy169 : aggTy Tryz.prog 169 = true:=by kernel_rfl
@[go_sem] theorem zeroOk169 : zeroOk Tryz.prog 169 = true:=by kernel_rfl
@[go_sem] theorem info169 : (Tryz.prog.info? 169).isSome = true:=by kernel_rfl
@[go_sem] theorem bkind169 : bkind Tryz.prog 169 = .struct [(0,1),(1,1),(2,1)]:=by kernel_rfl
@[go_sem] theorem fplace169_0 : fplace Tryz.prog 169 0 = some (3,0):=by kernel_rfl
@[go_sem] theorem fplace169_1 : fplace Tryz.prog 169 1 = some (3,1):=by kernel_rfl
@[go_sem] theorem fplace169_2 : fplace Tryz.prog 169 2 = some (3,2):=by kernel_rfl
@[go_sem] theorem cellsOf188 : Tryz.prog.cellsOf 188 = 1:=by kernel_rfl
@[go_sem] theorem bytesOf188 : Tryz.prog.bytesOf 188 = 8:=by kernel_rfl
@[go_sem] theorem ldk188 : ldk Tryz.prog 188 = some none:=by kernel_rfl
@[go_sem] theorem aggTy188 : aggTy Tryz.prog 188 = false:=by kernel_rfl
@[go_sem] theorem zeroOk188 : zeroOk Tryz.prog 188 = true:=by kernel_rfl
@[go_sem] theorem info188 : (Tryz.prog.info? 188).isSome = true:=by kernel_rfl
@[go_sem] theorem zeroAV188 : zeroAV Tryz.prog 188 = some (.nilf):=by kernel_rfl
@[go_sem] theorem cellsOf189 : Tryz.prog.cellsOf 189 = 1:=by kernel_rfl
@[go_sem] theorem bytesOf189 : Tryz.prog.bytesOf 189 = 8:=by kernel_rfl
@[go_sem] theorem ldk189 : ldk Tryz.prog 189 = some none:=by kernel_rfl
@[go_sem] theorem aggTy189 : aggTy Tryz.prog 189 = false:=by kernel_rfl
@[go_sem] theorem zeroOk189 : zeroOk Tryz.prog 189 = true:=by kernel_rfl
@[go_sem] theorem info189 : (Tryz.prog.info? 189).isSome = true:=by kernel_rfl
@[go_sem] theorem zeroAV189 : zeroAV Tryz.prog 189 = some (.nilf):=by kernel_rfl
@[go_sem] theorem cellsOf212 : Tryz.prog.cellsOf 212 = 4:=by kernel_rfl
@[go_sem] theorem bytesOf212 : Tryz.prog.bytesOf 212 = 32:=by kernel_rfl
@[go_sem] theorem ldk212 : ldk Tryz.prog 212 = some (some 4):=by kernel_rfl
@[go_sem] theorem aggTy212 : aggTy Tryz.prog 212 = true:=by kernel_rfl
@[go_sem] theorem zeroOk212 : zeroOk Tryz.prog 212 = true:=by kernel_rfl
@[go_sem] theorem info212 : (Tryz.prog.info? 212).isSome = true:=by kernel_rfl
@[go_sem] theorem bkind212 : bkind Tryz.prog 212 = .struct [(0,1),(1,1),(2,1),(3,1)]:=by kernel_rfl
@[go_sem] theorem fplace212_0 : fplace Tryz.prog 212 0 = some (3,0):=by kernel_rfl
@[go_sem] theorem fplace212_1 : fplace Tryz.prog 212 1 = some (3,1):=by kernel_rfl
@[go_sem] theorem fplace212_2 : fplace Tryz.prog 212 2 = some (3,2):=by kernel_rfl
@[go_sem] theorem fplace212_3 : fplace Tryz.prog 212 3 = some (3,3):=by kernel_rfl
@[go_sem] theorem zeroAV212 : zeroAV Tryz.prog 212 = some (.agg [.int .i64 0,.int .i64 0,.int .i64 0,.int .i64 0]):=by kernel_rfl
@[go_sem] theorem cellsOf213 : Tryz.prog.cellsOf 213 = 4:=by kernel_rfl
@[go_sem] theorem bytesOf213 : Tryz.prog.bytesOf 213 = 32:=by kernel_rfl
@[go_sem] theorem ldk213 : ldk Tryz.prog 213 = some (some 4):=by kernel_rfl
@[go_sem] theorem aggTy213 : aggTy Tryz.prog 213 = true:=by kernel_rfl
@[go_sem] theorem zeroOk213 : zeroOk Tryz.prog 213 = true:=by kernel_rfl
@[go_sem] theorem info213 : (Tryz.prog.info? 213).isSome = true:=by kernel_rfl
@[go_sem] theorem bkind213 : bkind Tryz.prog 213 = .struct [(0,1),(1,1),(2,1),(3,1)]:=by kernel_rfl
@[go_sem] theorem fplace213_0 : fplace Tryz.prog 213 0 = some (3,0):=by kernel_rfl
@[go_sem] theorem fplace213_1 : fplace Tryz.prog 213 1 = some (3,1):=by kernel_rfl
@[go_sem] theorem fplace213_2 : fplace Tryz.prog 213 2 = some (3,2):=by kernel_rfl
@[go_sem] theorem fplace213_3 : fplace Tryz.prog 213 3 = some (3,3):=by kernel_rfl
@[go_sem] theorem cellsOf221 : Tryz.prog.cellsOf 221 = 1:=by kernel_rfl
@[go_sem] theorem bytesOf221 : Tryz.prog.bytesOf 221 = 8:=by kernel_rfl
@[go_sem] theorem ldk221 : ldk Tryz.prog 221 = some none:=by kernel_rfl
@[go_sem] theorem aggTy221 : aggTy Tryz.prog 221 = false:=by kernel_rfl
@[go_sem] theorem zeroOk221 : zeroOk Tryz.prog 221 = true:=by kernel_rfl
@[go_sem] theorem info221 : (Tryz.prog.info? 221).isSome = true:=by kernel_rfl
@[go_sem] theorem zeroAV221 : zeroAV Tryz.prog 221 = some (.nilf):=by kernel_rfl
@[go_sem] theorem cellsOf247 : Tryz.prog.cellsOf 247 = 2:=by kernel_rfl
@[go_sem] theorem bytesOf247 : Tryz.prog.bytesOf 247 = 16:=by kernel_rfl
@[go_sem] theorem ldk247 : ldk Tryz.prog 247 = some (some 2):=by kernel_rfl
@[go_sem] theorem aggTy247 : aggTy Tryz.prog 247 = true:=by kernel_rfl
@[go_sem] theorem zeroOk247 : zeroOk Tryz.prog 247 = true:=by kernel_rfl
@[go_sem] theorem info247 : (Tryz.prog.info? 247).isSome = true:=by kernel_rfl
@[go_sem] theorem bkind247 : bkind Tryz.prog 247 = .struct [(0,1),(1,1)]:=by kernel_rfl
@[go_sem] theorem fplace247_0 : fplace Tryz.prog 247 0 = some (3,0):=by kernel_rfl
@[go_sem] theorem fplace247_1 : fplace Tryz.prog 247 1 = some (3,1):=by kernel_rfl
@[go_sem] theorem zeroAV247 : zeroAV Tryz.prog 247 = some (.agg [.int .i64 0,.int .i64 0]):=by kernel_rfl
@[go_sem] theorem cellsOf248 : Tryz.prog.cellsOf 248 = 2:=by kernel_rfl
@[go_sem] theorem bytesOf248 : Tryz.prog.bytesOf 248 = 16:=by kernel_rfl
@[go_sem] theorem ldk248 : ldk Tryz.prog 248 = some (some 2):=by kernel_rfl
@[go_sem] theorem aggTy248 : aggTy Tryz.prog 248 = true:=by kernel_rfl
@[go_sem] theorem zeroOk248 : zeroOk Tryz.prog 248 = true:=by kernel_rfl
@[go_sem] theorem info248 : (Tryz.prog.info? 248).isSome = true:=by kernel_rfl
@[go_sem] theorem bkind248 : bkind Tryz.prog 248 = .struct [(0,1),(1,1)]:=by kernel_rfl
@[go_sem] theorem fplace248_0 : fplace Tryz.prog 248 0 = some (3,0):=by kernel_rfl
@[go_sem] theorem fplace248_1 : fplace Tryz.prog 248 1 = some (3,1):=by kernel_rfl
theorem mixed : Tryz.prog.follows .mixedOrders = true:=by kernel_rfl
end Go.AI
set_option linter.defProp false
namespace Go.AI
open Go.Proofs
def h122 : Hint:=hm [28,16] [] [] []
@[go_sem] theorem h122_l : h122.lv 0 = [2,3,4] /\ h122.lv 1 = [4]:=by decide +kernel
@[go_sem] def h122_q:=hplain h122 rfl rfl rfl
@[go_sem] theorem h122_t : h122.tk = [] /\ h122.mt = [] /\ h122.pc = []:=⟨rfl,rfl,rfl⟩
theorem h122_k : FK Tryz.prog 122 Tryz.f122 h122:=⟨by kernel_rfl,by kernel_rfl,Tryz.func122,by kernel_rfl⟩
def h69 : Hint:=hm [6,14,30,1054,30,30,4] [] [] [19,20]
@[go_sem] theorem h69_l : h69.lv 0 = [1,2] /\ h69.lv 1 = [1,2,3] /\ h69.lv 2 = [1,2,3,4] /\ h69.lv 3 = [1,2,3,4,10] /\ h69.lv 4 = [1,2,3,4] /\ h69.lv 5 = [1,2,3,4] /\ h69.lv 6 = [2]:=by decide +kernel
@[go_sem] def h69_q:=hplain h69 rfl rfl rfl
@[go_sem] theorem h69_t : h69.tk = [] /\ h69.mt = [] /\ h69.pc = [19,20]:=⟨rfl,rfl,rfl⟩
theorem h69_k : FK Tryz.prog 69 Tryz.f69 h69:=⟨by kernel_rfl,by kernel_rfl,Tryz.func69,by kernel_rfl⟩
def h166 : Hint:=hm [6,14,270,14,30,262174,30,30,4] [] [] [12,13,27,28]
@[go_sem] theorem h166_l : h166.lv 0 = [1,2] /\ h166.lv 1 = [1,2,3] /\ h166.lv 2 = [1,2,3,8] /\ h166.lv 3 = [1,2,3] /\ h166.lv 4 = [1,2,3,4] /\ h166.lv 5 = [1,2,3,4,18] /\ h166.lv 6 = [1,2,3,4] /\ h166.lv 7 = [1,2,3,4] /\ h166.lv 8 = [2]:=by decide +kernel
@[go_sem] def h166_q:=hplain h166 rfl rfl rfl
@[go_sem] theorem h166_t : h166.tk = [] /\ h166.mt = [] /\ h166.pc = [12,13,27,28]:=⟨rfl,rfl,rfl⟩
theorem h166_k : FK Tryz.prog 166 Tryz.f166 h166:=⟨by kernel_rfl,by kernel_rfl,Tryz.func166,by kernel_rfl⟩
def h119 : Hint:=hm [2,10,24,4] [] [] [6,9]
@[go_sem] theorem h119_l : h119.lv 0 = [1] /\ h119.lv 1 = [1,3] /\ h119.lv 2 = [3,4] /\ h119.lv 3 = [2]:=by decide +kernel
@[go_sem] def h119_q:=hplain h119 rfl rfl rfl
@[go_sem] theorem h119_t : h119.tk = [] /\ h119.mt = [] /\ h119.pc = [6,9]:=⟨rfl,rfl,rfl⟩
theorem h119_k : FK Tryz.prog 119 Tryz.f119 h119:=⟨by kernel_rfl,by kernel_rfl,Tryz.func119,by kernel_rfl⟩
def h65 : Hint:=hm [1,9,4105,9,25,4294967305,4,4] [33] [] [20]
@[go_sem] theorem h65_l : h65.lv 0 = [0] /\ h65.lv 1 = [0,3] /\ h65.lv 2 = [0,3,12] /\ h65.lv 3 = [0,3] /\ h65.lv 4 = [0,3,4] /\ h65.lv 5 = [0,3,32] /\ h65.lv 6 = [2] /\ h65.lv 7 = [2]:=by decide +kernel
@[go_sem] def h65_q:=hplain h65 rfl rfl rfl
@[go_sem] theorem h65_t : h65.tk = [33] /\ h65.mt = [] /\ h65.pc = [20]:=⟨rfl,rfl,rfl⟩
theorem h65_k : FK Tryz.prog 65 Tryz.f65 h65:=⟨by kernel_rfl,by kernel_rfl,Tryz.func65,by kernel_rfl⟩
def h66 : Hint:=hm [2,10,26,538,26,26,4194312,8,4] [] [] [18]
@[go_sem] theorem h66_l : h66.lv 0 = [1] /\ h66.lv 1 = [1,3] /\ h66.lv 2 = [1,3,4] /\ h66.lv 3 = [1,3,4,9] /\ h66.lv 4 = [1,3,4] /\ h66.lv 5 = [1,3,4] /\ h66.lv 6 = [3,22] /\ h66.lv 7 = [3] /\ h66.lv 8 = [2]:=by decide +kernel
@[go_sem] def h66_q:=hplain h66 rfl rfl rfl
@[go_sem] theorem h66_t : h66.tk = [] /\ h66.mt = [] /\ h66.pc = [18]:=⟨rfl,rfl,rfl⟩
theorem h66_k : FK Tryz.prog 66 Tryz.f66 h66:=⟨by kernel_rfl,by kernel_rfl,Tryz.func66,by kernel_rfl⟩
def h120 : Hint:=hm [2,10,26,538,26,26,4194312,8,4] [] [] [18]
@[go_sem] theorem h120_l : h120.lv 0 = [1] /\ h120.lv 1 = [1,3] /\ h120.lv 2 = [1,3,4] /\ h120.lv 3 = [1,3,4,9] /\ h120.lv 4 = [1,3,4] /\ h120.lv 5 = [1,3,4] /\ h120.lv 6 = [3,22] /\ h120.lv 7 = [3] /\ h120.lv 8 = [2]:=by decide +kernel
@[go_sem] def h120_q:=hplain h120 rfl rfl rfl
@[go_sem] theorem h120_t : h120.tk = [] /\ h120.mt = [] /\ h120.pc = [18]:=⟨rfl,rfl,rfl⟩
theorem h120_k : FK Tryz.prog 120 Tryz.f120 h120:=⟨by kernel_rfl,by kernel_rfl,Tryz.func120,by kernel_rfl⟩
def h67 : Hint:=hm [2,10,24,4] [] [] [6,8]
@[go_sem] theorem h67_l : h67.lv 0 = [1] /\ h67.lv 1 = [1,3] /\ h67.lv 2 = [3,4] /\ h67.lv 3 = [2]:=by decide +kernel
@[go_sem] def h67_q:=hplain h67 rfl rfl rfl
@[go_sem] theorem h67_t : h67.tk = [] /\ h67.mt = [] /\ h67.pc = [6,8]:=⟨rfl,rfl,rfl⟩
theorem h67_k : FK Tryz.prog 67 Tryz.f67 h67:=⟨by kernel_rfl,by kernel_rfl,Tryz.func67,by kernel_rfl⟩
def h28 : Hint:=hm [2,8,4] [] [] [5]
@[go_sem] theorem h28_l : h28.lv 0 = [1] /\ h28.lv 1 = [3] /\ h28.lv 2 = [2]:=by decide +kernel
@[go_sem] def h28_q:=hplain h28 rfl rfl rfl
@[go_sem] theorem h28_t : h28.tk = [] /\ h28.mt = [] /\ h28.pc = [5]:=⟨rfl,rfl,rfl⟩
theorem h28_k : FK Tryz.prog 28 Tryz.f28 h28:=⟨by kernel_rfl,by kernel_rfl,Tryz.func28,by kernel_rfl⟩
def h121 : Hint:=hm [6,14,30,1054,30,30,4] [] [] [19,20]
@[go_sem] theorem h121_l : h121.lv 0 = [1,2] /\ h121.lv 1 = [1,2,3] /\ h121.lv 2 = [1,2,3,4] /\ h121.lv 3 = [1,2,3,4,10] /\ h121.lv 4 = [1,2,3,4] /\ h121.lv 5 = [1,2,3,4] /\ h121.lv 6 = [2]:=by decide +kernel
@[go_sem] def h121_q:=hplain h121 rfl rfl rfl
@[go_sem] theorem h121_t : h121.tk = [] /\ h121.mt = [] /\ h121.pc = [19,20]:=⟨rfl,rfl,rfl⟩
theorem h121_k : FK Tryz.prog 121 Tryz.f121 h121:=⟨by kernel_rfl,by kernel_rfl,Tryz.func121,by kernel_rfl⟩
def h68 : Hint:=hm [2,8,4] [] [] [5]
@[go_sem] theorem h68_l : h68.lv 0 = [1] /\ h68.lv 1 = [3] /\ h68.lv 2 = [2]:=by decide +kernel
@[go_sem] def h68_q:=hplain h68 rfl rfl rfl
@[go_sem] theorem h68_t : h68.tk = [] /\ h68.mt = [] /\ h68.pc = [5]:=⟨rfl,rfl,rfl⟩
theorem h68_k : FK Tryz.prog 68 Tryz.f68 h68:=⟨by kernel_rfl,by kernel_rfl,Tryz.func68,by kernel_rfl⟩
def h27 : Hint:=hm [2,10,68719476738,4,18,2199023255570,18,0x2000000000000012,4,34,0x40000000000000022,34,98,226,0x10000000000000000000022,4,4] [] [] [10,50,59,75,82]
@[go_sem] theorem h27_l : h27.lv 0 = [1] /\ h27.lv 1 = [1,3] /\ h27.lv 2 = [1,36] /\ h27.lv 3 = [2] /\ h27.lv 4 = [1,4] /\ h27.lv 5 = [1,4,41] /\ h27.lv 6 = [1,4] /\ h27.lv 7 = [1,4,61] /\ h27.lv 8 = [2] /\ h27.lv 9 = [1,5] /\ h27.lv 10 = [1,5,66] /\ h27.lv 11 = [1,5] /\ h27.lv 12 = [1,5,6] /\ h27.lv 13 = [1,5,6,7] /\ h27.lv 14 = [1,5,88] /\ h27.lv 15 = [2] /\ h27.lv 16 = [2]:=by decide +kernel
@[go_sem] def h27_q:=hplain h27 rfl rfl rfl
@[go_sem] theorem h27_t : h27.tk = [] /\ h27.mt = [] /\ h27.pc = [10,50,59,75,82]:=⟨rfl,rfl,rfl⟩
theorem h27_k : FK Tryz.prog 27 Tryz.f27 h27:=⟨by kernel_rfl,by kernel_rfl,Tryz.func27,by kernel_rfl⟩
def h73 : Hint:=hm [1,9,521,9,25,57,0x800000000009,4,4] [] [] []
@[go_sem] theorem h73_l : h73.lv 0 = [0] /\ h73.lv 1 = [0,3] /\ h73.lv 2 = [0,3,9] /\ h73.lv 3 = [0,3] /\ h73.lv 4 = [0,3,4] /\ h73.lv 5 = [0,3,4,5] /\ h73.lv 6 = [0,3,47] /\ h73.lv 7 = [2] /\ h73.lv 8 = [2]:=by decide +kernel
@[go_sem] def h73_q:=hplain h73 rfl rfl rfl
@[go_sem] theorem h73_t : h73.tk = [] /\ h73.mt = [] /\ h73.pc = []:=⟨rfl,rfl,rfl⟩
theorem h73_k : FK Tryz.prog 73 Tryz.f73 h73:=⟨by kernel_rfl,by kernel_rfl,Tryz.func73,by kernel_rfl⟩
def h170 : Hint:=hm [6,16] [] [] []
@[go_sem] theorem h170_l : h170.lv 0 = [1,2] /\ h170.lv 1 = [4]:=by decide +kernel
@[go_sem] def h170_q:=hplain h170 rfl rfl rfl
@[go_sem] theorem h170_t : h170.tk = [] /\ h170.mt = [] /\ h170.pc = []:=⟨rfl,rfl,rfl⟩
theorem h170_k : FK Tryz.prog 170 Tryz.f170 h170:=⟨by kernel_rfl,by kernel_rfl,Tryz.func170,by kernel_rfl⟩
def h167 : Hint:=hm [6,16] [] [] [7]
@[go_sem] theorem h167_l : h167.lv 0 = [1,2] /\ h167.lv 1 = [4]:=by decide +kernel
@[go_sem] def h167_q:=hplain h167 rfl rfl rfl
@[go_sem] theorem h167_t : h167.tk = [] /\ h167.mt = [] /\ h167.pc = [7]:=⟨rfl,rfl,rfl⟩
theorem h167_k : FK Tryz.prog 167 Tryz.f167 h167:=⟨by kernel_rfl,by kernel_rfl,Tryz.func167,by kernel_rfl⟩
def h123 : Hint:=hm [12,44,262156,16,76,8388684,76,204,17179869260,16,332,137438953804,332,4503599627370828,16,524,0x20000000000020c,524,1548,0x800000000000000060c,16,3596,0x40000000000000000e0c,3596,0x100000000000000000000e0c,16,4104,0x2000000000000000000001008,4104,0x800000000000000000000000001008,16,12296,0x4000000000000000000000000003008,12296,0x20000000000000000000000000000003008,16,16] [] [] [16,32,107,117]
@[go_sem] theorem h123_l : h123.lv 0 = [2,3] /\ h123.lv 1 = [2,3,5] /\ h123.lv 2 = [2,3,18] /\ h123.lv 3 = [4] /\ h123.lv 4 = [2,3,6] /\ h123.lv 5 = [2,3,6,23] /\ h123.lv 6 = [2,3,6] /\ h123.lv 7 = [2,3,6,7] /\ h123.lv 8 = [2,3,6,34] /\ h123.lv 9 = [4] /\ h123.lv 10 = [2,3,6,8] /\ h123.lv 11 = [2,3,6,8,37] /\ h123.lv 12 = [2,3,6,8] /\ h123.lv 13 = [2,3,6,8,52] /\ h123.lv 14 = [4] /\ h123.lv 15 = [2,3,9] /\ h123.lv 16 = [2,3,9,57] /\ h123.lv 17 = [2,3,9] /\ h123.lv 18 = [2,3,9,10] /\ h123.lv 19 = [2,3,9,10,75] /\ h123.lv 20 = [4] /\ h123.lv 21 = [2,3,9,10,11] /\ h123.lv 22 = [2,3,9,10,11,78] /\ h123.lv 23 = [2,3,9,10,11] /\ h123.lv 24 = [2,3,9,10,11,92] /\ h123.lv 25 = [4] /\ h123.lv 26 = [3,12] /\ h123.lv 27 = [3,12,97] /\ h123.lv 28 = [3,12] /\ h123.lv 29 = [3,12,119] /\ h123.lv 30 = [4] /\ h123.lv 31 = [3,12,13] /\ h123.lv 32 = [3,12,13,122] /\ h123.lv 33 = [3,12,13] /\ h123.lv 34 = [3,12,13,137] /\ h123.lv 35 = [4] /\ h123.lv 36 = [4]:=by decide +kernel
@[go_sem] def h123_q:=hplain h123 rfl rfl rfl
@[go_sem] theorem h123_t : h123.tk = [] /\ h123.mt = [] /\ h123.pc = [16,32,107,117]:=⟨rfl,rfl,rfl⟩
theorem h123_k : FK Tryz.prog 123 Tryz.f123 h123:=⟨by kernel_rfl,by kernel_rfl,Tryz.func123,by kernel_rfl⟩
def h234 : Hint:=hm [2,1024,4,4] [] [] []
@[go_sem] theorem h234_l : h234.lv 0 = [1] /\ h234.lv 1 = [10] /\ h234.lv 2 = [2] /\ h234.lv 3 = [2]:=by decide +kernel
@[go_sem] def h234_q:=hplain h234 rfl rfl rfl
@[go_sem] theorem h234_t : h234.tk = [] /\ h234.mt = [] /\ h234.pc = []:=⟨rfl,rfl,rfl⟩
theorem h234_k : FK Tryz.prog 234 Tryz.f234 h234:=⟨by kernel_rfl,by kernel_rfl,Tryz.func234,by kernel_rfl⟩
def h172 : Hint:=hm [6,34,8224,16,16] [] [] [7]
@[go_sem] theorem h172_l : h172.lv 0 = [1,2] /\ h172.lv 1 = [1,5] /\ h172.lv 2 = [5,13] /\ h172.lv 3 = [4] /\ h172.lv 4 = [4]:=by decide +kernel
@[go_sem] def h172_q:=hplain h172 rfl rfl rfl
@[go_sem] theorem h172_t : h172.tk = [] /\ h172.mt = [] /\ h172.pc = [7]:=⟨rfl,rfl,rfl⟩
theorem h172_k : FK Tryz.prog 172 Tryz.f172 h172:=⟨by kernel_rfl,by kernel_rfl,Tryz.func172,by kernel_rfl⟩
def h241 : Hint:=hm [12,2199023255564,16,44,70368744177708,44,108,0x200000000000002c,16,16] [] [] [59]
@[go_sem] theorem h241_l : h241.lv 0 = [2,3] /\ h241.lv 1 = [2,3,41] /\ h241.lv 2 = [4] /\ h241.lv 3 = [2,3,5] /\ h241.lv 4 = [2,3,5,46] /\ h241.lv 5 = [2,3,5] /\ h241.lv 6 = [2,3,5,6] /\ h241.lv 7 = [2,3,5,61] /\ h241.lv 8 = [4] /\ h241.lv 9 = [4]:=by decide +kernel
@[go_sem] def h241_q:=hplain h241 rfl rfl rfl
@[go_sem] theorem h241_t : h241.tk = [] /\ h241.mt = [] /\ h241.pc = [59]:=⟨rfl,rfl,rfl⟩
theorem h241_k : FK Tryz.prog 241 Tryz.f241 h241:=⟨by kernel_rfl,by kernel_rfl,Tryz.func241,by kernel_rfl⟩
def h308 : Hint:=hm [1,4] [] [] []
@[go_sem] theorem h308_l : h308.lv 0 = [0] /\ h308.lv 1 = [2]:=by decide +kernel
@[go_sem] def h308_q:=hplain h308 rfl rfl rfl
@[go_sem] theorem h308_t : h308.tk = [] /\ h308.mt = [] /\ h308.pc = []:=⟨rfl,rfl,rfl⟩
theorem h308_k : FK Tryz.prog 308 Tryz.f308 h308:=⟨by kernel_rfl,by kernel_rfl,Tryz.func308,by kernel_rfl⟩
def h309 : Hint:=hm [1,9,25,537,25,131097,4,4] [] [] [5]
@[go_sem] theorem h309_l : h309.lv 0 = [0] /\ h309.lv 1 = [0,3] /\ h309.lv 2 = [0,3,4] /\ h309.lv 3 = [0,3,4,9] /\ h309.lv 4 = [0,3,4] /\ h309.lv 5 = [0,3,4,17] /\ h309.lv 6 = [2] /\ h309.lv 7 = [2]:=by decide +kernel
@[go_sem] def h309_q:=hplain h309 rfl rfl rfl
@[go_sem] theorem h309_t : h309.tk = [] /\ h309.mt = [] /\ h309.pc = [5]:=⟨rfl,rfl,rfl⟩
theorem h309_k : FK Tryz.prog 309 Tryz.f309 h309:=⟨by kernel_rfl,by kernel_rfl,Tryz.func309,by kernel_rfl⟩
def h347 : Hint:=hm [1,4] [] [] []
@[go_sem] theorem h347_l : h347.lv 0 = [0] /\ h347.lv 1 = [2]:=by decide +kernel
@[go_sem] def h347_q:=hplain h347 rfl rfl rfl
@[go_sem] theorem h347_t : h347.tk = [] /\ h347.mt = [] /\ h347.pc = []:=⟨rfl,rfl,rfl⟩
theorem h347_k : FK Tryz.prog 347 Tryz.f347 h347:=⟨by kernel_rfl,by kernel_rfl,Tryz.func347,by kernel_rfl⟩
def h327 : Hint:=hm [1,9,25,4] [] [] [6,8]
@[go_sem] theorem h327_l : h327.lv 0 = [0] /\ h327.lv 1 = [0,3] /\ h327.lv 2 = [0,3,4] /\ h327.lv 3 = [2]:=by decide +kernel
@[go_sem] def h327_q:=hplain h327 rfl rfl rfl
@[go_sem] theorem h327_t : h327.tk = [] /\ h327.mt = [] /\ h327.pc = [6,8]:=⟨rfl,rfl,rfl⟩
theorem h327_k : FK Tryz.prog 327 Tryz.f327 h327:=⟨by kernel_rfl,by kernel_rfl,Tryz.func327,by kernel_rfl⟩
def h310 : Hint:=hm [1,9,265,25,16393,9,4] [] [] [12]
@[go_sem] theorem h310_l : h310.lv 0 = [0] /\ h310.lv 1 = [0,3] /\ h310.lv 2 = [0,3,8] /\ h310.lv 3 = [0,3,4] /\ h310.lv 4 = [0,3,14] /\ h310.lv 5 = [0,3] /\ h310.lv 6 = [2]:=by decide +kernel
@[go_sem] def h310_q:=hplain h310 rfl rfl rfl
@[go_sem] theorem h310_t : h310.tk = [] /\ h310.mt = [] /\ h310.pc = [12]:=⟨rfl,rfl,rfl⟩
theorem h310_k : FK Tryz.prog 310 Tryz.f310 h310:=⟨by kernel_rfl,by kernel_rfl,Tryz.func310,by kernel_rfl⟩
def h283 : Hint:=hm [1,4097,4,9,25,4] [] [] [15,17,21]
@[go_sem] theorem h283_l : h283.lv 0 = [0] /\ h283.lv 1 = [0,12] /\ h283.lv 2 = [2] /\ h283.lv 3 = [0,3] /\ h283.lv 4 = [0,3,4] /\ h283.lv 5 = [2]:=by decide +kernel
@[go_sem] def h283_q:=hplain h283 rfl rfl rfl
@[go_sem] theorem h283_t : h283.tk = [] /\ h283.mt = [] /\ h283.pc = [15,17,21]:=⟨rfl,rfl,rfl⟩
theorem h283_k : FK Tryz.prog 283 Tryz.f283 h283:=⟨by kernel_rfl,by kernel_rfl,Tryz.func283,by kernel_rfl⟩
def h235 : Hint:=hm [1,4] [] [] [4]
@[go_sem] theorem h235_l : h235.lv 0 = [0] /\ h235.lv 1 = [2]:=by decide +kernel
@[go_sem] def h235_q:=hplain h235 rfl rfl rfl
@[go_sem] theorem h235_t : h235.tk = [] /\ h235.mt = [] /\ h235.pc = [4]:=⟨rfl,rfl,rfl⟩
theorem h235_k : FK Tryz.prog 235 Tryz.f235 h235:=⟨by kernel_rfl,by kernel_rfl,Tryz.func235,by kernel_rfl⟩
def h240 : Hint:=hm [1,9,4] [] [] [5]
@[go_sem] theorem h240_l : h240.lv 0 = [0] /\ h240.lv 1 = [0,3] /\ h240.lv 2 = [2]:=by decide +kernel
@[go_sem] def h240_q:=hplain h240 rfl rfl rfl
@[go_sem] theorem h240_t : h240.tk = [] /\ h240.mt = [] /\ h240.pc = [5]:=⟨rfl,rfl,rfl⟩
theorem h240_k : FK Tryz.prog 240 Tryz.f240 h240:=⟨by kernel_rfl,by kernel_rfl,Tryz.func240,by kernel_rfl⟩
def h180 : Hint:=hm [2,10,26,58,122,250,34359738618,103079215354,103079215354,194,1133871366394,194,0x80008000000fa,194,0x800000008000000ea,194,0x80000000000008000000e2,130,194,0x400000000000008000000e2,0x400000000000008000000e2,130,194,0x4000000000000000000000c2,194,0x10000000000000000000000000000042,4,322,0x80000000000000000000000000000142,322,834,0x20000000000000000000000000000000142,4,4] [] [] [12,135]
@[go_sem] theorem h180_l : h180.lv 0 = [1] /\ h180.lv 1 = [1,3] /\ h180.lv 2 = [1,3,4] /\ h180.lv 3 = [1,3,4,5] /\ h180.lv 4 = [1,3,4,5,6] /\ h180.lv 5 = [1,3,4,5,6,7] /\ h180.lv 6 = [1,3,4,5,6,7,35] /\ h180.lv 7 = [1,3,4,5,6,7,35,36] /\ h180.lv 8 = [1,3,4,5,6,7,35,36] /\ h180.lv 9 = [1,6,7] /\ h180.lv 10 = [1,3,4,5,6,7,35,40] /\ h180.lv 11 = [1,6,7] /\ h180.lv 12 = [1,3,4,5,6,7,35,51] /\ h180.lv 13 = [1,6,7] /\ h180.lv 14 = [1,3,5,6,7,35,67] /\ h180.lv 15 = [1,6,7] /\ h180.lv 16 = [1,5,6,7,35,87] /\ h180.lv 17 = [1,7] /\ h180.lv 18 = [1,6,7] /\ h180.lv 19 = [1,5,6,7,35,90] /\ h180.lv 20 = [1,5,6,7,35,90] /\ h180.lv 21 = [1,7] /\ h180.lv 22 = [1,6,7] /\ h180.lv 23 = [1,6,7,94] /\ h180.lv 24 = [1,6,7] /\ h180.lv 25 = [1,6,124] /\ h180.lv 26 = [2] /\ h180.lv 27 = [1,6,8] /\ h180.lv 28 = [1,6,8,127] /\ h180.lv 29 = [1,6,8] /\ h180.lv 30 = [1,6,8,9] /\ h180.lv 31 = [1,6,8,137] /\ h180.lv 32 = [2] /\ h180.lv 33 = [2]:=by decide +kernel
@[go_sem] def h180_q:=hplain h180 rfl rfl rfl
@[go_sem] theorem h180_t : h180.tk = [] /\ h180.mt = [] /\ h180.pc = [12,135]:=⟨rfl,rfl,rfl⟩
theorem h180_k : FK Tryz.prog 180 Tryz.f180 h180:=⟨by kernel_rfl,by kernel_rfl,Tryz.func180,by kernel_rfl⟩
def h179 : Hint:=hm [2,10,26,58,122,250,67109114,201326842,194,34426847482,194,0x80000040000f2,0x80000040000f2,130,194,0x4000000000000f2,130,194,0x1000000000000000042,4,322,0x8000000000000000142,322,834,0x2000000000000000000142,4,4] [] [] [12,16,31,83]
@[go_sem] theorem h179_l : h179.lv 0 = [1] /\ h179.lv 1 = [1,3] /\ h179.lv 2 = [1,3,4] /\ h179.lv 3 = [1,3,4,5] /\ h179.lv 4 = [1,3,4,5,6] /\ h179.lv 5 = [1,3,4,5,6,7] /\ h179.lv 6 = [1,3,4,5,6,7,26] /\ h179.lv 7 = [1,3,4,5,6,7,26,27] /\ h179.lv 8 = [1,6,7] /\ h179.lv 9 = [1,3,4,5,6,7,26,35] /\ h179.lv 10 = [1,6,7] /\ h179.lv 11 = [1,4,5,6,7,26,51] /\ h179.lv 12 = [1,4,5,6,7,26,51] /\ h179.lv 13 = [1,7] /\ h179.lv 14 = [1,6,7] /\ h179.lv 15 = [1,4,5,6,7,58] /\ h179.lv 16 = [1,7] /\ h179.lv 17 = [1,6,7] /\ h179.lv 18 = [1,6,72] /\ h179.lv 19 = [2] /\ h179.lv 20 = [1,6,8] /\ h179.lv 21 = [1,6,8,75] /\ h179.lv 22 = [1,6,8] /\ h179.lv 23 = [1,6,8,9] /\ h179.lv 24 = [1,6,8,85] /\ h179.lv 25 = [2] /\ h179.lv 26 = [2]:=by decide +kernel
@[go_sem] def h179_q:=hplain h179 rfl rfl rfl
@[go_sem] theorem h179_t : h179.tk = [] /\ h179.mt = [] /\ h179.pc = [12,16,31,83]:=⟨rfl,rfl,rfl⟩
theorem h179_k : FK Tryz.prog 179 Tryz.f179 h179:=⟨by kernel_rfl,by kernel_rfl,Tryz.func179,by kernel_rfl⟩
def h129 : Hint:=hm [2,4] [] [] [4,6,7]
@[go_sem] theorem h129_l : h129.lv 0 = [1] /\ h129.lv 1 = [2]:=by decide +kernel
@[go_sem] def h129_q:=hplain h129 rfl rfl rfl
@[go_sem] theorem h129_t : h129.tk = [] /\ h129.mt = [] /\ h129.pc = [4,6,7]:=⟨rfl,rfl,rfl⟩
theorem h129_k : FK Tryz.prog 129 Tryz.f129 h129:=⟨by kernel_rfl,by kernel_rfl,Tryz.func129,by kernel_rfl⟩
def h325 : Hint:=hm [12,0x80000000000c,16,44,4503599627370540,44,0x2000000000000002c,16,16] [] [] []
@[go_sem] theorem h325_l : h325.lv 0 = [2,3] /\ h325.lv 1 = [2,3,47] /\ h325.lv 2 = [4] /\ h325.lv 3 = [2,3,5] /\ h325.lv 4 = [2,3,5,52] /\ h325.lv 5 = [2,3,5] /\ h325.lv 6 = [2,3,5,65] /\ h325.lv 7 = [4] /\ h325.lv 8 = [4]:=by decide +kernel
@[go_sem] def h325_q:=hplain h325 rfl rfl rfl
@[go_sem] theorem h325_t : h325.tk = [] /\ h325.mt = [] /\ h325.pc = []:=⟨rfl,rfl,rfl⟩
theorem h325_k : FK Tryz.prog 325 Tryz.f325 h325:=⟨by kernel_rfl,by kernel_rfl,Tryz.func325,by kernel_rfl⟩
def h307 : Hint:=hm [2,10,4098,4,18,536870914,4,34,17179869218,34,98,17592186044450,4,130,386,0x200000000000182,0x600000000000182,4,0x200200000000000182,4,0x20000200000000000182,4,0x2000000000200000000000182,4,0x200000000000000200000000000182,4,0x8000000000000000000000000000002,4,4] [] [] [11,15,42,47]
@[go_sem] theorem h307_l : h307.lv 0 = [1] /\ h307.lv 1 = [1,3] /\ h307.lv 2 = [1,12] /\ h307.lv 3 = [2] /\ h307.lv 4 = [1,4] /\ h307.lv 5 = [1,29] /\ h307.lv 6 = [2] /\ h307.lv 7 = [1,5] /\ h307.lv 8 = [1,5,34] /\ h307.lv 9 = [1,5] /\ h307.lv 10 = [1,5,6] /\ h307.lv 11 = [1,5,44] /\ h307.lv 12 = [2] /\ h307.lv 13 = [1,7] /\ h307.lv 14 = [1,7,8] /\ h307.lv 15 = [1,7,8,57] /\ h307.lv 16 = [1,7,8,57,58] /\ h307.lv 17 = [2] /\ h307.lv 18 = [1,7,8,57,69] /\ h307.lv 19 = [2] /\ h307.lv 20 = [1,7,8,57,77] /\ h307.lv 21 = [2] /\ h307.lv 22 = [1,7,8,57,97] /\ h307.lv 23 = [2] /\ h307.lv 24 = [1,7,8,57,117] /\ h307.lv 25 = [2] /\ h307.lv 26 = [1,123] /\ h307.lv 27 = [2] /\ h307.lv 28 = [2]:=by decide +kernel
@[go_sem] def h307_q:=hplain h307 rfl rfl rfl
@[go_sem] theorem h307_t : h307.tk = [] /\ h307.mt = [] /\ h307.pc = [11,15,42,47]:=⟨rfl,rfl,rfl⟩
theorem h307_k : FK Tryz.prog 307 Tryz.f307 h307:=⟨by kernel_rfl,by kernel_rfl,Tryz.func307,by kernel_rfl⟩
def h278 : Hint:=hm [2,8,128,4,4] [] [] [5]
@[go_sem] theorem h278_l : h278.lv 0 = [1] /\ h278.lv 1 = [3] /\ h278.lv 2 = [7] /\ h278.lv 3 = [2] /\ h278.lv 4 = [2]:=by decide +kernel
@[go_sem] def h278_q:=hplain h278 rfl rfl rfl
@[go_sem] theorem h278_t : h278.tk = [] /\ h278.mt = [] /\ h278.pc = [5]:=⟨rfl,rfl,rfl⟩
theorem h278_k : FK Tryz.prog 278 Tryz.f278 h278:=⟨by kernel_rfl,by kernel_rfl,Tryz.func278,by kernel_rfl⟩
def h228 : Hint:=hm [1,257,4,9,4105,9,25,4194329,4,41,2147483689,4,4] [] [] [20,29]
@[go_sem] theorem h228_l : h228.lv 0 = [0] /\ h228.lv 1 = [0,8] /\ h228.lv 2 = [2] /\ h228.lv 3 = [0,3] /\ h228.lv 4 = [0,3,12] /\ h228.lv 5 = [0,3] /\ h228.lv 6 = [0,3,4] /\ h228.lv 7 = [0,3,4,22] /\ h228.lv 8 = [2] /\ h228.lv 9 = [0,3,5] /\ h228.lv 10 = [0,3,5,31] /\ h228.lv 11 = [2] /\ h228.lv 12 = [2]:=by decide +kernel
@[go_sem] def h228_q:=hplain h228 rfl rfl rfl
@[go_sem] theorem h228_t : h228.tk = [] /\ h228.mt = [] /\ h228.pc = [20,29]:=⟨rfl,rfl,rfl⟩
theorem h228_k : FK Tryz.prog 228 Tryz.f228 h228:=⟨by kernel_rfl,by kernel_rfl,Tryz.func228,by kernel_rfl⟩
def h242 : Hint:=hm [19,275,48,83,8275,83,4194387,48,48] [23] [] [9]
@[go_sem] theorem h242_l : h242.lv 0 = [0,1,4] /\ h242.lv 1 = [0,1,4,8] /\ h242.lv 2 = [4,5] /\ h242.lv 3 = [0,1,4,6] /\ h242.lv 4 = [0,1,4,6,13] /\ h242.lv 5 = [0,1,4,6] /\ h242.lv 6 = [0,1,4,6,22] /\ h242.lv 7 = [4,5] /\ h242.lv 8 = [4,5]:=by decide +kernel
@[go_sem] def h242_q:=hplain h242 rfl rfl rfl
@[go_sem] theorem h242_t : h242.tk = [23] /\ h242.mt = [] /\ h242.pc = [9]:=⟨rfl,rfl,rfl⟩
theorem h242_k : FK Tryz.prog 242 Tryz.f242 h242:=⟨by kernel_rfl,by kernel_rfl,Tryz.func242,by kernel_rfl⟩
def h181 : Hint:=hm [2,10,26,2074,26,26,4] [14,22] [] [20]
@[go_sem] theorem h181_l : h181.lv 0 = [1] /\ h181.lv 1 = [1,3] /\ h181.lv 2 = [1,3,4] /\ h181.lv 3 = [1,3,4,11] /\ h181.lv 4 = [1,3,4] /\ h181.lv 5 = [1,3,4] /\ h181.lv 6 = [2]:=by decide +kernel
@[go_sem] def h181_q:=hplain h181 rfl rfl rfl
@[go_sem] theorem h181_t : h181.tk = [14,22] /\ h181.mt = [] /\ h181.pc = [20]:=⟨rfl,rfl,rfl⟩
theorem h181_k : FK Tryz.prog 181 Tryz.f181 h181:=⟨by kernel_rfl,by kernel_rfl,Tryz.func181,by kernel_rfl⟩
def h285 : Hint:=hm [1,9,25,153,25,25,4] [] [] []
@[go_sem] theorem h285_l : h285.lv 0 = [0] /\ h285.lv 1 = [0,3] /\ h285.lv 2 = [0,3,4] /\ h285.lv 3 = [0,3,4,7] /\ h285.lv 4 = [0,3,4] /\ h285.lv 5 = [0,3,4] /\ h285.lv 6 = [2]:=by decide +kernel
@[go_sem] def h285_q:=hplain h285 rfl rfl rfl
@[go_sem] theorem h285_t : h285.tk = [] /\ h285.mt = [] /\ h285.pc = []:=⟨rfl,rfl,rfl⟩
theorem h285_k : FK Tryz.prog 285 Tryz.f285 h285:=⟨by kernel_rfl,by kernel_rfl,Tryz.func285,by kernel_rfl⟩
def h243 : Hint:=hm [2,4] [] [] [5]
@[go_sem] theorem h243_l : h243.lv 0 = [1] /\ h243.lv 1 = [2]:=by decide +kernel
@[go_sem] def h243_q:=hplain h243 rfl rfl rfl
@[go_sem] theorem h243_t : h243.tk = [] /\ h243.mt = [] /\ h243.pc = [5]:=⟨rfl,rfl,rfl⟩
theorem h243_k : FK Tryz.prog 243 Tryz.f243 h243:=⟨by kernel_rfl,by kernel_rfl,Tryz.func243,by kernel_rfl⟩
def h182 : Hint:=hm [9,1048585,16,104,536870952,16,168,17179869352,168,4503599627370496,16,16] [22] [] [25,39]
@[go_sem] theorem h182_l : h182.lv 0 = [0,3] /\ h182.lv 1 = [0,3,20] /\ h182.lv 2 = [4] /\ h182.lv 3 = [3,5,6] /\ h182.lv 4 = [3,5,29] /\ h182.lv 5 = [4] /\ h182.lv 6 = [3,5,7] /\ h182.lv 7 = [3,5,7,34] /\ h182.lv 8 = [3,5,7] /\ h182.lv 9 = [52] /\ h182.lv 10 = [4] /\ h182.lv 11 = [4]:=by decide +kernel
@[go_sem] def h182_q:=hplain h182 rfl rfl rfl
@[go_sem] theorem h182_t : h182.tk = [22] /\ h182.mt = [] /\ h182.pc = [25,39]:=⟨rfl,rfl,rfl⟩
theorem h182_k : FK Tryz.prog 182 Tryz.f182 h182:=⟨by kernel_rfl,by kernel_rfl,Tryz.func182,by kernel_rfl⟩
def h131 : Hint:=hm [9,33,97,8289,97,225,8388833,16,16] [] [] [9,21]
@[go_sem] theorem h131_l : h131.lv 0 = [0,3] /\ h131.lv 1 = [0,5] /\ h131.lv 2 = [0,5,6] /\ h131.lv 3 = [0,5,6,13] /\ h131.lv 4 = [0,5,6] /\ h131.lv 5 = [0,5,6,7] /\ h131.lv 6 = [0,5,6,7,23] /\ h131.lv 7 = [4] /\ h131.lv 8 = [4]:=by decide +kernel
@[go_sem] def h131_q:=hplain h131 rfl rfl rfl
@[go_sem] theorem h131_t : h131.tk = [] /\ h131.mt = [] /\ h131.pc = [9,21]:=⟨rfl,rfl,rfl⟩
theorem h131_k : FK Tryz.prog 131 Tryz.f131 h131:=⟨by kernel_rfl,by kernel_rfl,Tryz.func131,by kernel_rfl⟩
def h232 : Hint:=hm [2,10,26,2074,26,26,4] [14,22] [] [20]
@[go_sem] theorem h232_l : h232.lv 0 = [1] /\ h232.lv 1 = [1,3] /\ h232.lv 2 = [1,3,4] /\ h232.lv 3 = [1,3,4,11] /\ h232.lv 4 = [1,3,4] /\ h232.lv 5 = [1,3,4] /\ h232.lv 6 = [2]:=by decide +kernel
@[go_sem] def h232_q:=hplain h232 rfl rfl rfl
@[go_sem] theorem h232_t : h232.tk = [14,22] /\ h232.mt = [] /\ h232.pc = [20]:=⟨rfl,rfl,rfl⟩
theorem h232_k : FK Tryz.prog 232 Tryz.f232 h232:=⟨by kernel_rfl,by kernel_rfl,Tryz.func232,by kernel_rfl⟩
def h229 : Hint:=hx [9,41,8233,16,97,225,1048801,225,268435681,225,2199023255777,993,9007199254741473,225,0x20000000000000e1,225,0x80000000000000e1,16,16] [] [] [] [11,16,35,49,60] [(7,1)] []
@[go_sem] theorem h229_l : h229.lv 0 = [0,3] /\ h229.lv 1 = [0,3,5] /\ h229.lv 2 = [0,3,5,13] /\ h229.lv 3 = [4] /\ h229.lv 4 = [0,5,6] /\ h229.lv 5 = [0,5,6,7] /\ h229.lv 6 = [0,5,6,7,20] /\ h229.lv 7 = [0,5,6,7] /\ h229.lv 8 = [0,5,6,7,28] /\ h229.lv 9 = [0,5,6,7] /\ h229.lv 10 = [0,5,6,7,41] /\ h229.lv 11 = [0,5,6,7,8,9] /\ h229.lv 12 = [0,5,6,7,8,53] /\ h229.lv 13 = [0,5,6,7] /\ h229.lv 14 = [0,5,6,7,61] /\ h229.lv 15 = [0,5,6,7] /\ h229.lv 16 = [0,5,6,7,63] /\ h229.lv 17 = [4] /\ h229.lv 18 = [4]:=by decide +kernel
@[go_sem] theorem h229_g : h229.ct 0 = none /\ h229.ct 1 = none /\ h229.ct 2 = none /\ h229.ct 3 = none /\ h229.ct 4 = none /\ h229.ct 5 = none /\ h229.ct 6 = none /\ h229.ct 7 = some 1 /\ h229.ct 8 = none /\ h229.ct 9 = none /\ h229.ct 10 = none /\ h229.ct 11 = none /\ h229.ct 12 = none /\ h229.ct 13 = none /\ h229.ct 14 = none /\ h229.ct 15 = none /\ h229.ct 16 = none /\ h229.ct 17 = none /\ h229.ct 18 = none:=by decide +kernel
@[go_sem] theorem h229_z (k : Nat) : h229.at k = []:=rfl
@[go_sem] theorem h229_y (k : Nat) : h229.dn k = false:=Eq.trans rfl rfl
@[go_sem] theorem h229_t : h229.tk = [] /\ h229.mt = [] /\ h229.pc = [11,16,35,49,60]:=⟨rfl,rfl,rfl⟩
theorem h229_k : FK Tryz.prog 229 Tryz.f229 h229:=⟨by kernel_rfl,by kernel_rfl,Tryz.func229,by kernel_rfl⟩
def h230 : Hint:=hx [9,41,4194345,16,73,1073741897,73,201,549755814089,201,713,4503599627370697,16,1033,0x200000000000409,1033,3081,0x4000000000000c09,3081,0x8000000000000000c09,16,4104,0x100000000000000000000000,16,16] [31,77] [] [] [15,48,80,90] [(9,1)] []
@[go_sem] theorem h230_l : h230.lv 0 = [0,3] /\ h230.lv 1 = [0,3,5] /\ h230.lv 2 = [0,3,5,22] /\ h230.lv 3 = [4] /\ h230.lv 4 = [0,3,6] /\ h230.lv 5 = [0,3,6,30] /\ h230.lv 6 = [0,3,6] /\ h230.lv 7 = [0,3,6,7] /\ h230.lv 8 = [0,3,6,7,39] /\ h230.lv 9 = [0,3,6,7] /\ h230.lv 10 = [0,3,6,7,9] /\ h230.lv 11 = [0,3,6,7,52] /\ h230.lv 12 = [4] /\ h230.lv 13 = [0,3,10] /\ h230.lv 14 = [0,3,10,57] /\ h230.lv 15 = [0,3,10] /\ h230.lv 16 = [0,3,10,11] /\ h230.lv 17 = [0,3,10,11,62] /\ h230.lv 18 = [0,3,10,11] /\ h230.lv 19 = [0,3,10,11,75] /\ h230.lv 20 = [4] /\ h230.lv 21 = [3,12] /\ h230.lv 22 = [92] /\ h230.lv 23 = [4] /\ h230.lv 24 = [4]:=by decide +kernel
@[go_sem] theorem h230_g : h230.ct 0 = none /\ h230.ct 1 = none /\ h230.ct 2 = none /\ h230.ct 3 = none /\ h230.ct 4 = none /\ h230.ct 5 = none /\ h230.ct 6 = none /\ h230.ct 7 = none /\ h230.ct 8 = none /\ h230.ct 9 = some 1 /\ h230.ct 10 = none /\ h230.ct 11 = none /\ h230.ct 12 = none /\ h230.ct 13 = none /\ h230.ct 14 = none /\ h230.ct 15 = none /\ h230.ct 16 = none /\ h230.ct 17 = none /\ h230.ct 18 = none /\ h230.ct 19 = none /\ h230.ct 20 = none /\ h230.ct 21 = none /\ h230.ct 22 = none /\ h230.ct 23 = none /\ h230.ct 24 = none:=by decide +kernel
@[go_sem] theorem h230_z (k : Nat) : h230.at k = []:=rfl
@[go_sem] theorem h230_y (k : Nat) : h230.dn k = false:=Eq.trans rfl rfl
@[go_sem] theorem h230_t : h230.tk = [31,77] /\ h230.mt = [] /\ h230.pc = [15,48,80,90]:=⟨rfl,rfl,rfl⟩
theorem h230_k : FK Tryz.prog 230 Tryz.f230 h230:=⟨by kernel_rfl,by kernel_rfl,Tryz.func230,by kernel_rfl⟩
def h280 : Hint:=hm [3,1027,16,35,16419,35,33554467,16,16] [] [] []
@[go_sem] theorem h280_l : h280.lv 0 = [0,1] /\ h280.lv 1 = [0,1,10] /\ h280.lv 2 = [4] /\ h280.lv 3 = [0,1,5] /\ h280.lv 4 = [0,1,5,14] /\ h280.lv 5 = [0,1,5] /\ h280.lv 6 = [0,1,5,25] /\ h280.lv 7 = [4] /\ h280.lv 8 = [4]:=by decide +kernel
@[go_sem] def h280_q:=hplain h280 rfl rfl rfl
@[go_sem] theorem h280_t : h280.tk = [] /\ h280.mt = [] /\ h280.pc = []:=⟨rfl,rfl,rfl⟩
theorem h280_k : FK Tryz.prog 280 Tryz.f280 h280:=⟨by kernel_rfl,by kernel_rfl,Tryz.func280,by kernel_rfl⟩
def h279 : Hint:=hm [2,4] [] [] []
@[go_sem] theorem h279_l : h279.lv 0 = [1] /\ h279.lv 1 = [2]:=by decide +kernel
@[go_sem] def h279_q:=hplain h279 rfl rfl rfl
@[go_sem] theorem h279_t : h279.tk = [] /\ h279.mt = [] /\ h279.pc = []:=⟨rfl,rfl,rfl⟩
theorem h279_k : FK Tryz.prog 279 Tryz.f279 h279:=⟨by kernel_rfl,by kernel_rfl,Tryz.func279,by kernel_rfl⟩
def h281 : Hint:=hx [3,35,99,4195,99,227,99,16] [24,29] [] [] [21] [(4,0)] []
@[go_sem] theorem h281_l : h281.lv 0 = [0,1] /\ h281.lv 1 = [0,1,5] /\ h281.lv 2 = [0,1,5,6] /\ h281.lv 3 = [0,1,5,6,12] /\ h281.lv 4 = [0,1,5,6] /\ h281.lv 5 = [0,1,5,6,7] /\ h281.lv 6 = [0,1,5,6] /\ h281.lv 7 = [4]:=by decide +kernel
@[go_sem] theorem h281_g : h281.ct 0 = none /\ h281.ct 1 = none /\ h281.ct 2 = none /\ h281.ct 3 = none /\ h281.ct 4 = some 0 /\ h281.ct 5 = none /\ h281.ct 6 = none /\ h281.ct 7 = none:=by decide +kernel
@[go_sem] theorem h281_z (k : Nat) : h281.at k = []:=rfl
@[go_sem] theorem h281_y (k : Nat) : h281.dn k = false:=Eq.trans rfl rfl
@[go_sem] theorem h281_t : h281.tk = [24,29] /\ h281.mt = [] /\ h281.pc = [21]:=⟨rfl,rfl,rfl⟩
theorem h281_k : FK Tryz.prog 281 Tryz.f281 h281:=⟨by kernel_rfl,by kernel_rfl,Tryz.func281,by kernel_rfl⟩
def h282 : Hint:=hm [1,8,24,4,72,72,4,520,512,4,4] [] [] []
@[go_sem] theorem h282_l : h282.lv 0 = [0] /\ h282.lv 1 = [3] /\ h282.lv 2 = [3,4] /\ h282.lv 3 = [2] /\ h282.lv 4 = [3,6] /\ h282.lv 5 = [3,6] /\ h282.lv 6 = [2] /\ h282.lv 7 = [3,9] /\ h282.lv 8 = [9] /\ h282.lv 9 = [2] /\ h282.lv 10 = [2]:=by decide +kernel
@[go_sem] def h282_q:=hplain h282 rfl rfl rfl
@[go_sem] theorem h282_t : h282.tk = [] /\ h282.mt = [] /\ h282.pc = []:=⟨rfl,rfl,rfl⟩
theorem h282_k : FK Tryz.prog 282 Tryz.f282 h282:=⟨by kernel_rfl,by kernel_rfl,Tryz.func282,by kernel_rfl⟩
def h231 : Hint:=hm [49,134217777,64,176,64] [] [] [9,12,31,35,36,41,44]
@[go_sem] theorem h231_l : h231.lv 0 = [0,4,5] /\ h231.lv 1 = [0,4,5,27] /\ h231.lv 2 = [6] /\ h231.lv 3 = [4,5,7] /\ h231.lv 4 = [6]:=by decide +kernel
@[go_sem] def h231_q:=hplain h231 rfl rfl rfl
@[go_sem] theorem h231_t : h231.tk = [] /\ h231.mt = [] /\ h231.pc = [9,12,31,35,36,41,44]:=⟨rfl,rfl,rfl⟩
theorem h231_k : FK Tryz.prog 231 Tryz.f231 h231:=⟨by kernel_rfl,by kernel_rfl,Tryz.func231,by kernel_rfl⟩
def h168 : Hint:=hx [3,35,65571,16,67,2097219,67,195,4294967491,16,323,4398046511427,16,515,0x800000000203,515,1539,4503599627372035,1539,3587,7683,0x4000000000000000000603,16,16] [] [] [] [14,30,40,84] [(18,0)] []
@[go_sem] theorem h168_l : h168.lv 0 = [0,1] /\ h168.lv 1 = [0,1,5] /\ h168.lv 2 = [0,1,5,16] /\ h168.lv 3 = [4] /\ h168.lv 4 = [0,1,6] /\ h168.lv 5 = [0,1,6,21] /\ h168.lv 6 = [0,1,6] /\ h168.lv 7 = [0,1,6,7] /\ h168.lv 8 = [0,1,6,7,32] /\ h168.lv 9 = [4] /\ h168.lv 10 = [0,1,6,8] /\ h168.lv 11 = [0,1,6,8,42] /\ h168.lv 12 = [4] /\ h168.lv 13 = [0,1,9] /\ h168.lv 14 = [0,1,9,47] /\ h168.lv 15 = [0,1,9] /\ h168.lv 16 = [0,1,9,10] /\ h168.lv 17 = [0,1,9,10,52] /\ h168.lv 18 = [0,1,9,10] /\ h168.lv 19 = [0,1,9,10,11] /\ h168.lv 20 = [0,1,9,10,11,12] /\ h168.lv 21 = [0,1,9,10,86] /\ h168.lv 22 = [4] /\ h168.lv 23 = [4]:=by decide +kernel
@[go_sem] theorem h168_g : h168.ct 0 = none /\ h168.ct 1 = none /\ h168.ct 2 = none /\ h168.ct 3 = none /\ h168.ct 4 = none /\ h168.ct 5 = none /\ h168.ct 6 = none /\ h168.ct 7 = none /\ h168.ct 8 = none /\ h168.ct 9 = none /\ h168.ct 10 = none /\ h168.ct 11 = none /\ h168.ct 12 = none /\ h168.ct 13 = none /\ h168.ct 14 = none /\ h168.ct 15 = none /\ h168.ct 16 = none /\ h168.ct 17 = none /\ h168.ct 18 = some 0 /\ h168.ct 19 = none /\ h168.ct 20 = none /\ h168.ct 21 = none /\ h168.ct 22 = none /\ h168.ct 23 = none:=by decide +kernel
@[go_sem] theorem h168_z (k : Nat) : h168.at k = []:=rfl
@[go_sem] theorem h168_y (k : Nat) : h168.dn k = false:=Eq.trans rfl rfl
@[go_sem] theorem h168_t : h168.tk = [] /\ h168.mt = [] /\ h168.pc = [14,30,40,84]:=⟨rfl,rfl,rfl⟩
theorem h168_k : FK Tryz.prog 168 Tryz.f168 h168:=⟨by kernel_rfl,by kernel_rfl,Tryz.func168,by kernel_rfl⟩
def h233 : Hint:=hm [3,35,99,227,2275,227,8388835,163,227,8589934819,227,4398046511138,32,16] [24,34,43,47] [] []
@[go_sem] theorem h233_l : h233.lv 0 = [0,1] /\ h233.lv 1 = [0,1,5] /\ h233.lv 2 = [0,1,5,6] /\ h233.lv 3 = [0,1,5,6,7] /\ h233.lv 4 = [0,1,5,6,7,11] /\ h233.lv 5 = [0,1,5,6,7] /\ h233.lv 6 = [0,1,5,6,7,23] /\ h233.lv 7 = [0,1,5,7] /\ h233.lv 8 = [0,1,5,6,7] /\ h233.lv 9 = [0,1,5,6,7,33] /\ h233.lv 10 = [0,1,5,6,7] /\ h233.lv 11 = [1,5,42] /\ h233.lv 12 = [5] /\ h233.lv 13 = [4]:=by decide +kernel
@[go_sem] def h233_q:=hplain h233 rfl rfl rfl
@[go_sem] theorem h233_t : h233.tk = [24,34,43,47] /\ h233.mt = [] /\ h233.pc = []:=⟨rfl,rfl,rfl⟩
theorem h233_k : FK Tryz.prog 233 Tryz.f233 h233:=⟨by kernel_rfl,by kernel_rfl,Tryz.func233,by kernel_rfl⟩
def h169 : Hint:=hm [2,10,24,56,2104,56,134217784,56,4] [] [] [7,34]
@[go_sem] theorem h169_l : h169.lv 0 = [1] /\ h169.lv 1 = [1,3] /\ h169.lv 2 = [3,4] /\ h169.lv 3 = [3,4,5] /\ h169.lv 4 = [3,4,5,11] /\ h169.lv 5 = [3,4,5] /\ h169.lv 6 = [3,4,5,27] /\ h169.lv 7 = [3,4,5] /\ h169.lv 8 = [2]:=by decide +kernel
@[go_sem] def h169_q:=hplain h169 rfl rfl rfl
@[go_sem] theorem h169_t : h169.tk = [] /\ h169.mt = [] /\ h169.pc = [7,34]:=⟨rfl,rfl,rfl⟩
theorem h169_k : FK Tryz.prog 169 Tryz.f169 h169:=⟨by kernel_rfl,by kernel_rfl,Tryz.func169,by kernel_rfl⟩
def h171 : Hint:=hm [3,35,547,35,131107,16,16] [] [] []
@[go_sem] theorem h171_l : h171.lv 0 = [0,1] /\ h171.lv 1 = [0,1,5] /\ h171.lv 2 = [0,1,5,9] /\ h171.lv 3 = [0,1,5] /\ h171.lv 4 = [0,1,5,17] /\ h171.lv 5 = [4] /\ h171.lv 6 = [4]:=by decide +kernel
@[go_sem] def h171_q:=hplain h171 rfl rfl rfl
@[go_sem] theorem h171_t : h171.tk = [] /\ h171.mt = [] /\ h171.pc = []:=⟨rfl,rfl,rfl⟩
theorem h171_k : FK Tryz.prog 171 Tryz.f171 h171:=⟨by kernel_rfl,by kernel_rfl,Tryz.func171,by kernel_rfl⟩
def h124 : Hint:=hx [12,40,65576,16,72,4194376,72,200,456,34359738824,456,17592186044872,16,584,0x8000000000000048,16,16] [] [] [] [14,31,43,61] [(6,2)] []
@[go_sem] theorem h124_l : h124.lv 0 = [2,3] /\ h124.lv 1 = [3,5] /\ h124.lv 2 = [3,5,16] /\ h124.lv 3 = [4] /\ h124.lv 4 = [3,6] /\ h124.lv 5 = [3,6,22] /\ h124.lv 6 = [3,6] /\ h124.lv 7 = [3,6,7] /\ h124.lv 8 = [3,6,7,8] /\ h124.lv 9 = [3,6,7,8,35] /\ h124.lv 10 = [3,6,7,8] /\ h124.lv 11 = [3,6,7,8,44] /\ h124.lv 12 = [4] /\ h124.lv 13 = [3,6,9] /\ h124.lv 14 = [3,6,63] /\ h124.lv 15 = [4] /\ h124.lv 16 = [4]:=by decide +kernel
@[go_sem] theorem h124_g : h124.ct 0 = none /\ h124.ct 1 = none /\ h124.ct 2 = none /\ h124.ct 3 = none /\ h124.ct 4 = none /\ h124.ct 5 = none /\ h124.ct 6 = some 2 /\ h124.ct 7 = none /\ h124.ct 8 = none /\ h124.ct 9 = none /\ h124.ct 10 = none /\ h124.ct 11 = none /\ h124.ct 12 = none /\ h124.ct 13 = none /\ h124.ct 14 = none /\ h124.ct 15 = none /\ h124.ct 16 = none:=by decide +kernel
@[go_sem] theorem h124_z (k : Nat) : h124.at k = []:=rfl
@[go_sem] theorem h124_y (k : Nat) : h124.dn k = false:=Eq.trans rfl rfl
@[go_sem] theorem h124_t : h124.tk = [] /\ h124.mt = [] /\ h124.pc = [14,31,43,61]:=⟨rfl,rfl,rfl⟩
theorem h124_k : FK Tryz.prog 124 Tryz.f124 h124:=⟨by kernel_rfl,by kernel_rfl,Tryz.func124,by kernel_rfl⟩
def h130 : Hint:=hm [2,4] [] [] [4,6,7]
@[go_sem] theorem h130_l : h130.lv 0 = [1] /\ h130.lv 1 = [2]:=by decide +kernel
@[go_sem] def h130_q:=hplain h130 rfl rfl rfl
@[go_sem] theorem h130_t : h130.tk = [] /\ h130.mt = [] /\ h130.pc = [4,6,7]:=⟨rfl,rfl,rfl⟩
theorem h130_k : FK Tryz.prog 130 Tryz.f130 h130:=⟨by kernel_rfl,by kernel_rfl,Tryz.func130,by kernel_rfl⟩
def h81 : Hint:=hm [9,41,553,16,16] [11] [] [7,13]
@[go_sem] theorem h81_l : h81.lv 0 = [0,3] /\ h81.lv 1 = [0,3,5] /\ h81.lv 2 = [0,3,5,9] /\ h81.lv 3 = [4] /\ h81.lv 4 = [4]:=by decide +kernel
@[go_sem] def h81_q:=hplain h81 rfl rfl rfl
@[go_sem] theorem h81_t : h81.tk = [11] /\ h81.mt = [] /\ h81.pc = [7,13]:=⟨rfl,rfl,rfl⟩
theorem h81_k : FK Tryz.prog 81 Tryz.f81 h81:=⟨by kernel_rfl,by kernel_rfl,Tryz.func81,by kernel_rfl⟩
def h173 : Hint:=hm [2,10,26,58,32826,4,98362,98362,50,557114,50,4227106,4227106,50,33554466,50,34359738386,4,82,274877907026,82,210,281474976710738,4,4] [] [] [10,46]
@[go_sem] theorem h173_l : h173.lv 0 = [1] /\ h173.lv 1 = [1,3] /\ h173.lv 2 = [1,3,4] /\ h173.lv 3 = [1,3,4,5] /\ h173.lv 4 = [1,3,4,5,15] /\ h173.lv 5 = [2] /\ h173.lv 6 = [1,3,4,5,15,16] /\ h173.lv 7 = [1,3,4,5,15,16] /\ h173.lv 8 = [1,4,5] /\ h173.lv 9 = [1,3,4,5,15,19] /\ h173.lv 10 = [1,4,5] /\ h173.lv 11 = [1,5,15,22] /\ h173.lv 12 = [1,5,15,22] /\ h173.lv 13 = [1,4,5] /\ h173.lv 14 = [1,5,25] /\ h173.lv 15 = [1,4,5] /\ h173.lv 16 = [1,4,35] /\ h173.lv 17 = [2] /\ h173.lv 18 = [1,4,6] /\ h173.lv 19 = [1,4,6,38] /\ h173.lv 20 = [1,4,6] /\ h173.lv 21 = [1,4,6,7] /\ h173.lv 22 = [1,4,6,48] /\ h173.lv 23 = [2] /\ h173.lv 24 = [2]:=by decide +kernel
@[go_sem] def h173_q:=hplain h173 rfl rfl rfl
@[go_sem] theorem h173_t : h173.tk = [] /\ h173.mt = [] /\ h173.pc = [10,46]:=⟨rfl,rfl,rfl⟩
theorem h173_k : FK Tryz.prog 173 Tryz.f173 h173:=⟨by kernel_rfl,by kernel_rfl,Tryz.func173,by kernel_rfl⟩
def h125 : Hint:=hm [2,4] [] [] [4,6,7]
@[go_sem] theorem h125_l : h125.lv 0 = [1] /\ h125.lv 1 = [2]:=by decide +kernel
@[go_sem] def h125_q:=hplain h125 rfl rfl rfl
@[go_sem] theorem h125_t : h125.tk = [] /\ h125.mt = [] /\ h125.pc = [4,6,7]:=⟨rfl,rfl,rfl⟩
theorem h125_k : FK Tryz.prog 125 Tryz.f125 h125:=⟨by kernel_rfl,by kernel_rfl,Tryz.func125,by kernel_rfl⟩
def h70 : Hint:=hm [2,18,50,114,4210,114,114,178,268435634,178,178,12] [15,31,40,41] [] []
@[go_sem] theorem h70_l : h70.lv 0 = [1] /\ h70.lv 1 = [1,4] /\ h70.lv 2 = [1,4,5] /\ h70.lv 3 = [1,4,5,6] /\ h70.lv 4 = [1,4,5,6,12] /\ h70.lv 5 = [1,4,5,6] /\ h70.lv 6 = [1,4,5,6] /\ h70.lv 7 = [1,4,5,7] /\ h70.lv 8 = [1,4,5,7,28] /\ h70.lv 9 = [1,4,5,7] /\ h70.lv 10 = [1,4,5,7] /\ h70.lv 11 = [2,3]:=by decide +kernel
@[go_sem] def h70_q:=hplain h70 rfl rfl rfl
@[go_sem] theorem h70_t : h70.tk = [15,31,40,41] /\ h70.mt = [] /\ h70.pc = []:=⟨rfl,rfl,rfl⟩
theorem h70_k : FK Tryz.prog 70 Tryz.f70 h70:=⟨by kernel_rfl,by kernel_rfl,Tryz.func70,by kernel_rfl⟩
def h126 : Hint:=hm [12,44,4194316,16,140,134217868,140,137438953612,16,16] [17] [] [10,20,36]
@[go_sem] theorem h126_l : h126.lv 0 = [2,3] /\ h126.lv 1 = [2,3,5] /\ h126.lv 2 = [2,3,22] /\ h126.lv 3 = [4] /\ h126.lv 4 = [2,3,7] /\ h126.lv 5 = [2,3,7,27] /\ h126.lv 6 = [2,3,7] /\ h126.lv 7 = [2,3,7,37] /\ h126.lv 8 = [4] /\ h126.lv 9 = [4]:=by decide +kernel
@[go_sem] def h126_q:=hplain h126 rfl rfl rfl
@[go_sem] theorem h126_t : h126.tk = [17] /\ h126.mt = [] /\ h126.pc = [10,20,36]:=⟨rfl,rfl,rfl⟩
theorem h126_k : FK Tryz.prog 126 Tryz.f126 h126:=⟨by kernel_rfl,by kernel_rfl,Tryz.func126,by kernel_rfl⟩
def h127 : Hint:=hm [6,16] [] [] [7]
@[go_sem] theorem h127_l : h127.lv 0 = [1,2] /\ h127.lv 1 = [4]:=by decide +kernel
@[go_sem] def h127_q:=hplain h127 rfl rfl rfl
@[go_sem] theorem h127_t : h127.tk = [] /\ h127.mt = [] /\ h127.pc = [7]:=⟨rfl,rfl,rfl⟩
theorem h127_k : FK Tryz.prog 127 Tryz.f127 h127:=⟨by kernel_rfl,by kernel_rfl,Tryz.func127,by kernel_rfl⟩
def h76 : Hint:=hx [12,2147483660,16,44,68719476780,44,2199023255596,16,76,0x80000000004c,76,108,0x100000000000006c,108,0x20000000000000000006c,108,0x80000000000000000006c,16,136,0x20000000000000000000088,136,392,0x1000000000000000000000000000000188,16,904,0x8000000000000000000000000000000388,904,0x2000000000000000000000000000000000000388,16,16] [] [] [] [34,39,58,67,79,100,106] [(20,2)] []
@[go_sem] theorem h76_l : h76.lv 0 = [2,3] /\ h76.lv 1 = [2,3,31] /\ h76.lv 2 = [4] /\ h76.lv 3 = [2,3,5] /\ h76.lv 4 = [2,3,5,36] /\ h76.lv 5 = [2,3,5] /\ h76.lv 6 = [2,3,5,41] /\ h76.lv 7 = [4] /\ h76.lv 8 = [2,3,6] /\ h76.lv 9 = [2,3,6,47] /\ h76.lv 10 = [2,3,6] /\ h76.lv 11 = [2,3,5,6] /\ h76.lv 12 = [2,3,5,6,60] /\ h76.lv 13 = [2,3,5,6] /\ h76.lv 14 = [2,3,5,6,81] /\ h76.lv 15 = [2,3,5,6] /\ h76.lv 16 = [2,3,5,6,83] /\ h76.lv 17 = [4] /\ h76.lv 18 = [3,7] /\ h76.lv 19 = [3,7,89] /\ h76.lv 20 = [3,7] /\ h76.lv 21 = [3,7,8] /\ h76.lv 22 = [3,7,8,132] /\ h76.lv 23 = [4] /\ h76.lv 24 = [3,7,8,9] /\ h76.lv 25 = [3,7,8,9,135] /\ h76.lv 26 = [3,7,8,9] /\ h76.lv 27 = [3,7,8,9,157] /\ h76.lv 28 = [4] /\ h76.lv 29 = [4]:=by decide +kernel
@[go_sem] theorem h76_g : h76.ct 0 = none /\ h76.ct 1 = none /\ h76.ct 2 = none /\ h76.ct 3 = none /\ h76.ct 4 = none /\ h76.ct 5 = none /\ h76.ct 6 = none /\ h76.ct 7 = none /\ h76.ct 8 = none /\ h76.ct 9 = none /\ h76.ct 10 = none /\ h76.ct 11 = none /\ h76.ct 12 = none /\ h76.ct 13 = none /\ h76.ct 14 = none /\ h76.ct 15 = none /\ h76.ct 16 = none /\ h76.ct 17 = none /\ h76.ct 18 = none /\ h76.ct 19 = none /\ h76.ct 20 = some 2 /\ h76.ct 21 = none /\ h76.ct 22 = none /\ h76.ct 23 = none /\ h76.ct 24 = none /\ h76.ct 25 = none /\ h76.ct 26 = none /\ h76.ct 27 = none /\ h76.ct 28 = none /\ h76.ct 29 = none:=by decide +kernel
@[go_sem] theorem h76_z (k : Nat) : h76.at k = []:=rfl
@[go_sem] theorem h76_y (k : Nat) : h76.dn k = false:=Eq.trans rfl rfl
@[go_sem] theorem h76_t : h76.tk = [] /\ h76.mt = [] /\ h76.pc = [34,39,58,67,79,100,106]:=⟨rfl,rfl,rfl⟩
theorem h76_k : FK Tryz.prog 76 Tryz.f76 h76:=⟨by kernel_rfl,by kernel_rfl,Tryz.func76,by kernel_rfl⟩
def h26 : Hint:=hm [30,256] [] [] []
@[go_sem] theorem h26_l : h26.lv 0 = [1,2,3,4] /\ h26.lv 1 = [8]:=by decide +kernel
@[go_sem] def h26_q:=hplain h26 rfl rfl rfl
@[go_sem] theorem h26_t : h26.tk = [] /\ h26.mt = [] /\ h26.pc = []:=⟨rfl,rfl,rfl⟩
theorem h26_k : FK Tryz.prog 26 Tryz.f26 h26:=⟨by kernel_rfl,by kernel_rfl,Tryz.func26,by kernel_rfl⟩
def h71 : Hint:=hm [1,9,521,9,25,262153,4,41,2097193,41,4294967337,4,4] [] [] [16]
@[go_sem] theorem h71_l : h71.lv 0 = [0] /\ h71.lv 1 = [0,3] /\ h71.lv 2 = [0,3,9] /\ h71.lv 3 = [0,3] /\ h71.lv 4 = [0,3,4] /\ h71.lv 5 = [0,3,18] /\ h71.lv 6 = [2] /\ h71.lv 7 = [0,3,5] /\ h71.lv 8 = [0,3,5,21] /\ h71.lv 9 = [0,3,5] /\ h71.lv 10 = [0,3,5,32] /\ h71.lv 11 = [2] /\ h71.lv 12 = [2]:=by decide +kernel
@[go_sem] def h71_q:=hplain h71 rfl rfl rfl
@[go_sem] theorem h71_t : h71.tk = [] /\ h71.mt = [] /\ h71.pc = [16]:=⟨rfl,rfl,rfl⟩
theorem h71_k : FK Tryz.prog 71 Tryz.f71 h71:=⟨by kernel_rfl,by kernel_rfl,Tryz.func71,by kernel_rfl⟩
def h72 : Hint:=hm [6,16] [] [] []
@[go_sem] theorem h72_l : h72.lv 0 = [1,2] /\ h72.lv 1 = [4]:=by decide +kernel
@[go_sem] def h72_q:=hplain h72 rfl rfl rfl
@[go_sem] theorem h72_t : h72.tk = [] /\ h72.mt = [] /\ h72.pc = []:=⟨rfl,rfl,rfl⟩
theorem h72_k : FK Tryz.prog 72 Tryz.f72 h72:=⟨by kernel_rfl,by kernel_rfl,Tryz.func72,by kernel_rfl⟩
def h29 : Hint:=hx [2,134217730,4,26,50,98,4398046511106,4,130,0x800000000082,130,386,0x1000000000000000082,4,514,0x20000000000000000202,514,1538,0x20000000000000000000000000202,4,2050,0x400000000000000000000000000802,2050,0x200000000000000000000000000000802,4,4] [33,35] [] [] [30,34,36,88,94,128] [(10,1),(16,1)] []
@[go_sem] theorem h29_l : h29.lv 0 = [1] /\ h29.lv 1 = [1,27] /\ h29.lv 2 = [2] /\ h29.lv 3 = [1,3,4] /\ h29.lv 4 = [1,4,5] /\ h29.lv 5 = [1,5,6] /\ h29.lv 6 = [1,42] /\ h29.lv 7 = [2] /\ h29.lv 8 = [1,7] /\ h29.lv 9 = [1,7,47] /\ h29.lv 10 = [1,7] /\ h29.lv 11 = [1,7,8] /\ h29.lv 12 = [1,7,72] /\ h29.lv 13 = [2] /\ h29.lv 14 = [1,9] /\ h29.lv 15 = [1,9,77] /\ h29.lv 16 = [1,9] /\ h29.lv 17 = [1,9,10] /\ h29.lv 18 = [1,9,113] /\ h29.lv 19 = [2] /\ h29.lv 20 = [1,11] /\ h29.lv 21 = [1,11,118] /\ h29.lv 22 = [1,11] /\ h29.lv 23 = [1,11,129] /\ h29.lv 24 = [2] /\ h29.lv 25 = [2]:=by decide +kernel
@[go_sem] theorem h29_g : h29.ct 0 = none /\ h29.ct 1 = none /\ h29.ct 2 = none /\ h29.ct 3 = none /\ h29.ct 4 = none /\ h29.ct 5 = none /\ h29.ct 6 = none /\ h29.ct 7 = none /\ h29.ct 8 = none /\ h29.ct 9 = none /\ h29.ct 10 = some 1 /\ h29.ct 11 = none /\ h29.ct 12 = none /\ h29.ct 13 = none /\ h29.ct 14 = none /\ h29.ct 15 = none /\ h29.ct 16 = some 1 /\ h29.ct 17 = none /\ h29.ct 18 = none /\ h29.ct 19 = none /\ h29.ct 20 = none /\ h29.ct 21 = none /\ h29.ct 22 = none /\ h29.ct 23 = none /\ h29.ct 24 = none /\ h29.ct 25 = none:=by decide +kernel
@[go_sem] theorem h29_z (k : Nat) : h29.at k = []:=rfl
@[go_sem] theorem h29_y (k : Nat) : h29.dn k = false:=Eq.trans rfl rfl
@[go_sem] theorem h29_t : h29.tk = [33,35] /\ h29.mt = [] /\ h29.pc = [30,34,36,88,94,128]:=⟨rfl,rfl,rfl⟩
theorem h29_k : FK Tryz.prog 29 Tryz.f29 h29:=⟨by kernel_rfl,by kernel_rfl,Tryz.func29,by kernel_rfl⟩
def h74 : Hint:=hm [2,4] [] [] []
@[go_sem] theorem h74_l : h74.lv 0 = [1] /\ h74.lv 1 = [2]:=by decide +kernel
@[go_sem] def h74_q:=hplain h74 rfl rfl rfl
@[go_sem] theorem h74_t : h74.tk = [] /\ h74.mt = [] /\ h74.pc = []:=⟨rfl,rfl,rfl⟩
theorem h74_k : FK Tryz.prog 74 Tryz.f74 h74:=⟨by kernel_rfl,by kernel_rfl,Tryz.func74,by kernel_rfl⟩
def h75 : Hint:=hm [12,16] [] [] []
@[go_sem] theorem h75_l : h75.lv 0 = [2,3] /\ h75.lv 1 = [4]:=by decide +kernel
@[go_sem] def h75_q:=hplain h75 rfl rfl rfl
@[go_sem] theorem h75_t : h75.tk = [] /\ h75.mt = [] /\ h75.pc = []:=⟨rfl,rfl,rfl⟩
theorem h75_k : FK Tryz.prog 75 Tryz.f75 h75:=⟨by kernel_rfl,by kernel_rfl,Tryz.func75,by kernel_rfl⟩
def h30 : Hint:=hm [1,2049,4,9,32777,9,25,8589934601,4,41,68719476777,41,562949953421353,4,73,72057594037927945,4,137,0x800000000000089,137,393,0x800000000000000089,4,4] [] [] [23,54,70]
@[go_sem] theorem h30_l : h30.lv 0 = [0] /\ h30.lv 1 = [0,11] /\ h30.lv 2 = [2] /\ h30.lv 3 = [0,3] /\ h30.lv 4 = [0,3,15] /\ h30.lv 5 = [0,3] /\ h30.lv 6 = [0,3,4] /\ h30.lv 7 = [0,3,33] /\ h30.lv 8 = [2] /\ h30.lv 9 = [0,3,5] /\ h30.lv 10 = [0,3,5,36] /\ h30.lv 11 = [0,3,5] /\ h30.lv 12 = [0,3,5,49] /\ h30.lv 13 = [2] /\ h30.lv 14 = [0,3,6] /\ h30.lv 15 = [0,3,56] /\ h30.lv 16 = [2] /\ h30.lv 17 = [0,3,7] /\ h30.lv 18 = [0,3,7,59] /\ h30.lv 19 = [0,3,7] /\ h30.lv 20 = [0,3,7,8] /\ h30.lv 21 = [0,3,7,71] /\ h30.lv 22 = [2] /\ h30.lv 23 = [2]:=by decide +kernel
@[go_sem] def h30_q:=hplain h30 rfl rfl rfl
@[go_sem] theorem h30_t : h30.tk = [] /\ h30.mt = [] /\ h30.pc = [23,54,70]:=⟨rfl,rfl,rfl⟩
theorem h30_k : FK Tryz.prog 30 Tryz.f30 h30:=⟨by kernel_rfl,by kernel_rfl,Tryz.func30,by kernel_rfl⟩
def h5 : Hint:=hm [2,10,42,10,131082,4,4] [] [] []
@[go_sem] theorem h5_l : h5.lv 0 = [1] /\ h5.lv 1 = [1,3] /\ h5.lv 2 = [1,3,5] /\ h5.lv 3 = [1,3] /\ h5.lv 4 = [1,3,17] /\ h5.lv 5 = [2] /\ h5.lv 6 = [2]:=by decide +kernel
@[go_sem] def h5_q:=hplain h5 rfl rfl rfl
@[go_sem] theorem h5_t : h5.tk = [] /\ h5.mt = [] /\ h5.pc = []:=⟨rfl,rfl,rfl⟩
theorem h5_k : FK Tryz.prog 5 Tryz.f5 h5:=⟨by kernel_rfl,by kernel_rfl,Tryz.func5,by kernel_rfl⟩
def h78 : Hint:=hm [6,38,1062,38,16777254,16,16] [] [] []
@[go_sem] theorem h78_l : h78.lv 0 = [1,2] /\ h78.lv 1 = [1,2,5] /\ h78.lv 2 = [1,2,5,10] /\ h78.lv 3 = [1,2,5] /\ h78.lv 4 = [1,2,5,24] /\ h78.lv 5 = [4] /\ h78.lv 6 = [4]:=by decide +kernel
@[go_sem] def h78_q:=hplain h78 rfl rfl rfl
@[go_sem] theorem h78_t : h78.tk = [] /\ h78.mt = [] /\ h78.pc = []:=⟨rfl,rfl,rfl⟩
theorem h78_k : FK Tryz.prog 78 Tryz.f78 h78:=⟨by kernel_rfl,by kernel_rfl,Tryz.func78,by kernel_rfl⟩
end Go.AI
namespace Go.AI
open Go.Proofs
@[go_sem] theorem cellsOf36 : Tryz.prog.cellsOf 36 = 1:=by kernel_rfl
@[go_sem] theorem bytesOf36 : Tryz.prog.bytesOf 36 = 8:=by kernel_rfl
@[go_sem] theorem ldk36 : ldk Tryz.prog 36 = some none:=by kernel_rfl
@[go_sem] theorem aggTy36 : aggTy Tryz.prog 36 = false:=by kernel_rfl
@[go_sem] theorem zeroOk36 : zeroOk Tryz.prog 36 = true:=by kernel_rfl
@[go_sem] theorem info36 : (Tryz.prog.info? 36).isSome = true:=by kernel_rfl
@[go_sem] theorem zeroAV36 : zeroAV Tryz.prog 36 = some (.nilf):=by kernel_rfl
@[go_sem] theorem cellsOf89 : Tryz.prog.cellsOf 89 = 1:=by kernel_rfl
@[go_sem] theorem bytesOf89 : Tryz.prog.bytesOf 89 = 8:=by kernel_rfl
@[go_sem] theorem ldk89 : ldk Tryz.prog 89 = some none:=by kernel_rfl
@[go_sem] theorem aggTy89 : aggTy Tryz.prog 89 = false:=by kernel_rfl
@[go_sem] theorem zeroOk89 : zeroOk Tryz.prog 89 = true:=by kernel_rfl
@[go_sem] theorem info89 : (Tryz.prog.info? 89).isSome = true:=by kernel_rfl
@[go_sem] theorem zeroAV89 : zeroAV Tryz.prog 89 = some (.nilf):=by kernel_rfl
@[go_sem] theorem cellsOf151 : Tryz.prog.cellsOf 151 = 1:=by kernel_rfl
@[go_sem] theorem bytesOf151 : Tryz.prog.bytesOf 151 = 0:=by kernel_rfl
@[go_sem] theorem ldk151 : ldk Tryz.prog 151 = some none:=by kernel_rfl
@[go_sem] theorem aggTy151 : aggTy Tryz.prog 151 = false:=by kernel_rfl
@[go_sem] theorem zeroOk151 : zeroOk Tryz.prog 151 = true:=by kernel_rfl
@[go_sem] theorem info151 : (Tryz.prog.info? 151).isSome = true:=by kernel_rfl
@[go_sem] theorem cellsOf155 : Tryz.prog.cellsOf 155 = 1:=by kernel_rfl
@[go_sem] theorem bytesOf155 : Tryz.prog.bytesOf 155 = 8:=by kernel_rfl
@[go_sem] theorem ldk155 : ldk Tryz.prog 155 = some none:=by kernel_rfl
@[go_sem] theorem aggTy155 : aggTy Tryz.prog 155 = false:=by kernel_rfl
@[go_sem] theorem zeroOk155 : zeroOk Tryz.prog 155 = true:=by kernel_rfl
@[go_sem] theorem info155 : (Tryz.prog.info? 155).isSome = true:=by kernel_rfl
@[go_sem] theorem zeroAV155 : zeroAV Tryz.prog 155 = some (.nilf):=by kernel_rfl
@[go_sem] theorem cellsOf171 : Tryz.prog.cellsOf 171 = 1:=by kernel_rfl
@[go_sem] theorem bytesOf171 : Tryz.prog.bytesOf 171 = 8:=by kernel_rfl
@[go_sem] theorem ldk171 : ldk Tryz.prog 171 = some none:=by kernel_rfl
@[go_sem] theorem aggTy171 : aggTy Tryz.prog 171 = false:=by kernel_rfl
@[go_sem] theorem zeroOk171 : zeroOk Tryz.prog 171 = true:=by kernel_rfl
@[go_sem] theorem info171 : (Tryz.prog.info? 171).isSome = true:=by kernel_rfl
@[go_sem] theorem zeroAV171 : zeroAV Tryz.prog 171 = some (.nilf):=by kernel_rfl
@[go_sem] theorem cellsOf222 : Tryz.prog.cellsOf 222 = 1:=by kernel_rfl
@[go_sem] theorem bytesOf222 : Tryz.prog.bytesOf 222 = 8:=by kernel_rfl
@[go_sem] theorem ldk222 : ldk Tryz.prog 222 = some none:=by kernel_rfl
@[go_sem] theorem aggTy222 : aggTy Tryz.prog 222 = false:=by kernel_rfl
@[go_sem] theorem zeroOk222 : zeroOk Tryz.prog 222 = true:=by kernel_rfl
@[go_sem] theorem info222 : (Tryz.prog.info? 222).isSome = true:=by kernel_rfl
@[go_sem] theorem zeroAV222 : zeroAV Tryz.prog 222 = some (.nilf):=by kernel_rfl
@[go_sem] theorem cellsOf226 : Tryz.prog.cellsOf 226 = 2:=by kernel_rfl
@[go_sem] theorem bytesOf226 : Tryz.prog.bytesOf 226 = 16:=by kernel_rfl
@[go_sem] theorem ldk226 : ldk Tryz.prog 226 = some (some 2):=by kernel_rfl
@[go_sem] theorem aggTy226 : aggTy Tryz.prog 226 = true:=by kernel_rfl
@[go_sem] theorem zeroOk226 : zeroOk Tryz.prog 226 = true:=by kernel_rfl
@[go_sem] theorem info226 : (Tryz.prog.info? 226).isSome = true:=by kernel_rfl
@[go_sem] theorem bkind226 : bkind Tryz.prog 226 = .struct [(0,1),(1,1)]:=by kernel_rfl
@[go_sem] theorem fplace226_0 : fplace Tryz.prog 226 0 = some (3,0):=by kernel_rfl
@[go_sem] theorem fplace226_1 : fplace Tryz.prog 226 1 = some (3,1):=by kernel_rfl
@[go_sem] theorem zeroAV226 : zeroAV Tryz.prog 226 = some (.agg [.int .i64 0,.int .i64 0]):=by kernel_rfl
@[go_sem] theorem cellsOf227 : Tryz.prog.cellsOf 227 = 2:=by kernel_rfl
@[go_sem] theorem bytesOf227 : Tryz.prog.bytesOf 227 = 16:=by kernel_rfl
@[go_sem] theorem ldk227 : ldk Tryz.prog 227 = some (some 2):=by kernel_rfl
@[go_sem] theorem aggTy227 : aggTy Tryz.prog 227 = true:=by kernel_rfl
@[go_sem] theorem zeroOk227 : zeroOk Tryz.prog 227 = true:=by kernel_rfl
@[go_sem] theorem info227 : (Tryz.prog.info? 227).isSome = true:=by kernel_rfl
@[go_sem] theorem bkind227 : bkind Tryz.prog 227 = .struct [(0,1),(1,1)]:=by kernel_rfl
@[go_sem] theorem fplace227_0 : fplace Tryz.prog 227 0 = some (3,0):=by kernel_rfl
@[go_sem] theorem fplace227_1 : fplace Tryz.prog 227 1 = some (3,1):=by kernel_rfl
@[go_sem] theorem zeroAV227 : zeroAV Tryz.prog 227 = some (.agg [.int .i64 0,.int .i64 0]):=by kernel_rfl
@[go_sem] theorem cellsOf228 : Tryz.prog.cellsOf 228 = 1:=by kernel_rfl
@[go_sem] theorem bytesOf228 : Tryz.prog.bytesOf 228 = 8:=by kernel_rfl
@[go_sem] theorem ldk228 : ldk Tryz.prog 228 = some none:=by kernel_rfl
@[go_sem] theorem aggTy228 : aggTy Tryz.prog 228 = false:=by kernel_rfl
@[go_sem] theorem zeroOk228 : zeroOk Tryz.prog 228 = true:=by kernel_rfl
@[go_sem] theorem info228 : (Tryz.prog.info? 228).isSome = true:=by kernel_rfl
@[go_sem] theorem zeroAV228 : zeroAV Tryz.prog 228 = some (.nilf):=by kernel_rfl
@[go_sem] theorem cellsOf270 : Tryz.prog.cellsOf 270 = 1:=by kernel_rfl
@[go_sem] theorem bytesOf270 : Tryz.prog.bytesOf 270 = 8:=by kernel_rfl
@[go_sem] theorem ldk270 : ldk Tryz.prog 270 = some none:=by kernel_rfl
@[go_sem] theorem aggTy270 : aggTy Tryz.prog 270 = false:=by kernel_rfl
@[go_sem] theorem zeroOk270 : zeroOk Tryz.prog 270 = true:=by kernel_rfl
@[go_sem] theorem info270 : (Tryz.prog.info? 270).isSome = true:=by kernel_rfl
@[go_sem] theorem cellsOf271 : Tryz.prog.cellsOf 271 = 1:=by kernel_rfl
@[go_sem] theorem bytesOf271 : Tryz.prog.bytesOf 271 = 8:=by kernel_rfl
@[go_sem] theorem ldk271 : ldk Tryz.prog 271 = some none:=by kernel_rfl
@[go_sem] theorem aggTy271 : aggTy Tryz.prog 271 = false:=by kernel_rfl
@[go_sem] theorem zeroOk271 : zeroOk Tryz.prog 271 = true:=by kernel_rfl
@[go_sem] theorem info271 : (Tryz.prog.info? 271).isSome = true:=by kernel_rfl
@[go_sem] theorem zeroAV271 : zeroAV Tryz.prog 271 = some (.nilf):=by kernel_rfl
@[go_sem] theorem cellsOf281 : Tryz.prog.cellsOf 281 = 1:=by kernel_rfl
@[go_sem] theorem bytesOf281 : Tryz.prog.bytesOf 281 = 8:=by kernel_rfl
@[go_sem] theorem ldk281 : ldk Tryz.prog 281 = some none:=by kernel_rfl
@[go_sem] theorem aggTy281 : aggTy Tryz.prog 281 = false:=by kernel_rfl
@[go_sem] theorem zeroOk281 : zeroOk Tryz.prog 281 = true:=by kernel_rfl
@[go_sem] theorem info281 : (Tryz.prog.info? 281).isSome = true:=by kernel_rfl
@[go_sem] theorem zeroAV281 : zeroAV Tryz.prog 281 = some (.nilf):=by kernel_rfl
@[go_sem] theorem cellsOf291 : Tryz.prog.cellsOf 291 = 1:=by kernel_rfl
@[go_sem] theorem bytesOf291 : Tryz.prog.bytesOf 291 = 8:=by kernel_rfl
@[go_sem] theorem ldk291 : ldk Tryz.prog 291 = some none:=by kernel_rfl
@[go_sem] theorem aggTy291 : aggTy Tryz.prog 291 = false:=by kernel_rfl
@[go_sem] theorem und291 : Tryz.prog.underlying 291 = some (.int .u64):=by kernel_rfl
@[go_sem] theorem zeroOk291 : zeroOk Tryz.prog 291 = true:=by kernel_rfl
@[go_sem] theorem info291 : (Tryz.prog.info? 291).isSome = true:=by kernel_rfl
@[go_sem] theorem zeroAV291 : zeroAV Tryz.prog 291 = some (.int .u64 0):=by kernel_rfl
@[go_sem] theorem cellsOf299 : Tryz.prog.cellsOf 299 = 1:=by kernel_rfl
@[go_sem] theorem bytesOf299 : Tryz.prog.bytesOf 299 = 8:=by kernel_rfl
@[go_sem] theorem ldk299 : ldk Tryz.prog 299 = some none:=by kernel_rfl
@[go_sem] theorem aggTy299 : aggTy Tryz.prog 299 = false:=by kernel_rfl
@[go_sem] theorem zeroOk299 : zeroOk Tryz.prog 299 = true:=by kernel_rfl
@[go_sem] theorem info299 : (Tryz.prog.info? 299).isSome = true:=by kernel_rfl
@[go_sem] theorem zeroAV299 : zeroAV Tryz.prog 299 = some (.nilf):=by kernel_rfl
@[go_sem] theorem cellsOf323 : Tryz.prog.cellsOf 323 = 1:=by kernel_rfl
@[go_sem] theorem bytesOf323 : Tryz.prog.bytesOf 323 = 8:=by kernel_rfl
@[go_sem] theorem ldk323 : ldk Tryz.prog 323 = some none:=by kernel_rfl
@[go_sem] theorem aggTy323 : aggTy Tryz.prog 323 = false:=by kernel_rfl
@[go_sem] theorem zeroOk323 : zeroOk Tryz.prog 323 = true:=by kernel_rfl
@[go_sem] theorem info323 : (Tryz.prog.info? 323).isSome = true:=by kernel_rfl
@[go_sem] theorem zeroAV323 : zeroAV Tryz.prog 323 = some (.nilf):=by kernel_rfl
@[go_sem] theorem cellsOf350 : Tryz.prog.cellsOf 350 = 49:=by kernel_rfl
@[go_sem] theorem bytesOf350 : Tryz.prog.bytesOf 350 = 784:=by kernel_rfl
@[go_sem] theorem ldk350 : ldk Tryz.prog 350 = some (some 49):=by kernel_rfl
@[go_sem] theorem aggTy350 : aggTy Tryz.prog 350 = true:=by kernel_rfl
@[go_sem] theorem und350 : Tryz.prog.underlying 350 = some (.array 49 9):=by kernel_rfl
@[go_sem] theorem zeroOk350 : zeroOk Tryz.prog 350 = true:=by kernel_rfl
@[go_sem] theorem info350 : (Tryz.prog.info? 350).isSome = true:=by kernel_rfl
@[go_sem] theorem bkind350 : bkind Tryz.prog 350 = .array 1:=by kernel_rfl
@[go_sem] theorem zeroAV350 : zeroAV Tryz.prog 350 = some (.agg [.str ByteArray.empty,.str ByteArray.empty,.str ByteArray.empty,.str ByteArray.empty,.str ByteArray.empty,.str ByteArray.empty,.str ByteArray.empty,.str ByteArray.empty,.str ByteArray.empty,.str ByteArray.empty,.str ByteArray.empty,.str ByteArray.empty,.str ByteArray.empty,.str ByteArray.empty,.str ByteArray.empty,.str ByteArray.empty,.str ByteArray.empty,.str ByteArray.empty,.str ByteArray.empty,.str ByteArray.empty,.str ByteArray.empty,.str ByteArray.empty,.str ByteArray.empty,.str ByteArray.empty,.str ByteArray.empty,.str ByteArray.empty,.str ByteArray.empty,.str ByteArray.empty,.str ByteArray.empty,.str ByteArray.empty,.str ByteArray.empty,.str ByteArray.empty,.str ByteArray.empty,.str ByteArray.empty,.str ByteArray.empty,.str ByteArray.empty,.str ByteArray.empty,.str ByteArray.empty,.str ByteArray.empty,.str ByteArray.empty,.str ByteArray.empty,.str ByteArray.empty,.str ByteArray.empty,.str ByteArray.empty,.str ByteArray.empty,.str ByteArray.empty,.str ByteArray.empty,.str ByteArray.empty,.str ByteArray.empty]):=by kernel_rfl
end Go.AI
set_option linter.defProp false
namespace Go.AI
open Go.Proofs
def h236 : Hint:=hm [5,4] [] [] []
@[go_sem] theorem h236_l : h236.lv 0 = [0,2] /\ h236.lv 1 = [2]:=by decide +kernel
@[go_sem] def h236_q:=hplain h236 rfl rfl rfl
@[go_sem] theorem h236_t : h236.tk = [] /\ h236.mt = [] /\ h236.pc = []:=⟨rfl,rfl,rfl⟩
theorem h236_k : FK Tryz.prog 236 Tryz.f236 h236:=⟨by kernel_rfl,by kernel_rfl,Tryz.func236,by kernel_rfl⟩
def h239 : Hint:=hm [5,133,4,13,29,32797,29,29,4] [] [] []
@[go_sem] theorem h239_l : h239.lv 0 = [0,2] /\ h239.lv 1 = [0,2,7] /\ h239.lv 2 = [2] /\ h239.lv 3 = [0,2,3] /\ h239.lv 4 = [0,2,3,4] /\ h239.lv 5 = [0,2,3,4,15] /\ h239.lv 6 = [0,2,3,4] /\ h239.lv 7 = [0,2,3,4] /\ h239.lv 8 = [2]:=by decide +kernel
@[go_sem] def h239_q:=hplain h239 rfl rfl rfl
@[go_sem] theorem h239_t : h239.tk = [] /\ h239.mt = [] /\ h239.pc = []:=⟨rfl,rfl,rfl⟩
theorem h239_k : FK Tryz.prog 239 Tryz.f239 h239:=⟨by kernel_rfl,by kernel_rfl,Tryz.func239,by kernel_rfl⟩
def h178 : Hint:=hm [6,14,30,542,30,30,4] [12,22] [] [19,23]
@[go_sem] theorem h178_l : h178.lv 0 = [1,2] /\ h178.lv 1 = [1,2,3] /\ h178.lv 2 = [1,2,3,4] /\ h178.lv 3 = [1,2,3,4,9] /\ h178.lv 4 = [1,2,3,4] /\ h178.lv 5 = [1,2,3,4] /\ h178.lv 6 = [2]:=by decide +kernel
@[go_sem] def h178_q:=hplain h178 rfl rfl rfl
@[go_sem] theorem h178_t : h178.tk = [12,22] /\ h178.mt = [] /\ h178.pc = [19,23]:=⟨rfl,rfl,rfl⟩
theorem h178_k : FK Tryz.prog 178 Tryz.f178 h178:=⟨by kernel_rfl,by kernel_rfl,Tryz.func178,by kernel_rfl⟩
def h237 : Hint:=hm [19,16] [] [] []
@[go_sem] theorem h237_l : h237.lv 0 = [0,1,4] /\ h237.lv 1 = [4]:=by decide +kernel
@[go_sem] def h237_q:=hplain h237 rfl rfl rfl
@[go_sem] theorem h237_t : h237.tk = [] /\ h237.mt = [] /\ h237.pc = []:=⟨rfl,rfl,rfl⟩
theorem h237_k : FK Tryz.prog 237 Tryz.f237 h237:=⟨by kernel_rfl,by kernel_rfl,Tryz.func237,by kernel_rfl⟩
def h175 : Hint:=hm [28,16] [] [] []
@[go_sem] theorem h175_l : h175.lv 0 = [2,3,4] /\ h175.lv 1 = [4]:=by decide +kernel
@[go_sem] def h175_q:=hplain h175 rfl rfl rfl
@[go_sem] theorem h175_t : h175.tk = [] /\ h175.mt = [] /\ h175.pc = []:=⟨rfl,rfl,rfl⟩
theorem h175_k : FK Tryz.prog 175 Tryz.f175 h175:=⟨by kernel_rfl,by kernel_rfl,Tryz.func175,by kernel_rfl⟩
def h177 : Hint:=hm [6,4] [] [] []
@[go_sem] theorem h177_l : h177.lv 0 = [1,2] /\ h177.lv 1 = [2]:=by decide +kernel
@[go_sem] def h177_q:=hplain h177 rfl rfl rfl
@[go_sem] theorem h177_t : h177.tk = [] /\ h177.mt = [] /\ h177.pc = []:=⟨rfl,rfl,rfl⟩
theorem h177_k : FK Tryz.prog 177 Tryz.f177 h177:=⟨by kernel_rfl,by kernel_rfl,Tryz.func177,by kernel_rfl⟩
def h238 : Hint:=hm [28,16] [] [] []
@[go_sem] theorem h238_l : h238.lv 0 = [2,3,4] /\ h238.lv 1 = [4]:=by decide +kernel
@[go_sem] def h238_q:=hplain h238 rfl rfl rfl
@[go_sem] theorem h238_t : h238.tk = [] /\ h238.mt = [] /\ h238.pc = []:=⟨rfl,rfl,rfl⟩
theorem h238_k : FK Tryz.prog 238 Tryz.f238 h238:=⟨by kernel_rfl,by kernel_rfl,Tryz.func238,by kernel_rfl⟩
def h176 : Hint:=hx [6,14,30,4126,30,62,4294967358,30,30,4] [] [] [] [7,21,22,29,30,36] [(4,3)] []
@[go_sem] theorem h176_l : h176.lv 0 = [1,2] /\ h176.lv 1 = [1,2,3] /\ h176.lv 2 = [1,2,3,4] /\ h176.lv 3 = [1,2,3,4,12] /\ h176.lv 4 = [1,2,3,4] /\ h176.lv 5 = [1,2,3,4,5] /\ h176.lv 6 = [1,2,3,4,5,32] /\ h176.lv 7 = [1,2,3,4] /\ h176.lv 8 = [1,2,3,4] /\ h176.lv 9 = [2]:=by decide +kernel
@[go_sem] theorem h176_g : h176.ct 0 = none /\ h176.ct 1 = none /\ h176.ct 2 = none /\ h176.ct 3 = none /\ h176.ct 4 = some 3 /\ h176.ct 5 = none /\ h176.ct 6 = none /\ h176.ct 7 = none /\ h176.ct 8 = none /\ h176.ct 9 = none:=by decide +kernel
@[go_sem] theorem h176_z (k : Nat) : h176.at k = []:=rfl
@[go_sem] theorem h176_y (k : Nat) : h176.dn k = false:=Eq.trans rfl rfl
@[go_sem] theorem h176_t : h176.tk = [] /\ h176.mt = [] /\ h176.pc = [7,21,22,29,30,36]:=⟨rfl,rfl,rfl⟩
theorem h176_k : FK Tryz.prog 176 Tryz.f176 h176:=⟨by kernel_rfl,by kernel_rfl,Tryz.func176,by kernel_rfl⟩
def h174 : Hint:=hm [6,4] [] [] []
@[go_sem] theorem h174_l : h174.lv 0 = [1,2] /\ h174.lv 1 = [2]:=by decide +kernel
@[go_sem] def h174_q:=hplain h174 rfl rfl rfl
@[go_sem] theorem h174_t : h174.tk = [] /\ h174.mt = [] /\ h174.pc = []:=⟨rfl,rfl,rfl⟩
theorem h174_k : FK Tryz.prog 174 Tryz.f174 h174:=⟨by kernel_rfl,by kernel_rfl,Tryz.func174,by kernel_rfl⟩
def h128 : Hint:=hm [28,1052,16,60,120,16] [] [] [13,15,16,18,21,24,26]
@[go_sem] theorem h128_l : h128.lv 0 = [2,3,4] /\ h128.lv 1 = [2,3,4,10] /\ h128.lv 2 = [4] /\ h128.lv 3 = [2,3,4,5] /\ h128.lv 4 = [3,4,5,6] /\ h128.lv 5 = [4]:=by decide +kernel
@[go_sem] def h128_q:=hplain h128 rfl rfl rfl
@[go_sem] theorem h128_t : h128.tk = [] /\ h128.mt = [] /\ h128.pc = [13,15,16,18,21,24,26]:=⟨rfl,rfl,rfl⟩
theorem h128_k : FK Tryz.prog 128 Tryz.f128 h128:=⟨by kernel_rfl,by kernel_rfl,Tryz.func128,by kernel_rfl⟩
def h77 : Hint:=hx [2,18,50,2098,50,114,16777330,12,50,12] [25,36] [] [] [21,23] [(4,1)] []
@[go_sem] theorem h77_l : h77.lv 0 = [1] /\ h77.lv 1 = [1,4] /\ h77.lv 2 = [1,4,5] /\ h77.lv 3 = [1,4,5,11] /\ h77.lv 4 = [1,4,5] /\ h77.lv 5 = [1,4,5,6] /\ h77.lv 6 = [1,4,5,6,24] /\ h77.lv 7 = [2,3] /\ h77.lv 8 = [1,4,5] /\ h77.lv 9 = [2,3]:=by decide +kernel
@[go_sem] theorem h77_g : h77.ct 0 = none /\ h77.ct 1 = none /\ h77.ct 2 = none /\ h77.ct 3 = none /\ h77.ct 4 = some 1 /\ h77.ct 5 = none /\ h77.ct 6 = none /\ h77.ct 7 = none /\ h77.ct 8 = none /\ h77.ct 9 = none:=by decide +kernel
@[go_sem] theorem h77_z (k : Nat) : h77.at k = []:=rfl
@[go_sem] theorem h77_y (k : Nat) : h77.dn k = false:=Eq.trans rfl rfl
@[go_sem] theorem h77_t : h77.tk = [25,36] /\ h77.mt = [] /\ h77.pc = [21,23]:=⟨rfl,rfl,rfl⟩
theorem h77_k : FK Tryz.prog 77 Tryz.f77 h77:=⟨by kernel_rfl,by kernel_rfl,Tryz.func77,by kernel_rfl⟩
end Go.AI
namespace Go.AI
open Go.Proofs
@[go_sem] theorem cellsOf2 : Tryz.prog.cellsOf 2 = 1:=by kernel_rfl
@[go_sem] theorem bytesOf2 : Tryz.prog.bytesOf 2 = 8:=by kernel_rfl
@[go_sem] theorem ldk2 : ldk Tryz.prog 2 = some none:=by kernel_rfl
@[go_sem] theorem aggTy2 : aggTy Tryz.prog 2 = false:=by kernel_rfl
@[go_sem] theorem und2 : Tryz.prog.underlying 2 = some (.int .i64):=by kernel_rfl
@[go_sem] theorem zeroOk2 : zeroOk Tryz.prog 2 = true:=by kernel_rfl
@[go_sem] theorem info2 : (Tryz.prog.info? 2).isSome = true:=by kernel_rfl
@[go_sem] theorem zeroAV2 : zeroAV Tryz.prog 2 = some (.int .i64 0):=by kernel_rfl
@[go_sem] theorem cellsOf6 : Tryz.prog.cellsOf 6 = 1:=by kernel_rfl
@[go_sem] theorem bytesOf6 : Tryz.prog.bytesOf 6 = 1:=by kernel_rfl
@[go_sem] theorem ldk6 : ldk Tryz.prog 6 = some none:=by kernel_rfl
@[go_sem] theorem aggTy6 : aggTy Tryz.prog 6 = false:=by kernel_rfl
@[go_sem] theorem und6 : Tryz.prog.underlying 6 = some (.int .u8):=by kernel_rfl
@[go_sem] theorem zeroOk6 : zeroOk Tryz.prog 6 = true:=by kernel_rfl
@[go_sem] theorem info6 : (Tryz.prog.info? 6).isSome = true:=by kernel_rfl
@[go_sem] theorem zeroAV6 : zeroAV Tryz.prog 6 = some (.int .u8 0):=by kernel_rfl
@[go_sem] theorem cellsOf7 : Tryz.prog.cellsOf 7 = 4:=by kernel_rfl
@[go_sem] theorem bytesOf7 : Tryz.prog.bytesOf 7 = 24:=by kernel_rfl
@[go_sem] theorem ldk7 : ldk Tryz.prog 7 = some (some 4):=by kernel_rfl
@[go_sem] theorem aggTy7 : aggTy Tryz.prog 7 = true:=by kernel_rfl
@[go_sem] theorem zeroOk7 : zeroOk Tryz.prog 7 = true:=by kernel_rfl
@[go_sem] theorem info7 : (Tryz.prog.info? 7).isSome = true:=by kernel_rfl
@[go_sem] theorem bkind7 : bkind Tryz.prog 7 = .struct [(0,1),(1,1),(2,1),(3,1)]:=by kernel_rfl
@[go_sem] theorem fplace7_0 : fplace Tryz.prog 7 0 = some (2,0):=by kernel_rfl
@[go_sem] theorem fplace7_1 : fplace Tryz.prog 7 1 = some (3,1):=by kernel_rfl
@[go_sem] theorem fplace7_2 : fplace Tryz.prog 7 2 = some (4,2):=by kernel_rfl
@[go_sem] theorem fplace7_3 : fplace Tryz.prog 7 3 = some (6,3):=by kernel_rfl
@[go_sem] theorem zeroAV7 : zeroAV Tryz.prog 7 = some (.agg [.int .i64 0,.int .i64 0,.bool false,.int .u8 0]):=by kernel_rfl
@[go_sem] theorem cellsOf8 : Tryz.prog.cellsOf 8 = 4:=by kernel_rfl
@[go_sem] theorem bytesOf8 : Tryz.prog.bytesOf 8 = 24:=by kernel_rfl
@[go_sem] theorem ldk8 : ldk Tryz.prog 8 = some (some 4):=by kernel_rfl
@[go_sem] theorem aggTy8 : aggTy Tryz.prog 8 = true:=by kernel_rfl
@[go_sem] theorem zeroOk8 : zeroOk Tryz.prog 8 = true:=by kernel_rfl
@[go_sem] theorem info8 : (Tryz.prog.info? 8).isSome = true:=by kernel_rfl
@[go_sem] theorem bkind8 : bkind Tryz.prog 8 = .struct [(0,1),(1,1),(2,1),(3,1)]:=by kernel_rfl
@[go_sem] theorem fplace8_0 : fplace Tryz.prog 8 0 = some (2,0):=by kernel_rfl
@[go_sem] theorem fplace8_1 : fplace Tryz.prog 8 1 = some (3,1):=by kernel_rfl
@[go_sem] theorem fplace8_2 : fplace Tryz.prog 8 2 = some (4,2):=by kernel_rfl
@[go_sem] theorem fplace8_3 : fplace Tryz.prog 8 3 = some (6,3):=by kernel_rfl
@[go_sem] theorem zeroAV8 : zeroAV Tryz.prog 8 = some (.agg [.int .i64 0,.int .i64 0,.bool false,.int .u8 0]):=by kernel_rfl
@[go_sem] theorem cellsOf11 : Tryz.prog.cellsOf 11 = 1:=by kernel_rfl
@[go_sem] theorem bytesOf11 : Tryz.prog.bytesOf 11 = 16:=by kernel_rfl
@[go_sem] theorem ldk11 : ldk Tryz.prog 11 = some none:=by kernel_rfl
@[go_sem] theorem aggTy11 : aggTy Tryz.prog 11 = false:=by kernel_rfl
@[go_sem] theorem und11 : Tryz.prog.underlying 11 = some .string:=by kernel_rfl
@[go_sem] theorem zeroOk11 : zeroOk Tryz.prog 11 = true:=by kernel_rfl
@[go_sem] theorem info11 : (Tryz.prog.info? 11).isSome = true:=by kernel_rfl
@[go_sem] theorem zeroAV11 : zeroAV Tryz.prog 11 = some (.str ByteArray.empty):=by kernel_rfl
@[go_sem] theorem cellsOf12 : Tryz.prog.cellsOf 12 = 1:=by kernel_rfl
@[go_sem] theorem bytesOf12 : Tryz.prog.bytesOf 12 = 8:=by kernel_rfl
@[go_sem] theorem ldk12 : ldk Tryz.prog 12 = some none:=by kernel_rfl
@[go_sem] theorem aggTy12 : aggTy Tryz.prog 12 = false:=by kernel_rfl
@[go_sem] theorem und12 : Tryz.prog.underlying 12 = some (.int .u64):=by kernel_rfl
@[go_sem] theorem zeroOk12 : zeroOk Tryz.prog 12 = true:=by kernel_rfl
@[go_sem] theorem info12 : (Tryz.prog.info? 12).isSome = true:=by kernel_rfl
@[go_sem] theorem zeroAV12 : zeroAV Tryz.prog 12 = some (.int .u64 0):=by kernel_rfl
@[go_sem] theorem cellsOf17 : Tryz.prog.cellsOf 17 = 1:=by kernel_rfl
@[go_sem] theorem bytesOf17 : Tryz.prog.bytesOf 17 = 8:=by kernel_rfl
@[go_sem] theorem ldk17 : ldk Tryz.prog 17 = some none:=by kernel_rfl
@[go_sem] theorem aggTy17 : aggTy Tryz.prog 17 = false:=by kernel_rfl
@[go_sem] theorem isPtr17 : isPtr Tryz.prog 17 = true:=by kernel_rfl
@[go_sem] theorem und17 : Tryz.prog.underlying 17 = some (.pointer 395):=by kernel_rfl
@[go_sem] theorem zeroOk17 : zeroOk Tryz.prog 17 = true:=by kernel_rfl
@[go_sem] theorem info17 : (Tryz.prog.info? 17).isSome = true:=by kernel_rfl
@[go_sem] theorem zeroAV17 : zeroAV Tryz.prog 17 = some (.nilp):=by kernel_rfl
@[go_sem] theorem cellsOf21 : Tryz.prog.cellsOf 21 = 1:=by kernel_rfl
@[go_sem] theorem bytesOf21 : Tryz.prog.bytesOf 21 = 4:=by kernel_rfl
@[go_sem] theorem ldk21 : ldk Tryz.prog 21 = some none:=by kernel_rfl
@[go_sem] theorem aggTy21 : aggTy Tryz.prog 21 = false:=by kernel_rfl
@[go_sem] theorem und21 : Tryz.prog.underlying 21 = some (.int .i32):=by kernel_rfl
@[go_sem] theorem zeroOk21 : zeroOk Tryz.prog 21 = true:=by kernel_rfl
@[go_sem] theorem info21 : (Tryz.prog.info? 21).isSome = true:=by kernel_rfl
@[go_sem] theorem zeroAV21 : zeroAV Tryz.prog 21 = some (.int .i32 0):=by kernel_rfl
@[go_sem] theorem cellsOf161 : Tryz.prog.cellsOf 161 = 1:=by kernel_rfl
@[go_sem] theorem bytesOf161 : Tryz.prog.bytesOf 161 = 8:=by kernel_rfl
@[go_sem] theorem ldk161 : ldk Tryz.prog 161 = some none:=by kernel_rfl
@[go_sem] theorem aggTy161 : aggTy Tryz.prog 161 = false:=by kernel_rfl
@[go_sem] theorem zeroOk161 : zeroOk Tryz.prog 161 = true:=by kernel_rfl
@[go_sem] theorem info161 : (Tryz.prog.info? 161).isSome = true:=by kernel_rfl
@[go_sem] theorem zeroAV161 : zeroAV Tryz.prog 161 = some (.nilf):=by kernel_rfl
@[go_sem] theorem cellsOf172 : Tryz.prog.cellsOf 172 = 1:=by kernel_rfl
@[go_sem] theorem bytesOf172 : Tryz.prog.bytesOf 172 = 8:=by kernel_rfl
@[go_sem] theorem ldk172 : ldk Tryz.prog 172 = some none:=by kernel_rfl
@[go_sem] theorem aggTy172 : aggTy Tryz.prog 172 = false:=by kernel_rfl
@[go_sem] theorem zeroOk172 : zeroOk Tryz.prog 172 = true:=by kernel_rfl
@[go_sem] theorem info172 : (Tryz.prog.info? 172).isSome = true:=by kernel_rfl
@[go_sem] theorem zeroAV172 : zeroAV Tryz.prog 172 = some (.nilf):=by kernel_rfl
@[go_sem] theorem cellsOf196 : Tryz.prog.cellsOf 196 = 1:=by kernel_rfl
@[go_sem] theorem bytesOf196 : Tryz.prog.bytesOf 196 = 8:=by kernel_rfl
@[go_sem] theorem ldk196 : ldk Tryz.prog 196 = some none:=by kernel_rfl
@[go_sem] theorem aggTy196 : aggTy Tryz.prog 196 = false:=by kernel_rfl
@[go_sem] theorem zeroOk196 : zeroOk Tryz.prog 196 = true:=by kernel_rfl
@[go_sem] theorem info196 : (Tryz.prog.info? 196).isSome = true:=by kernel_rfl
@[go_sem] theorem zeroAV196 : zeroAV Tryz.prog 196 = some (.nilf):=by kernel_rfl
@[go_sem] theorem cellsOf199 : Tryz.prog.cellsOf 199 = 1:=by kernel_rfl
@[go_sem] theorem bytesOf199 : Tryz.prog.bytesOf 199 = 8:=by kernel_rfl
@[go_sem] theorem ldk199 : ldk Tryz.prog 199 = some none:=by kernel_rfl
@[go_sem] theorem aggTy199 : aggTy Tryz.prog 199 = false:=by kernel_rfl
@[go_sem] theorem zeroOk199 : zeroOk Tryz.prog 199 = true:=by kernel_rfl
@[go_sem] theorem info199 : (Tryz.prog.info? 199).isSome = true:=by kernel_rfl
@[go_sem] theorem zeroAV199 : zeroAV Tryz.prog 199 = some (.nilf):=by kernel_rfl
@[go_sem] theorem cellsOf202 : Tryz.prog.cellsOf 202 = 1:=by kernel_rfl
@[go_sem] theorem bytesOf202 : Tryz.prog.bytesOf 202 = 8:=by kernel_rfl
@[go_sem] theorem ldk202 : ldk Tryz.prog 202 = some none:=by kernel_rfl
@[go_sem] theorem aggTy202 : aggTy Tryz.prog 202 = false:=by kernel_rfl
@[go_sem] theorem zeroOk202 : zeroOk Tryz.prog 202 = true:=by kernel_rfl
@[go_sem] theorem info202 : (Tryz.prog.info? 202).isSome = true:=by kernel_rfl
@[go_sem] theorem zeroAV202 : zeroAV Tryz.prog 202 = some (.nilf):=by kernel_rfl
@[go_sem] theorem cellsOf203 : Tryz.prog.cellsOf 203 = 1:=by kernel_rfl
@[go_sem] theorem bytesOf203 : Tryz.prog.bytesOf 203 = 8:=by kernel_rfl
@[go_sem] theorem ldk203 : ldk Tryz.prog 203 = some none:=by kernel_rfl
@[go_sem] theorem aggTy203 : aggTy Tryz.prog 203 = false:=by kernel_rfl
@[go_sem] theorem zeroOk203 : zeroOk Tryz.prog 203 = true:=by kernel_rfl
@[go_sem] theorem info203 : (Tryz.prog.info? 203).isSome = true:=by kernel_rfl
@[go_sem] theorem zeroAV203 : zeroAV Tryz.prog 203 = some (.nilf):=by kernel_rfl
@[go_sem] theorem cellsOf204 : Tryz.prog.cellsOf 204 = 1:=by kernel_rfl
@[go_sem] theorem bytesOf204 : Tryz.prog.bytesOf 204 = 8:=by kernel_rfl
@[go_sem] theorem ldk204 : ldk Tryz.prog 204 = some none:=by kernel_rfl
@[go_sem] theorem aggTy204 : aggTy Tryz.prog 204 = false:=by kernel_rfl
@[go_sem] theorem zeroOk204 : zeroOk Tryz.prog 204 = true:=by kernel_rfl
@[go_sem] theorem info204 : (Tryz.prog.info? 204).isSome = true:=by kernel_rfl
@[go_sem] theorem zeroAV204 : zeroAV Tryz.prog 204 = some (.nilf):=by kernel_rfl
@[go_sem] theorem cellsOf206 : Tryz.prog.cellsOf 206 = 1:=by kernel_rfl
@[go_sem] theorem bytesOf206 : Tryz.prog.bytesOf 206 = 8:=by kernel_rfl
@[go_sem] theorem ldk206 : ldk Tryz.prog 206 = some none:=by kernel_rfl
@[go_sem] theorem aggTy206 : aggTy Tryz.prog 206 = false:=by kernel_rfl
@[go_sem] theorem zeroOk206 : zeroOk Tryz.prog 206 = true:=by kernel_rfl
@[go_sem] theorem info206 : (Tryz.prog.info? 206).isSome = true:=by kernel_rfl
@[go_sem] theorem zeroAV206 : zeroAV Tryz.prog 206 = some (.nilf):=by kernel_rfl
@[go_sem] theorem cellsOf215 : Tryz.prog.cellsOf 215 = 1:=by kernel_rfl
@[go_sem] theorem bytesOf215 : Tryz.prog.bytesOf 215 = 8:=by kernel_rfl
@[go_sem] theorem ldk215 : ldk Tryz.prog 215 = some none:=by kernel_rfl
@[go_sem] theorem aggTy215 : aggTy Tryz.prog 215 = false:=by kernel_rfl
@[go_sem] theorem zeroOk215 : zeroOk Tryz.prog 215 = true:=by kernel_rfl
@[go_sem] theorem info215 : (Tryz.prog.info? 215).isSome = true:=by kernel_rfl
@[go_sem] theorem cellsOf216 : Tryz.prog.cellsOf 216 = 1:=by kernel_rfl
@[go_sem] theorem bytesOf216 : Tryz.prog.bytesOf 216 = 8:=by kernel_rfl
@[go_sem] theorem ldk216 : ldk Tryz.prog 216 = some none:=by kernel_rfl
@[go_sem] theorem aggTy216 : aggTy Tryz.prog 216 = false:=by kernel_rfl
@[go_sem] theorem zeroOk216 : zeroOk Tryz.prog 216 = true:=by kernel_rfl
@[go_sem] theorem info216 : (Tryz.prog.info? 216).isSome = true:=by kernel_rfl
@[go_sem] theorem zeroAV216 : zeroAV Tryz.prog 216 = some (.nilf):=by kernel_rfl
@[go_sem] theorem cellsOf219 : Tryz.prog.cellsOf 219 = 2:=by kernel_rfl
@[go_sem] theorem bytesOf219 : Tryz.prog.bytesOf 219 = 16:=by kernel_rfl
@[go_sem] theorem ldk219 : ldk Tryz.prog 219 = some (some 2):=by kernel_rfl
@[go_sem] theorem aggTy219 : aggTy Tryz.prog 219 = true:=by kernel_rfl
@[go_sem] theorem und219 : Tryz.prog.underlying 219 = some (.array 2 3):=by kernel_rfl
@[go_sem] theorem zeroOk219 : zeroOk Tryz.prog 219 = true:=by kernel_rfl
@[go_sem] theorem info219 : (Tryz.prog.info? 219).isSome = true:=by kernel_rfl
@[go_sem] theorem bkind219 : bkind Tryz.prog 219 = .array 1:=by kernel_rfl
@[go_sem] theorem zeroAV219 : zeroAV Tryz.prog 219 = some (.agg [.int .i64 0,.int .i64 0]):=by kernel_rfl
@[go_sem] theorem cellsOf220 : Tryz.prog.cellsOf 220 = 1:=by kernel_rfl
@[go_sem] theorem bytesOf220 : Tryz.prog.bytesOf 220 = 8:=by kernel_rfl
@[go_sem] theorem ldk220 : ldk Tryz.prog 220 = some none:=by kernel_rfl
@[go_sem] theorem aggTy220 : aggTy Tryz.prog 220 = false:=by kernel_rfl
@[go_sem] theorem zeroOk220 : zeroOk Tryz.prog 220 = true:=by kernel_rfl
@[go_sem] theorem info220 : (Tryz.prog.info? 220).isSome = true:=by kernel_rfl
@[go_sem] theorem zeroAV220 : zeroAV Tryz.prog 220 = some (.nilf):=by kernel_rfl
@[go_sem] theorem cellsOf236 : Tryz.prog.cellsOf 236 = 4:=by kernel_rfl
@[go_sem] theorem bytesOf236 : Tryz.prog.bytesOf 236 = 56:=by kernel_rfl
@[go_sem] theorem ldk236 : ldk Tryz.prog 236 = some (some 4):=by kernel_rfl
@[go_sem] theorem aggTy236 : aggTy Tryz.prog 236 = true:=by kernel_rfl
@[go_sem] theorem zeroOk236 : zeroOk Tryz.prog 236 = true:=by kernel_rfl
@[go_sem] theorem info236 : (Tryz.prog.info? 236).isSome = true:=by kernel_rfl
@[go_sem] theorem bkind236 : bkind Tryz.prog 236 = .struct [(0,1),(1,1),(2,1),(3,1)]:=by kernel_rfl
@[go_sem] theorem fplace236_0 : fplace Tryz.prog 236 0 = some (9,0):=by kernel_rfl
@[go_sem] theorem fplace236_1 : fplace Tryz.prog 236 1 = some (67,1):=by kernel_rfl
@[go_sem] theorem fplace236_2 : fplace Tryz.prog 236 2 = some (3,2):=by kernel_rfl
@[go_sem] theorem fplace236_3 : fplace Tryz.prog 236 3 = some (3,3):=by kernel_rfl
@[go_sem] theorem zeroAV236 : zeroAV Tryz.prog 236 = some (.agg [.str ByteArray.empty,.sl (some 1) [],.int .i64 0,.int .i64 0]):=by kernel_rfl
@[go_sem] theorem cellsOf237 : Tryz.prog.cellsOf 237 = 4:=by kernel_rfl
@[go_sem] theorem bytesOf237 : Tryz.prog.bytesOf 237 = 56:=by kernel_rfl
@[go_sem] theorem ldk237 : ldk Tryz.prog 237 = some (some 4):=by kernel_rfl
@[go_sem] theorem aggTy237 : aggTy Tryz.prog 237 = true:=by kernel_rfl
@[go_sem] theorem zeroOk237 : zeroOk Tryz.prog 237 = true:=by kernel_rfl
@[go_sem] theorem info237 : (Tryz.prog.info? 237).isSome = true:=by kernel_rfl
@[go_sem] theorem bkind237 : bkind Tryz.prog 237 = .struct [(0,1),(1,1),(2,1),(3,1)]:=by kernel_rfl
@[go_sem] theorem fplace237_0 : fplace Tryz.prog 237 0 = some (9,0):=by kernel_rfl
@[go_sem] theorem fplace237_1 : fplace Tryz.prog 237 1 = some (67,1):=by kernel_rfl
@[go_sem] theorem fplace237_2 : fplace Tryz.prog 237 2 = some (3,2):=by kernel_rfl
@[go_sem] theorem fplace237_3 : fplace Tryz.prog 237 3 = some (3,3):=by kernel_rfl
@[go_sem] theorem zeroAV237 : zeroAV Tryz.prog 237 = some (.agg [.str ByteArray.empty,.sl (some 1) [],.int .i64 0,.int .i64 0]):=by kernel_rfl
@[go_sem] theorem cellsOf256 : Tryz.prog.cellsOf 256 = 1:=by kernel_rfl
@[go_sem] theorem bytesOf256 : Tryz.prog.bytesOf 256 = 8:=by kernel_rfl
@[go_sem] theorem ldk256 : ldk Tryz.prog 256 = some none:=by kernel_rfl
@[go_sem] theorem aggTy256 : aggTy Tryz.prog 256 = false:=by kernel_rfl
@[go_sem] theorem zeroOk256 : zeroOk Tryz.prog 256 = true:=by kernel_rfl
@[go_sem] theorem info256 : (Tryz.prog.info? 256).isSome = true:=by kernel_rfl
@[go_sem] theorem zeroAV256 : zeroAV Tryz.prog 256 = some (.nilf):=by kernel_rfl
@[go_sem] theorem cellsOf258 : Tryz.prog.cellsOf 258 = 1:=by kernel_rfl
@[go_sem] theorem bytesOf258 : Tryz.prog.bytesOf 258 = 8:=by kernel_rfl
@[go_sem] theorem ldk258 : ldk Tryz.prog 258 = some none:=by kernel_rfl
@[go_sem] theorem aggTy258 : aggTy Tryz.prog 258 = false:=by kernel_rfl
@[go_sem] theorem zeroOk258 : zeroOk Tryz.prog 258 = true:=by kernel_rfl
@[go_sem] theorem info258 : (Tryz.prog.info? 258).isSome = true:=by kernel_rfl
@[go_sem] theorem zeroAV258 : zeroAV Tryz.prog 258 = some (.nilf):=by kernel_rfl
@[go_sem] theorem cellsOf261 : Tryz.prog.cellsOf 261 = 1:=by kernel_rfl
@[go_sem] theorem bytesOf261 : Tryz.prog.bytesOf 261 = 8:=by kernel_rfl
@[go_sem] theorem ldk261 : ldk Tryz.prog 261 = some none:=by kernel_rfl
@[go_sem] theorem aggTy261 : aggTy Tryz.prog 261 = false:=by kernel_rfl
@[go_sem] theorem zeroOk261 : zeroOk Tryz.prog 261 = true:=by kernel_rfl
@[go_sem] theorem info261 : (Tryz.prog.info? 261).isSome = true:=by kernel_rfl
@[go_sem] theorem zeroAV261 : zeroAV Tryz.prog 261 = some (.nilf):=by kernel_rfl
@[go_sem] theorem cellsOf263 : Tryz.prog.cellsOf 263 = 1:=by kernel_rfl
@[go_sem] theorem bytesOf263 : Tryz.prog.bytesOf 263 = 8:=by kernel_rfl
@[go_sem] theorem ldk263 : ldk Tryz.prog 263 = some none:=by kernel_rfl
@[go_sem] theorem aggTy263 : aggTy Tryz.prog 263 = false:=by kernel_rfl
@[go_sem] theorem zeroOk263 : zeroOk Tryz.prog 263 = true:=by kernel_rfl
@[go_sem] theorem info263 : (Tryz.prog.info? 263).isSome = true:=by kernel_rfl
@[go_sem] theorem zeroAV263 : zeroAV Tryz.prog 263 = some (.nilf):=by kernel_rfl
@[go_sem] theorem cellsOf264 : Tryz.prog.cellsOf 264 = 1:=by kernel_rfl
@[go_sem] theorem bytesOf264 : Tryz.prog.bytesOf 264 = 8:=by kernel_rfl
@[go_sem] theorem ldk264 : ldk Tryz.prog 264 = some none:=by kernel_rfl
@[go_sem] theorem aggTy264 : aggTy Tryz.prog 264 = false:=by kernel_rfl
@[go_sem] theorem zeroOk264 : zeroOk Tryz.prog 264 = true:=by kernel_rfl
@[go_sem] theorem info264 : (Tryz.prog.info? 264).isSome = true:=by kernel_rfl
@[go_sem] theorem zeroAV264 : zeroAV Tryz.prog 264 = some (.nilf):=by kernel_rfl
@[go_sem] theorem cellsOf265 : Tryz.prog.cellsOf 265 = 1:=by kernel_rfl
@[go_sem] theorem bytesOf265 : Tryz.prog.bytesOf 265 = 8:=by kernel_rfl
@[go_sem] theorem ldk265 : ldk Tryz.prog 265 = some none:=by kernel_rfl
@[go_sem] theorem aggTy265 : aggTy Tryz.prog 265 = false:=by kernel_rfl
@[go_sem] theorem zeroOk265 : zeroOk Tryz.prog 265 = true:=by kernel_rfl
@[go_sem] theorem info265 : (Tryz.prog.info? 265).isSome = true:=by kernel_rfl
@[go_sem] theorem zeroAV265 : zeroAV Tryz.prog 265 = some (.nilf):=by kernel_rfl
@[go_sem] theorem cellsOf266 : Tryz.prog.cellsOf 266 = 1:=by kernel_rfl
@[go_sem] theorem bytesOf266 : Tryz.prog.bytesOf 266 = 8:=by kernel_rfl
@[go_sem] theorem ldk266 : ldk Tryz.prog 266 = some none:=by kernel_rfl
@[go_sem] theorem aggTy266 : aggTy Tryz.prog 266 = false:=by kernel_rfl
@[go_sem] theorem zeroOk266 : zeroOk Tryz.prog 266 = true:=by kernel_rfl
@[go_sem] theorem info266 : (Tryz.prog.info? 266).isSome = true:=by kernel_rfl
@[go_sem] theorem zeroAV266 : zeroAV Tryz.prog 266 = some (.nilf):=by kernel_rfl
@[go_sem] theorem cellsOf268 : Tryz.prog.cellsOf 268 = 1:=by kernel_rfl
@[go_sem] theorem bytesOf268 : Tryz.prog.bytesOf 268 = 8:=by kernel_rfl
@[go_sem] theorem ldk268 : ldk Tryz.prog 268 = some none:=by kernel_rfl
@[go_sem] theorem aggTy268 : aggTy Tryz.prog 268 = false:=by kernel_rfl
@[go_sem] theorem zeroOk268 : zeroOk Tryz.prog 268 = true:=by kernel_rfl
@[go_sem] theorem info268 : (Tryz.prog.info? 268).isSome = true:=by kernel_rfl
@[go_sem] theorem zeroAV268 : zeroAV Tryz.prog 268 = some (.nilf):=by kernel_rfl
@[go_sem] theorem cellsOf272 : Tryz.prog.cellsOf 272 = 1:=by kernel_rfl
@[go_sem] theorem bytesOf272 : Tryz.prog.bytesOf 272 = 8:=by kernel_rfl
@[go_sem] theorem ldk272 : ldk Tryz.prog 272 = some none:=by kernel_rfl
@[go_sem] theorem aggTy272 : aggTy Tryz.prog 272 = false:=by kernel_rfl
@[go_sem] theorem zeroOk272 : zeroOk Tryz.prog 272 = true:=by kernel_rfl
@[go_sem] theorem info272 : (Tryz.prog.info? 272).isSome = true:=by kernel_rfl
@[go_sem] theorem zeroAV272 : zeroAV Tryz.prog 272 = some (.nilf):=by kernel_rfl
@[go_sem] theorem cellsOf273 : Tryz.prog.cellsOf 273 = 1:=by kernel_rfl
@[go_sem] theorem bytesOf273 : Tryz.prog.bytesOf 273 = 8:=by kernel_rfl
@[go_sem] theorem ldk273 : ldk Tryz.prog 273 = some none:=by kernel_rfl
@[go_sem] theorem aggTy273 : aggTy Tryz.prog 273 = false:=by kernel_rfl
@[go_sem] theorem zeroOk273 : zeroOk Tryz.prog 273 = true:=by kernel_rfl
@[go_sem] theorem info273 : (Tryz.prog.info? 273).isSome = true:=by kernel_rfl
@[go_sem] theorem zeroAV273 : zeroAV Tryz.prog 273 = some (.nilf):=by kernel_rfl
@[go_sem] theorem cellsOf287 : Tryz.prog.cellsOf 287 = 1:=by kernel_rfl
@[go_sem] theorem bytesOf287 : Tryz.prog.bytesOf 287 = 8:=by kernel_rfl
@[go_sem] theorem ldk287 : ldk Tryz.prog 287 = some none:=by kernel_rfl
@[go_sem] theorem aggTy287 : aggTy Tryz.prog 287 = false:=by kernel_rfl
@[go_sem] theorem isPtr287 : isPtr Tryz.prog 287 = true:=by kernel_rfl
@[go_sem] theorem und287 : Tryz.prog.underlying 287 = some (.pointer 237):=by kernel_rfl
@[go_sem] theorem zeroOk287 : zeroOk Tryz.prog 287 = true:=by kernel_rfl
@[go_sem] theorem info287 : (Tryz.prog.info? 287).isSome = true:=by kernel_rfl
@[go_sem] theorem zeroAV287 : zeroAV Tryz.prog 287 = some (.nilp):=by kernel_rfl
@[go_sem] theorem cellsOf292 : Tryz.prog.cellsOf 292 = 1:=by kernel_rfl
@[go_sem] theorem bytesOf292 : Tryz.prog.bytesOf 292 = 8:=by kernel_rfl
@[go_sem] theorem ldk292 : ldk Tryz.prog 292 = some none:=by kernel_rfl
@[go_sem] theorem aggTy292 : aggTy Tryz.prog 292 = false:=by kernel_rfl
@[go_sem] theorem zeroOk292 : zeroOk Tryz.prog 292 = true:=by kernel_rfl
@[go_sem] theorem info292 : (Tryz.prog.info? 292).isSome = true:=by kernel_rfl
@[go_sem] theorem zeroAV292 : zeroAV Tryz.prog 292 = some (.nilf):=by kernel_rfl
@[go_sem] theorem cellsOf295 : Tryz.prog.cellsOf 295 = 1:=by kernel_rfl
@[go_sem] theorem bytesOf295 : Tryz.prog.bytesOf 295 = 8:=by kernel_rfl
@[go_sem] theorem ldk295 : ldk Tryz.prog 295 = some none:=by kernel_rfl
@[go_sem] theorem aggTy295 : aggTy Tryz.prog 295 = false:=by kernel_rfl
@[go_sem] theorem zeroOk295 : zeroOk Tryz.prog 295 = true:=by kernel_rfl
@[go_sem] theorem info295 : (Tryz.prog.info? 295).isSome = true:=by kernel_rfl
@[go_sem] theorem zeroAV295 : zeroAV Tryz.prog 295 = some (.nilf):=by kernel_rfl
@[go_sem] theorem cellsOf297 : Tryz.prog.cellsOf 297 = 1:=by kernel_rfl
@[go_sem] theorem bytesOf297 : Tryz.prog.bytesOf 297 = 8:=by kernel_rfl
@[go_sem] theorem ldk297 : ldk Tryz.prog 297 = some none:=by kernel_rfl
@[go_sem] theorem aggTy297 : aggTy Tryz.prog 297 = false:=by kernel_rfl
@[go_sem] theorem zeroOk297 : zeroOk Tryz.prog 297 = true:=by kernel_rfl
@[go_sem] theorem info297 : (Tryz.prog.info? 297).isSome = true:=by kernel_rfl
@[go_sem] theorem zeroAV297 : zeroAV Tryz.prog 297 = some (.nilf):=by kernel_rfl
@[go_sem] theorem cellsOf304 : Tryz.prog.cellsOf 304 = 1:=by kernel_rfl
@[go_sem] theorem bytesOf304 : Tryz.prog.bytesOf 304 = 8:=by kernel_rfl
@[go_sem] theorem ldk304 : ldk Tryz.prog 304 = some none:=by kernel_rfl
@[go_sem] theorem aggTy304 : aggTy Tryz.prog 304 = false:=by kernel_rfl
@[go_sem] theorem zeroOk304 : zeroOk Tryz.prog 304 = true:=by kernel_rfl
@[go_sem] theorem info304 : (Tryz.prog.info? 304).isSome = true:=by kernel_rfl
@[go_sem] theorem cellsOf308 : Tryz.prog.cellsOf 308 = 1:=by kernel_rfl
@[go_sem] theorem bytesOf308 : Tryz.prog.bytesOf 308 = 8:=by kernel_rfl
@[go_sem] theorem ldk308 : ldk Tryz.prog 308 = some none:=by kernel_rfl
@[go_sem] theorem aggTy308 : aggTy Tryz.prog 308 = false:=by kernel_rfl
@[go_sem] theorem zeroOk308 : zeroOk Tryz.prog 308 = true:=by kernel_rfl
@[go_sem] theorem info308 : (Tryz.prog.info? 308).isSome = true:=by kernel_rfl
@[go_sem] theorem zeroAV308 : zeroAV Tryz.prog 308 = some (.nilf):=by kernel_rfl
@[go_sem] theorem cellsOf309 : Tryz.prog.cellsOf 309 = 1:=by kernel_rfl
@[go_sem] theorem bytesOf309 : Tryz.prog.bytesOf 309 = 8:=by kernel_rfl
@[go_sem] theorem ldk309 : ldk Tryz.prog 309 = some none:=by kernel_rfl
@[go_sem] theorem aggTy309 : aggTy Tryz.prog 309 = false:=by kernel_rfl
@[go_sem] theorem zeroOk309 : zeroOk Tryz.prog 309 = true:=by kernel_rfl
@[go_sem] theorem info309 : (Tryz.prog.info? 309).isSome = true:=by kernel_rfl
@[go_sem] theorem zeroAV309 : zeroAV Tryz.prog 309 = some (.nilf):=by kernel_rfl
@[go_sem] theorem cellsOf312 : Tryz.prog.cellsOf 312 = 1:=by kernel_rfl
@[go_sem] theorem bytesOf312 : Tryz.prog.bytesOf 312 = 8:=by kernel_rfl
@[go_sem] theorem ldk312 : ldk Tryz.prog 312 = some none:=by kernel_rfl
@[go_sem] theorem aggTy312 : aggTy Tryz.prog 312 = false:=by kernel_rfl
@[go_sem] theorem zeroOk312 : zeroOk Tryz.prog 312 = true:=by kernel_rfl
@[go_sem] theorem info312 : (Tryz.prog.info? 312).isSome = true:=by kernel_rfl
@[go_sem] theorem zeroAV312 : zeroAV Tryz.prog 312 = some (.nilf):=by kernel_rfl
@[go_sem] theorem cellsOf313 : Tryz.prog.cellsOf 313 = 1:=by kernel_rfl
@[go_sem] theorem bytesOf313 : Tryz.prog.bytesOf 313 = 8:=by kernel_rfl
@[go_sem] theorem ldk313 : ldk Tryz.prog 313 = some none:=by kernel_rfl
@[go_sem] theorem aggTy313 : aggTy Tryz.prog 313 = false:=by kernel_rfl
@[go_sem] theorem zeroOk313 : zeroOk Tryz.prog 313 = true:=by kernel_rfl
@[go_sem] theorem info313 : (Tryz.prog.info? 313).isSome = true:=by kernel_rfl
@[go_sem] theorem zeroAV313 : zeroAV Tryz.prog 313 = some (.nilf):=by kernel_rfl
@[go_sem] theorem cellsOf336 : Tryz.prog.cellsOf 336 = 5:=by kernel_rfl
@[go_sem] theorem bytesOf336 : Tryz.prog.bytesOf 336 = 64:=by kernel_rfl
@[go_sem] theorem ldk336 : ldk Tryz.prog 336 = some (some 5):=by kernel_rfl
@[go_sem] theorem aggTy336 : aggTy Tryz.prog 336 = true:=by kernel_rfl
@[go_sem] theorem zeroOk336 : zeroOk Tryz.prog 336 = true:=by kernel_rfl
@[go_sem] theorem info336 : (Tryz.prog.info? 336).isSome = true:=by kernel_rfl
@[go_sem] theorem bkind336 : bkind Tryz.prog 336 = .struct [(0,1),(1,1),(2,1),(3,1),(4,1)]:=by kernel_rfl
@[go_sem] theorem fplace336_0 : fplace Tryz.prog 336 0 = some (9,0):=by kernel_rfl
@[go_sem] theorem fplace336_1 : fplace Tryz.prog 336 1 = some (3,1):=by kernel_rfl
@[go_sem] theorem fplace336_2 : fplace Tryz.prog 336 2 = some (67,2):=by kernel_rfl
@[go_sem] theorem fplace336_3 : fplace Tryz.prog 336 3 = some (3,3):=by kernel_rfl
@[go_sem] theorem fplace336_4 : fplace Tryz.prog 336 4 = some (3,4):=by kernel_rfl
@[go_sem] theorem zeroAV336 : zeroAV Tryz.prog 336 = some (.agg [.str ByteArray.empty,.int .i64 0,.sl (some 1) [],.int .i64 0,.int .i64 0]):=by kernel_rfl
@[go_sem] theorem cellsOf337 : Tryz.prog.cellsOf 337 = 5:=by kernel_rfl
@[go_sem] theorem bytesOf337 : Tryz.prog.bytesOf 337 = 64:=by kernel_rfl
@[go_sem] theorem ldk337 : ldk Tryz.prog 337 = some (some 5):=by kernel_rfl
@[go_sem] theorem aggTy337 : aggTy Tryz.prog 337 = true:=by kernel_rfl
@[go_sem] theorem zeroOk337 : zeroOk Tryz.prog 337 = true:=by kernel_rfl
@[go_sem] theorem info337 : (Tryz.prog.info? 337).isSome = true:=by kernel_rfl
@[go_sem] theorem bkind337 : bkind Tryz.prog 337 = .struct [(0,1),(1,1),(2,1),(3,1),(4,1)]:=by kernel_rfl
@[go_sem] theorem fplace337_0 : fplace Tryz.prog 337 0 = some (9,0):=by kernel_rfl
@[go_sem] theorem fplace337_1 : fplace Tryz.prog 337 1 = some (3,1):=by kernel_rfl
@[go_sem] theorem fplace337_2 : fplace Tryz.prog 337 2 = some (67,2):=by kernel_rfl
@[go_sem] theorem fplace337_3 : fplace Tryz.prog 337 3 = some (3,3):=by kernel_rfl
@[go_sem] theorem fplace337_4 : fplace Tryz.prog 337 4 = some (3,4):=by kernel_rfl
@[go_sem] theorem cellsOf349 : Tryz.prog.cellsOf 349 = 1:=by kernel_rfl
@[go_sem] theorem bytesOf349 : Tryz.prog.bytesOf 349 = 8:=by kernel_rfl
@[go_sem] theorem ldk349 : ldk Tryz.prog 349 = some none:=by kernel_rfl
@[go_sem] theorem aggTy349 : aggTy Tryz.prog 349 = false:=by kernel_rfl
@[go_sem] theorem zeroOk349 : zeroOk Tryz.prog 349 = true:=by kernel_rfl
@[go_sem] theorem info349 : (Tryz.prog.info? 349).isSome = true:=by kernel_rfl
@[go_sem] theorem zeroAV349 : zeroAV Tryz.prog 349 = some (.nilf):=by kernel_rfl
@[go_sem] theorem cellsOf367 : Tryz.prog.cellsOf 367 = 1:=by kernel_rfl
@[go_sem] theorem bytesOf367 : Tryz.prog.bytesOf 367 = 4:=by kernel_rfl
@[go_sem] theorem ldk367 : ldk Tryz.prog 367 = some none:=by kernel_rfl
@[go_sem] theorem aggTy367 : aggTy Tryz.prog 367 = false:=by kernel_rfl
@[go_sem] theorem und367 : Tryz.prog.underlying 367 = some (.int .u32):=by kernel_rfl
@[go_sem] theorem zeroOk367 : zeroOk Tryz.prog 367 = true:=by kernel_rfl
@[go_sem] theorem info367 : (Tryz.prog.info? 367).isSome = true:=by kernel_rfl
@[go_sem] theorem zeroAV367 : zeroAV Tryz.prog 367 = some (.int .u32 0):=by kernel_rfl
@[go_sem] theorem cellsOf388 : Tryz.prog.cellsOf 388 = 1:=by kernel_rfl
@[go_sem] theorem bytesOf388 : Tryz.prog.bytesOf 388 = 1:=by kernel_rfl
@[go_sem] theorem ldk388 : ldk Tryz.prog 388 = some none:=by kernel_rfl
@[go_sem] theorem aggTy388 : aggTy Tryz.prog 388 = false:=by kernel_rfl
@[go_sem] theorem und388 : Tryz.prog.underlying 388 = some (.int .u8):=by kernel_rfl
@[go_sem] theorem zeroOk388 : zeroOk Tryz.prog 388 = true:=by kernel_rfl
@[go_sem] theorem info388 : (Tryz.prog.info? 388).isSome = true:=by kernel_rfl
@[go_sem] theorem zeroAV388 : zeroAV Tryz.prog 388 = some (.int .u8 0):=by kernel_rfl
@[go_sem] theorem cellsOf389 : Tryz.prog.cellsOf 389 = 1:=by kernel_rfl
@[go_sem] theorem bytesOf389 : Tryz.prog.bytesOf 389 = 1:=by kernel_rfl
@[go_sem] theorem ldk389 : ldk Tryz.prog 389 = some none:=by kernel_rfl
@[go_sem] theorem aggTy389 : aggTy Tryz.prog 389 = false:=by kernel_rfl
@[go_sem] theorem und389 : Tryz.prog.underlying 389 = some (.int .u8):=by kernel_rfl
@[go_sem] theorem zeroOk389 : zeroOk Tryz.prog 389 = true:=by kernel_rfl
@[go_sem] theorem info389 : (Tryz.prog.info? 389).isSome = true:=by kernel_rfl
@[go_sem] theorem zeroAV389 : zeroAV Tryz.prog 389 = some (.int .u8 0):=by kernel_rfl
@[go_sem] theorem cellsOf390 : Tryz.prog.cellsOf 390 = 1:=by kernel_rfl
@[go_sem] theorem bytesOf390 : Tryz.prog.bytesOf 390 = 8:=by kernel_rfl
@[go_sem] theorem ldk390 : ldk Tryz.prog 390 = some none:=by kernel_rfl
@[go_sem] theorem aggTy390 : aggTy Tryz.prog 390 = false:=by kernel_rfl
@[go_sem] theorem zeroOk390 : zeroOk Tryz.prog 390 = true:=by kernel_rfl
@[go_sem] theorem info390 : (Tryz.prog.info? 390).isSome = true:=by kernel_rfl
@[go_sem] theorem zeroAV390 : zeroAV Tryz.prog 390 = some (.nilf):=by kernel_rfl
@[go_sem] theorem cellsOf391 : Tryz.prog.cellsOf 391 = 1:=by kernel_rfl
@[go_sem] theorem bytesOf391 : Tryz.prog.bytesOf 391 = 8:=by kernel_rfl
@[go_sem] theorem ldk391 : ldk Tryz.prog 391 = some none:=by kernel_rfl
@[go_sem] theorem aggTy391 : aggTy Tryz.prog 391 = false:=by kernel_rfl
@[go_sem] theorem isPtr391 : isPtr Tryz.prog 391 = true:=by kernel_rfl
@[go_sem] theorem und391 : Tryz.prog.underlying 391 = some (.pointer 5):=by kernel_rfl
@[go_sem] theorem zeroOk391 : zeroOk Tryz.prog 391 = true:=by kernel_rfl
@[go_sem] theorem info391 : (Tryz.prog.info? 391).isSome = true:=by kernel_rfl
@[go_sem] theorem zeroAV391 : zeroAV Tryz.prog 391 = some (.nilp):=by kernel_rfl
@[go_sem] theorem cellsOf392 : Tryz.prog.cellsOf 392 = 1:=by kernel_rfl
@[go_sem] theorem bytesOf392 : Tryz.prog.bytesOf 392 = 4:=by kernel_rfl
@[go_sem] theorem ldk392 : ldk Tryz.prog 392 = some none:=by kernel_rfl
@[go_sem] theorem aggTy392 : aggTy Tryz.prog 392 = false:=by kernel_rfl
@[go_sem] theorem und392 : Tryz.prog.underlying 392 = some (.int .i32):=by kernel_rfl
@[go_sem] theorem zeroOk392 : zeroOk Tryz.prog 392 = true:=by kernel_rfl
@[go_sem] theorem info392 : (Tryz.prog.info? 392).isSome = true:=by kernel_rfl
@[go_sem] theorem zeroAV392 : zeroAV Tryz.prog 392 = some (.int .i32 0):=by kernel_rfl
@[go_sem] theorem cellsOf393 : Tryz.prog.cellsOf 393 = 1:=by kernel_rfl
@[go_sem] theorem bytesOf393 : Tryz.prog.bytesOf 393 = 4:=by kernel_rfl
@[go_sem] theorem ldk393 : ldk Tryz.prog 393 = some none:=by kernel_rfl
@[go_sem] theorem aggTy393 : aggTy Tryz.prog 393 = false:=by kernel_rfl
@[go_sem] theorem und393 : Tryz.prog.underlying 393 = some (.int .i32):=by kernel_rfl
@[go_sem] theorem zeroOk393 : zeroOk Tryz.prog 393 = true:=by kernel_rfl
@[go_sem] theorem info393 : (Tryz.prog.info? 393).isSome = true:=by kernel_rfl
@[go_sem] theorem zeroAV393 : zeroAV Tryz.prog 393 = some (.int .i32 0):=by kernel_rfl
@[go_sem] theorem cellsOf394 : Tryz.prog.cellsOf 394 = 11:=by kernel_rfl
@[go_sem] theorem bytesOf394 : Tryz.prog.bytesOf 394 = 48:=by kernel_rfl
@[go_sem] theorem ldk394 : ldk Tryz.prog 394 = some (some 11):=by kernel_rfl
@[go_sem] theorem aggTy394 : aggTy Tryz.prog 394 = true:=by kernel_rfl
@[go_sem] theorem zeroOk394 : zeroOk Tryz.prog 394 = true:=by kernel_rfl
@[go_sem] theorem info394 : (Tryz.prog.info? 394).isSome = true:=by kernel_rfl
@[go_sem] theorem bkind394 : bkind Tryz.prog 394 = .struct [(0,1),(1,1),(2,1),(3,1),(4,1),(5,1),(6,1),(7,1),(8,1),(9,1),(10,1)]:=by kernel_rfl
@[go_sem] theorem fplace394_0 : fplace Tryz.prog 394 0 = some (12,0):=by kernel_rfl
@[go_sem] theorem fplace394_1 : fplace Tryz.prog 394 1 = some (12,1):=by kernel_rfl
@[go_sem] theorem fplace394_2 : fplace Tryz.prog 394 2 = some (367,2):=by kernel_rfl
@[go_sem] theorem fplace394_3 : fplace Tryz.prog 394 3 = some (388,3):=by kernel_rfl
@[go_sem] theorem fplace394_4 : fplace Tryz.prog 394 4 = some (5,4):=by kernel_rfl
@[go_sem] theorem fplace394_5 : fplace Tryz.prog 394 5 = some (5,5):=by kernel_rfl
@[go_sem] theorem fplace394_6 : fplace Tryz.prog 394 6 = some (389,6):=by kernel_rfl
@[go_sem] theorem fplace394_7 : fplace Tryz.prog 394 7 = some (390,7):=by kernel_rfl
@[go_sem] theorem fplace394_8 : fplace Tryz.prog 394 8 = some (391,8):=by kernel_rfl
@[go_sem] theorem fplace394_9 : fplace Tryz.prog 394 9 = some (392,9):=by kernel_rfl
@[go_sem] theorem fplace394_10 : fplace Tryz.prog 394 10 = some (393,10):=by kernel_rfl
@[go_sem] theorem zeroAV394 : zeroAV Tryz.prog 394 = some (.agg [.int .u64 0,.int .u64 0,.int .u32 0,.int .u8 0,.int .u8 0,.int .u8 0,.int .u8 0,.nilf,.nilp,.int .i32 0,.int .i32 0]):=by kernel_rfl
@[go_sem] theorem cellsOf395 : Tryz.prog.cellsOf 395 = 11:=by kernel_rfl
@[go_sem] theorem bytesOf395 : Tryz.prog.bytesOf 395 = 48:=by kernel_rfl
@[go_sem] theorem ldk395 : ldk Tryz.prog 395 = some (some 11):=by kernel_rfl
@[go_sem] theorem aggTy395 : aggTy Tryz.prog 395 = true:=by kernel_rfl
@[go_sem] theorem zeroOk395 : zeroOk Tryz.prog 395 = true:=by kernel_rfl
@[go_sem] theorem info395 : (Tryz.prog.info? 395).isSome = true:=by kernel_rfl
@[go_sem] theorem bkind395 : bkind Tryz.prog 395 = .struct [(0,1),(1,1),(2,1),(3,1),(4,1),(5,1),(6,1),(7,1),(8,1),(9,1),(10,1)]:=by kernel_rfl
@[go_sem] theorem fplace395_0 : fplace Tryz.prog 395 0 = some (12,0):=by kernel_rfl
@[go_sem] theorem fplace395_1 : fplace Tryz.prog 395 1 = some (12,1):=by kernel_rfl
@[go_sem] theorem fplace395_2 : fplace Tryz.prog 395 2 = some (367,2):=by kernel_rfl
@[go_sem] theorem fplace395_3 : fplace Tryz.prog 395 3 = some (388,3):=by kernel_rfl
@[go_sem] theorem fplace395_4 : fplace Tryz.prog 395 4 = some (5,4):=by kernel_rfl
@[go_sem] theorem fplace395_5 : fplace Tryz.prog 395 5 = some (5,5):=by kernel_rfl
@[go_sem] theorem fplace395_6 : fplace Tryz.prog 395 6 = some (389,6):=by kernel_rfl
@[go_sem] theorem fplace395_7 : fplace Tryz.prog 395 7 = some (390,7):=by kernel_rfl
@[go_sem] theorem fplace395_8 : fplace Tryz.prog 395 8 = some (391,8):=by kernel_rfl
@[go_sem] theorem fplace395_9 : fplace Tryz.prog 395 9 = some (392,9):=by kernel_rfl
@[go_sem] theorem fplace395_10 : fplace Tryz.prog 395 10 = some (393,10):=by kernel_rfl
@[go_sem] theorem zeroAV395 : zeroAV Tryz.prog 395 = some (.agg [.int .u64 0,.int .u64 0,.int .u32 0,.int .u8 0,.int .u8 0,.int .u8 0,.int .u8 0,.nilf,.nilp,.int .i32 0,.int .i32 0]):=by kernel_rfl
end Go.AI
set_option linter.defProp false
namespace Go.AI
open Go.Proofs
def h110 : Hint:=hm [3,387,899,419,65955,16,387,16] [] [] []
@[go_sem] theorem h110_l : h110.lv 0 = [0,1] /\ h110.lv 1 = [0,1,7,8] /\ h110.lv 2 = [0,1,7,8,9] /\ h110.lv 3 = [0,1,5,7,8] /\ h110.lv 4 = [0,1,5,7,8,16] /\ h110.lv 5 = [4] /\ h110.lv 6 = [0,1,7,8] /\ h110.lv 7 = [4]:=by decide +kernel
@[go_sem] def h110_q:=hplain h110 rfl rfl rfl
@[go_sem] theorem h110_t : h110.tk = [] /\ h110.mt = [] /\ h110.pc = []:=⟨rfl,rfl,rfl⟩
theorem h110_k : FK Tryz.prog 110 Tryz.f110 h110:=⟨by kernel_rfl,by kernel_rfl,Tryz.func110,by kernel_rfl⟩
def h111 : Hint:=hm [6,8] [] [] []
@[go_sem] theorem h111_l : h111.lv 0 = [1,2] /\ h111.lv 1 = [3]:=by decide +kernel
@[go_sem] def h111_q:=hplain h111 rfl rfl rfl
@[go_sem] theorem h111_t : h111.tk = [] /\ h111.mt = [] /\ h111.pc = []:=⟨rfl,rfl,rfl⟩
theorem h111_k : FK Tryz.prog 111 Tryz.f111 h111:=⟨by kernel_rfl,by kernel_rfl,Tryz.func111,by kernel_rfl⟩
def h53 : Hint:=hm [25,1049,48,81,65617,48,48] [18] [] [8,11]
@[go_sem] theorem h53_l : h53.lv 0 = [0,3,4] /\ h53.lv 1 = [0,3,4,10] /\ h53.lv 2 = [4,5] /\ h53.lv 3 = [0,4,6] /\ h53.lv 4 = [0,4,6,16] /\ h53.lv 5 = [4,5] /\ h53.lv 6 = [4,5]:=by decide +kernel
@[go_sem] def h53_q:=hplain h53 rfl rfl rfl
@[go_sem] theorem h53_t : h53.tk = [18] /\ h53.mt = [] /\ h53.pc = [8,11]:=⟨rfl,rfl,rfl⟩
theorem h53_k : FK Tryz.prog 53 Tryz.f53 h53:=⟨by kernel_rfl,by kernel_rfl,Tryz.func53,by kernel_rfl⟩
def h112 : Hint:=hm [2,4] [] [] []
@[go_sem] theorem h112_l : h112.lv 0 = [1] /\ h112.lv 1 = [2]:=by decide +kernel
@[go_sem] def h112_q:=hplain h112 rfl rfl rfl
@[go_sem] theorem h112_t : h112.tk = [] /\ h112.mt = [] /\ h112.pc = []:=⟨rfl,rfl,rfl⟩
theorem h112_k : FK Tryz.prog 112 Tryz.f112 h112:=⟨by kernel_rfl,by kernel_rfl,Tryz.func112,by kernel_rfl⟩
end Go.AI
namespace Go.AI
open Go.Proofs
@[go_sem] theorem cellsOf1 : Tryz.prog.cellsOf 1 = 1:=by kernel_rfl
@[go_sem] theorem bytesOf1 : Tryz.prog.bytesOf 1 = 8:=by kernel_rfl
@[go_sem] theorem ldk1 : ldk Tryz.prog 1 = some none:=by kernel_rfl
@[go_sem] theorem aggTy1 : aggTy Tryz.prog 1 = false:=by kernel_rfl
@[go_sem] theorem zeroOk1 : zeroOk Tryz.prog 1 = true:=by kernel_rfl
@[go_sem] theorem info1 : (Tryz.prog.info? 1).isSome = true:=by kernel_rfl
@[go_sem] theorem zeroAV1 : zeroAV Tryz.prog 1 = some (.nilf):=by kernel_rfl
@[go_sem] theorem cellsOf35 : Tryz.prog.cellsOf 35 = 1:=by kernel_rfl
@[go_sem] theorem bytesOf35 : Tryz.prog.bytesOf 35 = 8:=by kernel_rfl
@[go_sem] theorem ldk35 : ldk Tryz.prog 35 = some none:=by kernel_rfl
@[go_sem] theorem aggTy35 : aggTy Tryz.prog 35 = false:=by kernel_rfl
@[go_sem] theorem zeroOk35 : zeroOk Tryz.prog 35 = true:=by kernel_rfl
@[go_sem] theorem info35 : (Tryz.prog.info? 35).isSome = true:=by kernel_rfl
@[go_sem] theorem zeroAV35 : zeroAV Tryz.prog 35 = some (.nilf):=by kernel_rfl
@[go_sem] theorem cellsOf52 : Tryz.prog.cellsOf 52 = 1:=by kernel_rfl
@[go_sem] theorem bytesOf52 : Tryz.prog.bytesOf 52 = 8:=by kernel_rfl
@[go_sem] theorem ldk52 : ldk Tryz.prog 52 = some none:=by kernel_rfl
@[go_sem] theorem aggTy52 : aggTy Tryz.prog 52 = false:=by kernel_rfl
@[go_sem] theorem zeroOk52 : zeroOk Tryz.prog 52 = true:=by kernel_rfl
@[go_sem] theorem info52 : (Tryz.prog.info? 52).isSome = true:=by kernel_rfl
@[go_sem] theorem zeroAV52 : zeroAV Tryz.prog 52 = some (.nilf):=by kernel_rfl
@[go_sem] theorem cellsOf58 : Tryz.prog.cellsOf 58 = 1:=by kernel_rfl
@[go_sem] theorem bytesOf58 : Tryz.prog.bytesOf 58 = 8:=by kernel_rfl
@[go_sem] theorem ldk58 : ldk Tryz.prog 58 = some none:=by kernel_rfl
@[go_sem] theorem aggTy58 : aggTy Tryz.prog 58 = false:=by kernel_rfl
@[go_sem] theorem zeroOk58 : zeroOk Tryz.prog 58 = true:=by kernel_rfl
@[go_sem] theorem info58 : (Tryz.prog.info? 58).isSome = true:=by kernel_rfl
@[go_sem] theorem zeroAV58 : zeroAV Tryz.prog 58 = some (.nilf):=by kernel_rfl
@[go_sem] theorem cellsOf81 : Tryz.prog.cellsOf 81 = 1:=by kernel_rfl
@[go_sem] theorem bytesOf81 : Tryz.prog.bytesOf 81 = 8:=by kernel_rfl
@[go_sem] theorem ldk81 : ldk Tryz.prog 81 = some none:=by kernel_rfl
@[go_sem] theorem aggTy81 : aggTy Tryz.prog 81 = false:=by kernel_rfl
@[go_sem] theorem zeroOk81 : zeroOk Tryz.prog 81 = true:=by kernel_rfl
@[go_sem] theorem info81 : (Tryz.prog.info? 81).isSome = true:=by kernel_rfl
@[go_sem] theorem zeroAV81 : zeroAV Tryz.prog 81 = some (.nilf):=by kernel_rfl
@[go_sem] theorem cellsOf82 : Tryz.prog.cellsOf 82 = 1:=by kernel_rfl
@[go_sem] theorem bytesOf82 : Tryz.prog.bytesOf 82 = 8:=by kernel_rfl
@[go_sem] theorem ldk82 : ldk Tryz.prog 82 = some none:=by kernel_rfl
@[go_sem] theorem aggTy82 : aggTy Tryz.prog 82 = false:=by kernel_rfl
@[go_sem] theorem zeroOk82 : zeroOk Tryz.prog 82 = true:=by kernel_rfl
@[go_sem] theorem info82 : (Tryz.prog.info? 82).isSome = true:=by kernel_rfl
@[go_sem] theorem zeroAV82 : zeroAV Tryz.prog 82 = some (.nilf):=by kernel_rfl
@[go_sem] theorem cellsOf83 : Tryz.prog.cellsOf 83 = 2:=by kernel_rfl
@[go_sem] theorem bytesOf83 : Tryz.prog.bytesOf 83 = 16:=by kernel_rfl
@[go_sem] theorem ldk83 : ldk Tryz.prog 83 = some (some 2):=by kernel_rfl
@[go_sem] theorem aggTy83 : aggTy Tryz.prog 83 = true:=by kernel_rfl
@[go_sem] theorem zeroOk83 : zeroOk Tryz.prog 83 = true:=by kernel_rfl
@[go_sem] theorem info83 : (Tryz.prog.info? 83).isSome = true:=by kernel_rfl
@[go_sem] theorem bkind83 : bkind Tryz.prog 83 = .struct [(0,1),(1,1)]:=by kernel_rfl
@[go_sem] theorem fplace83_0 : fplace Tryz.prog 83 0 = some (81,0):=by kernel_rfl
@[go_sem] theorem fplace83_1 : fplace Tryz.prog 83 1 = some (82,1):=by kernel_rfl
@[go_sem] theorem zeroAV83 : zeroAV Tryz.prog 83 = some (.agg [.nilf,.nilf]):=by kernel_rfl
@[go_sem] theorem cellsOf84 : Tryz.prog.cellsOf 84 = 2:=by kernel_rfl
@[go_sem] theorem bytesOf84 : Tryz.prog.bytesOf 84 = 16:=by kernel_rfl
@[go_sem] theorem ldk84 : ldk Tryz.prog 84 = some (some 2):=by kernel_rfl
@[go_sem] theorem aggTy84 : aggTy Tryz.prog 84 = true:=by kernel_rfl
@[go_sem] theorem zeroOk84 : zeroOk Tryz.prog 84 = true:=by kernel_rfl
@[go_sem] theorem info84 : (Tryz.prog.info? 84).isSome = true:=by kernel_rfl
@[go_sem] theorem bkind84 : bkind Tryz.prog 84 = .struct [(0,1),(1,1)]:=by kernel_rfl
@[go_sem] theorem fplace84_0 : fplace Tryz.prog 84 0 = some (81,0):=by kernel_rfl
@[go_sem] theorem fplace84_1 : fplace Tryz.prog 84 1 = some (82,1):=by kernel_rfl
@[go_sem] theorem zeroAV84 : zeroAV Tryz.prog 84 = some (.agg [.nilf,.nilf]):=by kernel_rfl
@[go_sem] theorem cellsOf85 : Tryz.prog.cellsOf 85 = 1:=by kernel_rfl
@[go_sem] theorem bytesOf85 : Tryz.prog.bytesOf 85 = 8:=by kernel_rfl
@[go_sem] theorem ldk85 : ldk Tryz.prog 85 = some none:=by kernel_rfl
@[go_sem] theorem aggTy85 : aggTy Tryz.prog 85 = false:=by kernel_rfl
@[go_sem] theorem isPtr85 : isPtr Tryz.prog 85 = true:=by kernel_rfl
@[go_sem] theorem und85 : Tryz.prog.underlying 85 = some (.pointer 84):=by kernel_rfl
@[go_sem] theorem zeroOk85 : zeroOk Tryz.prog 85 = true:=by kernel_rfl
@[go_sem] theorem info85 : (Tryz.prog.info? 85).isSome = true:=by kernel_rfl
@[go_sem] theorem zeroAV85 : zeroAV Tryz.prog 85 = some (.nilp):=by kernel_rfl
@[go_sem] theorem cellsOf125 : Tryz.prog.cellsOf 125 = 1:=by kernel_rfl
@[go_sem] theorem bytesOf125 : Tryz.prog.bytesOf 125 = 24:=by kernel_rfl
@[go_sem] theorem ldk125 : ldk Tryz.prog 125 = some none:=by kernel_rfl
@[go_sem] theorem aggTy125 : aggTy Tryz.prog 125 = false:=by kernel_rfl
@[go_sem] theorem und125 : Tryz.prog.underlying 125 = some (.slice 33):=by kernel_rfl
@[go_sem] theorem isSl125 : isSl Tryz.prog 125 = true:=by kernel_rfl
@[go_sem] theorem zeroOk125 : zeroOk Tryz.prog 125 = true:=by kernel_rfl
@[go_sem] theorem info125 : (Tryz.prog.info? 125).isSome = true:=by kernel_rfl
@[go_sem] theorem zeroAV125 : zeroAV Tryz.prog 125 = some (.sl (some 10) []):=by kernel_rfl
@[go_sem] theorem cellsOf139 : Tryz.prog.cellsOf 139 = 20:=by kernel_rfl
@[go_sem] theorem bytesOf139 : Tryz.prog.bytesOf 139 = 160:=by kernel_rfl
@[go_sem] theorem ldk139 : ldk Tryz.prog 139 = some (some 20):=by kernel_rfl
@[go_sem] theorem aggTy139 : aggTy Tryz.prog 139 = true:=by kernel_rfl
@[go_sem] theorem zeroOk139 : zeroOk Tryz.prog 139 = true:=by kernel_rfl
@[go_sem] theorem info139 : (Tryz.prog.info? 139).isSome = true:=by kernel_rfl
@[go_sem] theorem bkind139 : bkind Tryz.prog 139 = .struct [(0,10),(10,10)]:=by kernel_rfl
@[go_sem] theorem fplace139_0 : fplace Tryz.prog 139 0 = some (33,0):=by kernel_rfl
@[go_sem] theorem fplace139_1 : fplace Tryz.prog 139 1 = some (33,10):=by kernel_rfl
@[go_sem] theorem zeroAV139 : zeroAV Tryz.prog 139 = some (.agg [.int .i64 0,.int .i64 0,.int .i64 0,.int .i64 0,.int .i64 0,.int .i64 0,.int .i64 0,.int .i64 0,.int .i64 0,.int .i64 0,.int .i64 0,.int .i64 0,.int .i64 0,.int .i64 0,.int .i64 0,.int .i64 0,.int .i64 0,.int .i64 0,.int .i64 0,.int .i64 0]):=by kernel_rfl
@[go_sem] theorem cellsOf140 : Tryz.prog.cellsOf 140 = 20:=by kernel_rfl
@[go_sem] theorem bytesOf140 : Tryz.prog.bytesOf 140 = 160:=by kernel_rfl
@[go_sem] theorem ldk140 : ldk Tryz.prog 140 = some (some 20):=by kernel_rfl
@[go_sem] theorem aggTy140 : aggTy Tryz.prog 140 = true:=by kernel_rfl
@[go_sem] theorem zeroOk140 : zeroOk Tryz.prog 140 = true:=by kernel_rfl
@[go_sem] theorem info140 : (Tryz.prog.info? 140).isSome = true:=by kernel_rfl
@[go_sem] theorem bkind140 : bkind Tryz.prog 140 = .struct [(0,10),(10,10)]:=by kernel_rfl
@[go_sem] theorem fplace140_0 : fplace Tryz.prog 140 0 = some (33,0):=by kernel_rfl
@[go_sem] theorem fplace140_1 : fplace Tryz.prog 140 1 = some (33,10):=by kernel_rfl

@[go_sem] theorem cellsOf145 : Tryz.prog.cellsOf 145 = 20:=by kernel_rfl
@[go_sem] theorem bytesOf145 : Tryz.prog.bytesOf 145 = 160:=by kernel_rfl
@[go_sem] theorem ldk145 : ldk Tryz.prog 145 = some (some 20):=by kernel_rfl
@[go_sem] theorem aggTy145 : aggTy Tryz.prog 145 = true:=by kernel_rfl
@[go_sem] theorem zeroOk145 : zeroOk Tryz.prog 145 = true:=by kernel_rfl
@[go_sem] theorem info145 : (Tryz.prog.info? 145).isSome = true:=by kernel_rfl
@[go_sem] theorem bkind145 : bkind Tryz.prog 145 = .struct [(0,10),(10,10)]:=by kernel_rfl
@[go_sem] theorem fplace145_0 : fplace Tryz.prog 145 0 = some (33,0):=by kernel_rfl
@[go_sem] theorem fplace145_1 : fplace Tryz.prog 145 1 = some (33,10):=by kernel_rfl
@[go_sem] theorem zeroAV145 : zeroAV Tryz.prog 145 = some (.agg [.int .i64 0,.int .i64 0,.int .i64 0,.int .i64 0,.int .i64 0,.int .i64 0,.int .i64 0,.int .i64 0,.int .i64 0,.int .i64 0,.int .i64 0,.int .i64 0,.int .i64 0,.int .i64 0,.int .i64 0,.int .i64 0,.int .i64 0,.int .i64 0,.int .i64 0,.int .i64 0]):=by kernel_rfl
@[go_sem] theorem cellsOf243 : Tryz.prog.cellsOf 243 = 1:=by kernel_rfl
@[go_sem] theorem bytesOf243 : Tryz.prog.bytesOf 243 = 8:=by kernel_rfl
@[go_sem] theorem ldk243 : ldk Tryz.prog 243 = some none:=by kernel_rfl
@[go_sem] theorem aggTy243 : aggTy Tryz.prog 243 = false:=by kernel_rfl
@[go_sem] theorem zeroOk243 : zeroOk Tryz.prog 243 = true:=by kernel_rfl
@[go_sem] theorem info243 : (Tryz.prog.info? 243).isSome = true:=by kernel_rfl
@[go_sem] theorem zeroAV243 : zeroAV Tryz.prog 243 = some (.nilf):=by kernel_rfl
end Go.AI
set_option linter.defProp false
namespace Go.AI
open Go.Proofs
def h54 : Hint:=hm [12,76,204,108,4194380,16,76,16] [] [] []
@[go_sem] theorem h54_l : h54.lv 0 = [2,3] /\ h54.lv 1 = [2,3,6] /\ h54.lv 2 = [2,3,6,7] /\ h54.lv 3 = [2,3,5,6] /\ h54.lv 4 = [2,3,6,22] /\ h54.lv 5 = [4] /\ h54.lv 6 = [2,3,6] /\ h54.lv 7 = [4]:=by decide +kernel
@[go_sem] def h54_q:=hplain h54 rfl rfl rfl
@[go_sem] theorem h54_t : h54.tk = [] /\ h54.mt = [] /\ h54.pc = []:=⟨rfl,rfl,rfl⟩
theorem h54_k : FK Tryz.prog 54 Tryz.f54 h54:=⟨by kernel_rfl,by kernel_rfl,Tryz.func54,by kernel_rfl⟩
def h114 : Hint:=hm [2,4] [] [] []
@[go_sem] theorem h114_l : h114.lv 0 = [1] /\ h114.lv 1 = [2]:=by decide +kernel
@[go_sem] def h114_q:=hplain h114 rfl rfl rfl
@[go_sem] theorem h114_t : h114.tk = [] /\ h114.mt = [] /\ h114.pc = []:=⟨rfl,rfl,rfl⟩
theorem h114_k : FK Tryz.prog 114 Tryz.f114 h114:=⟨by kernel_rfl,by kernel_rfl,Tryz.func114,by kernel_rfl⟩
def h113 : Hint:=hm [92,220,80,64] [] [] [17,19,24]
@[go_sem] theorem h113_l : h113.lv 0 = [2,3,4,6] /\ h113.lv 1 = [2,3,4,6,7] /\ h113.lv 2 = [4,6] /\ h113.lv 3 = [6]:=by decide +kernel
@[go_sem] def h113_q:=hplain h113 rfl rfl rfl
@[go_sem] theorem h113_t : h113.tk = [] /\ h113.mt = [] /\ h113.pc = [17,19,24]:=⟨rfl,rfl,rfl⟩
theorem h113_k : FK Tryz.prog 113 Tryz.f113 h113:=⟨by kernel_rfl,by kernel_rfl,Tryz.func113,by kernel_rfl⟩
def h56 : Hint:=hm [78,202,64] [] [] [9,20,26]
@[go_sem] theorem h56_l : h56.lv 0 = [1,2,3,6] /\ h56.lv 1 = [1,3,6,7] /\ h56.lv 2 = [6]:=by decide +kernel
@[go_sem] def h56_q:=hplain h56 rfl rfl rfl
@[go_sem] theorem h56_t : h56.tk = [] /\ h56.mt = [] /\ h56.pc = [9,20,26]:=⟨rfl,rfl,rfl⟩
theorem h56_k : FK Tryz.prog 56 Tryz.f56 h56:=⟨by kernel_rfl,by kernel_rfl,Tryz.func56,by kernel_rfl⟩
def h55 : Hint:=hm [22,16] [] [] [9]
@[go_sem] theorem h55_l : h55.lv 0 = [1,2,4] /\ h55.lv 1 = [4]:=by decide +kernel
@[go_sem] def h55_q:=hplain h55 rfl rfl rfl
@[go_sem] theorem h55_t : h55.tk = [] /\ h55.mt = [] /\ h55.pc = [9]:=⟨rfl,rfl,rfl⟩
theorem h55_k : FK Tryz.prog 55 Tryz.f55 h55:=⟨by kernel_rfl,by kernel_rfl,Tryz.func55,by kernel_rfl⟩
def h57 : Hint:=hm [12,16] [] [] [11,14]
@[go_sem] theorem h57_l : h57.lv 0 = [2,3] /\ h57.lv 1 = [4]:=by decide +kernel
@[go_sem] def h57_q:=hplain h57 rfl rfl rfl
@[go_sem] theorem h57_t : h57.tk = [] /\ h57.mt = [] /\ h57.pc = [11,14]:=⟨rfl,rfl,rfl⟩
theorem h57_k : FK Tryz.prog 57 Tryz.f57 h57:=⟨by kernel_rfl,by kernel_rfl,Tryz.func57,by kernel_rfl⟩
def h52 : Hint:=hm [124,4220,12412,12412,128,528508,128,2147487864,128,17592186048632,17592186044536,0x1000000000000068,128,128,352,0x400000000000000000160,0xc00000000000000000160,128,0x80000000000000000000160,128,1056,128] [] [42,56,73] [42,56,73,78,88,90,98,100,103]
@[go_sem] theorem h52_l : h52.lv 0 = [2,3,4,5,6] /\ h52.lv 1 = [2,3,4,5,6,12] /\ h52.lv 2 = [2,3,4,5,6,12,13] /\ h52.lv 3 = [2,3,4,5,6,12,13] /\ h52.lv 4 = [7] /\ h52.lv 5 = [2,3,4,5,6,12,19] /\ h52.lv 6 = [7] /\ h52.lv 7 = [3,4,5,6,12,31] /\ h52.lv 8 = [7] /\ h52.lv 9 = [3,4,5,6,12,44] /\ h52.lv 10 = [3,4,5,6,44] /\ h52.lv 11 = [3,5,6,60] /\ h52.lv 12 = [7] /\ h52.lv 13 = [7] /\ h52.lv 14 = [5,6,8] /\ h52.lv 15 = [5,6,8,82] /\ h52.lv 16 = [5,6,8,82,83] /\ h52.lv 17 = [7] /\ h52.lv 18 = [5,6,8,91] /\ h52.lv 19 = [7] /\ h52.lv 20 = [5,10] /\ h52.lv 21 = [7]:=by decide +kernel
@[go_sem] def h52_q:=hplain h52 rfl rfl rfl
@[go_sem] theorem h52_t : h52.tk = [] /\ h52.mt = [42,56,73] /\ h52.pc = [42,56,73,78,88,90,98,100,103]:=⟨rfl,rfl,rfl⟩
theorem h52_k : FK Tryz.prog 52 Tryz.f52 h52:=⟨by kernel_rfl,by kernel_rfl,Tryz.func52,by kernel_rfl⟩
def h25 : Hint:=hm [12,44,36,32,16] [] [] []
@[go_sem] theorem h25_l : h25.lv 0 = [2,3] /\ h25.lv 1 = [2,3,5] /\ h25.lv 2 = [2,5] /\ h25.lv 3 = [5] /\ h25.lv 4 = [4]:=by decide +kernel
@[go_sem] def h25_q:=hplain h25 rfl rfl rfl
@[go_sem] theorem h25_t : h25.tk = [] /\ h25.mt = [] /\ h25.pc = []:=⟨rfl,rfl,rfl⟩
theorem h25_k : FK Tryz.prog 25 Tryz.f25 h25:=⟨by kernel_rfl,by kernel_rfl,Tryz.func25,by kernel_rfl⟩
end Go.AI
namespace Go.AI
open Go.Proofs
@[go_sem] theorem cellsOf13 : Tryz.prog.cellsOf 13 = 2:=by kernel_rfl
@[go_sem] theorem bytesOf13 : Tryz.prog.bytesOf 13 = 24:=by kernel_rfl
@[go_sem] theorem ldk13 : ldk Tryz.prog 13 = some (some 2):=by kernel_rfl
@[go_sem] theorem aggTy13 : aggTy Tryz.prog 13 = true:=by kernel_rfl
@[go_sem] theorem zeroOk13 : zeroOk Tryz.prog 13 = true:=by kernel_rfl
@[go_sem] theorem info13 : (Tryz.prog.info? 13).isSome = true:=by kernel_rfl
@[go_sem] theorem bkind13 : bkind Tryz.prog 13 = .struct [(0,1),(1,1)]:=by kernel_rfl
@[go_sem] theorem fplace13_0 : fplace Tryz.prog 13 0 = some (9,0):=by kernel_rfl
@[go_sem] theorem fplace13_1 : fplace Tryz.prog 13 1 = some (12,1):=by kernel_rfl
@[go_sem] theorem zeroAV13 : zeroAV Tryz.prog 13 = some (.agg [.str ByteArray.empty,.int .u64 0]):=by kernel_rfl
@[go_sem] theorem cellsOf14 : Tryz.prog.cellsOf 14 = 2:=by kernel_rfl
@[go_sem] theorem bytesOf14 : Tryz.prog.bytesOf 14 = 24:=by kernel_rfl
@[go_sem] theorem ldk14 : ldk Tryz.prog 14 = some (some 2):=by kernel_rfl
@[go_sem] theorem aggTy14 : aggTy Tryz.prog 14 = true:=by kernel_rfl
@[go_sem] theorem zeroOk14 : zeroOk Tryz.prog 14 = true:=by kernel_rfl
@[go_sem] theorem info14 : (Tryz.prog.info? 14).isSome = true:=by kernel_rfl
@[go_sem] theorem bkind14 : bkind Tryz.prog 14 = .struct [(0,1),(1,1)]:=by kernel_rfl
@[go_sem] theorem fplace14_0 : fplace Tryz.prog 14 0 = some (9,0):=by kernel_rfl
@[go_sem] theorem fplace14_1 : fplace Tryz.prog 14 1 = some (12,1):=by kernel_rfl
@[go_sem] theorem zeroAV14 : zeroAV Tryz.prog 14 = some (.agg [.str ByteArray.empty,.int .u64 0]):=by kernel_rfl
@[go_sem] theorem cellsOf59 : Tryz.prog.cellsOf 59 = 1:=by kernel_rfl
@[go_sem] theorem bytesOf59 : Tryz.prog.bytesOf 59 = 24:=by kernel_rfl
@[go_sem] theorem ldk59 : ldk Tryz.prog 59 = some none:=by kernel_rfl
@[go_sem] theorem aggTy59 : aggTy Tryz.prog 59 = false:=by kernel_rfl
@[go_sem] theorem und59 : Tryz.prog.underlying 59 = some (.slice 71):=by kernel_rfl
@[go_sem] theorem isSl59 : isSl Tryz.prog 59 = true:=by kernel_rfl
@[go_sem] theorem zeroOk59 : zeroOk Tryz.prog 59 = true:=by kernel_rfl
@[go_sem] theorem info59 : (Tryz.prog.info? 59).isSome = true:=by kernel_rfl
@[go_sem] theorem zeroAV59 : zeroAV Tryz.prog 59 = some (.sl (some 12) []):=by kernel_rfl
@[go_sem] theorem cellsOf60 : Tryz.prog.cellsOf 60 = 1:=by kernel_rfl
@[go_sem] theorem bytesOf60 : Tryz.prog.bytesOf 60 = 24:=by kernel_rfl
@[go_sem] theorem ldk60 : ldk Tryz.prog 60 = some none:=by kernel_rfl
@[go_sem] theorem aggTy60 : aggTy Tryz.prog 60 = false:=by kernel_rfl
@[go_sem] theorem und60 : Tryz.prog.underlying 60 = some (.slice 122):=by kernel_rfl
@[go_sem] theorem isSl60 : isSl Tryz.prog 60 = true:=by kernel_rfl
@[go_sem] theorem zeroOk60 : zeroOk Tryz.prog 60 = true:=by kernel_rfl
@[go_sem] theorem info60 : (Tryz.prog.info? 60).isSome = true:=by kernel_rfl
@[go_sem] theorem zeroAV60 : zeroAV Tryz.prog 60 = some (.sl (some 1) []):=by kernel_rfl
@[go_sem] theorem cellsOf64 : Tryz.prog.cellsOf 64 = 1:=by kernel_rfl
@[go_sem] theorem bytesOf64 : Tryz.prog.bytesOf 64 = 24:=by kernel_rfl
@[go_sem] theorem ldk64 : ldk Tryz.prog 64 = some none:=by kernel_rfl
@[go_sem] theorem aggTy64 : aggTy Tryz.prog 64 = false:=by kernel_rfl
@[go_sem] theorem und64 : Tryz.prog.underlying 64 = some (.slice 67):=by kernel_rfl
@[go_sem] theorem isSl64 : isSl Tryz.prog 64 = true:=by kernel_rfl
@[go_sem] theorem zeroOk64 : zeroOk Tryz.prog 64 = true:=by kernel_rfl
@[go_sem] theorem info64 : (Tryz.prog.info? 64).isSome = true:=by kernel_rfl
@[go_sem] theorem zeroAV64 : zeroAV Tryz.prog 64 = some (.sl (some 1) []):=by kernel_rfl
@[go_sem] theorem cellsOf70 : Tryz.prog.cellsOf 70 = 12:=by kernel_rfl
@[go_sem] theorem bytesOf70 : Tryz.prog.bytesOf 70 = 112:=by kernel_rfl
@[go_sem] theorem ldk70 : ldk Tryz.prog 70 = some (some 12):=by kernel_rfl
@[go_sem] theorem aggTy70 : aggTy Tryz.prog 70 = true:=by kernel_rfl
@[go_sem] theorem zeroOk70 : zeroOk Tryz.prog 70 = true:=by kernel_rfl
@[go_sem] theorem info70 : (Tryz.prog.info? 70).isSome = true:=by kernel_rfl
@[go_sem] theorem bkind70 : bkind Tryz.prog 70 = .struct [(0,1),(1,10),(11,1)]:=by kernel_rfl
@[go_sem] theorem fplace70_0 : fplace Tryz.prog 70 0 = some (3,0):=by kernel_rfl
@[go_sem] theorem fplace70_1 : fplace Tryz.prog 70 1 = some (33,1):=by kernel_rfl
@[go_sem] theorem fplace70_2 : fplace Tryz.prog 70 2 = some (67,11):=by kernel_rfl
@[go_sem] theorem zeroAV70 : zeroAV Tryz.prog 70 = some (.agg [.int .i64 0,.int .i64 0,.int .i64 0,.int .i64 0,.int .i64 0,.int .i64 0,.int .i64 0,.int .i64 0,.int .i64 0,.int .i64 0,.int .i64 0,.sl (some 1) []]):=by kernel_rfl
@[go_sem] theorem cellsOf71 : Tryz.prog.cellsOf 71 = 12:=by kernel_rfl
@[go_sem] theorem bytesOf71 : Tryz.prog.bytesOf 71 = 112:=by kernel_rfl
@[go_sem] theorem ldk71 : ldk Tryz.prog 71 = some (some 12):=by kernel_rfl
@[go_sem] theorem aggTy71 : aggTy Tryz.prog 71 = true:=by kernel_rfl
@[go_sem] theorem zeroOk71 : zeroOk Tryz.prog 71 = true:=by kernel_rfl
@[go_sem] theorem info71 : (Tryz.prog.info? 71).isSome = true:=by kernel_rfl
@[go_sem] theorem bkind71 : bkind Tryz.prog 71 = .struct [(0,1),(1,10),(11,1)]:=by kernel_rfl
@[go_sem] theorem fplace71_0 : fplace Tryz.prog 71 0 = some (3,0):=by kernel_rfl
@[go_sem] theorem fplace71_1 : fplace Tryz.prog 71 1 = some (33,1):=by kernel_rfl
@[go_sem] theorem fplace71_2 : fplace Tryz.prog 71 2 = some (67,11):=by kernel_rfl
@[go_sem] theorem zeroAV71 : zeroAV Tryz.prog 71 = some (.agg [.int .i64 0,.int .i64 0,.int .i64 0,.int .i64 0,.int .i64 0,.int .i64 0,.int .i64 0,.int .i64 0,.int .i64 0,.int .i64 0,.int .i64 0,.sl (some 1) []]):=by kernel_rfl
@[go_sem] theorem cellsOf80 : Tryz.prog.cellsOf 80 = 1:=by kernel_rfl
@[go_sem] theorem bytesOf80 : Tryz.prog.bytesOf 80 = 8:=by kernel_rfl
@[go_sem] theorem ldk80 : ldk Tryz.prog 80 = some none:=by kernel_rfl
@[go_sem] theorem aggTy80 : aggTy Tryz.prog 80 = false:=by kernel_rfl
@[go_sem] theorem zeroOk80 : zeroOk Tryz.prog 80 = true:=by kernel_rfl
@[go_sem] theorem info80 : (Tryz.prog.info? 80).isSome = true:=by kernel_rfl
@[go_sem] theorem zeroAV80 : zeroAV Tryz.prog 80 = some (.nilf):=by kernel_rfl
@[go_sem] theorem cellsOf88 : Tryz.prog.cellsOf 88 = 1:=by kernel_rfl
@[go_sem] theorem bytesOf88 : Tryz.prog.bytesOf 88 = 8:=by kernel_rfl
@[go_sem] theorem ldk88 : ldk Tryz.prog 88 = some none:=by kernel_rfl
@[go_sem] theorem aggTy88 : aggTy Tryz.prog 88 = false:=by kernel_rfl
@[go_sem] theorem zeroOk88 : zeroOk Tryz.prog 88 = true:=by kernel_rfl
@[go_sem] theorem info88 : (Tryz.prog.info? 88).isSome = true:=by kernel_rfl
@[go_sem] theorem zeroAV88 : zeroAV Tryz.prog 88 = some (.nilf):=by kernel_rfl
@[go_sem] theorem cellsOf94 : Tryz.prog.cellsOf 94 = 1:=by kernel_rfl
@[go_sem] theorem bytesOf94 : Tryz.prog.bytesOf 94 = 24:=by kernel_rfl
@[go_sem] theorem ldk94 : ldk Tryz.prog 94 = some none:=by kernel_rfl
@[go_sem] theorem aggTy94 : aggTy Tryz.prog 94 = false:=by kernel_rfl
@[go_sem] theorem und94 : Tryz.prog.underlying 94 = some (.slice 4):=by kernel_rfl
@[go_sem] theorem isSl94 : isSl Tryz.prog 94 = true:=by kernel_rfl
@[go_sem] theorem zeroOk94 : zeroOk Tryz.prog 94 = true:=by kernel_rfl
@[go_sem] theorem info94 : (Tryz.prog.info? 94).isSome = true:=by kernel_rfl
@[go_sem] theorem zeroAV94 : zeroAV Tryz.prog 94 = some (.sl (some 1) []):=by kernel_rfl
@[go_sem] theorem cellsOf122 : Tryz.prog.cellsOf 122 = 1:=by kernel_rfl
@[go_sem] theorem bytesOf122 : Tryz.prog.bytesOf 122 = 24:=by kernel_rfl
@[go_sem] theorem ldk122 : ldk Tryz.prog 122 = some none:=by kernel_rfl
@[go_sem] theorem aggTy122 : aggTy Tryz.prog 122 = false:=by kernel_rfl
@[go_sem] theorem und122 : Tryz.prog.underlying 122 = some (.slice 237):=by kernel_rfl
@[go_sem] theorem isSl122 : isSl Tryz.prog 122 = true:=by kernel_rfl
@[go_sem] theorem zeroOk122 : zeroOk Tryz.prog 122 = true:=by kernel_rfl
@[go_sem] theorem info122 : (Tryz.prog.info? 122).isSome = true:=by kernel_rfl
@[go_sem] theorem zeroAV122 : zeroAV Tryz.prog 122 = some (.sl (some 4) []):=by kernel_rfl
@[go_sem] theorem cellsOf131 : Tryz.prog.cellsOf 131 = 1:=by kernel_rfl
@[go_sem] theorem bytesOf131 : Tryz.prog.bytesOf 131 = 8:=by kernel_rfl
@[go_sem] theorem ldk131 : ldk Tryz.prog 131 = some none:=by kernel_rfl
@[go_sem] theorem aggTy131 : aggTy Tryz.prog 131 = false:=by kernel_rfl
@[go_sem] theorem zeroOk131 : zeroOk Tryz.prog 131 = true:=by kernel_rfl
@[go_sem] theorem info131 : (Tryz.prog.info? 131).isSome = true:=by kernel_rfl
@[go_sem] theorem zeroAV131 : zeroAV Tryz.prog 131 = some (.nilf):=by kernel_rfl
@[go_sem] theorem cellsOf132 : Tryz.prog.cellsOf 132 = 1:=by kernel_rfl
@[go_sem] theorem bytesOf132 : Tryz.prog.bytesOf 132 = 8:=by kernel_rfl
@[go_sem] theorem ldk132 : ldk Tryz.prog 132 = some none:=by kernel_rfl
@[go_sem] theorem aggTy132 : aggTy Tryz.prog 132 = false:=by kernel_rfl
@[go_sem] theorem zeroOk132 : zeroOk Tryz.prog 132 = true:=by kernel_rfl
@[go_sem] theorem info132 : (Tryz.prog.info? 132).isSome = true:=by kernel_rfl
@[go_sem] theorem zeroAV132 : zeroAV Tryz.prog 132 = some (.nilf):=by kernel_rfl
@[go_sem] theorem cellsOf134 : Tryz.prog.cellsOf 134 = 1:=by kernel_rfl
@[go_sem] theorem bytesOf134 : Tryz.prog.bytesOf 134 = 8:=by kernel_rfl
@[go_sem] theorem ldk134 : ldk Tryz.prog 134 = some none:=by kernel_rfl
@[go_sem] theorem aggTy134 : aggTy Tryz.prog 134 = false:=by kernel_rfl
@[go_sem] theorem zeroOk134 : zeroOk Tryz.prog 134 = true:=by kernel_rfl
@[go_sem] theorem info134 : (Tryz.prog.info? 134).isSome = true:=by kernel_rfl
@[go_sem] theorem cellsOf177 : Tryz.prog.cellsOf 177 = 1:=by kernel_rfl
@[go_sem] theorem bytesOf177 : Tryz.prog.bytesOf 177 = 24:=by kernel_rfl
@[go_sem] theorem ldk177 : ldk Tryz.prog 177 = some none:=by kernel_rfl
@[go_sem] theorem aggTy177 : aggTy Tryz.prog 177 = false:=by kernel_rfl
@[go_sem] theorem und177 : Tryz.prog.underlying 177 = some (.slice 5):=by kernel_rfl
@[go_sem] theorem isSl177 : isSl Tryz.prog 177 = true:=by kernel_rfl
@[go_sem] theorem zeroOk177 : zeroOk Tryz.prog 177 = true:=by kernel_rfl
@[go_sem] theorem info177 : (Tryz.prog.info? 177).isSome = true:=by kernel_rfl
@[go_sem] theorem zeroAV177 : zeroAV Tryz.prog 177 = some (.sl (some 1) []):=by kernel_rfl
@[go_sem] theorem cellsOf179 : Tryz.prog.cellsOf 179 = 1:=by kernel_rfl
@[go_sem] theorem bytesOf179 : Tryz.prog.bytesOf 179 = 8:=by kernel_rfl
@[go_sem] theorem ldk179 : ldk Tryz.prog 179 = some none:=by kernel_rfl
@[go_sem] theorem aggTy179 : aggTy Tryz.prog 179 = false:=by kernel_rfl
@[go_sem] theorem zeroOk179 : zeroOk Tryz.prog 179 = true:=by kernel_rfl
@[go_sem] theorem info179 : (Tryz.prog.info? 179).isSome = true:=by kernel_rfl
@[go_sem] theorem zeroAV179 : zeroAV Tryz.prog 179 = some (.nilf):=by kernel_rfl
@[go_sem] theorem cellsOf181 : Tryz.prog.cellsOf 181 = 1:=by kernel_rfl
@[go_sem] theorem bytesOf181 : Tryz.prog.bytesOf 181 = 8:=by kernel_rfl
@[go_sem] theorem ldk181 : ldk Tryz.prog 181 = some none:=by kernel_rfl
@[go_sem] theorem aggTy181 : aggTy Tryz.prog 181 = false:=by kernel_rfl
@[go_sem] theorem zeroOk181 : zeroOk Tryz.prog 181 = true:=by kernel_rfl
@[go_sem] theorem info181 : (Tryz.prog.info? 181).isSome = true:=by kernel_rfl
@[go_sem] theorem zeroAV181 : zeroAV Tryz.prog 181 = some (.nilf):=by kernel_rfl
@[go_sem] theorem cellsOf198 : Tryz.prog.cellsOf 198 = 1:=by kernel_rfl
@[go_sem] theorem bytesOf198 : Tryz.prog.bytesOf 198 = 8:=by kernel_rfl
@[go_sem] theorem ldk198 : ldk Tryz.prog 198 = some none:=by kernel_rfl
@[go_sem] theorem aggTy198 : aggTy Tryz.prog 198 = false:=by kernel_rfl
@[go_sem] theorem zeroOk198 : zeroOk Tryz.prog 198 = true:=by kernel_rfl
@[go_sem] theorem info198 : (Tryz.prog.info? 198).isSome = true:=by kernel_rfl
@[go_sem] theorem zeroAV198 : zeroAV Tryz.prog 198 = some (.nilf):=by kernel_rfl
@[go_sem] theorem cellsOf224 : Tryz.prog.cellsOf 224 = 1:=by kernel_rfl
@[go_sem] theorem bytesOf224 : Tryz.prog.bytesOf 224 = 8:=by kernel_rfl
@[go_sem] theorem ldk224 : ldk Tryz.prog 224 = some none:=by kernel_rfl
@[go_sem] theorem aggTy224 : aggTy Tryz.prog 224 = false:=by kernel_rfl
@[go_sem] theorem zeroOk224 : zeroOk Tryz.prog 224 = true:=by kernel_rfl
@[go_sem] theorem info224 : (Tryz.prog.info? 224).isSome = true:=by kernel_rfl
@[go_sem] theorem zeroAV224 : zeroAV Tryz.prog 224 = some (.nilf):=by kernel_rfl
@[go_sem] theorem cellsOf231 : Tryz.prog.cellsOf 231 = 1:=by kernel_rfl
@[go_sem] theorem bytesOf231 : Tryz.prog.bytesOf 231 = 8:=by kernel_rfl
@[go_sem] theorem ldk231 : ldk Tryz.prog 231 = some none:=by kernel_rfl
@[go_sem] theorem aggTy231 : aggTy Tryz.prog 231 = false:=by kernel_rfl
@[go_sem] theorem zeroOk231 : zeroOk Tryz.prog 231 = true:=by kernel_rfl
@[go_sem] theorem info231 : (Tryz.prog.info? 231).isSome = true:=by kernel_rfl
@[go_sem] theorem zeroAV231 : zeroAV Tryz.prog 231 = some (.nilf):=by kernel_rfl
@[go_sem] theorem cellsOf232 : Tryz.prog.cellsOf 232 = 1:=by kernel_rfl
@[go_sem] theorem bytesOf232 : Tryz.prog.bytesOf 232 = 8:=by kernel_rfl
@[go_sem] theorem ldk232 : ldk Tryz.prog 232 = some none:=by kernel_rfl
@[go_sem] theorem aggTy232 : aggTy Tryz.prog 232 = false:=by kernel_rfl
@[go_sem] theorem isPtr232 : isPtr Tryz.prog 232 = true:=by kernel_rfl
@[go_sem] theorem und232 : Tryz.prog.underlying 232 = some (.pointer 239):=by kernel_rfl
@[go_sem] theorem zeroOk232 : zeroOk Tryz.prog 232 = true:=by kernel_rfl
@[go_sem] theorem info232 : (Tryz.prog.info? 232).isSome = true:=by kernel_rfl
@[go_sem] theorem zeroAV232 : zeroAV Tryz.prog 232 = some (.nilp):=by kernel_rfl
@[go_sem] theorem cellsOf233 : Tryz.prog.cellsOf 233 = 7:=by kernel_rfl
@[go_sem] theorem bytesOf233 : Tryz.prog.bytesOf 233 = 56:=by kernel_rfl
@[go_sem] theorem ldk233 : ldk Tryz.prog 233 = some (some 7):=by kernel_rfl
@[go_sem] theorem aggTy233 : aggTy Tryz.prog 233 = true:=by kernel_rfl
@[go_sem] theorem und233 : Tryz.prog.underlying 233 = some (.array 7 231):=by kernel_rfl
@[go_sem] theorem zeroOk233 : zeroOk Tryz.prog 233 = true:=by kernel_rfl
@[go_sem] theorem info233 : (Tryz.prog.info? 233).isSome = true:=by kernel_rfl
@[go_sem] theorem bkind233 : bkind Tryz.prog 233 = .array 1:=by kernel_rfl
@[go_sem] theorem zeroAV233 : zeroAV Tryz.prog 233 = some (.agg [.nilf,.nilf,.nilf,.nilf,.nilf,.nilf,.nilf]):=by kernel_rfl
@[go_sem] theorem cellsOf238 : Tryz.prog.cellsOf 238 = 24:=by kernel_rfl
@[go_sem] theorem bytesOf238 : Tryz.prog.bytesOf 238 = 280:=by kernel_rfl
@[go_sem] theorem ldk238 : ldk Tryz.prog 238 = some (some 24):=by kernel_rfl
@[go_sem] theorem aggTy238 : aggTy Tryz.prog 238 = true:=by kernel_rfl
@[go_sem] theorem zeroOk238 : zeroOk Tryz.prog 238 = true:=by kernel_rfl
@[go_sem] theorem info238 : (Tryz.prog.info? 238).isSome = true:=by kernel_rfl
@[go_sem] theorem bkind238 : bkind Tryz.prog 238 = .struct [(0,1),(1,6),(7,1),(8,10),(18,1),(19,4),(23,1)]:=by kernel_rfl
@[go_sem] theorem fplace238_0 : fplace Tryz.prog 238 0 = some (27,0):=by kernel_rfl
@[go_sem] theorem fplace238_1 : fplace Tryz.prog 238 1 = some (109,1):=by kernel_rfl
@[go_sem] theorem fplace238_2 : fplace Tryz.prog 238 2 = some (122,7):=by kernel_rfl
@[go_sem] theorem fplace238_3 : fplace Tryz.prog 238 3 = some (33,8):=by kernel_rfl
@[go_sem] theorem fplace238_4 : fplace Tryz.prog 238 4 = some (3,18):=by kernel_rfl
@[go_sem] theorem fplace238_5 : fplace Tryz.prog 238 5 = some (237,19):=by kernel_rfl
@[go_sem] theorem fplace238_6 : fplace Tryz.prog 238 6 = some (4,23):=by kernel_rfl
@[go_sem] theorem zeroAV238 : zeroAV Tryz.prog 238 = some (.agg [.sl (some 3) [],.int .i64 0,.str ByteArray.empty,.sl (some 1) [],.str ByteArray.empty,.int .i64 0,.int .i64 0,.sl (some 4) [],.int .i64 0,.int .i64 0,.int .i64 0,.int .i64 0,.int .i64 0,.int .i64 0,.int .i64 0,.int .i64 0,.int .i64 0,.int .i64 0,.int .i64 0,.str ByteArray.empty,.sl (some 1) [],.int .i64 0,.int .i64 0,.bool false]):=by kernel_rfl
@[go_sem] theorem cellsOf239 : Tryz.prog.cellsOf 239 = 24:=by kernel_rfl
@[go_sem] theorem bytesOf239 : Tryz.prog.bytesOf 239 = 280:=by kernel_rfl
@[go_sem] theorem ldk239 : ldk Tryz.prog 239 = some (some 24):=by kernel_rfl
@[go_sem] theorem aggTy239 : aggTy Tryz.prog 239 = true:=by kernel_rfl
@[go_sem] theorem zeroOk239 : zeroOk Tryz.prog 239 = true:=by kernel_rfl
@[go_sem] theorem info239 : (Tryz.prog.info? 239).isSome = true:=by kernel_rfl
@[go_sem] theorem bkind239 : bkind Tryz.prog 239 = .struct [(0,1),(1,6),(7,1),(8,10),(18,1),(19,4),(23,1)]:=by kernel_rfl
@[go_sem] theorem fplace239_0 : fplace Tryz.prog 239 0 = some (27,0):=by kernel_rfl
@[go_sem] theorem fplace239_1 : fplace Tryz.prog 239 1 = some (109,1):=by kernel_rfl
@[go_sem] theorem fplace239_2 : fplace Tryz.prog 239 2 = some (122,7):=by kernel_rfl
@[go_sem] theorem fplace239_3 : fplace Tryz.prog 239 3 = some (33,8):=by kernel_rfl
@[go_sem] theorem fplace239_4 : fplace Tryz.prog 239 4 = some (3,18):=by kernel_rfl
@[go_sem] theorem fplace239_5 : fplace Tryz.prog 239 5 = some (237,19):=by kernel_rfl
@[go_sem] theorem fplace239_6 : fplace Tryz.prog 239 6 = some (4,23):=by kernel_rfl
@[go_sem] theorem zeroAV239 : zeroAV Tryz.prog 239 = some (.agg [.sl (some 3) [],.int .i64 0,.str ByteArray.empty,.sl (some 1) [],.str ByteArray.empty,.int .i64 0,.int .i64 0,.sl (some 4) [],.int .i64 0,.int .i64 0,.int .i64 0,.int .i64 0,.int .i64 0,.int .i64 0,.int .i64 0,.int .i64 0,.int .i64 0,.int .i64 0,.int .i64 0,.str ByteArray.empty,.sl (some 1) [],.int .i64 0,.int .i64 0,.bool false]):=by kernel_rfl
@[go_sem] theorem cellsOf286 : Tryz.prog.cellsOf 286 = 1:=by kernel_rfl
@[go_sem] theorem bytesOf286 : Tryz.prog.bytesOf 286 = 8:=by kernel_rfl
@[go_sem] theorem ldk286 : ldk Tryz.prog 286 = some none:=by kernel_rfl
@[go_sem] theorem aggTy286 : aggTy Tryz.prog 286 = false:=by kernel_rfl
@[go_sem] theorem zeroOk286 : zeroOk Tryz.prog 286 = true:=by kernel_rfl
@[go_sem] theorem info286 : (Tryz.prog.info? 286).isSome = true:=by kernel_rfl
@[go_sem] theorem zeroAV286 : zeroAV Tryz.prog 286 = some (.nilf):=by kernel_rfl
@[go_sem] theorem cellsOf289 : Tryz.prog.cellsOf 289 = 1:=by kernel_rfl
@[go_sem] theorem bytesOf289 : Tryz.prog.bytesOf 289 = 8:=by kernel_rfl
@[go_sem] theorem ldk289 : ldk Tryz.prog 289 = some none:=by kernel_rfl
@[go_sem] theorem aggTy289 : aggTy Tryz.prog 289 = false:=by kernel_rfl
@[go_sem] theorem zeroOk289 : zeroOk Tryz.prog 289 = true:=by kernel_rfl
@[go_sem] theorem info289 : (Tryz.prog.info? 289).isSome = true:=by kernel_rfl
@[go_sem] theorem zeroAV289 : zeroAV Tryz.prog 289 = some (.nilf):=by kernel_rfl
end Go.AI
set_option linter.defProp false
namespace Go.AI
open Go.Proofs
def h9 : Hint:=hm [2,10,1073741826,4,18,34359738386,18,50,35184372088850,4,66,0x4000000000042,66,194,0x2000000000000042,4,4] [] [] [10,43,59]
@[go_sem] theorem h9_l : h9.lv 0 = [1] /\ h9.lv 1 = [1,3] /\ h9.lv 2 = [1,30] /\ h9.lv 3 = [2] /\ h9.lv 4 = [1,4] /\ h9.lv 5 = [1,4,35] /\ h9.lv 6 = [1,4] /\ h9.lv 7 = [1,4,5] /\ h9.lv 8 = [1,4,45] /\ h9.lv 9 = [2] /\ h9.lv 10 = [1,6] /\ h9.lv 11 = [1,6,50] /\ h9.lv 12 = [1,6] /\ h9.lv 13 = [1,6,7] /\ h9.lv 14 = [1,6,61] /\ h9.lv 15 = [2] /\ h9.lv 16 = [2]:=by decide +kernel
@[go_sem] def h9_q:=hplain h9 rfl rfl rfl
@[go_sem] theorem h9_t : h9.tk = [] /\ h9.mt = [] /\ h9.pc = [10,43,59]:=⟨rfl,rfl,rfl⟩
theorem h9_k : FK Tryz.prog 9 Tryz.f9 h9:=⟨by kernel_rfl,by kernel_rfl,Tryz.func9,by kernel_rfl⟩
def h31 : Hint:=hm [6,38,102,2097254,16,294,536871206,16,17592186044454,16,550,562949953421862,550,1574,0x40000000000626,1574,3622,0x8000000000000e26,3622,0x20000000000000000626,16,16] [] [] [19,25,75]
@[go_sem] theorem h31_l : h31.lv 0 = [1,2] /\ h31.lv 1 = [1,2,5] /\ h31.lv 2 = [1,2,5,6] /\ h31.lv 3 = [1,2,5,6,21] /\ h31.lv 4 = [4] /\ h31.lv 5 = [1,2,5,8] /\ h31.lv 6 = [1,2,5,8,29] /\ h31.lv 7 = [4] /\ h31.lv 8 = [1,2,5,44] /\ h31.lv 9 = [4] /\ h31.lv 10 = [1,2,5,9] /\ h31.lv 11 = [1,2,5,9,49] /\ h31.lv 12 = [1,2,5,9] /\ h31.lv 13 = [1,2,5,9,10] /\ h31.lv 14 = [1,2,5,9,10,54] /\ h31.lv 15 = [1,2,5,9,10] /\ h31.lv 16 = [1,2,5,9,10,11] /\ h31.lv 17 = [1,2,5,9,10,11,63] /\ h31.lv 18 = [1,2,5,9,10,11] /\ h31.lv 19 = [1,2,5,9,10,77] /\ h31.lv 20 = [4] /\ h31.lv 21 = [4]:=by decide +kernel
@[go_sem] def h31_q:=hplain h31 rfl rfl rfl
@[go_sem] theorem h31_t : h31.tk = [] /\ h31.mt = [] /\ h31.pc = [19,25,75]:=⟨rfl,rfl,rfl⟩
theorem h31_k : FK Tryz.prog 31 Tryz.f31 h31:=⟨by kernel_rfl,by kernel_rfl,Tryz.func31,by kernel_rfl⟩
def h79 : Hint:=hm [6,70,2118,70,2097222,48,48] [] [] []
@[go_sem] theorem h79_l : h79.lv 0 = [1,2] /\ h79.lv 1 = [1,2,6] /\ h79.lv 2 = [1,2,6,11] /\ h79.lv 3 = [1,2,6] /\ h79.lv 4 = [1,2,6,21] /\ h79.lv 5 = [4,5] /\ h79.lv 6 = [4,5]:=by decide +kernel
@[go_sem] def h79_q:=hplain h79 rfl rfl rfl
@[go_sem] theorem h79_t : h79.tk = [] /\ h79.mt = [] /\ h79.pc = []:=⟨rfl,rfl,rfl⟩
theorem h79_k : FK Tryz.prog 79 Tryz.f79 h79:=⟨by kernel_rfl,by kernel_rfl,Tryz.func79,by kernel_rfl⟩
def h80 : Hint:=hm [6,16] [] [] []
@[go_sem] theorem h80_l : h80.lv 0 = [1,2] /\ h80.lv 1 = [4]:=by decide +kernel
@[go_sem] def h80_q:=hplain h80 rfl rfl rfl
@[go_sem] theorem h80_t : h80.tk = [] /\ h80.mt = [] /\ h80.pc = []:=⟨rfl,rfl,rfl⟩
theorem h80_k : FK Tryz.prog 80 Tryz.f80 h80:=⟨by kernel_rfl,by kernel_rfl,Tryz.func80,by kernel_rfl⟩
def h32 : Hint:=hm [12,108,492,2147483820,16,684,1708,0x40000000000000c,16,2060,0x2000000000000080c,16,0x40000000000000000000000000000,16,16] [] [] [16,23,39,47,63]
@[go_sem] theorem h32_l : h32.lv 0 = [2,3] /\ h32.lv 1 = [2,3,5,6] /\ h32.lv 2 = [2,3,5,6,7,8] /\ h32.lv 3 = [2,3,5,7,31] /\ h32.lv 4 = [4] /\ h32.lv 5 = [2,3,5,7,9] /\ h32.lv 6 = [2,3,5,7,9,10] /\ h32.lv 7 = [2,3,58] /\ h32.lv 8 = [4] /\ h32.lv 9 = [2,3,11] /\ h32.lv 10 = [2,3,11,65] /\ h32.lv 11 = [4] /\ h32.lv 12 = [114] /\ h32.lv 13 = [4] /\ h32.lv 14 = [4]:=by decide +kernel
@[go_sem] def h32_q:=hplain h32 rfl rfl rfl
@[go_sem] theorem h32_t : h32.tk = [] /\ h32.mt = [] /\ h32.pc = [16,23,39,47,63]:=⟨rfl,rfl,rfl⟩
theorem h32_k : FK Tryz.prog 32 Tryz.f32 h32:=⟨by kernel_rfl,by kernel_rfl,Tryz.func32,by kernel_rfl⟩
def h33 : Hint:=hx [6,38,100,228,1048804,228,484,134218212,484,996,0x80000000000003e4,996,484,16] [67,71] [] [(13,[(4,none,false)])] [38] [] []
@[go_sem] theorem h33_l : h33.lv 0 = [1,2] /\ h33.lv 1 = [1,2,5] /\ h33.lv 2 = [2,5,6] /\ h33.lv 3 = [2,5,6,7] /\ h33.lv 4 = [2,5,6,7,20] /\ h33.lv 5 = [2,5,6,7] /\ h33.lv 6 = [2,5,6,7,8] /\ h33.lv 7 = [2,5,6,7,8,27] /\ h33.lv 8 = [2,5,6,7,8] /\ h33.lv 9 = [2,5,6,7,8,9] /\ h33.lv 10 = [2,5,6,7,8,9,63] /\ h33.lv 11 = [2,5,6,7,8,9] /\ h33.lv 12 = [2,5,6,7,8] /\ h33.lv 13 = [4]:=by decide +kernel
@[go_sem] theorem h33_g (k : Nat) : h33.ct k = none:=rfl
@[go_sem] theorem h33_z : h33.at 0 = [] /\ h33.at 1 = [] /\ h33.at 2 = [] /\ h33.at 3 = [] /\ h33.at 4 = [] /\ h33.at 5 = [] /\ h33.at 6 = [] /\ h33.at 7 = [] /\ h33.at 8 = [] /\ h33.at 9 = [] /\ h33.at 10 = [] /\ h33.at 11 = [] /\ h33.at 12 = [] /\ h33.at 13 = [(4,none,false)]:=by decide +kernel
@[go_sem] theorem h33_y (k : Nat) : h33.dn k = false:=Eq.trans rfl rfl
@[go_sem] theorem h33_t : h33.tk = [67,71] /\ h33.mt = [] /\ h33.pc = [38]:=⟨rfl,rfl,rfl⟩
theorem h33_k : FK Tryz.prog 33 Tryz.f33 h33:=⟨by kernel_rfl,by kernel_rfl,Tryz.func33,by kernel_rfl⟩
def h10 : Hint:=hm [2,18,8210,12,18,524306,12,1073741826,12,34,34359738402,34,50,4398046511154,12,66,562949953421378,66,82,0x1000000000000052,12,130,0x80000000000000082,130,386,0x10000000000000000082,12,12] [73] [] [11,17,40,58,72]
@[go_sem] theorem h10_l : h10.lv 0 = [1] /\ h10.lv 1 = [1,4] /\ h10.lv 2 = [1,4,13] /\ h10.lv 3 = [2,3] /\ h10.lv 4 = [1,4] /\ h10.lv 5 = [1,4,19] /\ h10.lv 6 = [2,3] /\ h10.lv 7 = [1,30] /\ h10.lv 8 = [2,3] /\ h10.lv 9 = [1,5] /\ h10.lv 10 = [1,5,35] /\ h10.lv 11 = [1,5] /\ h10.lv 12 = [1,4,5] /\ h10.lv 13 = [1,4,5,42] /\ h10.lv 14 = [2,3] /\ h10.lv 15 = [1,6] /\ h10.lv 16 = [1,6,49] /\ h10.lv 17 = [1,6] /\ h10.lv 18 = [1,4,6] /\ h10.lv 19 = [1,4,6,60] /\ h10.lv 20 = [2,3] /\ h10.lv 21 = [1,7] /\ h10.lv 22 = [1,7,67] /\ h10.lv 23 = [1,7] /\ h10.lv 24 = [1,7,8] /\ h10.lv 25 = [1,7,76] /\ h10.lv 26 = [2,3] /\ h10.lv 27 = [2,3]:=by decide +kernel
@[go_sem] def h10_q:=hplain h10 rfl rfl rfl
@[go_sem] theorem h10_t : h10.tk = [73] /\ h10.mt = [] /\ h10.pc = [11,17,40,58,72]:=⟨rfl,rfl,rfl⟩
theorem h10_k : FK Tryz.prog 10 Tryz.f10 h10:=⟨by kernel_rfl,by kernel_rfl,Tryz.func10,by kernel_rfl⟩
def h4 : Hint:=hm [2,10,514,4,32,4] [] [] [7,12]
@[go_sem] theorem h4_l : h4.lv 0 = [1] /\ h4.lv 1 = [1,3] /\ h4.lv 2 = [1,9] /\ h4.lv 3 = [2] /\ h4.lv 4 = [5] /\ h4.lv 5 = [2]:=by decide +kernel
@[go_sem] def h4_q:=hplain h4 rfl rfl rfl
@[go_sem] theorem h4_t : h4.tk = [] /\ h4.mt = [] /\ h4.pc = [7,12]:=⟨rfl,rfl,rfl⟩
theorem h4_k : FK Tryz.prog 4 Tryz.f4 h4:=⟨by kernel_rfl,by kernel_rfl,Tryz.func4,by kernel_rfl⟩
def h23 : Hint:=hm [3,387,899,419,65955,16,387,16] [] [] []
@[go_sem] theorem h23_l : h23.lv 0 = [0,1] /\ h23.lv 1 = [0,1,7,8] /\ h23.lv 2 = [0,1,7,8,9] /\ h23.lv 3 = [0,1,5,7,8] /\ h23.lv 4 = [0,1,5,7,8,16] /\ h23.lv 5 = [4] /\ h23.lv 6 = [0,1,7,8] /\ h23.lv 7 = [4]:=by decide +kernel
@[go_sem] def h23_q:=hplain h23 rfl rfl rfl
@[go_sem] theorem h23_t : h23.tk = [] /\ h23.mt = [] /\ h23.pc = []:=⟨rfl,rfl,rfl⟩
theorem h23_k : FK Tryz.prog 23 Tryz.f23 h23:=⟨by kernel_rfl,by kernel_rfl,Tryz.func23,by kernel_rfl⟩
def h8 : Hint:=hx [105,256] [9] [11,17] [] [17] [] [2006,2007]
@[go_sem] theorem h8_l : h8.lv 0 = [0,3,5,6] /\ h8.lv 1 = [8]:=by decide +kernel
@[go_sem] theorem h8_g (k : Nat) : h8.ct k = none:=rfl
@[go_sem] theorem h8_z (k : Nat) : h8.at k = []:=rfl
@[go_sem] theorem h8_y : h8.dn 0 = false /\ h8.dn 1 = true:=by decide +kernel
@[go_sem] theorem h8_t : h8.tk = [9] /\ h8.mt = [11,17] /\ h8.pc = [17]:=⟨rfl,rfl,rfl⟩
theorem h8_k : FK Tryz.prog 8 Tryz.f8 h8:=⟨by kernel_rfl,by kernel_rfl,Tryz.func8,by kernel_rfl⟩
def h24 : Hint:=hm [62,64] [] [] [30]
@[go_sem] theorem h24_l : h24.lv 0 = [1,2,3,4,5] /\ h24.lv 1 = [6]:=by decide +kernel
@[go_sem] def h24_q:=hplain h24 rfl rfl rfl
@[go_sem] theorem h24_t : h24.tk = [] /\ h24.mt = [] /\ h24.pc = [30]:=⟨rfl,rfl,rfl⟩
theorem h24_k : FK Tryz.prog 24 Tryz.f24 h24:=⟨by kernel_rfl,by kernel_rfl,Tryz.func24,by kernel_rfl⟩
def h7 : Hint:=hm [240,256] [] [] []
@[go_sem] theorem h7_l : h7.lv 0 = [4,5,6,7] /\ h7.lv 1 = [8]:=by decide +kernel
@[go_sem] def h7_q:=hplain h7 rfl rfl rfl
@[go_sem] theorem h7_t : h7.tk = [] /\ h7.mt = [] /\ h7.pc = []:=⟨rfl,rfl,rfl⟩
theorem h7_k : FK Tryz.prog 7 Tryz.f7 h7:=⟨by kernel_rfl,by kernel_rfl,Tryz.func7,by kernel_rfl⟩
def h48 : Hint:=hm [1,17,4,4] [6] [] []
@[go_sem] theorem h48_l : h48.lv 0 = [0] /\ h48.lv 1 = [0,4] /\ h48.lv 2 = [2] /\ h48.lv 3 = [2]:=by decide +kernel
@[go_sem] def h48_q:=hplain h48 rfl rfl rfl
@[go_sem] theorem h48_t : h48.tk = [6] /\ h48.mt = [] /\ h48.pc = []:=⟨rfl,rfl,rfl⟩
theorem h48_k : FK Tryz.prog 48 Tryz.f48 h48:=⟨by kernel_rfl,by kernel_rfl,Tryz.func48,by kernel_rfl⟩
def h6 : Hint:=hx [1,2,6,6,30,122,506,4090,24570,122874,516090,2088954,0x800000000000000000000000000a9202,1,2789890,6984194,15372802,1] [124,137,138,141,142,146,152,157] [31] [(1,[(1,some 5,true)]),(3,[(2,some 5,true)])] [51,60] [] []
@[go_sem] theorem h6_l : h6.lv 0 = [0] /\ h6.lv 1 = [1] /\ h6.lv 2 = [1,2] /\ h6.lv 3 = [1,2] /\ h6.lv 4 = [1,2,3,4] /\ h6.lv 5 = [1,3,4,5,6] /\ h6.lv 6 = [1,3,4,5,6,7,8] /\ h6.lv 7 = [1,3,4,5,6,7,8,9,10,11] /\ h6.lv 8 = [1,3,4,5,6,7,8,9,10,11,12,14] /\ h6.lv 9 = [1,3,4,5,6,7,8,9,10,11,12,14,15,16] /\ h6.lv 10 = [1,3,4,5,6,7,8,9,10,11,12,14,15,16,17,18] /\ h6.lv 11 = [1,3,4,5,6,7,8,9,10,11,12,14,15,16,17,18,19,20] /\ h6.lv 12 = [1,9,12,15,17,19,127] /\ h6.lv 13 = [0] /\ h6.lv 14 = [1,9,12,15,17,19,21] /\ h6.lv 15 = [1,9,12,15,17,19,21,22] /\ h6.lv 16 = [1,9,12,15,17,19,21,22,23] /\ h6.lv 17 = [0]:=by decide +kernel
@[go_sem] theorem h6_g (k : Nat) : h6.ct k = none:=rfl
@[go_sem] theorem h6_z : h6.at 0 = [] /\ h6.at 1 = [(1,some 5,true)] /\ h6.at 2 = [] /\ h6.at 3 = [(2,some 5,true)] /\ h6.at 4 = [] /\ h6.at 5 = [] /\ h6.at 6 = [] /\ h6.at 7 = [] /\ h6.at 8 = [] /\ h6.at 9 = [] /\ h6.at 10 = [] /\ h6.at 11 = [] /\ h6.at 12 = [] /\ h6.at 13 = [] /\ h6.at 14 = [] /\ h6.at 15 = [] /\ h6.at 16 = [] /\ h6.at 17 = []:=by decide +kernel
@[go_sem] theorem h6_y (k : Nat) : h6.dn k = false:=Eq.trans rfl rfl
@[go_sem] theorem h6_t : h6.tk = [124,137,138,141,142,146,152,157] /\ h6.mt = [31] /\ h6.pc = [51,60]:=⟨rfl,rfl,rfl⟩
theorem h6_k : FK Tryz.prog 6 Tryz.f6 h6:=⟨by kernel_rfl,by kernel_rfl,Tryz.func6,by kernel_rfl⟩
def h3 : Hint:=hx [90,549755813978,256,602,985162418487898,0x780000000025a,985162418490970,985162418493018,0x200000000000380000000025a,256,985162418487898,256] [] [] [] [14,29,40,45,77,99] [(10,2)] []
@[go_sem] theorem h3_l : h3.lv 0 = [1,3,4,6] /\ h3.lv 1 = [1,3,4,6,39] /\ h3.lv 2 = [8] /\ h3.lv 3 = [1,3,4,6,9] /\ h3.lv 4 = [1,3,4,6,9,47,48,49] /\ h3.lv 5 = [1,3,4,6,9,47,48,49,50] /\ h3.lv 6 = [1,3,4,6,9,10,11,47,48,49] /\ h3.lv 7 = [1,3,4,6,9,10,12,47,48,49] /\ h3.lv 8 = [1,3,4,6,9,47,48,49,97] /\ h3.lv 9 = [8] /\ h3.lv 10 = [1,3,4,6,9,47,48,49] /\ h3.lv 11 = [8]:=by decide +kernel
@[go_sem] theorem h3_g : h3.ct 0 = none /\ h3.ct 1 = none /\ h3.ct 2 = none /\ h3.ct 3 = none /\ h3.ct 4 = none /\ h3.ct 5 = none /\ h3.ct 6 = none /\ h3.ct 7 = none /\ h3.ct 8 = none /\ h3.ct 9 = none /\ h3.ct 10 = some 2 /\ h3.ct 11 = none:=by decide +kernel
@[go_sem] theorem h3_z (k : Nat) : h3.at k = []:=rfl
@[go_sem] theorem h3_y (k : Nat) : h3.dn k = false:=Eq.trans rfl rfl
@[go_sem] theorem h3_t : h3.tk = [] /\ h3.mt = [] /\ h3.pc = [14,29,40,45,77,99]:=⟨rfl,rfl,rfl⟩
theorem h3_k : FK Tryz.prog 3 Tryz.f3 h3:=⟨by kernel_rfl,by kernel_rfl,Tryz.func3,by kernel_rfl⟩
end Go.AI
