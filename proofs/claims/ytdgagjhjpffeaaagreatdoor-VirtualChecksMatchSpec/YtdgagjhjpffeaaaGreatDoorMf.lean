/- Closed facts about the program's types. Printed by fa.py. -/
import Derived.Test.YtdgagjhjpffeaaaGreatDoorProg
import Derived.Test.YtdgagjhjpffeaaaGreatDoorMj
import Derived.KernelRfl
set_option linter.unusedSimpArgs false
set_option linter.unusedVariables false
namespace Go.AI
open Go.Proofs
@[go_sem] theorem cellsOf0 : Tryz.prog.cellsOf 0 = 1 := by kernel_rfl
@[go_sem] theorem bytesOf0 : Tryz.prog.bytesOf 0 = 0 := by kernel_rfl
@[go_sem] theorem ldk0 : ldk Tryz.prog 0 = some none := by kernel_rfl
@[go_sem] theorem aggTy0 : aggTy Tryz.prog 0 = false := by kernel_rfl
@[go_sem] theorem zeroOk0 : zeroOk Tryz.prog 0 = true := by kernel_rfl
@[go_sem] theorem info0 : (Tryz.prog.info? 0).isSome = true := by kernel_rfl
@[go_sem] theorem cellsOf3 : Tryz.prog.cellsOf 3 = 1 := by kernel_rfl
@[go_sem] theorem bytesOf3 : Tryz.prog.bytesOf 3 = 8 := by kernel_rfl
@[go_sem] theorem ldk3 : ldk Tryz.prog 3 = some none := by kernel_rfl
@[go_sem] theorem aggTy3 : aggTy Tryz.prog 3 = false := by kernel_rfl
@[go_sem] theorem und3 : Tryz.prog.underlying 3 = some (.int .i64) := by kernel_rfl
@[go_sem] theorem zeroOk3 : zeroOk Tryz.prog 3 = true := by kernel_rfl
@[go_sem] theorem info3 : (Tryz.prog.info? 3).isSome = true := by kernel_rfl
@[go_sem] theorem zeroAV3 : zeroAV Tryz.prog 3 = some (.int .i64 0) := by kernel_rfl
@[go_sem] theorem cellsOf4 : Tryz.prog.cellsOf 4 = 1 := by kernel_rfl
@[go_sem] theorem bytesOf4 : Tryz.prog.bytesOf 4 = 1 := by kernel_rfl
@[go_sem] theorem ldk4 : ldk Tryz.prog 4 = some none := by kernel_rfl
@[go_sem] theorem aggTy4 : aggTy Tryz.prog 4 = false := by kernel_rfl
@[go_sem] theorem und4 : Tryz.prog.underlying 4 = some .bool := by kernel_rfl
@[go_sem] theorem isBool4 : isBool Tryz.prog 4 = true := by kernel_rfl
@[go_sem] theorem zeroOk4 : zeroOk Tryz.prog 4 = true := by kernel_rfl
@[go_sem] theorem info4 : (Tryz.prog.info? 4).isSome = true := by kernel_rfl
@[go_sem] theorem zeroAV4 : zeroAV Tryz.prog 4 = some (.bool false) := by kernel_rfl
@[go_sem] theorem cellsOf5 : Tryz.prog.cellsOf 5 = 1 := by kernel_rfl
@[go_sem] theorem bytesOf5 : Tryz.prog.bytesOf 5 = 1 := by kernel_rfl
@[go_sem] theorem ldk5 : ldk Tryz.prog 5 = some none := by kernel_rfl
@[go_sem] theorem aggTy5 : aggTy Tryz.prog 5 = false := by kernel_rfl
@[go_sem] theorem und5 : Tryz.prog.underlying 5 = some (.int .u8) := by kernel_rfl
@[go_sem] theorem zeroOk5 : zeroOk Tryz.prog 5 = true := by kernel_rfl
@[go_sem] theorem info5 : (Tryz.prog.info? 5).isSome = true := by kernel_rfl
@[go_sem] theorem zeroAV5 : zeroAV Tryz.prog 5 = some (.int .u8 0) := by kernel_rfl
@[go_sem] theorem cellsOf9 : Tryz.prog.cellsOf 9 = 1 := by kernel_rfl
@[go_sem] theorem bytesOf9 : Tryz.prog.bytesOf 9 = 16 := by kernel_rfl
@[go_sem] theorem ldk9 : ldk Tryz.prog 9 = some none := by kernel_rfl
@[go_sem] theorem aggTy9 : aggTy Tryz.prog 9 = false := by kernel_rfl
@[go_sem] theorem und9 : Tryz.prog.underlying 9 = some .string := by kernel_rfl
@[go_sem] theorem zeroOk9 : zeroOk Tryz.prog 9 = true := by kernel_rfl
@[go_sem] theorem info9 : (Tryz.prog.info? 9).isSome = true := by kernel_rfl
@[go_sem] theorem zeroAV9 : zeroAV Tryz.prog 9 = some (.str ByteArray.empty) := by kernel_rfl
@[go_sem] theorem cellsOf10 : Tryz.prog.cellsOf 10 = 1 := by kernel_rfl
@[go_sem] theorem bytesOf10 : Tryz.prog.bytesOf 10 = 16 := by kernel_rfl
@[go_sem] theorem ldk10 : ldk Tryz.prog 10 = some none := by kernel_rfl
@[go_sem] theorem aggTy10 : aggTy Tryz.prog 10 = false := by kernel_rfl
@[go_sem] theorem und10 : Tryz.prog.underlying 10 = some .string := by kernel_rfl
@[go_sem] theorem zeroOk10 : zeroOk Tryz.prog 10 = true := by kernel_rfl
@[go_sem] theorem info10 : (Tryz.prog.info? 10).isSome = true := by kernel_rfl
@[go_sem] theorem zeroAV10 : zeroAV Tryz.prog 10 = some (.str ByteArray.empty) := by kernel_rfl
@[go_sem] theorem cellsOf22 : Tryz.prog.cellsOf 22 = 1 := by kernel_rfl
@[go_sem] theorem bytesOf22 : Tryz.prog.bytesOf 22 = 24 := by kernel_rfl
@[go_sem] theorem ldk22 : ldk Tryz.prog 22 = some none := by kernel_rfl
@[go_sem] theorem aggTy22 : aggTy Tryz.prog 22 = false := by kernel_rfl
@[go_sem] theorem und22 : Tryz.prog.underlying 22 = some (.slice 171) := by kernel_rfl
@[go_sem] theorem isSl22 : isSl Tryz.prog 22 = true := by kernel_rfl
@[go_sem] theorem zeroOk22 : zeroOk Tryz.prog 22 = true := by kernel_rfl
@[go_sem] theorem info22 : (Tryz.prog.info? 22).isSome = true := by kernel_rfl
@[go_sem] theorem zeroAV22 : zeroAV Tryz.prog 22 = some (.sl (some 4) []) := by kernel_rfl
@[go_sem] theorem cellsOf23 : Tryz.prog.cellsOf 23 = 1 := by kernel_rfl
@[go_sem] theorem bytesOf23 : Tryz.prog.bytesOf 23 = 24 := by kernel_rfl
@[go_sem] theorem ldk23 : ldk Tryz.prog 23 = some none := by kernel_rfl
@[go_sem] theorem aggTy23 : aggTy Tryz.prog 23 = false := by kernel_rfl
@[go_sem] theorem und23 : Tryz.prog.underlying 23 = some (.slice 173) := by kernel_rfl
@[go_sem] theorem isSl23 : isSl Tryz.prog 23 = true := by kernel_rfl
@[go_sem] theorem zeroOk23 : zeroOk Tryz.prog 23 = true := by kernel_rfl
@[go_sem] theorem info23 : (Tryz.prog.info? 23).isSome = true := by kernel_rfl
@[go_sem] theorem zeroAV23 : zeroAV Tryz.prog 23 = some (.sl (some 3) []) := by kernel_rfl
@[go_sem] theorem cellsOf24 : Tryz.prog.cellsOf 24 = 1 := by kernel_rfl
@[go_sem] theorem bytesOf24 : Tryz.prog.bytesOf 24 = 24 := by kernel_rfl
@[go_sem] theorem ldk24 : ldk Tryz.prog 24 = some none := by kernel_rfl
@[go_sem] theorem aggTy24 : aggTy Tryz.prog 24 = false := by kernel_rfl
@[go_sem] theorem und24 : Tryz.prog.underlying 24 = some (.slice 176) := by kernel_rfl
@[go_sem] theorem isSl24 : isSl Tryz.prog 24 = true := by kernel_rfl
@[go_sem] theorem zeroOk24 : zeroOk Tryz.prog 24 = true := by kernel_rfl
@[go_sem] theorem info24 : (Tryz.prog.info? 24).isSome = true := by kernel_rfl
@[go_sem] theorem zeroAV24 : zeroAV Tryz.prog 24 = some (.sl (some 2) []) := by kernel_rfl
@[go_sem] theorem cellsOf25 : Tryz.prog.cellsOf 25 = 3 := by kernel_rfl
@[go_sem] theorem bytesOf25 : Tryz.prog.bytesOf 25 = 72 := by kernel_rfl
@[go_sem] theorem ldk25 : ldk Tryz.prog 25 = some (some 3) := by kernel_rfl
@[go_sem] theorem aggTy25 : aggTy Tryz.prog 25 = true := by kernel_rfl
@[go_sem] theorem zeroOk25 : zeroOk Tryz.prog 25 = true := by kernel_rfl
@[go_sem] theorem info25 : (Tryz.prog.info? 25).isSome = true := by kernel_rfl
@[go_sem] theorem bkind25 : bkind Tryz.prog 25 = .struct [(0, 1), (1, 1), (2, 1)] := by kernel_rfl
@[go_sem] theorem fplace25_0 : fplace Tryz.prog 25 0 = some (22, 0) := by kernel_rfl
@[go_sem] theorem fplace25_1 : fplace Tryz.prog 25 1 = some (23, 1) := by kernel_rfl
@[go_sem] theorem fplace25_2 : fplace Tryz.prog 25 2 = some (24, 2) := by kernel_rfl
@[go_sem] theorem zeroAV25 : zeroAV Tryz.prog 25 = some (.agg [.sl (some 4) [], .sl (some 3) [], .sl (some 2) []]) := by kernel_rfl
@[go_sem] theorem cellsOf26 : Tryz.prog.cellsOf 26 = 3 := by kernel_rfl
@[go_sem] theorem bytesOf26 : Tryz.prog.bytesOf 26 = 72 := by kernel_rfl
@[go_sem] theorem ldk26 : ldk Tryz.prog 26 = some (some 3) := by kernel_rfl
@[go_sem] theorem aggTy26 : aggTy Tryz.prog 26 = true := by kernel_rfl
@[go_sem] theorem zeroOk26 : zeroOk Tryz.prog 26 = true := by kernel_rfl
@[go_sem] theorem info26 : (Tryz.prog.info? 26).isSome = true := by kernel_rfl
@[go_sem] theorem bkind26 : bkind Tryz.prog 26 = .struct [(0, 1), (1, 1), (2, 1)] := by kernel_rfl
@[go_sem] theorem fplace26_0 : fplace Tryz.prog 26 0 = some (22, 0) := by kernel_rfl
@[go_sem] theorem fplace26_1 : fplace Tryz.prog 26 1 = some (23, 1) := by kernel_rfl
@[go_sem] theorem fplace26_2 : fplace Tryz.prog 26 2 = some (24, 2) := by kernel_rfl
@[go_sem] theorem cellsOf27 : Tryz.prog.cellsOf 27 = 1 := by kernel_rfl
@[go_sem] theorem bytesOf27 : Tryz.prog.bytesOf 27 = 24 := by kernel_rfl
@[go_sem] theorem ldk27 : ldk Tryz.prog 27 = some none := by kernel_rfl
@[go_sem] theorem aggTy27 : aggTy Tryz.prog 27 = false := by kernel_rfl
@[go_sem] theorem und27 : Tryz.prog.underlying 27 = some (.slice 145) := by kernel_rfl
@[go_sem] theorem isSl27 : isSl Tryz.prog 27 = true := by kernel_rfl
@[go_sem] theorem zeroOk27 : zeroOk Tryz.prog 27 = true := by kernel_rfl
@[go_sem] theorem info27 : (Tryz.prog.info? 27).isSome = true := by kernel_rfl
@[go_sem] theorem zeroAV27 : zeroAV Tryz.prog 27 = some (.sl (some 3) []) := by kernel_rfl
@[go_sem] theorem cellsOf28 : Tryz.prog.cellsOf 28 = 1 := by kernel_rfl
@[go_sem] theorem bytesOf28 : Tryz.prog.bytesOf 28 = 24 := by kernel_rfl
@[go_sem] theorem ldk28 : ldk Tryz.prog 28 = some none := by kernel_rfl
@[go_sem] theorem aggTy28 : aggTy Tryz.prog 28 = false := by kernel_rfl
@[go_sem] theorem und28 : Tryz.prog.underlying 28 = some (.slice 39) := by kernel_rfl
@[go_sem] theorem isSl28 : isSl Tryz.prog 28 = true := by kernel_rfl
@[go_sem] theorem zeroOk28 : zeroOk Tryz.prog 28 = true := by kernel_rfl
@[go_sem] theorem info28 : (Tryz.prog.info? 28).isSome = true := by kernel_rfl
@[go_sem] theorem zeroAV28 : zeroAV Tryz.prog 28 = some (.sl (some 6) []) := by kernel_rfl
@[go_sem] theorem cellsOf29 : Tryz.prog.cellsOf 29 = 1 := by kernel_rfl
@[go_sem] theorem bytesOf29 : Tryz.prog.bytesOf 29 = 24 := by kernel_rfl
@[go_sem] theorem ldk29 : ldk Tryz.prog 29 = some none := by kernel_rfl
@[go_sem] theorem aggTy29 : aggTy Tryz.prog 29 = false := by kernel_rfl
@[go_sem] theorem und29 : Tryz.prog.underlying 29 = some (.slice 346) := by kernel_rfl
@[go_sem] theorem isSl29 : isSl Tryz.prog 29 = true := by kernel_rfl
@[go_sem] theorem zeroOk29 : zeroOk Tryz.prog 29 = true := by kernel_rfl
@[go_sem] theorem info29 : (Tryz.prog.info? 29).isSome = true := by kernel_rfl
@[go_sem] theorem zeroAV29 : zeroAV Tryz.prog 29 = some (.sl (some 12) []) := by kernel_rfl
@[go_sem] theorem cellsOf30 : Tryz.prog.cellsOf 30 = 6 := by kernel_rfl
@[go_sem] theorem bytesOf30 : Tryz.prog.bytesOf 30 = 144 := by kernel_rfl
@[go_sem] theorem ldk30 : ldk Tryz.prog 30 = some (some 6) := by kernel_rfl
@[go_sem] theorem aggTy30 : aggTy Tryz.prog 30 = true := by kernel_rfl
@[go_sem] theorem zeroOk30 : zeroOk Tryz.prog 30 = true := by kernel_rfl
@[go_sem] theorem info30 : (Tryz.prog.info? 30).isSome = true := by kernel_rfl
@[go_sem] theorem bkind30 : bkind Tryz.prog 30 = .struct [(0, 3), (3, 1), (4, 1), (5, 1)] := by kernel_rfl
@[go_sem] theorem fplace30_0 : fplace Tryz.prog 30 0 = some (26, 0) := by kernel_rfl
@[go_sem] theorem fplace30_1 : fplace Tryz.prog 30 1 = some (27, 3) := by kernel_rfl
@[go_sem] theorem fplace30_2 : fplace Tryz.prog 30 2 = some (28, 4) := by kernel_rfl
@[go_sem] theorem fplace30_3 : fplace Tryz.prog 30 3 = some (29, 5) := by kernel_rfl
@[go_sem] theorem zeroAV30 : zeroAV Tryz.prog 30 = some (.agg [.sl (some 4) [], .sl (some 3) [], .sl (some 2) [], .sl (some 3) [], .sl (some 6) [], .sl (some 12) []]) := by kernel_rfl
@[go_sem] theorem cellsOf31 : Tryz.prog.cellsOf 31 = 6 := by kernel_rfl
@[go_sem] theorem bytesOf31 : Tryz.prog.bytesOf 31 = 144 := by kernel_rfl
@[go_sem] theorem ldk31 : ldk Tryz.prog 31 = some (some 6) := by kernel_rfl
@[go_sem] theorem aggTy31 : aggTy Tryz.prog 31 = true := by kernel_rfl
@[go_sem] theorem zeroOk31 : zeroOk Tryz.prog 31 = true := by kernel_rfl
@[go_sem] theorem info31 : (Tryz.prog.info? 31).isSome = true := by kernel_rfl
@[go_sem] theorem bkind31 : bkind Tryz.prog 31 = .struct [(0, 3), (3, 1), (4, 1), (5, 1)] := by kernel_rfl
@[go_sem] theorem fplace31_0 : fplace Tryz.prog 31 0 = some (26, 0) := by kernel_rfl
@[go_sem] theorem fplace31_1 : fplace Tryz.prog 31 1 = some (27, 3) := by kernel_rfl
@[go_sem] theorem fplace31_2 : fplace Tryz.prog 31 2 = some (28, 4) := by kernel_rfl
@[go_sem] theorem fplace31_3 : fplace Tryz.prog 31 3 = some (29, 5) := by kernel_rfl
@[go_sem] theorem cellsOf32 : Tryz.prog.cellsOf 32 = 1 := by kernel_rfl
@[go_sem] theorem bytesOf32 : Tryz.prog.bytesOf 32 = 24 := by kernel_rfl
@[go_sem] theorem ldk32 : ldk Tryz.prog 32 = some none := by kernel_rfl
@[go_sem] theorem aggTy32 : aggTy Tryz.prog 32 = false := by kernel_rfl
@[go_sem] theorem und32 : Tryz.prog.underlying 32 = some (.slice 114) := by kernel_rfl
@[go_sem] theorem isSl32 : isSl Tryz.prog 32 = true := by kernel_rfl
@[go_sem] theorem zeroOk32 : zeroOk Tryz.prog 32 = true := by kernel_rfl
@[go_sem] theorem info32 : (Tryz.prog.info? 32).isSome = true := by kernel_rfl
@[go_sem] theorem zeroAV32 : zeroAV Tryz.prog 32 = some (.sl (some 2) []) := by kernel_rfl
@[go_sem] theorem cellsOf33 : Tryz.prog.cellsOf 33 = 1 := by kernel_rfl
@[go_sem] theorem bytesOf33 : Tryz.prog.bytesOf 33 = 24 := by kernel_rfl
@[go_sem] theorem ldk33 : ldk Tryz.prog 33 = some none := by kernel_rfl
@[go_sem] theorem aggTy33 : aggTy Tryz.prog 33 = false := by kernel_rfl
@[go_sem] theorem und33 : Tryz.prog.underlying 33 = some (.slice 88) := by kernel_rfl
@[go_sem] theorem isSl33 : isSl Tryz.prog 33 = true := by kernel_rfl
@[go_sem] theorem zeroOk33 : zeroOk Tryz.prog 33 = true := by kernel_rfl
@[go_sem] theorem info33 : (Tryz.prog.info? 33).isSome = true := by kernel_rfl
@[go_sem] theorem zeroAV33 : zeroAV Tryz.prog 33 = some (.sl (some 2) []) := by kernel_rfl
@[go_sem] theorem cellsOf34 : Tryz.prog.cellsOf 34 = 1 := by kernel_rfl
@[go_sem] theorem bytesOf34 : Tryz.prog.bytesOf 34 = 24 := by kernel_rfl
@[go_sem] theorem ldk34 : ldk Tryz.prog 34 = some none := by kernel_rfl
@[go_sem] theorem aggTy34 : aggTy Tryz.prog 34 = false := by kernel_rfl
@[go_sem] theorem und34 : Tryz.prog.underlying 34 = some (.slice 63) := by kernel_rfl
@[go_sem] theorem isSl34 : isSl Tryz.prog 34 = true := by kernel_rfl
@[go_sem] theorem zeroOk34 : zeroOk Tryz.prog 34 = true := by kernel_rfl
@[go_sem] theorem info34 : (Tryz.prog.info? 34).isSome = true := by kernel_rfl
@[go_sem] theorem zeroAV34 : zeroAV Tryz.prog 34 = some (.sl (some 15) []) := by kernel_rfl
@[go_sem] theorem cellsOf35 : Tryz.prog.cellsOf 35 = 1 := by kernel_rfl
@[go_sem] theorem bytesOf35 : Tryz.prog.bytesOf 35 = 24 := by kernel_rfl
@[go_sem] theorem ldk35 : ldk Tryz.prog 35 = some none := by kernel_rfl
@[go_sem] theorem aggTy35 : aggTy Tryz.prog 35 = false := by kernel_rfl
@[go_sem] theorem und35 : Tryz.prog.underlying 35 = some (.slice 63) := by kernel_rfl
@[go_sem] theorem isSl35 : isSl Tryz.prog 35 = true := by kernel_rfl
@[go_sem] theorem zeroOk35 : zeroOk Tryz.prog 35 = true := by kernel_rfl
@[go_sem] theorem info35 : (Tryz.prog.info? 35).isSome = true := by kernel_rfl
@[go_sem] theorem zeroAV35 : zeroAV Tryz.prog 35 = some (.sl (some 15) []) := by kernel_rfl
@[go_sem] theorem cellsOf36 : Tryz.prog.cellsOf 36 = 1 := by kernel_rfl
@[go_sem] theorem bytesOf36 : Tryz.prog.bytesOf 36 = 24 := by kernel_rfl
@[go_sem] theorem ldk36 : ldk Tryz.prog 36 = some none := by kernel_rfl
@[go_sem] theorem aggTy36 : aggTy Tryz.prog 36 = false := by kernel_rfl
@[go_sem] theorem und36 : Tryz.prog.underlying 36 = some (.slice 101) := by kernel_rfl
@[go_sem] theorem isSl36 : isSl Tryz.prog 36 = true := by kernel_rfl
@[go_sem] theorem zeroOk36 : zeroOk Tryz.prog 36 = true := by kernel_rfl
@[go_sem] theorem info36 : (Tryz.prog.info? 36).isSome = true := by kernel_rfl
@[go_sem] theorem zeroAV36 : zeroAV Tryz.prog 36 = some (.sl (some 8) []) := by kernel_rfl
@[go_sem] theorem cellsOf37 : Tryz.prog.cellsOf 37 = 1 := by kernel_rfl
@[go_sem] theorem bytesOf37 : Tryz.prog.bytesOf 37 = 24 := by kernel_rfl
@[go_sem] theorem ldk37 : ldk Tryz.prog 37 = some none := by kernel_rfl
@[go_sem] theorem aggTy37 : aggTy Tryz.prog 37 = false := by kernel_rfl
@[go_sem] theorem und37 : Tryz.prog.underlying 37 = some (.slice 107) := by kernel_rfl
@[go_sem] theorem isSl37 : isSl Tryz.prog 37 = true := by kernel_rfl
@[go_sem] theorem zeroOk37 : zeroOk Tryz.prog 37 = true := by kernel_rfl
@[go_sem] theorem info37 : (Tryz.prog.info? 37).isSome = true := by kernel_rfl
@[go_sem] theorem zeroAV37 : zeroAV Tryz.prog 37 = some (.sl (some 4) []) := by kernel_rfl
@[go_sem] theorem cellsOf38 : Tryz.prog.cellsOf 38 = 6 := by kernel_rfl
@[go_sem] theorem bytesOf38 : Tryz.prog.bytesOf 38 = 136 := by kernel_rfl
@[go_sem] theorem ldk38 : ldk Tryz.prog 38 = some (some 6) := by kernel_rfl
@[go_sem] theorem aggTy38 : aggTy Tryz.prog 38 = true := by kernel_rfl
@[go_sem] theorem zeroOk38 : zeroOk Tryz.prog 38 = true := by kernel_rfl
@[go_sem] theorem info38 : (Tryz.prog.info? 38).isSome = true := by kernel_rfl
@[go_sem] theorem bkind38 : bkind Tryz.prog 38 = .struct [(0, 1), (1, 1), (2, 1), (3, 1), (4, 1), (5, 1)] := by kernel_rfl
@[go_sem] theorem fplace38_0 : fplace Tryz.prog 38 0 = some (9, 0) := by kernel_rfl
@[go_sem] theorem fplace38_1 : fplace Tryz.prog 38 1 = some (32, 1) := by kernel_rfl
@[go_sem] theorem fplace38_2 : fplace Tryz.prog 38 2 = some (33, 2) := by kernel_rfl
@[go_sem] theorem fplace38_3 : fplace Tryz.prog 38 3 = some (35, 3) := by kernel_rfl
@[go_sem] theorem fplace38_4 : fplace Tryz.prog 38 4 = some (36, 4) := by kernel_rfl
@[go_sem] theorem fplace38_5 : fplace Tryz.prog 38 5 = some (37, 5) := by kernel_rfl
@[go_sem] theorem zeroAV38 : zeroAV Tryz.prog 38 = some (.agg [.str ByteArray.empty, .sl (some 2) [], .sl (some 2) [], .sl (some 15) [], .sl (some 8) [], .sl (some 4) []]) := by kernel_rfl
@[go_sem] theorem cellsOf39 : Tryz.prog.cellsOf 39 = 6 := by kernel_rfl
@[go_sem] theorem bytesOf39 : Tryz.prog.bytesOf 39 = 136 := by kernel_rfl
@[go_sem] theorem ldk39 : ldk Tryz.prog 39 = some (some 6) := by kernel_rfl
@[go_sem] theorem aggTy39 : aggTy Tryz.prog 39 = true := by kernel_rfl
@[go_sem] theorem zeroOk39 : zeroOk Tryz.prog 39 = true := by kernel_rfl
@[go_sem] theorem info39 : (Tryz.prog.info? 39).isSome = true := by kernel_rfl
@[go_sem] theorem bkind39 : bkind Tryz.prog 39 = .struct [(0, 1), (1, 1), (2, 1), (3, 1), (4, 1), (5, 1)] := by kernel_rfl
@[go_sem] theorem fplace39_0 : fplace Tryz.prog 39 0 = some (9, 0) := by kernel_rfl
@[go_sem] theorem fplace39_1 : fplace Tryz.prog 39 1 = some (32, 1) := by kernel_rfl
@[go_sem] theorem fplace39_2 : fplace Tryz.prog 39 2 = some (33, 2) := by kernel_rfl
@[go_sem] theorem fplace39_3 : fplace Tryz.prog 39 3 = some (35, 3) := by kernel_rfl
@[go_sem] theorem fplace39_4 : fplace Tryz.prog 39 4 = some (36, 4) := by kernel_rfl
@[go_sem] theorem fplace39_5 : fplace Tryz.prog 39 5 = some (37, 5) := by kernel_rfl
@[go_sem] theorem cellsOf43 : Tryz.prog.cellsOf 43 = 1 := by kernel_rfl
@[go_sem] theorem bytesOf43 : Tryz.prog.bytesOf 43 = 8 := by kernel_rfl
@[go_sem] theorem ldk43 : ldk Tryz.prog 43 = some none := by kernel_rfl
@[go_sem] theorem aggTy43 : aggTy Tryz.prog 43 = false := by kernel_rfl
@[go_sem] theorem und43 : Tryz.prog.underlying 43 = some (.int .i64) := by kernel_rfl
@[go_sem] theorem zeroOk43 : zeroOk Tryz.prog 43 = true := by kernel_rfl
@[go_sem] theorem info43 : (Tryz.prog.info? 43).isSome = true := by kernel_rfl
@[go_sem] theorem zeroAV43 : zeroAV Tryz.prog 43 = some (.int .i64 0) := by kernel_rfl
@[go_sem] theorem cellsOf46 : Tryz.prog.cellsOf 46 = 10 := by kernel_rfl
@[go_sem] theorem bytesOf46 : Tryz.prog.bytesOf 46 = 80 := by kernel_rfl
@[go_sem] theorem ldk46 : ldk Tryz.prog 46 = some (some 10) := by kernel_rfl
@[go_sem] theorem aggTy46 : aggTy Tryz.prog 46 = true := by kernel_rfl
@[go_sem] theorem und46 : Tryz.prog.underlying 46 = some (.array 10 3) := by kernel_rfl
@[go_sem] theorem zeroOk46 : zeroOk Tryz.prog 46 = true := by kernel_rfl
@[go_sem] theorem info46 : (Tryz.prog.info? 46).isSome = true := by kernel_rfl
@[go_sem] theorem bkind46 : bkind Tryz.prog 46 = .array 1 := by kernel_rfl
@[go_sem] theorem zeroAV46 : zeroAV Tryz.prog 46 = some (.agg [.int .i64 0, .int .i64 0, .int .i64 0, .int .i64 0, .int .i64 0, .int .i64 0, .int .i64 0, .int .i64 0, .int .i64 0, .int .i64 0]) := by kernel_rfl
@[go_sem] theorem cellsOf47 : Tryz.prog.cellsOf 47 = 10 := by kernel_rfl
@[go_sem] theorem bytesOf47 : Tryz.prog.bytesOf 47 = 80 := by kernel_rfl
@[go_sem] theorem ldk47 : ldk Tryz.prog 47 = some (some 10) := by kernel_rfl
@[go_sem] theorem aggTy47 : aggTy Tryz.prog 47 = true := by kernel_rfl
@[go_sem] theorem und47 : Tryz.prog.underlying 47 = some (.array 10 3) := by kernel_rfl
@[go_sem] theorem zeroOk47 : zeroOk Tryz.prog 47 = true := by kernel_rfl
@[go_sem] theorem info47 : (Tryz.prog.info? 47).isSome = true := by kernel_rfl
@[go_sem] theorem bkind47 : bkind Tryz.prog 47 = .array 1 := by kernel_rfl
@[go_sem] theorem cellsOf53 : Tryz.prog.cellsOf 53 = 1 := by kernel_rfl
@[go_sem] theorem bytesOf53 : Tryz.prog.bytesOf 53 = 24 := by kernel_rfl
@[go_sem] theorem ldk53 : ldk Tryz.prog 53 = some none := by kernel_rfl
@[go_sem] theorem aggTy53 : aggTy Tryz.prog 53 = false := by kernel_rfl
@[go_sem] theorem und53 : Tryz.prog.underlying 53 = some (.slice 55) := by kernel_rfl
@[go_sem] theorem isSl53 : isSl Tryz.prog 53 = true := by kernel_rfl
@[go_sem] theorem zeroOk53 : zeroOk Tryz.prog 53 = true := by kernel_rfl
@[go_sem] theorem info53 : (Tryz.prog.info? 53).isSome = true := by kernel_rfl
@[go_sem] theorem zeroAV53 : zeroAV Tryz.prog 53 = some (.sl (some 5) []) := by kernel_rfl
@[go_sem] theorem cellsOf54 : Tryz.prog.cellsOf 54 = 5 := by kernel_rfl
@[go_sem] theorem bytesOf54 : Tryz.prog.bytesOf 54 = 64 := by kernel_rfl
@[go_sem] theorem ldk54 : ldk Tryz.prog 54 = some (some 5) := by kernel_rfl
@[go_sem] theorem aggTy54 : aggTy Tryz.prog 54 = true := by kernel_rfl
@[go_sem] theorem zeroOk54 : zeroOk Tryz.prog 54 = true := by kernel_rfl
@[go_sem] theorem info54 : (Tryz.prog.info? 54).isSome = true := by kernel_rfl
@[go_sem] theorem bkind54 : bkind Tryz.prog 54 = .struct [(0, 1), (1, 1), (2, 1), (3, 1), (4, 1)] := by kernel_rfl
@[go_sem] theorem fplace54_0 : fplace Tryz.prog 54 0 = some (3, 0) := by kernel_rfl
@[go_sem] theorem fplace54_1 : fplace Tryz.prog 54 1 = some (9, 1) := by kernel_rfl
@[go_sem] theorem fplace54_2 : fplace Tryz.prog 54 2 = some (3, 2) := by kernel_rfl
@[go_sem] theorem fplace54_3 : fplace Tryz.prog 54 3 = some (3, 3) := by kernel_rfl
@[go_sem] theorem fplace54_4 : fplace Tryz.prog 54 4 = some (53, 4) := by kernel_rfl
@[go_sem] theorem zeroAV54 : zeroAV Tryz.prog 54 = some (.agg [.int .i64 0, .str ByteArray.empty, .int .i64 0, .int .i64 0, .sl (some 5) []]) := by kernel_rfl
@[go_sem] theorem cellsOf55 : Tryz.prog.cellsOf 55 = 5 := by kernel_rfl
@[go_sem] theorem bytesOf55 : Tryz.prog.bytesOf 55 = 64 := by kernel_rfl
@[go_sem] theorem ldk55 : ldk Tryz.prog 55 = some (some 5) := by kernel_rfl
@[go_sem] theorem aggTy55 : aggTy Tryz.prog 55 = true := by kernel_rfl
@[go_sem] theorem zeroOk55 : zeroOk Tryz.prog 55 = true := by kernel_rfl
@[go_sem] theorem info55 : (Tryz.prog.info? 55).isSome = true := by kernel_rfl
@[go_sem] theorem bkind55 : bkind Tryz.prog 55 = .struct [(0, 1), (1, 1), (2, 1), (3, 1), (4, 1)] := by kernel_rfl
@[go_sem] theorem fplace55_0 : fplace Tryz.prog 55 0 = some (3, 0) := by kernel_rfl
@[go_sem] theorem fplace55_1 : fplace Tryz.prog 55 1 = some (9, 1) := by kernel_rfl
@[go_sem] theorem fplace55_2 : fplace Tryz.prog 55 2 = some (3, 2) := by kernel_rfl
@[go_sem] theorem fplace55_3 : fplace Tryz.prog 55 3 = some (3, 3) := by kernel_rfl
@[go_sem] theorem fplace55_4 : fplace Tryz.prog 55 4 = some (53, 4) := by kernel_rfl
@[go_sem] theorem cellsOf56 : Tryz.prog.cellsOf 56 = 1 := by kernel_rfl
@[go_sem] theorem bytesOf56 : Tryz.prog.bytesOf 56 = 24 := by kernel_rfl
@[go_sem] theorem ldk56 : ldk Tryz.prog 56 = some none := by kernel_rfl
@[go_sem] theorem aggTy56 : aggTy Tryz.prog 56 = false := by kernel_rfl
@[go_sem] theorem und56 : Tryz.prog.underlying 56 = some (.slice 58) := by kernel_rfl
@[go_sem] theorem isSl56 : isSl Tryz.prog 56 = true := by kernel_rfl
@[go_sem] theorem zeroOk56 : zeroOk Tryz.prog 56 = true := by kernel_rfl
@[go_sem] theorem info56 : (Tryz.prog.info? 56).isSome = true := by kernel_rfl
@[go_sem] theorem zeroAV56 : zeroAV Tryz.prog 56 = some (.sl (some 9) []) := by kernel_rfl
@[go_sem] theorem cellsOf57 : Tryz.prog.cellsOf 57 = 9 := by kernel_rfl
@[go_sem] theorem bytesOf57 : Tryz.prog.bytesOf 57 = 120 := by kernel_rfl
@[go_sem] theorem ldk57 : ldk Tryz.prog 57 = some (some 9) := by kernel_rfl
@[go_sem] theorem aggTy57 : aggTy Tryz.prog 57 = true := by kernel_rfl
@[go_sem] theorem zeroOk57 : zeroOk Tryz.prog 57 = true := by kernel_rfl
@[go_sem] theorem info57 : (Tryz.prog.info? 57).isSome = true := by kernel_rfl
@[go_sem] theorem bkind57 : bkind Tryz.prog 57 = .struct [(0, 1), (1, 5), (6, 1), (7, 1), (8, 1)] := by kernel_rfl
@[go_sem] theorem fplace57_0 : fplace Tryz.prog 57 0 = some (3, 0) := by kernel_rfl
@[go_sem] theorem fplace57_1 : fplace Tryz.prog 57 1 = some (55, 1) := by kernel_rfl
@[go_sem] theorem fplace57_2 : fplace Tryz.prog 57 2 = some (9, 6) := by kernel_rfl
@[go_sem] theorem fplace57_3 : fplace Tryz.prog 57 3 = some (3, 7) := by kernel_rfl
@[go_sem] theorem fplace57_4 : fplace Tryz.prog 57 4 = some (56, 8) := by kernel_rfl
@[go_sem] theorem zeroAV57 : zeroAV Tryz.prog 57 = some (.agg [.int .i64 0, .int .i64 0, .str ByteArray.empty, .int .i64 0, .int .i64 0, .sl (some 5) [], .str ByteArray.empty, .int .i64 0, .sl (some 9) []]) := by kernel_rfl
@[go_sem] theorem cellsOf58 : Tryz.prog.cellsOf 58 = 9 := by kernel_rfl
@[go_sem] theorem bytesOf58 : Tryz.prog.bytesOf 58 = 120 := by kernel_rfl
@[go_sem] theorem ldk58 : ldk Tryz.prog 58 = some (some 9) := by kernel_rfl
@[go_sem] theorem aggTy58 : aggTy Tryz.prog 58 = true := by kernel_rfl
@[go_sem] theorem zeroOk58 : zeroOk Tryz.prog 58 = true := by kernel_rfl
@[go_sem] theorem info58 : (Tryz.prog.info? 58).isSome = true := by kernel_rfl
@[go_sem] theorem bkind58 : bkind Tryz.prog 58 = .struct [(0, 1), (1, 5), (6, 1), (7, 1), (8, 1)] := by kernel_rfl
@[go_sem] theorem fplace58_0 : fplace Tryz.prog 58 0 = some (3, 0) := by kernel_rfl
@[go_sem] theorem fplace58_1 : fplace Tryz.prog 58 1 = some (55, 1) := by kernel_rfl
@[go_sem] theorem fplace58_2 : fplace Tryz.prog 58 2 = some (9, 6) := by kernel_rfl
@[go_sem] theorem fplace58_3 : fplace Tryz.prog 58 3 = some (3, 7) := by kernel_rfl
@[go_sem] theorem fplace58_4 : fplace Tryz.prog 58 4 = some (56, 8) := by kernel_rfl
@[go_sem] theorem cellsOf59 : Tryz.prog.cellsOf 59 = 1 := by kernel_rfl
@[go_sem] theorem bytesOf59 : Tryz.prog.bytesOf 59 = 24 := by kernel_rfl
@[go_sem] theorem ldk59 : ldk Tryz.prog 59 = some none := by kernel_rfl
@[go_sem] theorem aggTy59 : aggTy Tryz.prog 59 = false := by kernel_rfl
@[go_sem] theorem und59 : Tryz.prog.underlying 59 = some (.slice 9) := by kernel_rfl
@[go_sem] theorem isSl59 : isSl Tryz.prog 59 = true := by kernel_rfl
@[go_sem] theorem zeroOk59 : zeroOk Tryz.prog 59 = true := by kernel_rfl
@[go_sem] theorem info59 : (Tryz.prog.info? 59).isSome = true := by kernel_rfl
@[go_sem] theorem zeroAV59 : zeroAV Tryz.prog 59 = some (.sl (some 1) []) := by kernel_rfl
@[go_sem] theorem cellsOf60 : Tryz.prog.cellsOf 60 = 6 := by kernel_rfl
@[go_sem] theorem bytesOf60 : Tryz.prog.bytesOf 60 = 80 := by kernel_rfl
@[go_sem] theorem ldk60 : ldk Tryz.prog 60 = some (some 6) := by kernel_rfl
@[go_sem] theorem aggTy60 : aggTy Tryz.prog 60 = true := by kernel_rfl
@[go_sem] theorem zeroOk60 : zeroOk Tryz.prog 60 = true := by kernel_rfl
@[go_sem] theorem info60 : (Tryz.prog.info? 60).isSome = true := by kernel_rfl
@[go_sem] theorem bkind60 : bkind Tryz.prog 60 = .struct [(0, 1), (1, 1), (2, 1), (3, 1), (4, 1), (5, 1)] := by kernel_rfl
@[go_sem] theorem fplace60_0 : fplace Tryz.prog 60 0 = some (3, 0) := by kernel_rfl
@[go_sem] theorem fplace60_1 : fplace Tryz.prog 60 1 = some (9, 1) := by kernel_rfl
@[go_sem] theorem fplace60_2 : fplace Tryz.prog 60 2 = some (59, 2) := by kernel_rfl
@[go_sem] theorem fplace60_3 : fplace Tryz.prog 60 3 = some (9, 3) := by kernel_rfl
@[go_sem] theorem fplace60_4 : fplace Tryz.prog 60 4 = some (3, 4) := by kernel_rfl
@[go_sem] theorem fplace60_5 : fplace Tryz.prog 60 5 = some (3, 5) := by kernel_rfl
@[go_sem] theorem zeroAV60 : zeroAV Tryz.prog 60 = some (.agg [.int .i64 0, .str ByteArray.empty, .sl (some 1) [], .str ByteArray.empty, .int .i64 0, .int .i64 0]) := by kernel_rfl
@[go_sem] theorem cellsOf61 : Tryz.prog.cellsOf 61 = 6 := by kernel_rfl
@[go_sem] theorem bytesOf61 : Tryz.prog.bytesOf 61 = 80 := by kernel_rfl
@[go_sem] theorem ldk61 : ldk Tryz.prog 61 = some (some 6) := by kernel_rfl
@[go_sem] theorem aggTy61 : aggTy Tryz.prog 61 = true := by kernel_rfl
@[go_sem] theorem zeroOk61 : zeroOk Tryz.prog 61 = true := by kernel_rfl
@[go_sem] theorem info61 : (Tryz.prog.info? 61).isSome = true := by kernel_rfl
@[go_sem] theorem bkind61 : bkind Tryz.prog 61 = .struct [(0, 1), (1, 1), (2, 1), (3, 1), (4, 1), (5, 1)] := by kernel_rfl
@[go_sem] theorem fplace61_0 : fplace Tryz.prog 61 0 = some (3, 0) := by kernel_rfl
@[go_sem] theorem fplace61_1 : fplace Tryz.prog 61 1 = some (9, 1) := by kernel_rfl
@[go_sem] theorem fplace61_2 : fplace Tryz.prog 61 2 = some (59, 2) := by kernel_rfl
@[go_sem] theorem fplace61_3 : fplace Tryz.prog 61 3 = some (9, 3) := by kernel_rfl
@[go_sem] theorem fplace61_4 : fplace Tryz.prog 61 4 = some (3, 4) := by kernel_rfl
@[go_sem] theorem fplace61_5 : fplace Tryz.prog 61 5 = some (3, 5) := by kernel_rfl
@[go_sem] theorem cellsOf62 : Tryz.prog.cellsOf 62 = 15 := by kernel_rfl
@[go_sem] theorem bytesOf62 : Tryz.prog.bytesOf 62 = 200 := by kernel_rfl
@[go_sem] theorem ldk62 : ldk Tryz.prog 62 = some (some 15) := by kernel_rfl
@[go_sem] theorem aggTy62 : aggTy Tryz.prog 62 = true := by kernel_rfl
@[go_sem] theorem zeroOk62 : zeroOk Tryz.prog 62 = true := by kernel_rfl
@[go_sem] theorem info62 : (Tryz.prog.info? 62).isSome = true := by kernel_rfl
@[go_sem] theorem bkind62 : bkind Tryz.prog 62 = .struct [(0, 9), (9, 6)] := by kernel_rfl
@[go_sem] theorem fplace62_0 : fplace Tryz.prog 62 0 = some (58, 0) := by kernel_rfl
@[go_sem] theorem fplace62_1 : fplace Tryz.prog 62 1 = some (61, 9) := by kernel_rfl
@[go_sem] theorem zeroAV62 : zeroAV Tryz.prog 62 = some (.agg [.int .i64 0, .int .i64 0, .str ByteArray.empty, .int .i64 0, .int .i64 0, .sl (some 5) [], .str ByteArray.empty, .int .i64 0, .sl (some 9) [], .int .i64 0, .str ByteArray.empty, .sl (some 1) [], .str ByteArray.empty, .int .i64 0, .int .i64 0]) := by kernel_rfl
@[go_sem] theorem cellsOf63 : Tryz.prog.cellsOf 63 = 15 := by kernel_rfl
@[go_sem] theorem bytesOf63 : Tryz.prog.bytesOf 63 = 200 := by kernel_rfl
@[go_sem] theorem ldk63 : ldk Tryz.prog 63 = some (some 15) := by kernel_rfl
@[go_sem] theorem aggTy63 : aggTy Tryz.prog 63 = true := by kernel_rfl
@[go_sem] theorem zeroOk63 : zeroOk Tryz.prog 63 = true := by kernel_rfl
@[go_sem] theorem info63 : (Tryz.prog.info? 63).isSome = true := by kernel_rfl
@[go_sem] theorem bkind63 : bkind Tryz.prog 63 = .struct [(0, 9), (9, 6)] := by kernel_rfl
@[go_sem] theorem fplace63_0 : fplace Tryz.prog 63 0 = some (58, 0) := by kernel_rfl
@[go_sem] theorem fplace63_1 : fplace Tryz.prog 63 1 = some (61, 9) := by kernel_rfl
@[go_sem] theorem cellsOf78 : Tryz.prog.cellsOf 78 = 1 := by kernel_rfl
@[go_sem] theorem bytesOf78 : Tryz.prog.bytesOf 78 = 24 := by kernel_rfl
@[go_sem] theorem ldk78 : ldk Tryz.prog 78 = some none := by kernel_rfl
@[go_sem] theorem aggTy78 : aggTy Tryz.prog 78 = false := by kernel_rfl
@[go_sem] theorem und78 : Tryz.prog.underlying 78 = some (.slice 47) := by kernel_rfl
@[go_sem] theorem isSl78 : isSl Tryz.prog 78 = true := by kernel_rfl
@[go_sem] theorem zeroOk78 : zeroOk Tryz.prog 78 = true := by kernel_rfl
@[go_sem] theorem info78 : (Tryz.prog.info? 78).isSome = true := by kernel_rfl
@[go_sem] theorem zeroAV78 : zeroAV Tryz.prog 78 = some (.sl (some 10) []) := by kernel_rfl
@[go_sem] theorem cellsOf87 : Tryz.prog.cellsOf 87 = 2 := by kernel_rfl
@[go_sem] theorem bytesOf87 : Tryz.prog.bytesOf 87 = 16 := by kernel_rfl
@[go_sem] theorem ldk87 : ldk Tryz.prog 87 = some (some 2) := by kernel_rfl
@[go_sem] theorem aggTy87 : aggTy Tryz.prog 87 = true := by kernel_rfl
@[go_sem] theorem zeroOk87 : zeroOk Tryz.prog 87 = true := by kernel_rfl
@[go_sem] theorem info87 : (Tryz.prog.info? 87).isSome = true := by kernel_rfl
@[go_sem] theorem bkind87 : bkind Tryz.prog 87 = .struct [(0, 1), (1, 1)] := by kernel_rfl
@[go_sem] theorem fplace87_0 : fplace Tryz.prog 87 0 = some (3, 0) := by kernel_rfl
@[go_sem] theorem fplace87_1 : fplace Tryz.prog 87 1 = some (3, 1) := by kernel_rfl
@[go_sem] theorem zeroAV87 : zeroAV Tryz.prog 87 = some (.agg [.int .i64 0, .int .i64 0]) := by kernel_rfl
@[go_sem] theorem cellsOf88 : Tryz.prog.cellsOf 88 = 2 := by kernel_rfl
@[go_sem] theorem bytesOf88 : Tryz.prog.bytesOf 88 = 16 := by kernel_rfl
@[go_sem] theorem ldk88 : ldk Tryz.prog 88 = some (some 2) := by kernel_rfl
@[go_sem] theorem aggTy88 : aggTy Tryz.prog 88 = true := by kernel_rfl
@[go_sem] theorem zeroOk88 : zeroOk Tryz.prog 88 = true := by kernel_rfl
@[go_sem] theorem info88 : (Tryz.prog.info? 88).isSome = true := by kernel_rfl
@[go_sem] theorem bkind88 : bkind Tryz.prog 88 = .struct [(0, 1), (1, 1)] := by kernel_rfl
@[go_sem] theorem fplace88_0 : fplace Tryz.prog 88 0 = some (3, 0) := by kernel_rfl
@[go_sem] theorem fplace88_1 : fplace Tryz.prog 88 1 = some (3, 1) := by kernel_rfl
@[go_sem] theorem cellsOf97 : Tryz.prog.cellsOf 97 = 1 := by kernel_rfl
@[go_sem] theorem bytesOf97 : Tryz.prog.bytesOf 97 = 24 := by kernel_rfl
@[go_sem] theorem ldk97 : ldk Tryz.prog 97 = some none := by kernel_rfl
@[go_sem] theorem aggTy97 : aggTy Tryz.prog 97 = false := by kernel_rfl
@[go_sem] theorem und97 : Tryz.prog.underlying 97 = some (.slice 99) := by kernel_rfl
@[go_sem] theorem isSl97 : isSl Tryz.prog 97 = true := by kernel_rfl
@[go_sem] theorem zeroOk97 : zeroOk Tryz.prog 97 = true := by kernel_rfl
@[go_sem] theorem info97 : (Tryz.prog.info? 97).isSome = true := by kernel_rfl
@[go_sem] theorem zeroAV97 : zeroAV Tryz.prog 97 = some (.sl (some 3) []) := by kernel_rfl
@[go_sem] theorem cellsOf98 : Tryz.prog.cellsOf 98 = 3 := by kernel_rfl
@[go_sem] theorem bytesOf98 : Tryz.prog.bytesOf 98 = 48 := by kernel_rfl
@[go_sem] theorem ldk98 : ldk Tryz.prog 98 = some (some 3) := by kernel_rfl
@[go_sem] theorem aggTy98 : aggTy Tryz.prog 98 = true := by kernel_rfl
@[go_sem] theorem zeroOk98 : zeroOk Tryz.prog 98 = true := by kernel_rfl
@[go_sem] theorem info98 : (Tryz.prog.info? 98).isSome = true := by kernel_rfl
@[go_sem] theorem bkind98 : bkind Tryz.prog 98 = .struct [(0, 1), (1, 1), (2, 1)] := by kernel_rfl
@[go_sem] theorem fplace98_0 : fplace Tryz.prog 98 0 = some (3, 0) := by kernel_rfl
@[go_sem] theorem fplace98_1 : fplace Tryz.prog 98 1 = some (9, 1) := by kernel_rfl
@[go_sem] theorem fplace98_2 : fplace Tryz.prog 98 2 = some (97, 2) := by kernel_rfl
@[go_sem] theorem zeroAV98 : zeroAV Tryz.prog 98 = some (.agg [.int .i64 0, .str ByteArray.empty, .sl (some 3) []]) := by kernel_rfl
@[go_sem] theorem cellsOf99 : Tryz.prog.cellsOf 99 = 3 := by kernel_rfl
@[go_sem] theorem bytesOf99 : Tryz.prog.bytesOf 99 = 48 := by kernel_rfl
@[go_sem] theorem ldk99 : ldk Tryz.prog 99 = some (some 3) := by kernel_rfl
@[go_sem] theorem aggTy99 : aggTy Tryz.prog 99 = true := by kernel_rfl
@[go_sem] theorem zeroOk99 : zeroOk Tryz.prog 99 = true := by kernel_rfl
@[go_sem] theorem info99 : (Tryz.prog.info? 99).isSome = true := by kernel_rfl
@[go_sem] theorem bkind99 : bkind Tryz.prog 99 = .struct [(0, 1), (1, 1), (2, 1)] := by kernel_rfl
@[go_sem] theorem fplace99_0 : fplace Tryz.prog 99 0 = some (3, 0) := by kernel_rfl
@[go_sem] theorem fplace99_1 : fplace Tryz.prog 99 1 = some (9, 1) := by kernel_rfl
@[go_sem] theorem fplace99_2 : fplace Tryz.prog 99 2 = some (97, 2) := by kernel_rfl
@[go_sem] theorem cellsOf100 : Tryz.prog.cellsOf 100 = 8 := by kernel_rfl
@[go_sem] theorem bytesOf100 : Tryz.prog.bytesOf 100 = 112 := by kernel_rfl
@[go_sem] theorem ldk100 : ldk Tryz.prog 100 = some (some 8) := by kernel_rfl
@[go_sem] theorem aggTy100 : aggTy Tryz.prog 100 = true := by kernel_rfl
@[go_sem] theorem zeroOk100 : zeroOk Tryz.prog 100 = true := by kernel_rfl
@[go_sem] theorem info100 : (Tryz.prog.info? 100).isSome = true := by kernel_rfl
@[go_sem] theorem bkind100 : bkind Tryz.prog 100 = .struct [(0, 5), (5, 3)] := by kernel_rfl
@[go_sem] theorem fplace100_0 : fplace Tryz.prog 100 0 = some (55, 0) := by kernel_rfl
@[go_sem] theorem fplace100_1 : fplace Tryz.prog 100 1 = some (99, 5) := by kernel_rfl
@[go_sem] theorem zeroAV100 : zeroAV Tryz.prog 100 = some (.agg [.int .i64 0, .str ByteArray.empty, .int .i64 0, .int .i64 0, .sl (some 5) [], .int .i64 0, .str ByteArray.empty, .sl (some 3) []]) := by kernel_rfl
@[go_sem] theorem cellsOf101 : Tryz.prog.cellsOf 101 = 8 := by kernel_rfl
@[go_sem] theorem bytesOf101 : Tryz.prog.bytesOf 101 = 112 := by kernel_rfl
@[go_sem] theorem ldk101 : ldk Tryz.prog 101 = some (some 8) := by kernel_rfl
@[go_sem] theorem aggTy101 : aggTy Tryz.prog 101 = true := by kernel_rfl
@[go_sem] theorem zeroOk101 : zeroOk Tryz.prog 101 = true := by kernel_rfl
@[go_sem] theorem info101 : (Tryz.prog.info? 101).isSome = true := by kernel_rfl
@[go_sem] theorem bkind101 : bkind Tryz.prog 101 = .struct [(0, 5), (5, 3)] := by kernel_rfl
@[go_sem] theorem fplace101_0 : fplace Tryz.prog 101 0 = some (55, 0) := by kernel_rfl
@[go_sem] theorem fplace101_1 : fplace Tryz.prog 101 1 = some (99, 5) := by kernel_rfl
@[go_sem] theorem cellsOf102 : Tryz.prog.cellsOf 102 = 1 := by kernel_rfl
@[go_sem] theorem bytesOf102 : Tryz.prog.bytesOf 102 = 8 := by kernel_rfl
@[go_sem] theorem ldk102 : ldk Tryz.prog 102 = some none := by kernel_rfl
@[go_sem] theorem aggTy102 : aggTy Tryz.prog 102 = false := by kernel_rfl
@[go_sem] theorem zeroOk102 : zeroOk Tryz.prog 102 = true := by kernel_rfl
@[go_sem] theorem info102 : (Tryz.prog.info? 102).isSome = true := by kernel_rfl
@[go_sem] theorem zeroAV102 : zeroAV Tryz.prog 102 = some (.nilf) := by kernel_rfl
@[go_sem] theorem cellsOf103 : Tryz.prog.cellsOf 103 = 1 := by kernel_rfl
@[go_sem] theorem bytesOf103 : Tryz.prog.bytesOf 103 = 8 := by kernel_rfl
@[go_sem] theorem ldk103 : ldk Tryz.prog 103 = some none := by kernel_rfl
@[go_sem] theorem aggTy103 : aggTy Tryz.prog 103 = false := by kernel_rfl
@[go_sem] theorem zeroOk103 : zeroOk Tryz.prog 103 = true := by kernel_rfl
@[go_sem] theorem info103 : (Tryz.prog.info? 103).isSome = true := by kernel_rfl
@[go_sem] theorem zeroAV103 : zeroAV Tryz.prog 103 = some (.nilf) := by kernel_rfl
@[go_sem] theorem cellsOf104 : Tryz.prog.cellsOf 104 = 1 := by kernel_rfl
@[go_sem] theorem bytesOf104 : Tryz.prog.bytesOf 104 = 8 := by kernel_rfl
@[go_sem] theorem ldk104 : ldk Tryz.prog 104 = some none := by kernel_rfl
@[go_sem] theorem aggTy104 : aggTy Tryz.prog 104 = false := by kernel_rfl
@[go_sem] theorem zeroOk104 : zeroOk Tryz.prog 104 = true := by kernel_rfl
@[go_sem] theorem info104 : (Tryz.prog.info? 104).isSome = true := by kernel_rfl
@[go_sem] theorem zeroAV104 : zeroAV Tryz.prog 104 = some (.nilf) := by kernel_rfl
@[go_sem] theorem cellsOf105 : Tryz.prog.cellsOf 105 = 1 := by kernel_rfl
@[go_sem] theorem bytesOf105 : Tryz.prog.bytesOf 105 = 8 := by kernel_rfl
@[go_sem] theorem ldk105 : ldk Tryz.prog 105 = some none := by kernel_rfl
@[go_sem] theorem aggTy105 : aggTy Tryz.prog 105 = false := by kernel_rfl
@[go_sem] theorem zeroOk105 : zeroOk Tryz.prog 105 = true := by kernel_rfl
@[go_sem] theorem info105 : (Tryz.prog.info? 105).isSome = true := by kernel_rfl
@[go_sem] theorem zeroAV105 : zeroAV Tryz.prog 105 = some (.nilf) := by kernel_rfl
@[go_sem] theorem cellsOf106 : Tryz.prog.cellsOf 106 = 4 := by kernel_rfl
@[go_sem] theorem bytesOf106 : Tryz.prog.bytesOf 106 = 32 := by kernel_rfl
@[go_sem] theorem ldk106 : ldk Tryz.prog 106 = some (some 4) := by kernel_rfl
@[go_sem] theorem aggTy106 : aggTy Tryz.prog 106 = true := by kernel_rfl
@[go_sem] theorem zeroOk106 : zeroOk Tryz.prog 106 = true := by kernel_rfl
@[go_sem] theorem info106 : (Tryz.prog.info? 106).isSome = true := by kernel_rfl
@[go_sem] theorem bkind106 : bkind Tryz.prog 106 = .struct [(0, 1), (1, 1), (2, 1), (3, 1)] := by kernel_rfl
@[go_sem] theorem fplace106_0 : fplace Tryz.prog 106 0 = some (3, 0) := by kernel_rfl
@[go_sem] theorem fplace106_1 : fplace Tryz.prog 106 1 = some (3, 1) := by kernel_rfl
@[go_sem] theorem fplace106_2 : fplace Tryz.prog 106 2 = some (3, 2) := by kernel_rfl
@[go_sem] theorem fplace106_3 : fplace Tryz.prog 106 3 = some (3, 3) := by kernel_rfl
@[go_sem] theorem zeroAV106 : zeroAV Tryz.prog 106 = some (.agg [.int .i64 0, .int .i64 0, .int .i64 0, .int .i64 0]) := by kernel_rfl
@[go_sem] theorem cellsOf107 : Tryz.prog.cellsOf 107 = 4 := by kernel_rfl
@[go_sem] theorem bytesOf107 : Tryz.prog.bytesOf 107 = 32 := by kernel_rfl
@[go_sem] theorem ldk107 : ldk Tryz.prog 107 = some (some 4) := by kernel_rfl
@[go_sem] theorem aggTy107 : aggTy Tryz.prog 107 = true := by kernel_rfl
@[go_sem] theorem zeroOk107 : zeroOk Tryz.prog 107 = true := by kernel_rfl
@[go_sem] theorem info107 : (Tryz.prog.info? 107).isSome = true := by kernel_rfl
@[go_sem] theorem bkind107 : bkind Tryz.prog 107 = .struct [(0, 1), (1, 1), (2, 1), (3, 1)] := by kernel_rfl
@[go_sem] theorem fplace107_0 : fplace Tryz.prog 107 0 = some (3, 0) := by kernel_rfl
@[go_sem] theorem fplace107_1 : fplace Tryz.prog 107 1 = some (3, 1) := by kernel_rfl
@[go_sem] theorem fplace107_2 : fplace Tryz.prog 107 2 = some (3, 2) := by kernel_rfl
@[go_sem] theorem fplace107_3 : fplace Tryz.prog 107 3 = some (3, 3) := by kernel_rfl
@[go_sem] theorem cellsOf108 : Tryz.prog.cellsOf 108 = 1 := by kernel_rfl
@[go_sem] theorem bytesOf108 : Tryz.prog.bytesOf 108 = 8 := by kernel_rfl
@[go_sem] theorem ldk108 : ldk Tryz.prog 108 = some none := by kernel_rfl
@[go_sem] theorem aggTy108 : aggTy Tryz.prog 108 = false := by kernel_rfl
@[go_sem] theorem zeroOk108 : zeroOk Tryz.prog 108 = true := by kernel_rfl
@[go_sem] theorem info108 : (Tryz.prog.info? 108).isSome = true := by kernel_rfl
@[go_sem] theorem zeroAV108 : zeroAV Tryz.prog 108 = some (.nilf) := by kernel_rfl
@[go_sem] theorem cellsOf109 : Tryz.prog.cellsOf 109 = 1 := by kernel_rfl
@[go_sem] theorem bytesOf109 : Tryz.prog.bytesOf 109 = 8 := by kernel_rfl
@[go_sem] theorem ldk109 : ldk Tryz.prog 109 = some none := by kernel_rfl
@[go_sem] theorem aggTy109 : aggTy Tryz.prog 109 = false := by kernel_rfl
@[go_sem] theorem zeroOk109 : zeroOk Tryz.prog 109 = true := by kernel_rfl
@[go_sem] theorem info109 : (Tryz.prog.info? 109).isSome = true := by kernel_rfl
@[go_sem] theorem zeroAV109 : zeroAV Tryz.prog 109 = some (.nilf) := by kernel_rfl
@[go_sem] theorem cellsOf110 : Tryz.prog.cellsOf 110 = 1 := by kernel_rfl
@[go_sem] theorem bytesOf110 : Tryz.prog.bytesOf 110 = 8 := by kernel_rfl
@[go_sem] theorem ldk110 : ldk Tryz.prog 110 = some none := by kernel_rfl
@[go_sem] theorem aggTy110 : aggTy Tryz.prog 110 = false := by kernel_rfl
@[go_sem] theorem zeroOk110 : zeroOk Tryz.prog 110 = true := by kernel_rfl
@[go_sem] theorem info110 : (Tryz.prog.info? 110).isSome = true := by kernel_rfl
@[go_sem] theorem zeroAV110 : zeroAV Tryz.prog 110 = some (.nilf) := by kernel_rfl
@[go_sem] theorem cellsOf111 : Tryz.prog.cellsOf 111 = 2 := by kernel_rfl
@[go_sem] theorem bytesOf111 : Tryz.prog.bytesOf 111 = 16 := by kernel_rfl
@[go_sem] theorem ldk111 : ldk Tryz.prog 111 = some (some 2) := by kernel_rfl
@[go_sem] theorem aggTy111 : aggTy Tryz.prog 111 = true := by kernel_rfl
@[go_sem] theorem und111 : Tryz.prog.underlying 111 = some (.array 2 3) := by kernel_rfl
@[go_sem] theorem zeroOk111 : zeroOk Tryz.prog 111 = true := by kernel_rfl
@[go_sem] theorem info111 : (Tryz.prog.info? 111).isSome = true := by kernel_rfl
@[go_sem] theorem bkind111 : bkind Tryz.prog 111 = .array 1 := by kernel_rfl
@[go_sem] theorem zeroAV111 : zeroAV Tryz.prog 111 = some (.agg [.int .i64 0, .int .i64 0]) := by kernel_rfl
@[go_sem] theorem cellsOf112 : Tryz.prog.cellsOf 112 = 1 := by kernel_rfl
@[go_sem] theorem bytesOf112 : Tryz.prog.bytesOf 112 = 8 := by kernel_rfl
@[go_sem] theorem ldk112 : ldk Tryz.prog 112 = some none := by kernel_rfl
@[go_sem] theorem aggTy112 : aggTy Tryz.prog 112 = false := by kernel_rfl
@[go_sem] theorem zeroOk112 : zeroOk Tryz.prog 112 = true := by kernel_rfl
@[go_sem] theorem info112 : (Tryz.prog.info? 112).isSome = true := by kernel_rfl
@[go_sem] theorem zeroAV112 : zeroAV Tryz.prog 112 = some (.nilf) := by kernel_rfl
@[go_sem] theorem cellsOf113 : Tryz.prog.cellsOf 113 = 2 := by kernel_rfl
@[go_sem] theorem bytesOf113 : Tryz.prog.bytesOf 113 = 24 := by kernel_rfl
@[go_sem] theorem ldk113 : ldk Tryz.prog 113 = some (some 2) := by kernel_rfl
@[go_sem] theorem aggTy113 : aggTy Tryz.prog 113 = true := by kernel_rfl
@[go_sem] theorem zeroOk113 : zeroOk Tryz.prog 113 = true := by kernel_rfl
@[go_sem] theorem info113 : (Tryz.prog.info? 113).isSome = true := by kernel_rfl
@[go_sem] theorem bkind113 : bkind Tryz.prog 113 = .struct [(0, 1), (1, 1)] := by kernel_rfl
@[go_sem] theorem fplace113_0 : fplace Tryz.prog 113 0 = some (9, 0) := by kernel_rfl
@[go_sem] theorem fplace113_1 : fplace Tryz.prog 113 1 = some (3, 1) := by kernel_rfl
@[go_sem] theorem zeroAV113 : zeroAV Tryz.prog 113 = some (.agg [.str ByteArray.empty, .int .i64 0]) := by kernel_rfl
@[go_sem] theorem cellsOf114 : Tryz.prog.cellsOf 114 = 2 := by kernel_rfl
@[go_sem] theorem bytesOf114 : Tryz.prog.bytesOf 114 = 24 := by kernel_rfl
@[go_sem] theorem ldk114 : ldk Tryz.prog 114 = some (some 2) := by kernel_rfl
@[go_sem] theorem aggTy114 : aggTy Tryz.prog 114 = true := by kernel_rfl
@[go_sem] theorem zeroOk114 : zeroOk Tryz.prog 114 = true := by kernel_rfl
@[go_sem] theorem info114 : (Tryz.prog.info? 114).isSome = true := by kernel_rfl
@[go_sem] theorem bkind114 : bkind Tryz.prog 114 = .struct [(0, 1), (1, 1)] := by kernel_rfl
@[go_sem] theorem fplace114_0 : fplace Tryz.prog 114 0 = some (9, 0) := by kernel_rfl
@[go_sem] theorem fplace114_1 : fplace Tryz.prog 114 1 = some (3, 1) := by kernel_rfl
@[go_sem] theorem cellsOf115 : Tryz.prog.cellsOf 115 = 1 := by kernel_rfl
@[go_sem] theorem bytesOf115 : Tryz.prog.bytesOf 115 = 8 := by kernel_rfl
@[go_sem] theorem ldk115 : ldk Tryz.prog 115 = some none := by kernel_rfl
@[go_sem] theorem aggTy115 : aggTy Tryz.prog 115 = false := by kernel_rfl
@[go_sem] theorem zeroOk115 : zeroOk Tryz.prog 115 = true := by kernel_rfl
@[go_sem] theorem info115 : (Tryz.prog.info? 115).isSome = true := by kernel_rfl
@[go_sem] theorem zeroAV115 : zeroAV Tryz.prog 115 = some (.nilf) := by kernel_rfl
@[go_sem] theorem cellsOf116 : Tryz.prog.cellsOf 116 = 1 := by kernel_rfl
@[go_sem] theorem bytesOf116 : Tryz.prog.bytesOf 116 = 8 := by kernel_rfl
@[go_sem] theorem ldk116 : ldk Tryz.prog 116 = some none := by kernel_rfl
@[go_sem] theorem aggTy116 : aggTy Tryz.prog 116 = false := by kernel_rfl
@[go_sem] theorem zeroOk116 : zeroOk Tryz.prog 116 = true := by kernel_rfl
@[go_sem] theorem info116 : (Tryz.prog.info? 116).isSome = true := by kernel_rfl
@[go_sem] theorem zeroAV116 : zeroAV Tryz.prog 116 = some (.nilf) := by kernel_rfl
@[go_sem] theorem cellsOf117 : Tryz.prog.cellsOf 117 = 1 := by kernel_rfl
@[go_sem] theorem bytesOf117 : Tryz.prog.bytesOf 117 = 8 := by kernel_rfl
@[go_sem] theorem ldk117 : ldk Tryz.prog 117 = some none := by kernel_rfl
@[go_sem] theorem aggTy117 : aggTy Tryz.prog 117 = false := by kernel_rfl
@[go_sem] theorem zeroOk117 : zeroOk Tryz.prog 117 = true := by kernel_rfl
@[go_sem] theorem info117 : (Tryz.prog.info? 117).isSome = true := by kernel_rfl
@[go_sem] theorem zeroAV117 : zeroAV Tryz.prog 117 = some (.nilf) := by kernel_rfl
@[go_sem] theorem cellsOf118 : Tryz.prog.cellsOf 118 = 1 := by kernel_rfl
@[go_sem] theorem bytesOf118 : Tryz.prog.bytesOf 118 = 8 := by kernel_rfl
@[go_sem] theorem ldk118 : ldk Tryz.prog 118 = some none := by kernel_rfl
@[go_sem] theorem aggTy118 : aggTy Tryz.prog 118 = false := by kernel_rfl
@[go_sem] theorem zeroOk118 : zeroOk Tryz.prog 118 = true := by kernel_rfl
@[go_sem] theorem info118 : (Tryz.prog.info? 118).isSome = true := by kernel_rfl
@[go_sem] theorem zeroAV118 : zeroAV Tryz.prog 118 = some (.nilf) := by kernel_rfl
@[go_sem] theorem cellsOf119 : Tryz.prog.cellsOf 119 = 1 := by kernel_rfl
@[go_sem] theorem bytesOf119 : Tryz.prog.bytesOf 119 = 8 := by kernel_rfl
@[go_sem] theorem ldk119 : ldk Tryz.prog 119 = some none := by kernel_rfl
@[go_sem] theorem aggTy119 : aggTy Tryz.prog 119 = false := by kernel_rfl
@[go_sem] theorem zeroOk119 : zeroOk Tryz.prog 119 = true := by kernel_rfl
@[go_sem] theorem info119 : (Tryz.prog.info? 119).isSome = true := by kernel_rfl
@[go_sem] theorem zeroAV119 : zeroAV Tryz.prog 119 = some (.nilf) := by kernel_rfl
@[go_sem] theorem cellsOf120 : Tryz.prog.cellsOf 120 = 1 := by kernel_rfl
@[go_sem] theorem bytesOf120 : Tryz.prog.bytesOf 120 = 8 := by kernel_rfl
@[go_sem] theorem ldk120 : ldk Tryz.prog 120 = some none := by kernel_rfl
@[go_sem] theorem aggTy120 : aggTy Tryz.prog 120 = false := by kernel_rfl
@[go_sem] theorem zeroOk120 : zeroOk Tryz.prog 120 = true := by kernel_rfl
@[go_sem] theorem info120 : (Tryz.prog.info? 120).isSome = true := by kernel_rfl
@[go_sem] theorem zeroAV120 : zeroAV Tryz.prog 120 = some (.nilf) := by kernel_rfl
@[go_sem] theorem cellsOf121 : Tryz.prog.cellsOf 121 = 1 := by kernel_rfl
@[go_sem] theorem bytesOf121 : Tryz.prog.bytesOf 121 = 24 := by kernel_rfl
@[go_sem] theorem ldk121 : ldk Tryz.prog 121 = some none := by kernel_rfl
@[go_sem] theorem aggTy121 : aggTy Tryz.prog 121 = false := by kernel_rfl
@[go_sem] theorem und121 : Tryz.prog.underlying 121 = some (.slice 3) := by kernel_rfl
@[go_sem] theorem isSl121 : isSl Tryz.prog 121 = true := by kernel_rfl
@[go_sem] theorem zeroOk121 : zeroOk Tryz.prog 121 = true := by kernel_rfl
@[go_sem] theorem info121 : (Tryz.prog.info? 121).isSome = true := by kernel_rfl
@[go_sem] theorem zeroAV121 : zeroAV Tryz.prog 121 = some (.sl (some 1) []) := by kernel_rfl
@[go_sem] theorem cellsOf140 : Tryz.prog.cellsOf 140 = 2 := by kernel_rfl
@[go_sem] theorem bytesOf140 : Tryz.prog.bytesOf 140 = 16 := by kernel_rfl
@[go_sem] theorem ldk140 : ldk Tryz.prog 140 = some (some 2) := by kernel_rfl
@[go_sem] theorem aggTy140 : aggTy Tryz.prog 140 = true := by kernel_rfl
@[go_sem] theorem zeroOk140 : zeroOk Tryz.prog 140 = true := by kernel_rfl
@[go_sem] theorem info140 : (Tryz.prog.info? 140).isSome = true := by kernel_rfl
@[go_sem] theorem bkind140 : bkind Tryz.prog 140 = .struct [(0, 1), (1, 1)] := by kernel_rfl
@[go_sem] theorem fplace140_0 : fplace Tryz.prog 140 0 = some (3, 0) := by kernel_rfl
@[go_sem] theorem fplace140_1 : fplace Tryz.prog 140 1 = some (3, 1) := by kernel_rfl
@[go_sem] theorem zeroAV140 : zeroAV Tryz.prog 140 = some (.agg [.int .i64 0, .int .i64 0]) := by kernel_rfl
@[go_sem] theorem cellsOf141 : Tryz.prog.cellsOf 141 = 2 := by kernel_rfl
@[go_sem] theorem bytesOf141 : Tryz.prog.bytesOf 141 = 16 := by kernel_rfl
@[go_sem] theorem ldk141 : ldk Tryz.prog 141 = some (some 2) := by kernel_rfl
@[go_sem] theorem aggTy141 : aggTy Tryz.prog 141 = true := by kernel_rfl
@[go_sem] theorem zeroOk141 : zeroOk Tryz.prog 141 = true := by kernel_rfl
@[go_sem] theorem info141 : (Tryz.prog.info? 141).isSome = true := by kernel_rfl
@[go_sem] theorem bkind141 : bkind Tryz.prog 141 = .struct [(0, 1), (1, 1)] := by kernel_rfl
@[go_sem] theorem fplace141_0 : fplace Tryz.prog 141 0 = some (3, 0) := by kernel_rfl
@[go_sem] theorem fplace141_1 : fplace Tryz.prog 141 1 = some (3, 1) := by kernel_rfl
@[go_sem] theorem cellsOf144 : Tryz.prog.cellsOf 144 = 3 := by kernel_rfl
@[go_sem] theorem bytesOf144 : Tryz.prog.bytesOf 144 = 32 := by kernel_rfl
@[go_sem] theorem ldk144 : ldk Tryz.prog 144 = some (some 3) := by kernel_rfl
@[go_sem] theorem aggTy144 : aggTy Tryz.prog 144 = true := by kernel_rfl
@[go_sem] theorem zeroOk144 : zeroOk Tryz.prog 144 = true := by kernel_rfl
@[go_sem] theorem info144 : (Tryz.prog.info? 144).isSome = true := by kernel_rfl
@[go_sem] theorem bkind144 : bkind Tryz.prog 144 = .struct [(0, 1), (1, 1), (2, 1)] := by kernel_rfl
@[go_sem] theorem fplace144_0 : fplace Tryz.prog 144 0 = some (9, 0) := by kernel_rfl
@[go_sem] theorem fplace144_1 : fplace Tryz.prog 144 1 = some (3, 1) := by kernel_rfl
@[go_sem] theorem fplace144_2 : fplace Tryz.prog 144 2 = some (3, 2) := by kernel_rfl
@[go_sem] theorem zeroAV144 : zeroAV Tryz.prog 144 = some (.agg [.str ByteArray.empty, .int .i64 0, .int .i64 0]) := by kernel_rfl
@[go_sem] theorem cellsOf145 : Tryz.prog.cellsOf 145 = 3 := by kernel_rfl
@[go_sem] theorem bytesOf145 : Tryz.prog.bytesOf 145 = 32 := by kernel_rfl
@[go_sem] theorem ldk145 : ldk Tryz.prog 145 = some (some 3) := by kernel_rfl
@[go_sem] theorem aggTy145 : aggTy Tryz.prog 145 = true := by kernel_rfl
@[go_sem] theorem zeroOk145 : zeroOk Tryz.prog 145 = true := by kernel_rfl
@[go_sem] theorem info145 : (Tryz.prog.info? 145).isSome = true := by kernel_rfl
@[go_sem] theorem bkind145 : bkind Tryz.prog 145 = .struct [(0, 1), (1, 1), (2, 1)] := by kernel_rfl
@[go_sem] theorem fplace145_0 : fplace Tryz.prog 145 0 = some (9, 0) := by kernel_rfl
@[go_sem] theorem fplace145_1 : fplace Tryz.prog 145 1 = some (3, 1) := by kernel_rfl
@[go_sem] theorem fplace145_2 : fplace Tryz.prog 145 2 = some (3, 2) := by kernel_rfl
@[go_sem] theorem cellsOf152 : Tryz.prog.cellsOf 152 = 1 := by kernel_rfl
@[go_sem] theorem bytesOf152 : Tryz.prog.bytesOf 152 = 0 := by kernel_rfl
@[go_sem] theorem ldk152 : ldk Tryz.prog 152 = some none := by kernel_rfl
@[go_sem] theorem aggTy152 : aggTy Tryz.prog 152 = false := by kernel_rfl
@[go_sem] theorem zeroOk152 : zeroOk Tryz.prog 152 = true := by kernel_rfl
@[go_sem] theorem info152 : (Tryz.prog.info? 152).isSome = true := by kernel_rfl
@[go_sem] theorem cellsOf170 : Tryz.prog.cellsOf 170 = 4 := by kernel_rfl
@[go_sem] theorem bytesOf170 : Tryz.prog.bytesOf 170 = 40 := by kernel_rfl
@[go_sem] theorem ldk170 : ldk Tryz.prog 170 = some (some 4) := by kernel_rfl
@[go_sem] theorem aggTy170 : aggTy Tryz.prog 170 = true := by kernel_rfl
@[go_sem] theorem zeroOk170 : zeroOk Tryz.prog 170 = true := by kernel_rfl
@[go_sem] theorem info170 : (Tryz.prog.info? 170).isSome = true := by kernel_rfl
@[go_sem] theorem bkind170 : bkind Tryz.prog 170 = .struct [(0, 1), (1, 1), (2, 1), (3, 1)] := by kernel_rfl
@[go_sem] theorem fplace170_0 : fplace Tryz.prog 170 0 = some (9, 0) := by kernel_rfl
@[go_sem] theorem fplace170_1 : fplace Tryz.prog 170 1 = some (4, 1) := by kernel_rfl
@[go_sem] theorem fplace170_2 : fplace Tryz.prog 170 2 = some (3, 2) := by kernel_rfl
@[go_sem] theorem fplace170_3 : fplace Tryz.prog 170 3 = some (3, 3) := by kernel_rfl
@[go_sem] theorem zeroAV170 : zeroAV Tryz.prog 170 = some (.agg [.str ByteArray.empty, .bool false, .int .i64 0, .int .i64 0]) := by kernel_rfl
@[go_sem] theorem cellsOf171 : Tryz.prog.cellsOf 171 = 4 := by kernel_rfl
@[go_sem] theorem bytesOf171 : Tryz.prog.bytesOf 171 = 40 := by kernel_rfl
@[go_sem] theorem ldk171 : ldk Tryz.prog 171 = some (some 4) := by kernel_rfl
@[go_sem] theorem aggTy171 : aggTy Tryz.prog 171 = true := by kernel_rfl
@[go_sem] theorem zeroOk171 : zeroOk Tryz.prog 171 = true := by kernel_rfl
@[go_sem] theorem info171 : (Tryz.prog.info? 171).isSome = true := by kernel_rfl
@[go_sem] theorem bkind171 : bkind Tryz.prog 171 = .struct [(0, 1), (1, 1), (2, 1), (3, 1)] := by kernel_rfl
@[go_sem] theorem fplace171_0 : fplace Tryz.prog 171 0 = some (9, 0) := by kernel_rfl
@[go_sem] theorem fplace171_1 : fplace Tryz.prog 171 1 = some (4, 1) := by kernel_rfl
@[go_sem] theorem fplace171_2 : fplace Tryz.prog 171 2 = some (3, 2) := by kernel_rfl
@[go_sem] theorem fplace171_3 : fplace Tryz.prog 171 3 = some (3, 3) := by kernel_rfl
@[go_sem] theorem cellsOf172 : Tryz.prog.cellsOf 172 = 3 := by kernel_rfl
@[go_sem] theorem bytesOf172 : Tryz.prog.bytesOf 172 = 24 := by kernel_rfl
@[go_sem] theorem ldk172 : ldk Tryz.prog 172 = some (some 3) := by kernel_rfl
@[go_sem] theorem aggTy172 : aggTy Tryz.prog 172 = true := by kernel_rfl
@[go_sem] theorem zeroOk172 : zeroOk Tryz.prog 172 = true := by kernel_rfl
@[go_sem] theorem info172 : (Tryz.prog.info? 172).isSome = true := by kernel_rfl
@[go_sem] theorem bkind172 : bkind Tryz.prog 172 = .struct [(0, 1), (1, 1), (2, 1)] := by kernel_rfl
@[go_sem] theorem fplace172_0 : fplace Tryz.prog 172 0 = some (3, 0) := by kernel_rfl
@[go_sem] theorem fplace172_1 : fplace Tryz.prog 172 1 = some (3, 1) := by kernel_rfl
@[go_sem] theorem fplace172_2 : fplace Tryz.prog 172 2 = some (3, 2) := by kernel_rfl
@[go_sem] theorem zeroAV172 : zeroAV Tryz.prog 172 = some (.agg [.int .i64 0, .int .i64 0, .int .i64 0]) := by kernel_rfl
@[go_sem] theorem cellsOf173 : Tryz.prog.cellsOf 173 = 3 := by kernel_rfl
@[go_sem] theorem bytesOf173 : Tryz.prog.bytesOf 173 = 24 := by kernel_rfl
@[go_sem] theorem ldk173 : ldk Tryz.prog 173 = some (some 3) := by kernel_rfl
@[go_sem] theorem aggTy173 : aggTy Tryz.prog 173 = true := by kernel_rfl
@[go_sem] theorem zeroOk173 : zeroOk Tryz.prog 173 = true := by kernel_rfl
@[go_sem] theorem info173 : (Tryz.prog.info? 173).isSome = true := by kernel_rfl
@[go_sem] theorem bkind173 : bkind Tryz.prog 173 = .struct [(0, 1), (1, 1), (2, 1)] := by kernel_rfl
@[go_sem] theorem fplace173_0 : fplace Tryz.prog 173 0 = some (3, 0) := by kernel_rfl
@[go_sem] theorem fplace173_1 : fplace Tryz.prog 173 1 = some (3, 1) := by kernel_rfl
@[go_sem] theorem fplace173_2 : fplace Tryz.prog 173 2 = some (3, 2) := by kernel_rfl
@[go_sem] theorem cellsOf175 : Tryz.prog.cellsOf 175 = 2 := by kernel_rfl
@[go_sem] theorem bytesOf175 : Tryz.prog.bytesOf 175 = 24 := by kernel_rfl
@[go_sem] theorem ldk175 : ldk Tryz.prog 175 = some (some 2) := by kernel_rfl
@[go_sem] theorem aggTy175 : aggTy Tryz.prog 175 = true := by kernel_rfl
@[go_sem] theorem zeroOk175 : zeroOk Tryz.prog 175 = true := by kernel_rfl
@[go_sem] theorem info175 : (Tryz.prog.info? 175).isSome = true := by kernel_rfl
@[go_sem] theorem bkind175 : bkind Tryz.prog 175 = .struct [(0, 1), (1, 1)] := by kernel_rfl
@[go_sem] theorem fplace175_0 : fplace Tryz.prog 175 0 = some (9, 0) := by kernel_rfl
@[go_sem] theorem fplace175_1 : fplace Tryz.prog 175 1 = some (3, 1) := by kernel_rfl
@[go_sem] theorem zeroAV175 : zeroAV Tryz.prog 175 = some (.agg [.str ByteArray.empty, .int .i64 0]) := by kernel_rfl
@[go_sem] theorem cellsOf176 : Tryz.prog.cellsOf 176 = 2 := by kernel_rfl
@[go_sem] theorem bytesOf176 : Tryz.prog.bytesOf 176 = 24 := by kernel_rfl
@[go_sem] theorem ldk176 : ldk Tryz.prog 176 = some (some 2) := by kernel_rfl
@[go_sem] theorem aggTy176 : aggTy Tryz.prog 176 = true := by kernel_rfl
@[go_sem] theorem zeroOk176 : zeroOk Tryz.prog 176 = true := by kernel_rfl
@[go_sem] theorem info176 : (Tryz.prog.info? 176).isSome = true := by kernel_rfl
@[go_sem] theorem bkind176 : bkind Tryz.prog 176 = .struct [(0, 1), (1, 1)] := by kernel_rfl
@[go_sem] theorem fplace176_0 : fplace Tryz.prog 176 0 = some (9, 0) := by kernel_rfl
@[go_sem] theorem fplace176_1 : fplace Tryz.prog 176 1 = some (3, 1) := by kernel_rfl
@[go_sem] theorem cellsOf204 : Tryz.prog.cellsOf 204 = 1 := by kernel_rfl
@[go_sem] theorem bytesOf204 : Tryz.prog.bytesOf 204 = 8 := by kernel_rfl
@[go_sem] theorem ldk204 : ldk Tryz.prog 204 = some none := by kernel_rfl
@[go_sem] theorem aggTy204 : aggTy Tryz.prog 204 = false := by kernel_rfl
@[go_sem] theorem zeroOk204 : zeroOk Tryz.prog 204 = true := by kernel_rfl
@[go_sem] theorem info204 : (Tryz.prog.info? 204).isSome = true := by kernel_rfl
@[go_sem] theorem zeroAV204 : zeroAV Tryz.prog 204 = some (.nilf) := by kernel_rfl
@[go_sem] theorem cellsOf345 : Tryz.prog.cellsOf 345 = 12 := by kernel_rfl
@[go_sem] theorem bytesOf345 : Tryz.prog.bytesOf 345 = 136 := by kernel_rfl
@[go_sem] theorem ldk345 : ldk Tryz.prog 345 = some (some 12) := by kernel_rfl
@[go_sem] theorem aggTy345 : aggTy Tryz.prog 345 = true := by kernel_rfl
@[go_sem] theorem zeroOk345 : zeroOk Tryz.prog 345 = true := by kernel_rfl
@[go_sem] theorem info345 : (Tryz.prog.info? 345).isSome = true := by kernel_rfl
@[go_sem] theorem bkind345 : bkind Tryz.prog 345 = .struct [(0, 1), (1, 1), (2, 1), (3, 1), (4, 5), (9, 1), (10, 1), (11, 1)] := by kernel_rfl
@[go_sem] theorem fplace345_0 : fplace Tryz.prog 345 0 = some (9, 0) := by kernel_rfl
@[go_sem] theorem fplace345_1 : fplace Tryz.prog 345 1 = some (9, 1) := by kernel_rfl
@[go_sem] theorem fplace345_2 : fplace Tryz.prog 345 2 = some (3, 2) := by kernel_rfl
@[go_sem] theorem fplace345_3 : fplace Tryz.prog 345 3 = some (3, 3) := by kernel_rfl
@[go_sem] theorem fplace345_4 : fplace Tryz.prog 345 4 = some (55, 4) := by kernel_rfl
@[go_sem] theorem fplace345_5 : fplace Tryz.prog 345 5 = some (3, 9) := by kernel_rfl
@[go_sem] theorem fplace345_6 : fplace Tryz.prog 345 6 = some (3, 10) := by kernel_rfl
@[go_sem] theorem fplace345_7 : fplace Tryz.prog 345 7 = some (3, 11) := by kernel_rfl
@[go_sem] theorem zeroAV345 : zeroAV Tryz.prog 345 = some (.agg [.str ByteArray.empty, .str ByteArray.empty, .int .i64 0, .int .i64 0, .int .i64 0, .str ByteArray.empty, .int .i64 0, .int .i64 0, .sl (some 5) [], .int .i64 0, .int .i64 0, .int .i64 0]) := by kernel_rfl
@[go_sem] theorem cellsOf346 : Tryz.prog.cellsOf 346 = 12 := by kernel_rfl
@[go_sem] theorem bytesOf346 : Tryz.prog.bytesOf 346 = 136 := by kernel_rfl
@[go_sem] theorem ldk346 : ldk Tryz.prog 346 = some (some 12) := by kernel_rfl
@[go_sem] theorem aggTy346 : aggTy Tryz.prog 346 = true := by kernel_rfl
@[go_sem] theorem zeroOk346 : zeroOk Tryz.prog 346 = true := by kernel_rfl
@[go_sem] theorem info346 : (Tryz.prog.info? 346).isSome = true := by kernel_rfl
@[go_sem] theorem bkind346 : bkind Tryz.prog 346 = .struct [(0, 1), (1, 1), (2, 1), (3, 1), (4, 5), (9, 1), (10, 1), (11, 1)] := by kernel_rfl
@[go_sem] theorem fplace346_0 : fplace Tryz.prog 346 0 = some (9, 0) := by kernel_rfl
@[go_sem] theorem fplace346_1 : fplace Tryz.prog 346 1 = some (9, 1) := by kernel_rfl
@[go_sem] theorem fplace346_2 : fplace Tryz.prog 346 2 = some (3, 2) := by kernel_rfl
@[go_sem] theorem fplace346_3 : fplace Tryz.prog 346 3 = some (3, 3) := by kernel_rfl
@[go_sem] theorem fplace346_4 : fplace Tryz.prog 346 4 = some (55, 4) := by kernel_rfl
@[go_sem] theorem fplace346_5 : fplace Tryz.prog 346 5 = some (3, 9) := by kernel_rfl
@[go_sem] theorem fplace346_6 : fplace Tryz.prog 346 6 = some (3, 10) := by kernel_rfl
@[go_sem] theorem fplace346_7 : fplace Tryz.prog 346 7 = some (3, 11) := by kernel_rfl
theorem mixed : Tryz.prog.follows .mixedOrders = true := by kernel_rfl
end Go.AI


namespace Go.AI
open Go.Proofs
def h171 : Hint := ⟨[(0, [2, 3, 4]), (1, [4])], [], [], [], [], [], []⟩
@[go_sem] theorem h171_l : h171.lv 0 = [2, 3, 4] ∧ h171.lv 1 = [4] := ⟨rfl, rfl⟩
@[go_sem] theorem h171_g (k : Nat) : h171.ct k = none := rfl
@[go_sem] theorem h171_z (k : Nat) : h171.at k = [] := rfl
@[go_sem] theorem h171_y (k : Nat) : h171.dn k = false := Eq.trans rfl rfl
theorem h171_d : Tryz.f171.body.any (drawsOk h171) = true := by kernel_rfl
@[go_sem] theorem h171_t : h171.tk = [] := rfl
@[go_sem] theorem h171_m : h171.mt = [] := rfl
@[go_sem] theorem h171_p : h171.pc = [] := rfl
theorem call171 : callable Tryz.prog 171 = true := by kernel_rfl
def h119 : Hint := ⟨[(0, [1, 2]), (1, [1, 2, 3]), (2, [1, 2, 3, 4]), (3, [1, 2, 3, 4, 10]), (4, [1, 2, 3, 4]), (5, [1, 2, 3, 4]), (6, [2])], [], [], [], [19, 20], [], []⟩
@[go_sem] theorem h119_l : h119.lv 0 = [1, 2] ∧ h119.lv 1 = [1, 2, 3] ∧ h119.lv 2 = [1, 2, 3, 4] ∧ h119.lv 3 = [1, 2, 3, 4, 10] ∧ h119.lv 4 = [1, 2, 3, 4] ∧ h119.lv 5 = [1, 2, 3, 4] ∧ h119.lv 6 = [2] := ⟨rfl, rfl, rfl, rfl, rfl, rfl, rfl⟩
@[go_sem] theorem h119_g (k : Nat) : h119.ct k = none := rfl
@[go_sem] theorem h119_z (k : Nat) : h119.at k = [] := rfl
@[go_sem] theorem h119_y (k : Nat) : h119.dn k = false := Eq.trans rfl rfl
theorem h119_d : Tryz.f119.body.any (drawsOk h119) = true := by kernel_rfl
@[go_sem] theorem h119_t : h119.tk = [] := rfl
@[go_sem] theorem h119_m : h119.mt = [] := rfl
@[go_sem] theorem h119_p : h119.pc = [19, 20] := rfl
theorem call119 : callable Tryz.prog 119 = true := by kernel_rfl
def h95 : Hint := ⟨[(0, [1, 2]), (1, [1, 2, 3]), (2, [1, 2, 3, 8]), (3, [1, 2, 3]), (4, [1, 2, 3, 4]), (5, [1, 2, 3, 4, 18]), (6, [1, 2, 3, 4]), (7, [1, 2, 3, 4]), (8, [2])], [], [], [], [12, 13, 27, 28], [], []⟩
@[go_sem] theorem h95_l : h95.lv 0 = [1, 2] ∧ h95.lv 1 = [1, 2, 3] ∧ h95.lv 2 = [1, 2, 3, 8] ∧ h95.lv 3 = [1, 2, 3] ∧ h95.lv 4 = [1, 2, 3, 4] ∧ h95.lv 5 = [1, 2, 3, 4, 18] ∧ h95.lv 6 = [1, 2, 3, 4] ∧ h95.lv 7 = [1, 2, 3, 4] ∧ h95.lv 8 = [2] := ⟨rfl, rfl, rfl, rfl, rfl, rfl, rfl, rfl, rfl⟩
@[go_sem] theorem h95_g (k : Nat) : h95.ct k = none := rfl
@[go_sem] theorem h95_z (k : Nat) : h95.at k = [] := rfl
@[go_sem] theorem h95_y (k : Nat) : h95.dn k = false := Eq.trans rfl rfl
theorem h95_d : Tryz.f95.body.any (drawsOk h95) = true := by kernel_rfl
@[go_sem] theorem h95_t : h95.tk = [] := rfl
@[go_sem] theorem h95_m : h95.mt = [] := rfl
@[go_sem] theorem h95_p : h95.pc = [12, 13, 27, 28] := rfl
theorem call95 : callable Tryz.prog 95 = true := by kernel_rfl
def h117 : Hint := ⟨[(0, [1]), (1, [1, 3]), (2, [3, 4]), (3, [2])], [], [], [], [6, 9], [], []⟩
@[go_sem] theorem h117_l : h117.lv 0 = [1] ∧ h117.lv 1 = [1, 3] ∧ h117.lv 2 = [3, 4] ∧ h117.lv 3 = [2] := ⟨rfl, rfl, rfl, rfl⟩
@[go_sem] theorem h117_g (k : Nat) : h117.ct k = none := rfl
@[go_sem] theorem h117_z (k : Nat) : h117.at k = [] := rfl
@[go_sem] theorem h117_y (k : Nat) : h117.dn k = false := Eq.trans rfl rfl
theorem h117_d : Tryz.f117.body.any (drawsOk h117) = true := by kernel_rfl
@[go_sem] theorem h117_t : h117.tk = [] := rfl
@[go_sem] theorem h117_m : h117.mt = [] := rfl
@[go_sem] theorem h117_p : h117.pc = [6, 9] := rfl
theorem call117 : callable Tryz.prog 117 = true := by kernel_rfl
def h51 : Hint := ⟨[(0, [0]), (1, [0, 3]), (2, [0, 3, 12]), (3, [0, 3]), (4, [0, 3, 4]), (5, [0, 3, 32]), (6, [2]), (7, [2])], [33], [], [], [20], [], []⟩
@[go_sem] theorem h51_l : h51.lv 0 = [0] ∧ h51.lv 1 = [0, 3] ∧ h51.lv 2 = [0, 3, 12] ∧ h51.lv 3 = [0, 3] ∧ h51.lv 4 = [0, 3, 4] ∧ h51.lv 5 = [0, 3, 32] ∧ h51.lv 6 = [2] ∧ h51.lv 7 = [2] := ⟨rfl, rfl, rfl, rfl, rfl, rfl, rfl, rfl⟩
@[go_sem] theorem h51_g (k : Nat) : h51.ct k = none := rfl
@[go_sem] theorem h51_z (k : Nat) : h51.at k = [] := rfl
@[go_sem] theorem h51_y (k : Nat) : h51.dn k = false := Eq.trans rfl rfl
theorem h51_d : Tryz.f51.body.any (drawsOk h51) = true := by kernel_rfl
@[go_sem] theorem h51_t : h51.tk = [33] := rfl
@[go_sem] theorem h51_m : h51.mt = [] := rfl
@[go_sem] theorem h51_p : h51.pc = [20] := rfl
theorem call51 : callable Tryz.prog 51 = true := by kernel_rfl
def h52 : Hint := ⟨[(0, [1]), (1, [1, 3]), (2, [1, 3, 4]), (3, [1, 3, 4, 9]), (4, [1, 3, 4]), (5, [1, 3, 4]), (6, [3, 22]), (7, [3]), (8, [2])], [], [], [], [18], [], []⟩
@[go_sem] theorem h52_l : h52.lv 0 = [1] ∧ h52.lv 1 = [1, 3] ∧ h52.lv 2 = [1, 3, 4] ∧ h52.lv 3 = [1, 3, 4, 9] ∧ h52.lv 4 = [1, 3, 4] ∧ h52.lv 5 = [1, 3, 4] ∧ h52.lv 6 = [3, 22] ∧ h52.lv 7 = [3] ∧ h52.lv 8 = [2] := ⟨rfl, rfl, rfl, rfl, rfl, rfl, rfl, rfl, rfl⟩
@[go_sem] theorem h52_g (k : Nat) : h52.ct k = none := rfl
@[go_sem] theorem h52_z (k : Nat) : h52.at k = [] := rfl
@[go_sem] theorem h52_y (k : Nat) : h52.dn k = false := Eq.trans rfl rfl
theorem h52_d : Tryz.f52.body.any (drawsOk h52) = true := by kernel_rfl
@[go_sem] theorem h52_t : h52.tk = [] := rfl
@[go_sem] theorem h52_m : h52.mt = [] := rfl
@[go_sem] theorem h52_p : h52.pc = [18] := rfl
theorem call52 : callable Tryz.prog 52 = true := by kernel_rfl
def h118 : Hint := ⟨[(0, [1]), (1, [1, 3]), (2, [1, 3, 4]), (3, [1, 3, 4, 9]), (4, [1, 3, 4]), (5, [1, 3, 4]), (6, [3, 22]), (7, [3]), (8, [2])], [], [], [], [18], [], []⟩
@[go_sem] theorem h118_l : h118.lv 0 = [1] ∧ h118.lv 1 = [1, 3] ∧ h118.lv 2 = [1, 3, 4] ∧ h118.lv 3 = [1, 3, 4, 9] ∧ h118.lv 4 = [1, 3, 4] ∧ h118.lv 5 = [1, 3, 4] ∧ h118.lv 6 = [3, 22] ∧ h118.lv 7 = [3] ∧ h118.lv 8 = [2] := ⟨rfl, rfl, rfl, rfl, rfl, rfl, rfl, rfl, rfl⟩
@[go_sem] theorem h118_g (k : Nat) : h118.ct k = none := rfl
@[go_sem] theorem h118_z (k : Nat) : h118.at k = [] := rfl
@[go_sem] theorem h118_y (k : Nat) : h118.dn k = false := Eq.trans rfl rfl
theorem h118_d : Tryz.f118.body.any (drawsOk h118) = true := by kernel_rfl
@[go_sem] theorem h118_t : h118.tk = [] := rfl
@[go_sem] theorem h118_m : h118.mt = [] := rfl
@[go_sem] theorem h118_p : h118.pc = [18] := rfl
theorem call118 : callable Tryz.prog 118 = true := by kernel_rfl
def h53 : Hint := ⟨[(0, [1]), (1, [1, 3]), (2, [3, 4]), (3, [2])], [], [], [], [6, 8], [], []⟩
@[go_sem] theorem h53_l : h53.lv 0 = [1] ∧ h53.lv 1 = [1, 3] ∧ h53.lv 2 = [3, 4] ∧ h53.lv 3 = [2] := ⟨rfl, rfl, rfl, rfl⟩
@[go_sem] theorem h53_g (k : Nat) : h53.ct k = none := rfl
@[go_sem] theorem h53_z (k : Nat) : h53.at k = [] := rfl
@[go_sem] theorem h53_y (k : Nat) : h53.dn k = false := Eq.trans rfl rfl
theorem h53_d : Tryz.f53.body.any (drawsOk h53) = true := by kernel_rfl
@[go_sem] theorem h53_t : h53.tk = [] := rfl
@[go_sem] theorem h53_m : h53.mt = [] := rfl
@[go_sem] theorem h53_p : h53.pc = [6, 8] := rfl
theorem call53 : callable Tryz.prog 53 = true := by kernel_rfl
def h54 : Hint := ⟨[(0, [1]), (1, [3]), (2, [2])], [], [], [], [5], [], []⟩
@[go_sem] theorem h54_l : h54.lv 0 = [1] ∧ h54.lv 1 = [3] ∧ h54.lv 2 = [2] := ⟨rfl, rfl, rfl⟩
@[go_sem] theorem h54_g (k : Nat) : h54.ct k = none := rfl
@[go_sem] theorem h54_z (k : Nat) : h54.at k = [] := rfl
@[go_sem] theorem h54_y (k : Nat) : h54.dn k = false := Eq.trans rfl rfl
theorem h54_d : Tryz.f54.body.any (drawsOk h54) = true := by kernel_rfl
@[go_sem] theorem h54_t : h54.tk = [] := rfl
@[go_sem] theorem h54_m : h54.mt = [] := rfl
@[go_sem] theorem h54_p : h54.pc = [5] := rfl
theorem call54 : callable Tryz.prog 54 = true := by kernel_rfl
def h120 : Hint := ⟨[(0, [1, 2]), (1, [1, 2, 3]), (2, [1, 2, 3, 4]), (3, [1, 2, 3, 4, 10]), (4, [1, 2, 3, 4]), (5, [1, 2, 3, 4]), (6, [2])], [], [], [], [19, 20], [], []⟩
@[go_sem] theorem h120_l : h120.lv 0 = [1, 2] ∧ h120.lv 1 = [1, 2, 3] ∧ h120.lv 2 = [1, 2, 3, 4] ∧ h120.lv 3 = [1, 2, 3, 4, 10] ∧ h120.lv 4 = [1, 2, 3, 4] ∧ h120.lv 5 = [1, 2, 3, 4] ∧ h120.lv 6 = [2] := ⟨rfl, rfl, rfl, rfl, rfl, rfl, rfl⟩
@[go_sem] theorem h120_g (k : Nat) : h120.ct k = none := rfl
@[go_sem] theorem h120_z (k : Nat) : h120.at k = [] := rfl
@[go_sem] theorem h120_y (k : Nat) : h120.dn k = false := Eq.trans rfl rfl
theorem h120_d : Tryz.f120.body.any (drawsOk h120) = true := by kernel_rfl
@[go_sem] theorem h120_t : h120.tk = [] := rfl
@[go_sem] theorem h120_m : h120.mt = [] := rfl
@[go_sem] theorem h120_p : h120.pc = [19, 20] := rfl
theorem call120 : callable Tryz.prog 120 = true := by kernel_rfl
def h55 : Hint := ⟨[(0, [1]), (1, [3]), (2, [2])], [], [], [], [5], [], []⟩
@[go_sem] theorem h55_l : h55.lv 0 = [1] ∧ h55.lv 1 = [3] ∧ h55.lv 2 = [2] := ⟨rfl, rfl, rfl⟩
@[go_sem] theorem h55_g (k : Nat) : h55.ct k = none := rfl
@[go_sem] theorem h55_z (k : Nat) : h55.at k = [] := rfl
@[go_sem] theorem h55_y (k : Nat) : h55.dn k = false := Eq.trans rfl rfl
theorem h55_d : Tryz.f55.body.any (drawsOk h55) = true := by kernel_rfl
@[go_sem] theorem h55_t : h55.tk = [] := rfl
@[go_sem] theorem h55_m : h55.mt = [] := rfl
@[go_sem] theorem h55_p : h55.pc = [5] := rfl
theorem call55 : callable Tryz.prog 55 = true := by kernel_rfl
def h11 : Hint := ⟨[(0, [1]), (1, [1, 3]), (2, [1, 36]), (3, [2]), (4, [1, 4]), (5, [1, 4, 41]), (6, [1, 4]), (7, [1, 4, 61]), (8, [2]), (9, [1, 5]), (10, [1, 5, 66]), (11, [1, 5]), (12, [1, 5, 6]), (13, [1, 5, 6, 7]), (14, [1, 5, 88]), (15, [2]), (16, [2])], [], [], [], [10, 50, 59, 75, 82], [], []⟩
@[go_sem] theorem h11_l : h11.lv 0 = [1] ∧ h11.lv 1 = [1, 3] ∧ h11.lv 2 = [1, 36] ∧ h11.lv 3 = [2] ∧ h11.lv 4 = [1, 4] ∧ h11.lv 5 = [1, 4, 41] ∧ h11.lv 6 = [1, 4] ∧ h11.lv 7 = [1, 4, 61] ∧ h11.lv 8 = [2] ∧ h11.lv 9 = [1, 5] ∧ h11.lv 10 = [1, 5, 66] ∧ h11.lv 11 = [1, 5] ∧ h11.lv 12 = [1, 5, 6] ∧ h11.lv 13 = [1, 5, 6, 7] ∧ h11.lv 14 = [1, 5, 88] ∧ h11.lv 15 = [2] ∧ h11.lv 16 = [2] := ⟨rfl, rfl, rfl, rfl, rfl, rfl, rfl, rfl, rfl, rfl, rfl, rfl, rfl, rfl, rfl, rfl, rfl⟩
@[go_sem] theorem h11_g (k : Nat) : h11.ct k = none := rfl
@[go_sem] theorem h11_z (k : Nat) : h11.at k = [] := rfl
@[go_sem] theorem h11_y (k : Nat) : h11.dn k = false := Eq.trans rfl rfl
theorem h11_d : Tryz.f11.body.any (drawsOk h11) = true := by kernel_rfl
@[go_sem] theorem h11_t : h11.tk = [] := rfl
@[go_sem] theorem h11_m : h11.mt = [] := rfl
@[go_sem] theorem h11_p : h11.pc = [10, 50, 59, 75, 82] := rfl
theorem call11 : callable Tryz.prog 11 = true := by kernel_rfl
def h114 : Hint := ⟨[(0, [0]), (1, [0, 3]), (2, [0, 3, 9]), (3, [0, 3]), (4, [0, 3, 4]), (5, [0, 3, 4, 5]), (6, [0, 3, 47]), (7, [2]), (8, [2])], [], [], [], [], [], []⟩
@[go_sem] theorem h114_l : h114.lv 0 = [0] ∧ h114.lv 1 = [0, 3] ∧ h114.lv 2 = [0, 3, 9] ∧ h114.lv 3 = [0, 3] ∧ h114.lv 4 = [0, 3, 4] ∧ h114.lv 5 = [0, 3, 4, 5] ∧ h114.lv 6 = [0, 3, 47] ∧ h114.lv 7 = [2] ∧ h114.lv 8 = [2] := ⟨rfl, rfl, rfl, rfl, rfl, rfl, rfl, rfl, rfl⟩
@[go_sem] theorem h114_g (k : Nat) : h114.ct k = none := rfl
@[go_sem] theorem h114_z (k : Nat) : h114.at k = [] := rfl
@[go_sem] theorem h114_y (k : Nat) : h114.dn k = false := Eq.trans rfl rfl
theorem h114_d : Tryz.f114.body.any (drawsOk h114) = true := by kernel_rfl
@[go_sem] theorem h114_t : h114.tk = [] := rfl
@[go_sem] theorem h114_m : h114.mt = [] := rfl
@[go_sem] theorem h114_p : h114.pc = [] := rfl
theorem call114 : callable Tryz.prog 114 = true := by kernel_rfl
def h72 : Hint := ⟨[(0, [1, 2]), (1, [4])], [], [], [], [], [], []⟩
@[go_sem] theorem h72_l : h72.lv 0 = [1, 2] ∧ h72.lv 1 = [4] := ⟨rfl, rfl⟩
@[go_sem] theorem h72_g (k : Nat) : h72.ct k = none := rfl
@[go_sem] theorem h72_z (k : Nat) : h72.at k = [] := rfl
@[go_sem] theorem h72_y (k : Nat) : h72.dn k = false := Eq.trans rfl rfl
theorem h72_d : Tryz.f72.body.any (drawsOk h72) = true := by kernel_rfl
@[go_sem] theorem h72_t : h72.tk = [] := rfl
@[go_sem] theorem h72_m : h72.mt = [] := rfl
@[go_sem] theorem h72_p : h72.pc = [] := rfl
theorem call72 : callable Tryz.prog 72 = true := by kernel_rfl
def h145 : Hint := ⟨[(0, [1, 2]), (1, [4])], [], [], [], [7], [], []⟩
@[go_sem] theorem h145_l : h145.lv 0 = [1, 2] ∧ h145.lv 1 = [4] := ⟨rfl, rfl⟩
@[go_sem] theorem h145_g (k : Nat) : h145.ct k = none := rfl
@[go_sem] theorem h145_z (k : Nat) : h145.at k = [] := rfl
@[go_sem] theorem h145_y (k : Nat) : h145.dn k = false := Eq.trans rfl rfl
theorem h145_d : Tryz.f145.body.any (drawsOk h145) = true := by kernel_rfl
@[go_sem] theorem h145_t : h145.tk = [] := rfl
@[go_sem] theorem h145_m : h145.mt = [] := rfl
@[go_sem] theorem h145_p : h145.pc = [7] := rfl
theorem call145 : callable Tryz.prog 145 = true := by kernel_rfl
def h65 : Hint := ⟨[(0, [2, 3]), (1, [2, 3, 5]), (2, [2, 3, 18]), (3, [4]), (4, [2, 3, 6]), (5, [2, 3, 6, 23]), (6, [2, 3, 6]), (7, [2, 3, 6, 7]), (8, [2, 3, 6, 34]), (9, [4]), (10, [2, 3, 6, 8]), (11, [2, 3, 6, 8, 37]), (12, [2, 3, 6, 8]), (13, [2, 3, 6, 8, 52]), (14, [4]), (15, [2, 3, 9]), (16, [2, 3, 9, 57]), (17, [2, 3, 9]), (18, [2, 3, 9, 10]), (19, [2, 3, 9, 10, 75]), (20, [4]), (21, [2, 3, 9, 10, 11]), (22, [2, 3, 9, 10, 11, 78]), (23, [2, 3, 9, 10, 11]), (24, [2, 3, 9, 10, 11, 92]), (25, [4]), (26, [3, 12]), (27, [3, 12, 97]), (28, [3, 12]), (29, [3, 12, 119]), (30, [4]), (31, [3, 12, 13]), (32, [3, 12, 13, 122]), (33, [3, 12, 13]), (34, [3, 12, 13, 137]), (35, [4]), (36, [4])], [], [], [], [16, 32, 107, 117], [], []⟩
@[go_sem] theorem h65_l : h65.lv 0 = [2, 3] ∧ h65.lv 1 = [2, 3, 5] ∧ h65.lv 2 = [2, 3, 18] ∧ h65.lv 3 = [4] ∧ h65.lv 4 = [2, 3, 6] ∧ h65.lv 5 = [2, 3, 6, 23] ∧ h65.lv 6 = [2, 3, 6] ∧ h65.lv 7 = [2, 3, 6, 7] ∧ h65.lv 8 = [2, 3, 6, 34] ∧ h65.lv 9 = [4] ∧ h65.lv 10 = [2, 3, 6, 8] ∧ h65.lv 11 = [2, 3, 6, 8, 37] ∧ h65.lv 12 = [2, 3, 6, 8] ∧ h65.lv 13 = [2, 3, 6, 8, 52] ∧ h65.lv 14 = [4] ∧ h65.lv 15 = [2, 3, 9] ∧ h65.lv 16 = [2, 3, 9, 57] ∧ h65.lv 17 = [2, 3, 9] ∧ h65.lv 18 = [2, 3, 9, 10] ∧ h65.lv 19 = [2, 3, 9, 10, 75] ∧ h65.lv 20 = [4] ∧ h65.lv 21 = [2, 3, 9, 10, 11] ∧ h65.lv 22 = [2, 3, 9, 10, 11, 78] ∧ h65.lv 23 = [2, 3, 9, 10, 11] ∧ h65.lv 24 = [2, 3, 9, 10, 11, 92] ∧ h65.lv 25 = [4] ∧ h65.lv 26 = [3, 12] ∧ h65.lv 27 = [3, 12, 97] ∧ h65.lv 28 = [3, 12] ∧ h65.lv 29 = [3, 12, 119] ∧ h65.lv 30 = [4] ∧ h65.lv 31 = [3, 12, 13] ∧ h65.lv 32 = [3, 12, 13, 122] ∧ h65.lv 33 = [3, 12, 13] ∧ h65.lv 34 = [3, 12, 13, 137] ∧ h65.lv 35 = [4] ∧ h65.lv 36 = [4] := ⟨rfl, rfl, rfl, rfl, rfl, rfl, rfl, rfl, rfl, rfl, rfl, rfl, rfl, rfl, rfl, rfl, rfl, rfl, rfl, rfl, rfl, rfl, rfl, rfl, rfl, rfl, rfl, rfl, rfl, rfl, rfl, rfl, rfl, rfl, rfl, rfl, rfl⟩
@[go_sem] theorem h65_g (k : Nat) : h65.ct k = none := rfl
@[go_sem] theorem h65_z (k : Nat) : h65.at k = [] := rfl
@[go_sem] theorem h65_y (k : Nat) : h65.dn k = false := Eq.trans rfl rfl
theorem h65_d : Tryz.f65.body.any (drawsOk h65) = true := by kernel_rfl
@[go_sem] theorem h65_t : h65.tk = [] := rfl
@[go_sem] theorem h65_m : h65.mt = [] := rfl
@[go_sem] theorem h65_p : h65.pc = [16, 32, 107, 117] := rfl
theorem call65 : callable Tryz.prog 65 = true := by kernel_rfl
def h170 : Hint := ⟨[(0, [1]), (1, [10]), (2, [2]), (3, [2])], [], [], [], [], [], []⟩
@[go_sem] theorem h170_l : h170.lv 0 = [1] ∧ h170.lv 1 = [10] ∧ h170.lv 2 = [2] ∧ h170.lv 3 = [2] := ⟨rfl, rfl, rfl, rfl⟩
@[go_sem] theorem h170_g (k : Nat) : h170.ct k = none := rfl
@[go_sem] theorem h170_z (k : Nat) : h170.at k = [] := rfl
@[go_sem] theorem h170_y (k : Nat) : h170.dn k = false := Eq.trans rfl rfl
theorem h170_d : Tryz.f170.body.any (drawsOk h170) = true := by kernel_rfl
@[go_sem] theorem h170_t : h170.tk = [] := rfl
@[go_sem] theorem h170_m : h170.mt = [] := rfl
@[go_sem] theorem h170_p : h170.pc = [] := rfl
theorem call170 : callable Tryz.prog 170 = true := by kernel_rfl
def h94 : Hint := ⟨[(0, [1, 2]), (1, [1, 5]), (2, [5, 13]), (3, [4]), (4, [4])], [], [], [], [7], [], []⟩
@[go_sem] theorem h94_l : h94.lv 0 = [1, 2] ∧ h94.lv 1 = [1, 5] ∧ h94.lv 2 = [5, 13] ∧ h94.lv 3 = [4] ∧ h94.lv 4 = [4] := ⟨rfl, rfl, rfl, rfl, rfl⟩
@[go_sem] theorem h94_g (k : Nat) : h94.ct k = none := rfl
@[go_sem] theorem h94_z (k : Nat) : h94.at k = [] := rfl
@[go_sem] theorem h94_y (k : Nat) : h94.dn k = false := Eq.trans rfl rfl
theorem h94_d : Tryz.f94.body.any (drawsOk h94) = true := by kernel_rfl
@[go_sem] theorem h94_t : h94.tk = [] := rfl
@[go_sem] theorem h94_m : h94.mt = [] := rfl
@[go_sem] theorem h94_p : h94.pc = [7] := rfl
theorem call94 : callable Tryz.prog 94 = true := by kernel_rfl
def h29 : Hint := ⟨[(0, [2, 3]), (1, [2, 3, 41]), (2, [4]), (3, [2, 3, 5]), (4, [2, 3, 5, 46]), (5, [2, 3, 5]), (6, [2, 3, 5, 6]), (7, [2, 3, 5, 61]), (8, [4]), (9, [4])], [], [], [], [59], [], []⟩
@[go_sem] theorem h29_l : h29.lv 0 = [2, 3] ∧ h29.lv 1 = [2, 3, 41] ∧ h29.lv 2 = [4] ∧ h29.lv 3 = [2, 3, 5] ∧ h29.lv 4 = [2, 3, 5, 46] ∧ h29.lv 5 = [2, 3, 5] ∧ h29.lv 6 = [2, 3, 5, 6] ∧ h29.lv 7 = [2, 3, 5, 61] ∧ h29.lv 8 = [4] ∧ h29.lv 9 = [4] := ⟨rfl, rfl, rfl, rfl, rfl, rfl, rfl, rfl, rfl, rfl⟩
@[go_sem] theorem h29_g (k : Nat) : h29.ct k = none := rfl
@[go_sem] theorem h29_z (k : Nat) : h29.at k = [] := rfl
@[go_sem] theorem h29_y (k : Nat) : h29.dn k = false := Eq.trans rfl rfl
theorem h29_d : Tryz.f29.body.any (drawsOk h29) = true := by kernel_rfl
@[go_sem] theorem h29_t : h29.tk = [] := rfl
@[go_sem] theorem h29_m : h29.mt = [] := rfl
@[go_sem] theorem h29_p : h29.pc = [59] := rfl
theorem call29 : callable Tryz.prog 29 = true := by kernel_rfl
def h292 : Hint := ⟨[(0, [0]), (1, [2])], [], [], [], [], [], []⟩
@[go_sem] theorem h292_l : h292.lv 0 = [0] ∧ h292.lv 1 = [2] := ⟨rfl, rfl⟩
@[go_sem] theorem h292_g (k : Nat) : h292.ct k = none := rfl
@[go_sem] theorem h292_z (k : Nat) : h292.at k = [] := rfl
@[go_sem] theorem h292_y (k : Nat) : h292.dn k = false := Eq.trans rfl rfl
theorem h292_d : Tryz.f292.body.any (drawsOk h292) = true := by kernel_rfl
@[go_sem] theorem h292_t : h292.tk = [] := rfl
@[go_sem] theorem h292_m : h292.mt = [] := rfl
@[go_sem] theorem h292_p : h292.pc = [] := rfl
theorem call292 : callable Tryz.prog 292 = true := by kernel_rfl
def h318 : Hint := ⟨[(0, [0]), (1, [0])], [], [], [], [], [], []⟩
@[go_sem] theorem h318_l : h318.lv 0 = [0] ∧ h318.lv 1 = [0] := ⟨rfl, rfl⟩
@[go_sem] theorem h318_g (k : Nat) : h318.ct k = none := rfl
@[go_sem] theorem h318_z (k : Nat) : h318.at k = [] := rfl
@[go_sem] theorem h318_y (k : Nat) : h318.dn k = false := Eq.trans rfl rfl
theorem h318_d : Tryz.f318.body.any (drawsOk h318) = true := by kernel_rfl
@[go_sem] theorem h318_t : h318.tk = [] := rfl
@[go_sem] theorem h318_m : h318.mt = [] := rfl
@[go_sem] theorem h318_p : h318.pc = [] := rfl
theorem call318 : callable Tryz.prog 318 = true := by kernel_rfl
def h293 : Hint := ⟨[(0, [0]), (1, [0, 3]), (2, [0, 3, 4]), (3, [0, 3, 4, 9]), (4, [0, 3, 4]), (5, [0, 3, 4, 17]), (6, [2]), (7, [2])], [], [], [], [5], [], []⟩
@[go_sem] theorem h293_l : h293.lv 0 = [0] ∧ h293.lv 1 = [0, 3] ∧ h293.lv 2 = [0, 3, 4] ∧ h293.lv 3 = [0, 3, 4, 9] ∧ h293.lv 4 = [0, 3, 4] ∧ h293.lv 5 = [0, 3, 4, 17] ∧ h293.lv 6 = [2] ∧ h293.lv 7 = [2] := ⟨rfl, rfl, rfl, rfl, rfl, rfl, rfl, rfl⟩
@[go_sem] theorem h293_g (k : Nat) : h293.ct k = none := rfl
@[go_sem] theorem h293_z (k : Nat) : h293.at k = [] := rfl
@[go_sem] theorem h293_y (k : Nat) : h293.dn k = false := Eq.trans rfl rfl
theorem h293_d : Tryz.f293.body.any (drawsOk h293) = true := by kernel_rfl
@[go_sem] theorem h293_t : h293.tk = [] := rfl
@[go_sem] theorem h293_m : h293.mt = [] := rfl
@[go_sem] theorem h293_p : h293.pc = [5] := rfl
theorem call293 : callable Tryz.prog 293 = true := by kernel_rfl
def h326 : Hint := ⟨[(0, [0]), (1, [2])], [], [], [], [], [], []⟩
@[go_sem] theorem h326_l : h326.lv 0 = [0] ∧ h326.lv 1 = [2] := ⟨rfl, rfl⟩
@[go_sem] theorem h326_g (k : Nat) : h326.ct k = none := rfl
@[go_sem] theorem h326_z (k : Nat) : h326.at k = [] := rfl
@[go_sem] theorem h326_y (k : Nat) : h326.dn k = false := Eq.trans rfl rfl
theorem h326_d : Tryz.f326.body.any (drawsOk h326) = true := by kernel_rfl
@[go_sem] theorem h326_t : h326.tk = [] := rfl
@[go_sem] theorem h326_m : h326.mt = [] := rfl
@[go_sem] theorem h326_p : h326.pc = [] := rfl
theorem call326 : callable Tryz.prog 326 = true := by kernel_rfl
def h319 : Hint := ⟨[(0, [0]), (1, [0, 3]), (2, [0, 3, 4]), (3, [2])], [], [], [], [6, 8], [], []⟩
@[go_sem] theorem h319_l : h319.lv 0 = [0] ∧ h319.lv 1 = [0, 3] ∧ h319.lv 2 = [0, 3, 4] ∧ h319.lv 3 = [2] := ⟨rfl, rfl, rfl, rfl⟩
@[go_sem] theorem h319_g (k : Nat) : h319.ct k = none := rfl
@[go_sem] theorem h319_z (k : Nat) : h319.at k = [] := rfl
@[go_sem] theorem h319_y (k : Nat) : h319.dn k = false := Eq.trans rfl rfl
theorem h319_d : Tryz.f319.body.any (drawsOk h319) = true := by kernel_rfl
@[go_sem] theorem h319_t : h319.tk = [] := rfl
@[go_sem] theorem h319_m : h319.mt = [] := rfl
@[go_sem] theorem h319_p : h319.pc = [6, 8] := rfl
theorem call319 : callable Tryz.prog 319 = true := by kernel_rfl
def h294 : Hint := ⟨[(0, [0]), (1, [0, 3]), (2, [0, 3, 8]), (3, [0, 3, 4]), (4, [0, 3, 14]), (5, [0, 3]), (6, [2])], [], [], [], [12], [], []⟩
@[go_sem] theorem h294_l : h294.lv 0 = [0] ∧ h294.lv 1 = [0, 3] ∧ h294.lv 2 = [0, 3, 8] ∧ h294.lv 3 = [0, 3, 4] ∧ h294.lv 4 = [0, 3, 14] ∧ h294.lv 5 = [0, 3] ∧ h294.lv 6 = [2] := ⟨rfl, rfl, rfl, rfl, rfl, rfl, rfl⟩
@[go_sem] theorem h294_g (k : Nat) : h294.ct k = none := rfl
@[go_sem] theorem h294_z (k : Nat) : h294.at k = [] := rfl
@[go_sem] theorem h294_y (k : Nat) : h294.dn k = false := Eq.trans rfl rfl
theorem h294_d : Tryz.f294.body.any (drawsOk h294) = true := by kernel_rfl
@[go_sem] theorem h294_t : h294.tk = [] := rfl
@[go_sem] theorem h294_m : h294.mt = [] := rfl
@[go_sem] theorem h294_p : h294.pc = [12] := rfl
theorem call294 : callable Tryz.prog 294 = true := by kernel_rfl
def h259 : Hint := ⟨[(0, [0]), (1, [0, 12]), (2, [2]), (3, [0, 3]), (4, [0, 3, 4]), (5, [2])], [], [], [], [15, 17, 21], [], []⟩
@[go_sem] theorem h259_l : h259.lv 0 = [0] ∧ h259.lv 1 = [0, 12] ∧ h259.lv 2 = [2] ∧ h259.lv 3 = [0, 3] ∧ h259.lv 4 = [0, 3, 4] ∧ h259.lv 5 = [2] := ⟨rfl, rfl, rfl, rfl, rfl, rfl⟩
@[go_sem] theorem h259_g (k : Nat) : h259.ct k = none := rfl
@[go_sem] theorem h259_z (k : Nat) : h259.at k = [] := rfl
@[go_sem] theorem h259_y (k : Nat) : h259.dn k = false := Eq.trans rfl rfl
theorem h259_d : Tryz.f259.body.any (drawsOk h259) = true := by kernel_rfl
@[go_sem] theorem h259_t : h259.tk = [] := rfl
@[go_sem] theorem h259_m : h259.mt = [] := rfl
@[go_sem] theorem h259_p : h259.pc = [15, 17, 21] := rfl
theorem call259 : callable Tryz.prog 259 = true := by kernel_rfl
def h217 : Hint := ⟨[(0, [0]), (1, [2])], [], [], [], [4], [], []⟩
@[go_sem] theorem h217_l : h217.lv 0 = [0] ∧ h217.lv 1 = [2] := ⟨rfl, rfl⟩
@[go_sem] theorem h217_g (k : Nat) : h217.ct k = none := rfl
@[go_sem] theorem h217_z (k : Nat) : h217.at k = [] := rfl
@[go_sem] theorem h217_y (k : Nat) : h217.dn k = false := Eq.trans rfl rfl
theorem h217_d : Tryz.f217.body.any (drawsOk h217) = true := by kernel_rfl
@[go_sem] theorem h217_t : h217.tk = [] := rfl
@[go_sem] theorem h217_m : h217.mt = [] := rfl
@[go_sem] theorem h217_p : h217.pc = [4] := rfl
theorem call217 : callable Tryz.prog 217 = true := by kernel_rfl
def h172 : Hint := ⟨[(0, [0]), (1, [0, 3]), (2, [2])], [], [], [], [5], [], []⟩
@[go_sem] theorem h172_l : h172.lv 0 = [0] ∧ h172.lv 1 = [0, 3] ∧ h172.lv 2 = [2] := ⟨rfl, rfl, rfl⟩
@[go_sem] theorem h172_g (k : Nat) : h172.ct k = none := rfl
@[go_sem] theorem h172_z (k : Nat) : h172.at k = [] := rfl
@[go_sem] theorem h172_y (k : Nat) : h172.dn k = false := Eq.trans rfl rfl
theorem h172_d : Tryz.f172.body.any (drawsOk h172) = true := by kernel_rfl
@[go_sem] theorem h172_t : h172.tk = [] := rfl
@[go_sem] theorem h172_m : h172.mt = [] := rfl
@[go_sem] theorem h172_p : h172.pc = [5] := rfl
theorem call172 : callable Tryz.prog 172 = true := by kernel_rfl
def h173 : Hint := ⟨[(0, [1]), (1, [1, 3]), (2, [1, 3, 4]), (3, [1, 3, 4, 5]), (4, [1, 3, 4, 5, 6]), (5, [1, 3, 4, 5, 6, 7]), (6, [1, 3, 4, 5, 6, 7, 35]), (7, [1, 3, 4, 5, 6, 7, 35, 36]), (8, [1, 3, 4, 5, 6, 7, 35, 36]), (9, [1, 6, 7]), (10, [1, 3, 4, 5, 6, 7, 35, 40]), (11, [1, 6, 7]), (12, [1, 3, 4, 5, 6, 7, 35, 51]), (13, [1, 6, 7]), (14, [1, 3, 5, 6, 7, 35, 67]), (15, [1, 6, 7]), (16, [1, 5, 6, 7, 35, 87]), (17, [1, 7]), (18, [1, 6, 7]), (19, [1, 5, 6, 7, 35, 90]), (20, [1, 5, 6, 7, 35, 90]), (21, [1, 7]), (22, [1, 6, 7]), (23, [1, 6, 7, 94]), (24, [1, 6, 7]), (25, [1, 6, 124]), (26, [2]), (27, [1, 6, 8]), (28, [1, 6, 8, 127]), (29, [1, 6, 8]), (30, [1, 6, 8, 9]), (31, [1, 6, 8, 137]), (32, [2]), (33, [2])], [], [], [], [12, 135], [], []⟩
@[go_sem] theorem h173_l : h173.lv 0 = [1] ∧ h173.lv 1 = [1, 3] ∧ h173.lv 2 = [1, 3, 4] ∧ h173.lv 3 = [1, 3, 4, 5] ∧ h173.lv 4 = [1, 3, 4, 5, 6] ∧ h173.lv 5 = [1, 3, 4, 5, 6, 7] ∧ h173.lv 6 = [1, 3, 4, 5, 6, 7, 35] ∧ h173.lv 7 = [1, 3, 4, 5, 6, 7, 35, 36] ∧ h173.lv 8 = [1, 3, 4, 5, 6, 7, 35, 36] ∧ h173.lv 9 = [1, 6, 7] ∧ h173.lv 10 = [1, 3, 4, 5, 6, 7, 35, 40] ∧ h173.lv 11 = [1, 6, 7] ∧ h173.lv 12 = [1, 3, 4, 5, 6, 7, 35, 51] ∧ h173.lv 13 = [1, 6, 7] ∧ h173.lv 14 = [1, 3, 5, 6, 7, 35, 67] ∧ h173.lv 15 = [1, 6, 7] ∧ h173.lv 16 = [1, 5, 6, 7, 35, 87] ∧ h173.lv 17 = [1, 7] ∧ h173.lv 18 = [1, 6, 7] ∧ h173.lv 19 = [1, 5, 6, 7, 35, 90] ∧ h173.lv 20 = [1, 5, 6, 7, 35, 90] ∧ h173.lv 21 = [1, 7] ∧ h173.lv 22 = [1, 6, 7] ∧ h173.lv 23 = [1, 6, 7, 94] ∧ h173.lv 24 = [1, 6, 7] ∧ h173.lv 25 = [1, 6, 124] ∧ h173.lv 26 = [2] ∧ h173.lv 27 = [1, 6, 8] ∧ h173.lv 28 = [1, 6, 8, 127] ∧ h173.lv 29 = [1, 6, 8] ∧ h173.lv 30 = [1, 6, 8, 9] ∧ h173.lv 31 = [1, 6, 8, 137] ∧ h173.lv 32 = [2] ∧ h173.lv 33 = [2] := ⟨rfl, rfl, rfl, rfl, rfl, rfl, rfl, rfl, rfl, rfl, rfl, rfl, rfl, rfl, rfl, rfl, rfl, rfl, rfl, rfl, rfl, rfl, rfl, rfl, rfl, rfl, rfl, rfl, rfl, rfl, rfl, rfl, rfl, rfl⟩
@[go_sem] theorem h173_g (k : Nat) : h173.ct k = none := rfl
@[go_sem] theorem h173_z (k : Nat) : h173.at k = [] := rfl
@[go_sem] theorem h173_y (k : Nat) : h173.dn k = false := Eq.trans rfl rfl
theorem h173_d : Tryz.f173.body.any (drawsOk h173) = true := by kernel_rfl
@[go_sem] theorem h173_t : h173.tk = [] := rfl
@[go_sem] theorem h173_m : h173.mt = [] := rfl
@[go_sem] theorem h173_p : h173.pc = [12, 135] := rfl
theorem call173 : callable Tryz.prog 173 = true := by kernel_rfl
def h96 : Hint := ⟨[(0, [1]), (1, [1, 3]), (2, [1, 3, 4]), (3, [1, 3, 4, 5]), (4, [1, 3, 4, 5, 6]), (5, [1, 3, 4, 5, 6, 7]), (6, [1, 3, 4, 5, 6, 7, 26]), (7, [1, 3, 4, 5, 6, 7, 26, 27]), (8, [1, 6, 7]), (9, [1, 3, 4, 5, 6, 7, 26, 35]), (10, [1, 6, 7]), (11, [1, 4, 5, 6, 7, 26, 51]), (12, [1, 4, 5, 6, 7, 26, 51]), (13, [1, 7]), (14, [1, 6, 7]), (15, [1, 4, 5, 6, 7, 58]), (16, [1, 7]), (17, [1, 6, 7]), (18, [1, 6, 72]), (19, [2]), (20, [1, 6, 8]), (21, [1, 6, 8, 75]), (22, [1, 6, 8]), (23, [1, 6, 8, 9]), (24, [1, 6, 8, 85]), (25, [2]), (26, [2])], [], [], [], [12, 16, 31, 83], [], []⟩
@[go_sem] theorem h96_l : h96.lv 0 = [1] ∧ h96.lv 1 = [1, 3] ∧ h96.lv 2 = [1, 3, 4] ∧ h96.lv 3 = [1, 3, 4, 5] ∧ h96.lv 4 = [1, 3, 4, 5, 6] ∧ h96.lv 5 = [1, 3, 4, 5, 6, 7] ∧ h96.lv 6 = [1, 3, 4, 5, 6, 7, 26] ∧ h96.lv 7 = [1, 3, 4, 5, 6, 7, 26, 27] ∧ h96.lv 8 = [1, 6, 7] ∧ h96.lv 9 = [1, 3, 4, 5, 6, 7, 26, 35] ∧ h96.lv 10 = [1, 6, 7] ∧ h96.lv 11 = [1, 4, 5, 6, 7, 26, 51] ∧ h96.lv 12 = [1, 4, 5, 6, 7, 26, 51] ∧ h96.lv 13 = [1, 7] ∧ h96.lv 14 = [1, 6, 7] ∧ h96.lv 15 = [1, 4, 5, 6, 7, 58] ∧ h96.lv 16 = [1, 7] ∧ h96.lv 17 = [1, 6, 7] ∧ h96.lv 18 = [1, 6, 72] ∧ h96.lv 19 = [2] ∧ h96.lv 20 = [1, 6, 8] ∧ h96.lv 21 = [1, 6, 8, 75] ∧ h96.lv 22 = [1, 6, 8] ∧ h96.lv 23 = [1, 6, 8, 9] ∧ h96.lv 24 = [1, 6, 8, 85] ∧ h96.lv 25 = [2] ∧ h96.lv 26 = [2] := ⟨rfl, rfl, rfl, rfl, rfl, rfl, rfl, rfl, rfl, rfl, rfl, rfl, rfl, rfl, rfl, rfl, rfl, rfl, rfl, rfl, rfl, rfl, rfl, rfl, rfl, rfl, rfl⟩
@[go_sem] theorem h96_g (k : Nat) : h96.ct k = none := rfl
@[go_sem] theorem h96_z (k : Nat) : h96.at k = [] := rfl
@[go_sem] theorem h96_y (k : Nat) : h96.dn k = false := Eq.trans rfl rfl
theorem h96_d : Tryz.f96.body.any (drawsOk h96) = true := by kernel_rfl
@[go_sem] theorem h96_t : h96.tk = [] := rfl
@[go_sem] theorem h96_m : h96.mt = [] := rfl
@[go_sem] theorem h96_p : h96.pc = [12, 16, 31, 83] := rfl
theorem call96 : callable Tryz.prog 96 = true := by kernel_rfl
def h41 : Hint := ⟨[(0, [1]), (1, [2])], [], [], [], [4, 6, 7], [], []⟩
@[go_sem] theorem h41_l : h41.lv 0 = [1] ∧ h41.lv 1 = [2] := ⟨rfl, rfl⟩
@[go_sem] theorem h41_g (k : Nat) : h41.ct k = none := rfl
@[go_sem] theorem h41_z (k : Nat) : h41.at k = [] := rfl
@[go_sem] theorem h41_y (k : Nat) : h41.dn k = false := Eq.trans rfl rfl
theorem h41_d : Tryz.f41.body.any (drawsOk h41) = true := by kernel_rfl
@[go_sem] theorem h41_t : h41.tk = [] := rfl
@[go_sem] theorem h41_m : h41.mt = [] := rfl
@[go_sem] theorem h41_p : h41.pc = [4, 6, 7] := rfl
theorem call41 : callable Tryz.prog 41 = true := by kernel_rfl
def h38 : Hint := ⟨[(0, [2, 3]), (1, [2, 3, 47]), (2, [4]), (3, [2, 3, 5]), (4, [2, 3, 5, 52]), (5, [2, 3, 5]), (6, [2, 3, 5, 65]), (7, [4]), (8, [4])], [], [], [], [], [], []⟩
@[go_sem] theorem h38_l : h38.lv 0 = [2, 3] ∧ h38.lv 1 = [2, 3, 47] ∧ h38.lv 2 = [4] ∧ h38.lv 3 = [2, 3, 5] ∧ h38.lv 4 = [2, 3, 5, 52] ∧ h38.lv 5 = [2, 3, 5] ∧ h38.lv 6 = [2, 3, 5, 65] ∧ h38.lv 7 = [4] ∧ h38.lv 8 = [4] := ⟨rfl, rfl, rfl, rfl, rfl, rfl, rfl, rfl, rfl⟩
@[go_sem] theorem h38_g (k : Nat) : h38.ct k = none := rfl
@[go_sem] theorem h38_z (k : Nat) : h38.at k = [] := rfl
@[go_sem] theorem h38_y (k : Nat) : h38.dn k = false := Eq.trans rfl rfl
theorem h38_d : Tryz.f38.body.any (drawsOk h38) = true := by kernel_rfl
@[go_sem] theorem h38_t : h38.tk = [] := rfl
@[go_sem] theorem h38_m : h38.mt = [] := rfl
@[go_sem] theorem h38_p : h38.pc = [] := rfl
theorem call38 : callable Tryz.prog 38 = true := by kernel_rfl
def h291 : Hint := ⟨[(0, [1]), (1, [1, 3]), (2, [1, 12]), (3, [2]), (4, [1, 4]), (5, [1, 29]), (6, [2]), (7, [1, 5]), (8, [1, 5, 34]), (9, [1, 5]), (10, [1, 5, 6]), (11, [1, 5, 44]), (12, [2]), (13, [1, 7]), (14, [1, 7, 8]), (15, [1, 7, 8, 57]), (16, [1, 7, 8, 57, 58]), (17, [2]), (18, [1, 7, 8, 57, 69]), (19, [2]), (20, [1, 7, 8, 57, 77]), (21, [2]), (22, [1, 7, 8, 57, 97]), (23, [2]), (24, [1, 7, 8, 57, 117]), (25, [2]), (26, [1, 123]), (27, [2]), (28, [2])], [], [], [], [11, 15, 42, 47], [], []⟩
@[go_sem] theorem h291_l : h291.lv 0 = [1] ∧ h291.lv 1 = [1, 3] ∧ h291.lv 2 = [1, 12] ∧ h291.lv 3 = [2] ∧ h291.lv 4 = [1, 4] ∧ h291.lv 5 = [1, 29] ∧ h291.lv 6 = [2] ∧ h291.lv 7 = [1, 5] ∧ h291.lv 8 = [1, 5, 34] ∧ h291.lv 9 = [1, 5] ∧ h291.lv 10 = [1, 5, 6] ∧ h291.lv 11 = [1, 5, 44] ∧ h291.lv 12 = [2] ∧ h291.lv 13 = [1, 7] ∧ h291.lv 14 = [1, 7, 8] ∧ h291.lv 15 = [1, 7, 8, 57] ∧ h291.lv 16 = [1, 7, 8, 57, 58] ∧ h291.lv 17 = [2] ∧ h291.lv 18 = [1, 7, 8, 57, 69] ∧ h291.lv 19 = [2] ∧ h291.lv 20 = [1, 7, 8, 57, 77] ∧ h291.lv 21 = [2] ∧ h291.lv 22 = [1, 7, 8, 57, 97] ∧ h291.lv 23 = [2] ∧ h291.lv 24 = [1, 7, 8, 57, 117] ∧ h291.lv 25 = [2] ∧ h291.lv 26 = [1, 123] ∧ h291.lv 27 = [2] ∧ h291.lv 28 = [2] := ⟨rfl, rfl, rfl, rfl, rfl, rfl, rfl, rfl, rfl, rfl, rfl, rfl, rfl, rfl, rfl, rfl, rfl, rfl, rfl, rfl, rfl, rfl, rfl, rfl, rfl, rfl, rfl, rfl, rfl⟩
@[go_sem] theorem h291_g (k : Nat) : h291.ct k = none := rfl
@[go_sem] theorem h291_z (k : Nat) : h291.at k = [] := rfl
@[go_sem] theorem h291_y (k : Nat) : h291.dn k = false := Eq.trans rfl rfl
theorem h291_d : Tryz.f291.body.any (drawsOk h291) = true := by kernel_rfl
@[go_sem] theorem h291_t : h291.tk = [] := rfl
@[go_sem] theorem h291_m : h291.mt = [] := rfl
@[go_sem] theorem h291_p : h291.pc = [11, 15, 42, 47] := rfl
theorem call291 : callable Tryz.prog 291 = true := by kernel_rfl
def h254 : Hint := ⟨[(0, [1]), (1, [3]), (2, [7]), (3, [2]), (4, [2])], [], [], [], [5], [], []⟩
@[go_sem] theorem h254_l : h254.lv 0 = [1] ∧ h254.lv 1 = [3] ∧ h254.lv 2 = [7] ∧ h254.lv 3 = [2] ∧ h254.lv 4 = [2] := ⟨rfl, rfl, rfl, rfl, rfl⟩
@[go_sem] theorem h254_g (k : Nat) : h254.ct k = none := rfl
@[go_sem] theorem h254_z (k : Nat) : h254.at k = [] := rfl
@[go_sem] theorem h254_y (k : Nat) : h254.dn k = false := Eq.trans rfl rfl
theorem h254_d : Tryz.f254.body.any (drawsOk h254) = true := by kernel_rfl
@[go_sem] theorem h254_t : h254.tk = [] := rfl
@[go_sem] theorem h254_m : h254.mt = [] := rfl
@[go_sem] theorem h254_p : h254.pc = [5] := rfl
theorem call254 : callable Tryz.prog 254 = true := by kernel_rfl
def h209 : Hint := ⟨[(0, [0]), (1, [0, 8]), (2, [2]), (3, [0, 3]), (4, [0, 3, 12]), (5, [0, 3]), (6, [0, 3, 4]), (7, [0, 3, 4, 22]), (8, [2]), (9, [0, 3, 5]), (10, [0, 3, 5, 31]), (11, [2]), (12, [2])], [], [], [], [20, 29], [], []⟩
@[go_sem] theorem h209_l : h209.lv 0 = [0] ∧ h209.lv 1 = [0, 8] ∧ h209.lv 2 = [2] ∧ h209.lv 3 = [0, 3] ∧ h209.lv 4 = [0, 3, 12] ∧ h209.lv 5 = [0, 3] ∧ h209.lv 6 = [0, 3, 4] ∧ h209.lv 7 = [0, 3, 4, 22] ∧ h209.lv 8 = [2] ∧ h209.lv 9 = [0, 3, 5] ∧ h209.lv 10 = [0, 3, 5, 31] ∧ h209.lv 11 = [2] ∧ h209.lv 12 = [2] := ⟨rfl, rfl, rfl, rfl, rfl, rfl, rfl, rfl, rfl, rfl, rfl, rfl, rfl⟩
@[go_sem] theorem h209_g (k : Nat) : h209.ct k = none := rfl
@[go_sem] theorem h209_z (k : Nat) : h209.at k = [] := rfl
@[go_sem] theorem h209_y (k : Nat) : h209.dn k = false := Eq.trans rfl rfl
theorem h209_d : Tryz.f209.body.any (drawsOk h209) = true := by kernel_rfl
@[go_sem] theorem h209_t : h209.tk = [] := rfl
@[go_sem] theorem h209_m : h209.mt = [] := rfl
@[go_sem] theorem h209_p : h209.pc = [20, 29] := rfl
theorem call209 : callable Tryz.prog 209 = true := by kernel_rfl
def h176 : Hint := ⟨[(0, [0]), (1, [0])], [], [], [], [], [], []⟩
@[go_sem] theorem h176_l : h176.lv 0 = [0] ∧ h176.lv 1 = [0] := ⟨rfl, rfl⟩
@[go_sem] theorem h176_g (k : Nat) : h176.ct k = none := rfl
@[go_sem] theorem h176_z (k : Nat) : h176.at k = [] := rfl
@[go_sem] theorem h176_y (k : Nat) : h176.dn k = false := Eq.trans rfl rfl
theorem h176_d : Tryz.f176.body.any (drawsOk h176) = true := by kernel_rfl
@[go_sem] theorem h176_t : h176.tk = [] := rfl
@[go_sem] theorem h176_m : h176.mt = [] := rfl
@[go_sem] theorem h176_p : h176.pc = [] := rfl
theorem call176 : callable Tryz.prog 176 = true := by kernel_rfl
def h98 : Hint := ⟨[(0, [0, 1, 4]), (1, [0, 1, 4, 8]), (2, [4, 5]), (3, [0, 1, 4, 6]), (4, [0, 1, 4, 6, 13]), (5, [0, 1, 4, 6]), (6, [0, 1, 4, 6, 22]), (7, [4, 5]), (8, [4, 5])], [23], [], [], [9], [], []⟩
@[go_sem] theorem h98_l : h98.lv 0 = [0, 1, 4] ∧ h98.lv 1 = [0, 1, 4, 8] ∧ h98.lv 2 = [4, 5] ∧ h98.lv 3 = [0, 1, 4, 6] ∧ h98.lv 4 = [0, 1, 4, 6, 13] ∧ h98.lv 5 = [0, 1, 4, 6] ∧ h98.lv 6 = [0, 1, 4, 6, 22] ∧ h98.lv 7 = [4, 5] ∧ h98.lv 8 = [4, 5] := ⟨rfl, rfl, rfl, rfl, rfl, rfl, rfl, rfl, rfl⟩
@[go_sem] theorem h98_g (k : Nat) : h98.ct k = none := rfl
@[go_sem] theorem h98_z (k : Nat) : h98.at k = [] := rfl
@[go_sem] theorem h98_y (k : Nat) : h98.dn k = false := Eq.trans rfl rfl
theorem h98_d : Tryz.f98.body.any (drawsOk h98) = true := by kernel_rfl
@[go_sem] theorem h98_t : h98.tk = [23] := rfl
@[go_sem] theorem h98_m : h98.mt = [] := rfl
@[go_sem] theorem h98_p : h98.pc = [9] := rfl
theorem call98 : callable Tryz.prog 98 = true := by kernel_rfl
def h215 : Hint := ⟨[(0, [1]), (1, [1, 3]), (2, [1, 3, 4]), (3, [1, 3, 4, 11]), (4, [1, 3, 4]), (5, [1, 3, 4]), (6, [2])], [14, 22], [], [], [20], [], []⟩
@[go_sem] theorem h215_l : h215.lv 0 = [1] ∧ h215.lv 1 = [1, 3] ∧ h215.lv 2 = [1, 3, 4] ∧ h215.lv 3 = [1, 3, 4, 11] ∧ h215.lv 4 = [1, 3, 4] ∧ h215.lv 5 = [1, 3, 4] ∧ h215.lv 6 = [2] := ⟨rfl, rfl, rfl, rfl, rfl, rfl, rfl⟩
@[go_sem] theorem h215_g (k : Nat) : h215.ct k = none := rfl
@[go_sem] theorem h215_z (k : Nat) : h215.at k = [] := rfl
@[go_sem] theorem h215_y (k : Nat) : h215.dn k = false := Eq.trans rfl rfl
theorem h215_d : Tryz.f215.body.any (drawsOk h215) = true := by kernel_rfl
@[go_sem] theorem h215_t : h215.tk = [14, 22] := rfl
@[go_sem] theorem h215_m : h215.mt = [] := rfl
@[go_sem] theorem h215_p : h215.pc = [20] := rfl
theorem call215 : callable Tryz.prog 215 = true := by kernel_rfl
def h235 : Hint := ⟨[(0, [0]), (1, [0, 3]), (2, [0, 3, 4]), (3, [0, 3, 4, 7]), (4, [0, 3, 4]), (5, [0, 3, 4]), (6, [2])], [], [], [], [], [], []⟩
@[go_sem] theorem h235_l : h235.lv 0 = [0] ∧ h235.lv 1 = [0, 3] ∧ h235.lv 2 = [0, 3, 4] ∧ h235.lv 3 = [0, 3, 4, 7] ∧ h235.lv 4 = [0, 3, 4] ∧ h235.lv 5 = [0, 3, 4] ∧ h235.lv 6 = [2] := ⟨rfl, rfl, rfl, rfl, rfl, rfl, rfl⟩
@[go_sem] theorem h235_g (k : Nat) : h235.ct k = none := rfl
@[go_sem] theorem h235_z (k : Nat) : h235.at k = [] := rfl
@[go_sem] theorem h235_y (k : Nat) : h235.dn k = false := Eq.trans rfl rfl
theorem h235_d : Tryz.f235.body.any (drawsOk h235) = true := by kernel_rfl
@[go_sem] theorem h235_t : h235.tk = [] := rfl
@[go_sem] theorem h235_m : h235.mt = [] := rfl
@[go_sem] theorem h235_p : h235.pc = [] := rfl
theorem call235 : callable Tryz.prog 235 = true := by kernel_rfl
def h255 : Hint := ⟨[(0, [1]), (1, [2])], [], [], [], [5], [], []⟩
@[go_sem] theorem h255_l : h255.lv 0 = [1] ∧ h255.lv 1 = [2] := ⟨rfl, rfl⟩
@[go_sem] theorem h255_g (k : Nat) : h255.ct k = none := rfl
@[go_sem] theorem h255_z (k : Nat) : h255.at k = [] := rfl
@[go_sem] theorem h255_y (k : Nat) : h255.dn k = false := Eq.trans rfl rfl
theorem h255_d : Tryz.f255.body.any (drawsOk h255) = true := by kernel_rfl
@[go_sem] theorem h255_t : h255.tk = [] := rfl
@[go_sem] theorem h255_m : h255.mt = [] := rfl
@[go_sem] theorem h255_p : h255.pc = [5] := rfl
theorem call255 : callable Tryz.prog 255 = true := by kernel_rfl
def h216 : Hint := ⟨[(0, [0, 3]), (1, [0, 3, 20]), (2, [4]), (3, [3, 5, 6]), (4, [3, 5, 29]), (5, [4]), (6, [3, 5, 7]), (7, [3, 5, 7, 34]), (8, [3, 5, 7]), (9, [52]), (10, [4]), (11, [4])], [22], [], [], [25, 39], [], []⟩
@[go_sem] theorem h216_l : h216.lv 0 = [0, 3] ∧ h216.lv 1 = [0, 3, 20] ∧ h216.lv 2 = [4] ∧ h216.lv 3 = [3, 5, 6] ∧ h216.lv 4 = [3, 5, 29] ∧ h216.lv 5 = [4] ∧ h216.lv 6 = [3, 5, 7] ∧ h216.lv 7 = [3, 5, 7, 34] ∧ h216.lv 8 = [3, 5, 7] ∧ h216.lv 9 = [52] ∧ h216.lv 10 = [4] ∧ h216.lv 11 = [4] := ⟨rfl, rfl, rfl, rfl, rfl, rfl, rfl, rfl, rfl, rfl, rfl, rfl⟩
@[go_sem] theorem h216_g (k : Nat) : h216.ct k = none := rfl
@[go_sem] theorem h216_z (k : Nat) : h216.at k = [] := rfl
@[go_sem] theorem h216_y (k : Nat) : h216.dn k = false := Eq.trans rfl rfl
theorem h216_d : Tryz.f216.body.any (drawsOk h216) = true := by kernel_rfl
@[go_sem] theorem h216_t : h216.tk = [22] := rfl
@[go_sem] theorem h216_m : h216.mt = [] := rfl
@[go_sem] theorem h216_p : h216.pc = [25, 39] := rfl
theorem call216 : callable Tryz.prog 216 = true := by kernel_rfl
def h150 : Hint := ⟨[(0, [0, 3]), (1, [0, 5]), (2, [0, 5, 6]), (3, [0, 5, 6, 13]), (4, [0, 5, 6]), (5, [0, 5, 6, 7]), (6, [0, 5, 6, 7, 23]), (7, [4]), (8, [4])], [], [], [], [9, 21], [], []⟩
@[go_sem] theorem h150_l : h150.lv 0 = [0, 3] ∧ h150.lv 1 = [0, 5] ∧ h150.lv 2 = [0, 5, 6] ∧ h150.lv 3 = [0, 5, 6, 13] ∧ h150.lv 4 = [0, 5, 6] ∧ h150.lv 5 = [0, 5, 6, 7] ∧ h150.lv 6 = [0, 5, 6, 7, 23] ∧ h150.lv 7 = [4] ∧ h150.lv 8 = [4] := ⟨rfl, rfl, rfl, rfl, rfl, rfl, rfl, rfl, rfl⟩
@[go_sem] theorem h150_g (k : Nat) : h150.ct k = none := rfl
@[go_sem] theorem h150_z (k : Nat) : h150.at k = [] := rfl
@[go_sem] theorem h150_y (k : Nat) : h150.dn k = false := Eq.trans rfl rfl
theorem h150_d : Tryz.f150.body.any (drawsOk h150) = true := by kernel_rfl
@[go_sem] theorem h150_t : h150.tk = [] := rfl
@[go_sem] theorem h150_m : h150.mt = [] := rfl
@[go_sem] theorem h150_p : h150.pc = [9, 21] := rfl
theorem call150 : callable Tryz.prog 150 = true := by kernel_rfl
def h213 : Hint := ⟨[(0, [1]), (1, [1, 3]), (2, [1, 3, 4]), (3, [1, 3, 4, 11]), (4, [1, 3, 4]), (5, [1, 3, 4]), (6, [2])], [14, 22], [], [], [20], [], []⟩
@[go_sem] theorem h213_l : h213.lv 0 = [1] ∧ h213.lv 1 = [1, 3] ∧ h213.lv 2 = [1, 3, 4] ∧ h213.lv 3 = [1, 3, 4, 11] ∧ h213.lv 4 = [1, 3, 4] ∧ h213.lv 5 = [1, 3, 4] ∧ h213.lv 6 = [2] := ⟨rfl, rfl, rfl, rfl, rfl, rfl, rfl⟩
@[go_sem] theorem h213_g (k : Nat) : h213.ct k = none := rfl
@[go_sem] theorem h213_z (k : Nat) : h213.at k = [] := rfl
@[go_sem] theorem h213_y (k : Nat) : h213.dn k = false := Eq.trans rfl rfl
theorem h213_d : Tryz.f213.body.any (drawsOk h213) = true := by kernel_rfl
@[go_sem] theorem h213_t : h213.tk = [14, 22] := rfl
@[go_sem] theorem h213_m : h213.mt = [] := rfl
@[go_sem] theorem h213_p : h213.pc = [20] := rfl
theorem call213 : callable Tryz.prog 213 = true := by kernel_rfl
def h210 : Hint := ⟨[(0, [0, 3]), (1, [0, 3, 5]), (2, [0, 3, 5, 13]), (3, [4]), (4, [0, 5, 6]), (5, [0, 5, 6, 7]), (6, [0, 5, 6, 7, 20]), (7, [0, 5, 6, 7]), (8, [0, 5, 6, 7, 28]), (9, [0, 5, 6, 7]), (10, [0, 5, 6, 7, 41]), (11, [0, 5, 6, 7, 8, 9]), (12, [0, 5, 6, 7, 8, 53]), (13, [0, 5, 6, 7]), (14, [0, 5, 6, 7, 61]), (15, [0, 5, 6, 7]), (16, [0, 5, 6, 7, 63]), (17, [4]), (18, [4])], [], [], [], [11, 16, 35, 49, 60], [(7, 1)], []⟩
@[go_sem] theorem h210_l : h210.lv 0 = [0, 3] ∧ h210.lv 1 = [0, 3, 5] ∧ h210.lv 2 = [0, 3, 5, 13] ∧ h210.lv 3 = [4] ∧ h210.lv 4 = [0, 5, 6] ∧ h210.lv 5 = [0, 5, 6, 7] ∧ h210.lv 6 = [0, 5, 6, 7, 20] ∧ h210.lv 7 = [0, 5, 6, 7] ∧ h210.lv 8 = [0, 5, 6, 7, 28] ∧ h210.lv 9 = [0, 5, 6, 7] ∧ h210.lv 10 = [0, 5, 6, 7, 41] ∧ h210.lv 11 = [0, 5, 6, 7, 8, 9] ∧ h210.lv 12 = [0, 5, 6, 7, 8, 53] ∧ h210.lv 13 = [0, 5, 6, 7] ∧ h210.lv 14 = [0, 5, 6, 7, 61] ∧ h210.lv 15 = [0, 5, 6, 7] ∧ h210.lv 16 = [0, 5, 6, 7, 63] ∧ h210.lv 17 = [4] ∧ h210.lv 18 = [4] := ⟨rfl, rfl, rfl, rfl, rfl, rfl, rfl, rfl, rfl, rfl, rfl, rfl, rfl, rfl, rfl, rfl, rfl, rfl, rfl⟩
@[go_sem] theorem h210_g0 : h210.ct 0 = none := rfl
@[go_sem] theorem h210_g1 : h210.ct 1 = none := rfl
@[go_sem] theorem h210_g2 : h210.ct 2 = none := rfl
@[go_sem] theorem h210_g3 : h210.ct 3 = none := rfl
@[go_sem] theorem h210_g4 : h210.ct 4 = none := rfl
@[go_sem] theorem h210_g5 : h210.ct 5 = none := rfl
@[go_sem] theorem h210_g6 : h210.ct 6 = none := rfl
@[go_sem] theorem h210_g7 : h210.ct 7 = some 1 := rfl
@[go_sem] theorem h210_g8 : h210.ct 8 = none := rfl
@[go_sem] theorem h210_g9 : h210.ct 9 = none := rfl
@[go_sem] theorem h210_g10 : h210.ct 10 = none := rfl
@[go_sem] theorem h210_g11 : h210.ct 11 = none := rfl
@[go_sem] theorem h210_g12 : h210.ct 12 = none := rfl
@[go_sem] theorem h210_g13 : h210.ct 13 = none := rfl
@[go_sem] theorem h210_g14 : h210.ct 14 = none := rfl
@[go_sem] theorem h210_g15 : h210.ct 15 = none := rfl
@[go_sem] theorem h210_g16 : h210.ct 16 = none := rfl
@[go_sem] theorem h210_g17 : h210.ct 17 = none := rfl
@[go_sem] theorem h210_g18 : h210.ct 18 = none := rfl
@[go_sem] theorem h210_z (k : Nat) : h210.at k = [] := rfl
@[go_sem] theorem h210_y (k : Nat) : h210.dn k = false := Eq.trans rfl rfl
theorem h210_d : Tryz.f210.body.any (drawsOk h210) = true := by kernel_rfl
@[go_sem] theorem h210_t : h210.tk = [] := rfl
@[go_sem] theorem h210_m : h210.mt = [] := rfl
@[go_sem] theorem h210_p : h210.pc = [11, 16, 35, 49, 60] := rfl
theorem call210 : callable Tryz.prog 210 = true := by kernel_rfl
def h211 : Hint := ⟨[(0, [0, 3]), (1, [0, 3, 5]), (2, [0, 3, 5, 22]), (3, [4]), (4, [0, 3, 6]), (5, [0, 3, 6, 30]), (6, [0, 3, 6]), (7, [0, 3, 6, 7]), (8, [0, 3, 6, 7, 39]), (9, [0, 3, 6, 7]), (10, [0, 3, 6, 7, 9]), (11, [0, 3, 6, 7, 52]), (12, [4]), (13, [0, 3, 10]), (14, [0, 3, 10, 57]), (15, [0, 3, 10]), (16, [0, 3, 10, 11]), (17, [0, 3, 10, 11, 62]), (18, [0, 3, 10, 11]), (19, [0, 3, 10, 11, 75]), (20, [4]), (21, [3, 12]), (22, [92]), (23, [4]), (24, [4])], [31, 77], [], [], [15, 48, 80, 90], [(9, 1)], []⟩
@[go_sem] theorem h211_l : h211.lv 0 = [0, 3] ∧ h211.lv 1 = [0, 3, 5] ∧ h211.lv 2 = [0, 3, 5, 22] ∧ h211.lv 3 = [4] ∧ h211.lv 4 = [0, 3, 6] ∧ h211.lv 5 = [0, 3, 6, 30] ∧ h211.lv 6 = [0, 3, 6] ∧ h211.lv 7 = [0, 3, 6, 7] ∧ h211.lv 8 = [0, 3, 6, 7, 39] ∧ h211.lv 9 = [0, 3, 6, 7] ∧ h211.lv 10 = [0, 3, 6, 7, 9] ∧ h211.lv 11 = [0, 3, 6, 7, 52] ∧ h211.lv 12 = [4] ∧ h211.lv 13 = [0, 3, 10] ∧ h211.lv 14 = [0, 3, 10, 57] ∧ h211.lv 15 = [0, 3, 10] ∧ h211.lv 16 = [0, 3, 10, 11] ∧ h211.lv 17 = [0, 3, 10, 11, 62] ∧ h211.lv 18 = [0, 3, 10, 11] ∧ h211.lv 19 = [0, 3, 10, 11, 75] ∧ h211.lv 20 = [4] ∧ h211.lv 21 = [3, 12] ∧ h211.lv 22 = [92] ∧ h211.lv 23 = [4] ∧ h211.lv 24 = [4] := ⟨rfl, rfl, rfl, rfl, rfl, rfl, rfl, rfl, rfl, rfl, rfl, rfl, rfl, rfl, rfl, rfl, rfl, rfl, rfl, rfl, rfl, rfl, rfl, rfl, rfl⟩
@[go_sem] theorem h211_g0 : h211.ct 0 = none := rfl
@[go_sem] theorem h211_g1 : h211.ct 1 = none := rfl
@[go_sem] theorem h211_g2 : h211.ct 2 = none := rfl
@[go_sem] theorem h211_g3 : h211.ct 3 = none := rfl
@[go_sem] theorem h211_g4 : h211.ct 4 = none := rfl
@[go_sem] theorem h211_g5 : h211.ct 5 = none := rfl
@[go_sem] theorem h211_g6 : h211.ct 6 = none := rfl
@[go_sem] theorem h211_g7 : h211.ct 7 = none := rfl
@[go_sem] theorem h211_g8 : h211.ct 8 = none := rfl
@[go_sem] theorem h211_g9 : h211.ct 9 = some 1 := rfl
@[go_sem] theorem h211_g10 : h211.ct 10 = none := rfl
@[go_sem] theorem h211_g11 : h211.ct 11 = none := rfl
@[go_sem] theorem h211_g12 : h211.ct 12 = none := rfl
@[go_sem] theorem h211_g13 : h211.ct 13 = none := rfl
@[go_sem] theorem h211_g14 : h211.ct 14 = none := rfl
@[go_sem] theorem h211_g15 : h211.ct 15 = none := rfl
@[go_sem] theorem h211_g16 : h211.ct 16 = none := rfl
@[go_sem] theorem h211_g17 : h211.ct 17 = none := rfl
@[go_sem] theorem h211_g18 : h211.ct 18 = none := rfl
@[go_sem] theorem h211_g19 : h211.ct 19 = none := rfl
@[go_sem] theorem h211_g20 : h211.ct 20 = none := rfl
@[go_sem] theorem h211_g21 : h211.ct 21 = none := rfl
@[go_sem] theorem h211_g22 : h211.ct 22 = none := rfl
@[go_sem] theorem h211_g23 : h211.ct 23 = none := rfl
@[go_sem] theorem h211_g24 : h211.ct 24 = none := rfl
@[go_sem] theorem h211_z (k : Nat) : h211.at k = [] := rfl
@[go_sem] theorem h211_y (k : Nat) : h211.dn k = false := Eq.trans rfl rfl
theorem h211_d : Tryz.f211.body.any (drawsOk h211) = true := by kernel_rfl
@[go_sem] theorem h211_t : h211.tk = [31, 77] := rfl
@[go_sem] theorem h211_m : h211.mt = [] := rfl
@[go_sem] theorem h211_p : h211.pc = [15, 48, 80, 90] := rfl
theorem call211 : callable Tryz.prog 211 = true := by kernel_rfl
def h166 : Hint := ⟨[(0, [0, 1]), (1, [0, 1, 10]), (2, [4]), (3, [0, 1, 5]), (4, [0, 1, 5, 14]), (5, [0, 1, 5]), (6, [0, 1, 5, 25]), (7, [4]), (8, [4])], [], [], [], [], [], []⟩
@[go_sem] theorem h166_l : h166.lv 0 = [0, 1] ∧ h166.lv 1 = [0, 1, 10] ∧ h166.lv 2 = [4] ∧ h166.lv 3 = [0, 1, 5] ∧ h166.lv 4 = [0, 1, 5, 14] ∧ h166.lv 5 = [0, 1, 5] ∧ h166.lv 6 = [0, 1, 5, 25] ∧ h166.lv 7 = [4] ∧ h166.lv 8 = [4] := ⟨rfl, rfl, rfl, rfl, rfl, rfl, rfl, rfl, rfl⟩
@[go_sem] theorem h166_g (k : Nat) : h166.ct k = none := rfl
@[go_sem] theorem h166_z (k : Nat) : h166.at k = [] := rfl
@[go_sem] theorem h166_y (k : Nat) : h166.dn k = false := Eq.trans rfl rfl
theorem h166_d : Tryz.f166.body.any (drawsOk h166) = true := by kernel_rfl
@[go_sem] theorem h166_t : h166.tk = [] := rfl
@[go_sem] theorem h166_m : h166.mt = [] := rfl
@[go_sem] theorem h166_p : h166.pc = [] := rfl
theorem call166 : callable Tryz.prog 166 = true := by kernel_rfl
def h256 : Hint := ⟨[(0, [1]), (1, [2])], [], [], [], [], [], []⟩
@[go_sem] theorem h256_l : h256.lv 0 = [1] ∧ h256.lv 1 = [2] := ⟨rfl, rfl⟩
@[go_sem] theorem h256_g (k : Nat) : h256.ct k = none := rfl
@[go_sem] theorem h256_z (k : Nat) : h256.at k = [] := rfl
@[go_sem] theorem h256_y (k : Nat) : h256.dn k = false := Eq.trans rfl rfl
theorem h256_d : Tryz.f256.body.any (drawsOk h256) = true := by kernel_rfl
@[go_sem] theorem h256_t : h256.tk = [] := rfl
@[go_sem] theorem h256_m : h256.mt = [] := rfl
@[go_sem] theorem h256_p : h256.pc = [] := rfl
theorem call256 : callable Tryz.prog 256 = true := by kernel_rfl
def h257 : Hint := ⟨[(0, [0, 1]), (1, [0, 1, 5]), (2, [0, 1, 5, 6]), (3, [0, 1, 5, 6, 12]), (4, [0, 1, 5, 6]), (5, [0, 1, 5, 6, 7]), (6, [0, 1, 5, 6]), (7, [4])], [24, 29], [], [], [21], [(4, 0)], []⟩
@[go_sem] theorem h257_l : h257.lv 0 = [0, 1] ∧ h257.lv 1 = [0, 1, 5] ∧ h257.lv 2 = [0, 1, 5, 6] ∧ h257.lv 3 = [0, 1, 5, 6, 12] ∧ h257.lv 4 = [0, 1, 5, 6] ∧ h257.lv 5 = [0, 1, 5, 6, 7] ∧ h257.lv 6 = [0, 1, 5, 6] ∧ h257.lv 7 = [4] := ⟨rfl, rfl, rfl, rfl, rfl, rfl, rfl, rfl⟩
@[go_sem] theorem h257_g0 : h257.ct 0 = none := rfl
@[go_sem] theorem h257_g1 : h257.ct 1 = none := rfl
@[go_sem] theorem h257_g2 : h257.ct 2 = none := rfl
@[go_sem] theorem h257_g3 : h257.ct 3 = none := rfl
@[go_sem] theorem h257_g4 : h257.ct 4 = some 0 := rfl
@[go_sem] theorem h257_g5 : h257.ct 5 = none := rfl
@[go_sem] theorem h257_g6 : h257.ct 6 = none := rfl
@[go_sem] theorem h257_g7 : h257.ct 7 = none := rfl
@[go_sem] theorem h257_z (k : Nat) : h257.at k = [] := rfl
@[go_sem] theorem h257_y (k : Nat) : h257.dn k = false := Eq.trans rfl rfl
theorem h257_d : Tryz.f257.body.any (drawsOk h257) = true := by kernel_rfl
@[go_sem] theorem h257_t : h257.tk = [24, 29] := rfl
@[go_sem] theorem h257_m : h257.mt = [] := rfl
@[go_sem] theorem h257_p : h257.pc = [21] := rfl
theorem call257 : callable Tryz.prog 257 = true := by kernel_rfl
def h258 : Hint := ⟨[(0, [0]), (1, [3]), (2, [3, 4]), (3, [2]), (4, [3, 6]), (5, [3, 6]), (6, [2]), (7, [3, 9]), (8, [9]), (9, [2]), (10, [2])], [], [], [], [], [], []⟩
@[go_sem] theorem h258_l : h258.lv 0 = [0] ∧ h258.lv 1 = [3] ∧ h258.lv 2 = [3, 4] ∧ h258.lv 3 = [2] ∧ h258.lv 4 = [3, 6] ∧ h258.lv 5 = [3, 6] ∧ h258.lv 6 = [2] ∧ h258.lv 7 = [3, 9] ∧ h258.lv 8 = [9] ∧ h258.lv 9 = [2] ∧ h258.lv 10 = [2] := ⟨rfl, rfl, rfl, rfl, rfl, rfl, rfl, rfl, rfl, rfl, rfl⟩
@[go_sem] theorem h258_g (k : Nat) : h258.ct k = none := rfl
@[go_sem] theorem h258_z (k : Nat) : h258.at k = [] := rfl
@[go_sem] theorem h258_y (k : Nat) : h258.dn k = false := Eq.trans rfl rfl
theorem h258_d : Tryz.f258.body.any (drawsOk h258) = true := by kernel_rfl
@[go_sem] theorem h258_t : h258.tk = [] := rfl
@[go_sem] theorem h258_m : h258.mt = [] := rfl
@[go_sem] theorem h258_p : h258.pc = [] := rfl
theorem call258 : callable Tryz.prog 258 = true := by kernel_rfl
def h212 : Hint := ⟨[(0, [0, 4, 5]), (1, [0, 4, 5, 27]), (2, [6]), (3, [4, 5, 7]), (4, [6])], [], [], [], [9, 12, 31, 35, 36, 41, 44], [], []⟩
@[go_sem] theorem h212_l : h212.lv 0 = [0, 4, 5] ∧ h212.lv 1 = [0, 4, 5, 27] ∧ h212.lv 2 = [6] ∧ h212.lv 3 = [4, 5, 7] ∧ h212.lv 4 = [6] := ⟨rfl, rfl, rfl, rfl, rfl⟩
@[go_sem] theorem h212_g (k : Nat) : h212.ct k = none := rfl
@[go_sem] theorem h212_z (k : Nat) : h212.at k = [] := rfl
@[go_sem] theorem h212_y (k : Nat) : h212.dn k = false := Eq.trans rfl rfl
theorem h212_d : Tryz.f212.body.any (drawsOk h212) = true := by kernel_rfl
@[go_sem] theorem h212_t : h212.tk = [] := rfl
@[go_sem] theorem h212_m : h212.mt = [] := rfl
@[go_sem] theorem h212_p : h212.pc = [9, 12, 31, 35, 36, 41, 44] := rfl
theorem call212 : callable Tryz.prog 212 = true := by kernel_rfl
def h146 : Hint := ⟨[(0, [0, 1]), (1, [0, 1, 5]), (2, [0, 1, 5, 16]), (3, [4]), (4, [0, 1, 6]), (5, [0, 1, 6, 21]), (6, [0, 1, 6]), (7, [0, 1, 6, 7]), (8, [0, 1, 6, 7, 32]), (9, [4]), (10, [0, 1, 6, 8]), (11, [0, 1, 6, 8, 42]), (12, [4]), (13, [0, 1, 9]), (14, [0, 1, 9, 47]), (15, [0, 1, 9]), (16, [0, 1, 9, 10]), (17, [0, 1, 9, 10, 52]), (18, [0, 1, 9, 10]), (19, [0, 1, 9, 10, 11]), (20, [0, 1, 9, 10, 11, 12]), (21, [0, 1, 9, 10, 86]), (22, [4]), (23, [4])], [], [], [], [14, 30, 40, 84], [(18, 0)], []⟩
@[go_sem] theorem h146_l : h146.lv 0 = [0, 1] ∧ h146.lv 1 = [0, 1, 5] ∧ h146.lv 2 = [0, 1, 5, 16] ∧ h146.lv 3 = [4] ∧ h146.lv 4 = [0, 1, 6] ∧ h146.lv 5 = [0, 1, 6, 21] ∧ h146.lv 6 = [0, 1, 6] ∧ h146.lv 7 = [0, 1, 6, 7] ∧ h146.lv 8 = [0, 1, 6, 7, 32] ∧ h146.lv 9 = [4] ∧ h146.lv 10 = [0, 1, 6, 8] ∧ h146.lv 11 = [0, 1, 6, 8, 42] ∧ h146.lv 12 = [4] ∧ h146.lv 13 = [0, 1, 9] ∧ h146.lv 14 = [0, 1, 9, 47] ∧ h146.lv 15 = [0, 1, 9] ∧ h146.lv 16 = [0, 1, 9, 10] ∧ h146.lv 17 = [0, 1, 9, 10, 52] ∧ h146.lv 18 = [0, 1, 9, 10] ∧ h146.lv 19 = [0, 1, 9, 10, 11] ∧ h146.lv 20 = [0, 1, 9, 10, 11, 12] ∧ h146.lv 21 = [0, 1, 9, 10, 86] ∧ h146.lv 22 = [4] ∧ h146.lv 23 = [4] := ⟨rfl, rfl, rfl, rfl, rfl, rfl, rfl, rfl, rfl, rfl, rfl, rfl, rfl, rfl, rfl, rfl, rfl, rfl, rfl, rfl, rfl, rfl, rfl, rfl⟩
@[go_sem] theorem h146_g0 : h146.ct 0 = none := rfl
@[go_sem] theorem h146_g1 : h146.ct 1 = none := rfl
@[go_sem] theorem h146_g2 : h146.ct 2 = none := rfl
@[go_sem] theorem h146_g3 : h146.ct 3 = none := rfl
@[go_sem] theorem h146_g4 : h146.ct 4 = none := rfl
@[go_sem] theorem h146_g5 : h146.ct 5 = none := rfl
@[go_sem] theorem h146_g6 : h146.ct 6 = none := rfl
@[go_sem] theorem h146_g7 : h146.ct 7 = none := rfl
@[go_sem] theorem h146_g8 : h146.ct 8 = none := rfl
@[go_sem] theorem h146_g9 : h146.ct 9 = none := rfl
@[go_sem] theorem h146_g10 : h146.ct 10 = none := rfl
@[go_sem] theorem h146_g11 : h146.ct 11 = none := rfl
@[go_sem] theorem h146_g12 : h146.ct 12 = none := rfl
@[go_sem] theorem h146_g13 : h146.ct 13 = none := rfl
@[go_sem] theorem h146_g14 : h146.ct 14 = none := rfl
@[go_sem] theorem h146_g15 : h146.ct 15 = none := rfl
@[go_sem] theorem h146_g16 : h146.ct 16 = none := rfl
@[go_sem] theorem h146_g17 : h146.ct 17 = none := rfl
@[go_sem] theorem h146_g18 : h146.ct 18 = some 0 := rfl
@[go_sem] theorem h146_g19 : h146.ct 19 = none := rfl
@[go_sem] theorem h146_g20 : h146.ct 20 = none := rfl
@[go_sem] theorem h146_g21 : h146.ct 21 = none := rfl
@[go_sem] theorem h146_g22 : h146.ct 22 = none := rfl
@[go_sem] theorem h146_g23 : h146.ct 23 = none := rfl
@[go_sem] theorem h146_z (k : Nat) : h146.at k = [] := rfl
@[go_sem] theorem h146_y (k : Nat) : h146.dn k = false := Eq.trans rfl rfl
theorem h146_d : Tryz.f146.body.any (drawsOk h146) = true := by kernel_rfl
@[go_sem] theorem h146_t : h146.tk = [] := rfl
@[go_sem] theorem h146_m : h146.mt = [] := rfl
@[go_sem] theorem h146_p : h146.pc = [14, 30, 40, 84] := rfl
theorem call146 : callable Tryz.prog 146 = true := by kernel_rfl
def h214 : Hint := ⟨[(0, [0, 1]), (1, [0, 1, 5]), (2, [0, 1, 5, 6]), (3, [0, 1, 5, 6, 7]), (4, [0, 1, 5, 6, 7, 11]), (5, [0, 1, 5, 6, 7]), (6, [0, 1, 5, 6, 7, 23]), (7, [0, 1, 5, 7]), (8, [0, 1, 5, 6, 7]), (9, [0, 1, 5, 6, 7, 33]), (10, [0, 1, 5, 6, 7]), (11, [1, 5, 42]), (12, [5]), (13, [4])], [24, 34, 43, 47], [], [], [], [], []⟩
@[go_sem] theorem h214_l : h214.lv 0 = [0, 1] ∧ h214.lv 1 = [0, 1, 5] ∧ h214.lv 2 = [0, 1, 5, 6] ∧ h214.lv 3 = [0, 1, 5, 6, 7] ∧ h214.lv 4 = [0, 1, 5, 6, 7, 11] ∧ h214.lv 5 = [0, 1, 5, 6, 7] ∧ h214.lv 6 = [0, 1, 5, 6, 7, 23] ∧ h214.lv 7 = [0, 1, 5, 7] ∧ h214.lv 8 = [0, 1, 5, 6, 7] ∧ h214.lv 9 = [0, 1, 5, 6, 7, 33] ∧ h214.lv 10 = [0, 1, 5, 6, 7] ∧ h214.lv 11 = [1, 5, 42] ∧ h214.lv 12 = [5] ∧ h214.lv 13 = [4] := ⟨rfl, rfl, rfl, rfl, rfl, rfl, rfl, rfl, rfl, rfl, rfl, rfl, rfl, rfl⟩
@[go_sem] theorem h214_g (k : Nat) : h214.ct k = none := rfl
@[go_sem] theorem h214_z (k : Nat) : h214.at k = [] := rfl
@[go_sem] theorem h214_y (k : Nat) : h214.dn k = false := Eq.trans rfl rfl
theorem h214_d : Tryz.f214.body.any (drawsOk h214) = true := by kernel_rfl
@[go_sem] theorem h214_t : h214.tk = [24, 34, 43, 47] := rfl
@[go_sem] theorem h214_m : h214.mt = [] := rfl
@[go_sem] theorem h214_p : h214.pc = [] := rfl
theorem call214 : callable Tryz.prog 214 = true := by kernel_rfl
def h147 : Hint := ⟨[(0, [1]), (1, [1, 3]), (2, [3, 4]), (3, [3, 4, 5]), (4, [3, 4, 5, 11]), (5, [3, 4, 5]), (6, [3, 4, 5, 27]), (7, [3, 4, 5]), (8, [2])], [], [], [], [7, 34], [], []⟩
@[go_sem] theorem h147_l : h147.lv 0 = [1] ∧ h147.lv 1 = [1, 3] ∧ h147.lv 2 = [3, 4] ∧ h147.lv 3 = [3, 4, 5] ∧ h147.lv 4 = [3, 4, 5, 11] ∧ h147.lv 5 = [3, 4, 5] ∧ h147.lv 6 = [3, 4, 5, 27] ∧ h147.lv 7 = [3, 4, 5] ∧ h147.lv 8 = [2] := ⟨rfl, rfl, rfl, rfl, rfl, rfl, rfl, rfl, rfl⟩
@[go_sem] theorem h147_g (k : Nat) : h147.ct k = none := rfl
@[go_sem] theorem h147_z (k : Nat) : h147.at k = [] := rfl
@[go_sem] theorem h147_y (k : Nat) : h147.dn k = false := Eq.trans rfl rfl
theorem h147_d : Tryz.f147.body.any (drawsOk h147) = true := by kernel_rfl
@[go_sem] theorem h147_t : h147.tk = [] := rfl
@[go_sem] theorem h147_m : h147.mt = [] := rfl
@[go_sem] theorem h147_p : h147.pc = [7, 34] := rfl
theorem call147 : callable Tryz.prog 147 = true := by kernel_rfl
def h148 : Hint := ⟨[(0, [0, 1]), (1, [0, 1, 5]), (2, [0, 1, 5, 9]), (3, [0, 1, 5]), (4, [0, 1, 5, 17]), (5, [4]), (6, [4])], [], [], [], [], [], []⟩
@[go_sem] theorem h148_l : h148.lv 0 = [0, 1] ∧ h148.lv 1 = [0, 1, 5] ∧ h148.lv 2 = [0, 1, 5, 9] ∧ h148.lv 3 = [0, 1, 5] ∧ h148.lv 4 = [0, 1, 5, 17] ∧ h148.lv 5 = [4] ∧ h148.lv 6 = [4] := ⟨rfl, rfl, rfl, rfl, rfl, rfl, rfl⟩
@[go_sem] theorem h148_g (k : Nat) : h148.ct k = none := rfl
@[go_sem] theorem h148_z (k : Nat) : h148.at k = [] := rfl
@[go_sem] theorem h148_y (k : Nat) : h148.dn k = false := Eq.trans rfl rfl
theorem h148_d : Tryz.f148.body.any (drawsOk h148) = true := by kernel_rfl
@[go_sem] theorem h148_t : h148.tk = [] := rfl
@[go_sem] theorem h148_m : h148.mt = [] := rfl
@[go_sem] theorem h148_p : h148.pc = [] := rfl
theorem call148 : callable Tryz.prog 148 = true := by kernel_rfl
def h66 : Hint := ⟨[(0, [2, 3]), (1, [3, 5]), (2, [3, 5, 16]), (3, [4]), (4, [3, 6]), (5, [3, 6, 22]), (6, [3, 6]), (7, [3, 6, 7]), (8, [3, 6, 7, 8]), (9, [3, 6, 7, 8, 35]), (10, [3, 6, 7, 8]), (11, [3, 6, 7, 8, 44]), (12, [4]), (13, [3, 6, 9]), (14, [3, 6, 63]), (15, [4]), (16, [4])], [], [], [], [14, 31, 43, 61], [(6, 2)], []⟩
@[go_sem] theorem h66_l : h66.lv 0 = [2, 3] ∧ h66.lv 1 = [3, 5] ∧ h66.lv 2 = [3, 5, 16] ∧ h66.lv 3 = [4] ∧ h66.lv 4 = [3, 6] ∧ h66.lv 5 = [3, 6, 22] ∧ h66.lv 6 = [3, 6] ∧ h66.lv 7 = [3, 6, 7] ∧ h66.lv 8 = [3, 6, 7, 8] ∧ h66.lv 9 = [3, 6, 7, 8, 35] ∧ h66.lv 10 = [3, 6, 7, 8] ∧ h66.lv 11 = [3, 6, 7, 8, 44] ∧ h66.lv 12 = [4] ∧ h66.lv 13 = [3, 6, 9] ∧ h66.lv 14 = [3, 6, 63] ∧ h66.lv 15 = [4] ∧ h66.lv 16 = [4] := ⟨rfl, rfl, rfl, rfl, rfl, rfl, rfl, rfl, rfl, rfl, rfl, rfl, rfl, rfl, rfl, rfl, rfl⟩
@[go_sem] theorem h66_g0 : h66.ct 0 = none := rfl
@[go_sem] theorem h66_g1 : h66.ct 1 = none := rfl
@[go_sem] theorem h66_g2 : h66.ct 2 = none := rfl
@[go_sem] theorem h66_g3 : h66.ct 3 = none := rfl
@[go_sem] theorem h66_g4 : h66.ct 4 = none := rfl
@[go_sem] theorem h66_g5 : h66.ct 5 = none := rfl
@[go_sem] theorem h66_g6 : h66.ct 6 = some 2 := rfl
@[go_sem] theorem h66_g7 : h66.ct 7 = none := rfl
@[go_sem] theorem h66_g8 : h66.ct 8 = none := rfl
@[go_sem] theorem h66_g9 : h66.ct 9 = none := rfl
@[go_sem] theorem h66_g10 : h66.ct 10 = none := rfl
@[go_sem] theorem h66_g11 : h66.ct 11 = none := rfl
@[go_sem] theorem h66_g12 : h66.ct 12 = none := rfl
@[go_sem] theorem h66_g13 : h66.ct 13 = none := rfl
@[go_sem] theorem h66_g14 : h66.ct 14 = none := rfl
@[go_sem] theorem h66_g15 : h66.ct 15 = none := rfl
@[go_sem] theorem h66_g16 : h66.ct 16 = none := rfl
@[go_sem] theorem h66_z (k : Nat) : h66.at k = [] := rfl
@[go_sem] theorem h66_y (k : Nat) : h66.dn k = false := Eq.trans rfl rfl
theorem h66_d : Tryz.f66.body.any (drawsOk h66) = true := by kernel_rfl
@[go_sem] theorem h66_t : h66.tk = [] := rfl
@[go_sem] theorem h66_m : h66.mt = [] := rfl
@[go_sem] theorem h66_p : h66.pc = [14, 31, 43, 61] := rfl
theorem call66 : callable Tryz.prog 66 = true := by kernel_rfl
def h149 : Hint := ⟨[(0, [1]), (1, [2])], [], [], [], [4, 6, 7], [], []⟩
@[go_sem] theorem h149_l : h149.lv 0 = [1] ∧ h149.lv 1 = [2] := ⟨rfl, rfl⟩
@[go_sem] theorem h149_g (k : Nat) : h149.ct k = none := rfl
@[go_sem] theorem h149_z (k : Nat) : h149.at k = [] := rfl
@[go_sem] theorem h149_y (k : Nat) : h149.dn k = false := Eq.trans rfl rfl
theorem h149_d : Tryz.f149.body.any (drawsOk h149) = true := by kernel_rfl
@[go_sem] theorem h149_t : h149.tk = [] := rfl
@[go_sem] theorem h149_m : h149.mt = [] := rfl
@[go_sem] theorem h149_p : h149.pc = [4, 6, 7] := rfl
theorem call149 : callable Tryz.prog 149 = true := by kernel_rfl
def h67 : Hint := ⟨[(0, [0, 3]), (1, [0, 3, 5]), (2, [0, 3, 5, 9]), (3, [4]), (4, [4])], [11], [], [], [7, 13], [], []⟩
@[go_sem] theorem h67_l : h67.lv 0 = [0, 3] ∧ h67.lv 1 = [0, 3, 5] ∧ h67.lv 2 = [0, 3, 5, 9] ∧ h67.lv 3 = [4] ∧ h67.lv 4 = [4] := ⟨rfl, rfl, rfl, rfl, rfl⟩
@[go_sem] theorem h67_g (k : Nat) : h67.ct k = none := rfl
@[go_sem] theorem h67_z (k : Nat) : h67.at k = [] := rfl
@[go_sem] theorem h67_y (k : Nat) : h67.dn k = false := Eq.trans rfl rfl
theorem h67_d : Tryz.f67.body.any (drawsOk h67) = true := by kernel_rfl
@[go_sem] theorem h67_t : h67.tk = [11] := rfl
@[go_sem] theorem h67_m : h67.mt = [] := rfl
@[go_sem] theorem h67_p : h67.pc = [7, 13] := rfl
theorem call67 : callable Tryz.prog 67 = true := by kernel_rfl
def h151 : Hint := ⟨[(0, [1]), (1, [1, 3]), (2, [1, 3, 4]), (3, [1, 3, 4, 5]), (4, [1, 3, 4, 5, 15]), (5, [2]), (6, [1, 3, 4, 5, 15, 16]), (7, [1, 3, 4, 5, 15, 16]), (8, [1, 4, 5]), (9, [1, 3, 4, 5, 15, 19]), (10, [1, 4, 5]), (11, [1, 5, 15, 22]), (12, [1, 5, 15, 22]), (13, [1, 4, 5]), (14, [1, 5, 25]), (15, [1, 4, 5]), (16, [1, 4, 35]), (17, [2]), (18, [1, 4, 6]), (19, [1, 4, 6, 38]), (20, [1, 4, 6]), (21, [1, 4, 6, 7]), (22, [1, 4, 6, 48]), (23, [2]), (24, [2])], [], [], [], [10, 46], [], []⟩
@[go_sem] theorem h151_l : h151.lv 0 = [1] ∧ h151.lv 1 = [1, 3] ∧ h151.lv 2 = [1, 3, 4] ∧ h151.lv 3 = [1, 3, 4, 5] ∧ h151.lv 4 = [1, 3, 4, 5, 15] ∧ h151.lv 5 = [2] ∧ h151.lv 6 = [1, 3, 4, 5, 15, 16] ∧ h151.lv 7 = [1, 3, 4, 5, 15, 16] ∧ h151.lv 8 = [1, 4, 5] ∧ h151.lv 9 = [1, 3, 4, 5, 15, 19] ∧ h151.lv 10 = [1, 4, 5] ∧ h151.lv 11 = [1, 5, 15, 22] ∧ h151.lv 12 = [1, 5, 15, 22] ∧ h151.lv 13 = [1, 4, 5] ∧ h151.lv 14 = [1, 5, 25] ∧ h151.lv 15 = [1, 4, 5] ∧ h151.lv 16 = [1, 4, 35] ∧ h151.lv 17 = [2] ∧ h151.lv 18 = [1, 4, 6] ∧ h151.lv 19 = [1, 4, 6, 38] ∧ h151.lv 20 = [1, 4, 6] ∧ h151.lv 21 = [1, 4, 6, 7] ∧ h151.lv 22 = [1, 4, 6, 48] ∧ h151.lv 23 = [2] ∧ h151.lv 24 = [2] := ⟨rfl, rfl, rfl, rfl, rfl, rfl, rfl, rfl, rfl, rfl, rfl, rfl, rfl, rfl, rfl, rfl, rfl, rfl, rfl, rfl, rfl, rfl, rfl, rfl, rfl⟩
@[go_sem] theorem h151_g (k : Nat) : h151.ct k = none := rfl
@[go_sem] theorem h151_z (k : Nat) : h151.at k = [] := rfl
@[go_sem] theorem h151_y (k : Nat) : h151.dn k = false := Eq.trans rfl rfl
theorem h151_d : Tryz.f151.body.any (drawsOk h151) = true := by kernel_rfl
@[go_sem] theorem h151_t : h151.tk = [] := rfl
@[go_sem] theorem h151_m : h151.mt = [] := rfl
@[go_sem] theorem h151_p : h151.pc = [10, 46] := rfl
theorem call151 : callable Tryz.prog 151 = true := by kernel_rfl
def h68 : Hint := ⟨[(0, [1]), (1, [2])], [], [], [], [4, 6, 7], [], []⟩
@[go_sem] theorem h68_l : h68.lv 0 = [1] ∧ h68.lv 1 = [2] := ⟨rfl, rfl⟩
@[go_sem] theorem h68_g (k : Nat) : h68.ct k = none := rfl
@[go_sem] theorem h68_z (k : Nat) : h68.at k = [] := rfl
@[go_sem] theorem h68_y (k : Nat) : h68.dn k = false := Eq.trans rfl rfl
theorem h68_d : Tryz.f68.body.any (drawsOk h68) = true := by kernel_rfl
@[go_sem] theorem h68_t : h68.tk = [] := rfl
@[go_sem] theorem h68_m : h68.mt = [] := rfl
@[go_sem] theorem h68_p : h68.pc = [4, 6, 7] := rfl
theorem call68 : callable Tryz.prog 68 = true := by kernel_rfl
def h111 : Hint := ⟨[(0, [1]), (1, [1, 4]), (2, [1, 4, 5]), (3, [1, 4, 5, 6]), (4, [1, 4, 5, 6, 12]), (5, [1, 4, 5, 6]), (6, [1, 4, 5, 6]), (7, [1, 4, 5, 7]), (8, [1, 4, 5, 7, 28]), (9, [1, 4, 5, 7]), (10, [1, 4, 5, 7]), (11, [2, 3])], [15, 31, 40, 41], [], [], [], [], []⟩
@[go_sem] theorem h111_l : h111.lv 0 = [1] ∧ h111.lv 1 = [1, 4] ∧ h111.lv 2 = [1, 4, 5] ∧ h111.lv 3 = [1, 4, 5, 6] ∧ h111.lv 4 = [1, 4, 5, 6, 12] ∧ h111.lv 5 = [1, 4, 5, 6] ∧ h111.lv 6 = [1, 4, 5, 6] ∧ h111.lv 7 = [1, 4, 5, 7] ∧ h111.lv 8 = [1, 4, 5, 7, 28] ∧ h111.lv 9 = [1, 4, 5, 7] ∧ h111.lv 10 = [1, 4, 5, 7] ∧ h111.lv 11 = [2, 3] := ⟨rfl, rfl, rfl, rfl, rfl, rfl, rfl, rfl, rfl, rfl, rfl, rfl⟩
@[go_sem] theorem h111_g (k : Nat) : h111.ct k = none := rfl
@[go_sem] theorem h111_z (k : Nat) : h111.at k = [] := rfl
@[go_sem] theorem h111_y (k : Nat) : h111.dn k = false := Eq.trans rfl rfl
theorem h111_d : Tryz.f111.body.any (drawsOk h111) = true := by kernel_rfl
@[go_sem] theorem h111_t : h111.tk = [15, 31, 40, 41] := rfl
@[go_sem] theorem h111_m : h111.mt = [] := rfl
@[go_sem] theorem h111_p : h111.pc = [] := rfl
theorem call111 : callable Tryz.prog 111 = true := by kernel_rfl
def h69 : Hint := ⟨[(0, [2, 3]), (1, [2, 3, 5]), (2, [2, 3, 22]), (3, [4]), (4, [2, 3, 7]), (5, [2, 3, 7, 27]), (6, [2, 3, 7]), (7, [2, 3, 7, 37]), (8, [4]), (9, [4])], [17], [], [], [10, 20, 36], [], []⟩
@[go_sem] theorem h69_l : h69.lv 0 = [2, 3] ∧ h69.lv 1 = [2, 3, 5] ∧ h69.lv 2 = [2, 3, 22] ∧ h69.lv 3 = [4] ∧ h69.lv 4 = [2, 3, 7] ∧ h69.lv 5 = [2, 3, 7, 27] ∧ h69.lv 6 = [2, 3, 7] ∧ h69.lv 7 = [2, 3, 7, 37] ∧ h69.lv 8 = [4] ∧ h69.lv 9 = [4] := ⟨rfl, rfl, rfl, rfl, rfl, rfl, rfl, rfl, rfl, rfl⟩
@[go_sem] theorem h69_g (k : Nat) : h69.ct k = none := rfl
@[go_sem] theorem h69_z (k : Nat) : h69.at k = [] := rfl
@[go_sem] theorem h69_y (k : Nat) : h69.dn k = false := Eq.trans rfl rfl
theorem h69_d : Tryz.f69.body.any (drawsOk h69) = true := by kernel_rfl
@[go_sem] theorem h69_t : h69.tk = [17] := rfl
@[go_sem] theorem h69_m : h69.mt = [] := rfl
@[go_sem] theorem h69_p : h69.pc = [10, 20, 36] := rfl
theorem call69 : callable Tryz.prog 69 = true := by kernel_rfl
def h70 : Hint := ⟨[(0, [1, 2]), (1, [4])], [], [], [], [7], [], []⟩
@[go_sem] theorem h70_l : h70.lv 0 = [1, 2] ∧ h70.lv 1 = [4] := ⟨rfl, rfl⟩
@[go_sem] theorem h70_g (k : Nat) : h70.ct k = none := rfl
@[go_sem] theorem h70_z (k : Nat) : h70.at k = [] := rfl
@[go_sem] theorem h70_y (k : Nat) : h70.dn k = false := Eq.trans rfl rfl
theorem h70_d : Tryz.f70.body.any (drawsOk h70) = true := by kernel_rfl
@[go_sem] theorem h70_t : h70.tk = [] := rfl
@[go_sem] theorem h70_m : h70.mt = [] := rfl
@[go_sem] theorem h70_p : h70.pc = [7] := rfl
theorem call70 : callable Tryz.prog 70 = true := by kernel_rfl
def h13 : Hint := ⟨[(0, [2, 3]), (1, [2, 3, 31]), (2, [4]), (3, [2, 3, 5]), (4, [2, 3, 5, 36]), (5, [2, 3, 5]), (6, [2, 3, 5, 41]), (7, [4]), (8, [2, 3, 6]), (9, [2, 3, 6, 47]), (10, [2, 3, 6]), (11, [2, 3, 5, 6]), (12, [2, 3, 5, 6, 60]), (13, [2, 3, 5, 6]), (14, [2, 3, 5, 6, 81]), (15, [2, 3, 5, 6]), (16, [2, 3, 5, 6, 83]), (17, [4]), (18, [3, 7]), (19, [3, 7, 89]), (20, [3, 7]), (21, [3, 7, 8]), (22, [3, 7, 8, 132]), (23, [4]), (24, [3, 7, 8, 9]), (25, [3, 7, 8, 9, 135]), (26, [3, 7, 8, 9]), (27, [3, 7, 8, 9, 157]), (28, [4]), (29, [4])], [], [], [], [34, 39, 58, 67, 79, 100, 106], [(20, 2)], []⟩
@[go_sem] theorem h13_l : h13.lv 0 = [2, 3] ∧ h13.lv 1 = [2, 3, 31] ∧ h13.lv 2 = [4] ∧ h13.lv 3 = [2, 3, 5] ∧ h13.lv 4 = [2, 3, 5, 36] ∧ h13.lv 5 = [2, 3, 5] ∧ h13.lv 6 = [2, 3, 5, 41] ∧ h13.lv 7 = [4] ∧ h13.lv 8 = [2, 3, 6] ∧ h13.lv 9 = [2, 3, 6, 47] ∧ h13.lv 10 = [2, 3, 6] ∧ h13.lv 11 = [2, 3, 5, 6] ∧ h13.lv 12 = [2, 3, 5, 6, 60] ∧ h13.lv 13 = [2, 3, 5, 6] ∧ h13.lv 14 = [2, 3, 5, 6, 81] ∧ h13.lv 15 = [2, 3, 5, 6] ∧ h13.lv 16 = [2, 3, 5, 6, 83] ∧ h13.lv 17 = [4] ∧ h13.lv 18 = [3, 7] ∧ h13.lv 19 = [3, 7, 89] ∧ h13.lv 20 = [3, 7] ∧ h13.lv 21 = [3, 7, 8] ∧ h13.lv 22 = [3, 7, 8, 132] ∧ h13.lv 23 = [4] ∧ h13.lv 24 = [3, 7, 8, 9] ∧ h13.lv 25 = [3, 7, 8, 9, 135] ∧ h13.lv 26 = [3, 7, 8, 9] ∧ h13.lv 27 = [3, 7, 8, 9, 157] ∧ h13.lv 28 = [4] ∧ h13.lv 29 = [4] := ⟨rfl, rfl, rfl, rfl, rfl, rfl, rfl, rfl, rfl, rfl, rfl, rfl, rfl, rfl, rfl, rfl, rfl, rfl, rfl, rfl, rfl, rfl, rfl, rfl, rfl, rfl, rfl, rfl, rfl, rfl⟩
@[go_sem] theorem h13_g0 : h13.ct 0 = none := rfl
@[go_sem] theorem h13_g1 : h13.ct 1 = none := rfl
@[go_sem] theorem h13_g2 : h13.ct 2 = none := rfl
@[go_sem] theorem h13_g3 : h13.ct 3 = none := rfl
@[go_sem] theorem h13_g4 : h13.ct 4 = none := rfl
@[go_sem] theorem h13_g5 : h13.ct 5 = none := rfl
@[go_sem] theorem h13_g6 : h13.ct 6 = none := rfl
@[go_sem] theorem h13_g7 : h13.ct 7 = none := rfl
@[go_sem] theorem h13_g8 : h13.ct 8 = none := rfl
@[go_sem] theorem h13_g9 : h13.ct 9 = none := rfl
@[go_sem] theorem h13_g10 : h13.ct 10 = none := rfl
@[go_sem] theorem h13_g11 : h13.ct 11 = none := rfl
@[go_sem] theorem h13_g12 : h13.ct 12 = none := rfl
@[go_sem] theorem h13_g13 : h13.ct 13 = none := rfl
@[go_sem] theorem h13_g14 : h13.ct 14 = none := rfl
@[go_sem] theorem h13_g15 : h13.ct 15 = none := rfl
@[go_sem] theorem h13_g16 : h13.ct 16 = none := rfl
@[go_sem] theorem h13_g17 : h13.ct 17 = none := rfl
@[go_sem] theorem h13_g18 : h13.ct 18 = none := rfl
@[go_sem] theorem h13_g19 : h13.ct 19 = none := rfl
@[go_sem] theorem h13_g20 : h13.ct 20 = some 2 := rfl
@[go_sem] theorem h13_g21 : h13.ct 21 = none := rfl
@[go_sem] theorem h13_g22 : h13.ct 22 = none := rfl
@[go_sem] theorem h13_g23 : h13.ct 23 = none := rfl
@[go_sem] theorem h13_g24 : h13.ct 24 = none := rfl
@[go_sem] theorem h13_g25 : h13.ct 25 = none := rfl
@[go_sem] theorem h13_g26 : h13.ct 26 = none := rfl
@[go_sem] theorem h13_g27 : h13.ct 27 = none := rfl
@[go_sem] theorem h13_g28 : h13.ct 28 = none := rfl
@[go_sem] theorem h13_g29 : h13.ct 29 = none := rfl
@[go_sem] theorem h13_z (k : Nat) : h13.at k = [] := rfl
@[go_sem] theorem h13_y (k : Nat) : h13.dn k = false := Eq.trans rfl rfl
theorem h13_d : Tryz.f13.body.any (drawsOk h13) = true := by kernel_rfl
@[go_sem] theorem h13_t : h13.tk = [] := rfl
@[go_sem] theorem h13_m : h13.mt = [] := rfl
@[go_sem] theorem h13_p : h13.pc = [34, 39, 58, 67, 79, 100, 106] := rfl
theorem call13 : callable Tryz.prog 13 = true := by kernel_rfl
def h48 : Hint := ⟨[(0, [1, 2, 3, 4]), (1, [8])], [], [], [], [], [], []⟩
@[go_sem] theorem h48_l : h48.lv 0 = [1, 2, 3, 4] ∧ h48.lv 1 = [8] := ⟨rfl, rfl⟩
@[go_sem] theorem h48_g (k : Nat) : h48.ct k = none := rfl
@[go_sem] theorem h48_z (k : Nat) : h48.at k = [] := rfl
@[go_sem] theorem h48_y (k : Nat) : h48.dn k = false := Eq.trans rfl rfl
theorem h48_d : Tryz.f48.body.any (drawsOk h48) = true := by kernel_rfl
@[go_sem] theorem h48_t : h48.tk = [] := rfl
@[go_sem] theorem h48_m : h48.mt = [] := rfl
@[go_sem] theorem h48_p : h48.pc = [] := rfl
theorem call48 : callable Tryz.prog 48 = true := by kernel_rfl
def h112 : Hint := ⟨[(0, [0]), (1, [0, 3]), (2, [0, 3, 9]), (3, [0, 3]), (4, [0, 3, 4]), (5, [0, 3, 18]), (6, [2]), (7, [0, 3, 5]), (8, [0, 3, 5, 21]), (9, [0, 3, 5]), (10, [0, 3, 5, 32]), (11, [2]), (12, [2])], [], [], [], [16], [], []⟩
@[go_sem] theorem h112_l : h112.lv 0 = [0] ∧ h112.lv 1 = [0, 3] ∧ h112.lv 2 = [0, 3, 9] ∧ h112.lv 3 = [0, 3] ∧ h112.lv 4 = [0, 3, 4] ∧ h112.lv 5 = [0, 3, 18] ∧ h112.lv 6 = [2] ∧ h112.lv 7 = [0, 3, 5] ∧ h112.lv 8 = [0, 3, 5, 21] ∧ h112.lv 9 = [0, 3, 5] ∧ h112.lv 10 = [0, 3, 5, 32] ∧ h112.lv 11 = [2] ∧ h112.lv 12 = [2] := ⟨rfl, rfl, rfl, rfl, rfl, rfl, rfl, rfl, rfl, rfl, rfl, rfl, rfl⟩
@[go_sem] theorem h112_g (k : Nat) : h112.ct k = none := rfl
@[go_sem] theorem h112_z (k : Nat) : h112.at k = [] := rfl
@[go_sem] theorem h112_y (k : Nat) : h112.dn k = false := Eq.trans rfl rfl
theorem h112_d : Tryz.f112.body.any (drawsOk h112) = true := by kernel_rfl
@[go_sem] theorem h112_t : h112.tk = [] := rfl
@[go_sem] theorem h112_m : h112.mt = [] := rfl
@[go_sem] theorem h112_p : h112.pc = [16] := rfl
theorem call112 : callable Tryz.prog 112 = true := by kernel_rfl
def h113 : Hint := ⟨[(0, [1, 2]), (1, [4])], [], [], [], [], [], []⟩
@[go_sem] theorem h113_l : h113.lv 0 = [1, 2] ∧ h113.lv 1 = [4] := ⟨rfl, rfl⟩
@[go_sem] theorem h113_g (k : Nat) : h113.ct k = none := rfl
@[go_sem] theorem h113_z (k : Nat) : h113.at k = [] := rfl
@[go_sem] theorem h113_y (k : Nat) : h113.dn k = false := Eq.trans rfl rfl
theorem h113_d : Tryz.f113.body.any (drawsOk h113) = true := by kernel_rfl
@[go_sem] theorem h113_t : h113.tk = [] := rfl
@[go_sem] theorem h113_m : h113.mt = [] := rfl
@[go_sem] theorem h113_p : h113.pc = [] := rfl
theorem call113 : callable Tryz.prog 113 = true := by kernel_rfl
def h49 : Hint := ⟨[(0, [1]), (1, [1, 27]), (2, [2]), (3, [1, 3, 4]), (4, [1, 4, 5]), (5, [1, 5, 6]), (6, [1, 42]), (7, [2]), (8, [1, 7]), (9, [1, 7, 47]), (10, [1, 7]), (11, [1, 7, 8]), (12, [1, 7, 72]), (13, [2]), (14, [1, 9]), (15, [1, 9, 77]), (16, [1, 9]), (17, [1, 9, 10]), (18, [1, 9, 113]), (19, [2]), (20, [1, 11]), (21, [1, 11, 118]), (22, [1, 11]), (23, [1, 11, 129]), (24, [2]), (25, [2])], [33, 35], [], [], [30, 34, 36, 88, 94, 128], [(10, 1), (16, 1)], []⟩
@[go_sem] theorem h49_l : h49.lv 0 = [1] ∧ h49.lv 1 = [1, 27] ∧ h49.lv 2 = [2] ∧ h49.lv 3 = [1, 3, 4] ∧ h49.lv 4 = [1, 4, 5] ∧ h49.lv 5 = [1, 5, 6] ∧ h49.lv 6 = [1, 42] ∧ h49.lv 7 = [2] ∧ h49.lv 8 = [1, 7] ∧ h49.lv 9 = [1, 7, 47] ∧ h49.lv 10 = [1, 7] ∧ h49.lv 11 = [1, 7, 8] ∧ h49.lv 12 = [1, 7, 72] ∧ h49.lv 13 = [2] ∧ h49.lv 14 = [1, 9] ∧ h49.lv 15 = [1, 9, 77] ∧ h49.lv 16 = [1, 9] ∧ h49.lv 17 = [1, 9, 10] ∧ h49.lv 18 = [1, 9, 113] ∧ h49.lv 19 = [2] ∧ h49.lv 20 = [1, 11] ∧ h49.lv 21 = [1, 11, 118] ∧ h49.lv 22 = [1, 11] ∧ h49.lv 23 = [1, 11, 129] ∧ h49.lv 24 = [2] ∧ h49.lv 25 = [2] := ⟨rfl, rfl, rfl, rfl, rfl, rfl, rfl, rfl, rfl, rfl, rfl, rfl, rfl, rfl, rfl, rfl, rfl, rfl, rfl, rfl, rfl, rfl, rfl, rfl, rfl, rfl⟩
@[go_sem] theorem h49_g0 : h49.ct 0 = none := rfl
@[go_sem] theorem h49_g1 : h49.ct 1 = none := rfl
@[go_sem] theorem h49_g2 : h49.ct 2 = none := rfl
@[go_sem] theorem h49_g3 : h49.ct 3 = none := rfl
@[go_sem] theorem h49_g4 : h49.ct 4 = none := rfl
@[go_sem] theorem h49_g5 : h49.ct 5 = none := rfl
@[go_sem] theorem h49_g6 : h49.ct 6 = none := rfl
@[go_sem] theorem h49_g7 : h49.ct 7 = none := rfl
@[go_sem] theorem h49_g8 : h49.ct 8 = none := rfl
@[go_sem] theorem h49_g9 : h49.ct 9 = none := rfl
@[go_sem] theorem h49_g10 : h49.ct 10 = some 1 := rfl
@[go_sem] theorem h49_g11 : h49.ct 11 = none := rfl
@[go_sem] theorem h49_g12 : h49.ct 12 = none := rfl
@[go_sem] theorem h49_g13 : h49.ct 13 = none := rfl
@[go_sem] theorem h49_g14 : h49.ct 14 = none := rfl
@[go_sem] theorem h49_g15 : h49.ct 15 = none := rfl
@[go_sem] theorem h49_g16 : h49.ct 16 = some 1 := rfl
@[go_sem] theorem h49_g17 : h49.ct 17 = none := rfl
@[go_sem] theorem h49_g18 : h49.ct 18 = none := rfl
@[go_sem] theorem h49_g19 : h49.ct 19 = none := rfl
@[go_sem] theorem h49_g20 : h49.ct 20 = none := rfl
@[go_sem] theorem h49_g21 : h49.ct 21 = none := rfl
@[go_sem] theorem h49_g22 : h49.ct 22 = none := rfl
@[go_sem] theorem h49_g23 : h49.ct 23 = none := rfl
@[go_sem] theorem h49_g24 : h49.ct 24 = none := rfl
@[go_sem] theorem h49_g25 : h49.ct 25 = none := rfl
@[go_sem] theorem h49_z (k : Nat) : h49.at k = [] := rfl
@[go_sem] theorem h49_y (k : Nat) : h49.dn k = false := Eq.trans rfl rfl
theorem h49_d : Tryz.f49.body.any (drawsOk h49) = true := by kernel_rfl
@[go_sem] theorem h49_t : h49.tk = [33, 35] := rfl
@[go_sem] theorem h49_m : h49.mt = [] := rfl
@[go_sem] theorem h49_p : h49.pc = [30, 34, 36, 88, 94, 128] := rfl
theorem call49 : callable Tryz.prog 49 = true := by kernel_rfl
def h115 : Hint := ⟨[(0, [1]), (1, [2])], [], [], [], [], [], []⟩
@[go_sem] theorem h115_l : h115.lv 0 = [1] ∧ h115.lv 1 = [2] := ⟨rfl, rfl⟩
@[go_sem] theorem h115_g (k : Nat) : h115.ct k = none := rfl
@[go_sem] theorem h115_z (k : Nat) : h115.at k = [] := rfl
@[go_sem] theorem h115_y (k : Nat) : h115.dn k = false := Eq.trans rfl rfl
theorem h115_d : Tryz.f115.body.any (drawsOk h115) = true := by kernel_rfl
@[go_sem] theorem h115_t : h115.tk = [] := rfl
@[go_sem] theorem h115_m : h115.mt = [] := rfl
@[go_sem] theorem h115_p : h115.pc = [] := rfl
theorem call115 : callable Tryz.prog 115 = true := by kernel_rfl
def h116 : Hint := ⟨[(0, [2, 3]), (1, [4])], [], [], [], [], [], []⟩
@[go_sem] theorem h116_l : h116.lv 0 = [2, 3] ∧ h116.lv 1 = [4] := ⟨rfl, rfl⟩
@[go_sem] theorem h116_g (k : Nat) : h116.ct k = none := rfl
@[go_sem] theorem h116_z (k : Nat) : h116.at k = [] := rfl
@[go_sem] theorem h116_y (k : Nat) : h116.dn k = false := Eq.trans rfl rfl
theorem h116_d : Tryz.f116.body.any (drawsOk h116) = true := by kernel_rfl
@[go_sem] theorem h116_t : h116.tk = [] := rfl
@[go_sem] theorem h116_m : h116.mt = [] := rfl
@[go_sem] theorem h116_p : h116.pc = [] := rfl
theorem call116 : callable Tryz.prog 116 = true := by kernel_rfl
def h50 : Hint := ⟨[(0, [0]), (1, [0, 11]), (2, [2]), (3, [0, 3]), (4, [0, 3, 15]), (5, [0, 3]), (6, [0, 3, 4]), (7, [0, 3, 33]), (8, [2]), (9, [0, 3, 5]), (10, [0, 3, 5, 36]), (11, [0, 3, 5]), (12, [0, 3, 5, 49]), (13, [2]), (14, [0, 3, 6]), (15, [0, 3, 56]), (16, [2]), (17, [0, 3, 7]), (18, [0, 3, 7, 59]), (19, [0, 3, 7]), (20, [0, 3, 7, 8]), (21, [0, 3, 7, 71]), (22, [2]), (23, [2])], [], [], [], [23, 54, 70], [], []⟩
@[go_sem] theorem h50_l : h50.lv 0 = [0] ∧ h50.lv 1 = [0, 11] ∧ h50.lv 2 = [2] ∧ h50.lv 3 = [0, 3] ∧ h50.lv 4 = [0, 3, 15] ∧ h50.lv 5 = [0, 3] ∧ h50.lv 6 = [0, 3, 4] ∧ h50.lv 7 = [0, 3, 33] ∧ h50.lv 8 = [2] ∧ h50.lv 9 = [0, 3, 5] ∧ h50.lv 10 = [0, 3, 5, 36] ∧ h50.lv 11 = [0, 3, 5] ∧ h50.lv 12 = [0, 3, 5, 49] ∧ h50.lv 13 = [2] ∧ h50.lv 14 = [0, 3, 6] ∧ h50.lv 15 = [0, 3, 56] ∧ h50.lv 16 = [2] ∧ h50.lv 17 = [0, 3, 7] ∧ h50.lv 18 = [0, 3, 7, 59] ∧ h50.lv 19 = [0, 3, 7] ∧ h50.lv 20 = [0, 3, 7, 8] ∧ h50.lv 21 = [0, 3, 7, 71] ∧ h50.lv 22 = [2] ∧ h50.lv 23 = [2] := ⟨rfl, rfl, rfl, rfl, rfl, rfl, rfl, rfl, rfl, rfl, rfl, rfl, rfl, rfl, rfl, rfl, rfl, rfl, rfl, rfl, rfl, rfl, rfl, rfl⟩
@[go_sem] theorem h50_g (k : Nat) : h50.ct k = none := rfl
@[go_sem] theorem h50_z (k : Nat) : h50.at k = [] := rfl
@[go_sem] theorem h50_y (k : Nat) : h50.dn k = false := Eq.trans rfl rfl
theorem h50_d : Tryz.f50.body.any (drawsOk h50) = true := by kernel_rfl
@[go_sem] theorem h50_t : h50.tk = [] := rfl
@[go_sem] theorem h50_m : h50.mt = [] := rfl
@[go_sem] theorem h50_p : h50.pc = [23, 54, 70] := rfl
theorem call50 : callable Tryz.prog 50 = true := by kernel_rfl
def h14 : Hint := ⟨[(0, [2, 3]), (1, [2, 3, 5]), (2, [2, 3, 5, 6]), (3, [2, 3, 29]), (4, [4]), (5, [4])], [], [], [], [8, 11, 21, 27, 32], [], []⟩
@[go_sem] theorem h14_l : h14.lv 0 = [2, 3] ∧ h14.lv 1 = [2, 3, 5] ∧ h14.lv 2 = [2, 3, 5, 6] ∧ h14.lv 3 = [2, 3, 29] ∧ h14.lv 4 = [4] ∧ h14.lv 5 = [4] := ⟨rfl, rfl, rfl, rfl, rfl, rfl⟩
@[go_sem] theorem h14_g (k : Nat) : h14.ct k = none := rfl
@[go_sem] theorem h14_z (k : Nat) : h14.at k = [] := rfl
@[go_sem] theorem h14_y (k : Nat) : h14.dn k = false := Eq.trans rfl rfl
theorem h14_d : Tryz.f14.body.any (drawsOk h14) = true := by kernel_rfl
@[go_sem] theorem h14_t : h14.tk = [] := rfl
@[go_sem] theorem h14_m : h14.mt = [] := rfl
@[go_sem] theorem h14_p : h14.pc = [8, 11, 21, 27, 32] := rfl
theorem call14 : callable Tryz.prog 14 = true := by kernel_rfl
def h71 : Hint := ⟨[(0, [1]), (1, [1, 3]), (2, [1, 3, 5]), (3, [1, 3]), (4, [1, 3, 17]), (5, [2]), (6, [2])], [], [], [], [], [], []⟩
@[go_sem] theorem h71_l : h71.lv 0 = [1] ∧ h71.lv 1 = [1, 3] ∧ h71.lv 2 = [1, 3, 5] ∧ h71.lv 3 = [1, 3] ∧ h71.lv 4 = [1, 3, 17] ∧ h71.lv 5 = [2] ∧ h71.lv 6 = [2] := ⟨rfl, rfl, rfl, rfl, rfl, rfl, rfl⟩
@[go_sem] theorem h71_g (k : Nat) : h71.ct k = none := rfl
@[go_sem] theorem h71_z (k : Nat) : h71.at k = [] := rfl
@[go_sem] theorem h71_y (k : Nat) : h71.dn k = false := Eq.trans rfl rfl
theorem h71_d : Tryz.f71.body.any (drawsOk h71) = true := by kernel_rfl
@[go_sem] theorem h71_t : h71.tk = [] := rfl
@[go_sem] theorem h71_m : h71.mt = [] := rfl
@[go_sem] theorem h71_p : h71.pc = [] := rfl
theorem call71 : callable Tryz.prog 71 = true := by kernel_rfl
def h15 : Hint := ⟨[(0, [1]), (1, [2])], [], [], [], [4], [], []⟩
@[go_sem] theorem h15_l : h15.lv 0 = [1] ∧ h15.lv 1 = [2] := ⟨rfl, rfl⟩
@[go_sem] theorem h15_g (k : Nat) : h15.ct k = none := rfl
@[go_sem] theorem h15_z (k : Nat) : h15.at k = [] := rfl
@[go_sem] theorem h15_y (k : Nat) : h15.dn k = false := Eq.trans rfl rfl
theorem h15_d : Tryz.f15.body.any (drawsOk h15) = true := by kernel_rfl
@[go_sem] theorem h15_t : h15.tk = [] := rfl
@[go_sem] theorem h15_m : h15.mt = [] := rfl
@[go_sem] theorem h15_p : h15.pc = [4] := rfl
theorem call15 : callable Tryz.prog 15 = true := by kernel_rfl
def h152 : Hint := ⟨[(0, [0, 6, 7, 8]), (1, [0, 6, 7, 8, 9]), (2, [0, 3, 4, 6, 7, 8]), (3, [0, 6, 7, 8, 23]), (4, [0, 6, 7, 8])], [], [], [], [], [], []⟩
@[go_sem] theorem h152_l : h152.lv 0 = [0, 6, 7, 8] ∧ h152.lv 1 = [0, 6, 7, 8, 9] ∧ h152.lv 2 = [0, 3, 4, 6, 7, 8] ∧ h152.lv 3 = [0, 6, 7, 8, 23] ∧ h152.lv 4 = [0, 6, 7, 8] := ⟨rfl, rfl, rfl, rfl, rfl⟩
@[go_sem] theorem h152_g (k : Nat) : h152.ct k = none := rfl
@[go_sem] theorem h152_z (k : Nat) : h152.at k = [] := rfl
@[go_sem] theorem h152_y (k : Nat) : h152.dn k = false := Eq.trans rfl rfl
theorem h152_d : Tryz.f152.body.any (drawsOk h152) = true := by kernel_rfl
@[go_sem] theorem h152_t : h152.tk = [] := rfl
@[go_sem] theorem h152_m : h152.mt = [] := rfl
@[go_sem] theorem h152_p : h152.pc = [] := rfl
theorem call152 : callable Tryz.prog 152 = true := by kernel_rfl
def h73 : Hint := ⟨[(0, [1]), (1, [2])], [], [], [], [], [], []⟩
@[go_sem] theorem h73_l : h73.lv 0 = [1] ∧ h73.lv 1 = [2] := ⟨rfl, rfl⟩
@[go_sem] theorem h73_g (k : Nat) : h73.ct k = none := rfl
@[go_sem] theorem h73_z (k : Nat) : h73.at k = [] := rfl
@[go_sem] theorem h73_y (k : Nat) : h73.dn k = false := Eq.trans rfl rfl
theorem h73_d : Tryz.f73.body.any (drawsOk h73) = true := by kernel_rfl
@[go_sem] theorem h73_t : h73.tk = [] := rfl
@[go_sem] theorem h73_m : h73.mt = [] := rfl
@[go_sem] theorem h73_p : h73.pc = [] := rfl
theorem call73 : callable Tryz.prog 73 = true := by kernel_rfl
def h22 : Hint := ⟨[(0, [2, 3, 4]), (1, [3, 4, 8]), (2, [3, 4, 5, 10]), (3, [3, 4, 5, 6]), (4, [4, 5, 13]), (5, [0]), (6, [4])], [], [], [], [], [], []⟩
@[go_sem] theorem h22_l : h22.lv 0 = [2, 3, 4] ∧ h22.lv 1 = [3, 4, 8] ∧ h22.lv 2 = [3, 4, 5, 10] ∧ h22.lv 3 = [3, 4, 5, 6] ∧ h22.lv 4 = [4, 5, 13] ∧ h22.lv 5 = [0] ∧ h22.lv 6 = [4] := ⟨rfl, rfl, rfl, rfl, rfl, rfl, rfl⟩
@[go_sem] theorem h22_g (k : Nat) : h22.ct k = none := rfl
@[go_sem] theorem h22_z (k : Nat) : h22.at k = [] := rfl
@[go_sem] theorem h22_y (k : Nat) : h22.dn k = false := Eq.trans rfl rfl
theorem h22_d : Tryz.f22.body.any (drawsOk h22) = true := by kernel_rfl
@[go_sem] theorem h22_t : h22.tk = [] := rfl
@[go_sem] theorem h22_m : h22.mt = [] := rfl
@[go_sem] theorem h22_p : h22.pc = [] := rfl
theorem call22 : callable Tryz.prog 22 = true := by kernel_rfl
def h16 : Hint := ⟨[(0, [2, 3, 4]), (1, [3, 4, 6]), (2, [3, 4, 6, 13]), (3, [4, 5]), (4, [3, 4]), (5, [4, 5])], [], [], [], [11], [], []⟩
@[go_sem] theorem h16_l : h16.lv 0 = [2, 3, 4] ∧ h16.lv 1 = [3, 4, 6] ∧ h16.lv 2 = [3, 4, 6, 13] ∧ h16.lv 3 = [4, 5] ∧ h16.lv 4 = [3, 4] ∧ h16.lv 5 = [4, 5] := ⟨rfl, rfl, rfl, rfl, rfl, rfl⟩
@[go_sem] theorem h16_g (k : Nat) : h16.ct k = none := rfl
@[go_sem] theorem h16_z (k : Nat) : h16.at k = [] := rfl
@[go_sem] theorem h16_y (k : Nat) : h16.dn k = false := Eq.trans rfl rfl
theorem h16_d : Tryz.f16.body.any (drawsOk h16) = true := by kernel_rfl
@[go_sem] theorem h16_t : h16.tk = [] := rfl
@[go_sem] theorem h16_m : h16.mt = [] := rfl
@[go_sem] theorem h16_p : h16.pc = [11] := rfl
theorem call16 : callable Tryz.prog 16 = true := by kernel_rfl
def h23 : Hint := ⟨[(0, [1, 2]), (1, [1, 2, 5]), (2, [1, 2, 5, 10]), (3, [1, 2, 5]), (4, [1, 2, 5, 24]), (5, [4]), (6, [4])], [], [], [], [], [], []⟩
@[go_sem] theorem h23_l : h23.lv 0 = [1, 2] ∧ h23.lv 1 = [1, 2, 5] ∧ h23.lv 2 = [1, 2, 5, 10] ∧ h23.lv 3 = [1, 2, 5] ∧ h23.lv 4 = [1, 2, 5, 24] ∧ h23.lv 5 = [4] ∧ h23.lv 6 = [4] := ⟨rfl, rfl, rfl, rfl, rfl, rfl, rfl⟩
@[go_sem] theorem h23_g (k : Nat) : h23.ct k = none := rfl
@[go_sem] theorem h23_z (k : Nat) : h23.at k = [] := rfl
@[go_sem] theorem h23_y (k : Nat) : h23.dn k = false := Eq.trans rfl rfl
theorem h23_d : Tryz.f23.body.any (drawsOk h23) = true := by kernel_rfl
@[go_sem] theorem h23_t : h23.tk = [] := rfl
@[go_sem] theorem h23_m : h23.mt = [] := rfl
@[go_sem] theorem h23_p : h23.pc = [] := rfl
theorem call23 : callable Tryz.prog 23 = true := by kernel_rfl
def h17 : Hint := ⟨[(0, [2, 3, 4]), (1, [3, 4, 6]), (2, [3, 4, 6, 13]), (3, [4, 5]), (4, [3, 4]), (5, [3, 4]), (6, [4, 5])], [], [], [], [11], [], []⟩
@[go_sem] theorem h17_l : h17.lv 0 = [2, 3, 4] ∧ h17.lv 1 = [3, 4, 6] ∧ h17.lv 2 = [3, 4, 6, 13] ∧ h17.lv 3 = [4, 5] ∧ h17.lv 4 = [3, 4] ∧ h17.lv 5 = [3, 4] ∧ h17.lv 6 = [4, 5] := ⟨rfl, rfl, rfl, rfl, rfl, rfl, rfl⟩
@[go_sem] theorem h17_g (k : Nat) : h17.ct k = none := rfl
@[go_sem] theorem h17_z (k : Nat) : h17.at k = [] := rfl
@[go_sem] theorem h17_y (k : Nat) : h17.dn k = false := Eq.trans rfl rfl
theorem h17_d : Tryz.f17.body.any (drawsOk h17) = true := by kernel_rfl
@[go_sem] theorem h17_t : h17.tk = [] := rfl
@[go_sem] theorem h17_m : h17.mt = [] := rfl
@[go_sem] theorem h17_p : h17.pc = [11] := rfl
theorem call17 : callable Tryz.prog 17 = true := by kernel_rfl
def h62 : Hint := ⟨[(0, [0, 1, 2]), (1, [6])], [], [], [], [], [], []⟩
@[go_sem] theorem h62_l : h62.lv 0 = [0, 1, 2] ∧ h62.lv 1 = [6] := ⟨rfl, rfl⟩
@[go_sem] theorem h62_g (k : Nat) : h62.ct k = none := rfl
@[go_sem] theorem h62_z (k : Nat) : h62.at k = [] := rfl
@[go_sem] theorem h62_y (k : Nat) : h62.dn k = false := Eq.trans rfl rfl
theorem h62_d : Tryz.f62.body.any (drawsOk h62) = true := by kernel_rfl
@[go_sem] theorem h62_t : h62.tk = [] := rfl
@[go_sem] theorem h62_m : h62.mt = [] := rfl
@[go_sem] theorem h62_p : h62.pc = [] := rfl
theorem call62 : callable Tryz.prog 62 = true := by kernel_rfl
def h20 : Hint := ⟨[(0, [1, 2]), (1, [1, 2, 11]), (2, [4]), (3, [4])], [], [], [], [10], [], []⟩
@[go_sem] theorem h20_l : h20.lv 0 = [1, 2] ∧ h20.lv 1 = [1, 2, 11] ∧ h20.lv 2 = [4] ∧ h20.lv 3 = [4] := ⟨rfl, rfl, rfl, rfl⟩
@[go_sem] theorem h20_g (k : Nat) : h20.ct k = none := rfl
@[go_sem] theorem h20_z (k : Nat) : h20.at k = [] := rfl
@[go_sem] theorem h20_y (k : Nat) : h20.dn k = false := Eq.trans rfl rfl
theorem h20_d : Tryz.f20.body.any (drawsOk h20) = true := by kernel_rfl
@[go_sem] theorem h20_t : h20.tk = [] := rfl
@[go_sem] theorem h20_m : h20.mt = [] := rfl
@[go_sem] theorem h20_p : h20.pc = [10] := rfl
theorem call20 : callable Tryz.prog 20 = true := by kernel_rfl
def h18 : Hint := ⟨[(0, [2, 3, 4]), (1, [3, 4, 6]), (2, [3, 4, 6, 12]), (3, [4, 5]), (4, [3, 4]), (5, [4, 5])], [], [], [], [10], [], []⟩
@[go_sem] theorem h18_l : h18.lv 0 = [2, 3, 4] ∧ h18.lv 1 = [3, 4, 6] ∧ h18.lv 2 = [3, 4, 6, 12] ∧ h18.lv 3 = [4, 5] ∧ h18.lv 4 = [3, 4] ∧ h18.lv 5 = [4, 5] := ⟨rfl, rfl, rfl, rfl, rfl, rfl⟩
@[go_sem] theorem h18_g (k : Nat) : h18.ct k = none := rfl
@[go_sem] theorem h18_z (k : Nat) : h18.at k = [] := rfl
@[go_sem] theorem h18_y (k : Nat) : h18.dn k = false := Eq.trans rfl rfl
theorem h18_d : Tryz.f18.body.any (drawsOk h18) = true := by kernel_rfl
@[go_sem] theorem h18_t : h18.tk = [] := rfl
@[go_sem] theorem h18_m : h18.mt = [] := rfl
@[go_sem] theorem h18_p : h18.pc = [10] := rfl
theorem call18 : callable Tryz.prog 18 = true := by kernel_rfl
def h21 : Hint := ⟨[(0, [1, 2]), (1, [1, 2, 8]), (2, [4]), (3, [4])], [], [], [], [7], [], []⟩
@[go_sem] theorem h21_l : h21.lv 0 = [1, 2] ∧ h21.lv 1 = [1, 2, 8] ∧ h21.lv 2 = [4] ∧ h21.lv 3 = [4] := ⟨rfl, rfl, rfl, rfl⟩
@[go_sem] theorem h21_g (k : Nat) : h21.ct k = none := rfl
@[go_sem] theorem h21_z (k : Nat) : h21.at k = [] := rfl
@[go_sem] theorem h21_y (k : Nat) : h21.dn k = false := Eq.trans rfl rfl
theorem h21_d : Tryz.f21.body.any (drawsOk h21) = true := by kernel_rfl
@[go_sem] theorem h21_t : h21.tk = [] := rfl
@[go_sem] theorem h21_m : h21.mt = [] := rfl
@[go_sem] theorem h21_p : h21.pc = [7] := rfl
theorem call21 : callable Tryz.prog 21 = true := by kernel_rfl
def h19 : Hint := ⟨[(0, [2, 3, 4]), (1, [3, 4, 6]), (2, [3, 4, 6, 12]), (3, [4, 5]), (4, [3, 4]), (5, [4, 5])], [], [], [], [10], [], []⟩
@[go_sem] theorem h19_l : h19.lv 0 = [2, 3, 4] ∧ h19.lv 1 = [3, 4, 6] ∧ h19.lv 2 = [3, 4, 6, 12] ∧ h19.lv 3 = [4, 5] ∧ h19.lv 4 = [3, 4] ∧ h19.lv 5 = [4, 5] := ⟨rfl, rfl, rfl, rfl, rfl, rfl⟩
@[go_sem] theorem h19_g (k : Nat) : h19.ct k = none := rfl
@[go_sem] theorem h19_z (k : Nat) : h19.at k = [] := rfl
@[go_sem] theorem h19_y (k : Nat) : h19.dn k = false := Eq.trans rfl rfl
theorem h19_d : Tryz.f19.body.any (drawsOk h19) = true := by kernel_rfl
@[go_sem] theorem h19_t : h19.tk = [] := rfl
@[go_sem] theorem h19_m : h19.mt = [] := rfl
@[go_sem] theorem h19_p : h19.pc = [10] := rfl
theorem call19 : callable Tryz.prog 19 = true := by kernel_rfl
def h4 : Hint := ⟨[(0, [2, 4, 5, 7]), (1, [2, 4, 5, 7, 9]), (2, [2, 5, 7, 9, 27]), (3, [8]), (4, [2, 5, 7, 9, 10, 11]), (5, [2, 5, 7, 9, 10, 11, 12, 13]), (6, [2, 5, 7, 9, 10, 11, 12, 13, 14, 15]), (7, [2, 5, 9, 10, 11, 12, 13, 14, 15, 16, 17]), (8, [8])], [], [], [], [18, 21, 25, 32, 38, 44, 50, 77, 80, 86, 89], [], []⟩
@[go_sem] theorem h4_l : h4.lv 0 = [2, 4, 5, 7] ∧ h4.lv 1 = [2, 4, 5, 7, 9] ∧ h4.lv 2 = [2, 5, 7, 9, 27] ∧ h4.lv 3 = [8] ∧ h4.lv 4 = [2, 5, 7, 9, 10, 11] ∧ h4.lv 5 = [2, 5, 7, 9, 10, 11, 12, 13] ∧ h4.lv 6 = [2, 5, 7, 9, 10, 11, 12, 13, 14, 15] ∧ h4.lv 7 = [2, 5, 9, 10, 11, 12, 13, 14, 15, 16, 17] ∧ h4.lv 8 = [8] := ⟨rfl, rfl, rfl, rfl, rfl, rfl, rfl, rfl, rfl⟩
@[go_sem] theorem h4_g (k : Nat) : h4.ct k = none := rfl
@[go_sem] theorem h4_z (k : Nat) : h4.at k = [] := rfl
@[go_sem] theorem h4_y (k : Nat) : h4.dn k = false := Eq.trans rfl rfl
theorem h4_d : Tryz.f4.body.any (drawsOk h4) = true := by kernel_rfl
@[go_sem] theorem h4_t : h4.tk = [] := rfl
@[go_sem] theorem h4_m : h4.mt = [] := rfl
@[go_sem] theorem h4_p : h4.pc = [18, 21, 25, 32, 38, 44, 50, 77, 80, 86, 89] := rfl
theorem call4 : callable Tryz.prog 4 = true := by kernel_rfl
def h5 : Hint := ⟨[(0, [2, 4, 5, 7]), (1, [2, 4, 5, 7, 9]), (2, [2, 5, 7, 9, 34]), (3, [8]), (4, [2, 5, 7, 9, 10, 11]), (5, [2, 5, 7, 9, 10, 11, 12, 13]), (6, [2, 5, 7, 9, 10, 11, 12, 13, 14, 15]), (7, [2, 5, 7, 9, 10, 11, 12, 13, 14, 15, 16, 17]), (8, [2, 5, 9, 99]), (9, [8]), (10, [2, 5, 9, 18]), (11, [2, 5, 9, 18, 19]), (12, [8])], [], [], [], [20, 23, 27, 39, 45, 51, 57, 102, 105, 113, 124], [], []⟩
@[go_sem] theorem h5_l : h5.lv 0 = [2, 4, 5, 7] ∧ h5.lv 1 = [2, 4, 5, 7, 9] ∧ h5.lv 2 = [2, 5, 7, 9, 34] ∧ h5.lv 3 = [8] ∧ h5.lv 4 = [2, 5, 7, 9, 10, 11] ∧ h5.lv 5 = [2, 5, 7, 9, 10, 11, 12, 13] ∧ h5.lv 6 = [2, 5, 7, 9, 10, 11, 12, 13, 14, 15] ∧ h5.lv 7 = [2, 5, 7, 9, 10, 11, 12, 13, 14, 15, 16, 17] ∧ h5.lv 8 = [2, 5, 9, 99] ∧ h5.lv 9 = [8] ∧ h5.lv 10 = [2, 5, 9, 18] ∧ h5.lv 11 = [2, 5, 9, 18, 19] ∧ h5.lv 12 = [8] := ⟨rfl, rfl, rfl, rfl, rfl, rfl, rfl, rfl, rfl, rfl, rfl, rfl, rfl⟩
@[go_sem] theorem h5_g (k : Nat) : h5.ct k = none := rfl
@[go_sem] theorem h5_z (k : Nat) : h5.at k = [] := rfl
@[go_sem] theorem h5_y (k : Nat) : h5.dn k = false := Eq.trans rfl rfl
theorem h5_d : Tryz.f5.body.any (drawsOk h5) = true := by kernel_rfl
@[go_sem] theorem h5_t : h5.tk = [] := rfl
@[go_sem] theorem h5_m : h5.mt = [] := rfl
@[go_sem] theorem h5_p : h5.pc = [20, 23, 27, 39, 45, 51, 57, 102, 105, 113, 124] := rfl
theorem call5 : callable Tryz.prog 5 = true := by kernel_rfl
end Go.AI


namespace Go.AI
open Go.Proofs
def h9 : Hint := ⟨[(0, [0]), (1, [1, 2]), (2, [1, 2, 3]), (3, [1, 2, 3]), (4, [1, 2, 3, 4]), (5, [1, 2, 3, 4]), (6, [1, 2, 5]), (7, [1, 2, 5, 6]), (8, [1, 2, 5, 6, 7, 8]), (9, [1, 2, 5, 6, 7, 8, 9, 10]), (10, [1, 2, 5, 6, 7, 8, 9, 10, 12]), (11, [1, 5, 6, 7, 8, 9, 10, 12, 13, 14]), (12, [1, 5, 6, 7, 8, 9, 10, 12, 13, 93]), (13, [0]), (14, [5, 6, 7, 8, 9, 10, 12, 15, 16]), (15, [0])], [97, 134], [], [], [18, 26, 32, 37, 43, 47, 51, 56, 61, 67, 73, 79, 84, 102, 137], [], []⟩
@[go_sem] theorem h9_l : h9.lv 0 = [0] ∧ h9.lv 1 = [1, 2] ∧ h9.lv 2 = [1, 2, 3] ∧ h9.lv 3 = [1, 2, 3] ∧ h9.lv 4 = [1, 2, 3, 4] ∧ h9.lv 5 = [1, 2, 3, 4] ∧ h9.lv 6 = [1, 2, 5] ∧ h9.lv 7 = [1, 2, 5, 6] ∧ h9.lv 8 = [1, 2, 5, 6, 7, 8] ∧ h9.lv 9 = [1, 2, 5, 6, 7, 8, 9, 10] ∧ h9.lv 10 = [1, 2, 5, 6, 7, 8, 9, 10, 12] ∧ h9.lv 11 = [1, 5, 6, 7, 8, 9, 10, 12, 13, 14] ∧ h9.lv 12 = [1, 5, 6, 7, 8, 9, 10, 12, 13, 93] ∧ h9.lv 13 = [0] ∧ h9.lv 14 = [5, 6, 7, 8, 9, 10, 12, 15, 16] ∧ h9.lv 15 = [0] := ⟨rfl, rfl, rfl, rfl, rfl, rfl, rfl, rfl, rfl, rfl, rfl, rfl, rfl, rfl, rfl, rfl⟩
@[go_sem] theorem h9_g (k : Nat) : h9.ct k = none := rfl
@[go_sem] theorem h9_z (k : Nat) : h9.at k = [] := rfl
@[go_sem] theorem h9_y (k : Nat) : h9.dn k = false := Eq.trans rfl rfl
theorem h9_d : Tryz.f9.body.any (drawsOk h9) = true := by kernel_rfl
@[go_sem] theorem h9_t : h9.tk = [97, 134] := rfl
@[go_sem] theorem h9_m : h9.mt = [] := rfl
@[go_sem] theorem h9_p : h9.pc = [18, 26, 32, 37, 43, 47, 51, 56, 61, 67, 73, 79, 84, 102, 137] := rfl
theorem call9 : callable Tryz.prog 9 = true := by kernel_rfl
end Go.AI

namespace Go.AI
open Go.Proofs
@[go_sem] theorem cellsOf2 : Tryz.prog.cellsOf 2 = 1 := by kernel_rfl
@[go_sem] theorem bytesOf2 : Tryz.prog.bytesOf 2 = 8 := by kernel_rfl
@[go_sem] theorem ldk2 : ldk Tryz.prog 2 = some none := by kernel_rfl
@[go_sem] theorem aggTy2 : aggTy Tryz.prog 2 = false := by kernel_rfl
@[go_sem] theorem und2 : Tryz.prog.underlying 2 = some (.int .i64) := by kernel_rfl
@[go_sem] theorem zeroOk2 : zeroOk Tryz.prog 2 = true := by kernel_rfl
@[go_sem] theorem info2 : (Tryz.prog.info? 2).isSome = true := by kernel_rfl
@[go_sem] theorem zeroAV2 : zeroAV Tryz.prog 2 = some (.int .i64 0) := by kernel_rfl
@[go_sem] theorem cellsOf6 : Tryz.prog.cellsOf 6 = 1 := by kernel_rfl
@[go_sem] theorem bytesOf6 : Tryz.prog.bytesOf 6 = 1 := by kernel_rfl
@[go_sem] theorem ldk6 : ldk Tryz.prog 6 = some none := by kernel_rfl
@[go_sem] theorem aggTy6 : aggTy Tryz.prog 6 = false := by kernel_rfl
@[go_sem] theorem und6 : Tryz.prog.underlying 6 = some (.int .u8) := by kernel_rfl
@[go_sem] theorem zeroOk6 : zeroOk Tryz.prog 6 = true := by kernel_rfl
@[go_sem] theorem info6 : (Tryz.prog.info? 6).isSome = true := by kernel_rfl
@[go_sem] theorem zeroAV6 : zeroAV Tryz.prog 6 = some (.int .u8 0) := by kernel_rfl
@[go_sem] theorem cellsOf7 : Tryz.prog.cellsOf 7 = 4 := by kernel_rfl
@[go_sem] theorem bytesOf7 : Tryz.prog.bytesOf 7 = 24 := by kernel_rfl
@[go_sem] theorem ldk7 : ldk Tryz.prog 7 = some (some 4) := by kernel_rfl
@[go_sem] theorem aggTy7 : aggTy Tryz.prog 7 = true := by kernel_rfl
@[go_sem] theorem zeroOk7 : zeroOk Tryz.prog 7 = true := by kernel_rfl
@[go_sem] theorem info7 : (Tryz.prog.info? 7).isSome = true := by kernel_rfl
@[go_sem] theorem bkind7 : bkind Tryz.prog 7 = .struct [(0, 1), (1, 1), (2, 1), (3, 1)] := by kernel_rfl
@[go_sem] theorem fplace7_0 : fplace Tryz.prog 7 0 = some (2, 0) := by kernel_rfl
@[go_sem] theorem fplace7_1 : fplace Tryz.prog 7 1 = some (3, 1) := by kernel_rfl
@[go_sem] theorem fplace7_2 : fplace Tryz.prog 7 2 = some (4, 2) := by kernel_rfl
@[go_sem] theorem fplace7_3 : fplace Tryz.prog 7 3 = some (6, 3) := by kernel_rfl
@[go_sem] theorem zeroAV7 : zeroAV Tryz.prog 7 = some (.agg [.int .i64 0, .int .i64 0, .bool false, .int .u8 0]) := by kernel_rfl
@[go_sem] theorem cellsOf8 : Tryz.prog.cellsOf 8 = 4 := by kernel_rfl
@[go_sem] theorem bytesOf8 : Tryz.prog.bytesOf 8 = 24 := by kernel_rfl
@[go_sem] theorem ldk8 : ldk Tryz.prog 8 = some (some 4) := by kernel_rfl
@[go_sem] theorem aggTy8 : aggTy Tryz.prog 8 = true := by kernel_rfl
@[go_sem] theorem zeroOk8 : zeroOk Tryz.prog 8 = true := by kernel_rfl
@[go_sem] theorem info8 : (Tryz.prog.info? 8).isSome = true := by kernel_rfl
@[go_sem] theorem bkind8 : bkind Tryz.prog 8 = .struct [(0, 1), (1, 1), (2, 1), (3, 1)] := by kernel_rfl
@[go_sem] theorem fplace8_0 : fplace Tryz.prog 8 0 = some (2, 0) := by kernel_rfl
@[go_sem] theorem fplace8_1 : fplace Tryz.prog 8 1 = some (3, 1) := by kernel_rfl
@[go_sem] theorem fplace8_2 : fplace Tryz.prog 8 2 = some (4, 2) := by kernel_rfl
@[go_sem] theorem fplace8_3 : fplace Tryz.prog 8 3 = some (6, 3) := by kernel_rfl
@[go_sem] theorem zeroAV8 : zeroAV Tryz.prog 8 = some (.agg [.int .i64 0, .int .i64 0, .bool false, .int .u8 0]) := by kernel_rfl
@[go_sem] theorem cellsOf40 : Tryz.prog.cellsOf 40 = 1 := by kernel_rfl
@[go_sem] theorem bytesOf40 : Tryz.prog.bytesOf 40 = 8 := by kernel_rfl
@[go_sem] theorem ldk40 : ldk Tryz.prog 40 = some none := by kernel_rfl
@[go_sem] theorem aggTy40 : aggTy Tryz.prog 40 = false := by kernel_rfl
@[go_sem] theorem zeroOk40 : zeroOk Tryz.prog 40 = true := by kernel_rfl
@[go_sem] theorem info40 : (Tryz.prog.info? 40).isSome = true := by kernel_rfl
@[go_sem] theorem zeroAV40 : zeroAV Tryz.prog 40 = some (.nilf) := by kernel_rfl
@[go_sem] theorem cellsOf68 : Tryz.prog.cellsOf 68 = 1 := by kernel_rfl
@[go_sem] theorem bytesOf68 : Tryz.prog.bytesOf 68 = 8 := by kernel_rfl
@[go_sem] theorem ldk68 : ldk Tryz.prog 68 = some none := by kernel_rfl
@[go_sem] theorem aggTy68 : aggTy Tryz.prog 68 = false := by kernel_rfl
@[go_sem] theorem zeroOk68 : zeroOk Tryz.prog 68 = true := by kernel_rfl
@[go_sem] theorem info68 : (Tryz.prog.info? 68).isSome = true := by kernel_rfl
@[go_sem] theorem zeroAV68 : zeroAV Tryz.prog 68 = some (.nilf) := by kernel_rfl
@[go_sem] theorem cellsOf95 : Tryz.prog.cellsOf 95 = 1 := by kernel_rfl
@[go_sem] theorem bytesOf95 : Tryz.prog.bytesOf 95 = 8 := by kernel_rfl
@[go_sem] theorem ldk95 : ldk Tryz.prog 95 = some none := by kernel_rfl
@[go_sem] theorem aggTy95 : aggTy Tryz.prog 95 = false := by kernel_rfl
@[go_sem] theorem zeroOk95 : zeroOk Tryz.prog 95 = true := by kernel_rfl
@[go_sem] theorem info95 : (Tryz.prog.info? 95).isSome = true := by kernel_rfl
@[go_sem] theorem zeroAV95 : zeroAV Tryz.prog 95 = some (.nilf) := by kernel_rfl
@[go_sem] theorem cellsOf96 : Tryz.prog.cellsOf 96 = 1 := by kernel_rfl
@[go_sem] theorem bytesOf96 : Tryz.prog.bytesOf 96 = 8 := by kernel_rfl
@[go_sem] theorem ldk96 : ldk Tryz.prog 96 = some none := by kernel_rfl
@[go_sem] theorem aggTy96 : aggTy Tryz.prog 96 = false := by kernel_rfl
@[go_sem] theorem zeroOk96 : zeroOk Tryz.prog 96 = true := by kernel_rfl
@[go_sem] theorem info96 : (Tryz.prog.info? 96).isSome = true := by kernel_rfl
@[go_sem] theorem zeroAV96 : zeroAV Tryz.prog 96 = some (.nilf) := by kernel_rfl
@[go_sem] theorem cellsOf154 : Tryz.prog.cellsOf 154 = 1 := by kernel_rfl
@[go_sem] theorem bytesOf154 : Tryz.prog.bytesOf 154 = 8 := by kernel_rfl
@[go_sem] theorem ldk154 : ldk Tryz.prog 154 = some none := by kernel_rfl
@[go_sem] theorem aggTy154 : aggTy Tryz.prog 154 = false := by kernel_rfl
@[go_sem] theorem zeroOk154 : zeroOk Tryz.prog 154 = true := by kernel_rfl
@[go_sem] theorem info154 : (Tryz.prog.info? 154).isSome = true := by kernel_rfl
@[go_sem] theorem zeroAV154 : zeroAV Tryz.prog 154 = some (.nilf) := by kernel_rfl
@[go_sem] theorem cellsOf177 : Tryz.prog.cellsOf 177 = 1 := by kernel_rfl
@[go_sem] theorem bytesOf177 : Tryz.prog.bytesOf 177 = 8 := by kernel_rfl
@[go_sem] theorem ldk177 : ldk Tryz.prog 177 = some none := by kernel_rfl
@[go_sem] theorem aggTy177 : aggTy Tryz.prog 177 = false := by kernel_rfl
@[go_sem] theorem zeroOk177 : zeroOk Tryz.prog 177 = true := by kernel_rfl
@[go_sem] theorem info177 : (Tryz.prog.info? 177).isSome = true := by kernel_rfl
@[go_sem] theorem zeroAV177 : zeroAV Tryz.prog 177 = some (.nilf) := by kernel_rfl
@[go_sem] theorem cellsOf196 : Tryz.prog.cellsOf 196 = 2 := by kernel_rfl
@[go_sem] theorem bytesOf196 : Tryz.prog.bytesOf 196 = 16 := by kernel_rfl
@[go_sem] theorem ldk196 : ldk Tryz.prog 196 = some (some 2) := by kernel_rfl
@[go_sem] theorem aggTy196 : aggTy Tryz.prog 196 = true := by kernel_rfl
@[go_sem] theorem zeroOk196 : zeroOk Tryz.prog 196 = true := by kernel_rfl
@[go_sem] theorem info196 : (Tryz.prog.info? 196).isSome = true := by kernel_rfl
@[go_sem] theorem bkind196 : bkind Tryz.prog 196 = .struct [(0, 1), (1, 1)] := by kernel_rfl
@[go_sem] theorem fplace196_0 : fplace Tryz.prog 196 0 = some (3, 0) := by kernel_rfl
@[go_sem] theorem fplace196_1 : fplace Tryz.prog 196 1 = some (3, 1) := by kernel_rfl
@[go_sem] theorem zeroAV196 : zeroAV Tryz.prog 196 = some (.agg [.int .i64 0, .int .i64 0]) := by kernel_rfl
@[go_sem] theorem cellsOf197 : Tryz.prog.cellsOf 197 = 2 := by kernel_rfl
@[go_sem] theorem bytesOf197 : Tryz.prog.bytesOf 197 = 16 := by kernel_rfl
@[go_sem] theorem ldk197 : ldk Tryz.prog 197 = some (some 2) := by kernel_rfl
@[go_sem] theorem aggTy197 : aggTy Tryz.prog 197 = true := by kernel_rfl
@[go_sem] theorem zeroOk197 : zeroOk Tryz.prog 197 = true := by kernel_rfl
@[go_sem] theorem info197 : (Tryz.prog.info? 197).isSome = true := by kernel_rfl
@[go_sem] theorem bkind197 : bkind Tryz.prog 197 = .struct [(0, 1), (1, 1)] := by kernel_rfl
@[go_sem] theorem fplace197_0 : fplace Tryz.prog 197 0 = some (3, 0) := by kernel_rfl
@[go_sem] theorem fplace197_1 : fplace Tryz.prog 197 1 = some (3, 1) := by kernel_rfl
@[go_sem] theorem zeroAV197 : zeroAV Tryz.prog 197 = some (.agg [.int .i64 0, .int .i64 0]) := by kernel_rfl
@[go_sem] theorem cellsOf205 : Tryz.prog.cellsOf 205 = 1 := by kernel_rfl
@[go_sem] theorem bytesOf205 : Tryz.prog.bytesOf 205 = 8 := by kernel_rfl
@[go_sem] theorem ldk205 : ldk Tryz.prog 205 = some none := by kernel_rfl
@[go_sem] theorem aggTy205 : aggTy Tryz.prog 205 = false := by kernel_rfl
@[go_sem] theorem zeroOk205 : zeroOk Tryz.prog 205 = true := by kernel_rfl
@[go_sem] theorem info205 : (Tryz.prog.info? 205).isSome = true := by kernel_rfl
@[go_sem] theorem zeroAV205 : zeroAV Tryz.prog 205 = some (.nilf) := by kernel_rfl
@[go_sem] theorem cellsOf207 : Tryz.prog.cellsOf 207 = 1 := by kernel_rfl
@[go_sem] theorem bytesOf207 : Tryz.prog.bytesOf 207 = 8 := by kernel_rfl
@[go_sem] theorem ldk207 : ldk Tryz.prog 207 = some none := by kernel_rfl
@[go_sem] theorem aggTy207 : aggTy Tryz.prog 207 = false := by kernel_rfl
@[go_sem] theorem zeroOk207 : zeroOk Tryz.prog 207 = true := by kernel_rfl
@[go_sem] theorem info207 : (Tryz.prog.info? 207).isSome = true := by kernel_rfl
@[go_sem] theorem zeroAV207 : zeroAV Tryz.prog 207 = some (.nilf) := by kernel_rfl
@[go_sem] theorem cellsOf247 : Tryz.prog.cellsOf 247 = 1 := by kernel_rfl
@[go_sem] theorem bytesOf247 : Tryz.prog.bytesOf 247 = 8 := by kernel_rfl
@[go_sem] theorem ldk247 : ldk Tryz.prog 247 = some none := by kernel_rfl
@[go_sem] theorem aggTy247 : aggTy Tryz.prog 247 = false := by kernel_rfl
@[go_sem] theorem zeroOk247 : zeroOk Tryz.prog 247 = true := by kernel_rfl
@[go_sem] theorem info247 : (Tryz.prog.info? 247).isSome = true := by kernel_rfl
@[go_sem] theorem zeroAV247 : zeroAV Tryz.prog 247 = some (.nilf) := by kernel_rfl
@[go_sem] theorem cellsOf262 : Tryz.prog.cellsOf 262 = 1 := by kernel_rfl
@[go_sem] theorem bytesOf262 : Tryz.prog.bytesOf 262 = 8 := by kernel_rfl
@[go_sem] theorem ldk262 : ldk Tryz.prog 262 = some none := by kernel_rfl
@[go_sem] theorem aggTy262 : aggTy Tryz.prog 262 = false := by kernel_rfl
@[go_sem] theorem zeroOk262 : zeroOk Tryz.prog 262 = true := by kernel_rfl
@[go_sem] theorem info262 : (Tryz.prog.info? 262).isSome = true := by kernel_rfl
@[go_sem] theorem zeroAV262 : zeroAV Tryz.prog 262 = some (.nilf) := by kernel_rfl
@[go_sem] theorem cellsOf268 : Tryz.prog.cellsOf 268 = 1 := by kernel_rfl
@[go_sem] theorem bytesOf268 : Tryz.prog.bytesOf 268 = 8 := by kernel_rfl
@[go_sem] theorem ldk268 : ldk Tryz.prog 268 = some none := by kernel_rfl
@[go_sem] theorem aggTy268 : aggTy Tryz.prog 268 = false := by kernel_rfl
@[go_sem] theorem und268 : Tryz.prog.underlying 268 = some (.int .u64) := by kernel_rfl
@[go_sem] theorem zeroOk268 : zeroOk Tryz.prog 268 = true := by kernel_rfl
@[go_sem] theorem info268 : (Tryz.prog.info? 268).isSome = true := by kernel_rfl
@[go_sem] theorem zeroAV268 : zeroAV Tryz.prog 268 = some (.int .u64 0) := by kernel_rfl
@[go_sem] theorem cellsOf285 : Tryz.prog.cellsOf 285 = 1 := by kernel_rfl
@[go_sem] theorem bytesOf285 : Tryz.prog.bytesOf 285 = 0 := by kernel_rfl
@[go_sem] theorem ldk285 : ldk Tryz.prog 285 = some none := by kernel_rfl
@[go_sem] theorem aggTy285 : aggTy Tryz.prog 285 = false := by kernel_rfl
@[go_sem] theorem zeroOk285 : zeroOk Tryz.prog 285 = true := by kernel_rfl
@[go_sem] theorem info285 : (Tryz.prog.info? 285).isSome = true := by kernel_rfl
@[go_sem] theorem cellsOf304 : Tryz.prog.cellsOf 304 = 49 := by kernel_rfl
@[go_sem] theorem bytesOf304 : Tryz.prog.bytesOf 304 = 784 := by kernel_rfl
@[go_sem] theorem ldk304 : ldk Tryz.prog 304 = some (some 49) := by kernel_rfl
@[go_sem] theorem aggTy304 : aggTy Tryz.prog 304 = true := by kernel_rfl
@[go_sem] theorem und304 : Tryz.prog.underlying 304 = some (.array 49 9) := by kernel_rfl
@[go_sem] theorem zeroOk304 : zeroOk Tryz.prog 304 = true := by kernel_rfl
@[go_sem] theorem info304 : (Tryz.prog.info? 304).isSome = true := by kernel_rfl
@[go_sem] theorem bkind304 : bkind Tryz.prog 304 = .array 1 := by kernel_rfl
@[go_sem] theorem zeroAV304 : zeroAV Tryz.prog 304 = some (.agg [.str ByteArray.empty, .str ByteArray.empty, .str ByteArray.empty, .str ByteArray.empty, .str ByteArray.empty, .str ByteArray.empty, .str ByteArray.empty, .str ByteArray.empty, .str ByteArray.empty, .str ByteArray.empty, .str ByteArray.empty, .str ByteArray.empty, .str ByteArray.empty, .str ByteArray.empty, .str ByteArray.empty, .str ByteArray.empty, .str ByteArray.empty, .str ByteArray.empty, .str ByteArray.empty, .str ByteArray.empty, .str ByteArray.empty, .str ByteArray.empty, .str ByteArray.empty, .str ByteArray.empty, .str ByteArray.empty, .str ByteArray.empty, .str ByteArray.empty, .str ByteArray.empty, .str ByteArray.empty, .str ByteArray.empty, .str ByteArray.empty, .str ByteArray.empty, .str ByteArray.empty, .str ByteArray.empty, .str ByteArray.empty, .str ByteArray.empty, .str ByteArray.empty, .str ByteArray.empty, .str ByteArray.empty, .str ByteArray.empty, .str ByteArray.empty, .str ByteArray.empty, .str ByteArray.empty, .str ByteArray.empty, .str ByteArray.empty, .str ByteArray.empty, .str ByteArray.empty, .str ByteArray.empty, .str ByteArray.empty]) := by kernel_rfl
end Go.AI

set_option linter.defProp false
namespace Go.AI
open Go.Proofs
def h24 : Hint := ⟨[(0, [2, 3]), (1, [2, 3, 5]), (2, [2, 3, 44]), (3, [4]), (4, [2, 3, 6]), (5, [2, 3, 6, 49]), (6, [2, 3, 6]), (7, [2, 3, 6, 7]), (8, [2, 3, 6, 64]), (9, [4]), (10, [4])], [], [], [], [12, 62], [], []⟩
@[go_sem] theorem h24_l : h24.lv 0 = [2, 3] ∧ h24.lv 1 = [2, 3, 5] ∧ h24.lv 2 = [2, 3, 44] ∧ h24.lv 3 = [4] ∧ h24.lv 4 = [2, 3, 6] ∧ h24.lv 5 = [2, 3, 6, 49] ∧ h24.lv 6 = [2, 3, 6] ∧ h24.lv 7 = [2, 3, 6, 7] ∧ h24.lv 8 = [2, 3, 6, 64] ∧ h24.lv 9 = [4] ∧ h24.lv 10 = [4] := ⟨rfl, rfl, rfl, rfl, rfl, rfl, rfl, rfl, rfl, rfl, rfl⟩
@[go_sem] def h24_q := hplain h24 rfl rfl rfl
@[go_sem] theorem h24_t : h24.tk = [] ∧ h24.mt = [] ∧ h24.pc = [12, 62] := ⟨rfl, rfl, rfl⟩
theorem h24_d : Tryz.f24.body.any (drawsOk h24) = true := by kernel_rfl
theorem call24 : callable Tryz.prog 24 = true := by kernel_rfl
def h81 : Hint := ⟨[(0, [0, 2]), (1, [2])], [], [], [], [], [], []⟩
@[go_sem] theorem h81_l : h81.lv 0 = [0, 2] ∧ h81.lv 1 = [2] := ⟨rfl, rfl⟩
@[go_sem] def h81_q := hplain h81 rfl rfl rfl
@[go_sem] theorem h81_t : h81.tk = [] ∧ h81.mt = [] ∧ h81.pc = [] := ⟨rfl, rfl, rfl⟩
theorem h81_d : Tryz.f81.body.any (drawsOk h81) = true := by kernel_rfl
theorem call81 : callable Tryz.prog 81 = true := by kernel_rfl
def h82 : Hint := ⟨[(0, [0, 2]), (1, [0, 2, 7]), (2, [2]), (3, [0, 2, 3]), (4, [0, 2, 3, 4]), (5, [0, 2, 3, 4, 15]), (6, [0, 2, 3, 4]), (7, [0, 2, 3, 4]), (8, [2])], [], [], [], [], [], []⟩
@[go_sem] theorem h82_l : h82.lv 0 = [0, 2] ∧ h82.lv 1 = [0, 2, 7] ∧ h82.lv 2 = [2] ∧ h82.lv 3 = [0, 2, 3] ∧ h82.lv 4 = [0, 2, 3, 4] ∧ h82.lv 5 = [0, 2, 3, 4, 15] ∧ h82.lv 6 = [0, 2, 3, 4] ∧ h82.lv 7 = [0, 2, 3, 4] ∧ h82.lv 8 = [2] := ⟨rfl, rfl, rfl, rfl, rfl, rfl, rfl, rfl, rfl⟩
@[go_sem] def h82_q := hplain h82 rfl rfl rfl
@[go_sem] theorem h82_t : h82.tk = [] ∧ h82.mt = [] ∧ h82.pc = [] := ⟨rfl, rfl, rfl⟩
theorem h82_d : Tryz.f82.body.any (drawsOk h82) = true := by kernel_rfl
theorem call82 : callable Tryz.prog 82 = true := by kernel_rfl
def h31 : Hint := ⟨[(0, [1, 2]), (1, [1, 2, 3]), (2, [1, 2, 3, 4]), (3, [1, 2, 3, 4, 9]), (4, [1, 2, 3, 4]), (5, [1, 2, 3, 4]), (6, [2])], [12, 22], [], [], [19, 23], [], []⟩
@[go_sem] theorem h31_l : h31.lv 0 = [1, 2] ∧ h31.lv 1 = [1, 2, 3] ∧ h31.lv 2 = [1, 2, 3, 4] ∧ h31.lv 3 = [1, 2, 3, 4, 9] ∧ h31.lv 4 = [1, 2, 3, 4] ∧ h31.lv 5 = [1, 2, 3, 4] ∧ h31.lv 6 = [2] := ⟨rfl, rfl, rfl, rfl, rfl, rfl, rfl⟩
@[go_sem] def h31_q := hplain h31 rfl rfl rfl
@[go_sem] theorem h31_t : h31.tk = [12, 22] ∧ h31.mt = [] ∧ h31.pc = [19, 23] := ⟨rfl, rfl, rfl⟩
theorem h31_d : Tryz.f31.body.any (drawsOk h31) = true := by kernel_rfl
theorem call31 : callable Tryz.prog 31 = true := by kernel_rfl
def h47 : Hint := ⟨[(0, [0, 1, 4]), (1, [4])], [], [], [], [], [], []⟩
@[go_sem] theorem h47_l : h47.lv 0 = [0, 1, 4] ∧ h47.lv 1 = [4] := ⟨rfl, rfl⟩
@[go_sem] def h47_q := hplain h47 rfl rfl rfl
@[go_sem] theorem h47_t : h47.tk = [] ∧ h47.mt = [] ∧ h47.pc = [] := ⟨rfl, rfl, rfl⟩
theorem h47_d : Tryz.f47.body.any (drawsOk h47) = true := by kernel_rfl
theorem call47 : callable Tryz.prog 47 = true := by kernel_rfl
def h77 : Hint := ⟨[(0, [2, 3, 4]), (1, [4])], [], [], [], [], [], []⟩
@[go_sem] theorem h77_l : h77.lv 0 = [2, 3, 4] ∧ h77.lv 1 = [4] := ⟨rfl, rfl⟩
@[go_sem] def h77_q := hplain h77 rfl rfl rfl
@[go_sem] theorem h77_t : h77.tk = [] ∧ h77.mt = [] ∧ h77.pc = [] := ⟨rfl, rfl, rfl⟩
theorem h77_d : Tryz.f77.body.any (drawsOk h77) = true := by kernel_rfl
theorem call77 : callable Tryz.prog 77 = true := by kernel_rfl
def h78 : Hint := ⟨[(0, [1, 2]), (1, [2])], [], [], [], [], [], []⟩
@[go_sem] theorem h78_l : h78.lv 0 = [1, 2] ∧ h78.lv 1 = [2] := ⟨rfl, rfl⟩
@[go_sem] def h78_q := hplain h78 rfl rfl rfl
@[go_sem] theorem h78_t : h78.tk = [] ∧ h78.mt = [] ∧ h78.pc = [] := ⟨rfl, rfl, rfl⟩
theorem h78_d : Tryz.f78.body.any (drawsOk h78) = true := by kernel_rfl
theorem call78 : callable Tryz.prog 78 = true := by kernel_rfl
def h86 : Hint := ⟨[(0, [2, 3, 4]), (1, [4])], [], [], [], [], [], []⟩
@[go_sem] theorem h86_l : h86.lv 0 = [2, 3, 4] ∧ h86.lv 1 = [4] := ⟨rfl, rfl⟩
@[go_sem] def h86_q := hplain h86 rfl rfl rfl
@[go_sem] theorem h86_t : h86.tk = [] ∧ h86.mt = [] ∧ h86.pc = [] := ⟨rfl, rfl, rfl⟩
theorem h86_d : Tryz.f86.body.any (drawsOk h86) = true := by kernel_rfl
theorem call86 : callable Tryz.prog 86 = true := by kernel_rfl
def h35 : Hint := ⟨[(0, [1, 2]), (1, [1, 2, 3]), (2, [1, 2, 3, 4]), (3, [1, 2, 3, 4, 12]), (4, [1, 2, 3, 4]), (5, [1, 2, 3, 4, 5]), (6, [1, 2, 3, 4, 5, 32]), (7, [1, 2, 3, 4]), (8, [1, 2, 3, 4]), (9, [2])], [], [], [], [7, 21, 22, 29, 30, 36], [(4, 3)], []⟩
@[go_sem] theorem h35_l : h35.lv 0 = [1, 2] ∧ h35.lv 1 = [1, 2, 3] ∧ h35.lv 2 = [1, 2, 3, 4] ∧ h35.lv 3 = [1, 2, 3, 4, 12] ∧ h35.lv 4 = [1, 2, 3, 4] ∧ h35.lv 5 = [1, 2, 3, 4, 5] ∧ h35.lv 6 = [1, 2, 3, 4, 5, 32] ∧ h35.lv 7 = [1, 2, 3, 4] ∧ h35.lv 8 = [1, 2, 3, 4] ∧ h35.lv 9 = [2] := ⟨rfl, rfl, rfl, rfl, rfl, rfl, rfl, rfl, rfl, rfl⟩
@[go_sem] theorem h35_g0 : h35.ct 0 = none := rfl
@[go_sem] theorem h35_g1 : h35.ct 1 = none := rfl
@[go_sem] theorem h35_g2 : h35.ct 2 = none := rfl
@[go_sem] theorem h35_g3 : h35.ct 3 = none := rfl
@[go_sem] theorem h35_g4 : h35.ct 4 = some 3 := rfl
@[go_sem] theorem h35_g5 : h35.ct 5 = none := rfl
@[go_sem] theorem h35_g6 : h35.ct 6 = none := rfl
@[go_sem] theorem h35_g7 : h35.ct 7 = none := rfl
@[go_sem] theorem h35_g8 : h35.ct 8 = none := rfl
@[go_sem] theorem h35_g9 : h35.ct 9 = none := rfl
@[go_sem] theorem h35_z (k : Nat) : h35.at k = [] := rfl
@[go_sem] theorem h35_y (k : Nat) : h35.dn k = false := Eq.trans rfl rfl
theorem h35_d : Tryz.f35.body.any (drawsOk h35) = true := by kernel_rfl
@[go_sem] theorem h35_t : h35.tk = [] ∧ h35.mt = [] ∧ h35.pc = [7, 21, 22, 29, 30, 36] := ⟨rfl, rfl, rfl⟩
theorem call35 : callable Tryz.prog 35 = true := by kernel_rfl
def h76 : Hint := ⟨[(0, [1, 2]), (1, [2])], [], [], [], [], [], []⟩
@[go_sem] theorem h76_l : h76.lv 0 = [1, 2] ∧ h76.lv 1 = [2] := ⟨rfl, rfl⟩
@[go_sem] def h76_q := hplain h76 rfl rfl rfl
@[go_sem] theorem h76_t : h76.tk = [] ∧ h76.mt = [] ∧ h76.pc = [] := ⟨rfl, rfl, rfl⟩
theorem h76_d : Tryz.f76.body.any (drawsOk h76) = true := by kernel_rfl
theorem call76 : callable Tryz.prog 76 = true := by kernel_rfl
def h26 : Hint := ⟨[(0, [2, 3, 4]), (1, [2, 3, 4, 10]), (2, [4]), (3, [2, 3, 4, 5]), (4, [3, 4, 5, 6]), (5, [4])], [], [], [], [13, 15, 16, 18, 21, 24, 26], [], []⟩
@[go_sem] theorem h26_l : h26.lv 0 = [2, 3, 4] ∧ h26.lv 1 = [2, 3, 4, 10] ∧ h26.lv 2 = [4] ∧ h26.lv 3 = [2, 3, 4, 5] ∧ h26.lv 4 = [3, 4, 5, 6] ∧ h26.lv 5 = [4] := ⟨rfl, rfl, rfl, rfl, rfl, rfl⟩
@[go_sem] def h26_q := hplain h26 rfl rfl rfl
@[go_sem] theorem h26_t : h26.tk = [] ∧ h26.mt = [] ∧ h26.pc = [13, 15, 16, 18, 21, 24, 26] := ⟨rfl, rfl, rfl⟩
theorem h26_d : Tryz.f26.body.any (drawsOk h26) = true := by kernel_rfl
theorem call26 : callable Tryz.prog 26 = true := by kernel_rfl
def h28 : Hint := ⟨[(0, [1]), (1, [1, 4]), (2, [1, 4, 5]), (3, [1, 4, 5, 11]), (4, [1, 4, 5]), (5, [1, 4, 5, 6]), (6, [1, 4, 5, 6, 24]), (7, [2, 3]), (8, [1, 4, 5]), (9, [2, 3])], [25, 36], [], [], [21, 23], [(4, 1)], []⟩
@[go_sem] theorem h28_l : h28.lv 0 = [1] ∧ h28.lv 1 = [1, 4] ∧ h28.lv 2 = [1, 4, 5] ∧ h28.lv 3 = [1, 4, 5, 11] ∧ h28.lv 4 = [1, 4, 5] ∧ h28.lv 5 = [1, 4, 5, 6] ∧ h28.lv 6 = [1, 4, 5, 6, 24] ∧ h28.lv 7 = [2, 3] ∧ h28.lv 8 = [1, 4, 5] ∧ h28.lv 9 = [2, 3] := ⟨rfl, rfl, rfl, rfl, rfl, rfl, rfl, rfl, rfl, rfl⟩
@[go_sem] theorem h28_g0 : h28.ct 0 = none := rfl
@[go_sem] theorem h28_g1 : h28.ct 1 = none := rfl
@[go_sem] theorem h28_g2 : h28.ct 2 = none := rfl
@[go_sem] theorem h28_g3 : h28.ct 3 = none := rfl
@[go_sem] theorem h28_g4 : h28.ct 4 = some 1 := rfl
@[go_sem] theorem h28_g5 : h28.ct 5 = none := rfl
@[go_sem] theorem h28_g6 : h28.ct 6 = none := rfl
@[go_sem] theorem h28_g7 : h28.ct 7 = none := rfl
@[go_sem] theorem h28_g8 : h28.ct 8 = none := rfl
@[go_sem] theorem h28_g9 : h28.ct 9 = none := rfl
@[go_sem] theorem h28_z (k : Nat) : h28.at k = [] := rfl
@[go_sem] theorem h28_y (k : Nat) : h28.dn k = false := Eq.trans rfl rfl
theorem h28_d : Tryz.f28.body.any (drawsOk h28) = true := by kernel_rfl
@[go_sem] theorem h28_t : h28.tk = [25, 36] ∧ h28.mt = [] ∧ h28.pc = [21, 23] := ⟨rfl, rfl, rfl⟩
theorem call28 : callable Tryz.prog 28 = true := by kernel_rfl
def h33 : Hint := ⟨[(0, [1, 2]), (1, [1, 2, 3]), (2, [1, 2, 3, 4]), (3, [1, 2, 3, 4, 9]), (4, [1, 2, 3, 4]), (5, [1, 2, 3, 4, 18]), (6, [1, 2, 3, 4]), (7, [2])], [19, 24], [], [], [21, 25], [], []⟩
@[go_sem] theorem h33_l : h33.lv 0 = [1, 2] ∧ h33.lv 1 = [1, 2, 3] ∧ h33.lv 2 = [1, 2, 3, 4] ∧ h33.lv 3 = [1, 2, 3, 4, 9] ∧ h33.lv 4 = [1, 2, 3, 4] ∧ h33.lv 5 = [1, 2, 3, 4, 18] ∧ h33.lv 6 = [1, 2, 3, 4] ∧ h33.lv 7 = [2] := ⟨rfl, rfl, rfl, rfl, rfl, rfl, rfl, rfl⟩
@[go_sem] def h33_q := hplain h33 rfl rfl rfl
@[go_sem] theorem h33_t : h33.tk = [19, 24] ∧ h33.mt = [] ∧ h33.pc = [21, 25] := ⟨rfl, rfl, rfl⟩
theorem h33_d : Tryz.f33.body.any (drawsOk h33) = true := by kernel_rfl
theorem call33 : callable Tryz.prog 33 = true := by kernel_rfl
def h36 : Hint := ⟨[(0, [0, 1]), (1, [0, 1, 12]), (2, [4]), (3, [0, 1, 5]), (4, [0, 1, 5, 16]), (5, [0, 1, 5]), (6, [0, 1, 5, 6]), (7, [0, 1, 5, 6, 7]), (8, [0, 1, 5, 46]), (9, [4]), (10, [4])], [], [], [], [29, 40], [], []⟩
@[go_sem] theorem h36_l : h36.lv 0 = [0, 1] ∧ h36.lv 1 = [0, 1, 12] ∧ h36.lv 2 = [4] ∧ h36.lv 3 = [0, 1, 5] ∧ h36.lv 4 = [0, 1, 5, 16] ∧ h36.lv 5 = [0, 1, 5] ∧ h36.lv 6 = [0, 1, 5, 6] ∧ h36.lv 7 = [0, 1, 5, 6, 7] ∧ h36.lv 8 = [0, 1, 5, 46] ∧ h36.lv 9 = [4] ∧ h36.lv 10 = [4] := ⟨rfl, rfl, rfl, rfl, rfl, rfl, rfl, rfl, rfl, rfl, rfl⟩
@[go_sem] def h36_q := hplain h36 rfl rfl rfl
@[go_sem] theorem h36_t : h36.tk = [] ∧ h36.mt = [] ∧ h36.pc = [29, 40] := ⟨rfl, rfl, rfl⟩
theorem h36_d : Tryz.f36.body.any (drawsOk h36) = true := by kernel_rfl
theorem call36 : callable Tryz.prog 36 = true := by kernel_rfl
def h83 : Hint := ⟨[(0, [0, 2]), (1, [2])], [], [], [], [], [], []⟩
@[go_sem] theorem h83_l : h83.lv 0 = [0, 2] ∧ h83.lv 1 = [2] := ⟨rfl, rfl⟩
@[go_sem] def h83_q := hplain h83 rfl rfl rfl
@[go_sem] theorem h83_t : h83.tk = [] ∧ h83.mt = [] ∧ h83.pc = [] := ⟨rfl, rfl, rfl⟩
theorem h83_d : Tryz.f83.body.any (drawsOk h83) = true := by kernel_rfl
theorem call83 : callable Tryz.prog 83 = true := by kernel_rfl
def h156 : Hint := ⟨[(0, [0, 2, 4, 6]), (1, [0, 2, 4, 6, 12]), (2, [6]), (3, [0, 2, 6, 7]), (4, [2, 6, 7, 18, 19, 20]), (5, [2, 6, 7, 18, 19, 20, 21]), (6, [2, 6, 7, 9, 18, 19, 20]), (7, [2, 6, 7, 18, 19, 20]), (8, [2, 6, 7, 18, 19, 20]), (9, [6])], [17], [], [], [], [(8, 3)], []⟩
@[go_sem] theorem h156_l : h156.lv 0 = [0, 2, 4, 6] ∧ h156.lv 1 = [0, 2, 4, 6, 12] ∧ h156.lv 2 = [6] ∧ h156.lv 3 = [0, 2, 6, 7] ∧ h156.lv 4 = [2, 6, 7, 18, 19, 20] ∧ h156.lv 5 = [2, 6, 7, 18, 19, 20, 21] ∧ h156.lv 6 = [2, 6, 7, 9, 18, 19, 20] ∧ h156.lv 7 = [2, 6, 7, 18, 19, 20] ∧ h156.lv 8 = [2, 6, 7, 18, 19, 20] ∧ h156.lv 9 = [6] := ⟨rfl, rfl, rfl, rfl, rfl, rfl, rfl, rfl, rfl, rfl⟩
@[go_sem] theorem h156_g0 : h156.ct 0 = none := rfl
@[go_sem] theorem h156_g1 : h156.ct 1 = none := rfl
@[go_sem] theorem h156_g2 : h156.ct 2 = none := rfl
@[go_sem] theorem h156_g3 : h156.ct 3 = none := rfl
@[go_sem] theorem h156_g4 : h156.ct 4 = none := rfl
@[go_sem] theorem h156_g5 : h156.ct 5 = none := rfl
@[go_sem] theorem h156_g6 : h156.ct 6 = none := rfl
@[go_sem] theorem h156_g7 : h156.ct 7 = none := rfl
@[go_sem] theorem h156_g8 : h156.ct 8 = some 3 := rfl
@[go_sem] theorem h156_g9 : h156.ct 9 = none := rfl
@[go_sem] theorem h156_z (k : Nat) : h156.at k = [] := rfl
@[go_sem] theorem h156_y (k : Nat) : h156.dn k = false := Eq.trans rfl rfl
theorem h156_d : Tryz.f156.body.any (drawsOk h156) = true := by kernel_rfl
@[go_sem] theorem h156_t : h156.tk = [17] ∧ h156.mt = [] ∧ h156.pc = [] := ⟨rfl, rfl, rfl⟩
theorem call156 : callable Tryz.prog 156 = true := by kernel_rfl
def h157 : Hint := ⟨[(0, [2, 3, 4]), (1, [4])], [], [], [], [], [], []⟩
@[go_sem] theorem h157_l : h157.lv 0 = [2, 3, 4] ∧ h157.lv 1 = [4] := ⟨rfl, rfl⟩
@[go_sem] def h157_q := hplain h157 rfl rfl rfl
@[go_sem] theorem h157_t : h157.tk = [] ∧ h157.mt = [] ∧ h157.pc = [] := ⟨rfl, rfl, rfl⟩
theorem h157_d : Tryz.f157.body.any (drawsOk h157) = true := by kernel_rfl
theorem call157 : callable Tryz.prog 157 = true := by kernel_rfl
def h80 : Hint := ⟨[(0, [0, 2]), (1, [0, 2, 3]), (2, [2, 3, 6, 7, 8]), (3, [2, 3, 6, 7, 8, 9]), (4, [2, 3, 5, 6, 7, 8]), (5, [2, 3, 6, 7, 8]), (6, [2, 3, 6, 7, 8]), (7, [2])], [6, 12, 18], [], [], [14, 20], [], []⟩
@[go_sem] theorem h80_l : h80.lv 0 = [0, 2] ∧ h80.lv 1 = [0, 2, 3] ∧ h80.lv 2 = [2, 3, 6, 7, 8] ∧ h80.lv 3 = [2, 3, 6, 7, 8, 9] ∧ h80.lv 4 = [2, 3, 5, 6, 7, 8] ∧ h80.lv 5 = [2, 3, 6, 7, 8] ∧ h80.lv 6 = [2, 3, 6, 7, 8] ∧ h80.lv 7 = [2] := ⟨rfl, rfl, rfl, rfl, rfl, rfl, rfl, rfl⟩
@[go_sem] def h80_q := hplain h80 rfl rfl rfl
@[go_sem] theorem h80_t : h80.tk = [6, 12, 18] ∧ h80.mt = [] ∧ h80.pc = [14, 20] := ⟨rfl, rfl, rfl⟩
theorem h80_d : Tryz.f80.body.any (drawsOk h80) = true := by kernel_rfl
theorem call80 : callable Tryz.prog 80 = true := by kernel_rfl
def h30 : Hint := ⟨[(0, [1, 2]), (1, [1, 2, 3]), (2, [2, 3, 7, 8, 9]), (3, [2, 3, 7, 8, 9, 10]), (4, [2, 3, 5, 7, 8, 9]), (5, [2, 3, 7, 8, 9]), (6, [2, 3, 7, 8, 9]), (7, [2])], [13, 19], [], [], [20], [(6, 2)], []⟩
@[go_sem] theorem h30_l : h30.lv 0 = [1, 2] ∧ h30.lv 1 = [1, 2, 3] ∧ h30.lv 2 = [2, 3, 7, 8, 9] ∧ h30.lv 3 = [2, 3, 7, 8, 9, 10] ∧ h30.lv 4 = [2, 3, 5, 7, 8, 9] ∧ h30.lv 5 = [2, 3, 7, 8, 9] ∧ h30.lv 6 = [2, 3, 7, 8, 9] ∧ h30.lv 7 = [2] := ⟨rfl, rfl, rfl, rfl, rfl, rfl, rfl, rfl⟩
@[go_sem] theorem h30_g0 : h30.ct 0 = none := rfl
@[go_sem] theorem h30_g1 : h30.ct 1 = none := rfl
@[go_sem] theorem h30_g2 : h30.ct 2 = none := rfl
@[go_sem] theorem h30_g3 : h30.ct 3 = none := rfl
@[go_sem] theorem h30_g4 : h30.ct 4 = none := rfl
@[go_sem] theorem h30_g5 : h30.ct 5 = none := rfl
@[go_sem] theorem h30_g6 : h30.ct 6 = some 2 := rfl
@[go_sem] theorem h30_g7 : h30.ct 7 = none := rfl
@[go_sem] theorem h30_z (k : Nat) : h30.at k = [] := rfl
@[go_sem] theorem h30_y (k : Nat) : h30.dn k = false := Eq.trans rfl rfl
theorem h30_d : Tryz.f30.body.any (drawsOk h30) = true := by kernel_rfl
@[go_sem] theorem h30_t : h30.tk = [13, 19] ∧ h30.mt = [] ∧ h30.pc = [20] := ⟨rfl, rfl, rfl⟩
theorem call30 : callable Tryz.prog 30 = true := by kernel_rfl
def h74 : Hint := ⟨[(0, [2, 3, 4]), (1, [4])], [], [], [], [], [], []⟩
@[go_sem] theorem h74_l : h74.lv 0 = [2, 3, 4] ∧ h74.lv 1 = [4] := ⟨rfl, rfl⟩
@[go_sem] def h74_q := hplain h74 rfl rfl rfl
@[go_sem] theorem h74_t : h74.tk = [] ∧ h74.mt = [] ∧ h74.pc = [] := ⟨rfl, rfl, rfl⟩
theorem h74_d : Tryz.f74.body.any (drawsOk h74) = true := by kernel_rfl
theorem call74 : callable Tryz.prog 74 = true := by kernel_rfl
def h75 : Hint := ⟨[(0, [1, 2]), (1, [2])], [], [], [], [], [], []⟩
@[go_sem] theorem h75_l : h75.lv 0 = [1, 2] ∧ h75.lv 1 = [2] := ⟨rfl, rfl⟩
@[go_sem] def h75_q := hplain h75 rfl rfl rfl
@[go_sem] theorem h75_t : h75.tk = [] ∧ h75.mt = [] ∧ h75.pc = [] := ⟨rfl, rfl, rfl⟩
theorem h75_d : Tryz.f75.body.any (drawsOk h75) = true := by kernel_rfl
theorem call75 : callable Tryz.prog 75 = true := by kernel_rfl
def h84 : Hint := ⟨[(0, [0, 2, 4, 6]), (1, [0, 2, 4, 6, 12]), (2, [6]), (3, [0, 2, 6, 7]), (4, [2, 6, 7, 18, 19, 20]), (5, [2, 6, 7, 18, 19, 20, 21]), (6, [2, 6, 7, 9, 18, 19, 20]), (7, [2, 6, 7, 18, 19, 20]), (8, [2, 6, 7, 18, 19, 20]), (9, [6])], [17], [], [], [], [(8, 3)], []⟩
@[go_sem] theorem h84_l : h84.lv 0 = [0, 2, 4, 6] ∧ h84.lv 1 = [0, 2, 4, 6, 12] ∧ h84.lv 2 = [6] ∧ h84.lv 3 = [0, 2, 6, 7] ∧ h84.lv 4 = [2, 6, 7, 18, 19, 20] ∧ h84.lv 5 = [2, 6, 7, 18, 19, 20, 21] ∧ h84.lv 6 = [2, 6, 7, 9, 18, 19, 20] ∧ h84.lv 7 = [2, 6, 7, 18, 19, 20] ∧ h84.lv 8 = [2, 6, 7, 18, 19, 20] ∧ h84.lv 9 = [6] := ⟨rfl, rfl, rfl, rfl, rfl, rfl, rfl, rfl, rfl, rfl⟩
@[go_sem] theorem h84_g0 : h84.ct 0 = none := rfl
@[go_sem] theorem h84_g1 : h84.ct 1 = none := rfl
@[go_sem] theorem h84_g2 : h84.ct 2 = none := rfl
@[go_sem] theorem h84_g3 : h84.ct 3 = none := rfl
@[go_sem] theorem h84_g4 : h84.ct 4 = none := rfl
@[go_sem] theorem h84_g5 : h84.ct 5 = none := rfl
@[go_sem] theorem h84_g6 : h84.ct 6 = none := rfl
@[go_sem] theorem h84_g7 : h84.ct 7 = none := rfl
@[go_sem] theorem h84_g8 : h84.ct 8 = some 3 := rfl
@[go_sem] theorem h84_g9 : h84.ct 9 = none := rfl
@[go_sem] theorem h84_z (k : Nat) : h84.at k = [] := rfl
@[go_sem] theorem h84_y (k : Nat) : h84.dn k = false := Eq.trans rfl rfl
theorem h84_d : Tryz.f84.body.any (drawsOk h84) = true := by kernel_rfl
@[go_sem] theorem h84_t : h84.tk = [17] ∧ h84.mt = [] ∧ h84.pc = [] := ⟨rfl, rfl, rfl⟩
theorem call84 : callable Tryz.prog 84 = true := by kernel_rfl
def h85 : Hint := ⟨[(0, [2, 3, 4]), (1, [4])], [], [], [], [], [], []⟩
@[go_sem] theorem h85_l : h85.lv 0 = [2, 3, 4] ∧ h85.lv 1 = [4] := ⟨rfl, rfl⟩
@[go_sem] def h85_q := hplain h85 rfl rfl rfl
@[go_sem] theorem h85_t : h85.tk = [] ∧ h85.mt = [] ∧ h85.pc = [] := ⟨rfl, rfl, rfl⟩
theorem h85_d : Tryz.f85.body.any (drawsOk h85) = true := by kernel_rfl
theorem call85 : callable Tryz.prog 85 = true := by kernel_rfl
def h34 : Hint := ⟨[(0, [1, 2]), (1, [1, 2, 3]), (2, [2, 3, 7, 8, 9]), (3, [2, 3, 7, 8, 9, 10]), (4, [2, 3, 5, 7, 8, 9]), (5, [2, 3, 7, 8, 9]), (6, [2, 3, 7, 8, 9]), (7, [2])], [13, 25], [], [], [16, 17, 21, 27, 28], [(6, 2)], []⟩
@[go_sem] theorem h34_l : h34.lv 0 = [1, 2] ∧ h34.lv 1 = [1, 2, 3] ∧ h34.lv 2 = [2, 3, 7, 8, 9] ∧ h34.lv 3 = [2, 3, 7, 8, 9, 10] ∧ h34.lv 4 = [2, 3, 5, 7, 8, 9] ∧ h34.lv 5 = [2, 3, 7, 8, 9] ∧ h34.lv 6 = [2, 3, 7, 8, 9] ∧ h34.lv 7 = [2] := ⟨rfl, rfl, rfl, rfl, rfl, rfl, rfl, rfl⟩
@[go_sem] theorem h34_g0 : h34.ct 0 = none := rfl
@[go_sem] theorem h34_g1 : h34.ct 1 = none := rfl
@[go_sem] theorem h34_g2 : h34.ct 2 = none := rfl
@[go_sem] theorem h34_g3 : h34.ct 3 = none := rfl
@[go_sem] theorem h34_g4 : h34.ct 4 = none := rfl
@[go_sem] theorem h34_g5 : h34.ct 5 = none := rfl
@[go_sem] theorem h34_g6 : h34.ct 6 = some 2 := rfl
@[go_sem] theorem h34_g7 : h34.ct 7 = none := rfl
@[go_sem] theorem h34_z (k : Nat) : h34.at k = [] := rfl
@[go_sem] theorem h34_y (k : Nat) : h34.dn k = false := Eq.trans rfl rfl
theorem h34_d : Tryz.f34.body.any (drawsOk h34) = true := by kernel_rfl
@[go_sem] theorem h34_t : h34.tk = [13, 25] ∧ h34.mt = [] ∧ h34.pc = [16, 17, 21, 27, 28] := ⟨rfl, rfl, rfl⟩
theorem call34 : callable Tryz.prog 34 = true := by kernel_rfl
def h25 : Hint := ⟨[(0, [2, 3, 4]), (1, [2, 3, 4, 9]), (2, [4]), (3, [2, 3, 4, 5]), (4, [4])], [], [], [], [12, 14, 19, 21, 24, 25], [], []⟩
@[go_sem] theorem h25_l : h25.lv 0 = [2, 3, 4] ∧ h25.lv 1 = [2, 3, 4, 9] ∧ h25.lv 2 = [4] ∧ h25.lv 3 = [2, 3, 4, 5] ∧ h25.lv 4 = [4] := ⟨rfl, rfl, rfl, rfl, rfl⟩
@[go_sem] def h25_q := hplain h25 rfl rfl rfl
@[go_sem] theorem h25_t : h25.tk = [] ∧ h25.mt = [] ∧ h25.pc = [12, 14, 19, 21, 24, 25] := ⟨rfl, rfl, rfl⟩
theorem h25_d : Tryz.f25.body.any (drawsOk h25) = true := by kernel_rfl
theorem call25 : callable Tryz.prog 25 = true := by kernel_rfl
def h204 : Hint := ⟨[(0, [1]), (1, [10]), (2, [2]), (3, [2])], [], [], [], [], [], []⟩
@[go_sem] theorem h204_l : h204.lv 0 = [1] ∧ h204.lv 1 = [10] ∧ h204.lv 2 = [2] ∧ h204.lv 3 = [2] := ⟨rfl, rfl, rfl, rfl⟩
@[go_sem] def h204_q := hplain h204 rfl rfl rfl
@[go_sem] theorem h204_t : h204.tk = [] ∧ h204.mt = [] ∧ h204.pc = [] := ⟨rfl, rfl, rfl⟩
theorem h204_d : Tryz.f204.body.any (drawsOk h204) = true := by kernel_rfl
theorem call204 : callable Tryz.prog 204 = true := by kernel_rfl
def h138 : Hint := ⟨[(0, [1, 2]), (1, [1, 5]), (2, [1, 5, 9]), (3, [4]), (4, [13]), (5, [4]), (6, [4])], [], [], [], [7], [], []⟩
@[go_sem] theorem h138_l : h138.lv 0 = [1, 2] ∧ h138.lv 1 = [1, 5] ∧ h138.lv 2 = [1, 5, 9] ∧ h138.lv 3 = [4] ∧ h138.lv 4 = [13] ∧ h138.lv 5 = [4] ∧ h138.lv 6 = [4] := ⟨rfl, rfl, rfl, rfl, rfl, rfl, rfl⟩
@[go_sem] def h138_q := hplain h138 rfl rfl rfl
@[go_sem] theorem h138_t : h138.tk = [] ∧ h138.mt = [] ∧ h138.pc = [7] := ⟨rfl, rfl, rfl⟩
theorem h138_d : Tryz.f138.body.any (drawsOk h138) = true := by kernel_rfl
theorem call138 : callable Tryz.prog 138 = true := by kernel_rfl
def h219 : Hint := ⟨[(0, [2, 3, 4]), (1, [4])], [], [], [], [], [], []⟩
@[go_sem] theorem h219_l : h219.lv 0 = [2, 3, 4] ∧ h219.lv 1 = [4] := ⟨rfl, rfl⟩
@[go_sem] def h219_q := hplain h219 rfl rfl rfl
@[go_sem] theorem h219_t : h219.tk = [] ∧ h219.mt = [] ∧ h219.pc = [] := ⟨rfl, rfl, rfl⟩
theorem h219_d : Tryz.f219.body.any (drawsOk h219) = true := by kernel_rfl
theorem call219 : callable Tryz.prog 219 = true := by kernel_rfl
def h247 : Hint := ⟨[(0, [0, 1, 4]), (1, [0, 1, 4, 5]), (2, [1, 4, 5, 9, 10, 11]), (3, [1, 4, 5, 9, 10, 11, 12]), (4, [1, 4, 5, 7, 9, 10, 11]), (5, [1, 4, 5, 9, 10, 11]), (6, [1, 4, 5, 9, 10, 11]), (7, [4])], [9], [], [], [18, 19], [(6, 2)], []⟩
@[go_sem] theorem h247_l : h247.lv 0 = [0, 1, 4] ∧ h247.lv 1 = [0, 1, 4, 5] ∧ h247.lv 2 = [1, 4, 5, 9, 10, 11] ∧ h247.lv 3 = [1, 4, 5, 9, 10, 11, 12] ∧ h247.lv 4 = [1, 4, 5, 7, 9, 10, 11] ∧ h247.lv 5 = [1, 4, 5, 9, 10, 11] ∧ h247.lv 6 = [1, 4, 5, 9, 10, 11] ∧ h247.lv 7 = [4] := ⟨rfl, rfl, rfl, rfl, rfl, rfl, rfl, rfl⟩
@[go_sem] theorem h247_g0 : h247.ct 0 = none := rfl
@[go_sem] theorem h247_g1 : h247.ct 1 = none := rfl
@[go_sem] theorem h247_g2 : h247.ct 2 = none := rfl
@[go_sem] theorem h247_g3 : h247.ct 3 = none := rfl
@[go_sem] theorem h247_g4 : h247.ct 4 = none := rfl
@[go_sem] theorem h247_g5 : h247.ct 5 = none := rfl
@[go_sem] theorem h247_g6 : h247.ct 6 = some 2 := rfl
@[go_sem] theorem h247_g7 : h247.ct 7 = none := rfl
@[go_sem] theorem h247_z (k : Nat) : h247.at k = [] := rfl
@[go_sem] theorem h247_y (k : Nat) : h247.dn k = false := Eq.trans rfl rfl
theorem h247_d : Tryz.f247.body.any (drawsOk h247) = true := by kernel_rfl
@[go_sem] theorem h247_t : h247.tk = [9] ∧ h247.mt = [] ∧ h247.pc = [18, 19] := ⟨rfl, rfl, rfl⟩
theorem call247 : callable Tryz.prog 247 = true := by kernel_rfl
def h199 : Hint := ⟨[(0, [1, 2]), (1, [2])], [], [], [], [5], [], []⟩
@[go_sem] theorem h199_l : h199.lv 0 = [1, 2] ∧ h199.lv 1 = [2] := ⟨rfl, rfl⟩
@[go_sem] def h199_q := hplain h199 rfl rfl rfl
@[go_sem] theorem h199_t : h199.tk = [] ∧ h199.mt = [] ∧ h199.pc = [5] := ⟨rfl, rfl, rfl⟩
theorem h199_d : Tryz.f199.body.any (drawsOk h199) = true := by kernel_rfl
theorem call199 : callable Tryz.prog 199 = true := by kernel_rfl
def h218 : Hint := ⟨[(0, [0, 1, 4]), (1, [0, 1, 4, 5]), (2, [1, 4, 5, 9, 10, 11]), (3, [1, 4, 5, 9, 10, 11, 12]), (4, [1, 4, 5, 7, 9, 10, 11]), (5, [1, 4, 5, 9, 10, 11]), (6, [1, 4, 5, 9, 10, 11]), (7, [4])], [9], [], [], [18, 19], [(6, 2)], []⟩
@[go_sem] theorem h218_l : h218.lv 0 = [0, 1, 4] ∧ h218.lv 1 = [0, 1, 4, 5] ∧ h218.lv 2 = [1, 4, 5, 9, 10, 11] ∧ h218.lv 3 = [1, 4, 5, 9, 10, 11, 12] ∧ h218.lv 4 = [1, 4, 5, 7, 9, 10, 11] ∧ h218.lv 5 = [1, 4, 5, 9, 10, 11] ∧ h218.lv 6 = [1, 4, 5, 9, 10, 11] ∧ h218.lv 7 = [4] := ⟨rfl, rfl, rfl, rfl, rfl, rfl, rfl, rfl⟩
@[go_sem] theorem h218_g0 : h218.ct 0 = none := rfl
@[go_sem] theorem h218_g1 : h218.ct 1 = none := rfl
@[go_sem] theorem h218_g2 : h218.ct 2 = none := rfl
@[go_sem] theorem h218_g3 : h218.ct 3 = none := rfl
@[go_sem] theorem h218_g4 : h218.ct 4 = none := rfl
@[go_sem] theorem h218_g5 : h218.ct 5 = none := rfl
@[go_sem] theorem h218_g6 : h218.ct 6 = some 2 := rfl
@[go_sem] theorem h218_g7 : h218.ct 7 = none := rfl
@[go_sem] theorem h218_z (k : Nat) : h218.at k = [] := rfl
@[go_sem] theorem h218_y (k : Nat) : h218.dn k = false := Eq.trans rfl rfl
theorem h218_d : Tryz.f218.body.any (drawsOk h218) = true := by kernel_rfl
@[go_sem] theorem h218_t : h218.tk = [9] ∧ h218.mt = [] ∧ h218.pc = [18, 19] := ⟨rfl, rfl, rfl⟩
theorem call218 : callable Tryz.prog 218 = true := by kernel_rfl
def h153 : Hint := ⟨[(0, [1, 2]), (1, [1, 2, 3]), (2, [1, 2, 3, 9]), (3, [2, 3]), (4, [2])], [], [], [], [6, 13, 14], [], []⟩
@[go_sem] theorem h153_l : h153.lv 0 = [1, 2] ∧ h153.lv 1 = [1, 2, 3] ∧ h153.lv 2 = [1, 2, 3, 9] ∧ h153.lv 3 = [2, 3] ∧ h153.lv 4 = [2] := ⟨rfl, rfl, rfl, rfl, rfl⟩
@[go_sem] def h153_q := hplain h153 rfl rfl rfl
@[go_sem] theorem h153_t : h153.tk = [] ∧ h153.mt = [] ∧ h153.pc = [6, 13, 14] := ⟨rfl, rfl, rfl⟩
theorem h153_d : Tryz.f153.body.any (drawsOk h153) = true := by kernel_rfl
theorem call153 : callable Tryz.prog 153 = true := by kernel_rfl
def h315 : Hint := ⟨[(0, [0, 1, 2]), (1, [6])], [], [], [], [], [], []⟩
@[go_sem] theorem h315_l : h315.lv 0 = [0, 1, 2] ∧ h315.lv 1 = [6] := ⟨rfl, rfl⟩
@[go_sem] def h315_q := hplain h315 rfl rfl rfl
@[go_sem] theorem h315_t : h315.tk = [] ∧ h315.mt = [] ∧ h315.pc = [] := ⟨rfl, rfl, rfl⟩
theorem h315_d : Tryz.f315.body.any (drawsOk h315) = true := by kernel_rfl
theorem call315 : callable Tryz.prog 315 = true := by kernel_rfl
def h286 : Hint := ⟨[(0, [0]), (1, [2])], [], [], [], [4], [], []⟩
@[go_sem] theorem h286_l : h286.lv 0 = [0] ∧ h286.lv 1 = [2] := ⟨rfl, rfl⟩
@[go_sem] def h286_q := hplain h286 rfl rfl rfl
@[go_sem] theorem h286_t : h286.tk = [] ∧ h286.mt = [] ∧ h286.pc = [4] := ⟨rfl, rfl, rfl⟩
theorem h286_d : Tryz.f286.body.any (drawsOk h286) = true := by kernel_rfl
theorem call286 : callable Tryz.prog 286 = true := by kernel_rfl
def h303 : Hint := ⟨[(0, [0]), (1, [2])], [], [], [], [], [], []⟩
@[go_sem] theorem h303_l : h303.lv 0 = [0] ∧ h303.lv 1 = [2] := ⟨rfl, rfl⟩
@[go_sem] def h303_q := hplain h303 rfl rfl rfl
@[go_sem] theorem h303_t : h303.tk = [] ∧ h303.mt = [] ∧ h303.pc = [] := ⟨rfl, rfl, rfl⟩
theorem h303_d : Tryz.f303.body.any (drawsOk h303) = true := by kernel_rfl
theorem call303 : callable Tryz.prog 303 = true := by kernel_rfl
def h272 : Hint := ⟨[(0, [0, 1]), (1, [4])], [], [], [], [6, 9], [], []⟩
@[go_sem] theorem h272_l : h272.lv 0 = [0, 1] ∧ h272.lv 1 = [4] := ⟨rfl, rfl⟩
@[go_sem] def h272_q := hplain h272 rfl rfl rfl
@[go_sem] theorem h272_t : h272.tk = [] ∧ h272.mt = [] ∧ h272.pc = [6, 9] := ⟨rfl, rfl, rfl⟩
theorem h272_d : Tryz.f272.body.any (drawsOk h272) = true := by kernel_rfl
theorem call272 : callable Tryz.prog 272 = true := by kernel_rfl
def h316 : Hint := ⟨[(0, [0]), (1, [2])], [], [], [], [], [], []⟩
@[go_sem] theorem h316_l : h316.lv 0 = [0] ∧ h316.lv 1 = [2] := ⟨rfl, rfl⟩
@[go_sem] def h316_q := hplain h316 rfl rfl rfl
@[go_sem] theorem h316_t : h316.tk = [] ∧ h316.mt = [] ∧ h316.pc = [] := ⟨rfl, rfl, rfl⟩
theorem h316_d : Tryz.f316.body.any (drawsOk h316) = true := by kernel_rfl
theorem call316 : callable Tryz.prog 316 = true := by kernel_rfl
def h287 : Hint := ⟨[(0, [0, 1]), (1, [0, 1, 6]), (2, [0, 1, 6, 7, 8]), (3, [0, 1, 6, 7, 8, 15]), (4, [0, 1, 6, 7, 8, 9]), (5, [0, 1, 6, 7, 8, 9, 27]), (6, [0, 1, 6, 7, 8]), (7, [0, 1, 6, 7, 8]), (8, [4, 5])], [43], [], [], [27, 47, 50], [], []⟩
@[go_sem] theorem h287_l : h287.lv 0 = [0, 1] ∧ h287.lv 1 = [0, 1, 6] ∧ h287.lv 2 = [0, 1, 6, 7, 8] ∧ h287.lv 3 = [0, 1, 6, 7, 8, 15] ∧ h287.lv 4 = [0, 1, 6, 7, 8, 9] ∧ h287.lv 5 = [0, 1, 6, 7, 8, 9, 27] ∧ h287.lv 6 = [0, 1, 6, 7, 8] ∧ h287.lv 7 = [0, 1, 6, 7, 8] ∧ h287.lv 8 = [4, 5] := ⟨rfl, rfl, rfl, rfl, rfl, rfl, rfl, rfl, rfl⟩
@[go_sem] def h287_q := hplain h287 rfl rfl rfl
@[go_sem] theorem h287_t : h287.tk = [43] ∧ h287.mt = [] ∧ h287.pc = [27, 47, 50] := ⟨rfl, rfl, rfl⟩
theorem h287_d : Tryz.f287.body.any (drawsOk h287) = true := by kernel_rfl
theorem call287 : callable Tryz.prog 287 = true := by kernel_rfl
def h288 : Hint := ⟨[(0, [0, 1]), (1, [0, 1, 5]), (2, [0, 1, 5, 16]), (3, [0, 1, 5]), (4, [4])], [], [], [], [], [], []⟩
@[go_sem] theorem h288_l : h288.lv 0 = [0, 1] ∧ h288.lv 1 = [0, 1, 5] ∧ h288.lv 2 = [0, 1, 5, 16] ∧ h288.lv 3 = [0, 1, 5] ∧ h288.lv 4 = [4] := ⟨rfl, rfl, rfl, rfl, rfl⟩
@[go_sem] def h288_q := hplain h288 rfl rfl rfl
@[go_sem] theorem h288_t : h288.tk = [] ∧ h288.mt = [] ∧ h288.pc = [] := ⟨rfl, rfl, rfl⟩
theorem h288_d : Tryz.f288.body.any (drawsOk h288) = true := by kernel_rfl
theorem call288 : callable Tryz.prog 288 = true := by kernel_rfl
def h317 : Hint := ⟨[(0, [0]), (1, [2])], [], [], [], [4], [], []⟩
@[go_sem] theorem h317_l : h317.lv 0 = [0] ∧ h317.lv 1 = [2] := ⟨rfl, rfl⟩
@[go_sem] def h317_q := hplain h317 rfl rfl rfl
@[go_sem] theorem h317_t : h317.tk = [] ∧ h317.mt = [] ∧ h317.pc = [4] := ⟨rfl, rfl, rfl⟩
theorem h317_d : Tryz.f317.body.any (drawsOk h317) = true := by kernel_rfl
theorem call317 : callable Tryz.prog 317 = true := by kernel_rfl
def h290 : Hint := ⟨[(0, [0]), (1, [2])], [], [], [], [4, 7], [], []⟩
@[go_sem] theorem h290_l : h290.lv 0 = [0] ∧ h290.lv 1 = [2] := ⟨rfl, rfl⟩
@[go_sem] def h290_q := hplain h290 rfl rfl rfl
@[go_sem] theorem h290_t : h290.tk = [] ∧ h290.mt = [] ∧ h290.pc = [4, 7] := ⟨rfl, rfl, rfl⟩
theorem h290_d : Tryz.f290.body.any (drawsOk h290) = true := by kernel_rfl
theorem call290 : callable Tryz.prog 290 = true := by kernel_rfl
def h289 : Hint := ⟨[(0, [0]), (1, [2])], [], [], [], [5], [], []⟩
@[go_sem] theorem h289_l : h289.lv 0 = [0] ∧ h289.lv 1 = [2] := ⟨rfl, rfl⟩
@[go_sem] def h289_q := hplain h289 rfl rfl rfl
@[go_sem] theorem h289_t : h289.tk = [] ∧ h289.mt = [] ∧ h289.pc = [5] := ⟨rfl, rfl, rfl⟩
theorem h289_d : Tryz.f289.body.any (drawsOk h289) = true := by kernel_rfl
theorem call289 : callable Tryz.prog 289 = true := by kernel_rfl
def h252 : Hint := ⟨[(0, [0]), (1, [0, 17]), (2, [2]), (3, [0, 4]), (4, [2])], [], [], [], [15, 21, 28], [], []⟩
@[go_sem] theorem h252_l : h252.lv 0 = [0] ∧ h252.lv 1 = [0, 17] ∧ h252.lv 2 = [2] ∧ h252.lv 3 = [0, 4] ∧ h252.lv 4 = [2] := ⟨rfl, rfl, rfl, rfl, rfl⟩
@[go_sem] def h252_q := hplain h252 rfl rfl rfl
@[go_sem] theorem h252_t : h252.tk = [] ∧ h252.mt = [] ∧ h252.pc = [15, 21, 28] := ⟨rfl, rfl, rfl⟩
theorem h252_d : Tryz.f252.body.any (drawsOk h252) = true := by kernel_rfl
theorem call252 : callable Tryz.prog 252 = true := by kernel_rfl
def h205 : Hint := ⟨[(0, [0]), (1, [2])], [], [], [], [4], [], []⟩
@[go_sem] theorem h205_l : h205.lv 0 = [0] ∧ h205.lv 1 = [2] := ⟨rfl, rfl⟩
@[go_sem] def h205_q := hplain h205 rfl rfl rfl
@[go_sem] theorem h205_t : h205.tk = [] ∧ h205.mt = [] ∧ h205.pc = [4] := ⟨rfl, rfl, rfl⟩
theorem h205_d : Tryz.f205.body.any (drawsOk h205) = true := by kernel_rfl
theorem call205 : callable Tryz.prog 205 = true := by kernel_rfl
def h221 : Hint := ⟨[(0, [0]), (1, [2])], [], [], [], [7], [], []⟩
@[go_sem] theorem h221_l : h221.lv 0 = [0] ∧ h221.lv 1 = [2] := ⟨rfl, rfl⟩
@[go_sem] def h221_q := hplain h221 rfl rfl rfl
@[go_sem] theorem h221_t : h221.tk = [] ∧ h221.mt = [] ∧ h221.pc = [7] := ⟨rfl, rfl, rfl⟩
theorem h221_d : Tryz.f221.body.any (drawsOk h221) = true := by kernel_rfl
theorem call221 : callable Tryz.prog 221 = true := by kernel_rfl
def h222 : Hint := ⟨[(0, [0]), (1, [2])], [], [], [], [], [], []⟩
@[go_sem] theorem h222_l : h222.lv 0 = [0] ∧ h222.lv 1 = [2] := ⟨rfl, rfl⟩
@[go_sem] def h222_q := hplain h222 rfl rfl rfl
@[go_sem] theorem h222_t : h222.tk = [] ∧ h222.mt = [] ∧ h222.pc = [] := ⟨rfl, rfl, rfl⟩
theorem h222_d : Tryz.f222.body.any (drawsOk h222) = true := by kernel_rfl
theorem call222 : callable Tryz.prog 222 = true := by kernel_rfl
def h248 : Hint := ⟨[(0, [0]), (1, [2])], [], [], [], [], [], []⟩
@[go_sem] theorem h248_l : h248.lv 0 = [0] ∧ h248.lv 1 = [2] := ⟨rfl, rfl⟩
@[go_sem] def h248_q := hplain h248 rfl rfl rfl
@[go_sem] theorem h248_t : h248.tk = [] ∧ h248.mt = [] ∧ h248.pc = [] := ⟨rfl, rfl, rfl⟩
theorem h248_d : Tryz.f248.body.any (drawsOk h248) = true := by kernel_rfl
theorem call248 : callable Tryz.prog 248 = true := by kernel_rfl
def h314 : Hint := ⟨[(0, [0, 1]), (1, [0, 1, 7, 8]), (2, [0, 1, 7, 8, 9]), (3, [0, 1, 5, 7, 8]), (4, [0, 1, 5, 7, 8, 16]), (5, [4]), (6, [0, 1, 7, 8]), (7, [4])], [], [], [], [], [], []⟩
@[go_sem] theorem h314_l : h314.lv 0 = [0, 1] ∧ h314.lv 1 = [0, 1, 7, 8] ∧ h314.lv 2 = [0, 1, 7, 8, 9] ∧ h314.lv 3 = [0, 1, 5, 7, 8] ∧ h314.lv 4 = [0, 1, 5, 7, 8, 16] ∧ h314.lv 5 = [4] ∧ h314.lv 6 = [0, 1, 7, 8] ∧ h314.lv 7 = [4] := ⟨rfl, rfl, rfl, rfl, rfl, rfl, rfl, rfl⟩
@[go_sem] def h314_q := hplain h314 rfl rfl rfl
@[go_sem] theorem h314_t : h314.tk = [] ∧ h314.mt = [] ∧ h314.pc = [] := ⟨rfl, rfl, rfl⟩
theorem h314_d : Tryz.f314.body.any (drawsOk h314) = true := by kernel_rfl
theorem call314 : callable Tryz.prog 314 = true := by kernel_rfl
def h284 : Hint := ⟨[(0, [0, 1]), (1, [4])], [5], [], [], [], [], []⟩
@[go_sem] theorem h284_l : h284.lv 0 = [0, 1] ∧ h284.lv 1 = [4] := ⟨rfl, rfl⟩
@[go_sem] def h284_q := hplain h284 rfl rfl rfl
@[go_sem] theorem h284_t : h284.tk = [5] ∧ h284.mt = [] ∧ h284.pc = [] := ⟨rfl, rfl, rfl⟩
theorem h284_d : Tryz.f284.body.any (drawsOk h284) = true := by kernel_rfl
theorem call284 : callable Tryz.prog 284 = true := by kernel_rfl
def h285 : Hint := ⟨[(0, [1, 2]), (1, [3])], [], [], [], [], [], []⟩
@[go_sem] theorem h285_l : h285.lv 0 = [1, 2] ∧ h285.lv 1 = [3] := ⟨rfl, rfl⟩
@[go_sem] def h285_q := hplain h285 rfl rfl rfl
@[go_sem] theorem h285_t : h285.tk = [] ∧ h285.mt = [] ∧ h285.pc = [] := ⟨rfl, rfl, rfl⟩
theorem h285_d : Tryz.f285.body.any (drawsOk h285) = true := by kernel_rfl
theorem call285 : callable Tryz.prog 285 = true := by kernel_rfl
def h249 : Hint := ⟨[(0, [0, 1, 5]), (1, [6])], [12], [], [], [], [], []⟩
@[go_sem] theorem h249_l : h249.lv 0 = [0, 1, 5] ∧ h249.lv 1 = [6] := ⟨rfl, rfl⟩
@[go_sem] def h249_q := hplain h249 rfl rfl rfl
@[go_sem] theorem h249_t : h249.tk = [12] ∧ h249.mt = [] ∧ h249.pc = [] := ⟨rfl, rfl, rfl⟩
theorem h249_d : Tryz.f249.body.any (drawsOk h249) = true := by kernel_rfl
theorem call249 : callable Tryz.prog 249 = true := by kernel_rfl
def h201 : Hint := ⟨[(0, [1]), (1, [1, 3]), (2, [1, 3, 18]), (3, [1, 3, 18, 19]), (4, [1, 3, 18, 19]), (5, [2]), (6, [1, 3, 18, 29]), (7, [2]), (8, [1, 3, 18, 50]), (9, [2]), (10, [1, 3, 18, 76]), (11, [2]), (12, [1, 3, 18, 104]), (13, [2]), (14, [1, 3, 18, 132]), (15, [2]), (16, [1, 3, 18, 140]), (17, [1, 3, 140]), (18, [2]), (19, [2])], [], [], [], [33, 37, 54, 58, 80, 84, 89, 112, 117, 138, 147], [], []⟩
@[go_sem] theorem h201_l : h201.lv 0 = [1] ∧ h201.lv 1 = [1, 3] ∧ h201.lv 2 = [1, 3, 18] ∧ h201.lv 3 = [1, 3, 18, 19] ∧ h201.lv 4 = [1, 3, 18, 19] ∧ h201.lv 5 = [2] ∧ h201.lv 6 = [1, 3, 18, 29] ∧ h201.lv 7 = [2] ∧ h201.lv 8 = [1, 3, 18, 50] ∧ h201.lv 9 = [2] ∧ h201.lv 10 = [1, 3, 18, 76] ∧ h201.lv 11 = [2] ∧ h201.lv 12 = [1, 3, 18, 104] ∧ h201.lv 13 = [2] ∧ h201.lv 14 = [1, 3, 18, 132] ∧ h201.lv 15 = [2] ∧ h201.lv 16 = [1, 3, 18, 140] ∧ h201.lv 17 = [1, 3, 140] ∧ h201.lv 18 = [2] ∧ h201.lv 19 = [2] := ⟨rfl, rfl, rfl, rfl, rfl, rfl, rfl, rfl, rfl, rfl, rfl, rfl, rfl, rfl, rfl, rfl, rfl, rfl, rfl, rfl⟩
@[go_sem] def h201_q := hplain h201 rfl rfl rfl
@[go_sem] theorem h201_t : h201.tk = [] ∧ h201.mt = [] ∧ h201.pc = [33, 37, 54, 58, 80, 84, 89, 112, 117, 138, 147] := ⟨rfl, rfl, rfl⟩
theorem h201_d : Tryz.f201.body.any (drawsOk h201) = true := by kernel_rfl
theorem call201 : callable Tryz.prog 201 = true := by kernel_rfl
def h260 : Hint := ⟨[(0, [0, 1, 2]), (1, [0, 1, 2, 14]), (2, [6]), (3, [1, 2, 15, 16, 17]), (4, [1, 2, 15, 16, 17, 18]), (5, [1, 2, 7, 8, 15, 16, 17]), (6, [1, 2, 8, 9, 15, 16, 17]), (7, [1, 2, 15, 16, 17, 30]), (8, [6]), (9, [1, 2, 15, 16, 17]), (10, [6])], [15], [], [], [], [(9, 0)], []⟩
@[go_sem] theorem h260_l : h260.lv 0 = [0, 1, 2] ∧ h260.lv 1 = [0, 1, 2, 14] ∧ h260.lv 2 = [6] ∧ h260.lv 3 = [1, 2, 15, 16, 17] ∧ h260.lv 4 = [1, 2, 15, 16, 17, 18] ∧ h260.lv 5 = [1, 2, 7, 8, 15, 16, 17] ∧ h260.lv 6 = [1, 2, 8, 9, 15, 16, 17] ∧ h260.lv 7 = [1, 2, 15, 16, 17, 30] ∧ h260.lv 8 = [6] ∧ h260.lv 9 = [1, 2, 15, 16, 17] ∧ h260.lv 10 = [6] := ⟨rfl, rfl, rfl, rfl, rfl, rfl, rfl, rfl, rfl, rfl, rfl⟩
@[go_sem] theorem h260_g0 : h260.ct 0 = none := rfl
@[go_sem] theorem h260_g1 : h260.ct 1 = none := rfl
@[go_sem] theorem h260_g2 : h260.ct 2 = none := rfl
@[go_sem] theorem h260_g3 : h260.ct 3 = none := rfl
@[go_sem] theorem h260_g4 : h260.ct 4 = none := rfl
@[go_sem] theorem h260_g5 : h260.ct 5 = none := rfl
@[go_sem] theorem h260_g6 : h260.ct 6 = none := rfl
@[go_sem] theorem h260_g7 : h260.ct 7 = none := rfl
@[go_sem] theorem h260_g8 : h260.ct 8 = none := rfl
@[go_sem] theorem h260_g9 : h260.ct 9 = some 0 := rfl
@[go_sem] theorem h260_g10 : h260.ct 10 = none := rfl
@[go_sem] theorem h260_z (k : Nat) : h260.at k = [] := rfl
@[go_sem] theorem h260_y (k : Nat) : h260.dn k = false := Eq.trans rfl rfl
theorem h260_d : Tryz.f260.body.any (drawsOk h260) = true := by kernel_rfl
@[go_sem] theorem h260_t : h260.tk = [15] ∧ h260.mt = [] ∧ h260.pc = [] := ⟨rfl, rfl, rfl⟩
theorem call260 : callable Tryz.prog 260 = true := by kernel_rfl
def h220 : Hint := ⟨[(0, [2, 3]), (1, [4])], [], [], [], [36], [], []⟩
@[go_sem] theorem h220_l : h220.lv 0 = [2, 3] ∧ h220.lv 1 = [4] := ⟨rfl, rfl⟩
@[go_sem] def h220_q := hplain h220 rfl rfl rfl
@[go_sem] theorem h220_t : h220.tk = [] ∧ h220.mt = [] ∧ h220.pc = [36] := ⟨rfl, rfl, rfl⟩
theorem h220_d : Tryz.f220.body.any (drawsOk h220) = true := by kernel_rfl
theorem call220 : callable Tryz.prog 220 = true := by kernel_rfl
def h295 : Hint := ⟨[(0, [0, 1]), (1, [0, 1, 7, 8]), (2, [0, 1, 7, 8, 9]), (3, [0, 1, 5, 7, 8]), (4, [0, 1, 5, 7, 8, 16]), (5, [4]), (6, [0, 1, 7, 8]), (7, [4])], [], [], [], [], [], []⟩
@[go_sem] theorem h295_l : h295.lv 0 = [0, 1] ∧ h295.lv 1 = [0, 1, 7, 8] ∧ h295.lv 2 = [0, 1, 7, 8, 9] ∧ h295.lv 3 = [0, 1, 5, 7, 8] ∧ h295.lv 4 = [0, 1, 5, 7, 8, 16] ∧ h295.lv 5 = [4] ∧ h295.lv 6 = [0, 1, 7, 8] ∧ h295.lv 7 = [4] := ⟨rfl, rfl, rfl, rfl, rfl, rfl, rfl, rfl⟩
@[go_sem] def h295_q := hplain h295 rfl rfl rfl
@[go_sem] theorem h295_t : h295.tk = [] ∧ h295.mt = [] ∧ h295.pc = [] := ⟨rfl, rfl, rfl⟩
theorem h295_d : Tryz.f295.body.any (drawsOk h295) = true := by kernel_rfl
theorem call295 : callable Tryz.prog 295 = true := by kernel_rfl
def h261 : Hint := ⟨[(0, [0, 1]), (1, [4])], [5], [], [], [], [], []⟩
@[go_sem] theorem h261_l : h261.lv 0 = [0, 1] ∧ h261.lv 1 = [4] := ⟨rfl, rfl⟩
@[go_sem] def h261_q := hplain h261 rfl rfl rfl
@[go_sem] theorem h261_t : h261.tk = [5] ∧ h261.mt = [] ∧ h261.pc = [] := ⟨rfl, rfl, rfl⟩
theorem h261_d : Tryz.f261.body.any (drawsOk h261) = true := by kernel_rfl
theorem call261 : callable Tryz.prog 261 = true := by kernel_rfl
def h262 : Hint := ⟨[(0, [1, 2]), (1, [3])], [], [], [], [], [], []⟩
@[go_sem] theorem h262_l : h262.lv 0 = [1, 2] ∧ h262.lv 1 = [3] := ⟨rfl, rfl⟩
@[go_sem] def h262_q := hplain h262 rfl rfl rfl
@[go_sem] theorem h262_t : h262.tk = [] ∧ h262.mt = [] ∧ h262.pc = [] := ⟨rfl, rfl, rfl⟩
theorem h262_d : Tryz.f262.body.any (drawsOk h262) = true := by kernel_rfl
theorem call262 : callable Tryz.prog 262 = true := by kernel_rfl
def h223 : Hint := ⟨[(0, [0, 1, 5]), (1, [6])], [12], [], [], [], [], []⟩
@[go_sem] theorem h223_l : h223.lv 0 = [0, 1, 5] ∧ h223.lv 1 = [6] := ⟨rfl, rfl⟩
@[go_sem] def h223_q := hplain h223 rfl rfl rfl
@[go_sem] theorem h223_t : h223.tk = [12] ∧ h223.mt = [] ∧ h223.pc = [] := ⟨rfl, rfl, rfl⟩
theorem h223_d : Tryz.f223.body.any (drawsOk h223) = true := by kernel_rfl
theorem call223 : callable Tryz.prog 223 = true := by kernel_rfl
def h155 : Hint := ⟨[(0, [1]), (1, [1, 3, 4]), (2, [1, 3, 4, 18]), (3, [1, 3, 4, 18, 19]), (4, [2]), (5, [1, 3, 4, 18, 33]), (6, [2]), (7, [1, 3, 4, 18, 52]), (8, [2]), (9, [1, 3, 4, 18, 63]), (10, [1, 3, 4, 63]), (11, [2]), (12, [2])], [], [], [], [8, 31, 45, 50, 61, 73], [], []⟩
@[go_sem] theorem h155_l : h155.lv 0 = [1] ∧ h155.lv 1 = [1, 3, 4] ∧ h155.lv 2 = [1, 3, 4, 18] ∧ h155.lv 3 = [1, 3, 4, 18, 19] ∧ h155.lv 4 = [2] ∧ h155.lv 5 = [1, 3, 4, 18, 33] ∧ h155.lv 6 = [2] ∧ h155.lv 7 = [1, 3, 4, 18, 52] ∧ h155.lv 8 = [2] ∧ h155.lv 9 = [1, 3, 4, 18, 63] ∧ h155.lv 10 = [1, 3, 4, 63] ∧ h155.lv 11 = [2] ∧ h155.lv 12 = [2] := ⟨rfl, rfl, rfl, rfl, rfl, rfl, rfl, rfl, rfl, rfl, rfl, rfl, rfl⟩
@[go_sem] def h155_q := hplain h155 rfl rfl rfl
@[go_sem] theorem h155_t : h155.tk = [] ∧ h155.mt = [] ∧ h155.pc = [8, 31, 45, 50, 61, 73] := ⟨rfl, rfl, rfl⟩
theorem h155_d : Tryz.f155.body.any (drawsOk h155) = true := by kernel_rfl
theorem call155 : callable Tryz.prog 155 = true := by kernel_rfl
def h154 : Hint := ⟨[(0, [0]), (1, [1])], [], [], [], [3], [], []⟩
@[go_sem] theorem h154_l : h154.lv 0 = [0] ∧ h154.lv 1 = [1] := ⟨rfl, rfl⟩
@[go_sem] def h154_q := hplain h154 rfl rfl rfl
@[go_sem] theorem h154_t : h154.tk = [] ∧ h154.mt = [] ∧ h154.pc = [3] := ⟨rfl, rfl, rfl⟩
theorem h154_d : Tryz.f154.body.any (drawsOk h154) = true := by kernel_rfl
theorem call154 : callable Tryz.prog 154 = true := by kernel_rfl
def h79 : Hint := ⟨[(0, [1]), (1, [2])], [], [], [], [4], [], []⟩
@[go_sem] theorem h79_l : h79.lv 0 = [1] ∧ h79.lv 1 = [2] := ⟨rfl, rfl⟩
@[go_sem] def h79_q := hplain h79 rfl rfl rfl
@[go_sem] theorem h79_t : h79.tk = [] ∧ h79.mt = [] ∧ h79.pc = [4] := ⟨rfl, rfl, rfl⟩
theorem h79_d : Tryz.f79.body.any (drawsOk h79) = true := by kernel_rfl
theorem call79 : callable Tryz.prog 79 = true := by kernel_rfl
def h27 : Hint := ⟨[(0, [1]), (1, [1, 4]), (2, [1, 4, 8, 9, 10]), (3, [1, 4, 8, 9, 10, 11]), (4, [1, 4, 6, 8, 9, 10]), (5, [1, 4, 6, 8, 9, 10]), (6, [1, 4, 6, 8, 9, 10, 22]), (7, [2, 3]), (8, [1, 4, 8, 9, 10]), (9, [1, 4, 8, 9, 10]), (10, [2, 3])], [23, 28], [], [], [17, 21], [(9, 1)], []⟩
@[go_sem] theorem h27_l : h27.lv 0 = [1] ∧ h27.lv 1 = [1, 4] ∧ h27.lv 2 = [1, 4, 8, 9, 10] ∧ h27.lv 3 = [1, 4, 8, 9, 10, 11] ∧ h27.lv 4 = [1, 4, 6, 8, 9, 10] ∧ h27.lv 5 = [1, 4, 6, 8, 9, 10] ∧ h27.lv 6 = [1, 4, 6, 8, 9, 10, 22] ∧ h27.lv 7 = [2, 3] ∧ h27.lv 8 = [1, 4, 8, 9, 10] ∧ h27.lv 9 = [1, 4, 8, 9, 10] ∧ h27.lv 10 = [2, 3] := ⟨rfl, rfl, rfl, rfl, rfl, rfl, rfl, rfl, rfl, rfl, rfl⟩
@[go_sem] theorem h27_g0 : h27.ct 0 = none := rfl
@[go_sem] theorem h27_g1 : h27.ct 1 = none := rfl
@[go_sem] theorem h27_g2 : h27.ct 2 = none := rfl
@[go_sem] theorem h27_g3 : h27.ct 3 = none := rfl
@[go_sem] theorem h27_g4 : h27.ct 4 = none := rfl
@[go_sem] theorem h27_g5 : h27.ct 5 = none := rfl
@[go_sem] theorem h27_g6 : h27.ct 6 = none := rfl
@[go_sem] theorem h27_g7 : h27.ct 7 = none := rfl
@[go_sem] theorem h27_g8 : h27.ct 8 = none := rfl
@[go_sem] theorem h27_g9 : h27.ct 9 = some 1 := rfl
@[go_sem] theorem h27_g10 : h27.ct 10 = none := rfl
@[go_sem] theorem h27_z (k : Nat) : h27.at k = [] := rfl
@[go_sem] theorem h27_y (k : Nat) : h27.dn k = false := Eq.trans rfl rfl
theorem h27_d : Tryz.f27.body.any (drawsOk h27) = true := by kernel_rfl
@[go_sem] theorem h27_t : h27.tk = [23, 28] ∧ h27.mt = [] ∧ h27.pc = [17, 21] := ⟨rfl, rfl, rfl⟩
theorem call27 : callable Tryz.prog 27 = true := by kernel_rfl
def h32 : Hint := ⟨[(0, [1, 2]), (1, [1, 2, 3]), (2, [2, 3, 6]), (3, [3, 4]), (4, [0]), (5, [2])], [9], [], [], [14], [], []⟩
@[go_sem] theorem h32_l : h32.lv 0 = [1, 2] ∧ h32.lv 1 = [1, 2, 3] ∧ h32.lv 2 = [2, 3, 6] ∧ h32.lv 3 = [3, 4] ∧ h32.lv 4 = [0] ∧ h32.lv 5 = [2] := ⟨rfl, rfl, rfl, rfl, rfl, rfl⟩
@[go_sem] def h32_q := hplain h32 rfl rfl rfl
@[go_sem] theorem h32_t : h32.tk = [9] ∧ h32.mt = [] ∧ h32.pc = [14] := ⟨rfl, rfl, rfl⟩
theorem h32_d : Tryz.f32.body.any (drawsOk h32) = true := by kernel_rfl
theorem call32 : callable Tryz.prog 32 = true := by kernel_rfl
end Go.AI

namespace Go.AI
open Go.Proofs
@[go_sem] theorem cellsOf11 : Tryz.prog.cellsOf 11 = 1 := by kernel_rfl
@[go_sem] theorem bytesOf11 : Tryz.prog.bytesOf 11 = 16 := by kernel_rfl
@[go_sem] theorem ldk11 : ldk Tryz.prog 11 = some none := by kernel_rfl
@[go_sem] theorem aggTy11 : aggTy Tryz.prog 11 = false := by kernel_rfl
@[go_sem] theorem und11 : Tryz.prog.underlying 11 = some .string := by kernel_rfl
@[go_sem] theorem zeroOk11 : zeroOk Tryz.prog 11 = true := by kernel_rfl
@[go_sem] theorem info11 : (Tryz.prog.info? 11).isSome = true := by kernel_rfl
@[go_sem] theorem zeroAV11 : zeroAV Tryz.prog 11 = some (.str ByteArray.empty) := by kernel_rfl
@[go_sem] theorem cellsOf12 : Tryz.prog.cellsOf 12 = 1 := by kernel_rfl
@[go_sem] theorem bytesOf12 : Tryz.prog.bytesOf 12 = 8 := by kernel_rfl
@[go_sem] theorem ldk12 : ldk Tryz.prog 12 = some none := by kernel_rfl
@[go_sem] theorem aggTy12 : aggTy Tryz.prog 12 = false := by kernel_rfl
@[go_sem] theorem und12 : Tryz.prog.underlying 12 = some (.int .u64) := by kernel_rfl
@[go_sem] theorem zeroOk12 : zeroOk Tryz.prog 12 = true := by kernel_rfl
@[go_sem] theorem info12 : (Tryz.prog.info? 12).isSome = true := by kernel_rfl
@[go_sem] theorem zeroAV12 : zeroAV Tryz.prog 12 = some (.int .u64 0) := by kernel_rfl
@[go_sem] theorem cellsOf17 : Tryz.prog.cellsOf 17 = 1 := by kernel_rfl
@[go_sem] theorem bytesOf17 : Tryz.prog.bytesOf 17 = 8 := by kernel_rfl
@[go_sem] theorem ldk17 : ldk Tryz.prog 17 = some none := by kernel_rfl
@[go_sem] theorem aggTy17 : aggTy Tryz.prog 17 = false := by kernel_rfl
@[go_sem] theorem isPtr17 : isPtr Tryz.prog 17 = true := by kernel_rfl
@[go_sem] theorem und17 : Tryz.prog.underlying 17 = some (.pointer 344) := by kernel_rfl
@[go_sem] theorem zeroOk17 : zeroOk Tryz.prog 17 = true := by kernel_rfl
@[go_sem] theorem info17 : (Tryz.prog.info? 17).isSome = true := by kernel_rfl
@[go_sem] theorem zeroAV17 : zeroAV Tryz.prog 17 = some (.nilp) := by kernel_rfl
@[go_sem] theorem cellsOf21 : Tryz.prog.cellsOf 21 = 1 := by kernel_rfl
@[go_sem] theorem bytesOf21 : Tryz.prog.bytesOf 21 = 4 := by kernel_rfl
@[go_sem] theorem ldk21 : ldk Tryz.prog 21 = some none := by kernel_rfl
@[go_sem] theorem aggTy21 : aggTy Tryz.prog 21 = false := by kernel_rfl
@[go_sem] theorem und21 : Tryz.prog.underlying 21 = some (.int .i32) := by kernel_rfl
@[go_sem] theorem zeroOk21 : zeroOk Tryz.prog 21 = true := by kernel_rfl
@[go_sem] theorem info21 : (Tryz.prog.info? 21).isSome = true := by kernel_rfl
@[go_sem] theorem zeroAV21 : zeroAV Tryz.prog 21 = some (.int .i32 0) := by kernel_rfl
@[go_sem] theorem cellsOf127 : Tryz.prog.cellsOf 127 = 1 := by kernel_rfl
@[go_sem] theorem bytesOf127 : Tryz.prog.bytesOf 127 = 8 := by kernel_rfl
@[go_sem] theorem ldk127 : ldk Tryz.prog 127 = some none := by kernel_rfl
@[go_sem] theorem aggTy127 : aggTy Tryz.prog 127 = false := by kernel_rfl
@[go_sem] theorem zeroOk127 : zeroOk Tryz.prog 127 = true := by kernel_rfl
@[go_sem] theorem info127 : (Tryz.prog.info? 127).isSome = true := by kernel_rfl
@[go_sem] theorem zeroAV127 : zeroAV Tryz.prog 127 = some (.nilf) := by kernel_rfl
@[go_sem] theorem cellsOf129 : Tryz.prog.cellsOf 129 = 1 := by kernel_rfl
@[go_sem] theorem bytesOf129 : Tryz.prog.bytesOf 129 = 8 := by kernel_rfl
@[go_sem] theorem ldk129 : ldk Tryz.prog 129 = some none := by kernel_rfl
@[go_sem] theorem aggTy129 : aggTy Tryz.prog 129 = false := by kernel_rfl
@[go_sem] theorem zeroOk129 : zeroOk Tryz.prog 129 = true := by kernel_rfl
@[go_sem] theorem info129 : (Tryz.prog.info? 129).isSome = true := by kernel_rfl
@[go_sem] theorem cellsOf133 : Tryz.prog.cellsOf 133 = 5 := by kernel_rfl
@[go_sem] theorem bytesOf133 : Tryz.prog.bytesOf 133 = 64 := by kernel_rfl
@[go_sem] theorem ldk133 : ldk Tryz.prog 133 = some (some 5) := by kernel_rfl
@[go_sem] theorem aggTy133 : aggTy Tryz.prog 133 = true := by kernel_rfl
@[go_sem] theorem zeroOk133 : zeroOk Tryz.prog 133 = true := by kernel_rfl
@[go_sem] theorem info133 : (Tryz.prog.info? 133).isSome = true := by kernel_rfl
@[go_sem] theorem bkind133 : bkind Tryz.prog 133 = .struct [(0, 1), (1, 1), (2, 1), (3, 1), (4, 1)] := by kernel_rfl
@[go_sem] theorem fplace133_0 : fplace Tryz.prog 133 0 = some (9, 0) := by kernel_rfl
@[go_sem] theorem fplace133_1 : fplace Tryz.prog 133 1 = some (3, 1) := by kernel_rfl
@[go_sem] theorem fplace133_2 : fplace Tryz.prog 133 2 = some (121, 2) := by kernel_rfl
@[go_sem] theorem fplace133_3 : fplace Tryz.prog 133 3 = some (3, 3) := by kernel_rfl
@[go_sem] theorem fplace133_4 : fplace Tryz.prog 133 4 = some (3, 4) := by kernel_rfl
@[go_sem] theorem zeroAV133 : zeroAV Tryz.prog 133 = some (.agg [.str ByteArray.empty, .int .i64 0, .sl (some 1) [], .int .i64 0, .int .i64 0]) := by kernel_rfl
@[go_sem] theorem cellsOf134 : Tryz.prog.cellsOf 134 = 5 := by kernel_rfl
@[go_sem] theorem bytesOf134 : Tryz.prog.bytesOf 134 = 64 := by kernel_rfl
@[go_sem] theorem ldk134 : ldk Tryz.prog 134 = some (some 5) := by kernel_rfl
@[go_sem] theorem aggTy134 : aggTy Tryz.prog 134 = true := by kernel_rfl
@[go_sem] theorem zeroOk134 : zeroOk Tryz.prog 134 = true := by kernel_rfl
@[go_sem] theorem info134 : (Tryz.prog.info? 134).isSome = true := by kernel_rfl
@[go_sem] theorem bkind134 : bkind Tryz.prog 134 = .struct [(0, 1), (1, 1), (2, 1), (3, 1), (4, 1)] := by kernel_rfl
@[go_sem] theorem fplace134_0 : fplace Tryz.prog 134 0 = some (9, 0) := by kernel_rfl
@[go_sem] theorem fplace134_1 : fplace Tryz.prog 134 1 = some (3, 1) := by kernel_rfl
@[go_sem] theorem fplace134_2 : fplace Tryz.prog 134 2 = some (121, 2) := by kernel_rfl
@[go_sem] theorem fplace134_3 : fplace Tryz.prog 134 3 = some (3, 3) := by kernel_rfl
@[go_sem] theorem fplace134_4 : fplace Tryz.prog 134 4 = some (3, 4) := by kernel_rfl
@[go_sem] theorem cellsOf139 : Tryz.prog.cellsOf 139 = 1 := by kernel_rfl
@[go_sem] theorem bytesOf139 : Tryz.prog.bytesOf 139 = 8 := by kernel_rfl
@[go_sem] theorem ldk139 : ldk Tryz.prog 139 = some none := by kernel_rfl
@[go_sem] theorem aggTy139 : aggTy Tryz.prog 139 = false := by kernel_rfl
@[go_sem] theorem zeroOk139 : zeroOk Tryz.prog 139 = true := by kernel_rfl
@[go_sem] theorem info139 : (Tryz.prog.info? 139).isSome = true := by kernel_rfl
@[go_sem] theorem zeroAV139 : zeroAV Tryz.prog 139 = some (.nilf) := by kernel_rfl
@[go_sem] theorem cellsOf142 : Tryz.prog.cellsOf 142 = 1 := by kernel_rfl
@[go_sem] theorem bytesOf142 : Tryz.prog.bytesOf 142 = 8 := by kernel_rfl
@[go_sem] theorem ldk142 : ldk Tryz.prog 142 = some none := by kernel_rfl
@[go_sem] theorem aggTy142 : aggTy Tryz.prog 142 = false := by kernel_rfl
@[go_sem] theorem zeroOk142 : zeroOk Tryz.prog 142 = true := by kernel_rfl
@[go_sem] theorem info142 : (Tryz.prog.info? 142).isSome = true := by kernel_rfl
@[go_sem] theorem zeroAV142 : zeroAV Tryz.prog 142 = some (.nilf) := by kernel_rfl
@[go_sem] theorem cellsOf158 : Tryz.prog.cellsOf 158 = 1 := by kernel_rfl
@[go_sem] theorem bytesOf158 : Tryz.prog.bytesOf 158 = 8 := by kernel_rfl
@[go_sem] theorem ldk158 : ldk Tryz.prog 158 = some none := by kernel_rfl
@[go_sem] theorem aggTy158 : aggTy Tryz.prog 158 = false := by kernel_rfl
@[go_sem] theorem zeroOk158 : zeroOk Tryz.prog 158 = true := by kernel_rfl
@[go_sem] theorem info158 : (Tryz.prog.info? 158).isSome = true := by kernel_rfl
@[go_sem] theorem zeroAV158 : zeroAV Tryz.prog 158 = some (.nilf) := by kernel_rfl
@[go_sem] theorem cellsOf159 : Tryz.prog.cellsOf 159 = 1 := by kernel_rfl
@[go_sem] theorem bytesOf159 : Tryz.prog.bytesOf 159 = 8 := by kernel_rfl
@[go_sem] theorem ldk159 : ldk Tryz.prog 159 = some none := by kernel_rfl
@[go_sem] theorem aggTy159 : aggTy Tryz.prog 159 = false := by kernel_rfl
@[go_sem] theorem zeroOk159 : zeroOk Tryz.prog 159 = true := by kernel_rfl
@[go_sem] theorem info159 : (Tryz.prog.info? 159).isSome = true := by kernel_rfl
@[go_sem] theorem zeroAV159 : zeroAV Tryz.prog 159 = some (.nilf) := by kernel_rfl
@[go_sem] theorem cellsOf160 : Tryz.prog.cellsOf 160 = 2 := by kernel_rfl
@[go_sem] theorem bytesOf160 : Tryz.prog.bytesOf 160 = 16 := by kernel_rfl
@[go_sem] theorem ldk160 : ldk Tryz.prog 160 = some (some 2) := by kernel_rfl
@[go_sem] theorem aggTy160 : aggTy Tryz.prog 160 = true := by kernel_rfl
@[go_sem] theorem zeroOk160 : zeroOk Tryz.prog 160 = true := by kernel_rfl
@[go_sem] theorem info160 : (Tryz.prog.info? 160).isSome = true := by kernel_rfl
@[go_sem] theorem bkind160 : bkind Tryz.prog 160 = .struct [(0, 1), (1, 1)] := by kernel_rfl
@[go_sem] theorem fplace160_0 : fplace Tryz.prog 160 0 = some (158, 0) := by kernel_rfl
@[go_sem] theorem fplace160_1 : fplace Tryz.prog 160 1 = some (159, 1) := by kernel_rfl
@[go_sem] theorem zeroAV160 : zeroAV Tryz.prog 160 = some (.agg [.nilf, .nilf]) := by kernel_rfl
@[go_sem] theorem cellsOf161 : Tryz.prog.cellsOf 161 = 2 := by kernel_rfl
@[go_sem] theorem bytesOf161 : Tryz.prog.bytesOf 161 = 16 := by kernel_rfl
@[go_sem] theorem ldk161 : ldk Tryz.prog 161 = some (some 2) := by kernel_rfl
@[go_sem] theorem aggTy161 : aggTy Tryz.prog 161 = true := by kernel_rfl
@[go_sem] theorem zeroOk161 : zeroOk Tryz.prog 161 = true := by kernel_rfl
@[go_sem] theorem info161 : (Tryz.prog.info? 161).isSome = true := by kernel_rfl
@[go_sem] theorem bkind161 : bkind Tryz.prog 161 = .struct [(0, 1), (1, 1)] := by kernel_rfl
@[go_sem] theorem fplace161_0 : fplace Tryz.prog 161 0 = some (158, 0) := by kernel_rfl
@[go_sem] theorem fplace161_1 : fplace Tryz.prog 161 1 = some (159, 1) := by kernel_rfl
@[go_sem] theorem zeroAV161 : zeroAV Tryz.prog 161 = some (.agg [.nilf, .nilf]) := by kernel_rfl
@[go_sem] theorem cellsOf162 : Tryz.prog.cellsOf 162 = 1 := by kernel_rfl
@[go_sem] theorem bytesOf162 : Tryz.prog.bytesOf 162 = 8 := by kernel_rfl
@[go_sem] theorem ldk162 : ldk Tryz.prog 162 = some none := by kernel_rfl
@[go_sem] theorem aggTy162 : aggTy Tryz.prog 162 = false := by kernel_rfl
@[go_sem] theorem isPtr162 : isPtr Tryz.prog 162 = true := by kernel_rfl
@[go_sem] theorem und162 : Tryz.prog.underlying 162 = some (.pointer 161) := by kernel_rfl
@[go_sem] theorem zeroOk162 : zeroOk Tryz.prog 162 = true := by kernel_rfl
@[go_sem] theorem info162 : (Tryz.prog.info? 162).isSome = true := by kernel_rfl
@[go_sem] theorem zeroAV162 : zeroAV Tryz.prog 162 = some (.nilp) := by kernel_rfl
@[go_sem] theorem cellsOf178 : Tryz.prog.cellsOf 178 = 1 := by kernel_rfl
@[go_sem] theorem bytesOf178 : Tryz.prog.bytesOf 178 = 8 := by kernel_rfl
@[go_sem] theorem ldk178 : ldk Tryz.prog 178 = some none := by kernel_rfl
@[go_sem] theorem aggTy178 : aggTy Tryz.prog 178 = false := by kernel_rfl
@[go_sem] theorem zeroOk178 : zeroOk Tryz.prog 178 = true := by kernel_rfl
@[go_sem] theorem info178 : (Tryz.prog.info? 178).isSome = true := by kernel_rfl
@[go_sem] theorem zeroAV178 : zeroAV Tryz.prog 178 = some (.nilf) := by kernel_rfl
@[go_sem] theorem cellsOf182 : Tryz.prog.cellsOf 182 = 1 := by kernel_rfl
@[go_sem] theorem bytesOf182 : Tryz.prog.bytesOf 182 = 8 := by kernel_rfl
@[go_sem] theorem ldk182 : ldk Tryz.prog 182 = some none := by kernel_rfl
@[go_sem] theorem aggTy182 : aggTy Tryz.prog 182 = false := by kernel_rfl
@[go_sem] theorem zeroOk182 : zeroOk Tryz.prog 182 = true := by kernel_rfl
@[go_sem] theorem info182 : (Tryz.prog.info? 182).isSome = true := by kernel_rfl
@[go_sem] theorem zeroAV182 : zeroAV Tryz.prog 182 = some (.nilf) := by kernel_rfl
@[go_sem] theorem cellsOf184 : Tryz.prog.cellsOf 184 = 1 := by kernel_rfl
@[go_sem] theorem bytesOf184 : Tryz.prog.bytesOf 184 = 8 := by kernel_rfl
@[go_sem] theorem ldk184 : ldk Tryz.prog 184 = some none := by kernel_rfl
@[go_sem] theorem aggTy184 : aggTy Tryz.prog 184 = false := by kernel_rfl
@[go_sem] theorem zeroOk184 : zeroOk Tryz.prog 184 = true := by kernel_rfl
@[go_sem] theorem info184 : (Tryz.prog.info? 184).isSome = true := by kernel_rfl
@[go_sem] theorem zeroAV184 : zeroAV Tryz.prog 184 = some (.nilf) := by kernel_rfl
@[go_sem] theorem cellsOf186 : Tryz.prog.cellsOf 186 = 1 := by kernel_rfl
@[go_sem] theorem bytesOf186 : Tryz.prog.bytesOf 186 = 8 := by kernel_rfl
@[go_sem] theorem ldk186 : ldk Tryz.prog 186 = some none := by kernel_rfl
@[go_sem] theorem aggTy186 : aggTy Tryz.prog 186 = false := by kernel_rfl
@[go_sem] theorem zeroOk186 : zeroOk Tryz.prog 186 = true := by kernel_rfl
@[go_sem] theorem info186 : (Tryz.prog.info? 186).isSome = true := by kernel_rfl
@[go_sem] theorem cellsOf188 : Tryz.prog.cellsOf 188 = 1 := by kernel_rfl
@[go_sem] theorem bytesOf188 : Tryz.prog.bytesOf 188 = 8 := by kernel_rfl
@[go_sem] theorem ldk188 : ldk Tryz.prog 188 = some none := by kernel_rfl
@[go_sem] theorem aggTy188 : aggTy Tryz.prog 188 = false := by kernel_rfl
@[go_sem] theorem zeroOk188 : zeroOk Tryz.prog 188 = true := by kernel_rfl
@[go_sem] theorem info188 : (Tryz.prog.info? 188).isSome = true := by kernel_rfl
@[go_sem] theorem zeroAV188 : zeroAV Tryz.prog 188 = some (.nilf) := by kernel_rfl
@[go_sem] theorem cellsOf190 : Tryz.prog.cellsOf 190 = 1 := by kernel_rfl
@[go_sem] theorem bytesOf190 : Tryz.prog.bytesOf 190 = 8 := by kernel_rfl
@[go_sem] theorem ldk190 : ldk Tryz.prog 190 = some none := by kernel_rfl
@[go_sem] theorem aggTy190 : aggTy Tryz.prog 190 = false := by kernel_rfl
@[go_sem] theorem zeroOk190 : zeroOk Tryz.prog 190 = true := by kernel_rfl
@[go_sem] theorem info190 : (Tryz.prog.info? 190).isSome = true := by kernel_rfl
@[go_sem] theorem zeroAV190 : zeroAV Tryz.prog 190 = some (.nilf) := by kernel_rfl
@[go_sem] theorem cellsOf193 : Tryz.prog.cellsOf 193 = 1 := by kernel_rfl
@[go_sem] theorem bytesOf193 : Tryz.prog.bytesOf 193 = 8 := by kernel_rfl
@[go_sem] theorem ldk193 : ldk Tryz.prog 193 = some none := by kernel_rfl
@[go_sem] theorem aggTy193 : aggTy Tryz.prog 193 = false := by kernel_rfl
@[go_sem] theorem zeroOk193 : zeroOk Tryz.prog 193 = true := by kernel_rfl
@[go_sem] theorem info193 : (Tryz.prog.info? 193).isSome = true := by kernel_rfl
@[go_sem] theorem zeroAV193 : zeroAV Tryz.prog 193 = some (.nilf) := by kernel_rfl
@[go_sem] theorem cellsOf198 : Tryz.prog.cellsOf 198 = 1 := by kernel_rfl
@[go_sem] theorem bytesOf198 : Tryz.prog.bytesOf 198 = 8 := by kernel_rfl
@[go_sem] theorem ldk198 : ldk Tryz.prog 198 = some none := by kernel_rfl
@[go_sem] theorem aggTy198 : aggTy Tryz.prog 198 = false := by kernel_rfl
@[go_sem] theorem zeroOk198 : zeroOk Tryz.prog 198 = true := by kernel_rfl
@[go_sem] theorem info198 : (Tryz.prog.info? 198).isSome = true := by kernel_rfl
@[go_sem] theorem zeroAV198 : zeroAV Tryz.prog 198 = some (.nilf) := by kernel_rfl
@[go_sem] theorem cellsOf200 : Tryz.prog.cellsOf 200 = 1 := by kernel_rfl
@[go_sem] theorem bytesOf200 : Tryz.prog.bytesOf 200 = 8 := by kernel_rfl
@[go_sem] theorem ldk200 : ldk Tryz.prog 200 = some none := by kernel_rfl
@[go_sem] theorem aggTy200 : aggTy Tryz.prog 200 = false := by kernel_rfl
@[go_sem] theorem zeroOk200 : zeroOk Tryz.prog 200 = true := by kernel_rfl
@[go_sem] theorem info200 : (Tryz.prog.info? 200).isSome = true := by kernel_rfl
@[go_sem] theorem zeroAV200 : zeroAV Tryz.prog 200 = some (.nilf) := by kernel_rfl
@[go_sem] theorem cellsOf201 : Tryz.prog.cellsOf 201 = 1 := by kernel_rfl
@[go_sem] theorem bytesOf201 : Tryz.prog.bytesOf 201 = 8 := by kernel_rfl
@[go_sem] theorem ldk201 : ldk Tryz.prog 201 = some none := by kernel_rfl
@[go_sem] theorem aggTy201 : aggTy Tryz.prog 201 = false := by kernel_rfl
@[go_sem] theorem zeroOk201 : zeroOk Tryz.prog 201 = true := by kernel_rfl
@[go_sem] theorem info201 : (Tryz.prog.info? 201).isSome = true := by kernel_rfl
@[go_sem] theorem zeroAV201 : zeroAV Tryz.prog 201 = some (.nilf) := by kernel_rfl
@[go_sem] theorem cellsOf203 : Tryz.prog.cellsOf 203 = 1 := by kernel_rfl
@[go_sem] theorem bytesOf203 : Tryz.prog.bytesOf 203 = 8 := by kernel_rfl
@[go_sem] theorem ldk203 : ldk Tryz.prog 203 = some none := by kernel_rfl
@[go_sem] theorem aggTy203 : aggTy Tryz.prog 203 = false := by kernel_rfl
@[go_sem] theorem zeroOk203 : zeroOk Tryz.prog 203 = true := by kernel_rfl
@[go_sem] theorem info203 : (Tryz.prog.info? 203).isSome = true := by kernel_rfl
@[go_sem] theorem cellsOf209 : Tryz.prog.cellsOf 209 = 1 := by kernel_rfl
@[go_sem] theorem bytesOf209 : Tryz.prog.bytesOf 209 = 8 := by kernel_rfl
@[go_sem] theorem ldk209 : ldk Tryz.prog 209 = some none := by kernel_rfl
@[go_sem] theorem aggTy209 : aggTy Tryz.prog 209 = false := by kernel_rfl
@[go_sem] theorem zeroOk209 : zeroOk Tryz.prog 209 = true := by kernel_rfl
@[go_sem] theorem info209 : (Tryz.prog.info? 209).isSome = true := by kernel_rfl
@[go_sem] theorem zeroAV209 : zeroAV Tryz.prog 209 = some (.nilf) := by kernel_rfl
@[go_sem] theorem cellsOf210 : Tryz.prog.cellsOf 210 = 1 := by kernel_rfl
@[go_sem] theorem bytesOf210 : Tryz.prog.bytesOf 210 = 8 := by kernel_rfl
@[go_sem] theorem ldk210 : ldk Tryz.prog 210 = some none := by kernel_rfl
@[go_sem] theorem aggTy210 : aggTy Tryz.prog 210 = false := by kernel_rfl
@[go_sem] theorem zeroOk210 : zeroOk Tryz.prog 210 = true := by kernel_rfl
@[go_sem] theorem info210 : (Tryz.prog.info? 210).isSome = true := by kernel_rfl
@[go_sem] theorem zeroAV210 : zeroAV Tryz.prog 210 = some (.nilf) := by kernel_rfl
@[go_sem] theorem cellsOf214 : Tryz.prog.cellsOf 214 = 1 := by kernel_rfl
@[go_sem] theorem bytesOf214 : Tryz.prog.bytesOf 214 = 8 := by kernel_rfl
@[go_sem] theorem ldk214 : ldk Tryz.prog 214 = some none := by kernel_rfl
@[go_sem] theorem aggTy214 : aggTy Tryz.prog 214 = false := by kernel_rfl
@[go_sem] theorem zeroOk214 : zeroOk Tryz.prog 214 = true := by kernel_rfl
@[go_sem] theorem info214 : (Tryz.prog.info? 214).isSome = true := by kernel_rfl
@[go_sem] theorem cellsOf225 : Tryz.prog.cellsOf 225 = 20 := by kernel_rfl
@[go_sem] theorem bytesOf225 : Tryz.prog.bytesOf 225 = 160 := by kernel_rfl
@[go_sem] theorem ldk225 : ldk Tryz.prog 225 = some (some 20) := by kernel_rfl
@[go_sem] theorem aggTy225 : aggTy Tryz.prog 225 = true := by kernel_rfl
@[go_sem] theorem zeroOk225 : zeroOk Tryz.prog 225 = true := by kernel_rfl
@[go_sem] theorem info225 : (Tryz.prog.info? 225).isSome = true := by kernel_rfl
@[go_sem] theorem bkind225 : bkind Tryz.prog 225 = .struct [(0, 10), (10, 10)] := by kernel_rfl
@[go_sem] theorem fplace225_0 : fplace Tryz.prog 225 0 = some (47, 0) := by kernel_rfl
@[go_sem] theorem fplace225_1 : fplace Tryz.prog 225 1 = some (47, 10) := by kernel_rfl
@[go_sem] theorem zeroAV225 : zeroAV Tryz.prog 225 = some (.agg [.int .i64 0, .int .i64 0, .int .i64 0, .int .i64 0, .int .i64 0, .int .i64 0, .int .i64 0, .int .i64 0, .int .i64 0, .int .i64 0, .int .i64 0, .int .i64 0, .int .i64 0, .int .i64 0, .int .i64 0, .int .i64 0, .int .i64 0, .int .i64 0, .int .i64 0, .int .i64 0]) := by kernel_rfl
@[go_sem] theorem cellsOf226 : Tryz.prog.cellsOf 226 = 20 := by kernel_rfl
@[go_sem] theorem bytesOf226 : Tryz.prog.bytesOf 226 = 160 := by kernel_rfl
@[go_sem] theorem ldk226 : ldk Tryz.prog 226 = some (some 20) := by kernel_rfl
@[go_sem] theorem aggTy226 : aggTy Tryz.prog 226 = true := by kernel_rfl
@[go_sem] theorem zeroOk226 : zeroOk Tryz.prog 226 = true := by kernel_rfl
@[go_sem] theorem info226 : (Tryz.prog.info? 226).isSome = true := by kernel_rfl
@[go_sem] theorem bkind226 : bkind Tryz.prog 226 = .struct [(0, 10), (10, 10)] := by kernel_rfl
@[go_sem] theorem fplace226_0 : fplace Tryz.prog 226 0 = some (47, 0) := by kernel_rfl
@[go_sem] theorem fplace226_1 : fplace Tryz.prog 226 1 = some (47, 10) := by kernel_rfl
@[go_sem] theorem zeroAV226 : zeroAV Tryz.prog 226 = some (.agg [.int .i64 0, .int .i64 0, .int .i64 0, .int .i64 0, .int .i64 0, .int .i64 0, .int .i64 0, .int .i64 0, .int .i64 0, .int .i64 0, .int .i64 0, .int .i64 0, .int .i64 0, .int .i64 0, .int .i64 0, .int .i64 0, .int .i64 0, .int .i64 0, .int .i64 0, .int .i64 0]) := by kernel_rfl
@[go_sem] theorem cellsOf229 : Tryz.prog.cellsOf 229 = 1 := by kernel_rfl
@[go_sem] theorem bytesOf229 : Tryz.prog.bytesOf 229 = 8 := by kernel_rfl
@[go_sem] theorem ldk229 : ldk Tryz.prog 229 = some none := by kernel_rfl
@[go_sem] theorem aggTy229 : aggTy Tryz.prog 229 = false := by kernel_rfl
@[go_sem] theorem zeroOk229 : zeroOk Tryz.prog 229 = true := by kernel_rfl
@[go_sem] theorem info229 : (Tryz.prog.info? 229).isSome = true := by kernel_rfl
@[go_sem] theorem zeroAV229 : zeroAV Tryz.prog 229 = some (.nilf) := by kernel_rfl
@[go_sem] theorem cellsOf231 : Tryz.prog.cellsOf 231 = 1 := by kernel_rfl
@[go_sem] theorem bytesOf231 : Tryz.prog.bytesOf 231 = 8 := by kernel_rfl
@[go_sem] theorem ldk231 : ldk Tryz.prog 231 = some none := by kernel_rfl
@[go_sem] theorem aggTy231 : aggTy Tryz.prog 231 = false := by kernel_rfl
@[go_sem] theorem zeroOk231 : zeroOk Tryz.prog 231 = true := by kernel_rfl
@[go_sem] theorem info231 : (Tryz.prog.info? 231).isSome = true := by kernel_rfl
@[go_sem] theorem zeroAV231 : zeroAV Tryz.prog 231 = some (.nilf) := by kernel_rfl
@[go_sem] theorem cellsOf237 : Tryz.prog.cellsOf 237 = 1 := by kernel_rfl
@[go_sem] theorem bytesOf237 : Tryz.prog.bytesOf 237 = 8 := by kernel_rfl
@[go_sem] theorem ldk237 : ldk Tryz.prog 237 = some none := by kernel_rfl
@[go_sem] theorem aggTy237 : aggTy Tryz.prog 237 = false := by kernel_rfl
@[go_sem] theorem zeroOk237 : zeroOk Tryz.prog 237 = true := by kernel_rfl
@[go_sem] theorem info237 : (Tryz.prog.info? 237).isSome = true := by kernel_rfl
@[go_sem] theorem zeroAV237 : zeroAV Tryz.prog 237 = some (.nilf) := by kernel_rfl
@[go_sem] theorem cellsOf243 : Tryz.prog.cellsOf 243 = 1 := by kernel_rfl
@[go_sem] theorem bytesOf243 : Tryz.prog.bytesOf 243 = 8 := by kernel_rfl
@[go_sem] theorem ldk243 : ldk Tryz.prog 243 = some none := by kernel_rfl
@[go_sem] theorem aggTy243 : aggTy Tryz.prog 243 = false := by kernel_rfl
@[go_sem] theorem zeroOk243 : zeroOk Tryz.prog 243 = true := by kernel_rfl
@[go_sem] theorem info243 : (Tryz.prog.info? 243).isSome = true := by kernel_rfl
@[go_sem] theorem zeroAV243 : zeroAV Tryz.prog 243 = some (.nilf) := by kernel_rfl
@[go_sem] theorem cellsOf244 : Tryz.prog.cellsOf 244 = 1 := by kernel_rfl
@[go_sem] theorem bytesOf244 : Tryz.prog.bytesOf 244 = 8 := by kernel_rfl
@[go_sem] theorem ldk244 : ldk Tryz.prog 244 = some none := by kernel_rfl
@[go_sem] theorem aggTy244 : aggTy Tryz.prog 244 = false := by kernel_rfl
@[go_sem] theorem zeroOk244 : zeroOk Tryz.prog 244 = true := by kernel_rfl
@[go_sem] theorem info244 : (Tryz.prog.info? 244).isSome = true := by kernel_rfl
@[go_sem] theorem zeroAV244 : zeroAV Tryz.prog 244 = some (.nilf) := by kernel_rfl
@[go_sem] theorem cellsOf246 : Tryz.prog.cellsOf 246 = 1 := by kernel_rfl
@[go_sem] theorem bytesOf246 : Tryz.prog.bytesOf 246 = 8 := by kernel_rfl
@[go_sem] theorem ldk246 : ldk Tryz.prog 246 = some none := by kernel_rfl
@[go_sem] theorem aggTy246 : aggTy Tryz.prog 246 = false := by kernel_rfl
@[go_sem] theorem zeroOk246 : zeroOk Tryz.prog 246 = true := by kernel_rfl
@[go_sem] theorem info246 : (Tryz.prog.info? 246).isSome = true := by kernel_rfl
@[go_sem] theorem zeroAV246 : zeroAV Tryz.prog 246 = some (.nilf) := by kernel_rfl
@[go_sem] theorem cellsOf248 : Tryz.prog.cellsOf 248 = 1 := by kernel_rfl
@[go_sem] theorem bytesOf248 : Tryz.prog.bytesOf 248 = 8 := by kernel_rfl
@[go_sem] theorem ldk248 : ldk Tryz.prog 248 = some none := by kernel_rfl
@[go_sem] theorem aggTy248 : aggTy Tryz.prog 248 = false := by kernel_rfl
@[go_sem] theorem zeroOk248 : zeroOk Tryz.prog 248 = true := by kernel_rfl
@[go_sem] theorem info248 : (Tryz.prog.info? 248).isSome = true := by kernel_rfl
@[go_sem] theorem zeroAV248 : zeroAV Tryz.prog 248 = some (.nilf) := by kernel_rfl
@[go_sem] theorem cellsOf249 : Tryz.prog.cellsOf 249 = 1 := by kernel_rfl
@[go_sem] theorem bytesOf249 : Tryz.prog.bytesOf 249 = 8 := by kernel_rfl
@[go_sem] theorem ldk249 : ldk Tryz.prog 249 = some none := by kernel_rfl
@[go_sem] theorem aggTy249 : aggTy Tryz.prog 249 = false := by kernel_rfl
@[go_sem] theorem zeroOk249 : zeroOk Tryz.prog 249 = true := by kernel_rfl
@[go_sem] theorem info249 : (Tryz.prog.info? 249).isSome = true := by kernel_rfl
@[go_sem] theorem zeroAV249 : zeroAV Tryz.prog 249 = some (.nilf) := by kernel_rfl
@[go_sem] theorem cellsOf250 : Tryz.prog.cellsOf 250 = 1 := by kernel_rfl
@[go_sem] theorem bytesOf250 : Tryz.prog.bytesOf 250 = 8 := by kernel_rfl
@[go_sem] theorem ldk250 : ldk Tryz.prog 250 = some none := by kernel_rfl
@[go_sem] theorem aggTy250 : aggTy Tryz.prog 250 = false := by kernel_rfl
@[go_sem] theorem zeroOk250 : zeroOk Tryz.prog 250 = true := by kernel_rfl
@[go_sem] theorem info250 : (Tryz.prog.info? 250).isSome = true := by kernel_rfl
@[go_sem] theorem zeroAV250 : zeroAV Tryz.prog 250 = some (.nilf) := by kernel_rfl
@[go_sem] theorem cellsOf251 : Tryz.prog.cellsOf 251 = 1 := by kernel_rfl
@[go_sem] theorem bytesOf251 : Tryz.prog.bytesOf 251 = 8 := by kernel_rfl
@[go_sem] theorem ldk251 : ldk Tryz.prog 251 = some none := by kernel_rfl
@[go_sem] theorem aggTy251 : aggTy Tryz.prog 251 = false := by kernel_rfl
@[go_sem] theorem zeroOk251 : zeroOk Tryz.prog 251 = true := by kernel_rfl
@[go_sem] theorem info251 : (Tryz.prog.info? 251).isSome = true := by kernel_rfl
@[go_sem] theorem zeroAV251 : zeroAV Tryz.prog 251 = some (.nilf) := by kernel_rfl
@[go_sem] theorem cellsOf253 : Tryz.prog.cellsOf 253 = 1 := by kernel_rfl
@[go_sem] theorem bytesOf253 : Tryz.prog.bytesOf 253 = 8 := by kernel_rfl
@[go_sem] theorem ldk253 : ldk Tryz.prog 253 = some none := by kernel_rfl
@[go_sem] theorem aggTy253 : aggTy Tryz.prog 253 = false := by kernel_rfl
@[go_sem] theorem zeroOk253 : zeroOk Tryz.prog 253 = true := by kernel_rfl
@[go_sem] theorem info253 : (Tryz.prog.info? 253).isSome = true := by kernel_rfl
@[go_sem] theorem zeroAV253 : zeroAV Tryz.prog 253 = some (.nilf) := by kernel_rfl
@[go_sem] theorem cellsOf292 : Tryz.prog.cellsOf 292 = 1 := by kernel_rfl
@[go_sem] theorem bytesOf292 : Tryz.prog.bytesOf 292 = 4 := by kernel_rfl
@[go_sem] theorem ldk292 : ldk Tryz.prog 292 = some none := by kernel_rfl
@[go_sem] theorem aggTy292 : aggTy Tryz.prog 292 = false := by kernel_rfl
@[go_sem] theorem und292 : Tryz.prog.underlying 292 = some (.int .u32) := by kernel_rfl
@[go_sem] theorem zeroOk292 : zeroOk Tryz.prog 292 = true := by kernel_rfl
@[go_sem] theorem info292 : (Tryz.prog.info? 292).isSome = true := by kernel_rfl
@[go_sem] theorem zeroAV292 : zeroAV Tryz.prog 292 = some (.int .u32 0) := by kernel_rfl
@[go_sem] theorem cellsOf297 : Tryz.prog.cellsOf 297 = 1 := by kernel_rfl
@[go_sem] theorem bytesOf297 : Tryz.prog.bytesOf 297 = 8 := by kernel_rfl
@[go_sem] theorem ldk297 : ldk Tryz.prog 297 = some none := by kernel_rfl
@[go_sem] theorem aggTy297 : aggTy Tryz.prog 297 = false := by kernel_rfl
@[go_sem] theorem zeroOk297 : zeroOk Tryz.prog 297 = true := by kernel_rfl
@[go_sem] theorem info297 : (Tryz.prog.info? 297).isSome = true := by kernel_rfl
@[go_sem] theorem zeroAV297 : zeroAV Tryz.prog 297 = some (.nilf) := by kernel_rfl
@[go_sem] theorem cellsOf337 : Tryz.prog.cellsOf 337 = 1 := by kernel_rfl
@[go_sem] theorem bytesOf337 : Tryz.prog.bytesOf 337 = 1 := by kernel_rfl
@[go_sem] theorem ldk337 : ldk Tryz.prog 337 = some none := by kernel_rfl
@[go_sem] theorem aggTy337 : aggTy Tryz.prog 337 = false := by kernel_rfl
@[go_sem] theorem und337 : Tryz.prog.underlying 337 = some (.int .u8) := by kernel_rfl
@[go_sem] theorem zeroOk337 : zeroOk Tryz.prog 337 = true := by kernel_rfl
@[go_sem] theorem info337 : (Tryz.prog.info? 337).isSome = true := by kernel_rfl
@[go_sem] theorem zeroAV337 : zeroAV Tryz.prog 337 = some (.int .u8 0) := by kernel_rfl
@[go_sem] theorem cellsOf338 : Tryz.prog.cellsOf 338 = 1 := by kernel_rfl
@[go_sem] theorem bytesOf338 : Tryz.prog.bytesOf 338 = 1 := by kernel_rfl
@[go_sem] theorem ldk338 : ldk Tryz.prog 338 = some none := by kernel_rfl
@[go_sem] theorem aggTy338 : aggTy Tryz.prog 338 = false := by kernel_rfl
@[go_sem] theorem und338 : Tryz.prog.underlying 338 = some (.int .u8) := by kernel_rfl
@[go_sem] theorem zeroOk338 : zeroOk Tryz.prog 338 = true := by kernel_rfl
@[go_sem] theorem info338 : (Tryz.prog.info? 338).isSome = true := by kernel_rfl
@[go_sem] theorem zeroAV338 : zeroAV Tryz.prog 338 = some (.int .u8 0) := by kernel_rfl
@[go_sem] theorem cellsOf339 : Tryz.prog.cellsOf 339 = 1 := by kernel_rfl
@[go_sem] theorem bytesOf339 : Tryz.prog.bytesOf 339 = 8 := by kernel_rfl
@[go_sem] theorem ldk339 : ldk Tryz.prog 339 = some none := by kernel_rfl
@[go_sem] theorem aggTy339 : aggTy Tryz.prog 339 = false := by kernel_rfl
@[go_sem] theorem zeroOk339 : zeroOk Tryz.prog 339 = true := by kernel_rfl
@[go_sem] theorem info339 : (Tryz.prog.info? 339).isSome = true := by kernel_rfl
@[go_sem] theorem zeroAV339 : zeroAV Tryz.prog 339 = some (.nilf) := by kernel_rfl
@[go_sem] theorem cellsOf340 : Tryz.prog.cellsOf 340 = 1 := by kernel_rfl
@[go_sem] theorem bytesOf340 : Tryz.prog.bytesOf 340 = 8 := by kernel_rfl
@[go_sem] theorem ldk340 : ldk Tryz.prog 340 = some none := by kernel_rfl
@[go_sem] theorem aggTy340 : aggTy Tryz.prog 340 = false := by kernel_rfl
@[go_sem] theorem isPtr340 : isPtr Tryz.prog 340 = true := by kernel_rfl
@[go_sem] theorem und340 : Tryz.prog.underlying 340 = some (.pointer 5) := by kernel_rfl
@[go_sem] theorem zeroOk340 : zeroOk Tryz.prog 340 = true := by kernel_rfl
@[go_sem] theorem info340 : (Tryz.prog.info? 340).isSome = true := by kernel_rfl
@[go_sem] theorem zeroAV340 : zeroAV Tryz.prog 340 = some (.nilp) := by kernel_rfl
@[go_sem] theorem cellsOf341 : Tryz.prog.cellsOf 341 = 1 := by kernel_rfl
@[go_sem] theorem bytesOf341 : Tryz.prog.bytesOf 341 = 4 := by kernel_rfl
@[go_sem] theorem ldk341 : ldk Tryz.prog 341 = some none := by kernel_rfl
@[go_sem] theorem aggTy341 : aggTy Tryz.prog 341 = false := by kernel_rfl
@[go_sem] theorem und341 : Tryz.prog.underlying 341 = some (.int .i32) := by kernel_rfl
@[go_sem] theorem zeroOk341 : zeroOk Tryz.prog 341 = true := by kernel_rfl
@[go_sem] theorem info341 : (Tryz.prog.info? 341).isSome = true := by kernel_rfl
@[go_sem] theorem zeroAV341 : zeroAV Tryz.prog 341 = some (.int .i32 0) := by kernel_rfl
@[go_sem] theorem cellsOf342 : Tryz.prog.cellsOf 342 = 1 := by kernel_rfl
@[go_sem] theorem bytesOf342 : Tryz.prog.bytesOf 342 = 4 := by kernel_rfl
@[go_sem] theorem ldk342 : ldk Tryz.prog 342 = some none := by kernel_rfl
@[go_sem] theorem aggTy342 : aggTy Tryz.prog 342 = false := by kernel_rfl
@[go_sem] theorem und342 : Tryz.prog.underlying 342 = some (.int .i32) := by kernel_rfl
@[go_sem] theorem zeroOk342 : zeroOk Tryz.prog 342 = true := by kernel_rfl
@[go_sem] theorem info342 : (Tryz.prog.info? 342).isSome = true := by kernel_rfl
@[go_sem] theorem zeroAV342 : zeroAV Tryz.prog 342 = some (.int .i32 0) := by kernel_rfl
@[go_sem] theorem cellsOf343 : Tryz.prog.cellsOf 343 = 11 := by kernel_rfl
@[go_sem] theorem bytesOf343 : Tryz.prog.bytesOf 343 = 48 := by kernel_rfl
@[go_sem] theorem ldk343 : ldk Tryz.prog 343 = some (some 11) := by kernel_rfl
@[go_sem] theorem aggTy343 : aggTy Tryz.prog 343 = true := by kernel_rfl
@[go_sem] theorem zeroOk343 : zeroOk Tryz.prog 343 = true := by kernel_rfl
@[go_sem] theorem info343 : (Tryz.prog.info? 343).isSome = true := by kernel_rfl
@[go_sem] theorem bkind343 : bkind Tryz.prog 343 = .struct [(0, 1), (1, 1), (2, 1), (3, 1), (4, 1), (5, 1), (6, 1), (7, 1), (8, 1), (9, 1), (10, 1)] := by kernel_rfl
@[go_sem] theorem fplace343_0 : fplace Tryz.prog 343 0 = some (12, 0) := by kernel_rfl
@[go_sem] theorem fplace343_1 : fplace Tryz.prog 343 1 = some (12, 1) := by kernel_rfl
@[go_sem] theorem fplace343_2 : fplace Tryz.prog 343 2 = some (292, 2) := by kernel_rfl
@[go_sem] theorem fplace343_3 : fplace Tryz.prog 343 3 = some (337, 3) := by kernel_rfl
@[go_sem] theorem fplace343_4 : fplace Tryz.prog 343 4 = some (5, 4) := by kernel_rfl
@[go_sem] theorem fplace343_5 : fplace Tryz.prog 343 5 = some (5, 5) := by kernel_rfl
@[go_sem] theorem fplace343_6 : fplace Tryz.prog 343 6 = some (338, 6) := by kernel_rfl
@[go_sem] theorem fplace343_7 : fplace Tryz.prog 343 7 = some (339, 7) := by kernel_rfl
@[go_sem] theorem fplace343_8 : fplace Tryz.prog 343 8 = some (340, 8) := by kernel_rfl
@[go_sem] theorem fplace343_9 : fplace Tryz.prog 343 9 = some (341, 9) := by kernel_rfl
@[go_sem] theorem fplace343_10 : fplace Tryz.prog 343 10 = some (342, 10) := by kernel_rfl
@[go_sem] theorem zeroAV343 : zeroAV Tryz.prog 343 = some (.agg [.int .u64 0, .int .u64 0, .int .u32 0, .int .u8 0, .int .u8 0, .int .u8 0, .int .u8 0, .nilf, .nilp, .int .i32 0, .int .i32 0]) := by kernel_rfl
@[go_sem] theorem cellsOf344 : Tryz.prog.cellsOf 344 = 11 := by kernel_rfl
@[go_sem] theorem bytesOf344 : Tryz.prog.bytesOf 344 = 48 := by kernel_rfl
@[go_sem] theorem ldk344 : ldk Tryz.prog 344 = some (some 11) := by kernel_rfl
@[go_sem] theorem aggTy344 : aggTy Tryz.prog 344 = true := by kernel_rfl
@[go_sem] theorem zeroOk344 : zeroOk Tryz.prog 344 = true := by kernel_rfl
@[go_sem] theorem info344 : (Tryz.prog.info? 344).isSome = true := by kernel_rfl
@[go_sem] theorem bkind344 : bkind Tryz.prog 344 = .struct [(0, 1), (1, 1), (2, 1), (3, 1), (4, 1), (5, 1), (6, 1), (7, 1), (8, 1), (9, 1), (10, 1)] := by kernel_rfl
@[go_sem] theorem fplace344_0 : fplace Tryz.prog 344 0 = some (12, 0) := by kernel_rfl
@[go_sem] theorem fplace344_1 : fplace Tryz.prog 344 1 = some (12, 1) := by kernel_rfl
@[go_sem] theorem fplace344_2 : fplace Tryz.prog 344 2 = some (292, 2) := by kernel_rfl
@[go_sem] theorem fplace344_3 : fplace Tryz.prog 344 3 = some (337, 3) := by kernel_rfl
@[go_sem] theorem fplace344_4 : fplace Tryz.prog 344 4 = some (5, 4) := by kernel_rfl
@[go_sem] theorem fplace344_5 : fplace Tryz.prog 344 5 = some (5, 5) := by kernel_rfl
@[go_sem] theorem fplace344_6 : fplace Tryz.prog 344 6 = some (338, 6) := by kernel_rfl
@[go_sem] theorem fplace344_7 : fplace Tryz.prog 344 7 = some (339, 7) := by kernel_rfl
@[go_sem] theorem fplace344_8 : fplace Tryz.prog 344 8 = some (340, 8) := by kernel_rfl
@[go_sem] theorem fplace344_9 : fplace Tryz.prog 344 9 = some (341, 9) := by kernel_rfl
@[go_sem] theorem fplace344_10 : fplace Tryz.prog 344 10 = some (342, 10) := by kernel_rfl
@[go_sem] theorem zeroAV344 : zeroAV Tryz.prog 344 = some (.agg [.int .u64 0, .int .u64 0, .int .u32 0, .int .u8 0, .int .u8 0, .int .u8 0, .int .u8 0, .nilf, .nilp, .int .i32 0, .int .i32 0]) := by kernel_rfl
end Go.AI

set_option linter.defProp false
namespace Go.AI
open Go.Proofs
def h121 : Hint := ⟨[(0, [1]), (1, [2])], [], [], [], [], [], []⟩
@[go_sem] theorem h121_l : h121.lv 0 = [1] ∧ h121.lv 1 = [2] := ⟨rfl, rfl⟩
@[go_sem] def h121_q := hplain h121 rfl rfl rfl
@[go_sem] theorem h121_t : h121.tk = [] ∧ h121.mt = [] ∧ h121.pc = [] := ⟨rfl, rfl, rfl⟩
theorem h121_d : Tryz.f121.body.any (drawsOk h121) = true := by kernel_rfl
theorem call121 : callable Tryz.prog 121 = true := by kernel_rfl
def h191 : Hint := ⟨[(0, [0]), (1, [2])], [], [], [], [], [], []⟩
@[go_sem] theorem h191_l : h191.lv 0 = [0] ∧ h191.lv 1 = [2] := ⟨rfl, rfl⟩
@[go_sem] def h191_q := hplain h191 rfl rfl rfl
@[go_sem] theorem h191_t : h191.tk = [] ∧ h191.mt = [] ∧ h191.pc = [] := ⟨rfl, rfl, rfl⟩
theorem h191_d : Tryz.f191.body.any (drawsOk h191) = true := by kernel_rfl
theorem call191 : callable Tryz.prog 191 = true := by kernel_rfl
def h281 : Hint := ⟨[(0, [0, 1, 2]), (1, [1, 2, 10]), (2, [1, 2, 10, 11, 12]), (3, [1, 2, 7, 8, 10]), (4, [1, 2, 7, 10, 19]), (5, [6]), (6, [6])], [], [], [], [], [], []⟩
@[go_sem] theorem h281_l : h281.lv 0 = [0, 1, 2] ∧ h281.lv 1 = [1, 2, 10] ∧ h281.lv 2 = [1, 2, 10, 11, 12] ∧ h281.lv 3 = [1, 2, 7, 8, 10] ∧ h281.lv 4 = [1, 2, 7, 10, 19] ∧ h281.lv 5 = [6] ∧ h281.lv 6 = [6] := ⟨rfl, rfl, rfl, rfl, rfl, rfl, rfl⟩
@[go_sem] def h281_q := hplain h281 rfl rfl rfl
@[go_sem] theorem h281_t : h281.tk = [] ∧ h281.mt = [] ∧ h281.pc = [] := ⟨rfl, rfl, rfl⟩
theorem h281_d : Tryz.f281.body.any (drawsOk h281) = true := by kernel_rfl
theorem call281 : callable Tryz.prog 281 = true := by kernel_rfl
def h243 : Hint := ⟨[(0, [0, 1]), (1, [4])], [], [], [], [7], [], []⟩
@[go_sem] theorem h243_l : h243.lv 0 = [0, 1] ∧ h243.lv 1 = [4] := ⟨rfl, rfl⟩
@[go_sem] def h243_q := hplain h243 rfl rfl rfl
@[go_sem] theorem h243_t : h243.tk = [] ∧ h243.mt = [] ∧ h243.pc = [7] := ⟨rfl, rfl, rfl⟩
theorem h243_d : Tryz.f243.body.any (drawsOk h243) = true := by kernel_rfl
theorem call243 : callable Tryz.prog 243 = true := by kernel_rfl
def h192 : Hint := ⟨[(0, [0, 1]), (1, [4])], [], [], [], [7], [], []⟩
@[go_sem] theorem h192_l : h192.lv 0 = [0, 1] ∧ h192.lv 1 = [4] := ⟨rfl, rfl⟩
@[go_sem] def h192_q := hplain h192 rfl rfl rfl
@[go_sem] theorem h192_t : h192.tk = [] ∧ h192.mt = [] ∧ h192.pc = [7] := ⟨rfl, rfl, rfl⟩
theorem h192_d : Tryz.f192.body.any (drawsOk h192) = true := by kernel_rfl
theorem call192 : callable Tryz.prog 192 = true := by kernel_rfl
def h122 : Hint := ⟨[(0, [0]), (1, [0, 3]), (2, [2])], [], [], [], [24], [], []⟩
@[go_sem] theorem h122_l : h122.lv 0 = [0] ∧ h122.lv 1 = [0, 3] ∧ h122.lv 2 = [2] := ⟨rfl, rfl, rfl⟩
@[go_sem] def h122_q := hplain h122 rfl rfl rfl
@[go_sem] theorem h122_t : h122.tk = [] ∧ h122.mt = [] ∧ h122.pc = [24] := ⟨rfl, rfl, rfl⟩
theorem h122_d : Tryz.f122.body.any (drawsOk h122) = true := by kernel_rfl
theorem call122 : callable Tryz.prog 122 = true := by kernel_rfl
def h193 : Hint := ⟨[(0, [0, 1]), (1, [0, 1, 7, 8]), (2, [0, 1, 7, 8, 9]), (3, [0, 1, 5, 7, 8]), (4, [0, 1, 5, 7, 8, 16]), (5, [4]), (6, [0, 1, 7, 8]), (7, [4])], [], [], [], [], [], []⟩
@[go_sem] theorem h193_l : h193.lv 0 = [0, 1] ∧ h193.lv 1 = [0, 1, 7, 8] ∧ h193.lv 2 = [0, 1, 7, 8, 9] ∧ h193.lv 3 = [0, 1, 5, 7, 8] ∧ h193.lv 4 = [0, 1, 5, 7, 8, 16] ∧ h193.lv 5 = [4] ∧ h193.lv 6 = [0, 1, 7, 8] ∧ h193.lv 7 = [4] := ⟨rfl, rfl, rfl, rfl, rfl, rfl, rfl, rfl⟩
@[go_sem] def h193_q := hplain h193 rfl rfl rfl
@[go_sem] theorem h193_t : h193.tk = [] ∧ h193.mt = [] ∧ h193.pc = [] := ⟨rfl, rfl, rfl⟩
theorem h193_d : Tryz.f193.body.any (drawsOk h193) = true := by kernel_rfl
theorem call193 : callable Tryz.prog 193 = true := by kernel_rfl
def h123 : Hint := ⟨[(0, [0, 1]), (1, [4])], [5], [], [], [], [], []⟩
@[go_sem] theorem h123_l : h123.lv 0 = [0, 1] ∧ h123.lv 1 = [4] := ⟨rfl, rfl⟩
@[go_sem] def h123_q := hplain h123 rfl rfl rfl
@[go_sem] theorem h123_t : h123.tk = [5] ∧ h123.mt = [] ∧ h123.pc = [] := ⟨rfl, rfl, rfl⟩
theorem h123_d : Tryz.f123.body.any (drawsOk h123) = true := by kernel_rfl
theorem call123 : callable Tryz.prog 123 = true := by kernel_rfl
def h124 : Hint := ⟨[(0, [1]), (1, [2])], [], [], [], [5], [], []⟩
@[go_sem] theorem h124_l : h124.lv 0 = [1] ∧ h124.lv 1 = [2] := ⟨rfl, rfl⟩
@[go_sem] def h124_q := hplain h124 rfl rfl rfl
@[go_sem] theorem h124_t : h124.tk = [] ∧ h124.mt = [] ∧ h124.pc = [5] := ⟨rfl, rfl, rfl⟩
theorem h124_d : Tryz.f124.body.any (drawsOk h124) = true := by kernel_rfl
theorem call124 : callable Tryz.prog 124 = true := by kernel_rfl
def h125 : Hint := ⟨[(0, [0, 1]), (1, [0, 1, 5]), (2, [1, 5, 9, 10, 11]), (3, [1, 5, 9, 10, 11, 12]), (4, [1, 5, 7, 9, 10, 11]), (5, [1, 5, 7, 9, 10, 11, 19]), (6, [4]), (7, [1, 5, 9, 10, 11]), (8, [1, 5, 9, 10, 11]), (9, [4])], [9], [], [], [], [(8, 1)], []⟩
@[go_sem] theorem h125_l : h125.lv 0 = [0, 1] ∧ h125.lv 1 = [0, 1, 5] ∧ h125.lv 2 = [1, 5, 9, 10, 11] ∧ h125.lv 3 = [1, 5, 9, 10, 11, 12] ∧ h125.lv 4 = [1, 5, 7, 9, 10, 11] ∧ h125.lv 5 = [1, 5, 7, 9, 10, 11, 19] ∧ h125.lv 6 = [4] ∧ h125.lv 7 = [1, 5, 9, 10, 11] ∧ h125.lv 8 = [1, 5, 9, 10, 11] ∧ h125.lv 9 = [4] := ⟨rfl, rfl, rfl, rfl, rfl, rfl, rfl, rfl, rfl, rfl⟩
@[go_sem] theorem h125_g0 : h125.ct 0 = none := rfl
@[go_sem] theorem h125_g1 : h125.ct 1 = none := rfl
@[go_sem] theorem h125_g2 : h125.ct 2 = none := rfl
@[go_sem] theorem h125_g3 : h125.ct 3 = none := rfl
@[go_sem] theorem h125_g4 : h125.ct 4 = none := rfl
@[go_sem] theorem h125_g5 : h125.ct 5 = none := rfl
@[go_sem] theorem h125_g6 : h125.ct 6 = none := rfl
@[go_sem] theorem h125_g7 : h125.ct 7 = none := rfl
@[go_sem] theorem h125_g8 : h125.ct 8 = some 1 := rfl
@[go_sem] theorem h125_g9 : h125.ct 9 = none := rfl
@[go_sem] theorem h125_z (k : Nat) : h125.at k = [] := rfl
@[go_sem] theorem h125_y (k : Nat) : h125.dn k = false := Eq.trans rfl rfl
theorem h125_d : Tryz.f125.body.any (drawsOk h125) = true := by kernel_rfl
@[go_sem] theorem h125_t : h125.tk = [9] ∧ h125.mt = [] ∧ h125.pc = [] := ⟨rfl, rfl, rfl⟩
theorem call125 : callable Tryz.prog 125 = true := by kernel_rfl
def h194 : Hint := ⟨[(0, [0, 1]), (1, [0, 1, 7, 8]), (2, [0, 1, 7, 8, 9]), (3, [0, 1, 5, 7, 8]), (4, [0, 1, 5, 7, 8, 16]), (5, [4]), (6, [0, 1, 7, 8]), (7, [4])], [], [], [], [], [], []⟩
@[go_sem] theorem h194_l : h194.lv 0 = [0, 1] ∧ h194.lv 1 = [0, 1, 7, 8] ∧ h194.lv 2 = [0, 1, 7, 8, 9] ∧ h194.lv 3 = [0, 1, 5, 7, 8] ∧ h194.lv 4 = [0, 1, 5, 7, 8, 16] ∧ h194.lv 5 = [4] ∧ h194.lv 6 = [0, 1, 7, 8] ∧ h194.lv 7 = [4] := ⟨rfl, rfl, rfl, rfl, rfl, rfl, rfl, rfl⟩
@[go_sem] def h194_q := hplain h194 rfl rfl rfl
@[go_sem] theorem h194_t : h194.tk = [] ∧ h194.mt = [] ∧ h194.pc = [] := ⟨rfl, rfl, rfl⟩
theorem h194_d : Tryz.f194.body.any (drawsOk h194) = true := by kernel_rfl
theorem call194 : callable Tryz.prog 194 = true := by kernel_rfl
def h126 : Hint := ⟨[(0, [0, 1]), (1, [4])], [5], [], [], [], [], []⟩
@[go_sem] theorem h126_l : h126.lv 0 = [0, 1] ∧ h126.lv 1 = [4] := ⟨rfl, rfl⟩
@[go_sem] def h126_q := hplain h126 rfl rfl rfl
@[go_sem] theorem h126_t : h126.tk = [5] ∧ h126.mt = [] ∧ h126.pc = [] := ⟨rfl, rfl, rfl⟩
theorem h126_d : Tryz.f126.body.any (drawsOk h126) = true := by kernel_rfl
theorem call126 : callable Tryz.prog 126 = true := by kernel_rfl
def h128 : Hint := ⟨[(0, [1, 2]), (1, [4])], [], [], [], [10], [], []⟩
@[go_sem] theorem h128_l : h128.lv 0 = [1, 2] ∧ h128.lv 1 = [4] := ⟨rfl, rfl⟩
@[go_sem] def h128_q := hplain h128 rfl rfl rfl
@[go_sem] theorem h128_t : h128.tk = [] ∧ h128.mt = [] ∧ h128.pc = [10] := ⟨rfl, rfl, rfl⟩
theorem h128_d : Tryz.f128.body.any (drawsOk h128) = true := by kernel_rfl
theorem call128 : callable Tryz.prog 128 = true := by kernel_rfl
def h127 : Hint := ⟨[(0, [1, 2]), (1, [3])], [], [], [], [7, 13], [], []⟩
@[go_sem] theorem h127_l : h127.lv 0 = [1, 2] ∧ h127.lv 1 = [3] := ⟨rfl, rfl⟩
@[go_sem] def h127_q := hplain h127 rfl rfl rfl
@[go_sem] theorem h127_t : h127.tk = [] ∧ h127.mt = [] ∧ h127.pc = [7, 13] := ⟨rfl, rfl, rfl⟩
theorem h127_d : Tryz.f127.body.any (drawsOk h127) = true := by kernel_rfl
theorem call127 : callable Tryz.prog 127 = true := by kernel_rfl
def h129 : Hint := ⟨[(0, [0, 1]), (1, [0, 1, 5]), (2, [1, 5, 9, 10, 11]), (3, [1, 5, 9, 10, 11, 12]), (4, [1, 5, 7, 9, 10, 11]), (5, [1, 5, 7, 9, 10, 11, 19]), (6, [4]), (7, [1, 5, 9, 10, 11]), (8, [1, 5, 9, 10, 11]), (9, [4])], [9], [], [], [], [(8, 1)], []⟩
@[go_sem] theorem h129_l : h129.lv 0 = [0, 1] ∧ h129.lv 1 = [0, 1, 5] ∧ h129.lv 2 = [1, 5, 9, 10, 11] ∧ h129.lv 3 = [1, 5, 9, 10, 11, 12] ∧ h129.lv 4 = [1, 5, 7, 9, 10, 11] ∧ h129.lv 5 = [1, 5, 7, 9, 10, 11, 19] ∧ h129.lv 6 = [4] ∧ h129.lv 7 = [1, 5, 9, 10, 11] ∧ h129.lv 8 = [1, 5, 9, 10, 11] ∧ h129.lv 9 = [4] := ⟨rfl, rfl, rfl, rfl, rfl, rfl, rfl, rfl, rfl, rfl⟩
@[go_sem] theorem h129_g0 : h129.ct 0 = none := rfl
@[go_sem] theorem h129_g1 : h129.ct 1 = none := rfl
@[go_sem] theorem h129_g2 : h129.ct 2 = none := rfl
@[go_sem] theorem h129_g3 : h129.ct 3 = none := rfl
@[go_sem] theorem h129_g4 : h129.ct 4 = none := rfl
@[go_sem] theorem h129_g5 : h129.ct 5 = none := rfl
@[go_sem] theorem h129_g6 : h129.ct 6 = none := rfl
@[go_sem] theorem h129_g7 : h129.ct 7 = none := rfl
@[go_sem] theorem h129_g8 : h129.ct 8 = some 1 := rfl
@[go_sem] theorem h129_g9 : h129.ct 9 = none := rfl
@[go_sem] theorem h129_z (k : Nat) : h129.at k = [] := rfl
@[go_sem] theorem h129_y (k : Nat) : h129.dn k = false := Eq.trans rfl rfl
theorem h129_d : Tryz.f129.body.any (drawsOk h129) = true := by kernel_rfl
@[go_sem] theorem h129_t : h129.tk = [9] ∧ h129.mt = [] ∧ h129.pc = [] := ⟨rfl, rfl, rfl⟩
theorem call129 : callable Tryz.prog 129 = true := by kernel_rfl
def h130 : Hint := ⟨[(0, [1]), (1, [2])], [], [], [], [], [], []⟩
@[go_sem] theorem h130_l : h130.lv 0 = [1] ∧ h130.lv 1 = [2] := ⟨rfl, rfl⟩
@[go_sem] def h130_q := hplain h130 rfl rfl rfl
@[go_sem] theorem h130_t : h130.tk = [] ∧ h130.mt = [] ∧ h130.pc = [] := ⟨rfl, rfl, rfl⟩
theorem h130_d : Tryz.f130.body.any (drawsOk h130) = true := by kernel_rfl
theorem call130 : callable Tryz.prog 130 = true := by kernel_rfl
def h56 : Hint := ⟨[(0, [2, 3, 4]), (1, [2, 3, 4, 5]), (2, [2, 3, 4, 23]), (3, [4]), (4, [2, 3, 4, 6]), (5, [2, 3, 4, 6, 26]), (6, [2, 4, 6, 8]), (7, [4, 6, 8, 41]), (8, [0]), (9, [0]), (10, [4, 52]), (11, [4]), (12, [4])], [], [], [], [11, 16, 22, 35, 51], [], []⟩
@[go_sem] theorem h56_l : h56.lv 0 = [2, 3, 4] ∧ h56.lv 1 = [2, 3, 4, 5] ∧ h56.lv 2 = [2, 3, 4, 23] ∧ h56.lv 3 = [4] ∧ h56.lv 4 = [2, 3, 4, 6] ∧ h56.lv 5 = [2, 3, 4, 6, 26] ∧ h56.lv 6 = [2, 4, 6, 8] ∧ h56.lv 7 = [4, 6, 8, 41] ∧ h56.lv 8 = [0] ∧ h56.lv 9 = [0] ∧ h56.lv 10 = [4, 52] ∧ h56.lv 11 = [4] ∧ h56.lv 12 = [4] := ⟨rfl, rfl, rfl, rfl, rfl, rfl, rfl, rfl, rfl, rfl, rfl, rfl, rfl⟩
@[go_sem] def h56_q := hplain h56 rfl rfl rfl
@[go_sem] theorem h56_t : h56.tk = [] ∧ h56.mt = [] ∧ h56.pc = [11, 16, 22, 35, 51] := ⟨rfl, rfl, rfl⟩
theorem h56_d : Tryz.f56.body.any (drawsOk h56) = true := by kernel_rfl
theorem call56 : callable Tryz.prog 56 = true := by kernel_rfl
def h296 : Hint := ⟨[(0, [0, 1]), (1, [0, 1, 10]), (2, [4]), (3, [0, 1, 12, 13]), (4, [0, 1, 12, 13, 14]), (5, [0, 1, 5, 12, 13]), (6, [0, 1, 12, 13, 24]), (7, [4]), (8, [0, 1, 12, 13]), (9, [4])], [], [], [], [], [], []⟩
@[go_sem] theorem h296_l : h296.lv 0 = [0, 1] ∧ h296.lv 1 = [0, 1, 10] ∧ h296.lv 2 = [4] ∧ h296.lv 3 = [0, 1, 12, 13] ∧ h296.lv 4 = [0, 1, 12, 13, 14] ∧ h296.lv 5 = [0, 1, 5, 12, 13] ∧ h296.lv 6 = [0, 1, 12, 13, 24] ∧ h296.lv 7 = [4] ∧ h296.lv 8 = [0, 1, 12, 13] ∧ h296.lv 9 = [4] := ⟨rfl, rfl, rfl, rfl, rfl, rfl, rfl, rfl, rfl, rfl⟩
@[go_sem] def h296_q := hplain h296 rfl rfl rfl
@[go_sem] theorem h296_t : h296.tk = [] ∧ h296.mt = [] ∧ h296.pc = [] := ⟨rfl, rfl, rfl⟩
theorem h296_d : Tryz.f296.body.any (drawsOk h296) = true := by kernel_rfl
theorem call296 : callable Tryz.prog 296 = true := by kernel_rfl
def h263 : Hint := ⟨[(0, [2, 3]), (1, [4])], [], [], [], [43], [], []⟩
@[go_sem] theorem h263_l : h263.lv 0 = [2, 3] ∧ h263.lv 1 = [4] := ⟨rfl, rfl⟩
@[go_sem] def h263_q := hplain h263 rfl rfl rfl
@[go_sem] theorem h263_t : h263.tk = [] ∧ h263.mt = [] ∧ h263.pc = [43] := ⟨rfl, rfl, rfl⟩
theorem h263_d : Tryz.f263.body.any (drawsOk h263) = true := by kernel_rfl
theorem call263 : callable Tryz.prog 263 = true := by kernel_rfl
def h265 : Hint := ⟨[(0, [0, 1]), (1, [0, 1, 7, 8]), (2, [0, 1, 7, 8, 9]), (3, [0, 1, 5, 7, 8]), (4, [0, 1, 5, 7, 8, 16]), (5, [4]), (6, [0, 1, 7, 8]), (7, [4])], [], [], [], [], [], []⟩
@[go_sem] theorem h265_l : h265.lv 0 = [0, 1] ∧ h265.lv 1 = [0, 1, 7, 8] ∧ h265.lv 2 = [0, 1, 7, 8, 9] ∧ h265.lv 3 = [0, 1, 5, 7, 8] ∧ h265.lv 4 = [0, 1, 5, 7, 8, 16] ∧ h265.lv 5 = [4] ∧ h265.lv 6 = [0, 1, 7, 8] ∧ h265.lv 7 = [4] := ⟨rfl, rfl, rfl, rfl, rfl, rfl, rfl, rfl⟩
@[go_sem] def h265_q := hplain h265 rfl rfl rfl
@[go_sem] theorem h265_t : h265.tk = [] ∧ h265.mt = [] ∧ h265.pc = [] := ⟨rfl, rfl, rfl⟩
theorem h265_d : Tryz.f265.body.any (drawsOk h265) = true := by kernel_rfl
theorem call265 : callable Tryz.prog 265 = true := by kernel_rfl
def h230 : Hint := ⟨[(0, [0, 1]), (1, [4])], [5], [], [], [], [], []⟩
@[go_sem] theorem h230_l : h230.lv 0 = [0, 1] ∧ h230.lv 1 = [4] := ⟨rfl, rfl⟩
@[go_sem] def h230_q := hplain h230 rfl rfl rfl
@[go_sem] theorem h230_t : h230.tk = [5] ∧ h230.mt = [] ∧ h230.pc = [] := ⟨rfl, rfl, rfl⟩
theorem h230_d : Tryz.f230.body.any (drawsOk h230) = true := by kernel_rfl
theorem call230 : callable Tryz.prog 230 = true := by kernel_rfl
def h297 : Hint := ⟨[(0, [0, 1]), (1, [3])], [], [], [], [], [], []⟩
@[go_sem] theorem h297_l : h297.lv 0 = [0, 1] ∧ h297.lv 1 = [3] := ⟨rfl, rfl⟩
@[go_sem] def h297_q := hplain h297 rfl rfl rfl
@[go_sem] theorem h297_t : h297.tk = [] ∧ h297.mt = [] ∧ h297.pc = [] := ⟨rfl, rfl, rfl⟩
theorem h297_d : Tryz.f297.body.any (drawsOk h297) = true := by kernel_rfl
theorem call297 : callable Tryz.prog 297 = true := by kernel_rfl
def h264 : Hint := ⟨[(0, [0, 1, 5]), (1, [6])], [12], [], [], [], [], []⟩
@[go_sem] theorem h264_l : h264.lv 0 = [0, 1, 5] ∧ h264.lv 1 = [6] := ⟨rfl, rfl⟩
@[go_sem] def h264_q := hplain h264 rfl rfl rfl
@[go_sem] theorem h264_t : h264.tk = [12] ∧ h264.mt = [] ∧ h264.pc = [] := ⟨rfl, rfl, rfl⟩
theorem h264_d : Tryz.f264.body.any (drawsOk h264) = true := by kernel_rfl
theorem call264 : callable Tryz.prog 264 = true := by kernel_rfl
def h224 : Hint := ⟨[(0, [1]), (1, [1, 6]), (2, [2]), (3, [1, 31]), (4, [2]), (5, [1, 3]), (6, [1, 3, 41]), (7, [1, 3, 41, 42]), (8, [2]), (9, [1, 3, 41, 55]), (10, [2]), (11, [1, 3, 41, 63]), (12, [2]), (13, [1, 3, 41, 78]), (14, [2]), (15, [1, 3, 41, 100]), (16, [2]), (17, [1, 108]), (18, [2]), (19, [2])], [], [], [], [6, 9, 29, 52, 67, 82, 86, 91, 106, 121, 131], [], []⟩
@[go_sem] theorem h224_l : h224.lv 0 = [1] ∧ h224.lv 1 = [1, 6] ∧ h224.lv 2 = [2] ∧ h224.lv 3 = [1, 31] ∧ h224.lv 4 = [2] ∧ h224.lv 5 = [1, 3] ∧ h224.lv 6 = [1, 3, 41] ∧ h224.lv 7 = [1, 3, 41, 42] ∧ h224.lv 8 = [2] ∧ h224.lv 9 = [1, 3, 41, 55] ∧ h224.lv 10 = [2] ∧ h224.lv 11 = [1, 3, 41, 63] ∧ h224.lv 12 = [2] ∧ h224.lv 13 = [1, 3, 41, 78] ∧ h224.lv 14 = [2] ∧ h224.lv 15 = [1, 3, 41, 100] ∧ h224.lv 16 = [2] ∧ h224.lv 17 = [1, 108] ∧ h224.lv 18 = [2] ∧ h224.lv 19 = [2] := ⟨rfl, rfl, rfl, rfl, rfl, rfl, rfl, rfl, rfl, rfl, rfl, rfl, rfl, rfl, rfl, rfl, rfl, rfl, rfl, rfl⟩
@[go_sem] def h224_q := hplain h224 rfl rfl rfl
@[go_sem] theorem h224_t : h224.tk = [] ∧ h224.mt = [] ∧ h224.pc = [6, 9, 29, 52, 67, 82, 86, 91, 106, 121, 131] := ⟨rfl, rfl, rfl⟩
theorem h224_d : Tryz.f224.body.any (drawsOk h224) = true := by kernel_rfl
theorem call224 : callable Tryz.prog 224 = true := by kernel_rfl
def h158 : Hint := ⟨[(0, [1]), (1, [5]), (2, [2]), (3, [2])], [], [], [], [4], [], []⟩
@[go_sem] theorem h158_l : h158.lv 0 = [1] ∧ h158.lv 1 = [5] ∧ h158.lv 2 = [2] ∧ h158.lv 3 = [2] := ⟨rfl, rfl, rfl, rfl⟩
@[go_sem] def h158_q := hplain h158 rfl rfl rfl
@[go_sem] theorem h158_t : h158.tk = [] ∧ h158.mt = [] ∧ h158.pc = [4] := ⟨rfl, rfl, rfl⟩
theorem h158_d : Tryz.f158.body.any (drawsOk h158) = true := by kernel_rfl
theorem call158 : callable Tryz.prog 158 = true := by kernel_rfl
def h87 : Hint := ⟨[(0, [0]), (1, [0, 9]), (2, [2]), (3, [10, 11, 12]), (4, [10, 11, 12, 13]), (5, [4, 10, 11, 12]), (6, [4, 5, 10, 11, 12]), (7, [4, 5, 10, 11, 12, 20]), (8, [2]), (9, [6, 10, 11, 12]), (10, [6, 10, 11, 12, 26]), (11, [2]), (12, [10, 11, 12]), (13, [2])], [10], [], [], [18, 24], [(12, 0)], []⟩
@[go_sem] theorem h87_l : h87.lv 0 = [0] ∧ h87.lv 1 = [0, 9] ∧ h87.lv 2 = [2] ∧ h87.lv 3 = [10, 11, 12] ∧ h87.lv 4 = [10, 11, 12, 13] ∧ h87.lv 5 = [4, 10, 11, 12] ∧ h87.lv 6 = [4, 5, 10, 11, 12] ∧ h87.lv 7 = [4, 5, 10, 11, 12, 20] ∧ h87.lv 8 = [2] ∧ h87.lv 9 = [6, 10, 11, 12] ∧ h87.lv 10 = [6, 10, 11, 12, 26] ∧ h87.lv 11 = [2] ∧ h87.lv 12 = [10, 11, 12] ∧ h87.lv 13 = [2] := ⟨rfl, rfl, rfl, rfl, rfl, rfl, rfl, rfl, rfl, rfl, rfl, rfl, rfl, rfl⟩
@[go_sem] theorem h87_g0 : h87.ct 0 = none := rfl
@[go_sem] theorem h87_g1 : h87.ct 1 = none := rfl
@[go_sem] theorem h87_g2 : h87.ct 2 = none := rfl
@[go_sem] theorem h87_g3 : h87.ct 3 = none := rfl
@[go_sem] theorem h87_g4 : h87.ct 4 = none := rfl
@[go_sem] theorem h87_g5 : h87.ct 5 = none := rfl
@[go_sem] theorem h87_g6 : h87.ct 6 = none := rfl
@[go_sem] theorem h87_g7 : h87.ct 7 = none := rfl
@[go_sem] theorem h87_g8 : h87.ct 8 = none := rfl
@[go_sem] theorem h87_g9 : h87.ct 9 = none := rfl
@[go_sem] theorem h87_g10 : h87.ct 10 = none := rfl
@[go_sem] theorem h87_g11 : h87.ct 11 = none := rfl
@[go_sem] theorem h87_g12 : h87.ct 12 = some 0 := rfl
@[go_sem] theorem h87_g13 : h87.ct 13 = none := rfl
@[go_sem] theorem h87_z (k : Nat) : h87.at k = [] := rfl
@[go_sem] theorem h87_y (k : Nat) : h87.dn k = false := Eq.trans rfl rfl
theorem h87_d : Tryz.f87.body.any (drawsOk h87) = true := by kernel_rfl
@[go_sem] theorem h87_t : h87.tk = [10] ∧ h87.mt = [] ∧ h87.pc = [18, 24] := ⟨rfl, rfl, rfl⟩
theorem call87 : callable Tryz.prog 87 = true := by kernel_rfl
def h227 : Hint := ⟨[(0, [0]), (1, [0])], [], [], [], [], [], []⟩
@[go_sem] theorem h227_l : h227.lv 0 = [0] ∧ h227.lv 1 = [0] := ⟨rfl, rfl⟩
@[go_sem] def h227_q := hplain h227 rfl rfl rfl
@[go_sem] theorem h227_t : h227.tk = [] ∧ h227.mt = [] ∧ h227.pc = [] := ⟨rfl, rfl, rfl⟩
theorem h227_d : Tryz.f227.body.any (drawsOk h227) = true := by kernel_rfl
theorem call227 : callable Tryz.prog 227 = true := by kernel_rfl
def h228 : Hint := ⟨[(0, [0, 1]), (1, [0, 1, 7, 8]), (2, [0, 1, 7, 8, 9]), (3, [0, 1, 5, 7, 8]), (4, [0, 1, 5, 7, 8, 16]), (5, [4]), (6, [0, 1, 7, 8]), (7, [4])], [], [], [], [], [], []⟩
@[go_sem] theorem h228_l : h228.lv 0 = [0, 1] ∧ h228.lv 1 = [0, 1, 7, 8] ∧ h228.lv 2 = [0, 1, 7, 8, 9] ∧ h228.lv 3 = [0, 1, 5, 7, 8] ∧ h228.lv 4 = [0, 1, 5, 7, 8, 16] ∧ h228.lv 5 = [4] ∧ h228.lv 6 = [0, 1, 7, 8] ∧ h228.lv 7 = [4] := ⟨rfl, rfl, rfl, rfl, rfl, rfl, rfl, rfl⟩
@[go_sem] def h228_q := hplain h228 rfl rfl rfl
@[go_sem] theorem h228_t : h228.tk = [] ∧ h228.mt = [] ∧ h228.pc = [] := ⟨rfl, rfl, rfl⟩
theorem h228_d : Tryz.f228.body.any (drawsOk h228) = true := by kernel_rfl
theorem call228 : callable Tryz.prog 228 = true := by kernel_rfl
def h229 : Hint := ⟨[(0, [1, 2]), (1, [3])], [], [], [], [], [], []⟩
@[go_sem] theorem h229_l : h229.lv 0 = [1, 2] ∧ h229.lv 1 = [3] := ⟨rfl, rfl⟩
@[go_sem] def h229_q := hplain h229 rfl rfl rfl
@[go_sem] theorem h229_t : h229.tk = [] ∧ h229.mt = [] ∧ h229.pc = [] := ⟨rfl, rfl, rfl⟩
theorem h229_d : Tryz.f229.body.any (drawsOk h229) = true := by kernel_rfl
theorem call229 : callable Tryz.prog 229 = true := by kernel_rfl
def h160 : Hint := ⟨[(0, [0, 3, 4]), (1, [0, 3, 4, 10]), (2, [4, 5]), (3, [0, 4, 6]), (4, [0, 4, 6, 16]), (5, [4, 5]), (6, [4, 5])], [18], [], [], [8, 11], [], []⟩
@[go_sem] theorem h160_l : h160.lv 0 = [0, 3, 4] ∧ h160.lv 1 = [0, 3, 4, 10] ∧ h160.lv 2 = [4, 5] ∧ h160.lv 3 = [0, 4, 6] ∧ h160.lv 4 = [0, 4, 6, 16] ∧ h160.lv 5 = [4, 5] ∧ h160.lv 6 = [4, 5] := ⟨rfl, rfl, rfl, rfl, rfl, rfl, rfl⟩
@[go_sem] def h160_q := hplain h160 rfl rfl rfl
@[go_sem] theorem h160_t : h160.tk = [18] ∧ h160.mt = [] ∧ h160.pc = [8, 11] := ⟨rfl, rfl, rfl⟩
theorem h160_d : Tryz.f160.body.any (drawsOk h160) = true := by kernel_rfl
theorem call160 : callable Tryz.prog 160 = true := by kernel_rfl
def h161 : Hint := ⟨[(0, [1]), (1, [2])], [], [], [], [], [], []⟩
@[go_sem] theorem h161_l : h161.lv 0 = [1] ∧ h161.lv 1 = [2] := ⟨rfl, rfl⟩
@[go_sem] def h161_q := hplain h161 rfl rfl rfl
@[go_sem] theorem h161_t : h161.tk = [] ∧ h161.mt = [] ∧ h161.pc = [] := ⟨rfl, rfl, rfl⟩
theorem h161_d : Tryz.f161.body.any (drawsOk h161) = true := by kernel_rfl
theorem call161 : callable Tryz.prog 161 = true := by kernel_rfl
def h251 : Hint := ⟨[(0, [1, 2, 3]), (1, [2, 3, 10]), (2, [4]), (3, [2, 12, 13, 14]), (4, [2, 12, 13, 14, 15]), (5, [2, 6, 12, 13, 14]), (6, [2, 12, 13, 14, 21]), (7, [4]), (8, [2, 12, 13, 14]), (9, [4])], [], [], [], [], [], []⟩
@[go_sem] theorem h251_l : h251.lv 0 = [1, 2, 3] ∧ h251.lv 1 = [2, 3, 10] ∧ h251.lv 2 = [4] ∧ h251.lv 3 = [2, 12, 13, 14] ∧ h251.lv 4 = [2, 12, 13, 14, 15] ∧ h251.lv 5 = [2, 6, 12, 13, 14] ∧ h251.lv 6 = [2, 12, 13, 14, 21] ∧ h251.lv 7 = [4] ∧ h251.lv 8 = [2, 12, 13, 14] ∧ h251.lv 9 = [4] := ⟨rfl, rfl, rfl, rfl, rfl, rfl, rfl, rfl, rfl, rfl⟩
@[go_sem] def h251_q := hplain h251 rfl rfl rfl
@[go_sem] theorem h251_t : h251.tk = [] ∧ h251.mt = [] ∧ h251.pc = [] := ⟨rfl, rfl, rfl⟩
theorem h251_d : Tryz.f251.body.any (drawsOk h251) = true := by kernel_rfl
theorem call251 : callable Tryz.prog 251 = true := by kernel_rfl
def h250 : Hint := ⟨[(0, [1, 2]), (1, [1, 2, 3]), (2, [1, 3]), (3, [0])], [], [], [], [], [], []⟩
@[go_sem] theorem h250_l : h250.lv 0 = [1, 2] ∧ h250.lv 1 = [1, 2, 3] ∧ h250.lv 2 = [1, 3] ∧ h250.lv 3 = [0] := ⟨rfl, rfl, rfl, rfl⟩
@[go_sem] def h250_q := hplain h250 rfl rfl rfl
@[go_sem] theorem h250_t : h250.tk = [] ∧ h250.mt = [] ∧ h250.pc = [] := ⟨rfl, rfl, rfl⟩
theorem h250_d : Tryz.f250.body.any (drawsOk h250) = true := by kernel_rfl
theorem call250 : callable Tryz.prog 250 = true := by kernel_rfl
def h202 : Hint := ⟨[(0, [1]), (1, [2])], [], [], [], [], [], []⟩
@[go_sem] theorem h202_l : h202.lv 0 = [1] ∧ h202.lv 1 = [2] := ⟨rfl, rfl⟩
@[go_sem] def h202_q := hplain h202 rfl rfl rfl
@[go_sem] theorem h202_t : h202.tk = [] ∧ h202.mt = [] ∧ h202.pc = [] := ⟨rfl, rfl, rfl⟩
theorem h202_d : Tryz.f202.body.any (drawsOk h202) = true := by kernel_rfl
theorem call202 : callable Tryz.prog 202 = true := by kernel_rfl
def h136 : Hint := ⟨[(0, [2, 3, 4]), (1, [2, 4, 10]), (2, [2, 4, 5]), (3, [2, 4, 5, 14]), (4, [4, 5, 6, 7]), (5, [4, 5, 6, 7, 8]), (6, [4, 5, 6, 7, 8, 26]), (7, [4, 5, 6, 7, 8]), (8, [4, 5, 6, 8, 29]), (9, [0]), (10, [4, 32]), (11, [0]), (12, [4])], [], [], [], [19, 35], [], []⟩
@[go_sem] theorem h136_l : h136.lv 0 = [2, 3, 4] ∧ h136.lv 1 = [2, 4, 10] ∧ h136.lv 2 = [2, 4, 5] ∧ h136.lv 3 = [2, 4, 5, 14] ∧ h136.lv 4 = [4, 5, 6, 7] ∧ h136.lv 5 = [4, 5, 6, 7, 8] ∧ h136.lv 6 = [4, 5, 6, 7, 8, 26] ∧ h136.lv 7 = [4, 5, 6, 7, 8] ∧ h136.lv 8 = [4, 5, 6, 8, 29] ∧ h136.lv 9 = [0] ∧ h136.lv 10 = [4, 32] ∧ h136.lv 11 = [0] ∧ h136.lv 12 = [4] := ⟨rfl, rfl, rfl, rfl, rfl, rfl, rfl, rfl, rfl, rfl, rfl, rfl, rfl⟩
@[go_sem] def h136_q := hplain h136 rfl rfl rfl
@[go_sem] theorem h136_t : h136.tk = [] ∧ h136.mt = [] ∧ h136.pc = [19, 35] := ⟨rfl, rfl, rfl⟩
theorem h136_d : Tryz.f136.body.any (drawsOk h136) = true := by kernel_rfl
theorem call136 : callable Tryz.prog 136 = true := by kernel_rfl
def h226 : Hint := ⟨[(0, [1, 2, 3]), (1, [2, 3, 10]), (2, [4]), (3, [2, 12, 13, 14]), (4, [2, 12, 13, 14, 15]), (5, [2, 6, 12, 13, 14]), (6, [2, 12, 13, 14, 21]), (7, [4]), (8, [2, 12, 13, 14]), (9, [4])], [], [], [], [], [], []⟩
@[go_sem] theorem h226_l : h226.lv 0 = [1, 2, 3] ∧ h226.lv 1 = [2, 3, 10] ∧ h226.lv 2 = [4] ∧ h226.lv 3 = [2, 12, 13, 14] ∧ h226.lv 4 = [2, 12, 13, 14, 15] ∧ h226.lv 5 = [2, 6, 12, 13, 14] ∧ h226.lv 6 = [2, 12, 13, 14, 21] ∧ h226.lv 7 = [4] ∧ h226.lv 8 = [2, 12, 13, 14] ∧ h226.lv 9 = [4] := ⟨rfl, rfl, rfl, rfl, rfl, rfl, rfl, rfl, rfl, rfl⟩
@[go_sem] def h226_q := hplain h226 rfl rfl rfl
@[go_sem] theorem h226_t : h226.tk = [] ∧ h226.mt = [] ∧ h226.pc = [] := ⟨rfl, rfl, rfl⟩
theorem h226_d : Tryz.f226.body.any (drawsOk h226) = true := by kernel_rfl
theorem call226 : callable Tryz.prog 226 = true := by kernel_rfl
def h225 : Hint := ⟨[(0, [1, 2]), (1, [1, 2, 3]), (2, [1, 3]), (3, [0])], [], [], [], [], [], []⟩
@[go_sem] theorem h225_l : h225.lv 0 = [1, 2] ∧ h225.lv 1 = [1, 2, 3] ∧ h225.lv 2 = [1, 3] ∧ h225.lv 3 = [0] := ⟨rfl, rfl, rfl, rfl⟩
@[go_sem] def h225_q := hplain h225 rfl rfl rfl
@[go_sem] theorem h225_t : h225.tk = [] ∧ h225.mt = [] ∧ h225.pc = [] := ⟨rfl, rfl, rfl⟩
theorem h225_d : Tryz.f225.body.any (drawsOk h225) = true := by kernel_rfl
theorem call225 : callable Tryz.prog 225 = true := by kernel_rfl
def h159 : Hint := ⟨[(0, [1]), (1, [2])], [], [], [], [], [], []⟩
@[go_sem] theorem h159_l : h159.lv 0 = [1] ∧ h159.lv 1 = [2] := ⟨rfl, rfl⟩
@[go_sem] def h159_q := hplain h159 rfl rfl rfl
@[go_sem] theorem h159_t : h159.tk = [] ∧ h159.mt = [] ∧ h159.pc = [] := ⟨rfl, rfl, rfl⟩
theorem h159_d : Tryz.f159.body.any (drawsOk h159) = true := by kernel_rfl
theorem call159 : callable Tryz.prog 159 = true := by kernel_rfl
def h88 : Hint := ⟨[(0, [2, 3, 4]), (1, [2, 3, 4, 5]), (2, [2, 3, 4, 5, 13]), (3, [4]), (4, [2, 4, 16]), (5, [2, 4, 6]), (6, [2, 4, 6, 19]), (7, [2, 4, 6, 19, 20]), (8, [4, 7]), (9, [4, 7, 27]), (10, [0]), (11, [2, 4, 6, 29]), (12, [4, 6, 8, 9]), (13, [4, 6, 8, 38]), (14, [0]), (15, [4, 41]), (16, [0]), (17, [4])], [], [], [], [11, 25, 35, 45], [], []⟩
@[go_sem] theorem h88_l : h88.lv 0 = [2, 3, 4] ∧ h88.lv 1 = [2, 3, 4, 5] ∧ h88.lv 2 = [2, 3, 4, 5, 13] ∧ h88.lv 3 = [4] ∧ h88.lv 4 = [2, 4, 16] ∧ h88.lv 5 = [2, 4, 6] ∧ h88.lv 6 = [2, 4, 6, 19] ∧ h88.lv 7 = [2, 4, 6, 19, 20] ∧ h88.lv 8 = [4, 7] ∧ h88.lv 9 = [4, 7, 27] ∧ h88.lv 10 = [0] ∧ h88.lv 11 = [2, 4, 6, 29] ∧ h88.lv 12 = [4, 6, 8, 9] ∧ h88.lv 13 = [4, 6, 8, 38] ∧ h88.lv 14 = [0] ∧ h88.lv 15 = [4, 41] ∧ h88.lv 16 = [0] ∧ h88.lv 17 = [4] := ⟨rfl, rfl, rfl, rfl, rfl, rfl, rfl, rfl, rfl, rfl, rfl, rfl, rfl, rfl, rfl, rfl, rfl, rfl⟩
@[go_sem] def h88_q := hplain h88 rfl rfl rfl
@[go_sem] theorem h88_t : h88.tk = [] ∧ h88.mt = [] ∧ h88.pc = [11, 25, 35, 45] := ⟨rfl, rfl, rfl⟩
theorem h88_d : Tryz.f88.body.any (drawsOk h88) = true := by kernel_rfl
theorem call88 : callable Tryz.prog 88 = true := by kernel_rfl
def h198 : Hint := ⟨[(0, [0, 1]), (1, [0, 1, 7, 8]), (2, [0, 1, 7, 8, 9]), (3, [0, 1, 5, 7, 8]), (4, [0, 1, 5, 7, 8, 16]), (5, [4]), (6, [0, 1, 7, 8]), (7, [4])], [], [], [], [], [], []⟩
@[go_sem] theorem h198_l : h198.lv 0 = [0, 1] ∧ h198.lv 1 = [0, 1, 7, 8] ∧ h198.lv 2 = [0, 1, 7, 8, 9] ∧ h198.lv 3 = [0, 1, 5, 7, 8] ∧ h198.lv 4 = [0, 1, 5, 7, 8, 16] ∧ h198.lv 5 = [4] ∧ h198.lv 6 = [0, 1, 7, 8] ∧ h198.lv 7 = [4] := ⟨rfl, rfl, rfl, rfl, rfl, rfl, rfl, rfl⟩
@[go_sem] def h198_q := hplain h198 rfl rfl rfl
@[go_sem] theorem h198_t : h198.tk = [] ∧ h198.mt = [] ∧ h198.pc = [] := ⟨rfl, rfl, rfl⟩
theorem h198_d : Tryz.f198.body.any (drawsOk h198) = true := by kernel_rfl
theorem call198 : callable Tryz.prog 198 = true := by kernel_rfl
def h134 : Hint := ⟨[(0, [0, 1]), (1, [4])], [5], [], [], [7], [], []⟩
@[go_sem] theorem h134_l : h134.lv 0 = [0, 1] ∧ h134.lv 1 = [4] := ⟨rfl, rfl⟩
@[go_sem] def h134_q := hplain h134 rfl rfl rfl
@[go_sem] theorem h134_t : h134.tk = [5] ∧ h134.mt = [] ∧ h134.pc = [7] := ⟨rfl, rfl, rfl⟩
theorem h134_d : Tryz.f134.body.any (drawsOk h134) = true := by kernel_rfl
theorem call134 : callable Tryz.prog 134 = true := by kernel_rfl
def h162 : Hint := ⟨[(0, [0, 1]), (1, [5]), (2, [3])], [], [], [], [9], [], []⟩
@[go_sem] theorem h162_l : h162.lv 0 = [0, 1] ∧ h162.lv 1 = [5] ∧ h162.lv 2 = [3] := ⟨rfl, rfl, rfl⟩
@[go_sem] def h162_q := hplain h162 rfl rfl rfl
@[go_sem] theorem h162_t : h162.tk = [] ∧ h162.mt = [] ∧ h162.pc = [9] := ⟨rfl, rfl, rfl⟩
theorem h162_d : Tryz.f162.body.any (drawsOk h162) = true := by kernel_rfl
theorem call162 : callable Tryz.prog 162 = true := by kernel_rfl
def h231 : Hint := ⟨[(0, [0, 1]), (1, [3])], [], [], [], [], [], []⟩
@[go_sem] theorem h231_l : h231.lv 0 = [0, 1] ∧ h231.lv 1 = [3] := ⟨rfl, rfl⟩
@[go_sem] def h231_q := hplain h231 rfl rfl rfl
@[go_sem] theorem h231_t : h231.tk = [] ∧ h231.mt = [] ∧ h231.pc = [] := ⟨rfl, rfl, rfl⟩
theorem h231_d : Tryz.f231.body.any (drawsOk h231) = true := by kernel_rfl
theorem call231 : callable Tryz.prog 231 = true := by kernel_rfl
def h163 : Hint := ⟨[(0, [0, 3]), (1, [4])], [5], [], [], [], [], []⟩
@[go_sem] theorem h163_l : h163.lv 0 = [0, 3] ∧ h163.lv 1 = [4] := ⟨rfl, rfl⟩
@[go_sem] def h163_q := hplain h163 rfl rfl rfl
@[go_sem] theorem h163_t : h163.tk = [5] ∧ h163.mt = [] ∧ h163.pc = [] := ⟨rfl, rfl, rfl⟩
theorem h163_d : Tryz.f163.body.any (drawsOk h163) = true := by kernel_rfl
theorem call163 : callable Tryz.prog 163 = true := by kernel_rfl
def h89 : Hint := ⟨[(0, [2, 3]), (1, [2, 3, 5]), (2, [2, 3, 5, 19]), (3, [4]), (4, [2, 3, 6]), (5, [2, 3, 38]), (6, [4]), (7, [2, 3, 40, 41, 42]), (8, [2, 3, 40, 41, 42, 43]), (9, [2, 3, 7, 8, 40, 41, 42]), (10, [2, 3, 40, 41, 42, 52]), (11, [4]), (12, [2, 3, 40, 41, 42]), (13, [3, 9]), (14, [70]), (15, [4]), (16, [4])], [], [], [], [12, 52, 58, 68], [], []⟩
@[go_sem] theorem h89_l : h89.lv 0 = [2, 3] ∧ h89.lv 1 = [2, 3, 5] ∧ h89.lv 2 = [2, 3, 5, 19] ∧ h89.lv 3 = [4] ∧ h89.lv 4 = [2, 3, 6] ∧ h89.lv 5 = [2, 3, 38] ∧ h89.lv 6 = [4] ∧ h89.lv 7 = [2, 3, 40, 41, 42] ∧ h89.lv 8 = [2, 3, 40, 41, 42, 43] ∧ h89.lv 9 = [2, 3, 7, 8, 40, 41, 42] ∧ h89.lv 10 = [2, 3, 40, 41, 42, 52] ∧ h89.lv 11 = [4] ∧ h89.lv 12 = [2, 3, 40, 41, 42] ∧ h89.lv 13 = [3, 9] ∧ h89.lv 14 = [70] ∧ h89.lv 15 = [4] ∧ h89.lv 16 = [4] := ⟨rfl, rfl, rfl, rfl, rfl, rfl, rfl, rfl, rfl, rfl, rfl, rfl, rfl, rfl, rfl, rfl, rfl⟩
@[go_sem] def h89_q := hplain h89 rfl rfl rfl
@[go_sem] theorem h89_t : h89.tk = [] ∧ h89.mt = [] ∧ h89.pc = [12, 52, 58, 68] := ⟨rfl, rfl, rfl⟩
theorem h89_d : Tryz.f89.body.any (drawsOk h89) = true := by kernel_rfl
theorem call89 : callable Tryz.prog 89 = true := by kernel_rfl
def h164 : Hint := ⟨[(0, [0]), (1, [2])], [], [], [], [], [], []⟩
@[go_sem] theorem h164_l : h164.lv 0 = [0] ∧ h164.lv 1 = [2] := ⟨rfl, rfl⟩
@[go_sem] def h164_q := hplain h164 rfl rfl rfl
@[go_sem] theorem h164_t : h164.tk = [] ∧ h164.mt = [] ∧ h164.pc = [] := ⟨rfl, rfl, rfl⟩
theorem h164_d : Tryz.f164.body.any (drawsOk h164) = true := by kernel_rfl
theorem call164 : callable Tryz.prog 164 = true := by kernel_rfl
def h165 : Hint := ⟨[(0, [0, 1]), (1, [0, 1, 10]), (2, [4]), (3, [0, 1, 12, 13]), (4, [0, 1, 12, 13, 14]), (5, [0, 1, 5, 12, 13]), (6, [0, 1, 12, 13, 24]), (7, [4]), (8, [0, 1, 12, 13]), (9, [4])], [], [], [], [], [], []⟩
@[go_sem] theorem h165_l : h165.lv 0 = [0, 1] ∧ h165.lv 1 = [0, 1, 10] ∧ h165.lv 2 = [4] ∧ h165.lv 3 = [0, 1, 12, 13] ∧ h165.lv 4 = [0, 1, 12, 13, 14] ∧ h165.lv 5 = [0, 1, 5, 12, 13] ∧ h165.lv 6 = [0, 1, 12, 13, 24] ∧ h165.lv 7 = [4] ∧ h165.lv 8 = [0, 1, 12, 13] ∧ h165.lv 9 = [4] := ⟨rfl, rfl, rfl, rfl, rfl, rfl, rfl, rfl, rfl, rfl⟩
@[go_sem] def h165_q := hplain h165 rfl rfl rfl
@[go_sem] theorem h165_t : h165.tk = [] ∧ h165.mt = [] ∧ h165.pc = [] := ⟨rfl, rfl, rfl⟩
theorem h165_d : Tryz.f165.body.any (drawsOk h165) = true := by kernel_rfl
theorem call165 : callable Tryz.prog 165 = true := by kernel_rfl
def h90 : Hint := ⟨[(0, [0, 1]), (1, [0, 1, 6]), (2, [0, 1, 6, 7]), (3, [0, 6, 7, 21, 22, 23]), (4, [0, 6, 7, 21, 22, 23, 24]), (5, [0, 6, 7, 9, 21, 22, 23]), (6, [0, 6, 7, 10, 21, 22, 23]), (7, [0, 6, 7, 10, 21, 22, 23, 31]), (8, [0, 6, 7, 10, 11, 21, 22, 23]), (9, [0, 6, 7, 10, 11, 21, 22, 23, 39, 40, 41]), (10, [0, 6, 7, 10, 11, 21, 22, 23, 39, 40, 41, 42]), (11, [0, 6, 7, 10, 11, 13, 21, 22, 23, 39, 40, 41]), (12, [0, 6, 7, 10, 11, 14, 21, 22, 23, 39, 40, 41]), (13, [0, 6, 7, 10, 11, 21, 22, 23, 39, 40, 41]), (14, [0, 6, 7, 10, 11, 21, 22, 23, 39, 40, 41]), (15, [0, 6, 7, 10, 11, 16, 21, 22, 23]), (16, [0, 6, 7, 10, 11, 16, 17, 18, 21, 22, 23]), (17, [0, 6, 7, 10, 11, 16, 17, 18, 21, 22, 23, 74]), (18, [0, 6, 7, 10, 11, 16, 17, 18, 21, 22, 23]), (19, [0, 6, 7, 10, 11, 16, 18, 21, 22, 23, 119]), (20, [4, 5]), (21, [0, 6, 7, 10, 11, 16, 21, 22, 23, 124]), (22, [0, 6, 7, 10, 16, 21, 22, 23]), (23, [0, 6, 7, 21, 22, 23]), (24, [0, 6, 7, 21, 22, 23]), (25, [4, 5])], [21, 52], [], [], [36, 48, 93], [(14, 5), (24, 2)], [18]⟩
@[go_sem] theorem h90_l : h90.lv 0 = [0, 1] ∧ h90.lv 1 = [0, 1, 6] ∧ h90.lv 2 = [0, 1, 6, 7] ∧ h90.lv 3 = [0, 6, 7, 21, 22, 23] ∧ h90.lv 4 = [0, 6, 7, 21, 22, 23, 24] ∧ h90.lv 5 = [0, 6, 7, 9, 21, 22, 23] ∧ h90.lv 6 = [0, 6, 7, 10, 21, 22, 23] ∧ h90.lv 7 = [0, 6, 7, 10, 21, 22, 23, 31] ∧ h90.lv 8 = [0, 6, 7, 10, 11, 21, 22, 23] ∧ h90.lv 9 = [0, 6, 7, 10, 11, 21, 22, 23, 39, 40, 41] ∧ h90.lv 10 = [0, 6, 7, 10, 11, 21, 22, 23, 39, 40, 41, 42] ∧ h90.lv 11 = [0, 6, 7, 10, 11, 13, 21, 22, 23, 39, 40, 41] ∧ h90.lv 12 = [0, 6, 7, 10, 11, 14, 21, 22, 23, 39, 40, 41] ∧ h90.lv 13 = [0, 6, 7, 10, 11, 21, 22, 23, 39, 40, 41] ∧ h90.lv 14 = [0, 6, 7, 10, 11, 21, 22, 23, 39, 40, 41] ∧ h90.lv 15 = [0, 6, 7, 10, 11, 16, 21, 22, 23] ∧ h90.lv 16 = [0, 6, 7, 10, 11, 16, 17, 18, 21, 22, 23] ∧ h90.lv 17 = [0, 6, 7, 10, 11, 16, 17, 18, 21, 22, 23, 74] ∧ h90.lv 18 = [0, 6, 7, 10, 11, 16, 17, 18, 21, 22, 23] ∧ h90.lv 19 = [0, 6, 7, 10, 11, 16, 18, 21, 22, 23, 119] ∧ h90.lv 20 = [4, 5] ∧ h90.lv 21 = [0, 6, 7, 10, 11, 16, 21, 22, 23, 124] ∧ h90.lv 22 = [0, 6, 7, 10, 16, 21, 22, 23] ∧ h90.lv 23 = [0, 6, 7, 21, 22, 23] ∧ h90.lv 24 = [0, 6, 7, 21, 22, 23] ∧ h90.lv 25 = [4, 5] := ⟨rfl, rfl, rfl, rfl, rfl, rfl, rfl, rfl, rfl, rfl, rfl, rfl, rfl, rfl, rfl, rfl, rfl, rfl, rfl, rfl, rfl, rfl, rfl, rfl, rfl, rfl⟩
@[go_sem] theorem h90_g0 : h90.ct 0 = none := rfl
@[go_sem] theorem h90_g1 : h90.ct 1 = none := rfl
@[go_sem] theorem h90_g2 : h90.ct 2 = none := rfl
@[go_sem] theorem h90_g3 : h90.ct 3 = none := rfl
@[go_sem] theorem h90_g4 : h90.ct 4 = none := rfl
@[go_sem] theorem h90_g5 : h90.ct 5 = none := rfl
@[go_sem] theorem h90_g6 : h90.ct 6 = none := rfl
@[go_sem] theorem h90_g7 : h90.ct 7 = none := rfl
@[go_sem] theorem h90_g8 : h90.ct 8 = none := rfl
@[go_sem] theorem h90_g9 : h90.ct 9 = none := rfl
@[go_sem] theorem h90_g10 : h90.ct 10 = none := rfl
@[go_sem] theorem h90_g11 : h90.ct 11 = none := rfl
@[go_sem] theorem h90_g12 : h90.ct 12 = none := rfl
@[go_sem] theorem h90_g13 : h90.ct 13 = none := rfl
@[go_sem] theorem h90_g14 : h90.ct 14 = some 5 := rfl
@[go_sem] theorem h90_g15 : h90.ct 15 = none := rfl
@[go_sem] theorem h90_g16 : h90.ct 16 = none := rfl
@[go_sem] theorem h90_g17 : h90.ct 17 = none := rfl
@[go_sem] theorem h90_g18 : h90.ct 18 = none := rfl
@[go_sem] theorem h90_g19 : h90.ct 19 = none := rfl
@[go_sem] theorem h90_g20 : h90.ct 20 = none := rfl
@[go_sem] theorem h90_g21 : h90.ct 21 = none := rfl
@[go_sem] theorem h90_g22 : h90.ct 22 = none := rfl
@[go_sem] theorem h90_g23 : h90.ct 23 = none := rfl
@[go_sem] theorem h90_g24 : h90.ct 24 = some 2 := rfl
@[go_sem] theorem h90_g25 : h90.ct 25 = none := rfl
@[go_sem] theorem h90_z (k : Nat) : h90.at k = [] := rfl
@[go_sem] theorem h90_y0 : h90.dn 0 = false := Eq.trans rfl rfl
@[go_sem] theorem h90_y1 : h90.dn 1 = false := Eq.trans rfl rfl
@[go_sem] theorem h90_y2 : h90.dn 2 = false := Eq.trans rfl rfl
@[go_sem] theorem h90_y3 : h90.dn 3 = false := Eq.trans rfl rfl
@[go_sem] theorem h90_y4 : h90.dn 4 = false := Eq.trans rfl rfl
@[go_sem] theorem h90_y5 : h90.dn 5 = false := Eq.trans rfl rfl
@[go_sem] theorem h90_y6 : h90.dn 6 = false := Eq.trans rfl rfl
@[go_sem] theorem h90_y7 : h90.dn 7 = false := Eq.trans rfl rfl
@[go_sem] theorem h90_y8 : h90.dn 8 = false := Eq.trans rfl rfl
@[go_sem] theorem h90_y9 : h90.dn 9 = false := Eq.trans rfl rfl
@[go_sem] theorem h90_y10 : h90.dn 10 = false := Eq.trans rfl rfl
@[go_sem] theorem h90_y11 : h90.dn 11 = false := Eq.trans rfl rfl
@[go_sem] theorem h90_y12 : h90.dn 12 = false := Eq.trans rfl rfl
@[go_sem] theorem h90_y13 : h90.dn 13 = false := Eq.trans rfl rfl
@[go_sem] theorem h90_y14 : h90.dn 14 = false := Eq.trans rfl rfl
@[go_sem] theorem h90_y15 : h90.dn 15 = false := Eq.trans rfl rfl
@[go_sem] theorem h90_y16 : h90.dn 16 = false := Eq.trans rfl rfl
@[go_sem] theorem h90_y17 : h90.dn 17 = false := Eq.trans rfl rfl
@[go_sem] theorem h90_y18 : h90.dn 18 = true := Eq.trans rfl rfl
@[go_sem] theorem h90_y19 : h90.dn 19 = false := Eq.trans rfl rfl
@[go_sem] theorem h90_y20 : h90.dn 20 = false := Eq.trans rfl rfl
@[go_sem] theorem h90_y21 : h90.dn 21 = false := Eq.trans rfl rfl
@[go_sem] theorem h90_y22 : h90.dn 22 = false := Eq.trans rfl rfl
@[go_sem] theorem h90_y23 : h90.dn 23 = false := Eq.trans rfl rfl
@[go_sem] theorem h90_y24 : h90.dn 24 = false := Eq.trans rfl rfl
@[go_sem] theorem h90_y25 : h90.dn 25 = false := Eq.trans rfl rfl
theorem h90_d : Tryz.f90.body.any (drawsOk h90) = true := by kernel_rfl
@[go_sem] theorem h90_t : h90.tk = [21, 52] ∧ h90.mt = [] ∧ h90.pc = [36, 48, 93] := ⟨rfl, rfl, rfl⟩
theorem call90 : callable Tryz.prog 90 = true := by kernel_rfl
def h37 : Hint := ⟨[(0, [0, 1]), (1, [0, 1, 5]), (2, [0, 1, 5, 15]), (3, [4]), (4, [0, 1, 17, 18, 19]), (5, [0, 1, 17, 18, 19, 20]), (6, [0, 1, 7, 17, 18, 19]), (7, [0, 1, 7, 8, 17, 18, 19]), (8, [0, 1, 7, 8, 17, 18, 19, 28]), (9, [4]), (10, [0, 1, 9, 17, 18, 19]), (11, [0, 1, 9, 17, 18, 19, 35]), (12, [4]), (13, [0, 1, 17, 18, 19]), (14, [11]), (15, [45]), (16, [4]), (17, [4])], [39, 40], [], [], [13, 26, 33], [(13, 0)], []⟩
@[go_sem] theorem h37_l : h37.lv 0 = [0, 1] ∧ h37.lv 1 = [0, 1, 5] ∧ h37.lv 2 = [0, 1, 5, 15] ∧ h37.lv 3 = [4] ∧ h37.lv 4 = [0, 1, 17, 18, 19] ∧ h37.lv 5 = [0, 1, 17, 18, 19, 20] ∧ h37.lv 6 = [0, 1, 7, 17, 18, 19] ∧ h37.lv 7 = [0, 1, 7, 8, 17, 18, 19] ∧ h37.lv 8 = [0, 1, 7, 8, 17, 18, 19, 28] ∧ h37.lv 9 = [4] ∧ h37.lv 10 = [0, 1, 9, 17, 18, 19] ∧ h37.lv 11 = [0, 1, 9, 17, 18, 19, 35] ∧ h37.lv 12 = [4] ∧ h37.lv 13 = [0, 1, 17, 18, 19] ∧ h37.lv 14 = [11] ∧ h37.lv 15 = [45] ∧ h37.lv 16 = [4] ∧ h37.lv 17 = [4] := ⟨rfl, rfl, rfl, rfl, rfl, rfl, rfl, rfl, rfl, rfl, rfl, rfl, rfl, rfl, rfl, rfl, rfl, rfl⟩
@[go_sem] theorem h37_g0 : h37.ct 0 = none := rfl
@[go_sem] theorem h37_g1 : h37.ct 1 = none := rfl
@[go_sem] theorem h37_g2 : h37.ct 2 = none := rfl
@[go_sem] theorem h37_g3 : h37.ct 3 = none := rfl
@[go_sem] theorem h37_g4 : h37.ct 4 = none := rfl
@[go_sem] theorem h37_g5 : h37.ct 5 = none := rfl
@[go_sem] theorem h37_g6 : h37.ct 6 = none := rfl
@[go_sem] theorem h37_g7 : h37.ct 7 = none := rfl
@[go_sem] theorem h37_g8 : h37.ct 8 = none := rfl
@[go_sem] theorem h37_g9 : h37.ct 9 = none := rfl
@[go_sem] theorem h37_g10 : h37.ct 10 = none := rfl
@[go_sem] theorem h37_g11 : h37.ct 11 = none := rfl
@[go_sem] theorem h37_g12 : h37.ct 12 = none := rfl
@[go_sem] theorem h37_g13 : h37.ct 13 = some 0 := rfl
@[go_sem] theorem h37_g14 : h37.ct 14 = none := rfl
@[go_sem] theorem h37_g15 : h37.ct 15 = none := rfl
@[go_sem] theorem h37_g16 : h37.ct 16 = none := rfl
@[go_sem] theorem h37_g17 : h37.ct 17 = none := rfl
@[go_sem] theorem h37_z (k : Nat) : h37.at k = [] := rfl
@[go_sem] theorem h37_y (k : Nat) : h37.dn k = false := Eq.trans rfl rfl
theorem h37_d : Tryz.f37.body.any (drawsOk h37) = true := by kernel_rfl
@[go_sem] theorem h37_t : h37.tk = [39, 40] ∧ h37.mt = [] ∧ h37.pc = [13, 26, 33] := ⟨rfl, rfl, rfl⟩
theorem call37 : callable Tryz.prog 37 = true := by kernel_rfl
def h195 : Hint := ⟨[(0, [0, 1]), (1, [0, 1, 7, 8]), (2, [0, 1, 7, 8, 9]), (3, [0, 1, 5, 7, 8]), (4, [0, 1, 5, 7, 8, 16]), (5, [4]), (6, [0, 1, 7, 8]), (7, [4])], [], [], [], [], [], []⟩
@[go_sem] theorem h195_l : h195.lv 0 = [0, 1] ∧ h195.lv 1 = [0, 1, 7, 8] ∧ h195.lv 2 = [0, 1, 7, 8, 9] ∧ h195.lv 3 = [0, 1, 5, 7, 8] ∧ h195.lv 4 = [0, 1, 5, 7, 8, 16] ∧ h195.lv 5 = [4] ∧ h195.lv 6 = [0, 1, 7, 8] ∧ h195.lv 7 = [4] := ⟨rfl, rfl, rfl, rfl, rfl, rfl, rfl, rfl⟩
@[go_sem] def h195_q := hplain h195 rfl rfl rfl
@[go_sem] theorem h195_t : h195.tk = [] ∧ h195.mt = [] ∧ h195.pc = [] := ⟨rfl, rfl, rfl⟩
theorem h195_d : Tryz.f195.body.any (drawsOk h195) = true := by kernel_rfl
theorem call195 : callable Tryz.prog 195 = true := by kernel_rfl
def h131 : Hint := ⟨[(0, [0, 1]), (1, [4])], [5], [], [], [], [], []⟩
@[go_sem] theorem h131_l : h131.lv 0 = [0, 1] ∧ h131.lv 1 = [4] := ⟨rfl, rfl⟩
@[go_sem] def h131_q := hplain h131 rfl rfl rfl
@[go_sem] theorem h131_t : h131.tk = [5] ∧ h131.mt = [] ∧ h131.pc = [] := ⟨rfl, rfl, rfl⟩
theorem h131_d : Tryz.f131.body.any (drawsOk h131) = true := by kernel_rfl
theorem call131 : callable Tryz.prog 131 = true := by kernel_rfl
def h197 : Hint := ⟨[(0, [1]), (1, [2])], [], [], [], [], [], []⟩
@[go_sem] theorem h197_l : h197.lv 0 = [1] ∧ h197.lv 1 = [2] := ⟨rfl, rfl⟩
@[go_sem] def h197_q := hplain h197 rfl rfl rfl
@[go_sem] theorem h197_t : h197.tk = [] ∧ h197.mt = [] ∧ h197.pc = [] := ⟨rfl, rfl, rfl⟩
theorem h197_d : Tryz.f197.body.any (drawsOk h197) = true := by kernel_rfl
theorem call197 : callable Tryz.prog 197 = true := by kernel_rfl
def h132 : Hint := ⟨[(0, [1]), (1, [1, 3]), (2, [3, 7]), (3, [3, 4]), (4, [3, 4, 16]), (5, [0]), (6, [2])], [], [], [], [], [], []⟩
@[go_sem] theorem h132_l : h132.lv 0 = [1] ∧ h132.lv 1 = [1, 3] ∧ h132.lv 2 = [3, 7] ∧ h132.lv 3 = [3, 4] ∧ h132.lv 4 = [3, 4, 16] ∧ h132.lv 5 = [0] ∧ h132.lv 6 = [2] := ⟨rfl, rfl, rfl, rfl, rfl, rfl, rfl⟩
@[go_sem] def h132_q := hplain h132 rfl rfl rfl
@[go_sem] theorem h132_t : h132.tk = [] ∧ h132.mt = [] ∧ h132.pc = [] := ⟨rfl, rfl, rfl⟩
theorem h132_d : Tryz.f132.body.any (drawsOk h132) = true := by kernel_rfl
theorem call132 : callable Tryz.prog 132 = true := by kernel_rfl
def h133 : Hint := ⟨[(0, [0, 1]), (1, [3])], [], [], [], [], [], []⟩
@[go_sem] theorem h133_l : h133.lv 0 = [0, 1] ∧ h133.lv 1 = [3] := ⟨rfl, rfl⟩
@[go_sem] def h133_q := hplain h133 rfl rfl rfl
@[go_sem] theorem h133_t : h133.tk = [] ∧ h133.mt = [] ∧ h133.pc = [] := ⟨rfl, rfl, rfl⟩
theorem h133_d : Tryz.f133.body.any (drawsOk h133) = true := by kernel_rfl
theorem call133 : callable Tryz.prog 133 = true := by kernel_rfl
def h57 : Hint := ⟨[(0, [2, 3]), (1, [3, 5]), (2, [3, 5, 14]), (3, [4]), (4, [3, 17, 18, 19]), (5, [3, 17, 18, 19, 20]), (6, [3, 7, 17, 18, 19]), (7, [3, 7, 17, 18, 19, 27]), (8, [4]), (9, [3, 17, 18, 19, 43]), (10, [4]), (11, [3, 17, 18, 19]), (12, [4])], [], [], [], [12, 25, 41], [(11, 2)], []⟩
@[go_sem] theorem h57_l : h57.lv 0 = [2, 3] ∧ h57.lv 1 = [3, 5] ∧ h57.lv 2 = [3, 5, 14] ∧ h57.lv 3 = [4] ∧ h57.lv 4 = [3, 17, 18, 19] ∧ h57.lv 5 = [3, 17, 18, 19, 20] ∧ h57.lv 6 = [3, 7, 17, 18, 19] ∧ h57.lv 7 = [3, 7, 17, 18, 19, 27] ∧ h57.lv 8 = [4] ∧ h57.lv 9 = [3, 17, 18, 19, 43] ∧ h57.lv 10 = [4] ∧ h57.lv 11 = [3, 17, 18, 19] ∧ h57.lv 12 = [4] := ⟨rfl, rfl, rfl, rfl, rfl, rfl, rfl, rfl, rfl, rfl, rfl, rfl, rfl⟩
@[go_sem] theorem h57_g0 : h57.ct 0 = none := rfl
@[go_sem] theorem h57_g1 : h57.ct 1 = none := rfl
@[go_sem] theorem h57_g2 : h57.ct 2 = none := rfl
@[go_sem] theorem h57_g3 : h57.ct 3 = none := rfl
@[go_sem] theorem h57_g4 : h57.ct 4 = none := rfl
@[go_sem] theorem h57_g5 : h57.ct 5 = none := rfl
@[go_sem] theorem h57_g6 : h57.ct 6 = none := rfl
@[go_sem] theorem h57_g7 : h57.ct 7 = none := rfl
@[go_sem] theorem h57_g8 : h57.ct 8 = none := rfl
@[go_sem] theorem h57_g9 : h57.ct 9 = none := rfl
@[go_sem] theorem h57_g10 : h57.ct 10 = none := rfl
@[go_sem] theorem h57_g11 : h57.ct 11 = some 2 := rfl
@[go_sem] theorem h57_g12 : h57.ct 12 = none := rfl
@[go_sem] theorem h57_z (k : Nat) : h57.at k = [] := rfl
@[go_sem] theorem h57_y (k : Nat) : h57.dn k = false := Eq.trans rfl rfl
theorem h57_d : Tryz.f57.body.any (drawsOk h57) = true := by kernel_rfl
@[go_sem] theorem h57_t : h57.tk = [] ∧ h57.mt = [] ∧ h57.pc = [12, 25, 41] := ⟨rfl, rfl, rfl⟩
theorem call57 : callable Tryz.prog 57 = true := by kernel_rfl
def h200 : Hint := ⟨[(0, [0]), (1, [1])], [], [], [], [3], [], []⟩
@[go_sem] theorem h200_l : h200.lv 0 = [0] ∧ h200.lv 1 = [1] := ⟨rfl, rfl⟩
@[go_sem] def h200_q := hplain h200 rfl rfl rfl
@[go_sem] theorem h200_t : h200.tk = [] ∧ h200.mt = [] ∧ h200.pc = [3] := ⟨rfl, rfl, rfl⟩
theorem h200_d : Tryz.f200.body.any (drawsOk h200) = true := by kernel_rfl
theorem call200 : callable Tryz.prog 200 = true := by kernel_rfl
def h135 : Hint := ⟨[(0, [1]), (1, [2])], [], [], [], [4], [], []⟩
@[go_sem] theorem h135_l : h135.lv 0 = [1] ∧ h135.lv 1 = [2] := ⟨rfl, rfl⟩
@[go_sem] def h135_q := hplain h135 rfl rfl rfl
@[go_sem] theorem h135_t : h135.tk = [] ∧ h135.mt = [] ∧ h135.pc = [4] := ⟨rfl, rfl, rfl⟩
theorem h135_d : Tryz.f135.body.any (drawsOk h135) = true := by kernel_rfl
theorem call135 : callable Tryz.prog 135 = true := by kernel_rfl
def h58 : Hint := ⟨[(0, [0, 3]), (1, [0, 3, 5]), (2, [0, 3, 5, 9]), (3, [4]), (4, [4])], [11], [], [], [7, 13], [], []⟩
@[go_sem] theorem h58_l : h58.lv 0 = [0, 3] ∧ h58.lv 1 = [0, 3, 5] ∧ h58.lv 2 = [0, 3, 5, 9] ∧ h58.lv 3 = [4] ∧ h58.lv 4 = [4] := ⟨rfl, rfl, rfl, rfl, rfl⟩
@[go_sem] def h58_q := hplain h58 rfl rfl rfl
@[go_sem] theorem h58_t : h58.tk = [11] ∧ h58.mt = [] ∧ h58.pc = [7, 13] := ⟨rfl, rfl, rfl⟩
theorem h58_d : Tryz.f58.body.any (drawsOk h58) = true := by kernel_rfl
theorem call58 : callable Tryz.prog 58 = true := by kernel_rfl
def h203 : Hint := ⟨[(0, [0, 1, 4]), (1, [0, 1, 4, 5]), (2, [1, 4, 5, 9, 10, 11]), (3, [1, 4, 5, 9, 10, 11, 12]), (4, [1, 4, 5, 7, 9, 10, 11]), (5, [1, 4, 5, 9, 10, 11]), (6, [1, 4, 5, 9, 10, 11]), (7, [4])], [9], [], [], [18, 19], [(6, 2)], []⟩
@[go_sem] theorem h203_l : h203.lv 0 = [0, 1, 4] ∧ h203.lv 1 = [0, 1, 4, 5] ∧ h203.lv 2 = [1, 4, 5, 9, 10, 11] ∧ h203.lv 3 = [1, 4, 5, 9, 10, 11, 12] ∧ h203.lv 4 = [1, 4, 5, 7, 9, 10, 11] ∧ h203.lv 5 = [1, 4, 5, 9, 10, 11] ∧ h203.lv 6 = [1, 4, 5, 9, 10, 11] ∧ h203.lv 7 = [4] := ⟨rfl, rfl, rfl, rfl, rfl, rfl, rfl, rfl⟩
@[go_sem] theorem h203_g0 : h203.ct 0 = none := rfl
@[go_sem] theorem h203_g1 : h203.ct 1 = none := rfl
@[go_sem] theorem h203_g2 : h203.ct 2 = none := rfl
@[go_sem] theorem h203_g3 : h203.ct 3 = none := rfl
@[go_sem] theorem h203_g4 : h203.ct 4 = none := rfl
@[go_sem] theorem h203_g5 : h203.ct 5 = none := rfl
@[go_sem] theorem h203_g6 : h203.ct 6 = some 2 := rfl
@[go_sem] theorem h203_g7 : h203.ct 7 = none := rfl
@[go_sem] theorem h203_z (k : Nat) : h203.at k = [] := rfl
@[go_sem] theorem h203_y (k : Nat) : h203.dn k = false := Eq.trans rfl rfl
theorem h203_d : Tryz.f203.body.any (drawsOk h203) = true := by kernel_rfl
@[go_sem] theorem h203_t : h203.tk = [9] ∧ h203.mt = [] ∧ h203.pc = [18, 19] := ⟨rfl, rfl, rfl⟩
theorem call203 : callable Tryz.prog 203 = true := by kernel_rfl
def h137 : Hint := ⟨[(0, [1, 2]), (1, [2])], [], [], [], [5], [], []⟩
@[go_sem] theorem h137_l : h137.lv 0 = [1, 2] ∧ h137.lv 1 = [2] := ⟨rfl, rfl⟩
@[go_sem] def h137_q := hplain h137 rfl rfl rfl
@[go_sem] theorem h137_t : h137.tk = [] ∧ h137.mt = [] ∧ h137.pc = [5] := ⟨rfl, rfl, rfl⟩
theorem h137_d : Tryz.f137.body.any (drawsOk h137) = true := by kernel_rfl
theorem call137 : callable Tryz.prog 137 = true := by kernel_rfl
def h208 : Hint := ⟨[(0, [0, 1]), (1, [0, 1, 7, 8]), (2, [0, 1, 7, 8, 9]), (3, [0, 1, 5, 7, 8]), (4, [0, 1, 5, 7, 8, 16]), (5, [4]), (6, [0, 1, 7, 8]), (7, [4])], [], [], [], [], [], []⟩
@[go_sem] theorem h208_l : h208.lv 0 = [0, 1] ∧ h208.lv 1 = [0, 1, 7, 8] ∧ h208.lv 2 = [0, 1, 7, 8, 9] ∧ h208.lv 3 = [0, 1, 5, 7, 8] ∧ h208.lv 4 = [0, 1, 5, 7, 8, 16] ∧ h208.lv 5 = [4] ∧ h208.lv 6 = [0, 1, 7, 8] ∧ h208.lv 7 = [4] := ⟨rfl, rfl, rfl, rfl, rfl, rfl, rfl, rfl⟩
@[go_sem] def h208_q := hplain h208 rfl rfl rfl
@[go_sem] theorem h208_t : h208.tk = [] ∧ h208.mt = [] ∧ h208.pc = [] := ⟨rfl, rfl, rfl⟩
theorem h208_d : Tryz.f208.body.any (drawsOk h208) = true := by kernel_rfl
theorem call208 : callable Tryz.prog 208 = true := by kernel_rfl
def h143 : Hint := ⟨[(0, [0, 1]), (1, [4])], [5], [], [], [], [], []⟩
@[go_sem] theorem h143_l : h143.lv 0 = [0, 1] ∧ h143.lv 1 = [4] := ⟨rfl, rfl⟩
@[go_sem] def h143_q := hplain h143 rfl rfl rfl
@[go_sem] theorem h143_t : h143.tk = [5] ∧ h143.mt = [] ∧ h143.pc = [] := ⟨rfl, rfl, rfl⟩
theorem h143_d : Tryz.f143.body.any (drawsOk h143) = true := by kernel_rfl
theorem call143 : callable Tryz.prog 143 = true := by kernel_rfl
def h253 : Hint := ⟨[(0, [1, 2]), (1, [3])], [], [], [], [], [], []⟩
@[go_sem] theorem h253_l : h253.lv 0 = [1, 2] ∧ h253.lv 1 = [3] := ⟨rfl, rfl⟩
@[go_sem] def h253_q := hplain h253 rfl rfl rfl
@[go_sem] theorem h253_t : h253.tk = [] ∧ h253.mt = [] ∧ h253.pc = [] := ⟨rfl, rfl, rfl⟩
theorem h253_d : Tryz.f253.body.any (drawsOk h253) = true := by kernel_rfl
theorem call253 : callable Tryz.prog 253 = true := by kernel_rfl
def h206 : Hint := ⟨[(0, [0, 1, 5]), (1, [6])], [12], [], [], [], [], []⟩
@[go_sem] theorem h206_l : h206.lv 0 = [0, 1, 5] ∧ h206.lv 1 = [6] := ⟨rfl, rfl⟩
@[go_sem] def h206_q := hplain h206 rfl rfl rfl
@[go_sem] theorem h206_t : h206.tk = [12] ∧ h206.mt = [] ∧ h206.pc = [] := ⟨rfl, rfl, rfl⟩
theorem h206_d : Tryz.f206.body.any (drawsOk h206) = true := by kernel_rfl
theorem call206 : callable Tryz.prog 206 = true := by kernel_rfl
def h140 : Hint := ⟨[(0, [1]), (1, [1, 4]), (2, [1, 4, 5]), (3, [2]), (4, [1, 4, 16]), (5, [1, 4, 16]), (6, [2]), (7, [1, 4, 28]), (8, [2]), (9, [1, 4, 38]), (10, [1, 38]), (11, [2]), (12, [2])], [], [], [], [9, 36, 47], [], []⟩
@[go_sem] theorem h140_l : h140.lv 0 = [1] ∧ h140.lv 1 = [1, 4] ∧ h140.lv 2 = [1, 4, 5] ∧ h140.lv 3 = [2] ∧ h140.lv 4 = [1, 4, 16] ∧ h140.lv 5 = [1, 4, 16] ∧ h140.lv 6 = [2] ∧ h140.lv 7 = [1, 4, 28] ∧ h140.lv 8 = [2] ∧ h140.lv 9 = [1, 4, 38] ∧ h140.lv 10 = [1, 38] ∧ h140.lv 11 = [2] ∧ h140.lv 12 = [2] := ⟨rfl, rfl, rfl, rfl, rfl, rfl, rfl, rfl, rfl, rfl, rfl, rfl, rfl⟩
@[go_sem] def h140_q := hplain h140 rfl rfl rfl
@[go_sem] theorem h140_t : h140.tk = [] ∧ h140.mt = [] ∧ h140.pc = [9, 36, 47] := ⟨rfl, rfl, rfl⟩
theorem h140_d : Tryz.f140.body.any (drawsOk h140) = true := by kernel_rfl
theorem call140 : callable Tryz.prog 140 = true := by kernel_rfl
def h139 : Hint := ⟨[(0, [0]), (1, [1])], [], [], [], [3], [], []⟩
@[go_sem] theorem h139_l : h139.lv 0 = [0] ∧ h139.lv 1 = [1] := ⟨rfl, rfl⟩
@[go_sem] def h139_q := hplain h139 rfl rfl rfl
@[go_sem] theorem h139_t : h139.tk = [] ∧ h139.mt = [] ∧ h139.pc = [3] := ⟨rfl, rfl, rfl⟩
theorem h139_d : Tryz.f139.body.any (drawsOk h139) = true := by kernel_rfl
theorem call139 : callable Tryz.prog 139 = true := by kernel_rfl
def h59 : Hint := ⟨[(0, [1]), (1, [2])], [], [], [], [4], [], []⟩
@[go_sem] theorem h59_l : h59.lv 0 = [1] ∧ h59.lv 1 = [2] := ⟨rfl, rfl⟩
@[go_sem] def h59_q := hplain h59 rfl rfl rfl
@[go_sem] theorem h59_t : h59.tk = [] ∧ h59.mt = [] ∧ h59.pc = [4] := ⟨rfl, rfl, rfl⟩
theorem h59_d : Tryz.f59.body.any (drawsOk h59) = true := by kernel_rfl
theorem call59 : callable Tryz.prog 59 = true := by kernel_rfl
def h207 : Hint := ⟨[(0, [0, 1]), (1, [0, 1, 7, 8]), (2, [0, 1, 7, 8, 9]), (3, [0, 1, 5, 7, 8]), (4, [0, 1, 5, 7, 8, 16]), (5, [4]), (6, [0, 1, 7, 8]), (7, [4])], [], [], [], [], [], []⟩
@[go_sem] theorem h207_l : h207.lv 0 = [0, 1] ∧ h207.lv 1 = [0, 1, 7, 8] ∧ h207.lv 2 = [0, 1, 7, 8, 9] ∧ h207.lv 3 = [0, 1, 5, 7, 8] ∧ h207.lv 4 = [0, 1, 5, 7, 8, 16] ∧ h207.lv 5 = [4] ∧ h207.lv 6 = [0, 1, 7, 8] ∧ h207.lv 7 = [4] := ⟨rfl, rfl, rfl, rfl, rfl, rfl, rfl, rfl⟩
@[go_sem] def h207_q := hplain h207 rfl rfl rfl
@[go_sem] theorem h207_t : h207.tk = [] ∧ h207.mt = [] ∧ h207.pc = [] := ⟨rfl, rfl, rfl⟩
theorem h207_d : Tryz.f207.body.any (drawsOk h207) = true := by kernel_rfl
theorem call207 : callable Tryz.prog 207 = true := by kernel_rfl
def h141 : Hint := ⟨[(0, [0, 1]), (1, [4])], [5], [], [], [], [], []⟩
@[go_sem] theorem h141_l : h141.lv 0 = [0, 1] ∧ h141.lv 1 = [4] := ⟨rfl, rfl⟩
@[go_sem] def h141_q := hplain h141 rfl rfl rfl
@[go_sem] theorem h141_t : h141.tk = [5] ∧ h141.mt = [] ∧ h141.pc = [] := ⟨rfl, rfl, rfl⟩
theorem h141_d : Tryz.f141.body.any (drawsOk h141) = true := by kernel_rfl
theorem call141 : callable Tryz.prog 141 = true := by kernel_rfl
def h142 : Hint := ⟨[(0, [1, 2]), (1, [3])], [], [], [], [], [], []⟩
@[go_sem] theorem h142_l : h142.lv 0 = [1, 2] ∧ h142.lv 1 = [3] := ⟨rfl, rfl⟩
@[go_sem] def h142_q := hplain h142 rfl rfl rfl
@[go_sem] theorem h142_t : h142.tk = [] ∧ h142.mt = [] ∧ h142.pc = [] := ⟨rfl, rfl, rfl⟩
theorem h142_d : Tryz.f142.body.any (drawsOk h142) = true := by kernel_rfl
theorem call142 : callable Tryz.prog 142 = true := by kernel_rfl
def h144 : Hint := ⟨[(0, [1, 2]), (1, [3])], [], [], [], [6], [], []⟩
@[go_sem] theorem h144_l : h144.lv 0 = [1, 2] ∧ h144.lv 1 = [3] := ⟨rfl, rfl⟩
@[go_sem] def h144_q := hplain h144 rfl rfl rfl
@[go_sem] theorem h144_t : h144.tk = [] ∧ h144.mt = [] ∧ h144.pc = [6] := ⟨rfl, rfl, rfl⟩
theorem h144_d : Tryz.f144.body.any (drawsOk h144) = true := by kernel_rfl
theorem call144 : callable Tryz.prog 144 = true := by kernel_rfl
def h60 : Hint := ⟨[(0, [2, 3]), (1, [2, 3, 14]), (2, [4]), (3, [4])], [], [], [], [], [], []⟩
@[go_sem] theorem h60_l : h60.lv 0 = [2, 3] ∧ h60.lv 1 = [2, 3, 14] ∧ h60.lv 2 = [4] ∧ h60.lv 3 = [4] := ⟨rfl, rfl, rfl, rfl⟩
@[go_sem] def h60_q := hplain h60 rfl rfl rfl
@[go_sem] theorem h60_t : h60.tk = [] ∧ h60.mt = [] ∧ h60.pc = [] := ⟨rfl, rfl, rfl⟩
theorem h60_d : Tryz.f60.body.any (drawsOk h60) = true := by kernel_rfl
theorem call60 : callable Tryz.prog 60 = true := by kernel_rfl
def h61 : Hint := ⟨[(0, [1, 2]), (1, [4])], [], [], [], [7], [], []⟩
@[go_sem] theorem h61_l : h61.lv 0 = [1, 2] ∧ h61.lv 1 = [4] := ⟨rfl, rfl⟩
@[go_sem] def h61_q := hplain h61 rfl rfl rfl
@[go_sem] theorem h61_t : h61.tk = [] ∧ h61.mt = [] ∧ h61.pc = [7] := ⟨rfl, rfl, rfl⟩
theorem h61_d : Tryz.f61.body.any (drawsOk h61) = true := by kernel_rfl
theorem call61 : callable Tryz.prog 61 = true := by kernel_rfl
def h63 : Hint := ⟨[(0, [0, 1]), (1, [0, 1, 5]), (2, [1, 5, 9, 10, 11]), (3, [1, 5, 9, 10, 11, 12]), (4, [1, 5, 7, 9, 10, 11]), (5, [1, 5, 7, 9, 10, 11, 19]), (6, [4]), (7, [1, 5, 9, 10, 11]), (8, [1, 5, 9, 10, 11]), (9, [4])], [9], [], [], [], [(8, 1)], []⟩
@[go_sem] theorem h63_l : h63.lv 0 = [0, 1] ∧ h63.lv 1 = [0, 1, 5] ∧ h63.lv 2 = [1, 5, 9, 10, 11] ∧ h63.lv 3 = [1, 5, 9, 10, 11, 12] ∧ h63.lv 4 = [1, 5, 7, 9, 10, 11] ∧ h63.lv 5 = [1, 5, 7, 9, 10, 11, 19] ∧ h63.lv 6 = [4] ∧ h63.lv 7 = [1, 5, 9, 10, 11] ∧ h63.lv 8 = [1, 5, 9, 10, 11] ∧ h63.lv 9 = [4] := ⟨rfl, rfl, rfl, rfl, rfl, rfl, rfl, rfl, rfl, rfl⟩
@[go_sem] theorem h63_g0 : h63.ct 0 = none := rfl
@[go_sem] theorem h63_g1 : h63.ct 1 = none := rfl
@[go_sem] theorem h63_g2 : h63.ct 2 = none := rfl
@[go_sem] theorem h63_g3 : h63.ct 3 = none := rfl
@[go_sem] theorem h63_g4 : h63.ct 4 = none := rfl
@[go_sem] theorem h63_g5 : h63.ct 5 = none := rfl
@[go_sem] theorem h63_g6 : h63.ct 6 = none := rfl
@[go_sem] theorem h63_g7 : h63.ct 7 = none := rfl
@[go_sem] theorem h63_g8 : h63.ct 8 = some 1 := rfl
@[go_sem] theorem h63_g9 : h63.ct 9 = none := rfl
@[go_sem] theorem h63_z (k : Nat) : h63.at k = [] := rfl
@[go_sem] theorem h63_y (k : Nat) : h63.dn k = false := Eq.trans rfl rfl
theorem h63_d : Tryz.f63.body.any (drawsOk h63) = true := by kernel_rfl
@[go_sem] theorem h63_t : h63.tk = [9] ∧ h63.mt = [] ∧ h63.pc = [] := ⟨rfl, rfl, rfl⟩
theorem call63 : callable Tryz.prog 63 = true := by kernel_rfl
def h64 : Hint := ⟨[(0, [1, 2]), (1, [2])], [], [], [], [], [], []⟩
@[go_sem] theorem h64_l : h64.lv 0 = [1, 2] ∧ h64.lv 1 = [2] := ⟨rfl, rfl⟩
@[go_sem] def h64_q := hplain h64 rfl rfl rfl
@[go_sem] theorem h64_t : h64.tk = [] ∧ h64.mt = [] ∧ h64.pc = [] := ⟨rfl, rfl, rfl⟩
theorem h64_d : Tryz.f64.body.any (drawsOk h64) = true := by kernel_rfl
theorem call64 : callable Tryz.prog 64 = true := by kernel_rfl
def h12 : Hint := ⟨[(0, [2, 3]), (1, [2, 3, 34]), (2, [4]), (3, [2, 3, 5]), (4, [2, 3, 5, 39]), (5, [4]), (6, [2, 3, 6]), (7, [2, 3, 6, 45]), (8, [4]), (9, [2, 3, 48, 49, 50]), (10, [2, 3, 48, 49, 50, 51]), (11, [2, 3, 8, 48, 49, 50]), (12, [2, 3, 8, 9, 48, 49, 50]), (13, [2, 3, 8, 9, 48, 49, 50, 60]), (14, [4]), (15, [2, 3, 8, 10, 48, 49, 50]), (16, [2, 3, 8, 10, 48, 49, 50, 66]), (17, [4]), (18, [2, 3, 48, 49, 50, 73]), (19, [4]), (20, [2, 3, 48, 49, 50]), (21, [3, 76, 77, 78]), (22, [3, 76, 77, 78, 79]), (23, [3, 12, 76, 77, 78]), (24, [3, 76, 77, 78, 113]), (25, [4]), (26, [3, 76, 77, 78]), (27, [117]), (28, [4]), (29, [4])], [], [], [], [37, 43, 58, 64, 72, 85, 91, 106, 117], [(20, 2), (26, 2)], []⟩
@[go_sem] theorem h12_l : h12.lv 0 = [2, 3] ∧ h12.lv 1 = [2, 3, 34] ∧ h12.lv 2 = [4] ∧ h12.lv 3 = [2, 3, 5] ∧ h12.lv 4 = [2, 3, 5, 39] ∧ h12.lv 5 = [4] ∧ h12.lv 6 = [2, 3, 6] ∧ h12.lv 7 = [2, 3, 6, 45] ∧ h12.lv 8 = [4] ∧ h12.lv 9 = [2, 3, 48, 49, 50] ∧ h12.lv 10 = [2, 3, 48, 49, 50, 51] ∧ h12.lv 11 = [2, 3, 8, 48, 49, 50] ∧ h12.lv 12 = [2, 3, 8, 9, 48, 49, 50] ∧ h12.lv 13 = [2, 3, 8, 9, 48, 49, 50, 60] ∧ h12.lv 14 = [4] ∧ h12.lv 15 = [2, 3, 8, 10, 48, 49, 50] ∧ h12.lv 16 = [2, 3, 8, 10, 48, 49, 50, 66] ∧ h12.lv 17 = [4] ∧ h12.lv 18 = [2, 3, 48, 49, 50, 73] ∧ h12.lv 19 = [4] ∧ h12.lv 20 = [2, 3, 48, 49, 50] ∧ h12.lv 21 = [3, 76, 77, 78] ∧ h12.lv 22 = [3, 76, 77, 78, 79] ∧ h12.lv 23 = [3, 12, 76, 77, 78] ∧ h12.lv 24 = [3, 76, 77, 78, 113] ∧ h12.lv 25 = [4] ∧ h12.lv 26 = [3, 76, 77, 78] ∧ h12.lv 27 = [117] ∧ h12.lv 28 = [4] ∧ h12.lv 29 = [4] := ⟨rfl, rfl, rfl, rfl, rfl, rfl, rfl, rfl, rfl, rfl, rfl, rfl, rfl, rfl, rfl, rfl, rfl, rfl, rfl, rfl, rfl, rfl, rfl, rfl, rfl, rfl, rfl, rfl, rfl, rfl⟩
@[go_sem] theorem h12_g0 : h12.ct 0 = none := rfl
@[go_sem] theorem h12_g1 : h12.ct 1 = none := rfl
@[go_sem] theorem h12_g2 : h12.ct 2 = none := rfl
@[go_sem] theorem h12_g3 : h12.ct 3 = none := rfl
@[go_sem] theorem h12_g4 : h12.ct 4 = none := rfl
@[go_sem] theorem h12_g5 : h12.ct 5 = none := rfl
@[go_sem] theorem h12_g6 : h12.ct 6 = none := rfl
@[go_sem] theorem h12_g7 : h12.ct 7 = none := rfl
@[go_sem] theorem h12_g8 : h12.ct 8 = none := rfl
@[go_sem] theorem h12_g9 : h12.ct 9 = none := rfl
@[go_sem] theorem h12_g10 : h12.ct 10 = none := rfl
@[go_sem] theorem h12_g11 : h12.ct 11 = none := rfl
@[go_sem] theorem h12_g12 : h12.ct 12 = none := rfl
@[go_sem] theorem h12_g13 : h12.ct 13 = none := rfl
@[go_sem] theorem h12_g14 : h12.ct 14 = none := rfl
@[go_sem] theorem h12_g15 : h12.ct 15 = none := rfl
@[go_sem] theorem h12_g16 : h12.ct 16 = none := rfl
@[go_sem] theorem h12_g17 : h12.ct 17 = none := rfl
@[go_sem] theorem h12_g18 : h12.ct 18 = none := rfl
@[go_sem] theorem h12_g19 : h12.ct 19 = none := rfl
@[go_sem] theorem h12_g20 : h12.ct 20 = some 2 := rfl
@[go_sem] theorem h12_g21 : h12.ct 21 = none := rfl
@[go_sem] theorem h12_g22 : h12.ct 22 = none := rfl
@[go_sem] theorem h12_g23 : h12.ct 23 = none := rfl
@[go_sem] theorem h12_g24 : h12.ct 24 = none := rfl
@[go_sem] theorem h12_g25 : h12.ct 25 = none := rfl
@[go_sem] theorem h12_g26 : h12.ct 26 = some 2 := rfl
@[go_sem] theorem h12_g27 : h12.ct 27 = none := rfl
@[go_sem] theorem h12_g28 : h12.ct 28 = none := rfl
@[go_sem] theorem h12_g29 : h12.ct 29 = none := rfl
@[go_sem] theorem h12_z (k : Nat) : h12.at k = [] := rfl
@[go_sem] theorem h12_y (k : Nat) : h12.dn k = false := Eq.trans rfl rfl
theorem h12_d : Tryz.f12.body.any (drawsOk h12) = true := by kernel_rfl
@[go_sem] theorem h12_t : h12.tk = [] ∧ h12.mt = [] ∧ h12.pc = [37, 43, 58, 64, 72, 85, 91, 106, 117] := ⟨rfl, rfl, rfl⟩
theorem call12 : callable Tryz.prog 12 = true := by kernel_rfl
end Go.AI

set_option linter.defProp false
namespace Go.AI
open Go.Proofs
def h3 : Hint := ⟨[(0, [2, 3]), (1, [2, 3, 5]), (2, [2, 3, 5, 14]), (3, [4]), (4, [4])], [], [], [], [6, 8, 12, 20, 23], [], []⟩
@[go_sem] theorem h3_l : h3.lv 0 = [2, 3] ∧ h3.lv 1 = [2, 3, 5] ∧ h3.lv 2 = [2, 3, 5, 14] ∧ h3.lv 3 = [4] ∧ h3.lv 4 = [4] := ⟨rfl, rfl, rfl, rfl, rfl⟩
@[go_sem] def h3_q := hplain h3 rfl rfl rfl
@[go_sem] theorem h3_t : h3.tk = [] ∧ h3.mt = [] ∧ h3.pc = [6, 8, 12, 20, 23] := ⟨rfl, rfl, rfl⟩
theorem h3_d : Tryz.f3.body.any (drawsOk h3) = true := by kernel_rfl
theorem call3 : callable Tryz.prog 3 = true := by kernel_rfl
def h10 : Hint := ⟨[(0, [1]), (1, [1, 3]), (2, [2])], [], [], [], [6, 11, 17], [], []⟩
@[go_sem] theorem h10_l : h10.lv 0 = [1] ∧ h10.lv 1 = [1, 3] ∧ h10.lv 2 = [2] := ⟨rfl, rfl, rfl⟩
@[go_sem] def h10_q := hplain h10 rfl rfl rfl
@[go_sem] theorem h10_t : h10.tk = [] ∧ h10.mt = [] ∧ h10.pc = [6, 11, 17] := ⟨rfl, rfl, rfl⟩
theorem h10_d : Tryz.f10.body.any (drawsOk h10) = true := by kernel_rfl
theorem call10 : callable Tryz.prog 10 = true := by kernel_rfl
end Go.AI
