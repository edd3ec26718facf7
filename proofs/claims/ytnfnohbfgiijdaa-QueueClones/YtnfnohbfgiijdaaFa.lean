/- Closed facts about the program's types and functions. -/
import Derived.Test.YtnfnohbfgiijdaaProg
import Derived.Test.YtnfnohbfgiijdaaAizd
import Derived.KernelRfl
set_option linter.unusedSimpArgs false
set_option linter.unusedVariables false
namespace Go.AI
open Go.Proofs
@[go_sem] theorem cellsOf0 : Try.prog.cellsOf 0 = 1 := by kernel_rfl
@[go_sem] theorem bytesOf0 : Try.prog.bytesOf 0 = 0 := by kernel_rfl
@[go_sem] theorem ldk0 : ldk Try.prog 0 = some none := by kernel_rfl
@[go_sem] theorem aggTy0 : aggTy Try.prog 0 = false := by kernel_rfl
@[go_sem] theorem zeroOk0 : zeroOk Try.prog 0 = true := by kernel_rfl
@[go_sem] theorem info0 : (Try.prog.info? 0).isSome = true := by kernel_rfl
@[go_sem] theorem cellsOf1 : Try.prog.cellsOf 1 = 1 := by kernel_rfl
@[go_sem] theorem bytesOf1 : Try.prog.bytesOf 1 = 8 := by kernel_rfl
@[go_sem] theorem ldk1 : ldk Try.prog 1 = some none := by kernel_rfl
@[go_sem] theorem aggTy1 : aggTy Try.prog 1 = false := by kernel_rfl
@[go_sem] theorem zeroOk1 : zeroOk Try.prog 1 = true := by kernel_rfl
@[go_sem] theorem info1 : (Try.prog.info? 1).isSome = true := by kernel_rfl
@[go_sem] theorem zeroAV1 : zeroAV Try.prog 1 = some (.nilf) := by kernel_rfl
@[go_sem] theorem cellsOf2 : Try.prog.cellsOf 2 = 1 := by kernel_rfl
@[go_sem] theorem bytesOf2 : Try.prog.bytesOf 2 = 8 := by kernel_rfl
@[go_sem] theorem ldk2 : ldk Try.prog 2 = some none := by kernel_rfl
@[go_sem] theorem aggTy2 : aggTy Try.prog 2 = false := by kernel_rfl
@[go_sem] theorem und2 : Try.prog.underlying 2 = some (.int .i64) := by kernel_rfl
@[go_sem] theorem zeroOk2 : zeroOk Try.prog 2 = true := by kernel_rfl
@[go_sem] theorem info2 : (Try.prog.info? 2).isSome = true := by kernel_rfl
@[go_sem] theorem zeroAV2 : zeroAV Try.prog 2 = some (.int .i64 0) := by kernel_rfl
@[go_sem] theorem cellsOf3 : Try.prog.cellsOf 3 = 1 := by kernel_rfl
@[go_sem] theorem bytesOf3 : Try.prog.bytesOf 3 = 8 := by kernel_rfl
@[go_sem] theorem ldk3 : ldk Try.prog 3 = some none := by kernel_rfl
@[go_sem] theorem aggTy3 : aggTy Try.prog 3 = false := by kernel_rfl
@[go_sem] theorem und3 : Try.prog.underlying 3 = some (.int .i64) := by kernel_rfl
@[go_sem] theorem zeroOk3 : zeroOk Try.prog 3 = true := by kernel_rfl
@[go_sem] theorem info3 : (Try.prog.info? 3).isSome = true := by kernel_rfl
@[go_sem] theorem zeroAV3 : zeroAV Try.prog 3 = some (.int .i64 0) := by kernel_rfl
@[go_sem] theorem cellsOf4 : Try.prog.cellsOf 4 = 1 := by kernel_rfl
@[go_sem] theorem bytesOf4 : Try.prog.bytesOf 4 = 1 := by kernel_rfl
@[go_sem] theorem ldk4 : ldk Try.prog 4 = some none := by kernel_rfl
@[go_sem] theorem aggTy4 : aggTy Try.prog 4 = false := by kernel_rfl
@[go_sem] theorem und4 : Try.prog.underlying 4 = some .bool := by kernel_rfl
@[go_sem] theorem isBool4 : isBool Try.prog 4 = true := by kernel_rfl
@[go_sem] theorem zeroOk4 : zeroOk Try.prog 4 = true := by kernel_rfl
@[go_sem] theorem info4 : (Try.prog.info? 4).isSome = true := by kernel_rfl
@[go_sem] theorem zeroAV4 : zeroAV Try.prog 4 = some (.bool false) := by kernel_rfl
@[go_sem] theorem cellsOf5 : Try.prog.cellsOf 5 = 1 := by kernel_rfl
@[go_sem] theorem bytesOf5 : Try.prog.bytesOf 5 = 1 := by kernel_rfl
@[go_sem] theorem ldk5 : ldk Try.prog 5 = some none := by kernel_rfl
@[go_sem] theorem aggTy5 : aggTy Try.prog 5 = false := by kernel_rfl
@[go_sem] theorem und5 : Try.prog.underlying 5 = some (.int .u8) := by kernel_rfl
@[go_sem] theorem zeroOk5 : zeroOk Try.prog 5 = true := by kernel_rfl
@[go_sem] theorem info5 : (Try.prog.info? 5).isSome = true := by kernel_rfl
@[go_sem] theorem zeroAV5 : zeroAV Try.prog 5 = some (.int .u8 0) := by kernel_rfl
@[go_sem] theorem cellsOf6 : Try.prog.cellsOf 6 = 1 := by kernel_rfl
@[go_sem] theorem bytesOf6 : Try.prog.bytesOf 6 = 1 := by kernel_rfl
@[go_sem] theorem ldk6 : ldk Try.prog 6 = some none := by kernel_rfl
@[go_sem] theorem aggTy6 : aggTy Try.prog 6 = false := by kernel_rfl
@[go_sem] theorem und6 : Try.prog.underlying 6 = some (.int .u8) := by kernel_rfl
@[go_sem] theorem zeroOk6 : zeroOk Try.prog 6 = true := by kernel_rfl
@[go_sem] theorem info6 : (Try.prog.info? 6).isSome = true := by kernel_rfl
@[go_sem] theorem zeroAV6 : zeroAV Try.prog 6 = some (.int .u8 0) := by kernel_rfl
@[go_sem] theorem cellsOf7 : Try.prog.cellsOf 7 = 4 := by kernel_rfl
@[go_sem] theorem bytesOf7 : Try.prog.bytesOf 7 = 24 := by kernel_rfl
@[go_sem] theorem ldk7 : ldk Try.prog 7 = some (some 4) := by kernel_rfl
@[go_sem] theorem aggTy7 : aggTy Try.prog 7 = true := by kernel_rfl
@[go_sem] theorem zeroOk7 : zeroOk Try.prog 7 = true := by kernel_rfl
@[go_sem] theorem info7 : (Try.prog.info? 7).isSome = true := by kernel_rfl
@[go_sem] theorem bkind7 : bkind Try.prog 7 = .struct [(0, 1), (1, 1), (2, 1), (3, 1)] := by kernel_rfl
@[go_sem] theorem fplace7_0 : fplace Try.prog 7 0 = some (2, 0) := by kernel_rfl
@[go_sem] theorem fplace7_1 : fplace Try.prog 7 1 = some (3, 1) := by kernel_rfl
@[go_sem] theorem fplace7_2 : fplace Try.prog 7 2 = some (4, 2) := by kernel_rfl
@[go_sem] theorem fplace7_3 : fplace Try.prog 7 3 = some (6, 3) := by kernel_rfl
@[go_sem] theorem zeroAV7 : zeroAV Try.prog 7 = some (.agg [.int .i64 0, .int .i64 0, .bool false, .int .u8 0]) := by kernel_rfl
@[go_sem] theorem cellsOf8 : Try.prog.cellsOf 8 = 4 := by kernel_rfl
@[go_sem] theorem bytesOf8 : Try.prog.bytesOf 8 = 24 := by kernel_rfl
@[go_sem] theorem ldk8 : ldk Try.prog 8 = some (some 4) := by kernel_rfl
@[go_sem] theorem aggTy8 : aggTy Try.prog 8 = true := by kernel_rfl
@[go_sem] theorem zeroOk8 : zeroOk Try.prog 8 = true := by kernel_rfl
@[go_sem] theorem info8 : (Try.prog.info? 8).isSome = true := by kernel_rfl
@[go_sem] theorem bkind8 : bkind Try.prog 8 = .struct [(0, 1), (1, 1), (2, 1), (3, 1)] := by kernel_rfl
@[go_sem] theorem fplace8_0 : fplace Try.prog 8 0 = some (2, 0) := by kernel_rfl
@[go_sem] theorem fplace8_1 : fplace Try.prog 8 1 = some (3, 1) := by kernel_rfl
@[go_sem] theorem fplace8_2 : fplace Try.prog 8 2 = some (4, 2) := by kernel_rfl
@[go_sem] theorem fplace8_3 : fplace Try.prog 8 3 = some (6, 3) := by kernel_rfl
@[go_sem] theorem zeroAV8 : zeroAV Try.prog 8 = some (.agg [.int .i64 0, .int .i64 0, .bool false, .int .u8 0]) := by kernel_rfl
@[go_sem] theorem cellsOf9 : Try.prog.cellsOf 9 = 1 := by kernel_rfl
@[go_sem] theorem bytesOf9 : Try.prog.bytesOf 9 = 16 := by kernel_rfl
@[go_sem] theorem ldk9 : ldk Try.prog 9 = some none := by kernel_rfl
@[go_sem] theorem aggTy9 : aggTy Try.prog 9 = false := by kernel_rfl
@[go_sem] theorem und9 : Try.prog.underlying 9 = some .string := by kernel_rfl
@[go_sem] theorem zeroOk9 : zeroOk Try.prog 9 = true := by kernel_rfl
@[go_sem] theorem info9 : (Try.prog.info? 9).isSome = true := by kernel_rfl
@[go_sem] theorem zeroAV9 : zeroAV Try.prog 9 = some (.str ByteArray.empty) := by kernel_rfl
@[go_sem] theorem cellsOf10 : Try.prog.cellsOf 10 = 1 := by kernel_rfl
@[go_sem] theorem bytesOf10 : Try.prog.bytesOf 10 = 16 := by kernel_rfl
@[go_sem] theorem ldk10 : ldk Try.prog 10 = some none := by kernel_rfl
@[go_sem] theorem aggTy10 : aggTy Try.prog 10 = false := by kernel_rfl
@[go_sem] theorem und10 : Try.prog.underlying 10 = some .string := by kernel_rfl
@[go_sem] theorem zeroOk10 : zeroOk Try.prog 10 = true := by kernel_rfl
@[go_sem] theorem info10 : (Try.prog.info? 10).isSome = true := by kernel_rfl
@[go_sem] theorem zeroAV10 : zeroAV Try.prog 10 = some (.str ByteArray.empty) := by kernel_rfl
@[go_sem] theorem cellsOf11 : Try.prog.cellsOf 11 = 1 := by kernel_rfl
@[go_sem] theorem bytesOf11 : Try.prog.bytesOf 11 = 16 := by kernel_rfl
@[go_sem] theorem ldk11 : ldk Try.prog 11 = some none := by kernel_rfl
@[go_sem] theorem aggTy11 : aggTy Try.prog 11 = false := by kernel_rfl
@[go_sem] theorem und11 : Try.prog.underlying 11 = some .string := by kernel_rfl
@[go_sem] theorem zeroOk11 : zeroOk Try.prog 11 = true := by kernel_rfl
@[go_sem] theorem info11 : (Try.prog.info? 11).isSome = true := by kernel_rfl
@[go_sem] theorem zeroAV11 : zeroAV Try.prog 11 = some (.str ByteArray.empty) := by kernel_rfl
@[go_sem] theorem cellsOf12 : Try.prog.cellsOf 12 = 1 := by kernel_rfl
@[go_sem] theorem bytesOf12 : Try.prog.bytesOf 12 = 8 := by kernel_rfl
@[go_sem] theorem ldk12 : ldk Try.prog 12 = some none := by kernel_rfl
@[go_sem] theorem aggTy12 : aggTy Try.prog 12 = false := by kernel_rfl
@[go_sem] theorem und12 : Try.prog.underlying 12 = some (.int .u64) := by kernel_rfl
@[go_sem] theorem zeroOk12 : zeroOk Try.prog 12 = true := by kernel_rfl
@[go_sem] theorem info12 : (Try.prog.info? 12).isSome = true := by kernel_rfl
@[go_sem] theorem zeroAV12 : zeroAV Try.prog 12 = some (.int .u64 0) := by kernel_rfl
@[go_sem] theorem cellsOf13 : Try.prog.cellsOf 13 = 2 := by kernel_rfl
@[go_sem] theorem bytesOf13 : Try.prog.bytesOf 13 = 24 := by kernel_rfl
@[go_sem] theorem ldk13 : ldk Try.prog 13 = some (some 2) := by kernel_rfl
@[go_sem] theorem aggTy13 : aggTy Try.prog 13 = true := by kernel_rfl
@[go_sem] theorem zeroOk13 : zeroOk Try.prog 13 = true := by kernel_rfl
@[go_sem] theorem info13 : (Try.prog.info? 13).isSome = true := by kernel_rfl
@[go_sem] theorem bkind13 : bkind Try.prog 13 = .struct [(0, 1), (1, 1)] := by kernel_rfl
@[go_sem] theorem fplace13_0 : fplace Try.prog 13 0 = some (9, 0) := by kernel_rfl
@[go_sem] theorem fplace13_1 : fplace Try.prog 13 1 = some (12, 1) := by kernel_rfl
@[go_sem] theorem zeroAV13 : zeroAV Try.prog 13 = some (.agg [.str ByteArray.empty, .int .u64 0]) := by kernel_rfl
@[go_sem] theorem cellsOf14 : Try.prog.cellsOf 14 = 2 := by kernel_rfl
@[go_sem] theorem bytesOf14 : Try.prog.bytesOf 14 = 24 := by kernel_rfl
@[go_sem] theorem ldk14 : ldk Try.prog 14 = some (some 2) := by kernel_rfl
@[go_sem] theorem aggTy14 : aggTy Try.prog 14 = true := by kernel_rfl
@[go_sem] theorem zeroOk14 : zeroOk Try.prog 14 = true := by kernel_rfl
@[go_sem] theorem info14 : (Try.prog.info? 14).isSome = true := by kernel_rfl
@[go_sem] theorem bkind14 : bkind Try.prog 14 = .struct [(0, 1), (1, 1)] := by kernel_rfl
@[go_sem] theorem fplace14_0 : fplace Try.prog 14 0 = some (9, 0) := by kernel_rfl
@[go_sem] theorem fplace14_1 : fplace Try.prog 14 1 = some (12, 1) := by kernel_rfl
@[go_sem] theorem zeroAV14 : zeroAV Try.prog 14 = some (.agg [.str ByteArray.empty, .int .u64 0]) := by kernel_rfl
@[go_sem] theorem cellsOf15 : Try.prog.cellsOf 15 = 1 := by kernel_rfl
@[go_sem] theorem bytesOf15 : Try.prog.bytesOf 15 = 8 := by kernel_rfl
@[go_sem] theorem ldk15 : ldk Try.prog 15 = some none := by kernel_rfl
@[go_sem] theorem aggTy15 : aggTy Try.prog 15 = false := by kernel_rfl
@[go_sem] theorem isPtr15 : isPtr Try.prog 15 = true := by kernel_rfl
@[go_sem] theorem und15 : Try.prog.underlying 15 = some (.pointer 127) := by kernel_rfl
@[go_sem] theorem zeroOk15 : zeroOk Try.prog 15 = true := by kernel_rfl
@[go_sem] theorem info15 : (Try.prog.info? 15).isSome = true := by kernel_rfl
@[go_sem] theorem zeroAV15 : zeroAV Try.prog 15 = some (.nilp) := by kernel_rfl
@[go_sem] theorem cellsOf16 : Try.prog.cellsOf 16 = 1 := by kernel_rfl
@[go_sem] theorem bytesOf16 : Try.prog.bytesOf 16 = 8 := by kernel_rfl
@[go_sem] theorem ldk16 : ldk Try.prog 16 = some none := by kernel_rfl
@[go_sem] theorem aggTy16 : aggTy Try.prog 16 = false := by kernel_rfl
@[go_sem] theorem isPtr16 : isPtr Try.prog 16 = true := by kernel_rfl
@[go_sem] theorem und16 : Try.prog.underlying 16 = some (.pointer 130) := by kernel_rfl
@[go_sem] theorem zeroOk16 : zeroOk Try.prog 16 = true := by kernel_rfl
@[go_sem] theorem info16 : (Try.prog.info? 16).isSome = true := by kernel_rfl
@[go_sem] theorem zeroAV16 : zeroAV Try.prog 16 = some (.nilp) := by kernel_rfl
@[go_sem] theorem cellsOf17 : Try.prog.cellsOf 17 = 1 := by kernel_rfl
@[go_sem] theorem bytesOf17 : Try.prog.bytesOf 17 = 8 := by kernel_rfl
@[go_sem] theorem ldk17 : ldk Try.prog 17 = some none := by kernel_rfl
@[go_sem] theorem aggTy17 : aggTy Try.prog 17 = false := by kernel_rfl
@[go_sem] theorem isPtr17 : isPtr Try.prog 17 = true := by kernel_rfl
@[go_sem] theorem und17 : Try.prog.underlying 17 = some (.pointer 139) := by kernel_rfl
@[go_sem] theorem zeroOk17 : zeroOk Try.prog 17 = true := by kernel_rfl
@[go_sem] theorem info17 : (Try.prog.info? 17).isSome = true := by kernel_rfl
@[go_sem] theorem zeroAV17 : zeroAV Try.prog 17 = some (.nilp) := by kernel_rfl
@[go_sem] theorem cellsOf18 : Try.prog.cellsOf 18 = 1 := by kernel_rfl
@[go_sem] theorem bytesOf18 : Try.prog.bytesOf 18 = 8 := by kernel_rfl
@[go_sem] theorem ldk18 : ldk Try.prog 18 = some (some 1) := by kernel_rfl
@[go_sem] theorem aggTy18 : aggTy Try.prog 18 = true := by kernel_rfl
@[go_sem] theorem zeroOk18 : zeroOk Try.prog 18 = true := by kernel_rfl
@[go_sem] theorem info18 : (Try.prog.info? 18).isSome = true := by kernel_rfl
@[go_sem] theorem bkind18 : bkind Try.prog 18 = .struct [(0, 1)] := by kernel_rfl
@[go_sem] theorem fplace18_0 : fplace Try.prog 18 0 = some (17, 0) := by kernel_rfl
@[go_sem] theorem zeroAV18 : zeroAV Try.prog 18 = some (.agg [.nilp]) := by kernel_rfl
@[go_sem] theorem cellsOf19 : Try.prog.cellsOf 19 = 1 := by kernel_rfl
@[go_sem] theorem bytesOf19 : Try.prog.bytesOf 19 = 8 := by kernel_rfl
@[go_sem] theorem ldk19 : ldk Try.prog 19 = some (some 1) := by kernel_rfl
@[go_sem] theorem aggTy19 : aggTy Try.prog 19 = true := by kernel_rfl
@[go_sem] theorem zeroOk19 : zeroOk Try.prog 19 = true := by kernel_rfl
@[go_sem] theorem info19 : (Try.prog.info? 19).isSome = true := by kernel_rfl
@[go_sem] theorem bkind19 : bkind Try.prog 19 = .struct [(0, 1)] := by kernel_rfl
@[go_sem] theorem fplace19_0 : fplace Try.prog 19 0 = some (17, 0) := by kernel_rfl
@[go_sem] theorem zeroAV19 : zeroAV Try.prog 19 = some (.agg [.nilp]) := by kernel_rfl
@[go_sem] theorem cellsOf20 : Try.prog.cellsOf 20 = 1 := by kernel_rfl
@[go_sem] theorem bytesOf20 : Try.prog.bytesOf 20 = 16 := by kernel_rfl
@[go_sem] theorem ldk20 : ldk Try.prog 20 = some none := by kernel_rfl
@[go_sem] theorem aggTy20 : aggTy Try.prog 20 = false := by kernel_rfl
@[go_sem] theorem zeroOk20 : zeroOk Try.prog 20 = true := by kernel_rfl
@[go_sem] theorem info20 : (Try.prog.info? 20).isSome = true := by kernel_rfl
@[go_sem] theorem cellsOf21 : Try.prog.cellsOf 21 = 1 := by kernel_rfl
@[go_sem] theorem bytesOf21 : Try.prog.bytesOf 21 = 4 := by kernel_rfl
@[go_sem] theorem ldk21 : ldk Try.prog 21 = some none := by kernel_rfl
@[go_sem] theorem aggTy21 : aggTy Try.prog 21 = false := by kernel_rfl
@[go_sem] theorem und21 : Try.prog.underlying 21 = some (.int .i32) := by kernel_rfl
@[go_sem] theorem zeroOk21 : zeroOk Try.prog 21 = true := by kernel_rfl
@[go_sem] theorem info21 : (Try.prog.info? 21).isSome = true := by kernel_rfl
@[go_sem] theorem zeroAV21 : zeroAV Try.prog 21 = some (.int .i32 0) := by kernel_rfl
@[go_sem] theorem cellsOf22 : Try.prog.cellsOf 22 = 1 := by kernel_rfl
@[go_sem] theorem bytesOf22 : Try.prog.bytesOf 22 = 24 := by kernel_rfl
@[go_sem] theorem ldk22 : ldk Try.prog 22 = some none := by kernel_rfl
@[go_sem] theorem aggTy22 : aggTy Try.prog 22 = false := by kernel_rfl
@[go_sem] theorem und22 : Try.prog.underlying 22 = some (.slice 111) := by kernel_rfl
@[go_sem] theorem isSl22 : isSl Try.prog 22 = true := by kernel_rfl
@[go_sem] theorem zeroOk22 : zeroOk Try.prog 22 = true := by kernel_rfl
@[go_sem] theorem info22 : (Try.prog.info? 22).isSome = true := by kernel_rfl
@[go_sem] theorem zeroAV22 : zeroAV Try.prog 22 = some (.sl (some 4) []) := by kernel_rfl
@[go_sem] theorem cellsOf23 : Try.prog.cellsOf 23 = 1 := by kernel_rfl
@[go_sem] theorem bytesOf23 : Try.prog.bytesOf 23 = 24 := by kernel_rfl
@[go_sem] theorem ldk23 : ldk Try.prog 23 = some none := by kernel_rfl
@[go_sem] theorem aggTy23 : aggTy Try.prog 23 = false := by kernel_rfl
@[go_sem] theorem und23 : Try.prog.underlying 23 = some (.slice 65) := by kernel_rfl
@[go_sem] theorem isSl23 : isSl Try.prog 23 = true := by kernel_rfl
@[go_sem] theorem zeroOk23 : zeroOk Try.prog 23 = true := by kernel_rfl
@[go_sem] theorem info23 : (Try.prog.info? 23).isSome = true := by kernel_rfl
@[go_sem] theorem zeroAV23 : zeroAV Try.prog 23 = some (.sl (some 3) []) := by kernel_rfl
@[go_sem] theorem cellsOf24 : Try.prog.cellsOf 24 = 1 := by kernel_rfl
@[go_sem] theorem bytesOf24 : Try.prog.bytesOf 24 = 24 := by kernel_rfl
@[go_sem] theorem ldk24 : ldk Try.prog 24 = some none := by kernel_rfl
@[go_sem] theorem aggTy24 : aggTy Try.prog 24 = false := by kernel_rfl
@[go_sem] theorem und24 : Try.prog.underlying 24 = some (.slice 114) := by kernel_rfl
@[go_sem] theorem isSl24 : isSl Try.prog 24 = true := by kernel_rfl
@[go_sem] theorem zeroOk24 : zeroOk Try.prog 24 = true := by kernel_rfl
@[go_sem] theorem info24 : (Try.prog.info? 24).isSome = true := by kernel_rfl
@[go_sem] theorem zeroAV24 : zeroAV Try.prog 24 = some (.sl (some 2) []) := by kernel_rfl
@[go_sem] theorem cellsOf25 : Try.prog.cellsOf 25 = 3 := by kernel_rfl
@[go_sem] theorem bytesOf25 : Try.prog.bytesOf 25 = 72 := by kernel_rfl
@[go_sem] theorem ldk25 : ldk Try.prog 25 = some (some 3) := by kernel_rfl
@[go_sem] theorem aggTy25 : aggTy Try.prog 25 = true := by kernel_rfl
@[go_sem] theorem zeroOk25 : zeroOk Try.prog 25 = true := by kernel_rfl
@[go_sem] theorem info25 : (Try.prog.info? 25).isSome = true := by kernel_rfl
@[go_sem] theorem bkind25 : bkind Try.prog 25 = .struct [(0, 1), (1, 1), (2, 1)] := by kernel_rfl
@[go_sem] theorem fplace25_0 : fplace Try.prog 25 0 = some (22, 0) := by kernel_rfl
@[go_sem] theorem fplace25_1 : fplace Try.prog 25 1 = some (23, 1) := by kernel_rfl
@[go_sem] theorem fplace25_2 : fplace Try.prog 25 2 = some (24, 2) := by kernel_rfl
@[go_sem] theorem zeroAV25 : zeroAV Try.prog 25 = some (.agg [.sl (some 4) [], .sl (some 3) [], .sl (some 2) []]) := by kernel_rfl
@[go_sem] theorem cellsOf26 : Try.prog.cellsOf 26 = 3 := by kernel_rfl
@[go_sem] theorem bytesOf26 : Try.prog.bytesOf 26 = 72 := by kernel_rfl
@[go_sem] theorem ldk26 : ldk Try.prog 26 = some (some 3) := by kernel_rfl
@[go_sem] theorem aggTy26 : aggTy Try.prog 26 = true := by kernel_rfl
@[go_sem] theorem zeroOk26 : zeroOk Try.prog 26 = true := by kernel_rfl
@[go_sem] theorem info26 : (Try.prog.info? 26).isSome = true := by kernel_rfl
@[go_sem] theorem bkind26 : bkind Try.prog 26 = .struct [(0, 1), (1, 1), (2, 1)] := by kernel_rfl
@[go_sem] theorem fplace26_0 : fplace Try.prog 26 0 = some (22, 0) := by kernel_rfl
@[go_sem] theorem fplace26_1 : fplace Try.prog 26 1 = some (23, 1) := by kernel_rfl
@[go_sem] theorem fplace26_2 : fplace Try.prog 26 2 = some (24, 2) := by kernel_rfl
@[go_sem] theorem cellsOf27 : Try.prog.cellsOf 27 = 1 := by kernel_rfl
@[go_sem] theorem bytesOf27 : Try.prog.bytesOf 27 = 24 := by kernel_rfl
@[go_sem] theorem ldk27 : ldk Try.prog 27 = some none := by kernel_rfl
@[go_sem] theorem aggTy27 : aggTy Try.prog 27 = false := by kernel_rfl
@[go_sem] theorem und27 : Try.prog.underlying 27 = some (.slice 3) := by kernel_rfl
@[go_sem] theorem isSl27 : isSl Try.prog 27 = true := by kernel_rfl
@[go_sem] theorem zeroOk27 : zeroOk Try.prog 27 = true := by kernel_rfl
@[go_sem] theorem info27 : (Try.prog.info? 27).isSome = true := by kernel_rfl
@[go_sem] theorem zeroAV27 : zeroAV Try.prog 27 = some (.sl (some 1) []) := by kernel_rfl
@[go_sem] theorem cellsOf28 : Try.prog.cellsOf 28 = 1 := by kernel_rfl
@[go_sem] theorem bytesOf28 : Try.prog.bytesOf 28 = 24 := by kernel_rfl
@[go_sem] theorem ldk28 : ldk Try.prog 28 = some none := by kernel_rfl
@[go_sem] theorem aggTy28 : aggTy Try.prog 28 = false := by kernel_rfl
@[go_sem] theorem und28 : Try.prog.underlying 28 = some (.slice 47) := by kernel_rfl
@[go_sem] theorem isSl28 : isSl Try.prog 28 = true := by kernel_rfl
@[go_sem] theorem zeroOk28 : zeroOk Try.prog 28 = true := by kernel_rfl
@[go_sem] theorem info28 : (Try.prog.info? 28).isSome = true := by kernel_rfl
@[go_sem] theorem zeroAV28 : zeroAV Try.prog 28 = some (.sl (some 13) []) := by kernel_rfl
@[go_sem] theorem cellsOf29 : Try.prog.cellsOf 29 = 6 := by kernel_rfl
@[go_sem] theorem bytesOf29 : Try.prog.bytesOf 29 = 128 := by kernel_rfl
@[go_sem] theorem ldk29 : ldk Try.prog 29 = some (some 6) := by kernel_rfl
@[go_sem] theorem aggTy29 : aggTy Try.prog 29 = true := by kernel_rfl
@[go_sem] theorem zeroOk29 : zeroOk Try.prog 29 = true := by kernel_rfl
@[go_sem] theorem info29 : (Try.prog.info? 29).isSome = true := by kernel_rfl
@[go_sem] theorem bkind29 : bkind Try.prog 29 = .struct [(0, 3), (3, 1), (4, 1), (5, 1)] := by kernel_rfl
@[go_sem] theorem fplace29_0 : fplace Try.prog 29 0 = some (26, 0) := by kernel_rfl
@[go_sem] theorem fplace29_1 : fplace Try.prog 29 1 = some (27, 3) := by kernel_rfl
@[go_sem] theorem fplace29_2 : fplace Try.prog 29 2 = some (3, 4) := by kernel_rfl
@[go_sem] theorem fplace29_3 : fplace Try.prog 29 3 = some (28, 5) := by kernel_rfl
@[go_sem] theorem zeroAV29 : zeroAV Try.prog 29 = some (.agg [.sl (some 4) [], .sl (some 3) [], .sl (some 2) [], .sl (some 1) [], .int .i64 0, .sl (some 13) []]) := by kernel_rfl
@[go_sem] theorem cellsOf30 : Try.prog.cellsOf 30 = 6 := by kernel_rfl
@[go_sem] theorem bytesOf30 : Try.prog.bytesOf 30 = 128 := by kernel_rfl
@[go_sem] theorem ldk30 : ldk Try.prog 30 = some (some 6) := by kernel_rfl
@[go_sem] theorem aggTy30 : aggTy Try.prog 30 = true := by kernel_rfl
@[go_sem] theorem zeroOk30 : zeroOk Try.prog 30 = true := by kernel_rfl
@[go_sem] theorem info30 : (Try.prog.info? 30).isSome = true := by kernel_rfl
@[go_sem] theorem bkind30 : bkind Try.prog 30 = .struct [(0, 3), (3, 1), (4, 1), (5, 1)] := by kernel_rfl
@[go_sem] theorem fplace30_0 : fplace Try.prog 30 0 = some (26, 0) := by kernel_rfl
@[go_sem] theorem fplace30_1 : fplace Try.prog 30 1 = some (27, 3) := by kernel_rfl
@[go_sem] theorem fplace30_2 : fplace Try.prog 30 2 = some (3, 4) := by kernel_rfl
@[go_sem] theorem fplace30_3 : fplace Try.prog 30 3 = some (28, 5) := by kernel_rfl
@[go_sem] theorem cellsOf31 : Try.prog.cellsOf 31 = 1 := by kernel_rfl
@[go_sem] theorem bytesOf31 : Try.prog.bytesOf 31 = 8 := by kernel_rfl
@[go_sem] theorem ldk31 : ldk Try.prog 31 = some none := by kernel_rfl
@[go_sem] theorem aggTy31 : aggTy Try.prog 31 = false := by kernel_rfl
@[go_sem] theorem zeroOk31 : zeroOk Try.prog 31 = true := by kernel_rfl
@[go_sem] theorem info31 : (Try.prog.info? 31).isSome = true := by kernel_rfl
@[go_sem] theorem zeroAV31 : zeroAV Try.prog 31 = some (.nilf) := by kernel_rfl
@[go_sem] theorem cellsOf32 : Try.prog.cellsOf 32 = 1 := by kernel_rfl
@[go_sem] theorem bytesOf32 : Try.prog.bytesOf 32 = 8 := by kernel_rfl
@[go_sem] theorem ldk32 : ldk Try.prog 32 = some none := by kernel_rfl
@[go_sem] theorem aggTy32 : aggTy Try.prog 32 = false := by kernel_rfl
@[go_sem] theorem zeroOk32 : zeroOk Try.prog 32 = true := by kernel_rfl
@[go_sem] theorem info32 : (Try.prog.info? 32).isSome = true := by kernel_rfl
@[go_sem] theorem zeroAV32 : zeroAV Try.prog 32 = some (.nilf) := by kernel_rfl
@[go_sem] theorem cellsOf33 : Try.prog.cellsOf 33 = 1 := by kernel_rfl
@[go_sem] theorem bytesOf33 : Try.prog.bytesOf 33 = 8 := by kernel_rfl
@[go_sem] theorem ldk33 : ldk Try.prog 33 = some none := by kernel_rfl
@[go_sem] theorem aggTy33 : aggTy Try.prog 33 = false := by kernel_rfl
@[go_sem] theorem isPtr33 : isPtr Try.prog 33 = true := by kernel_rfl
@[go_sem] theorem und33 : Try.prog.underlying 33 = some (.pointer 82) := by kernel_rfl
@[go_sem] theorem zeroOk33 : zeroOk Try.prog 33 = true := by kernel_rfl
@[go_sem] theorem info33 : (Try.prog.info? 33).isSome = true := by kernel_rfl
@[go_sem] theorem zeroAV33 : zeroAV Try.prog 33 = some (.nilp) := by kernel_rfl
@[go_sem] theorem cellsOf34 : Try.prog.cellsOf 34 = 1 := by kernel_rfl
@[go_sem] theorem bytesOf34 : Try.prog.bytesOf 34 = 8 := by kernel_rfl
@[go_sem] theorem ldk34 : ldk Try.prog 34 = some none := by kernel_rfl
@[go_sem] theorem aggTy34 : aggTy Try.prog 34 = false := by kernel_rfl
@[go_sem] theorem und34 : Try.prog.underlying 34 = some (.int .i64) := by kernel_rfl
@[go_sem] theorem zeroOk34 : zeroOk Try.prog 34 = true := by kernel_rfl
@[go_sem] theorem info34 : (Try.prog.info? 34).isSome = true := by kernel_rfl
@[go_sem] theorem zeroAV34 : zeroAV Try.prog 34 = some (.int .i64 0) := by kernel_rfl
@[go_sem] theorem cellsOf35 : Try.prog.cellsOf 35 = 1 := by kernel_rfl
@[go_sem] theorem bytesOf35 : Try.prog.bytesOf 35 = 0 := by kernel_rfl
@[go_sem] theorem ldk35 : ldk Try.prog 35 = some none := by kernel_rfl
@[go_sem] theorem aggTy35 : aggTy Try.prog 35 = false := by kernel_rfl
@[go_sem] theorem zeroOk35 : zeroOk Try.prog 35 = true := by kernel_rfl
@[go_sem] theorem info35 : (Try.prog.info? 35).isSome = true := by kernel_rfl
@[go_sem] theorem cellsOf36 : Try.prog.cellsOf 36 = 1 := by kernel_rfl
@[go_sem] theorem bytesOf36 : Try.prog.bytesOf 36 = 8 := by kernel_rfl
@[go_sem] theorem ldk36 : ldk Try.prog 36 = some none := by kernel_rfl
@[go_sem] theorem aggTy36 : aggTy Try.prog 36 = false := by kernel_rfl
@[go_sem] theorem zeroOk36 : zeroOk Try.prog 36 = true := by kernel_rfl
@[go_sem] theorem info36 : (Try.prog.info? 36).isSome = true := by kernel_rfl
@[go_sem] theorem zeroAV36 : zeroAV Try.prog 36 = some (.nilf) := by kernel_rfl
@[go_sem] theorem cellsOf37 : Try.prog.cellsOf 37 = 1 := by kernel_rfl
@[go_sem] theorem bytesOf37 : Try.prog.bytesOf 37 = 24 := by kernel_rfl
@[go_sem] theorem ldk37 : ldk Try.prog 37 = some none := by kernel_rfl
@[go_sem] theorem aggTy37 : aggTy Try.prog 37 = false := by kernel_rfl
@[go_sem] theorem und37 : Try.prog.underlying 37 = some (.slice 90) := by kernel_rfl
@[go_sem] theorem isSl37 : isSl Try.prog 37 = true := by kernel_rfl
@[go_sem] theorem zeroOk37 : zeroOk Try.prog 37 = true := by kernel_rfl
@[go_sem] theorem info37 : (Try.prog.info? 37).isSome = true := by kernel_rfl
@[go_sem] theorem zeroAV37 : zeroAV Try.prog 37 = some (.sl (some 8) []) := by kernel_rfl
@[go_sem] theorem cellsOf38 : Try.prog.cellsOf 38 = 7 := by kernel_rfl
@[go_sem] theorem bytesOf38 : Try.prog.bytesOf 38 = 136 := by kernel_rfl
@[go_sem] theorem ldk38 : ldk Try.prog 38 = some (some 7) := by kernel_rfl
@[go_sem] theorem aggTy38 : aggTy Try.prog 38 = true := by kernel_rfl
@[go_sem] theorem zeroOk38 : zeroOk Try.prog 38 = true := by kernel_rfl
@[go_sem] theorem info38 : (Try.prog.info? 38).isSome = true := by kernel_rfl
@[go_sem] theorem bkind38 : bkind Try.prog 38 = .struct [(0, 3), (3, 1), (4, 1), (5, 1), (6, 1)] := by kernel_rfl
@[go_sem] theorem fplace38_0 : fplace Try.prog 38 0 = some (26, 0) := by kernel_rfl
@[go_sem] theorem fplace38_1 : fplace Try.prog 38 1 = some (27, 3) := by kernel_rfl
@[go_sem] theorem fplace38_2 : fplace Try.prog 38 2 = some (3, 4) := by kernel_rfl
@[go_sem] theorem fplace38_3 : fplace Try.prog 38 3 = some (3, 5) := by kernel_rfl
@[go_sem] theorem fplace38_4 : fplace Try.prog 38 4 = some (37, 6) := by kernel_rfl
@[go_sem] theorem zeroAV38 : zeroAV Try.prog 38 = some (.agg [.sl (some 4) [], .sl (some 3) [], .sl (some 2) [], .sl (some 1) [], .int .i64 0, .int .i64 0, .sl (some 8) []]) := by kernel_rfl
@[go_sem] theorem cellsOf39 : Try.prog.cellsOf 39 = 7 := by kernel_rfl
@[go_sem] theorem bytesOf39 : Try.prog.bytesOf 39 = 136 := by kernel_rfl
@[go_sem] theorem ldk39 : ldk Try.prog 39 = some (some 7) := by kernel_rfl
@[go_sem] theorem aggTy39 : aggTy Try.prog 39 = true := by kernel_rfl
@[go_sem] theorem zeroOk39 : zeroOk Try.prog 39 = true := by kernel_rfl
@[go_sem] theorem info39 : (Try.prog.info? 39).isSome = true := by kernel_rfl
@[go_sem] theorem bkind39 : bkind Try.prog 39 = .struct [(0, 3), (3, 1), (4, 1), (5, 1), (6, 1)] := by kernel_rfl
@[go_sem] theorem fplace39_0 : fplace Try.prog 39 0 = some (26, 0) := by kernel_rfl
@[go_sem] theorem fplace39_1 : fplace Try.prog 39 1 = some (27, 3) := by kernel_rfl
@[go_sem] theorem fplace39_2 : fplace Try.prog 39 2 = some (3, 4) := by kernel_rfl
@[go_sem] theorem fplace39_3 : fplace Try.prog 39 3 = some (3, 5) := by kernel_rfl
@[go_sem] theorem fplace39_4 : fplace Try.prog 39 4 = some (37, 6) := by kernel_rfl
@[go_sem] theorem cellsOf40 : Try.prog.cellsOf 40 = 1 := by kernel_rfl
@[go_sem] theorem bytesOf40 : Try.prog.bytesOf 40 = 0 := by kernel_rfl
@[go_sem] theorem ldk40 : ldk Try.prog 40 = some none := by kernel_rfl
@[go_sem] theorem aggTy40 : aggTy Try.prog 40 = false := by kernel_rfl
@[go_sem] theorem zeroOk40 : zeroOk Try.prog 40 = true := by kernel_rfl
@[go_sem] theorem info40 : (Try.prog.info? 40).isSome = true := by kernel_rfl
@[go_sem] theorem cellsOf41 : Try.prog.cellsOf 41 = 1 := by kernel_rfl
@[go_sem] theorem bytesOf41 : Try.prog.bytesOf 41 = 8 := by kernel_rfl
@[go_sem] theorem ldk41 : ldk Try.prog 41 = some none := by kernel_rfl
@[go_sem] theorem aggTy41 : aggTy Try.prog 41 = false := by kernel_rfl
@[go_sem] theorem zeroOk41 : zeroOk Try.prog 41 = true := by kernel_rfl
@[go_sem] theorem info41 : (Try.prog.info? 41).isSome = true := by kernel_rfl
@[go_sem] theorem zeroAV41 : zeroAV Try.prog 41 = some (.nilf) := by kernel_rfl
@[go_sem] theorem cellsOf42 : Try.prog.cellsOf 42 = 10 := by kernel_rfl
@[go_sem] theorem bytesOf42 : Try.prog.bytesOf 42 = 80 := by kernel_rfl
@[go_sem] theorem ldk42 : ldk Try.prog 42 = some (some 10) := by kernel_rfl
@[go_sem] theorem aggTy42 : aggTy Try.prog 42 = true := by kernel_rfl
@[go_sem] theorem und42 : Try.prog.underlying 42 = some (.array 10 3) := by kernel_rfl
@[go_sem] theorem zeroOk42 : zeroOk Try.prog 42 = true := by kernel_rfl
@[go_sem] theorem info42 : (Try.prog.info? 42).isSome = true := by kernel_rfl
@[go_sem] theorem bkind42 : bkind Try.prog 42 = .array 1 := by kernel_rfl
@[go_sem] theorem zeroAV42 : zeroAV Try.prog 42 = some (.agg [.int .i64 0, .int .i64 0, .int .i64 0, .int .i64 0, .int .i64 0, .int .i64 0, .int .i64 0, .int .i64 0, .int .i64 0, .int .i64 0]) := by kernel_rfl
@[go_sem] theorem cellsOf43 : Try.prog.cellsOf 43 = 10 := by kernel_rfl
@[go_sem] theorem bytesOf43 : Try.prog.bytesOf 43 = 80 := by kernel_rfl
@[go_sem] theorem ldk43 : ldk Try.prog 43 = some (some 10) := by kernel_rfl
@[go_sem] theorem aggTy43 : aggTy Try.prog 43 = true := by kernel_rfl
@[go_sem] theorem und43 : Try.prog.underlying 43 = some (.array 10 3) := by kernel_rfl
@[go_sem] theorem zeroOk43 : zeroOk Try.prog 43 = true := by kernel_rfl
@[go_sem] theorem info43 : (Try.prog.info? 43).isSome = true := by kernel_rfl
@[go_sem] theorem bkind43 : bkind Try.prog 43 = .array 1 := by kernel_rfl
@[go_sem] theorem cellsOf44 : Try.prog.cellsOf 44 = 11 := by kernel_rfl
@[go_sem] theorem bytesOf44 : Try.prog.bytesOf 44 = 88 := by kernel_rfl
@[go_sem] theorem ldk44 : ldk Try.prog 44 = some (some 11) := by kernel_rfl
@[go_sem] theorem aggTy44 : aggTy Try.prog 44 = true := by kernel_rfl
@[go_sem] theorem zeroOk44 : zeroOk Try.prog 44 = true := by kernel_rfl
@[go_sem] theorem info44 : (Try.prog.info? 44).isSome = true := by kernel_rfl
@[go_sem] theorem bkind44 : bkind Try.prog 44 = .struct [(0, 1), (1, 10)] := by kernel_rfl
@[go_sem] theorem fplace44_0 : fplace Try.prog 44 0 = some (3, 0) := by kernel_rfl
@[go_sem] theorem fplace44_1 : fplace Try.prog 44 1 = some (43, 1) := by kernel_rfl
@[go_sem] theorem zeroAV44 : zeroAV Try.prog 44 = some (.agg [.int .i64 0, .int .i64 0, .int .i64 0, .int .i64 0, .int .i64 0, .int .i64 0, .int .i64 0, .int .i64 0, .int .i64 0, .int .i64 0, .int .i64 0]) := by kernel_rfl
@[go_sem] theorem cellsOf45 : Try.prog.cellsOf 45 = 11 := by kernel_rfl
@[go_sem] theorem bytesOf45 : Try.prog.bytesOf 45 = 88 := by kernel_rfl
@[go_sem] theorem ldk45 : ldk Try.prog 45 = some (some 11) := by kernel_rfl
@[go_sem] theorem aggTy45 : aggTy Try.prog 45 = true := by kernel_rfl
@[go_sem] theorem zeroOk45 : zeroOk Try.prog 45 = true := by kernel_rfl
@[go_sem] theorem info45 : (Try.prog.info? 45).isSome = true := by kernel_rfl
@[go_sem] theorem bkind45 : bkind Try.prog 45 = .struct [(0, 1), (1, 10)] := by kernel_rfl
@[go_sem] theorem fplace45_0 : fplace Try.prog 45 0 = some (3, 0) := by kernel_rfl
@[go_sem] theorem fplace45_1 : fplace Try.prog 45 1 = some (43, 1) := by kernel_rfl
@[go_sem] theorem cellsOf46 : Try.prog.cellsOf 46 = 13 := by kernel_rfl
@[go_sem] theorem bytesOf46 : Try.prog.bytesOf 46 = 104 := by kernel_rfl
@[go_sem] theorem ldk46 : ldk Try.prog 46 = some (some 13) := by kernel_rfl
@[go_sem] theorem aggTy46 : aggTy Try.prog 46 = true := by kernel_rfl
@[go_sem] theorem zeroOk46 : zeroOk Try.prog 46 = true := by kernel_rfl
@[go_sem] theorem info46 : (Try.prog.info? 46).isSome = true := by kernel_rfl
@[go_sem] theorem bkind46 : bkind Try.prog 46 = .struct [(0, 1), (1, 1), (2, 11)] := by kernel_rfl
@[go_sem] theorem fplace46_0 : fplace Try.prog 46 0 = some (3, 0) := by kernel_rfl
@[go_sem] theorem fplace46_1 : fplace Try.prog 46 1 = some (3, 1) := by kernel_rfl
@[go_sem] theorem fplace46_2 : fplace Try.prog 46 2 = some (45, 2) := by kernel_rfl
@[go_sem] theorem zeroAV46 : zeroAV Try.prog 46 = some (.agg [.int .i64 0, .int .i64 0, .int .i64 0, .int .i64 0, .int .i64 0, .int .i64 0, .int .i64 0, .int .i64 0, .int .i64 0, .int .i64 0, .int .i64 0, .int .i64 0, .int .i64 0]) := by kernel_rfl
@[go_sem] theorem cellsOf47 : Try.prog.cellsOf 47 = 13 := by kernel_rfl
@[go_sem] theorem bytesOf47 : Try.prog.bytesOf 47 = 104 := by kernel_rfl
@[go_sem] theorem ldk47 : ldk Try.prog 47 = some (some 13) := by kernel_rfl
@[go_sem] theorem aggTy47 : aggTy Try.prog 47 = true := by kernel_rfl
@[go_sem] theorem zeroOk47 : zeroOk Try.prog 47 = true := by kernel_rfl
@[go_sem] theorem info47 : (Try.prog.info? 47).isSome = true := by kernel_rfl
@[go_sem] theorem bkind47 : bkind Try.prog 47 = .struct [(0, 1), (1, 1), (2, 11)] := by kernel_rfl
@[go_sem] theorem fplace47_0 : fplace Try.prog 47 0 = some (3, 0) := by kernel_rfl
@[go_sem] theorem fplace47_1 : fplace Try.prog 47 1 = some (3, 1) := by kernel_rfl
@[go_sem] theorem fplace47_2 : fplace Try.prog 47 2 = some (45, 2) := by kernel_rfl
@[go_sem] theorem cellsOf48 : Try.prog.cellsOf 48 = 1 := by kernel_rfl
@[go_sem] theorem bytesOf48 : Try.prog.bytesOf 48 = 24 := by kernel_rfl
@[go_sem] theorem ldk48 : ldk Try.prog 48 = some none := by kernel_rfl
@[go_sem] theorem aggTy48 : aggTy Try.prog 48 = false := by kernel_rfl
@[go_sem] theorem und48 : Try.prog.underlying 48 = some (.slice 57) := by kernel_rfl
@[go_sem] theorem isSl48 : isSl Try.prog 48 = true := by kernel_rfl
@[go_sem] theorem zeroOk48 : zeroOk Try.prog 48 = true := by kernel_rfl
@[go_sem] theorem info48 : (Try.prog.info? 48).isSome = true := by kernel_rfl
@[go_sem] theorem zeroAV48 : zeroAV Try.prog 48 = some (.sl (some 12) []) := by kernel_rfl
@[go_sem] theorem cellsOf49 : Try.prog.cellsOf 49 = 1 := by kernel_rfl
@[go_sem] theorem bytesOf49 : Try.prog.bytesOf 49 = 0 := by kernel_rfl
@[go_sem] theorem ldk49 : ldk Try.prog 49 = some none := by kernel_rfl
@[go_sem] theorem aggTy49 : aggTy Try.prog 49 = false := by kernel_rfl
@[go_sem] theorem zeroOk49 : zeroOk Try.prog 49 = true := by kernel_rfl
@[go_sem] theorem info49 : (Try.prog.info? 49).isSome = true := by kernel_rfl
@[go_sem] theorem cellsOf50 : Try.prog.cellsOf 50 = 1 := by kernel_rfl
@[go_sem] theorem bytesOf50 : Try.prog.bytesOf 50 = 8 := by kernel_rfl
@[go_sem] theorem ldk50 : ldk Try.prog 50 = some none := by kernel_rfl
@[go_sem] theorem aggTy50 : aggTy Try.prog 50 = false := by kernel_rfl
@[go_sem] theorem zeroOk50 : zeroOk Try.prog 50 = true := by kernel_rfl
@[go_sem] theorem info50 : (Try.prog.info? 50).isSome = true := by kernel_rfl
@[go_sem] theorem zeroAV50 : zeroAV Try.prog 50 = some (.nilf) := by kernel_rfl
@[go_sem] theorem cellsOf51 : Try.prog.cellsOf 51 = 1 := by kernel_rfl
@[go_sem] theorem bytesOf51 : Try.prog.bytesOf 51 = 0 := by kernel_rfl
@[go_sem] theorem ldk51 : ldk Try.prog 51 = some none := by kernel_rfl
@[go_sem] theorem aggTy51 : aggTy Try.prog 51 = false := by kernel_rfl
@[go_sem] theorem zeroOk51 : zeroOk Try.prog 51 = true := by kernel_rfl
@[go_sem] theorem info51 : (Try.prog.info? 51).isSome = true := by kernel_rfl
@[go_sem] theorem cellsOf52 : Try.prog.cellsOf 52 = 1 := by kernel_rfl
@[go_sem] theorem bytesOf52 : Try.prog.bytesOf 52 = 8 := by kernel_rfl
@[go_sem] theorem ldk52 : ldk Try.prog 52 = some none := by kernel_rfl
@[go_sem] theorem aggTy52 : aggTy Try.prog 52 = false := by kernel_rfl
@[go_sem] theorem zeroOk52 : zeroOk Try.prog 52 = true := by kernel_rfl
@[go_sem] theorem info52 : (Try.prog.info? 52).isSome = true := by kernel_rfl
@[go_sem] theorem zeroAV52 : zeroAV Try.prog 52 = some (.nilf) := by kernel_rfl
@[go_sem] theorem cellsOf53 : Try.prog.cellsOf 53 = 1 := by kernel_rfl
@[go_sem] theorem bytesOf53 : Try.prog.bytesOf 53 = 8 := by kernel_rfl
@[go_sem] theorem ldk53 : ldk Try.prog 53 = some none := by kernel_rfl
@[go_sem] theorem aggTy53 : aggTy Try.prog 53 = false := by kernel_rfl
@[go_sem] theorem zeroOk53 : zeroOk Try.prog 53 = true := by kernel_rfl
@[go_sem] theorem info53 : (Try.prog.info? 53).isSome = true := by kernel_rfl
@[go_sem] theorem zeroAV53 : zeroAV Try.prog 53 = some (.nilf) := by kernel_rfl
@[go_sem] theorem cellsOf54 : Try.prog.cellsOf 54 = 1 := by kernel_rfl
@[go_sem] theorem bytesOf54 : Try.prog.bytesOf 54 = 8 := by kernel_rfl
@[go_sem] theorem ldk54 : ldk Try.prog 54 = some none := by kernel_rfl
@[go_sem] theorem aggTy54 : aggTy Try.prog 54 = false := by kernel_rfl
@[go_sem] theorem zeroOk54 : zeroOk Try.prog 54 = true := by kernel_rfl
@[go_sem] theorem info54 : (Try.prog.info? 54).isSome = true := by kernel_rfl
@[go_sem] theorem zeroAV54 : zeroAV Try.prog 54 = some (.nilf) := by kernel_rfl
@[go_sem] theorem cellsOf55 : Try.prog.cellsOf 55 = 1 := by kernel_rfl
@[go_sem] theorem bytesOf55 : Try.prog.bytesOf 55 = 24 := by kernel_rfl
@[go_sem] theorem ldk55 : ldk Try.prog 55 = some none := by kernel_rfl
@[go_sem] theorem aggTy55 : aggTy Try.prog 55 = false := by kernel_rfl
@[go_sem] theorem und55 : Try.prog.underlying 55 = some (.slice 27) := by kernel_rfl
@[go_sem] theorem isSl55 : isSl Try.prog 55 = true := by kernel_rfl
@[go_sem] theorem zeroOk55 : zeroOk Try.prog 55 = true := by kernel_rfl
@[go_sem] theorem info55 : (Try.prog.info? 55).isSome = true := by kernel_rfl
@[go_sem] theorem zeroAV55 : zeroAV Try.prog 55 = some (.sl (some 1) []) := by kernel_rfl
@[go_sem] theorem cellsOf56 : Try.prog.cellsOf 56 = 12 := by kernel_rfl
@[go_sem] theorem bytesOf56 : Try.prog.bytesOf 56 = 96 := by kernel_rfl
@[go_sem] theorem ldk56 : ldk Try.prog 56 = some (some 12) := by kernel_rfl
@[go_sem] theorem aggTy56 : aggTy Try.prog 56 = true := by kernel_rfl
@[go_sem] theorem zeroOk56 : zeroOk Try.prog 56 = true := by kernel_rfl
@[go_sem] theorem info56 : (Try.prog.info? 56).isSome = true := by kernel_rfl
@[go_sem] theorem bkind56 : bkind Try.prog 56 = .struct [(0, 1), (1, 11)] := by kernel_rfl
@[go_sem] theorem fplace56_0 : fplace Try.prog 56 0 = some (3, 0) := by kernel_rfl
@[go_sem] theorem fplace56_1 : fplace Try.prog 56 1 = some (45, 1) := by kernel_rfl
@[go_sem] theorem zeroAV56 : zeroAV Try.prog 56 = some (.agg [.int .i64 0, .int .i64 0, .int .i64 0, .int .i64 0, .int .i64 0, .int .i64 0, .int .i64 0, .int .i64 0, .int .i64 0, .int .i64 0, .int .i64 0, .int .i64 0]) := by kernel_rfl
@[go_sem] theorem cellsOf57 : Try.prog.cellsOf 57 = 12 := by kernel_rfl
@[go_sem] theorem bytesOf57 : Try.prog.bytesOf 57 = 96 := by kernel_rfl
@[go_sem] theorem ldk57 : ldk Try.prog 57 = some (some 12) := by kernel_rfl
@[go_sem] theorem aggTy57 : aggTy Try.prog 57 = true := by kernel_rfl
@[go_sem] theorem zeroOk57 : zeroOk Try.prog 57 = true := by kernel_rfl
@[go_sem] theorem info57 : (Try.prog.info? 57).isSome = true := by kernel_rfl
@[go_sem] theorem bkind57 : bkind Try.prog 57 = .struct [(0, 1), (1, 11)] := by kernel_rfl
@[go_sem] theorem fplace57_0 : fplace Try.prog 57 0 = some (3, 0) := by kernel_rfl
@[go_sem] theorem fplace57_1 : fplace Try.prog 57 1 = some (45, 1) := by kernel_rfl
@[go_sem] theorem cellsOf58 : Try.prog.cellsOf 58 = 5 := by kernel_rfl
@[go_sem] theorem bytesOf58 : Try.prog.bytesOf 58 = 40 := by kernel_rfl
@[go_sem] theorem ldk58 : ldk Try.prog 58 = some (some 5) := by kernel_rfl
@[go_sem] theorem aggTy58 : aggTy Try.prog 58 = true := by kernel_rfl
@[go_sem] theorem zeroOk58 : zeroOk Try.prog 58 = true := by kernel_rfl
@[go_sem] theorem info58 : (Try.prog.info? 58).isSome = true := by kernel_rfl
@[go_sem] theorem bkind58 : bkind Try.prog 58 = .struct [(0, 1), (1, 1), (2, 1), (3, 1), (4, 1)] := by kernel_rfl
@[go_sem] theorem fplace58_0 : fplace Try.prog 58 0 = some (3, 0) := by kernel_rfl
@[go_sem] theorem fplace58_1 : fplace Try.prog 58 1 = some (3, 1) := by kernel_rfl
@[go_sem] theorem fplace58_2 : fplace Try.prog 58 2 = some (3, 2) := by kernel_rfl
@[go_sem] theorem fplace58_3 : fplace Try.prog 58 3 = some (3, 3) := by kernel_rfl
@[go_sem] theorem fplace58_4 : fplace Try.prog 58 4 = some (3, 4) := by kernel_rfl
@[go_sem] theorem zeroAV58 : zeroAV Try.prog 58 = some (.agg [.int .i64 0, .int .i64 0, .int .i64 0, .int .i64 0, .int .i64 0]) := by kernel_rfl
@[go_sem] theorem cellsOf59 : Try.prog.cellsOf 59 = 5 := by kernel_rfl
@[go_sem] theorem bytesOf59 : Try.prog.bytesOf 59 = 40 := by kernel_rfl
@[go_sem] theorem ldk59 : ldk Try.prog 59 = some (some 5) := by kernel_rfl
@[go_sem] theorem aggTy59 : aggTy Try.prog 59 = true := by kernel_rfl
@[go_sem] theorem zeroOk59 : zeroOk Try.prog 59 = true := by kernel_rfl
@[go_sem] theorem info59 : (Try.prog.info? 59).isSome = true := by kernel_rfl
@[go_sem] theorem bkind59 : bkind Try.prog 59 = .struct [(0, 1), (1, 1), (2, 1), (3, 1), (4, 1)] := by kernel_rfl
@[go_sem] theorem fplace59_0 : fplace Try.prog 59 0 = some (3, 0) := by kernel_rfl
@[go_sem] theorem fplace59_1 : fplace Try.prog 59 1 = some (3, 1) := by kernel_rfl
@[go_sem] theorem fplace59_2 : fplace Try.prog 59 2 = some (3, 2) := by kernel_rfl
@[go_sem] theorem fplace59_3 : fplace Try.prog 59 3 = some (3, 3) := by kernel_rfl
@[go_sem] theorem fplace59_4 : fplace Try.prog 59 4 = some (3, 4) := by kernel_rfl
@[go_sem] theorem cellsOf60 : Try.prog.cellsOf 60 = 1 := by kernel_rfl
@[go_sem] theorem bytesOf60 : Try.prog.bytesOf 60 = 0 := by kernel_rfl
@[go_sem] theorem ldk60 : ldk Try.prog 60 = some none := by kernel_rfl
@[go_sem] theorem aggTy60 : aggTy Try.prog 60 = false := by kernel_rfl
@[go_sem] theorem zeroOk60 : zeroOk Try.prog 60 = true := by kernel_rfl
@[go_sem] theorem info60 : (Try.prog.info? 60).isSome = true := by kernel_rfl
@[go_sem] theorem cellsOf61 : Try.prog.cellsOf 61 = 1 := by kernel_rfl
@[go_sem] theorem bytesOf61 : Try.prog.bytesOf 61 = 8 := by kernel_rfl
@[go_sem] theorem ldk61 : ldk Try.prog 61 = some none := by kernel_rfl
@[go_sem] theorem aggTy61 : aggTy Try.prog 61 = false := by kernel_rfl
@[go_sem] theorem zeroOk61 : zeroOk Try.prog 61 = true := by kernel_rfl
@[go_sem] theorem info61 : (Try.prog.info? 61).isSome = true := by kernel_rfl
@[go_sem] theorem zeroAV61 : zeroAV Try.prog 61 = some (.nilf) := by kernel_rfl
@[go_sem] theorem cellsOf62 : Try.prog.cellsOf 62 = 1 := by kernel_rfl
@[go_sem] theorem bytesOf62 : Try.prog.bytesOf 62 = 24 := by kernel_rfl
@[go_sem] theorem ldk62 : ldk Try.prog 62 = some none := by kernel_rfl
@[go_sem] theorem aggTy62 : aggTy Try.prog 62 = false := by kernel_rfl
@[go_sem] theorem und62 : Try.prog.underlying 62 = some (.slice 45) := by kernel_rfl
@[go_sem] theorem isSl62 : isSl Try.prog 62 = true := by kernel_rfl
@[go_sem] theorem zeroOk62 : zeroOk Try.prog 62 = true := by kernel_rfl
@[go_sem] theorem info62 : (Try.prog.info? 62).isSome = true := by kernel_rfl
@[go_sem] theorem zeroAV62 : zeroAV Try.prog 62 = some (.sl (some 11) []) := by kernel_rfl
@[go_sem] theorem cellsOf63 : Try.prog.cellsOf 63 = 1 := by kernel_rfl
@[go_sem] theorem bytesOf63 : Try.prog.bytesOf 63 = 8 := by kernel_rfl
@[go_sem] theorem ldk63 : ldk Try.prog 63 = some none := by kernel_rfl
@[go_sem] theorem aggTy63 : aggTy Try.prog 63 = false := by kernel_rfl
@[go_sem] theorem zeroOk63 : zeroOk Try.prog 63 = true := by kernel_rfl
@[go_sem] theorem info63 : (Try.prog.info? 63).isSome = true := by kernel_rfl
@[go_sem] theorem zeroAV63 : zeroAV Try.prog 63 = some (.nilf) := by kernel_rfl
@[go_sem] theorem cellsOf64 : Try.prog.cellsOf 64 = 3 := by kernel_rfl
@[go_sem] theorem bytesOf64 : Try.prog.bytesOf 64 = 24 := by kernel_rfl
@[go_sem] theorem ldk64 : ldk Try.prog 64 = some (some 3) := by kernel_rfl
@[go_sem] theorem aggTy64 : aggTy Try.prog 64 = true := by kernel_rfl
@[go_sem] theorem zeroOk64 : zeroOk Try.prog 64 = true := by kernel_rfl
@[go_sem] theorem info64 : (Try.prog.info? 64).isSome = true := by kernel_rfl
@[go_sem] theorem bkind64 : bkind Try.prog 64 = .struct [(0, 1), (1, 1), (2, 1)] := by kernel_rfl
@[go_sem] theorem fplace64_0 : fplace Try.prog 64 0 = some (3, 0) := by kernel_rfl
@[go_sem] theorem fplace64_1 : fplace Try.prog 64 1 = some (3, 1) := by kernel_rfl
@[go_sem] theorem fplace64_2 : fplace Try.prog 64 2 = some (3, 2) := by kernel_rfl
@[go_sem] theorem zeroAV64 : zeroAV Try.prog 64 = some (.agg [.int .i64 0, .int .i64 0, .int .i64 0]) := by kernel_rfl
@[go_sem] theorem cellsOf65 : Try.prog.cellsOf 65 = 3 := by kernel_rfl
@[go_sem] theorem bytesOf65 : Try.prog.bytesOf 65 = 24 := by kernel_rfl
@[go_sem] theorem ldk65 : ldk Try.prog 65 = some (some 3) := by kernel_rfl
@[go_sem] theorem aggTy65 : aggTy Try.prog 65 = true := by kernel_rfl
@[go_sem] theorem zeroOk65 : zeroOk Try.prog 65 = true := by kernel_rfl
@[go_sem] theorem info65 : (Try.prog.info? 65).isSome = true := by kernel_rfl
@[go_sem] theorem bkind65 : bkind Try.prog 65 = .struct [(0, 1), (1, 1), (2, 1)] := by kernel_rfl
@[go_sem] theorem fplace65_0 : fplace Try.prog 65 0 = some (3, 0) := by kernel_rfl
@[go_sem] theorem fplace65_1 : fplace Try.prog 65 1 = some (3, 1) := by kernel_rfl
@[go_sem] theorem fplace65_2 : fplace Try.prog 65 2 = some (3, 2) := by kernel_rfl
@[go_sem] theorem cellsOf66 : Try.prog.cellsOf 66 = 1 := by kernel_rfl
@[go_sem] theorem bytesOf66 : Try.prog.bytesOf 66 = 8 := by kernel_rfl
@[go_sem] theorem ldk66 : ldk Try.prog 66 = some none := by kernel_rfl
@[go_sem] theorem aggTy66 : aggTy Try.prog 66 = false := by kernel_rfl
@[go_sem] theorem zeroOk66 : zeroOk Try.prog 66 = true := by kernel_rfl
@[go_sem] theorem info66 : (Try.prog.info? 66).isSome = true := by kernel_rfl
@[go_sem] theorem zeroAV66 : zeroAV Try.prog 66 = some (.nilf) := by kernel_rfl
@[go_sem] theorem cellsOf67 : Try.prog.cellsOf 67 = 1 := by kernel_rfl
@[go_sem] theorem bytesOf67 : Try.prog.bytesOf 67 = 8 := by kernel_rfl
@[go_sem] theorem ldk67 : ldk Try.prog 67 = some none := by kernel_rfl
@[go_sem] theorem aggTy67 : aggTy Try.prog 67 = false := by kernel_rfl
@[go_sem] theorem zeroOk67 : zeroOk Try.prog 67 = true := by kernel_rfl
@[go_sem] theorem info67 : (Try.prog.info? 67).isSome = true := by kernel_rfl
@[go_sem] theorem zeroAV67 : zeroAV Try.prog 67 = some (.nilf) := by kernel_rfl
@[go_sem] theorem cellsOf68 : Try.prog.cellsOf 68 = 1 := by kernel_rfl
@[go_sem] theorem bytesOf68 : Try.prog.bytesOf 68 = 8 := by kernel_rfl
@[go_sem] theorem ldk68 : ldk Try.prog 68 = some none := by kernel_rfl
@[go_sem] theorem aggTy68 : aggTy Try.prog 68 = false := by kernel_rfl
@[go_sem] theorem zeroOk68 : zeroOk Try.prog 68 = true := by kernel_rfl
@[go_sem] theorem info68 : (Try.prog.info? 68).isSome = true := by kernel_rfl
@[go_sem] theorem zeroAV68 : zeroAV Try.prog 68 = some (.nilf) := by kernel_rfl
@[go_sem] theorem cellsOf69 : Try.prog.cellsOf 69 = 1 := by kernel_rfl
@[go_sem] theorem bytesOf69 : Try.prog.bytesOf 69 = 8 := by kernel_rfl
@[go_sem] theorem ldk69 : ldk Try.prog 69 = some none := by kernel_rfl
@[go_sem] theorem aggTy69 : aggTy Try.prog 69 = false := by kernel_rfl
@[go_sem] theorem zeroOk69 : zeroOk Try.prog 69 = true := by kernel_rfl
@[go_sem] theorem info69 : (Try.prog.info? 69).isSome = true := by kernel_rfl
@[go_sem] theorem zeroAV69 : zeroAV Try.prog 69 = some (.nilf) := by kernel_rfl
@[go_sem] theorem cellsOf70 : Try.prog.cellsOf 70 = 1 := by kernel_rfl
@[go_sem] theorem bytesOf70 : Try.prog.bytesOf 70 = 8 := by kernel_rfl
@[go_sem] theorem ldk70 : ldk Try.prog 70 = some none := by kernel_rfl
@[go_sem] theorem aggTy70 : aggTy Try.prog 70 = false := by kernel_rfl
@[go_sem] theorem zeroOk70 : zeroOk Try.prog 70 = true := by kernel_rfl
@[go_sem] theorem info70 : (Try.prog.info? 70).isSome = true := by kernel_rfl
@[go_sem] theorem zeroAV70 : zeroAV Try.prog 70 = some (.nilf) := by kernel_rfl
@[go_sem] theorem cellsOf71 : Try.prog.cellsOf 71 = 1 := by kernel_rfl
@[go_sem] theorem bytesOf71 : Try.prog.bytesOf 71 = 8 := by kernel_rfl
@[go_sem] theorem ldk71 : ldk Try.prog 71 = some none := by kernel_rfl
@[go_sem] theorem aggTy71 : aggTy Try.prog 71 = false := by kernel_rfl
@[go_sem] theorem zeroOk71 : zeroOk Try.prog 71 = true := by kernel_rfl
@[go_sem] theorem info71 : (Try.prog.info? 71).isSome = true := by kernel_rfl
@[go_sem] theorem zeroAV71 : zeroAV Try.prog 71 = some (.nilf) := by kernel_rfl
@[go_sem] theorem cellsOf72 : Try.prog.cellsOf 72 = 1 := by kernel_rfl
@[go_sem] theorem bytesOf72 : Try.prog.bytesOf 72 = 8 := by kernel_rfl
@[go_sem] theorem ldk72 : ldk Try.prog 72 = some none := by kernel_rfl
@[go_sem] theorem aggTy72 : aggTy Try.prog 72 = false := by kernel_rfl
@[go_sem] theorem zeroOk72 : zeroOk Try.prog 72 = true := by kernel_rfl
@[go_sem] theorem info72 : (Try.prog.info? 72).isSome = true := by kernel_rfl
@[go_sem] theorem zeroAV72 : zeroAV Try.prog 72 = some (.nilf) := by kernel_rfl
@[go_sem] theorem cellsOf73 : Try.prog.cellsOf 73 = 1 := by kernel_rfl
@[go_sem] theorem bytesOf73 : Try.prog.bytesOf 73 = 8 := by kernel_rfl
@[go_sem] theorem ldk73 : ldk Try.prog 73 = some none := by kernel_rfl
@[go_sem] theorem aggTy73 : aggTy Try.prog 73 = false := by kernel_rfl
@[go_sem] theorem zeroOk73 : zeroOk Try.prog 73 = true := by kernel_rfl
@[go_sem] theorem info73 : (Try.prog.info? 73).isSome = true := by kernel_rfl
@[go_sem] theorem zeroAV73 : zeroAV Try.prog 73 = some (.nilf) := by kernel_rfl
@[go_sem] theorem cellsOf74 : Try.prog.cellsOf 74 = 1 := by kernel_rfl
@[go_sem] theorem bytesOf74 : Try.prog.bytesOf 74 = 8 := by kernel_rfl
@[go_sem] theorem ldk74 : ldk Try.prog 74 = some none := by kernel_rfl
@[go_sem] theorem aggTy74 : aggTy Try.prog 74 = false := by kernel_rfl
@[go_sem] theorem zeroOk74 : zeroOk Try.prog 74 = true := by kernel_rfl
@[go_sem] theorem info74 : (Try.prog.info? 74).isSome = true := by kernel_rfl
@[go_sem] theorem zeroAV74 : zeroAV Try.prog 74 = some (.nilf) := by kernel_rfl
@[go_sem] theorem cellsOf75 : Try.prog.cellsOf 75 = 1 := by kernel_rfl
@[go_sem] theorem bytesOf75 : Try.prog.bytesOf 75 = 8 := by kernel_rfl
@[go_sem] theorem ldk75 : ldk Try.prog 75 = some none := by kernel_rfl
@[go_sem] theorem aggTy75 : aggTy Try.prog 75 = false := by kernel_rfl
@[go_sem] theorem zeroOk75 : zeroOk Try.prog 75 = true := by kernel_rfl
@[go_sem] theorem info75 : (Try.prog.info? 75).isSome = true := by kernel_rfl
@[go_sem] theorem zeroAV75 : zeroAV Try.prog 75 = some (.nilf) := by kernel_rfl
@[go_sem] theorem cellsOf76 : Try.prog.cellsOf 76 = 1 := by kernel_rfl
@[go_sem] theorem bytesOf76 : Try.prog.bytesOf 76 = 8 := by kernel_rfl
@[go_sem] theorem ldk76 : ldk Try.prog 76 = some none := by kernel_rfl
@[go_sem] theorem aggTy76 : aggTy Try.prog 76 = false := by kernel_rfl
@[go_sem] theorem zeroOk76 : zeroOk Try.prog 76 = true := by kernel_rfl
@[go_sem] theorem info76 : (Try.prog.info? 76).isSome = true := by kernel_rfl
@[go_sem] theorem zeroAV76 : zeroAV Try.prog 76 = some (.nilf) := by kernel_rfl
@[go_sem] theorem cellsOf77 : Try.prog.cellsOf 77 = 1 := by kernel_rfl
@[go_sem] theorem bytesOf77 : Try.prog.bytesOf 77 = 8 := by kernel_rfl
@[go_sem] theorem ldk77 : ldk Try.prog 77 = some none := by kernel_rfl
@[go_sem] theorem aggTy77 : aggTy Try.prog 77 = false := by kernel_rfl
@[go_sem] theorem zeroOk77 : zeroOk Try.prog 77 = true := by kernel_rfl
@[go_sem] theorem info77 : (Try.prog.info? 77).isSome = true := by kernel_rfl
@[go_sem] theorem zeroAV77 : zeroAV Try.prog 77 = some (.nilf) := by kernel_rfl
@[go_sem] theorem cellsOf78 : Try.prog.cellsOf 78 = 1 := by kernel_rfl
@[go_sem] theorem bytesOf78 : Try.prog.bytesOf 78 = 8 := by kernel_rfl
@[go_sem] theorem ldk78 : ldk Try.prog 78 = some none := by kernel_rfl
@[go_sem] theorem aggTy78 : aggTy Try.prog 78 = false := by kernel_rfl
@[go_sem] theorem zeroOk78 : zeroOk Try.prog 78 = true := by kernel_rfl
@[go_sem] theorem info78 : (Try.prog.info? 78).isSome = true := by kernel_rfl
@[go_sem] theorem zeroAV78 : zeroAV Try.prog 78 = some (.nilf) := by kernel_rfl
@[go_sem] theorem cellsOf79 : Try.prog.cellsOf 79 = 1 := by kernel_rfl
@[go_sem] theorem bytesOf79 : Try.prog.bytesOf 79 = 8 := by kernel_rfl
@[go_sem] theorem ldk79 : ldk Try.prog 79 = some none := by kernel_rfl
@[go_sem] theorem aggTy79 : aggTy Try.prog 79 = false := by kernel_rfl
@[go_sem] theorem zeroOk79 : zeroOk Try.prog 79 = true := by kernel_rfl
@[go_sem] theorem info79 : (Try.prog.info? 79).isSome = true := by kernel_rfl
@[go_sem] theorem zeroAV79 : zeroAV Try.prog 79 = some (.nilf) := by kernel_rfl
@[go_sem] theorem cellsOf80 : Try.prog.cellsOf 80 = 1 := by kernel_rfl
@[go_sem] theorem bytesOf80 : Try.prog.bytesOf 80 = 24 := by kernel_rfl
@[go_sem] theorem ldk80 : ldk Try.prog 80 = some none := by kernel_rfl
@[go_sem] theorem aggTy80 : aggTy Try.prog 80 = false := by kernel_rfl
@[go_sem] theorem und80 : Try.prog.underlying 80 = some (.slice 86) := by kernel_rfl
@[go_sem] theorem isSl80 : isSl Try.prog 80 = true := by kernel_rfl
@[go_sem] theorem zeroOk80 : zeroOk Try.prog 80 = true := by kernel_rfl
@[go_sem] theorem info80 : (Try.prog.info? 80).isSome = true := by kernel_rfl
@[go_sem] theorem zeroAV80 : zeroAV Try.prog 80 = some (.sl (some 10) []) := by kernel_rfl
@[go_sem] theorem cellsOf81 : Try.prog.cellsOf 81 = 3 := by kernel_rfl
@[go_sem] theorem bytesOf81 : Try.prog.bytesOf 81 = 40 := by kernel_rfl
@[go_sem] theorem ldk81 : ldk Try.prog 81 = some (some 3) := by kernel_rfl
@[go_sem] theorem aggTy81 : aggTy Try.prog 81 = true := by kernel_rfl
@[go_sem] theorem zeroOk81 : zeroOk Try.prog 81 = true := by kernel_rfl
@[go_sem] theorem info81 : (Try.prog.info? 81).isSome = true := by kernel_rfl
@[go_sem] theorem bkind81 : bkind Try.prog 81 = .struct [(0, 1), (1, 1), (2, 1)] := by kernel_rfl
@[go_sem] theorem fplace81_0 : fplace Try.prog 81 0 = some (3, 0) := by kernel_rfl
@[go_sem] theorem fplace81_1 : fplace Try.prog 81 1 = some (3, 1) := by kernel_rfl
@[go_sem] theorem fplace81_2 : fplace Try.prog 81 2 = some (80, 2) := by kernel_rfl
@[go_sem] theorem zeroAV81 : zeroAV Try.prog 81 = some (.agg [.int .i64 0, .int .i64 0, .sl (some 10) []]) := by kernel_rfl
@[go_sem] theorem cellsOf82 : Try.prog.cellsOf 82 = 3 := by kernel_rfl
@[go_sem] theorem bytesOf82 : Try.prog.bytesOf 82 = 40 := by kernel_rfl
@[go_sem] theorem ldk82 : ldk Try.prog 82 = some (some 3) := by kernel_rfl
@[go_sem] theorem aggTy82 : aggTy Try.prog 82 = true := by kernel_rfl
@[go_sem] theorem zeroOk82 : zeroOk Try.prog 82 = true := by kernel_rfl
@[go_sem] theorem info82 : (Try.prog.info? 82).isSome = true := by kernel_rfl
@[go_sem] theorem bkind82 : bkind Try.prog 82 = .struct [(0, 1), (1, 1), (2, 1)] := by kernel_rfl
@[go_sem] theorem fplace82_0 : fplace Try.prog 82 0 = some (3, 0) := by kernel_rfl
@[go_sem] theorem fplace82_1 : fplace Try.prog 82 1 = some (3, 1) := by kernel_rfl
@[go_sem] theorem fplace82_2 : fplace Try.prog 82 2 = some (80, 2) := by kernel_rfl
@[go_sem] theorem zeroAV82 : zeroAV Try.prog 82 = some (.agg [.int .i64 0, .int .i64 0, .sl (some 10) []]) := by kernel_rfl
@[go_sem] theorem cellsOf83 : Try.prog.cellsOf 83 = 5 := by kernel_rfl
@[go_sem] theorem bytesOf83 : Try.prog.bytesOf 83 = 40 := by kernel_rfl
@[go_sem] theorem ldk83 : ldk Try.prog 83 = some (some 5) := by kernel_rfl
@[go_sem] theorem aggTy83 : aggTy Try.prog 83 = true := by kernel_rfl
@[go_sem] theorem zeroOk83 : zeroOk Try.prog 83 = true := by kernel_rfl
@[go_sem] theorem info83 : (Try.prog.info? 83).isSome = true := by kernel_rfl
@[go_sem] theorem bkind83 : bkind Try.prog 83 = .struct [(0, 5)] := by kernel_rfl
@[go_sem] theorem fplace83_0 : fplace Try.prog 83 0 = some (59, 0) := by kernel_rfl
@[go_sem] theorem zeroAV83 : zeroAV Try.prog 83 = some (.agg [.int .i64 0, .int .i64 0, .int .i64 0, .int .i64 0, .int .i64 0]) := by kernel_rfl
@[go_sem] theorem cellsOf84 : Try.prog.cellsOf 84 = 5 := by kernel_rfl
@[go_sem] theorem bytesOf84 : Try.prog.bytesOf 84 = 40 := by kernel_rfl
@[go_sem] theorem ldk84 : ldk Try.prog 84 = some (some 5) := by kernel_rfl
@[go_sem] theorem aggTy84 : aggTy Try.prog 84 = true := by kernel_rfl
@[go_sem] theorem zeroOk84 : zeroOk Try.prog 84 = true := by kernel_rfl
@[go_sem] theorem info84 : (Try.prog.info? 84).isSome = true := by kernel_rfl
@[go_sem] theorem bkind84 : bkind Try.prog 84 = .struct [(0, 5)] := by kernel_rfl
@[go_sem] theorem fplace84_0 : fplace Try.prog 84 0 = some (59, 0) := by kernel_rfl
@[go_sem] theorem cellsOf85 : Try.prog.cellsOf 85 = 10 := by kernel_rfl
@[go_sem] theorem bytesOf85 : Try.prog.bytesOf 85 = 112 := by kernel_rfl
@[go_sem] theorem ldk85 : ldk Try.prog 85 = some (some 10) := by kernel_rfl
@[go_sem] theorem aggTy85 : aggTy Try.prog 85 = true := by kernel_rfl
@[go_sem] theorem zeroOk85 : zeroOk Try.prog 85 = true := by kernel_rfl
@[go_sem] theorem info85 : (Try.prog.info? 85).isSome = true := by kernel_rfl
@[go_sem] theorem bkind85 : bkind Try.prog 85 = .struct [(0, 5), (5, 1), (6, 1), (7, 1), (8, 1), (9, 1)] := by kernel_rfl
@[go_sem] theorem fplace85_0 : fplace Try.prog 85 0 = some (84, 0) := by kernel_rfl
@[go_sem] theorem fplace85_1 : fplace Try.prog 85 1 = some (4, 5) := by kernel_rfl
@[go_sem] theorem fplace85_2 : fplace Try.prog 85 2 = some (3, 6) := by kernel_rfl
@[go_sem] theorem fplace85_3 : fplace Try.prog 85 3 = some (3, 7) := by kernel_rfl
@[go_sem] theorem fplace85_4 : fplace Try.prog 85 4 = some (62, 8) := by kernel_rfl
@[go_sem] theorem fplace85_5 : fplace Try.prog 85 5 = some (27, 9) := by kernel_rfl
@[go_sem] theorem zeroAV85 : zeroAV Try.prog 85 = some (.agg [.int .i64 0, .int .i64 0, .int .i64 0, .int .i64 0, .int .i64 0, .bool false, .int .i64 0, .int .i64 0, .sl (some 11) [], .sl (some 1) []]) := by kernel_rfl
@[go_sem] theorem cellsOf86 : Try.prog.cellsOf 86 = 10 := by kernel_rfl
@[go_sem] theorem bytesOf86 : Try.prog.bytesOf 86 = 112 := by kernel_rfl
@[go_sem] theorem ldk86 : ldk Try.prog 86 = some (some 10) := by kernel_rfl
@[go_sem] theorem aggTy86 : aggTy Try.prog 86 = true := by kernel_rfl
@[go_sem] theorem zeroOk86 : zeroOk Try.prog 86 = true := by kernel_rfl
@[go_sem] theorem info86 : (Try.prog.info? 86).isSome = true := by kernel_rfl
@[go_sem] theorem bkind86 : bkind Try.prog 86 = .struct [(0, 5), (5, 1), (6, 1), (7, 1), (8, 1), (9, 1)] := by kernel_rfl
@[go_sem] theorem fplace86_0 : fplace Try.prog 86 0 = some (84, 0) := by kernel_rfl
@[go_sem] theorem fplace86_1 : fplace Try.prog 86 1 = some (4, 5) := by kernel_rfl
@[go_sem] theorem fplace86_2 : fplace Try.prog 86 2 = some (3, 6) := by kernel_rfl
@[go_sem] theorem fplace86_3 : fplace Try.prog 86 3 = some (3, 7) := by kernel_rfl
@[go_sem] theorem fplace86_4 : fplace Try.prog 86 4 = some (62, 8) := by kernel_rfl
@[go_sem] theorem fplace86_5 : fplace Try.prog 86 5 = some (27, 9) := by kernel_rfl
@[go_sem] theorem cellsOf87 : Try.prog.cellsOf 87 = 1 := by kernel_rfl
@[go_sem] theorem bytesOf87 : Try.prog.bytesOf 87 = 8 := by kernel_rfl
@[go_sem] theorem ldk87 : ldk Try.prog 87 = some none := by kernel_rfl
@[go_sem] theorem aggTy87 : aggTy Try.prog 87 = false := by kernel_rfl
@[go_sem] theorem zeroOk87 : zeroOk Try.prog 87 = true := by kernel_rfl
@[go_sem] theorem info87 : (Try.prog.info? 87).isSome = true := by kernel_rfl
@[go_sem] theorem zeroAV87 : zeroAV Try.prog 87 = some (.nilf) := by kernel_rfl
@[go_sem] theorem cellsOf88 : Try.prog.cellsOf 88 = 1 := by kernel_rfl
@[go_sem] theorem bytesOf88 : Try.prog.bytesOf 88 = 24 := by kernel_rfl
@[go_sem] theorem ldk88 : ldk Try.prog 88 = some none := by kernel_rfl
@[go_sem] theorem aggTy88 : aggTy Try.prog 88 = false := by kernel_rfl
@[go_sem] theorem und88 : Try.prog.underlying 88 = some (.slice 121) := by kernel_rfl
@[go_sem] theorem isSl88 : isSl Try.prog 88 = true := by kernel_rfl
@[go_sem] theorem zeroOk88 : zeroOk Try.prog 88 = true := by kernel_rfl
@[go_sem] theorem info88 : (Try.prog.info? 88).isSome = true := by kernel_rfl
@[go_sem] theorem zeroAV88 : zeroAV Try.prog 88 = some (.sl (some 12) []) := by kernel_rfl
@[go_sem] theorem cellsOf89 : Try.prog.cellsOf 89 = 8 := by kernel_rfl
@[go_sem] theorem bytesOf89 : Try.prog.bytesOf 89 = 96 := by kernel_rfl
@[go_sem] theorem ldk89 : ldk Try.prog 89 = some (some 8) := by kernel_rfl
@[go_sem] theorem aggTy89 : aggTy Try.prog 89 = true := by kernel_rfl
@[go_sem] theorem zeroOk89 : zeroOk Try.prog 89 = true := by kernel_rfl
@[go_sem] theorem info89 : (Try.prog.info? 89).isSome = true := by kernel_rfl
@[go_sem] theorem bkind89 : bkind Try.prog 89 = .struct [(0, 1), (1, 5), (6, 1), (7, 1)] := by kernel_rfl
@[go_sem] theorem fplace89_0 : fplace Try.prog 89 0 = some (4, 0) := by kernel_rfl
@[go_sem] theorem fplace89_1 : fplace Try.prog 89 1 = some (59, 1) := by kernel_rfl
@[go_sem] theorem fplace89_2 : fplace Try.prog 89 2 = some (62, 6) := by kernel_rfl
@[go_sem] theorem fplace89_3 : fplace Try.prog 89 3 = some (88, 7) := by kernel_rfl
@[go_sem] theorem zeroAV89 : zeroAV Try.prog 89 = some (.agg [.bool false, .int .i64 0, .int .i64 0, .int .i64 0, .int .i64 0, .int .i64 0, .sl (some 11) [], .sl (some 12) []]) := by kernel_rfl
@[go_sem] theorem cellsOf90 : Try.prog.cellsOf 90 = 8 := by kernel_rfl
@[go_sem] theorem bytesOf90 : Try.prog.bytesOf 90 = 96 := by kernel_rfl
@[go_sem] theorem ldk90 : ldk Try.prog 90 = some (some 8) := by kernel_rfl
@[go_sem] theorem aggTy90 : aggTy Try.prog 90 = true := by kernel_rfl
@[go_sem] theorem zeroOk90 : zeroOk Try.prog 90 = true := by kernel_rfl
@[go_sem] theorem info90 : (Try.prog.info? 90).isSome = true := by kernel_rfl
@[go_sem] theorem bkind90 : bkind Try.prog 90 = .struct [(0, 1), (1, 5), (6, 1), (7, 1)] := by kernel_rfl
@[go_sem] theorem fplace90_0 : fplace Try.prog 90 0 = some (4, 0) := by kernel_rfl
@[go_sem] theorem fplace90_1 : fplace Try.prog 90 1 = some (59, 1) := by kernel_rfl
@[go_sem] theorem fplace90_2 : fplace Try.prog 90 2 = some (62, 6) := by kernel_rfl
@[go_sem] theorem fplace90_3 : fplace Try.prog 90 3 = some (88, 7) := by kernel_rfl
@[go_sem] theorem cellsOf91 : Try.prog.cellsOf 91 = 1 := by kernel_rfl
@[go_sem] theorem bytesOf91 : Try.prog.bytesOf 91 = 8 := by kernel_rfl
@[go_sem] theorem ldk91 : ldk Try.prog 91 = some none := by kernel_rfl
@[go_sem] theorem aggTy91 : aggTy Try.prog 91 = false := by kernel_rfl
@[go_sem] theorem zeroOk91 : zeroOk Try.prog 91 = true := by kernel_rfl
@[go_sem] theorem info91 : (Try.prog.info? 91).isSome = true := by kernel_rfl
@[go_sem] theorem zeroAV91 : zeroAV Try.prog 91 = some (.nilf) := by kernel_rfl
@[go_sem] theorem cellsOf92 : Try.prog.cellsOf 92 = 1 := by kernel_rfl
@[go_sem] theorem bytesOf92 : Try.prog.bytesOf 92 = 0 := by kernel_rfl
@[go_sem] theorem ldk92 : ldk Try.prog 92 = some none := by kernel_rfl
@[go_sem] theorem aggTy92 : aggTy Try.prog 92 = false := by kernel_rfl
@[go_sem] theorem zeroOk92 : zeroOk Try.prog 92 = true := by kernel_rfl
@[go_sem] theorem info92 : (Try.prog.info? 92).isSome = true := by kernel_rfl
@[go_sem] theorem cellsOf93 : Try.prog.cellsOf 93 = 1 := by kernel_rfl
@[go_sem] theorem bytesOf93 : Try.prog.bytesOf 93 = 8 := by kernel_rfl
@[go_sem] theorem ldk93 : ldk Try.prog 93 = some none := by kernel_rfl
@[go_sem] theorem aggTy93 : aggTy Try.prog 93 = false := by kernel_rfl
@[go_sem] theorem zeroOk93 : zeroOk Try.prog 93 = true := by kernel_rfl
@[go_sem] theorem info93 : (Try.prog.info? 93).isSome = true := by kernel_rfl
@[go_sem] theorem zeroAV93 : zeroAV Try.prog 93 = some (.nilf) := by kernel_rfl
@[go_sem] theorem cellsOf94 : Try.prog.cellsOf 94 = 1 := by kernel_rfl
@[go_sem] theorem bytesOf94 : Try.prog.bytesOf 94 = 8 := by kernel_rfl
@[go_sem] theorem ldk94 : ldk Try.prog 94 = some none := by kernel_rfl
@[go_sem] theorem aggTy94 : aggTy Try.prog 94 = false := by kernel_rfl
@[go_sem] theorem zeroOk94 : zeroOk Try.prog 94 = true := by kernel_rfl
@[go_sem] theorem info94 : (Try.prog.info? 94).isSome = true := by kernel_rfl
@[go_sem] theorem zeroAV94 : zeroAV Try.prog 94 = some (.nilf) := by kernel_rfl
@[go_sem] theorem cellsOf95 : Try.prog.cellsOf 95 = 1 := by kernel_rfl
@[go_sem] theorem bytesOf95 : Try.prog.bytesOf 95 = 8 := by kernel_rfl
@[go_sem] theorem ldk95 : ldk Try.prog 95 = some none := by kernel_rfl
@[go_sem] theorem aggTy95 : aggTy Try.prog 95 = false := by kernel_rfl
@[go_sem] theorem zeroOk95 : zeroOk Try.prog 95 = true := by kernel_rfl
@[go_sem] theorem info95 : (Try.prog.info? 95).isSome = true := by kernel_rfl
@[go_sem] theorem zeroAV95 : zeroAV Try.prog 95 = some (.nilf) := by kernel_rfl
@[go_sem] theorem cellsOf96 : Try.prog.cellsOf 96 = 1 := by kernel_rfl
@[go_sem] theorem bytesOf96 : Try.prog.bytesOf 96 = 8 := by kernel_rfl
@[go_sem] theorem ldk96 : ldk Try.prog 96 = some none := by kernel_rfl
@[go_sem] theorem aggTy96 : aggTy Try.prog 96 = false := by kernel_rfl
@[go_sem] theorem zeroOk96 : zeroOk Try.prog 96 = true := by kernel_rfl
@[go_sem] theorem info96 : (Try.prog.info? 96).isSome = true := by kernel_rfl
@[go_sem] theorem zeroAV96 : zeroAV Try.prog 96 = some (.nilf) := by kernel_rfl
@[go_sem] theorem cellsOf97 : Try.prog.cellsOf 97 = 1 := by kernel_rfl
@[go_sem] theorem bytesOf97 : Try.prog.bytesOf 97 = 8 := by kernel_rfl
@[go_sem] theorem ldk97 : ldk Try.prog 97 = some none := by kernel_rfl
@[go_sem] theorem aggTy97 : aggTy Try.prog 97 = false := by kernel_rfl
@[go_sem] theorem zeroOk97 : zeroOk Try.prog 97 = true := by kernel_rfl
@[go_sem] theorem info97 : (Try.prog.info? 97).isSome = true := by kernel_rfl
@[go_sem] theorem zeroAV97 : zeroAV Try.prog 97 = some (.nilf) := by kernel_rfl
@[go_sem] theorem cellsOf98 : Try.prog.cellsOf 98 = 1 := by kernel_rfl
@[go_sem] theorem bytesOf98 : Try.prog.bytesOf 98 = 8 := by kernel_rfl
@[go_sem] theorem ldk98 : ldk Try.prog 98 = some none := by kernel_rfl
@[go_sem] theorem aggTy98 : aggTy Try.prog 98 = false := by kernel_rfl
@[go_sem] theorem zeroOk98 : zeroOk Try.prog 98 = true := by kernel_rfl
@[go_sem] theorem info98 : (Try.prog.info? 98).isSome = true := by kernel_rfl
@[go_sem] theorem zeroAV98 : zeroAV Try.prog 98 = some (.nilf) := by kernel_rfl
@[go_sem] theorem cellsOf99 : Try.prog.cellsOf 99 = 1 := by kernel_rfl
@[go_sem] theorem bytesOf99 : Try.prog.bytesOf 99 = 8 := by kernel_rfl
@[go_sem] theorem ldk99 : ldk Try.prog 99 = some none := by kernel_rfl
@[go_sem] theorem aggTy99 : aggTy Try.prog 99 = false := by kernel_rfl
@[go_sem] theorem zeroOk99 : zeroOk Try.prog 99 = true := by kernel_rfl
@[go_sem] theorem info99 : (Try.prog.info? 99).isSome = true := by kernel_rfl
@[go_sem] theorem zeroAV99 : zeroAV Try.prog 99 = some (.nilf) := by kernel_rfl
@[go_sem] theorem cellsOf100 : Try.prog.cellsOf 100 = 1 := by kernel_rfl
@[go_sem] theorem bytesOf100 : Try.prog.bytesOf 100 = 8 := by kernel_rfl
@[go_sem] theorem ldk100 : ldk Try.prog 100 = some none := by kernel_rfl
@[go_sem] theorem aggTy100 : aggTy Try.prog 100 = false := by kernel_rfl
@[go_sem] theorem isPtr100 : isPtr Try.prog 100 = true := by kernel_rfl
@[go_sem] theorem und100 : Try.prog.underlying 100 = some (.pointer 86) := by kernel_rfl
@[go_sem] theorem zeroOk100 : zeroOk Try.prog 100 = true := by kernel_rfl
@[go_sem] theorem info100 : (Try.prog.info? 100).isSome = true := by kernel_rfl
@[go_sem] theorem zeroAV100 : zeroAV Try.prog 100 = some (.nilp) := by kernel_rfl
@[go_sem] theorem cellsOf101 : Try.prog.cellsOf 101 = 1 := by kernel_rfl
@[go_sem] theorem bytesOf101 : Try.prog.bytesOf 101 = 8 := by kernel_rfl
@[go_sem] theorem ldk101 : ldk Try.prog 101 = some none := by kernel_rfl
@[go_sem] theorem aggTy101 : aggTy Try.prog 101 = false := by kernel_rfl
@[go_sem] theorem zeroOk101 : zeroOk Try.prog 101 = true := by kernel_rfl
@[go_sem] theorem info101 : (Try.prog.info? 101).isSome = true := by kernel_rfl
@[go_sem] theorem zeroAV101 : zeroAV Try.prog 101 = some (.nilf) := by kernel_rfl
@[go_sem] theorem cellsOf102 : Try.prog.cellsOf 102 = 1 := by kernel_rfl
@[go_sem] theorem bytesOf102 : Try.prog.bytesOf 102 = 8 := by kernel_rfl
@[go_sem] theorem ldk102 : ldk Try.prog 102 = some none := by kernel_rfl
@[go_sem] theorem aggTy102 : aggTy Try.prog 102 = false := by kernel_rfl
@[go_sem] theorem zeroOk102 : zeroOk Try.prog 102 = true := by kernel_rfl
@[go_sem] theorem info102 : (Try.prog.info? 102).isSome = true := by kernel_rfl
@[go_sem] theorem zeroAV102 : zeroAV Try.prog 102 = some (.nilf) := by kernel_rfl
@[go_sem] theorem cellsOf103 : Try.prog.cellsOf 103 = 1 := by kernel_rfl
@[go_sem] theorem bytesOf103 : Try.prog.bytesOf 103 = 8 := by kernel_rfl
@[go_sem] theorem ldk103 : ldk Try.prog 103 = some none := by kernel_rfl
@[go_sem] theorem aggTy103 : aggTy Try.prog 103 = false := by kernel_rfl
@[go_sem] theorem zeroOk103 : zeroOk Try.prog 103 = true := by kernel_rfl
@[go_sem] theorem info103 : (Try.prog.info? 103).isSome = true := by kernel_rfl
@[go_sem] theorem zeroAV103 : zeroAV Try.prog 103 = some (.nilf) := by kernel_rfl
@[go_sem] theorem cellsOf104 : Try.prog.cellsOf 104 = 1 := by kernel_rfl
@[go_sem] theorem bytesOf104 : Try.prog.bytesOf 104 = 8 := by kernel_rfl
@[go_sem] theorem ldk104 : ldk Try.prog 104 = some none := by kernel_rfl
@[go_sem] theorem aggTy104 : aggTy Try.prog 104 = false := by kernel_rfl
@[go_sem] theorem zeroOk104 : zeroOk Try.prog 104 = true := by kernel_rfl
@[go_sem] theorem info104 : (Try.prog.info? 104).isSome = true := by kernel_rfl
@[go_sem] theorem zeroAV104 : zeroAV Try.prog 104 = some (.nilf) := by kernel_rfl
@[go_sem] theorem cellsOf105 : Try.prog.cellsOf 105 = 1 := by kernel_rfl
@[go_sem] theorem bytesOf105 : Try.prog.bytesOf 105 = 8 := by kernel_rfl
@[go_sem] theorem ldk105 : ldk Try.prog 105 = some none := by kernel_rfl
@[go_sem] theorem aggTy105 : aggTy Try.prog 105 = false := by kernel_rfl
@[go_sem] theorem zeroOk105 : zeroOk Try.prog 105 = true := by kernel_rfl
@[go_sem] theorem info105 : (Try.prog.info? 105).isSome = true := by kernel_rfl
@[go_sem] theorem zeroAV105 : zeroAV Try.prog 105 = some (.nilf) := by kernel_rfl
@[go_sem] theorem cellsOf106 : Try.prog.cellsOf 106 = 1 := by kernel_rfl
@[go_sem] theorem bytesOf106 : Try.prog.bytesOf 106 = 24 := by kernel_rfl
@[go_sem] theorem ldk106 : ldk Try.prog 106 = some none := by kernel_rfl
@[go_sem] theorem aggTy106 : aggTy Try.prog 106 = false := by kernel_rfl
@[go_sem] theorem und106 : Try.prog.underlying 106 = some (.slice 9) := by kernel_rfl
@[go_sem] theorem isSl106 : isSl Try.prog 106 = true := by kernel_rfl
@[go_sem] theorem zeroOk106 : zeroOk Try.prog 106 = true := by kernel_rfl
@[go_sem] theorem info106 : (Try.prog.info? 106).isSome = true := by kernel_rfl
@[go_sem] theorem zeroAV106 : zeroAV Try.prog 106 = some (.sl (some 1) []) := by kernel_rfl
@[go_sem] theorem cellsOf107 : Try.prog.cellsOf 107 = 1 := by kernel_rfl
@[go_sem] theorem bytesOf107 : Try.prog.bytesOf 107 = 0 := by kernel_rfl
@[go_sem] theorem ldk107 : ldk Try.prog 107 = some none := by kernel_rfl
@[go_sem] theorem aggTy107 : aggTy Try.prog 107 = false := by kernel_rfl
@[go_sem] theorem zeroOk107 : zeroOk Try.prog 107 = true := by kernel_rfl
@[go_sem] theorem info107 : (Try.prog.info? 107).isSome = true := by kernel_rfl
@[go_sem] theorem cellsOf108 : Try.prog.cellsOf 108 = 1 := by kernel_rfl
@[go_sem] theorem bytesOf108 : Try.prog.bytesOf 108 = 8 := by kernel_rfl
@[go_sem] theorem ldk108 : ldk Try.prog 108 = some none := by kernel_rfl
@[go_sem] theorem aggTy108 : aggTy Try.prog 108 = false := by kernel_rfl
@[go_sem] theorem zeroOk108 : zeroOk Try.prog 108 = true := by kernel_rfl
@[go_sem] theorem info108 : (Try.prog.info? 108).isSome = true := by kernel_rfl
@[go_sem] theorem zeroAV108 : zeroAV Try.prog 108 = some (.nilf) := by kernel_rfl
@[go_sem] theorem cellsOf109 : Try.prog.cellsOf 109 = 1 := by kernel_rfl
@[go_sem] theorem bytesOf109 : Try.prog.bytesOf 109 = 8 := by kernel_rfl
@[go_sem] theorem ldk109 : ldk Try.prog 109 = some none := by kernel_rfl
@[go_sem] theorem aggTy109 : aggTy Try.prog 109 = false := by kernel_rfl
@[go_sem] theorem zeroOk109 : zeroOk Try.prog 109 = true := by kernel_rfl
@[go_sem] theorem info109 : (Try.prog.info? 109).isSome = true := by kernel_rfl
@[go_sem] theorem zeroAV109 : zeroAV Try.prog 109 = some (.nilf) := by kernel_rfl
@[go_sem] theorem cellsOf110 : Try.prog.cellsOf 110 = 4 := by kernel_rfl
@[go_sem] theorem bytesOf110 : Try.prog.bytesOf 110 = 40 := by kernel_rfl
@[go_sem] theorem ldk110 : ldk Try.prog 110 = some (some 4) := by kernel_rfl
@[go_sem] theorem aggTy110 : aggTy Try.prog 110 = true := by kernel_rfl
@[go_sem] theorem zeroOk110 : zeroOk Try.prog 110 = true := by kernel_rfl
@[go_sem] theorem info110 : (Try.prog.info? 110).isSome = true := by kernel_rfl
@[go_sem] theorem bkind110 : bkind Try.prog 110 = .struct [(0, 1), (1, 1), (2, 1), (3, 1)] := by kernel_rfl
@[go_sem] theorem fplace110_0 : fplace Try.prog 110 0 = some (9, 0) := by kernel_rfl
@[go_sem] theorem fplace110_1 : fplace Try.prog 110 1 = some (4, 1) := by kernel_rfl
@[go_sem] theorem fplace110_2 : fplace Try.prog 110 2 = some (3, 2) := by kernel_rfl
@[go_sem] theorem fplace110_3 : fplace Try.prog 110 3 = some (3, 3) := by kernel_rfl
@[go_sem] theorem zeroAV110 : zeroAV Try.prog 110 = some (.agg [.str ByteArray.empty, .bool false, .int .i64 0, .int .i64 0]) := by kernel_rfl
@[go_sem] theorem cellsOf111 : Try.prog.cellsOf 111 = 4 := by kernel_rfl
@[go_sem] theorem bytesOf111 : Try.prog.bytesOf 111 = 40 := by kernel_rfl
@[go_sem] theorem ldk111 : ldk Try.prog 111 = some (some 4) := by kernel_rfl
@[go_sem] theorem aggTy111 : aggTy Try.prog 111 = true := by kernel_rfl
@[go_sem] theorem zeroOk111 : zeroOk Try.prog 111 = true := by kernel_rfl
@[go_sem] theorem info111 : (Try.prog.info? 111).isSome = true := by kernel_rfl
@[go_sem] theorem bkind111 : bkind Try.prog 111 = .struct [(0, 1), (1, 1), (2, 1), (3, 1)] := by kernel_rfl
@[go_sem] theorem fplace111_0 : fplace Try.prog 111 0 = some (9, 0) := by kernel_rfl
@[go_sem] theorem fplace111_1 : fplace Try.prog 111 1 = some (4, 1) := by kernel_rfl
@[go_sem] theorem fplace111_2 : fplace Try.prog 111 2 = some (3, 2) := by kernel_rfl
@[go_sem] theorem fplace111_3 : fplace Try.prog 111 3 = some (3, 3) := by kernel_rfl
@[go_sem] theorem cellsOf112 : Try.prog.cellsOf 112 = 1 := by kernel_rfl
@[go_sem] theorem bytesOf112 : Try.prog.bytesOf 112 = 8 := by kernel_rfl
@[go_sem] theorem ldk112 : ldk Try.prog 112 = some none := by kernel_rfl
@[go_sem] theorem aggTy112 : aggTy Try.prog 112 = false := by kernel_rfl
@[go_sem] theorem zeroOk112 : zeroOk Try.prog 112 = true := by kernel_rfl
@[go_sem] theorem info112 : (Try.prog.info? 112).isSome = true := by kernel_rfl
@[go_sem] theorem zeroAV112 : zeroAV Try.prog 112 = some (.nilf) := by kernel_rfl
@[go_sem] theorem cellsOf113 : Try.prog.cellsOf 113 = 2 := by kernel_rfl
@[go_sem] theorem bytesOf113 : Try.prog.bytesOf 113 = 24 := by kernel_rfl
@[go_sem] theorem ldk113 : ldk Try.prog 113 = some (some 2) := by kernel_rfl
@[go_sem] theorem aggTy113 : aggTy Try.prog 113 = true := by kernel_rfl
@[go_sem] theorem zeroOk113 : zeroOk Try.prog 113 = true := by kernel_rfl
@[go_sem] theorem info113 : (Try.prog.info? 113).isSome = true := by kernel_rfl
@[go_sem] theorem bkind113 : bkind Try.prog 113 = .struct [(0, 1), (1, 1)] := by kernel_rfl
@[go_sem] theorem fplace113_0 : fplace Try.prog 113 0 = some (9, 0) := by kernel_rfl
@[go_sem] theorem fplace113_1 : fplace Try.prog 113 1 = some (3, 1) := by kernel_rfl
@[go_sem] theorem zeroAV113 : zeroAV Try.prog 113 = some (.agg [.str ByteArray.empty, .int .i64 0]) := by kernel_rfl
@[go_sem] theorem cellsOf114 : Try.prog.cellsOf 114 = 2 := by kernel_rfl
@[go_sem] theorem bytesOf114 : Try.prog.bytesOf 114 = 24 := by kernel_rfl
@[go_sem] theorem ldk114 : ldk Try.prog 114 = some (some 2) := by kernel_rfl
@[go_sem] theorem aggTy114 : aggTy Try.prog 114 = true := by kernel_rfl
@[go_sem] theorem zeroOk114 : zeroOk Try.prog 114 = true := by kernel_rfl
@[go_sem] theorem info114 : (Try.prog.info? 114).isSome = true := by kernel_rfl
@[go_sem] theorem bkind114 : bkind Try.prog 114 = .struct [(0, 1), (1, 1)] := by kernel_rfl
@[go_sem] theorem fplace114_0 : fplace Try.prog 114 0 = some (9, 0) := by kernel_rfl
@[go_sem] theorem fplace114_1 : fplace Try.prog 114 1 = some (3, 1) := by kernel_rfl
@[go_sem] theorem cellsOf115 : Try.prog.cellsOf 115 = 1 := by kernel_rfl
@[go_sem] theorem bytesOf115 : Try.prog.bytesOf 115 = 24 := by kernel_rfl
@[go_sem] theorem ldk115 : ldk Try.prog 115 = some none := by kernel_rfl
@[go_sem] theorem aggTy115 : aggTy Try.prog 115 = false := by kernel_rfl
@[go_sem] theorem und115 : Try.prog.underlying 115 = some (.slice 5) := by kernel_rfl
@[go_sem] theorem isSl115 : isSl Try.prog 115 = true := by kernel_rfl
@[go_sem] theorem zeroOk115 : zeroOk Try.prog 115 = true := by kernel_rfl
@[go_sem] theorem info115 : (Try.prog.info? 115).isSome = true := by kernel_rfl
@[go_sem] theorem zeroAV115 : zeroAV Try.prog 115 = some (.sl (some 1) []) := by kernel_rfl
@[go_sem] theorem cellsOf116 : Try.prog.cellsOf 116 = 1 := by kernel_rfl
@[go_sem] theorem bytesOf116 : Try.prog.bytesOf 116 = 8 := by kernel_rfl
@[go_sem] theorem ldk116 : ldk Try.prog 116 = some none := by kernel_rfl
@[go_sem] theorem aggTy116 : aggTy Try.prog 116 = false := by kernel_rfl
@[go_sem] theorem zeroOk116 : zeroOk Try.prog 116 = true := by kernel_rfl
@[go_sem] theorem info116 : (Try.prog.info? 116).isSome = true := by kernel_rfl
@[go_sem] theorem zeroAV116 : zeroAV Try.prog 116 = some (.nilf) := by kernel_rfl
@[go_sem] theorem cellsOf117 : Try.prog.cellsOf 117 = 1 := by kernel_rfl
@[go_sem] theorem bytesOf117 : Try.prog.bytesOf 117 = 8 := by kernel_rfl
@[go_sem] theorem ldk117 : ldk Try.prog 117 = some none := by kernel_rfl
@[go_sem] theorem aggTy117 : aggTy Try.prog 117 = false := by kernel_rfl
@[go_sem] theorem zeroOk117 : zeroOk Try.prog 117 = true := by kernel_rfl
@[go_sem] theorem info117 : (Try.prog.info? 117).isSome = true := by kernel_rfl
@[go_sem] theorem zeroAV117 : zeroAV Try.prog 117 = some (.nilf) := by kernel_rfl
@[go_sem] theorem cellsOf118 : Try.prog.cellsOf 118 = 1 := by kernel_rfl
@[go_sem] theorem bytesOf118 : Try.prog.bytesOf 118 = 8 := by kernel_rfl
@[go_sem] theorem ldk118 : ldk Try.prog 118 = some none := by kernel_rfl
@[go_sem] theorem aggTy118 : aggTy Try.prog 118 = false := by kernel_rfl
@[go_sem] theorem zeroOk118 : zeroOk Try.prog 118 = true := by kernel_rfl
@[go_sem] theorem info118 : (Try.prog.info? 118).isSome = true := by kernel_rfl
@[go_sem] theorem zeroAV118 : zeroAV Try.prog 118 = some (.nilf) := by kernel_rfl
@[go_sem] theorem cellsOf119 : Try.prog.cellsOf 119 = 1 := by kernel_rfl
@[go_sem] theorem bytesOf119 : Try.prog.bytesOf 119 = 8 := by kernel_rfl
@[go_sem] theorem ldk119 : ldk Try.prog 119 = some none := by kernel_rfl
@[go_sem] theorem aggTy119 : aggTy Try.prog 119 = false := by kernel_rfl
@[go_sem] theorem zeroOk119 : zeroOk Try.prog 119 = true := by kernel_rfl
@[go_sem] theorem info119 : (Try.prog.info? 119).isSome = true := by kernel_rfl
@[go_sem] theorem zeroAV119 : zeroAV Try.prog 119 = some (.nilf) := by kernel_rfl
@[go_sem] theorem cellsOf120 : Try.prog.cellsOf 120 = 12 := by kernel_rfl
@[go_sem] theorem bytesOf120 : Try.prog.bytesOf 120 = 96 := by kernel_rfl
@[go_sem] theorem ldk120 : ldk Try.prog 120 = some (some 12) := by kernel_rfl
@[go_sem] theorem aggTy120 : aggTy Try.prog 120 = true := by kernel_rfl
@[go_sem] theorem zeroOk120 : zeroOk Try.prog 120 = true := by kernel_rfl
@[go_sem] theorem info120 : (Try.prog.info? 120).isSome = true := by kernel_rfl
@[go_sem] theorem bkind120 : bkind Try.prog 120 = .struct [(0, 1), (1, 11)] := by kernel_rfl
@[go_sem] theorem fplace120_0 : fplace Try.prog 120 0 = some (3, 0) := by kernel_rfl
@[go_sem] theorem fplace120_1 : fplace Try.prog 120 1 = some (45, 1) := by kernel_rfl
@[go_sem] theorem zeroAV120 : zeroAV Try.prog 120 = some (.agg [.int .i64 0, .int .i64 0, .int .i64 0, .int .i64 0, .int .i64 0, .int .i64 0, .int .i64 0, .int .i64 0, .int .i64 0, .int .i64 0, .int .i64 0, .int .i64 0]) := by kernel_rfl
@[go_sem] theorem cellsOf121 : Try.prog.cellsOf 121 = 12 := by kernel_rfl
@[go_sem] theorem bytesOf121 : Try.prog.bytesOf 121 = 96 := by kernel_rfl
@[go_sem] theorem ldk121 : ldk Try.prog 121 = some (some 12) := by kernel_rfl
@[go_sem] theorem aggTy121 : aggTy Try.prog 121 = true := by kernel_rfl
@[go_sem] theorem zeroOk121 : zeroOk Try.prog 121 = true := by kernel_rfl
@[go_sem] theorem info121 : (Try.prog.info? 121).isSome = true := by kernel_rfl
@[go_sem] theorem bkind121 : bkind Try.prog 121 = .struct [(0, 1), (1, 11)] := by kernel_rfl
@[go_sem] theorem fplace121_0 : fplace Try.prog 121 0 = some (3, 0) := by kernel_rfl
@[go_sem] theorem fplace121_1 : fplace Try.prog 121 1 = some (45, 1) := by kernel_rfl
@[go_sem] theorem cellsOf122 : Try.prog.cellsOf 122 = 1 := by kernel_rfl
@[go_sem] theorem bytesOf122 : Try.prog.bytesOf 122 = 8 := by kernel_rfl
@[go_sem] theorem ldk122 : ldk Try.prog 122 = some none := by kernel_rfl
@[go_sem] theorem aggTy122 : aggTy Try.prog 122 = false := by kernel_rfl
@[go_sem] theorem isPtr122 : isPtr Try.prog 122 = true := by kernel_rfl
@[go_sem] theorem und122 : Try.prog.underlying 122 = some (.pointer 84) := by kernel_rfl
@[go_sem] theorem zeroOk122 : zeroOk Try.prog 122 = true := by kernel_rfl
@[go_sem] theorem info122 : (Try.prog.info? 122).isSome = true := by kernel_rfl
@[go_sem] theorem zeroAV122 : zeroAV Try.prog 122 = some (.nilp) := by kernel_rfl
@[go_sem] theorem cellsOf123 : Try.prog.cellsOf 123 = 1 := by kernel_rfl
@[go_sem] theorem bytesOf123 : Try.prog.bytesOf 123 = 8 := by kernel_rfl
@[go_sem] theorem ldk123 : ldk Try.prog 123 = some none := by kernel_rfl
@[go_sem] theorem aggTy123 : aggTy Try.prog 123 = false := by kernel_rfl
@[go_sem] theorem zeroOk123 : zeroOk Try.prog 123 = true := by kernel_rfl
@[go_sem] theorem info123 : (Try.prog.info? 123).isSome = true := by kernel_rfl
@[go_sem] theorem zeroAV123 : zeroAV Try.prog 123 = some (.nilf) := by kernel_rfl
@[go_sem] theorem cellsOf124 : Try.prog.cellsOf 124 = 1 := by kernel_rfl
@[go_sem] theorem bytesOf124 : Try.prog.bytesOf 124 = 8 := by kernel_rfl
@[go_sem] theorem ldk124 : ldk Try.prog 124 = some none := by kernel_rfl
@[go_sem] theorem aggTy124 : aggTy Try.prog 124 = false := by kernel_rfl
@[go_sem] theorem zeroOk124 : zeroOk Try.prog 124 = true := by kernel_rfl
@[go_sem] theorem info124 : (Try.prog.info? 124).isSome = true := by kernel_rfl
@[go_sem] theorem zeroAV124 : zeroAV Try.prog 124 = some (.nilf) := by kernel_rfl
@[go_sem] theorem cellsOf125 : Try.prog.cellsOf 125 = 1 := by kernel_rfl
@[go_sem] theorem bytesOf125 : Try.prog.bytesOf 125 = 8 := by kernel_rfl
@[go_sem] theorem ldk125 : ldk Try.prog 125 = some none := by kernel_rfl
@[go_sem] theorem aggTy125 : aggTy Try.prog 125 = false := by kernel_rfl
@[go_sem] theorem zeroOk125 : zeroOk Try.prog 125 = true := by kernel_rfl
@[go_sem] theorem info125 : (Try.prog.info? 125).isSome = true := by kernel_rfl
@[go_sem] theorem zeroAV125 : zeroAV Try.prog 125 = some (.nilf) := by kernel_rfl
@[go_sem] theorem cellsOf126 : Try.prog.cellsOf 126 = 4 := by kernel_rfl
@[go_sem] theorem bytesOf126 : Try.prog.bytesOf 126 = 40 := by kernel_rfl
@[go_sem] theorem ldk126 : ldk Try.prog 126 = some (some 4) := by kernel_rfl
@[go_sem] theorem aggTy126 : aggTy Try.prog 126 = true := by kernel_rfl
@[go_sem] theorem zeroOk126 : zeroOk Try.prog 126 = true := by kernel_rfl
@[go_sem] theorem info126 : (Try.prog.info? 126).isSome = true := by kernel_rfl
@[go_sem] theorem bkind126 : bkind Try.prog 126 = .struct [(0, 1), (1, 1), (2, 1), (3, 1)] := by kernel_rfl
@[go_sem] theorem fplace126_0 : fplace Try.prog 126 0 = some (17, 0) := by kernel_rfl
@[go_sem] theorem fplace126_1 : fplace Try.prog 126 1 = some (17, 1) := by kernel_rfl
@[go_sem] theorem fplace126_2 : fplace Try.prog 126 2 = some (17, 2) := by kernel_rfl
@[go_sem] theorem fplace126_3 : fplace Try.prog 126 3 = some (9, 3) := by kernel_rfl
@[go_sem] theorem zeroAV126 : zeroAV Try.prog 126 = some (.agg [.nilp, .nilp, .nilp, .str ByteArray.empty]) := by kernel_rfl
@[go_sem] theorem cellsOf127 : Try.prog.cellsOf 127 = 4 := by kernel_rfl
@[go_sem] theorem bytesOf127 : Try.prog.bytesOf 127 = 40 := by kernel_rfl
@[go_sem] theorem ldk127 : ldk Try.prog 127 = some (some 4) := by kernel_rfl
@[go_sem] theorem aggTy127 : aggTy Try.prog 127 = true := by kernel_rfl
@[go_sem] theorem zeroOk127 : zeroOk Try.prog 127 = true := by kernel_rfl
@[go_sem] theorem info127 : (Try.prog.info? 127).isSome = true := by kernel_rfl
@[go_sem] theorem bkind127 : bkind Try.prog 127 = .struct [(0, 1), (1, 1), (2, 1), (3, 1)] := by kernel_rfl
@[go_sem] theorem fplace127_0 : fplace Try.prog 127 0 = some (17, 0) := by kernel_rfl
@[go_sem] theorem fplace127_1 : fplace Try.prog 127 1 = some (17, 1) := by kernel_rfl
@[go_sem] theorem fplace127_2 : fplace Try.prog 127 2 = some (17, 2) := by kernel_rfl
@[go_sem] theorem fplace127_3 : fplace Try.prog 127 3 = some (9, 3) := by kernel_rfl
@[go_sem] theorem zeroAV127 : zeroAV Try.prog 127 = some (.agg [.nilp, .nilp, .nilp, .str ByteArray.empty]) := by kernel_rfl
@[go_sem] theorem cellsOf128 : Try.prog.cellsOf 128 = 0 := by kernel_rfl
@[go_sem] theorem bytesOf128 : Try.prog.bytesOf 128 = 0 := by kernel_rfl
@[go_sem] theorem ldk128 : ldk Try.prog 128 = some (some 0) := by kernel_rfl
@[go_sem] theorem aggTy128 : aggTy Try.prog 128 = true := by kernel_rfl
@[go_sem] theorem und128 : Try.prog.underlying 128 = some (.array 0 16) := by kernel_rfl
@[go_sem] theorem zeroOk128 : zeroOk Try.prog 128 = true := by kernel_rfl
@[go_sem] theorem info128 : (Try.prog.info? 128).isSome = true := by kernel_rfl
@[go_sem] theorem bkind128 : bkind Try.prog 128 = .array 1 := by kernel_rfl
@[go_sem] theorem zeroAV128 : zeroAV Try.prog 128 = some (.agg []) := by kernel_rfl
@[go_sem] theorem cellsOf129 : Try.prog.cellsOf 129 = 0 := by kernel_rfl
@[go_sem] theorem bytesOf129 : Try.prog.bytesOf 129 = 0 := by kernel_rfl
@[go_sem] theorem ldk129 : ldk Try.prog 129 = some (some 0) := by kernel_rfl
@[go_sem] theorem aggTy129 : aggTy Try.prog 129 = true := by kernel_rfl
@[go_sem] theorem zeroOk129 : zeroOk Try.prog 129 = true := by kernel_rfl
@[go_sem] theorem info129 : (Try.prog.info? 129).isSome = true := by kernel_rfl
@[go_sem] theorem bkind129 : bkind Try.prog 129 = .struct [(0, 0)] := by kernel_rfl
@[go_sem] theorem fplace129_0 : fplace Try.prog 129 0 = some (128, 0) := by kernel_rfl
@[go_sem] theorem zeroAV129 : zeroAV Try.prog 129 = some (.agg []) := by kernel_rfl
@[go_sem] theorem cellsOf130 : Try.prog.cellsOf 130 = 0 := by kernel_rfl
@[go_sem] theorem bytesOf130 : Try.prog.bytesOf 130 = 0 := by kernel_rfl
@[go_sem] theorem ldk130 : ldk Try.prog 130 = some (some 0) := by kernel_rfl
@[go_sem] theorem aggTy130 : aggTy Try.prog 130 = true := by kernel_rfl
@[go_sem] theorem zeroOk130 : zeroOk Try.prog 130 = true := by kernel_rfl
@[go_sem] theorem info130 : (Try.prog.info? 130).isSome = true := by kernel_rfl
@[go_sem] theorem bkind130 : bkind Try.prog 130 = .struct [(0, 0)] := by kernel_rfl
@[go_sem] theorem fplace130_0 : fplace Try.prog 130 0 = some (128, 0) := by kernel_rfl
@[go_sem] theorem zeroAV130 : zeroAV Try.prog 130 = some (.agg []) := by kernel_rfl
@[go_sem] theorem cellsOf131 : Try.prog.cellsOf 131 = 1 := by kernel_rfl
@[go_sem] theorem bytesOf131 : Try.prog.bytesOf 131 = 4 := by kernel_rfl
@[go_sem] theorem ldk131 : ldk Try.prog 131 = some none := by kernel_rfl
@[go_sem] theorem aggTy131 : aggTy Try.prog 131 = false := by kernel_rfl
@[go_sem] theorem und131 : Try.prog.underlying 131 = some (.int .u32) := by kernel_rfl
@[go_sem] theorem zeroOk131 : zeroOk Try.prog 131 = true := by kernel_rfl
@[go_sem] theorem info131 : (Try.prog.info? 131).isSome = true := by kernel_rfl
@[go_sem] theorem zeroAV131 : zeroAV Try.prog 131 = some (.int .u32 0) := by kernel_rfl
@[go_sem] theorem cellsOf132 : Try.prog.cellsOf 132 = 1 := by kernel_rfl
@[go_sem] theorem bytesOf132 : Try.prog.bytesOf 132 = 1 := by kernel_rfl
@[go_sem] theorem ldk132 : ldk Try.prog 132 = some none := by kernel_rfl
@[go_sem] theorem aggTy132 : aggTy Try.prog 132 = false := by kernel_rfl
@[go_sem] theorem und132 : Try.prog.underlying 132 = some (.int .u8) := by kernel_rfl
@[go_sem] theorem zeroOk132 : zeroOk Try.prog 132 = true := by kernel_rfl
@[go_sem] theorem info132 : (Try.prog.info? 132).isSome = true := by kernel_rfl
@[go_sem] theorem zeroAV132 : zeroAV Try.prog 132 = some (.int .u8 0) := by kernel_rfl
@[go_sem] theorem cellsOf133 : Try.prog.cellsOf 133 = 1 := by kernel_rfl
@[go_sem] theorem bytesOf133 : Try.prog.bytesOf 133 = 1 := by kernel_rfl
@[go_sem] theorem ldk133 : ldk Try.prog 133 = some none := by kernel_rfl
@[go_sem] theorem aggTy133 : aggTy Try.prog 133 = false := by kernel_rfl
@[go_sem] theorem und133 : Try.prog.underlying 133 = some (.int .u8) := by kernel_rfl
@[go_sem] theorem zeroOk133 : zeroOk Try.prog 133 = true := by kernel_rfl
@[go_sem] theorem info133 : (Try.prog.info? 133).isSome = true := by kernel_rfl
@[go_sem] theorem zeroAV133 : zeroAV Try.prog 133 = some (.int .u8 0) := by kernel_rfl
@[go_sem] theorem cellsOf134 : Try.prog.cellsOf 134 = 1 := by kernel_rfl
@[go_sem] theorem bytesOf134 : Try.prog.bytesOf 134 = 8 := by kernel_rfl
@[go_sem] theorem ldk134 : ldk Try.prog 134 = some none := by kernel_rfl
@[go_sem] theorem aggTy134 : aggTy Try.prog 134 = false := by kernel_rfl
@[go_sem] theorem zeroOk134 : zeroOk Try.prog 134 = true := by kernel_rfl
@[go_sem] theorem info134 : (Try.prog.info? 134).isSome = true := by kernel_rfl
@[go_sem] theorem zeroAV134 : zeroAV Try.prog 134 = some (.nilf) := by kernel_rfl
@[go_sem] theorem cellsOf135 : Try.prog.cellsOf 135 = 1 := by kernel_rfl
@[go_sem] theorem bytesOf135 : Try.prog.bytesOf 135 = 8 := by kernel_rfl
@[go_sem] theorem ldk135 : ldk Try.prog 135 = some none := by kernel_rfl
@[go_sem] theorem aggTy135 : aggTy Try.prog 135 = false := by kernel_rfl
@[go_sem] theorem isPtr135 : isPtr Try.prog 135 = true := by kernel_rfl
@[go_sem] theorem und135 : Try.prog.underlying 135 = some (.pointer 5) := by kernel_rfl
@[go_sem] theorem zeroOk135 : zeroOk Try.prog 135 = true := by kernel_rfl
@[go_sem] theorem info135 : (Try.prog.info? 135).isSome = true := by kernel_rfl
@[go_sem] theorem zeroAV135 : zeroAV Try.prog 135 = some (.nilp) := by kernel_rfl
@[go_sem] theorem cellsOf136 : Try.prog.cellsOf 136 = 1 := by kernel_rfl
@[go_sem] theorem bytesOf136 : Try.prog.bytesOf 136 = 4 := by kernel_rfl
@[go_sem] theorem ldk136 : ldk Try.prog 136 = some none := by kernel_rfl
@[go_sem] theorem aggTy136 : aggTy Try.prog 136 = false := by kernel_rfl
@[go_sem] theorem und136 : Try.prog.underlying 136 = some (.int .i32) := by kernel_rfl
@[go_sem] theorem zeroOk136 : zeroOk Try.prog 136 = true := by kernel_rfl
@[go_sem] theorem info136 : (Try.prog.info? 136).isSome = true := by kernel_rfl
@[go_sem] theorem zeroAV136 : zeroAV Try.prog 136 = some (.int .i32 0) := by kernel_rfl
@[go_sem] theorem cellsOf137 : Try.prog.cellsOf 137 = 1 := by kernel_rfl
@[go_sem] theorem bytesOf137 : Try.prog.bytesOf 137 = 4 := by kernel_rfl
@[go_sem] theorem ldk137 : ldk Try.prog 137 = some none := by kernel_rfl
@[go_sem] theorem aggTy137 : aggTy Try.prog 137 = false := by kernel_rfl
@[go_sem] theorem und137 : Try.prog.underlying 137 = some (.int .i32) := by kernel_rfl
@[go_sem] theorem zeroOk137 : zeroOk Try.prog 137 = true := by kernel_rfl
@[go_sem] theorem info137 : (Try.prog.info? 137).isSome = true := by kernel_rfl
@[go_sem] theorem zeroAV137 : zeroAV Try.prog 137 = some (.int .i32 0) := by kernel_rfl
@[go_sem] theorem cellsOf138 : Try.prog.cellsOf 138 = 11 := by kernel_rfl
@[go_sem] theorem bytesOf138 : Try.prog.bytesOf 138 = 48 := by kernel_rfl
@[go_sem] theorem ldk138 : ldk Try.prog 138 = some (some 11) := by kernel_rfl
@[go_sem] theorem aggTy138 : aggTy Try.prog 138 = true := by kernel_rfl
@[go_sem] theorem zeroOk138 : zeroOk Try.prog 138 = true := by kernel_rfl
@[go_sem] theorem info138 : (Try.prog.info? 138).isSome = true := by kernel_rfl
@[go_sem] theorem bkind138 : bkind Try.prog 138 = .struct [(0, 1), (1, 1), (2, 1), (3, 1), (4, 1), (5, 1), (6, 1), (7, 1), (8, 1), (9, 1), (10, 1)] := by kernel_rfl
@[go_sem] theorem fplace138_0 : fplace Try.prog 138 0 = some (12, 0) := by kernel_rfl
@[go_sem] theorem fplace138_1 : fplace Try.prog 138 1 = some (12, 1) := by kernel_rfl
@[go_sem] theorem fplace138_2 : fplace Try.prog 138 2 = some (131, 2) := by kernel_rfl
@[go_sem] theorem fplace138_3 : fplace Try.prog 138 3 = some (132, 3) := by kernel_rfl
@[go_sem] theorem fplace138_4 : fplace Try.prog 138 4 = some (5, 4) := by kernel_rfl
@[go_sem] theorem fplace138_5 : fplace Try.prog 138 5 = some (5, 5) := by kernel_rfl
@[go_sem] theorem fplace138_6 : fplace Try.prog 138 6 = some (133, 6) := by kernel_rfl
@[go_sem] theorem fplace138_7 : fplace Try.prog 138 7 = some (134, 7) := by kernel_rfl
@[go_sem] theorem fplace138_8 : fplace Try.prog 138 8 = some (135, 8) := by kernel_rfl
@[go_sem] theorem fplace138_9 : fplace Try.prog 138 9 = some (136, 9) := by kernel_rfl
@[go_sem] theorem fplace138_10 : fplace Try.prog 138 10 = some (137, 10) := by kernel_rfl
@[go_sem] theorem zeroAV138 : zeroAV Try.prog 138 = some (.agg [.int .u64 0, .int .u64 0, .int .u32 0, .int .u8 0, .int .u8 0, .int .u8 0, .int .u8 0, .nilf, .nilp, .int .i32 0, .int .i32 0]) := by kernel_rfl
@[go_sem] theorem cellsOf139 : Try.prog.cellsOf 139 = 11 := by kernel_rfl
@[go_sem] theorem bytesOf139 : Try.prog.bytesOf 139 = 48 := by kernel_rfl
@[go_sem] theorem ldk139 : ldk Try.prog 139 = some (some 11) := by kernel_rfl
@[go_sem] theorem aggTy139 : aggTy Try.prog 139 = true := by kernel_rfl
@[go_sem] theorem zeroOk139 : zeroOk Try.prog 139 = true := by kernel_rfl
@[go_sem] theorem info139 : (Try.prog.info? 139).isSome = true := by kernel_rfl
@[go_sem] theorem bkind139 : bkind Try.prog 139 = .struct [(0, 1), (1, 1), (2, 1), (3, 1), (4, 1), (5, 1), (6, 1), (7, 1), (8, 1), (9, 1), (10, 1)] := by kernel_rfl
@[go_sem] theorem fplace139_0 : fplace Try.prog 139 0 = some (12, 0) := by kernel_rfl
@[go_sem] theorem fplace139_1 : fplace Try.prog 139 1 = some (12, 1) := by kernel_rfl
@[go_sem] theorem fplace139_2 : fplace Try.prog 139 2 = some (131, 2) := by kernel_rfl
@[go_sem] theorem fplace139_3 : fplace Try.prog 139 3 = some (132, 3) := by kernel_rfl
@[go_sem] theorem fplace139_4 : fplace Try.prog 139 4 = some (5, 4) := by kernel_rfl
@[go_sem] theorem fplace139_5 : fplace Try.prog 139 5 = some (5, 5) := by kernel_rfl
@[go_sem] theorem fplace139_6 : fplace Try.prog 139 6 = some (133, 6) := by kernel_rfl
@[go_sem] theorem fplace139_7 : fplace Try.prog 139 7 = some (134, 7) := by kernel_rfl
@[go_sem] theorem fplace139_8 : fplace Try.prog 139 8 = some (135, 8) := by kernel_rfl
@[go_sem] theorem fplace139_9 : fplace Try.prog 139 9 = some (136, 9) := by kernel_rfl
@[go_sem] theorem fplace139_10 : fplace Try.prog 139 10 = some (137, 10) := by kernel_rfl
@[go_sem] theorem zeroAV139 : zeroAV Try.prog 139 = some (.agg [.int .u64 0, .int .u64 0, .int .u32 0, .int .u8 0, .int .u8 0, .int .u8 0, .int .u8 0, .nilf, .nilp, .int .i32 0, .int .i32 0]) := by kernel_rfl
@[go_sem] theorem cellsOf140 : Try.prog.cellsOf 140 = 1 := by kernel_rfl
@[go_sem] theorem bytesOf140 : Try.prog.bytesOf 140 = 8 := by kernel_rfl
@[go_sem] theorem ldk140 : ldk Try.prog 140 = some none := by kernel_rfl
@[go_sem] theorem aggTy140 : aggTy Try.prog 140 = false := by kernel_rfl
@[go_sem] theorem zeroOk140 : zeroOk Try.prog 140 = true := by kernel_rfl
@[go_sem] theorem info140 : (Try.prog.info? 140).isSome = true := by kernel_rfl
@[go_sem] theorem zeroAV140 : zeroAV Try.prog 140 = some (.nilp) := by kernel_rfl
theorem mixed : Try.prog.follows .mixedOrders = true := by kernel_rfl
theorem call3 : callable Try.prog 3 = true := by kernel_rfl
theorem call4 : callable Try.prog 4 = true := by kernel_rfl
theorem call5 : callable Try.prog 5 = true := by kernel_rfl
theorem call6 : callable Try.prog 6 = true := by kernel_rfl
theorem call7 : callable Try.prog 7 = true := by kernel_rfl
theorem call8 : callable Try.prog 8 = true := by kernel_rfl
theorem call9 : callable Try.prog 9 = true := by kernel_rfl
theorem call10 : callable Try.prog 10 = true := by kernel_rfl
theorem call11 : callable Try.prog 11 = true := by kernel_rfl
theorem call12 : callable Try.prog 12 = true := by kernel_rfl
theorem call13 : callable Try.prog 13 = true := by kernel_rfl
theorem call14 : callable Try.prog 14 = true := by kernel_rfl
theorem call15 : callable Try.prog 15 = true := by kernel_rfl
theorem call16 : callable Try.prog 16 = true := by kernel_rfl
theorem call17 : callable Try.prog 17 = true := by kernel_rfl
theorem call18 : callable Try.prog 18 = true := by kernel_rfl
theorem call19 : callable Try.prog 19 = true := by kernel_rfl
theorem call20 : callable Try.prog 20 = true := by kernel_rfl
theorem call21 : callable Try.prog 21 = true := by kernel_rfl
theorem call22 : callable Try.prog 22 = true := by kernel_rfl
theorem call23 : callable Try.prog 23 = true := by kernel_rfl
theorem call24 : callable Try.prog 24 = true := by kernel_rfl
theorem call25 : callable Try.prog 25 = true := by kernel_rfl
theorem call26 : callable Try.prog 26 = true := by kernel_rfl
theorem call27 : callable Try.prog 27 = true := by kernel_rfl
theorem call28 : callable Try.prog 28 = true := by kernel_rfl
theorem call29 : callable Try.prog 29 = true := by kernel_rfl
theorem call30 : callable Try.prog 30 = true := by kernel_rfl
theorem call31 : callable Try.prog 31 = true := by kernel_rfl
theorem call32 : callable Try.prog 32 = true := by kernel_rfl
theorem call33 : callable Try.prog 33 = true := by kernel_rfl
theorem call34 : callable Try.prog 34 = true := by kernel_rfl
theorem call35 : callable Try.prog 35 = true := by kernel_rfl
theorem call36 : callable Try.prog 36 = true := by kernel_rfl
theorem call37 : callable Try.prog 37 = true := by kernel_rfl
theorem call38 : callable Try.prog 38 = true := by kernel_rfl
theorem call39 : callable Try.prog 39 = true := by kernel_rfl
theorem call40 : callable Try.prog 40 = true := by kernel_rfl
theorem call41 : callable Try.prog 41 = true := by kernel_rfl
theorem call42 : callable Try.prog 42 = true := by kernel_rfl
theorem call43 : callable Try.prog 43 = true := by kernel_rfl
theorem call44 : callable Try.prog 44 = true := by kernel_rfl
theorem call45 : callable Try.prog 45 = true := by kernel_rfl
theorem call46 : callable Try.prog 46 = true := by kernel_rfl
theorem call47 : callable Try.prog 47 = true := by kernel_rfl
theorem call48 : callable Try.prog 48 = true := by kernel_rfl
theorem call49 : callable Try.prog 49 = true := by kernel_rfl
theorem call50 : callable Try.prog 50 = true := by kernel_rfl
theorem call51 : callable Try.prog 51 = true := by kernel_rfl
theorem call52 : callable Try.prog 52 = true := by kernel_rfl
theorem call53 : callable Try.prog 53 = true := by kernel_rfl
theorem call54 : callable Try.prog 54 = true := by kernel_rfl
theorem call55 : callable Try.prog 55 = true := by kernel_rfl
theorem call56 : callable Try.prog 56 = true := by kernel_rfl
end Go.AI
