/- A part of the proof that XlatePolicy returns true at every argument: the reader machine and this translation under it. Conditions: those that each theorem bears. -/
import Derived.Test.YtcdjeickpdlbfaaGreatDoorQ33
section
set_option maxRecDepth 100000
namespace Go.Proofs.QQ
open Go
theorem m425 : Memo1 call2 68 [.int .i64 0, .str [108, 120, 105, 32, 104, 44, 99, 111, 100, 101]] (.tup [.agg [.str [], .bool false, .str [76, 88, 73], .sl false 2 (.str [72] :: .str [] :: .bool false :: .bool false :: .str [] :: .int .u16 0 :: .str [] :: .nils :: .str [] :: .str [] :: .bool false :: .bool false :: .str [110] :: .int .u16 0 :: .str [67, 79, 68, 69] :: .nils :: [])], .int .i64 0]) := ⟨by kernel_rfl⟩
theorem m426 : Memo1 call2 68 [.int .i64 0, .str [112, 99, 104, 108]] (.tup [.agg [.str [], .bool false, .str [80, 67, 72, 76], .nils], .int .i64 0]) := ⟨by kernel_rfl⟩
theorem m427 : Memo1 call2 68 [.int .i64 0, .str [106, 109, 112, 32, 49]] (.tup [.agg [.str [], .bool false, .str [74, 77, 80], .sl false 1 [.str [], .str [], .bool false, .bool false, .str [35], .int .u16 1, .str [], .nils]], .int .i64 0]) := ⟨by kernel_rfl⟩
theorem m428 : Memo1 call2 55 [.int .i64 0, .str [68, 65, 84, 65]] (.bool false) := ⟨by kernel_rfl⟩
theorem m429 : Memo1 call2 19 [.int .i64 0, .str [68, 65, 84, 65]] (.bool true) := ⟨by kernel_rfl⟩
theorem m430 : Memo1 call2 68 [.int .i64 0, .str [108, 120, 105, 32, 104, 44, 100, 97, 116, 97]] (.tup [.agg [.str [], .bool false, .str [76, 88, 73], .sl false 2 (.str [72] :: .str [] :: .bool false :: .bool false :: .str [] :: .int .u16 0 :: .str [] :: .nils :: .str [] :: .str [] :: .bool false :: .bool false :: .str [110] :: .int .u16 0 :: .str [68, 65, 84, 65] :: .nils :: [])], .int .i64 0]) := ⟨by kernel_rfl⟩
theorem m431 : Memo1 call2 68 [.int .i64 0, .str [100, 97, 116, 97, 58, 32, 100, 98, 32, 53]] (.tup [.agg [.str [68, 65, 84, 65], .bool true, .str [68, 66], .sl false 1 [.str [], .str [], .bool false, .bool false, .str [35], .int .u16 5, .str [], .nils]], .int .i64 0]) := ⟨by kernel_rfl⟩
end Go.Proofs.QQ
end
section
set_option maxRecDepth 100000
namespace Go.Proofs.QQ
open Go
theorem m432 : Memo1 call2 19 [.int .i64 2, .str [76, 48, 48, 48, 51]] (.bool true) := ⟨by kernel_rfl⟩
theorem m433 : Memo1 call2 68 [.int .i64 2, .str (76 :: 48 :: 48 :: 48 :: 48 :: 58 :: 32 :: 77 :: 79 :: 86 :: 32 :: 66 :: 88 :: 44 :: 52 :: [])] (.tup [.agg [.str [76, 48, 48, 48, 48], .bool true, .str [77, 79, 86], .sl false 2 (.str [66, 88] :: .str [] :: .bool false :: .bool false :: .str [] :: .int .u16 0 :: .str [] :: .nils :: .str [] :: .str [] :: .bool false :: .bool false :: .str [35] :: .int .u16 4 :: .str [] :: .nils :: [])], .int .i64 0]) := ⟨by kernel_rfl⟩
theorem m434 : Memo1 call2 68 [.int .i64 2, .str [76, 48, 48, 48, 51, 58, 32, 72, 76, 84]] (.tup [.agg [.str [76, 48, 48, 48, 51], .bool true, .str [72, 76, 84], .nils], .int .i64 0]) := ⟨by kernel_rfl⟩
theorem m435 : Memo1 call2 311 [.int .i64 1, .sl false 2 (.str [66, 88] :: .str [] :: .bool false :: .bool false :: .str [] :: .int .u16 0 :: .str [] :: .nils :: .str [] :: .str [] :: .bool false :: .bool false :: .str [35] :: .int .u16 4 :: .str [] :: .nils :: [])] (.tup [.agg [.int .i64 1, .int .i64 12, .int .i64 20, .int .u16 0], .int .i64 1, .bool true]) := ⟨by kernel_rfl⟩
theorem m436 : Memo1 call2 68 [.int .i64 0, .str [110, 111, 112]] (.tup [.agg [.str [], .bool false, .str [78, 79, 80], .nils], .int .i64 0]) := ⟨by kernel_rfl⟩
theorem m437 : Memo1 call2 68 [.int .i64 0, .str [101, 110, 100, 32, 53]] (.tup [.agg [.str [], .bool false, .str [69, 78, 68], .sl false 1 [.str [], .str [], .bool false, .bool false, .str [35], .int .u16 5, .str [], .nils]], .int .i64 0]) := ⟨by kernel_rfl⟩
theorem m438 : Memo1 call2 68 [.int .i64 0, .str [99, 111, 100, 101, 58, 32, 104, 108, 116]] (.tup [.agg [.str [67, 79, 68, 69], .bool true, .str [72, 76, 84], .nils], .int .i64 0]) := ⟨by kernel_rfl⟩
end Go.Proofs.QQ
end
