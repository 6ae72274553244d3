/- A part of the proof that XlatePolicy returns true at every argument: the reader machine and this translation under it. Conditions: those that each theorem bears. -/
import Derived.Test.YtcdjeickpdlbfaaGreatDoorQ33
section
set_option maxRecDepth 100000
namespace Go.Proofs.QQ
open Go
theorem m406 : Memo1 call2 55 [.int .i64 0, .str [72]] (.bool true) := ⟨by kernel_rfl⟩
theorem m407 : Memo1 call2 68 [.int .i64 0, .str [105, 110, 120, 32, 104]] (.tup [.agg [.str [], .bool false, .str [73, 78, 88], .sl false 1 [.str [72], .str [], .bool false, .bool false, .str [], .int .u16 0, .str [], .nils]], .int .i64 0]) := ⟨by kernel_rfl⟩
theorem m408 : Memo1 call2 68 [.int .i64 0, .str [104, 108, 116]] (.tup [.agg [.str [], .bool false, .str [72, 76, 84], .nils], .int .i64 0]) := ⟨by kernel_rfl⟩
theorem m409 : Memo1 call2 19 [.int .i64 2, .str [76, 48, 48, 48, 48]] (.bool true) := ⟨by kernel_rfl⟩
theorem m410 : Memo1 call2 55 [.int .i64 2, .str [66, 88]] (.bool true) := ⟨by kernel_rfl⟩
theorem m411 : Memo1 call2 19 [.int .i64 2, .str [76, 48, 48, 48, 49]] (.bool true) := ⟨by kernel_rfl⟩
theorem m412 : Memo1 call2 68 [.int .i64 2, .str [76, 48, 48, 48, 48, 58, 32, 76, 65, 72, 70]] (.tup [.agg [.str [76, 48, 48, 48, 48], .bool true, .str [76, 65, 72, 70], .nils], .int .i64 0]) := ⟨by kernel_rfl⟩
theorem m413 : Memo1 call2 68 [.int .i64 2, .str [73, 78, 67, 32, 66, 88]] (.tup [.agg [.str [], .bool false, .str [73, 78, 67], .sl false 1 [.str [66, 88], .str [], .bool false, .bool false, .str [], .int .u16 0, .str [], .nils]], .int .i64 0]) := ⟨by kernel_rfl⟩
theorem m414 : Memo1 call2 68 [.int .i64 2, .str [83, 65, 72, 70]] (.tup [.agg [.str [], .bool false, .str [83, 65, 72, 70], .nils], .int .i64 0]) := ⟨by kernel_rfl⟩
theorem m415 : Memo1 call2 68 [.int .i64 2, .str [76, 48, 48, 48, 49, 58, 32, 72, 76, 84]] (.tup [.agg [.str [76, 48, 48, 48, 49], .bool true, .str [72, 76, 84], .nils], .int .i64 0]) := ⟨by kernel_rfl⟩
theorem m416 : Memo1 call2 55 [.int .i64 2, .str [76, 48, 48, 48, 48]] (.bool false) := ⟨by kernel_rfl⟩
theorem m417 : Memo1 call2 68 [.int .i64 2, .str [69, 78, 68, 32, 76, 48, 48, 48, 48]] (.tup [.agg [.str [], .bool false, .str [69, 78, 68], .sl false 1 [.str [], .str [], .bool false, .bool false, .str [110], .int .u16 0, .str [76, 48, 48, 48, 48], .nils]], .int .i64 0]) := ⟨by kernel_rfl⟩
theorem m418 : Memo1 call2 311 [.int .i64 20, .nils] (.tup [.agg [.int .i64 20, .int .i64 0, .int .i64 0, .int .u16 0], .int .i64 (-1), .bool true]) := ⟨by kernel_rfl⟩
theorem m419 : Memo1 call2 311 [.int .i64 10, .sl false 1 [.str [66, 88], .str [], .bool false, .bool false, .str [], .int .u16 0, .str [], .nils]] (.tup [.agg [.int .i64 10, .int .i64 12, .int .i64 0, .int .u16 0], .int .i64 (-1), .bool true]) := ⟨by kernel_rfl⟩
theorem m420 : Memo1 call2 311 [.int .i64 21, .nils] (.tup [.agg [.int .i64 21, .int .i64 0, .int .i64 0, .int .u16 0], .int .i64 (-1), .bool true]) := ⟨by kernel_rfl⟩
theorem m421 : Memo1 call2 311 [.int .i64 28, .nils] (.tup [.agg [.int .i64 28, .int .i64 0, .int .i64 0, .int .u16 0], .int .i64 (-1), .bool true]) := ⟨by kernel_rfl⟩
theorem m422 : Memo1 call2 19 [.int .i64 0, .str [67, 79, 68, 69]] (.bool true) := ⟨by kernel_rfl⟩
theorem m423 : Memo1 call2 68 [.int .i64 0, .str [99, 111, 100, 101, 58, 32, 110, 111, 112]] (.tup [.agg [.str [67, 79, 68, 69], .bool true, .str [78, 79, 80], .nils], .int .i64 0]) := ⟨by kernel_rfl⟩
theorem m424 : Memo1 call2 55 [.int .i64 0, .str [67, 79, 68, 69]] (.bool false) := ⟨by kernel_rfl⟩
end Go.Proofs.QQ
end
section
set_option maxRecDepth 100000
namespace Go.Proofs.QQ
open Go
theorem m439 : Memo1 call2 68 [.int .i64 0, .str [100, 119, 32, 99, 111, 100, 101]] (.tup [.agg [.str [], .bool false, .str [68, 87], .sl false 1 [.str [], .str [], .bool false, .bool false, .str [110], .int .u16 0, .str [67, 79, 68, 69], .nils]], .int .i64 0]) := ⟨by kernel_rfl⟩
end Go.Proofs.QQ
end
