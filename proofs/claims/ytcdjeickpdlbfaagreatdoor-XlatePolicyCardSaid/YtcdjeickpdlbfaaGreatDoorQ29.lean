/- A part of the proof that XlatePolicy returns true at every argument: the reader machine and this translation under it. Conditions: those that each theorem bears. -/
import Derived.Test.YtcdjeickpdlbfaaGreatDoorQ28
section
set_option maxRecDepth 100000
namespace Go.Proofs.QQ
open Go
theorem m360 : Memo1 call1 49 [.int .i64 0, .str [72]] (.bool true) := ⟨by kernel_rfl⟩
theorem m361 : Memo1 call1 20 [.str [73, 78, 88]] (.bool true) := ⟨by kernel_rfl⟩
theorem m362 : Memo1 call1 20 [.str [72, 76, 84]] (.bool true) := ⟨by kernel_rfl⟩
theorem m363 : Memo1 call1 303 [.str [73, 78, 88], .sl false 1 [.str [72]]] (.tup [.int .u8 35, .bool true]) := ⟨by kernel_rfl⟩
theorem m364 : Memo1 call1 303 [.str [72, 76, 84], .nils] (.tup [.int .u8 118, .bool true]) := ⟨by kernel_rfl⟩
theorem m365 : Memo1 call1 11 [.int .u8 35] (.int .i64 1) := ⟨by kernel_rfl⟩
theorem m366 : Memo1 call1 11 [.int .u8 118] (.int .i64 1) := ⟨by kernel_rfl⟩
theorem m367 : Memo1 call1 20 [.str [76, 48, 48, 48, 48]] (.bool true) := ⟨by kernel_rfl⟩
theorem m368 : Memo1 call1 49 [.int .i64 2, .str [76, 48, 48, 48, 48]] (.bool false) := ⟨by kernel_rfl⟩
theorem m369 : Memo1 call1 20 [.str [76, 65, 72, 70]] (.bool true) := ⟨by kernel_rfl⟩
theorem m370 : Memo1 call1 20 [.str [73, 78, 67]] (.bool true) := ⟨by kernel_rfl⟩
theorem m371 : Memo1 call1 49 [.int .i64 2, .str [66, 88]] (.bool true) := ⟨by kernel_rfl⟩
theorem m372 : Memo1 call1 20 [.str [83, 65, 72, 70]] (.bool true) := ⟨by kernel_rfl⟩
theorem m373 : Memo1 call1 20 [.str [76, 48, 48, 48, 49]] (.bool true) := ⟨by kernel_rfl⟩
theorem m374 : Memo1 call1 49 [.int .i64 2, .str [76, 48, 48, 48, 49]] (.bool false) := ⟨by kernel_rfl⟩
theorem m375 : Memo1 call1 20 [.str [69, 78, 68]] (.bool true) := ⟨by kernel_rfl⟩
theorem m376 : Memo1 call1 310 [.str [76, 65, 72, 70]] (.tup [.int .i64 20, .bool true]) := ⟨by kernel_rfl⟩
theorem m377 : Memo1 call1 310 [.str [73, 78, 67]] (.tup [.int .i64 10, .bool true]) := ⟨by kernel_rfl⟩
theorem m378 : Memo1 call1 310 [.str [83, 65, 72, 70]] (.tup [.int .i64 21, .bool true]) := ⟨by kernel_rfl⟩
theorem m379 : Memo1 call1 310 [.str [72, 76, 84]] (.tup [.int .i64 28, .bool true]) := ⟨by kernel_rfl⟩
theorem m380 : Memo1 call1 20 [.str [67, 79, 68, 69]] (.bool true) := ⟨by kernel_rfl⟩
theorem m381 : Memo1 call1 49 [.int .i64 0, .str [67, 79, 68, 69]] (.bool false) := ⟨by kernel_rfl⟩
theorem m382 : Memo1 call1 20 [.str [78, 79, 80]] (.bool true) := ⟨by kernel_rfl⟩
theorem m383 : Memo1 call1 20 [.str [76, 88, 73]] (.bool true) := ⟨by kernel_rfl⟩
theorem m384 : Memo1 call1 303 [.str [78, 79, 80], .nils] (.tup [.int .u8 0, .bool true]) := ⟨by kernel_rfl⟩
end Go.Proofs.QQ
end
