/- A part of the proof that XlatePolicy returns true at every argument: the reader machine and this translation under it. Conditions: those that each theorem bears. -/
import Derived.Test.YtcdjeickpdlbfaaGreatDoorQ28
section
set_option maxRecDepth 100000
namespace Go.Proofs.QQ
open Go
theorem m395 : Memo1 call1 303 [.str [74, 77, 80], .sl false 1 [.str [100, 56]]] (.tup [.int .u8 0, .bool false]) := ⟨by kernel_rfl⟩
end Go.Proofs.QQ
end
section
set_option maxRecDepth 100000
namespace Go.Proofs.QQ
open Go
theorem m396 : Memo1 call1 303 [.str [74, 77, 80], .sl false 1 [.str [100, 49, 54]]] (.tup [.int .u8 195, .bool true]) := ⟨by kernel_rfl⟩
theorem m397 : Memo1 call1 11 [.int .u8 195] (.int .i64 3) := ⟨by kernel_rfl⟩
theorem m398 : Memo1 call1 49 [.int .i64 0, .str [68, 65, 84, 65]] (.bool false) := ⟨by kernel_rfl⟩
theorem m399 : Memo1 call1 20 [.str [68, 65, 84, 65]] (.bool true) := ⟨by kernel_rfl⟩
theorem m400 : Memo1 call1 20 [.str [68, 66]] (.bool true) := ⟨by kernel_rfl⟩
theorem m401 : Memo1 call1 20 [.str [77, 79, 86]] (.bool true) := ⟨by kernel_rfl⟩
theorem m402 : Memo1 call1 20 [.str [76, 48, 48, 48, 51]] (.bool true) := ⟨by kernel_rfl⟩
theorem m403 : Memo1 call1 49 [.int .i64 2, .str [76, 48, 48, 48, 51]] (.bool false) := ⟨by kernel_rfl⟩
theorem m404 : Memo1 call1 310 [.str [77, 79, 86]] (.tup [.int .i64 1, .bool true]) := ⟨by kernel_rfl⟩
theorem m405 : Memo1 call1 20 [.str [68, 87]] (.bool true) := ⟨by kernel_rfl⟩
end Go.Proofs.QQ
end
