/- A part of the proof that XlatePolicy returns true at every argument: the reader machine and this translation under it. Conditions: those that each theorem bears. -/
import Derived.Test.YtcdjeickpdlbfaaGreatDoorQ28
section
set_option maxRecDepth 100000
namespace Go.Proofs.QQ
open Go
theorem m385 : Memo1 call1 303 [.str [76, 88, 73], .sl false 2 [.str [72], .str []]] (.tup [.int .u8 0, .bool false]) := ⟨by kernel_rfl⟩
end Go.Proofs.QQ
end
section
set_option maxRecDepth 100000
namespace Go.Proofs.QQ
open Go
theorem m386 : Memo1 call1 303 [.str [76, 88, 73], .sl false 2 [.str [72], .str [100, 56]]] (.tup [.int .u8 0, .bool false]) := ⟨by kernel_rfl⟩
theorem m387 : Memo1 call1 303 [.str [76, 88, 73], .sl false 2 [.str [72], .str [100, 49, 54]]] (.tup [.int .u8 33, .bool true]) := ⟨by kernel_rfl⟩
theorem m388 : Memo1 call1 11 [.int .u8 0] (.int .i64 1) := ⟨by kernel_rfl⟩
theorem m389 : Memo1 call1 11 [.int .u8 33] (.int .i64 3) := ⟨by kernel_rfl⟩
theorem m390 : Memo1 call1 20 [.str [80, 67, 72, 76]] (.bool true) := ⟨by kernel_rfl⟩
end Go.Proofs.QQ
end
