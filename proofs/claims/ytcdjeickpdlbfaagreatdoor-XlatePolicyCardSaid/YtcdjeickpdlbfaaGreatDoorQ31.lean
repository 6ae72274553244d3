/- A part of the proof that XlatePolicy returns true at every argument: the reader machine and this translation under it. Conditions: those that each theorem bears. -/
import Derived.Test.YtcdjeickpdlbfaaGreatDoorQ28
section
set_option maxRecDepth 100000
namespace Go.Proofs.QQ
open Go
theorem m391 : Memo1 call1 303 [.str [80, 67, 72, 76], .nils] (.tup [.int .u8 233, .bool true]) := ⟨by kernel_rfl⟩
theorem m392 : Memo1 call1 11 [.int .u8 233] (.int .i64 1) := ⟨by kernel_rfl⟩
theorem m393 : Memo1 call1 20 [.str [74, 77, 80]] (.bool true) := ⟨by kernel_rfl⟩
end Go.Proofs.QQ
end
section
set_option maxRecDepth 100000
namespace Go.Proofs.QQ
open Go
theorem m394 : Memo1 call1 303 [.str [74, 77, 80], .sl false 1 [.str []]] (.tup [.int .u8 0, .bool false]) := ⟨by kernel_rfl⟩
end Go.Proofs.QQ
end
