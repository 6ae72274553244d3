/- A part of the proof that XlatePolicy returns true at every argument: the reader machine and this translation under it. Conditions: those that each theorem bears. -/
import Derived.Test.YtcdjeickpdlbfaaGreatDoorQ37
section
set_option maxRecDepth 100000
namespace Go.Proofs.QQ
open Go
theorem m450 : Memo1 call4 8 [.str (99 :: 111 :: 100 :: 101 :: 58 :: 32 :: 110 :: 111 :: 112 :: 10 :: 108 :: 120 :: 105 :: 32 :: 104 :: 44 :: 99 :: 111 :: 100 :: 101 :: 10 :: 104 :: 108 :: 116 :: []), .bool false] (.tup [.agg [.str [], .nils, .nils], .agg [.int .i64 2, .int .i64 9]]) := ⟨by kernel_rfl⟩
theorem m451 : Memo1 call4 8 [.str (99 :: 111 :: 100 :: 101 :: 58 :: 32 :: 110 :: 111 :: 112 :: 10 :: 112 :: 99 :: 104 :: 108 :: []), .bool false] (.tup [.agg [.str [], .nils, .nils], .agg [.int .i64 2, .int .i64 10]]) := ⟨by kernel_rfl⟩
theorem m452 : Memo1 call4 8 [.str [106, 109, 112, 32, 49, 10, 104, 108, 116], .bool false] (.tup [.agg [.str [], .nils, .nils], .agg [.int .i64 1, .int .i64 10]]) := ⟨by kernel_rfl⟩
end Go.Proofs.QQ
end
section
set_option maxRecDepth 100000
namespace Go.Proofs.QQ
open Go
theorem m454 : Memo1 call4 8 [.str (110 :: 111 :: 112 :: 10 :: 104 :: 108 :: 116 :: 10 :: 101 :: 110 :: 100 :: 32 :: 53 :: []), .bool false] (.tup [.agg [.str [], .nils, .nils], .agg [.int .i64 0, .int .i64 10]]) := ⟨by kernel_rfl⟩
theorem m455 : Memo1 call4 8 [.str (99 :: 111 :: 100 :: 101 :: 58 :: 32 :: 104 :: 108 :: 116 :: 10 :: 100 :: 119 :: 32 :: 99 :: 111 :: 100 :: 101 :: []), .bool false] (.tup [.agg [.str [], .nils, .nils], .agg [.int .i64 2, .int .i64 9]]) := ⟨by kernel_rfl⟩
end Go.Proofs.QQ
end
