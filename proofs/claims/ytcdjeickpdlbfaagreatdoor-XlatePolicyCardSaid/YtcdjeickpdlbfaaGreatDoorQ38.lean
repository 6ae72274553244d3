/- A part of the proof that XlatePolicy returns true at every argument: the reader machine and this translation under it. Conditions: those that each theorem bears. -/
import Derived.Test.YtcdjeickpdlbfaaGreatDoorQ37
section
set_option maxRecDepth 100000
namespace Go.Proofs.QQ
open Go
theorem m449 : Memo1 call4 8 [.str [105, 110, 120, 32, 104, 10, 104, 108, 116], .bool false] (.tup [.agg [.str (76 :: 48 :: 48 :: 48 :: 48 :: 58 :: 32 :: 76 :: 65 :: 72 :: 70 :: 10 :: 73 :: 78 :: 67 :: 32 :: 66 :: 88 :: 10 :: 83 :: 65 :: 72 :: 70 :: 10 :: 76 :: 48 :: 48 :: 48 :: 49 :: 58 :: 32 :: 72 :: 76 :: 84 :: 10 :: 69 :: 78 :: 68 :: 32 :: 76 :: 48 :: 48 :: 48 :: 48 :: 10 :: []), .sl false 2 [.int .u16 0, .int .u8 35, .int .u16 0, .int .u16 1, .int .u8 118, .int .u16 0], .sl false 2 [.int .i64 31, .int .i64 31]], .agg [.int .i64 0, .int .i64 0]]) := ⟨by kernel_rfl⟩
end Go.Proofs.QQ
end
section
set_option maxRecDepth 100000
namespace Go.Proofs.QQ
open Go
theorem m453 : Memo1 call4 8 [.str (108 :: 120 :: 105 :: 32 :: 104 :: 44 :: 100 :: 97 :: 116 :: 97 :: 10 :: 104 :: 108 :: 116 :: 10 :: 100 :: 97 :: 116 :: 97 :: 58 :: 32 :: 100 :: 98 :: 32 :: 53 :: []), .bool false] (.tup [.agg [.str (76 :: 48 :: 48 :: 48 :: 48 :: 58 :: 32 :: 77 :: 79 :: 86 :: 32 :: 66 :: 88 :: 44 :: 52 :: 10 :: 76 :: 48 :: 48 :: 48 :: 51 :: 58 :: 32 :: 72 :: 76 :: 84 :: 10 :: 69 :: 78 :: 68 :: 32 :: 76 :: 48 :: 48 :: 48 :: 48 :: 10 :: []), .sl false 2 [.int .u16 0, .int .u8 33, .int .u16 4, .int .u16 3, .int .u8 118, .int .u16 0], .sl false 2 [.int .i64 31, .int .i64 31]], .agg [.int .i64 0, .int .i64 0]]) := ⟨by kernel_rfl⟩
end Go.Proofs.QQ
end
