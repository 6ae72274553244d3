/- A part of the proof that XlatePolicy returns true at every argument: the reader machine and this translation under it. Conditions: those that each theorem bears. -/
import Derived.Test.YtcdjeickpdlbfaaGreatDoorQ23
section
set_option maxRecDepth 100000
namespace Go.Proofs.QQ
open Go
theorem m90 : Memo1 call0 37 [.int .u8 75] (.sl false 3 [.str [77, 79, 86], .str [67], .str [69]]) := ⟨by kernel_rfl⟩
theorem m91 : Memo1 call0 37 [.int .u8 76] (.sl false 3 [.str [77, 79, 86], .str [67], .str [72]]) := ⟨by kernel_rfl⟩
theorem m92 : Memo1 call0 37 [.int .u8 77] (.sl false 3 [.str [77, 79, 86], .str [67], .str [76]]) := ⟨by kernel_rfl⟩
theorem m93 : Memo1 call0 37 [.int .u8 78] (.sl false 3 [.str [77, 79, 86], .str [67], .str [77]]) := ⟨by kernel_rfl⟩
theorem m94 : Memo1 call0 37 [.int .u8 79] (.sl false 3 [.str [77, 79, 86], .str [67], .str [65]]) := ⟨by kernel_rfl⟩
theorem m95 : Memo1 call0 37 [.int .u8 80] (.sl false 3 [.str [77, 79, 86], .str [68], .str [66]]) := ⟨by kernel_rfl⟩
theorem m96 : Memo1 call0 37 [.int .u8 81] (.sl false 3 [.str [77, 79, 86], .str [68], .str [67]]) := ⟨by kernel_rfl⟩
theorem m97 : Memo1 call0 37 [.int .u8 82] (.sl false 3 [.str [77, 79, 86], .str [68], .str [68]]) := ⟨by kernel_rfl⟩
theorem m98 : Memo1 call0 37 [.int .u8 83] (.sl false 3 [.str [77, 79, 86], .str [68], .str [69]]) := ⟨by kernel_rfl⟩
theorem m99 : Memo1 call0 37 [.int .u8 84] (.sl false 3 [.str [77, 79, 86], .str [68], .str [72]]) := ⟨by kernel_rfl⟩
theorem m100 : Memo1 call0 37 [.int .u8 85] (.sl false 3 [.str [77, 79, 86], .str [68], .str [76]]) := ⟨by kernel_rfl⟩
theorem m101 : Memo1 call0 37 [.int .u8 86] (.sl false 3 [.str [77, 79, 86], .str [68], .str [77]]) := ⟨by kernel_rfl⟩
theorem m102 : Memo1 call0 37 [.int .u8 87] (.sl false 3 [.str [77, 79, 86], .str [68], .str [65]]) := ⟨by kernel_rfl⟩
theorem m103 : Memo1 call0 37 [.int .u8 88] (.sl false 3 [.str [77, 79, 86], .str [69], .str [66]]) := ⟨by kernel_rfl⟩
theorem m104 : Memo1 call0 37 [.int .u8 89] (.sl false 3 [.str [77, 79, 86], .str [69], .str [67]]) := ⟨by kernel_rfl⟩
theorem m105 : Memo1 call0 37 [.int .u8 90] (.sl false 3 [.str [77, 79, 86], .str [69], .str [68]]) := ⟨by kernel_rfl⟩
theorem m106 : Memo1 call0 37 [.int .u8 91] (.sl false 3 [.str [77, 79, 86], .str [69], .str [69]]) := ⟨by kernel_rfl⟩
theorem m107 : Memo1 call0 37 [.int .u8 92] (.sl false 3 [.str [77, 79, 86], .str [69], .str [72]]) := ⟨by kernel_rfl⟩
theorem m108 : Memo1 call0 37 [.int .u8 93] (.sl false 3 [.str [77, 79, 86], .str [69], .str [76]]) := ⟨by kernel_rfl⟩
theorem m109 : Memo1 call0 37 [.int .u8 94] (.sl false 3 [.str [77, 79, 86], .str [69], .str [77]]) := ⟨by kernel_rfl⟩
theorem m110 : Memo1 call0 37 [.int .u8 95] (.sl false 3 [.str [77, 79, 86], .str [69], .str [65]]) := ⟨by kernel_rfl⟩
theorem m111 : Memo1 call0 37 [.int .u8 96] (.sl false 3 [.str [77, 79, 86], .str [72], .str [66]]) := ⟨by kernel_rfl⟩
theorem m112 : Memo1 call0 37 [.int .u8 97] (.sl false 3 [.str [77, 79, 86], .str [72], .str [67]]) := ⟨by kernel_rfl⟩
theorem m113 : Memo1 call0 37 [.int .u8 98] (.sl false 3 [.str [77, 79, 86], .str [72], .str [68]]) := ⟨by kernel_rfl⟩
theorem m114 : Memo1 call0 37 [.int .u8 99] (.sl false 3 [.str [77, 79, 86], .str [72], .str [69]]) := ⟨by kernel_rfl⟩
theorem m115 : Memo1 call0 37 [.int .u8 100] (.sl false 3 [.str [77, 79, 86], .str [72], .str [72]]) := ⟨by kernel_rfl⟩
theorem m116 : Memo1 call0 37 [.int .u8 101] (.sl false 3 [.str [77, 79, 86], .str [72], .str [76]]) := ⟨by kernel_rfl⟩
theorem m117 : Memo1 call0 37 [.int .u8 102] (.sl false 3 [.str [77, 79, 86], .str [72], .str [77]]) := ⟨by kernel_rfl⟩
theorem m118 : Memo1 call0 37 [.int .u8 103] (.sl false 3 [.str [77, 79, 86], .str [72], .str [65]]) := ⟨by kernel_rfl⟩
theorem m119 : Memo1 call0 37 [.int .u8 104] (.sl false 3 [.str [77, 79, 86], .str [76], .str [66]]) := ⟨by kernel_rfl⟩
theorem m120 : Memo1 call0 37 [.int .u8 105] (.sl false 3 [.str [77, 79, 86], .str [76], .str [67]]) := ⟨by kernel_rfl⟩
theorem m121 : Memo1 call0 37 [.int .u8 106] (.sl false 3 [.str [77, 79, 86], .str [76], .str [68]]) := ⟨by kernel_rfl⟩
theorem m122 : Memo1 call0 37 [.int .u8 107] (.sl false 3 [.str [77, 79, 86], .str [76], .str [69]]) := ⟨by kernel_rfl⟩
theorem m123 : Memo1 call0 37 [.int .u8 108] (.sl false 3 [.str [77, 79, 86], .str [76], .str [72]]) := ⟨by kernel_rfl⟩
theorem m124 : Memo1 call0 37 [.int .u8 109] (.sl false 3 [.str [77, 79, 86], .str [76], .str [76]]) := ⟨by kernel_rfl⟩
theorem m125 : Memo1 call0 37 [.int .u8 110] (.sl false 3 [.str [77, 79, 86], .str [76], .str [77]]) := ⟨by kernel_rfl⟩
theorem m126 : Memo1 call0 37 [.int .u8 111] (.sl false 3 [.str [77, 79, 86], .str [76], .str [65]]) := ⟨by kernel_rfl⟩
theorem m127 : Memo1 call0 37 [.int .u8 112] (.sl false 3 [.str [77, 79, 86], .str [77], .str [66]]) := ⟨by kernel_rfl⟩
theorem m128 : Memo1 call0 37 [.int .u8 113] (.sl false 3 [.str [77, 79, 86], .str [77], .str [67]]) := ⟨by kernel_rfl⟩
theorem m129 : Memo1 call0 37 [.int .u8 114] (.sl false 3 [.str [77, 79, 86], .str [77], .str [68]]) := ⟨by kernel_rfl⟩
theorem m130 : Memo1 call0 37 [.int .u8 115] (.sl false 3 [.str [77, 79, 86], .str [77], .str [69]]) := ⟨by kernel_rfl⟩
theorem m131 : Memo1 call0 37 [.int .u8 116] (.sl false 3 [.str [77, 79, 86], .str [77], .str [72]]) := ⟨by kernel_rfl⟩
theorem m132 : Memo1 call0 37 [.int .u8 117] (.sl false 3 [.str [77, 79, 86], .str [77], .str [76]]) := ⟨by kernel_rfl⟩
theorem m133 : Memo1 call0 37 [.int .u8 118] (.sl false 1 [.str [72, 76, 84]]) := ⟨by kernel_rfl⟩
theorem m134 : Memo1 call0 50 [.str [76, 48, 48, 48, 48]] (.bool true) := ⟨by kernel_rfl⟩
theorem m135 : Memo1 call0 51 [.str [76, 48, 48, 48, 48]] (.str [76, 48, 48, 48, 48]) := ⟨by kernel_rfl⟩
theorem m136 : Memo1 call0 135 [.str (79 :: 82 :: 32 :: 88 :: 79 :: 82 :: 32 :: 65 :: 78 :: 68 :: 32 :: 78 :: 79 :: 84 :: 32 :: 77 :: 79 :: 68 :: 32 :: 83 :: 72 :: 76 :: 32 :: 83 :: 72 :: 82 :: 32 :: 65 :: 76 :: 32 :: 67 :: 76 :: 32 :: 68 :: 76 :: 32 :: 66 :: 76 :: 32 :: 65 :: 72 :: 32 :: 67 :: 72 :: 32 :: 68 :: 72 :: 32 :: 66 :: 72 :: 32 :: 65 :: 88 :: 32 :: 67 :: 88 :: 32 :: 68 :: 88 :: 32 :: 66 :: 88 :: 32 :: 83 :: 80 :: 32 :: 66 :: 80 :: 32 :: 83 :: 73 :: 32 :: 68 :: 73 :: [])] (.sl false 23 (.str [79, 82] :: .str [88, 79, 82] :: .str [65, 78, 68] :: .str [78, 79, 84] :: .str [77, 79, 68] :: .str [83, 72, 76] :: .str [83, 72, 82] :: .str [65, 76] :: .str [67, 76] :: .str [68, 76] :: .str [66, 76] :: .str [65, 72] :: .str [67, 72] :: .str [68, 72] :: .str [66, 72] :: .str [65, 88] :: .str [67, 88] :: .str [68, 88] :: .str [66, 88] :: .str [83, 80] :: .str [66, 80] :: .str [83, 73] :: .str [68, 73] :: [])) := ⟨by kernel_rfl⟩
theorem m137 : Memo1 call0 21 [.str [76, 48, 48, 48, 48]] (.bool false) := ⟨by kernel_rfl⟩
theorem m138 : Memo1 call0 50 [.str [76, 65, 72, 70]] (.bool true) := ⟨by kernel_rfl⟩
theorem m139 : Memo1 call0 51 [.str [76, 65, 72, 70]] (.str [76, 65, 72, 70]) := ⟨by kernel_rfl⟩
theorem m140 : Memo1 call0 21 [.str [76, 65, 72, 70]] (.bool false) := ⟨by kernel_rfl⟩
theorem m141 : Memo1 call0 50 [.str [73, 78, 67]] (.bool true) := ⟨by kernel_rfl⟩
theorem m142 : Memo1 call0 51 [.str [73, 78, 67]] (.str [73, 78, 67]) := ⟨by kernel_rfl⟩
theorem m143 : Memo1 call0 21 [.str [73, 78, 67]] (.bool false) := ⟨by kernel_rfl⟩
theorem m144 : Memo1 call0 50 [.str [83, 65, 72, 70]] (.bool true) := ⟨by kernel_rfl⟩
theorem m145 : Memo1 call0 51 [.str [83, 65, 72, 70]] (.str [83, 65, 72, 70]) := ⟨by kernel_rfl⟩
theorem m146 : Memo1 call0 21 [.str [83, 65, 72, 70]] (.bool false) := ⟨by kernel_rfl⟩
theorem m147 : Memo1 call0 50 [.str [76, 48, 48, 48, 49]] (.bool true) := ⟨by kernel_rfl⟩
theorem m148 : Memo1 call0 51 [.str [76, 48, 48, 48, 49]] (.str [76, 48, 48, 48, 49]) := ⟨by kernel_rfl⟩
theorem m149 : Memo1 call0 21 [.str [76, 48, 48, 48, 49]] (.bool false) := ⟨by kernel_rfl⟩
theorem m150 : Memo1 call0 50 [.str [69, 78, 68]] (.bool true) := ⟨by kernel_rfl⟩
theorem m151 : Memo1 call0 51 [.str [69, 78, 68]] (.str [69, 78, 68]) := ⟨by kernel_rfl⟩
theorem m152 : Memo1 call0 21 [.str [69, 78, 68]] (.bool false) := ⟨by kernel_rfl⟩
theorem m153 : Memo1 call0 51 [.str [66, 88]] (.str [66, 88]) := ⟨by kernel_rfl⟩
theorem m154 : Memo1 call0 21 [.str [66, 88]] (.bool false) := ⟨by kernel_rfl⟩
theorem m155 : Memo1 call0 218 [.str [76, 65, 72, 70]] (.tup [.int .i64 0, .int .i64 0, .bool false]) := ⟨by kernel_rfl⟩
end Go.Proofs.QQ
end
section
set_option maxRecDepth 100000
namespace Go.Proofs.QQ
open Go
theorem m341 : Memo1 call0 21 [.str [68, 66]] (.bool false) := ⟨by kernel_rfl⟩
theorem m342 : Memo1 call0 302 [.sl false 2 (.str [72] :: .str [] :: .bool false :: .bool false :: .str [] :: .int .u16 0 :: .str [] :: .nils :: .str [] :: .str [] :: .bool false :: .bool false :: .str [110] :: .int .u16 0 :: .str [68, 65, 84, 65] :: .nils :: []), .str []] (.tup [.sl false 2 [.str [72], .str []], .int .i64 1]) := ⟨by kernel_rfl⟩
theorem m343 : Memo1 call0 302 [.sl false 2 (.str [72] :: .str [] :: .bool false :: .bool false :: .str [] :: .int .u16 0 :: .str [] :: .nils :: .str [] :: .str [] :: .bool false :: .bool false :: .str [110] :: .int .u16 0 :: .str [68, 65, 84, 65] :: .nils :: []), .str [100, 56]] (.tup [.sl false 2 [.str [72], .str [100, 56]], .int .i64 1]) := ⟨by kernel_rfl⟩
theorem m344 : Memo1 call0 302 [.sl false 2 (.str [72] :: .str [] :: .bool false :: .bool false :: .str [] :: .int .u16 0 :: .str [] :: .nils :: .str [] :: .str [] :: .bool false :: .bool false :: .str [110] :: .int .u16 0 :: .str [68, 65, 84, 65] :: .nils :: []), .str [100, 49, 54]] (.tup [.sl false 2 [.str [72], .str [100, 49, 54]], .int .i64 1]) := ⟨by kernel_rfl⟩
theorem m345 : Memo1 call0 218 [.str [68, 66]] (.tup [.int .i64 1, .int .i64 32, .bool true]) := ⟨by kernel_rfl⟩
theorem m346 : Memo1 call0 50 [.str [77, 79, 86]] (.bool true) := ⟨by kernel_rfl⟩
theorem m347 : Memo1 call0 51 [.str [77, 79, 86]] (.str [77, 79, 86]) := ⟨by kernel_rfl⟩
theorem m348 : Memo1 call0 21 [.str [77, 79, 86]] (.bool false) := ⟨by kernel_rfl⟩
theorem m349 : Memo1 call0 50 [.str [76, 48, 48, 48, 51]] (.bool true) := ⟨by kernel_rfl⟩
theorem m350 : Memo1 call0 51 [.str [76, 48, 48, 48, 51]] (.str [76, 48, 48, 48, 51]) := ⟨by kernel_rfl⟩
theorem m351 : Memo1 call0 21 [.str [76, 48, 48, 48, 51]] (.bool false) := ⟨by kernel_rfl⟩
theorem m352 : Memo1 call0 51 [.str [52]] (.str [52]) := ⟨by kernel_rfl⟩
theorem m353 : Memo1 call0 218 [.str [77, 79, 86]] (.tup [.int .i64 0, .int .i64 0, .bool false]) := ⟨by kernel_rfl⟩
theorem m354 : Memo1 call0 51 [.str [101, 110, 100]] (.str [69, 78, 68]) := ⟨by kernel_rfl⟩
theorem m355 : Memo1 call0 51 [.str [100, 119]] (.str [68, 87]) := ⟨by kernel_rfl⟩
theorem m356 : Memo1 call0 50 [.str [68, 87]] (.bool true) := ⟨by kernel_rfl⟩
theorem m357 : Memo1 call0 51 [.str [68, 87]] (.str [68, 87]) := ⟨by kernel_rfl⟩
theorem m358 : Memo1 call0 21 [.str [68, 87]] (.bool false) := ⟨by kernel_rfl⟩
theorem m359 : Memo1 call0 218 [.str [68, 87]] (.tup [.int .i64 1, .int .i64 32, .bool true]) := ⟨by kernel_rfl⟩
end Go.Proofs.QQ
end
