/- A part of the proof that XlatePolicy returns true at every argument: the reader machine and this translation under it. Conditions: those that each theorem bears. -/
import Derived.Test.YtcdjeickpdlbfaaGreatDoorQ23
section
set_option maxRecDepth 100000
namespace Go.Proofs.QQ
open Go
theorem m0 : Memo1 call0 51 [.str [105, 110, 120]] (.str [73, 78, 88]) := ⟨by kernel_rfl⟩
theorem m1 : Memo1 call0 51 [.str [104]] (.str [72]) := ⟨by kernel_rfl⟩
theorem m2 : Memo1 call0 21 [.str [72]] (.bool false) := ⟨by kernel_rfl⟩
theorem m3 : Memo1 call0 135 [.str (79 :: 82 :: 32 :: 88 :: 79 :: 82 :: 32 :: 65 :: 78 :: 68 :: 32 :: 78 :: 79 :: 84 :: 32 :: 77 :: 79 :: 68 :: 32 :: 83 :: 72 :: 76 :: 32 :: 83 :: 72 :: 82 :: 32 :: 65 :: 32 :: 66 :: 32 :: 67 :: 32 :: 68 :: 32 :: 69 :: 32 :: 72 :: 32 :: 76 :: 32 :: 77 :: 32 :: 83 :: 80 :: 32 :: 80 :: 83 :: 87 :: [])] (.sl false 17 (.str [79, 82] :: .str [88, 79, 82] :: .str [65, 78, 68] :: .str [78, 79, 84] :: .str [77, 79, 68] :: .str [83, 72, 76] :: .str [83, 72, 82] :: .str [65] :: .str [66] :: .str [67] :: .str [68] :: .str [69] :: .str [72] :: .str [76] :: .str [77] :: .str [83, 80] :: .str [80, 83, 87] :: [])) := ⟨by kernel_rfl⟩
theorem m4 : Memo1 call0 50 [.str [73, 78, 88]] (.bool true) := ⟨by kernel_rfl⟩
theorem m5 : Memo1 call0 51 [.str [73, 78, 88]] (.str [73, 78, 88]) := ⟨by kernel_rfl⟩
theorem m6 : Memo1 call0 21 [.str [73, 78, 88]] (.bool false) := ⟨by kernel_rfl⟩
theorem m7 : Memo1 call0 51 [.str [104, 108, 116]] (.str [72, 76, 84]) := ⟨by kernel_rfl⟩
theorem m8 : Memo1 call0 50 [.str [72, 76, 84]] (.bool true) := ⟨by kernel_rfl⟩
theorem m9 : Memo1 call0 51 [.str [72, 76, 84]] (.str [72, 76, 84]) := ⟨by kernel_rfl⟩
theorem m10 : Memo1 call0 21 [.str [72, 76, 84]] (.bool false) := ⟨by kernel_rfl⟩
theorem m11 : Memo1 call0 218 [.str [73, 78, 88]] (.tup [.int .i64 0, .int .i64 0, .bool false]) := ⟨by kernel_rfl⟩
theorem m12 : Memo1 call0 302 [.sl false 1 [.str [72], .str [], .bool false, .bool false, .str [], .int .u16 0, .str [], .nils], .str []] (.tup [.sl false 1 [.str [72]], .int .i64 (-1)]) := ⟨by kernel_rfl⟩
theorem m13 : Memo1 call0 37 [.int .u8 0] (.sl false 1 [.str [78, 79, 80]]) := ⟨by kernel_rfl⟩
theorem m14 : Memo1 call0 37 [.int .u8 1] (.sl false 3 [.str [76, 88, 73], .str [66], .str [100, 49, 54]]) := ⟨by kernel_rfl⟩
theorem m15 : Memo1 call0 37 [.int .u8 2] (.sl false 2 [.str [83, 84, 65, 88], .str [66]]) := ⟨by kernel_rfl⟩
theorem m16 : Memo1 call0 37 [.int .u8 3] (.sl false 2 [.str [73, 78, 88], .str [66]]) := ⟨by kernel_rfl⟩
theorem m17 : Memo1 call0 37 [.int .u8 4] (.sl false 2 [.str [73, 78, 82], .str [66]]) := ⟨by kernel_rfl⟩
theorem m18 : Memo1 call0 37 [.int .u8 5] (.sl false 2 [.str [68, 67, 82], .str [66]]) := ⟨by kernel_rfl⟩
theorem m19 : Memo1 call0 37 [.int .u8 6] (.sl false 3 [.str [77, 86, 73], .str [66], .str [100, 56]]) := ⟨by kernel_rfl⟩
theorem m20 : Memo1 call0 37 [.int .u8 7] (.sl false 1 [.str [82, 76, 67]]) := ⟨by kernel_rfl⟩
theorem m21 : Memo1 call0 37 [.int .u8 8] (.nils) := ⟨by kernel_rfl⟩
theorem m22 : Memo1 call0 37 [.int .u8 9] (.sl false 2 [.str [68, 65, 68], .str [66]]) := ⟨by kernel_rfl⟩
theorem m23 : Memo1 call0 37 [.int .u8 10] (.sl false 2 [.str [76, 68, 65, 88], .str [66]]) := ⟨by kernel_rfl⟩
theorem m24 : Memo1 call0 37 [.int .u8 11] (.sl false 2 [.str [68, 67, 88], .str [66]]) := ⟨by kernel_rfl⟩
theorem m25 : Memo1 call0 37 [.int .u8 12] (.sl false 2 [.str [73, 78, 82], .str [67]]) := ⟨by kernel_rfl⟩
theorem m26 : Memo1 call0 37 [.int .u8 13] (.sl false 2 [.str [68, 67, 82], .str [67]]) := ⟨by kernel_rfl⟩
theorem m27 : Memo1 call0 37 [.int .u8 14] (.sl false 3 [.str [77, 86, 73], .str [67], .str [100, 56]]) := ⟨by kernel_rfl⟩
theorem m28 : Memo1 call0 37 [.int .u8 15] (.sl false 1 [.str [82, 82, 67]]) := ⟨by kernel_rfl⟩
theorem m29 : Memo1 call0 37 [.int .u8 16] (.nils) := ⟨by kernel_rfl⟩
theorem m30 : Memo1 call0 37 [.int .u8 17] (.sl false 3 [.str [76, 88, 73], .str [68], .str [100, 49, 54]]) := ⟨by kernel_rfl⟩
theorem m31 : Memo1 call0 37 [.int .u8 18] (.sl false 2 [.str [83, 84, 65, 88], .str [68]]) := ⟨by kernel_rfl⟩
theorem m32 : Memo1 call0 37 [.int .u8 19] (.sl false 2 [.str [73, 78, 88], .str [68]]) := ⟨by kernel_rfl⟩
theorem m33 : Memo1 call0 37 [.int .u8 20] (.sl false 2 [.str [73, 78, 82], .str [68]]) := ⟨by kernel_rfl⟩
theorem m34 : Memo1 call0 37 [.int .u8 21] (.sl false 2 [.str [68, 67, 82], .str [68]]) := ⟨by kernel_rfl⟩
theorem m35 : Memo1 call0 37 [.int .u8 22] (.sl false 3 [.str [77, 86, 73], .str [68], .str [100, 56]]) := ⟨by kernel_rfl⟩
theorem m36 : Memo1 call0 37 [.int .u8 23] (.sl false 1 [.str [82, 65, 76]]) := ⟨by kernel_rfl⟩
theorem m37 : Memo1 call0 37 [.int .u8 24] (.nils) := ⟨by kernel_rfl⟩
theorem m38 : Memo1 call0 37 [.int .u8 25] (.sl false 2 [.str [68, 65, 68], .str [68]]) := ⟨by kernel_rfl⟩
theorem m39 : Memo1 call0 37 [.int .u8 26] (.sl false 2 [.str [76, 68, 65, 88], .str [68]]) := ⟨by kernel_rfl⟩
theorem m40 : Memo1 call0 37 [.int .u8 27] (.sl false 2 [.str [68, 67, 88], .str [68]]) := ⟨by kernel_rfl⟩
theorem m41 : Memo1 call0 37 [.int .u8 28] (.sl false 2 [.str [73, 78, 82], .str [69]]) := ⟨by kernel_rfl⟩
theorem m42 : Memo1 call0 37 [.int .u8 29] (.sl false 2 [.str [68, 67, 82], .str [69]]) := ⟨by kernel_rfl⟩
theorem m43 : Memo1 call0 37 [.int .u8 30] (.sl false 3 [.str [77, 86, 73], .str [69], .str [100, 56]]) := ⟨by kernel_rfl⟩
theorem m44 : Memo1 call0 37 [.int .u8 31] (.sl false 1 [.str [82, 65, 82]]) := ⟨by kernel_rfl⟩
theorem m45 : Memo1 call0 37 [.int .u8 32] (.nils) := ⟨by kernel_rfl⟩
theorem m46 : Memo1 call0 37 [.int .u8 33] (.sl false 3 [.str [76, 88, 73], .str [72], .str [100, 49, 54]]) := ⟨by kernel_rfl⟩
theorem m47 : Memo1 call0 37 [.int .u8 34] (.sl false 2 [.str [83, 72, 76, 68], .str [100, 49, 54]]) := ⟨by kernel_rfl⟩
theorem m48 : Memo1 call0 37 [.int .u8 35] (.sl false 2 [.str [73, 78, 88], .str [72]]) := ⟨by kernel_rfl⟩
theorem m49 : Memo1 call0 218 [.str [72, 76, 84]] (.tup [.int .i64 0, .int .i64 0, .bool false]) := ⟨by kernel_rfl⟩
theorem m50 : Memo1 call0 302 [.nils, .str []] (.tup [.nils, .int .i64 (-1)]) := ⟨by kernel_rfl⟩
theorem m51 : Memo1 call0 37 [.int .u8 36] (.sl false 2 [.str [73, 78, 82], .str [72]]) := ⟨by kernel_rfl⟩
theorem m52 : Memo1 call0 37 [.int .u8 37] (.sl false 2 [.str [68, 67, 82], .str [72]]) := ⟨by kernel_rfl⟩
theorem m53 : Memo1 call0 37 [.int .u8 38] (.sl false 3 [.str [77, 86, 73], .str [72], .str [100, 56]]) := ⟨by kernel_rfl⟩
theorem m54 : Memo1 call0 37 [.int .u8 39] (.sl false 1 [.str [68, 65, 65]]) := ⟨by kernel_rfl⟩
theorem m55 : Memo1 call0 37 [.int .u8 40] (.nils) := ⟨by kernel_rfl⟩
theorem m56 : Memo1 call0 37 [.int .u8 41] (.sl false 2 [.str [68, 65, 68], .str [72]]) := ⟨by kernel_rfl⟩
theorem m57 : Memo1 call0 37 [.int .u8 42] (.sl false 2 [.str [76, 72, 76, 68], .str [100, 49, 54]]) := ⟨by kernel_rfl⟩
theorem m58 : Memo1 call0 37 [.int .u8 43] (.sl false 2 [.str [68, 67, 88], .str [72]]) := ⟨by kernel_rfl⟩
theorem m59 : Memo1 call0 37 [.int .u8 44] (.sl false 2 [.str [73, 78, 82], .str [76]]) := ⟨by kernel_rfl⟩
theorem m60 : Memo1 call0 37 [.int .u8 45] (.sl false 2 [.str [68, 67, 82], .str [76]]) := ⟨by kernel_rfl⟩
theorem m61 : Memo1 call0 37 [.int .u8 46] (.sl false 3 [.str [77, 86, 73], .str [76], .str [100, 56]]) := ⟨by kernel_rfl⟩
theorem m62 : Memo1 call0 37 [.int .u8 47] (.sl false 1 [.str [67, 77, 65]]) := ⟨by kernel_rfl⟩
theorem m63 : Memo1 call0 37 [.int .u8 48] (.nils) := ⟨by kernel_rfl⟩
theorem m64 : Memo1 call0 37 [.int .u8 49] (.sl false 3 [.str [76, 88, 73], .str [83, 80], .str [100, 49, 54]]) := ⟨by kernel_rfl⟩
theorem m65 : Memo1 call0 37 [.int .u8 50] (.sl false 2 [.str [83, 84, 65], .str [100, 49, 54]]) := ⟨by kernel_rfl⟩
theorem m66 : Memo1 call0 37 [.int .u8 51] (.sl false 2 [.str [73, 78, 88], .str [83, 80]]) := ⟨by kernel_rfl⟩
theorem m67 : Memo1 call0 37 [.int .u8 52] (.sl false 2 [.str [73, 78, 82], .str [77]]) := ⟨by kernel_rfl⟩
theorem m68 : Memo1 call0 37 [.int .u8 53] (.sl false 2 [.str [68, 67, 82], .str [77]]) := ⟨by kernel_rfl⟩
theorem m69 : Memo1 call0 37 [.int .u8 54] (.sl false 3 [.str [77, 86, 73], .str [77], .str [100, 56]]) := ⟨by kernel_rfl⟩
theorem m70 : Memo1 call0 37 [.int .u8 55] (.sl false 1 [.str [83, 84, 67]]) := ⟨by kernel_rfl⟩
theorem m71 : Memo1 call0 37 [.int .u8 56] (.nils) := ⟨by kernel_rfl⟩
theorem m72 : Memo1 call0 37 [.int .u8 57] (.sl false 2 [.str [68, 65, 68], .str [83, 80]]) := ⟨by kernel_rfl⟩
theorem m73 : Memo1 call0 37 [.int .u8 58] (.sl false 2 [.str [76, 68, 65], .str [100, 49, 54]]) := ⟨by kernel_rfl⟩
theorem m74 : Memo1 call0 37 [.int .u8 59] (.sl false 2 [.str [68, 67, 88], .str [83, 80]]) := ⟨by kernel_rfl⟩
theorem m75 : Memo1 call0 37 [.int .u8 60] (.sl false 2 [.str [73, 78, 82], .str [65]]) := ⟨by kernel_rfl⟩
theorem m76 : Memo1 call0 37 [.int .u8 61] (.sl false 2 [.str [68, 67, 82], .str [65]]) := ⟨by kernel_rfl⟩
theorem m77 : Memo1 call0 37 [.int .u8 62] (.sl false 3 [.str [77, 86, 73], .str [65], .str [100, 56]]) := ⟨by kernel_rfl⟩
theorem m78 : Memo1 call0 37 [.int .u8 63] (.sl false 1 [.str [67, 77, 67]]) := ⟨by kernel_rfl⟩
theorem m79 : Memo1 call0 37 [.int .u8 64] (.sl false 3 [.str [77, 79, 86], .str [66], .str [66]]) := ⟨by kernel_rfl⟩
theorem m80 : Memo1 call0 37 [.int .u8 65] (.sl false 3 [.str [77, 79, 86], .str [66], .str [67]]) := ⟨by kernel_rfl⟩
theorem m81 : Memo1 call0 37 [.int .u8 66] (.sl false 3 [.str [77, 79, 86], .str [66], .str [68]]) := ⟨by kernel_rfl⟩
theorem m82 : Memo1 call0 37 [.int .u8 67] (.sl false 3 [.str [77, 79, 86], .str [66], .str [69]]) := ⟨by kernel_rfl⟩
theorem m83 : Memo1 call0 37 [.int .u8 68] (.sl false 3 [.str [77, 79, 86], .str [66], .str [72]]) := ⟨by kernel_rfl⟩
theorem m84 : Memo1 call0 37 [.int .u8 69] (.sl false 3 [.str [77, 79, 86], .str [66], .str [76]]) := ⟨by kernel_rfl⟩
theorem m85 : Memo1 call0 37 [.int .u8 70] (.sl false 3 [.str [77, 79, 86], .str [66], .str [77]]) := ⟨by kernel_rfl⟩
theorem m86 : Memo1 call0 37 [.int .u8 71] (.sl false 3 [.str [77, 79, 86], .str [66], .str [65]]) := ⟨by kernel_rfl⟩
theorem m87 : Memo1 call0 37 [.int .u8 72] (.sl false 3 [.str [77, 79, 86], .str [67], .str [66]]) := ⟨by kernel_rfl⟩
theorem m88 : Memo1 call0 37 [.int .u8 73] (.sl false 3 [.str [77, 79, 86], .str [67], .str [67]]) := ⟨by kernel_rfl⟩
theorem m89 : Memo1 call0 37 [.int .u8 74] (.sl false 3 [.str [77, 79, 86], .str [67], .str [68]]) := ⟨by kernel_rfl⟩
end Go.Proofs.QQ
end
section
set_option maxRecDepth 100000
namespace Go.Proofs.QQ
open Go
theorem m156 : Memo1 call0 135 [.str (77 :: 79 :: 86 :: 32 :: 65 :: 68 :: 68 :: 32 :: 79 :: 82 :: 32 :: 65 :: 68 :: 67 :: 32 :: 83 :: 66 :: 66 :: 32 :: 65 :: 78 :: 68 :: 32 :: 83 :: 85 :: 66 :: 32 :: 88 :: 79 :: 82 :: 32 :: 67 :: 77 :: 80 :: 32 :: 73 :: 78 :: 67 :: 32 :: 68 :: 69 :: 67 :: 32 :: 82 :: 79 :: 76 :: 32 :: 82 :: 79 :: 82 :: 32 :: 82 :: 67 :: 76 :: 32 :: 82 :: 67 :: 82 :: 32 :: 78 :: 79 :: 84 :: 32 :: 88 :: 67 :: 72 :: 71 :: 32 :: 80 :: 85 :: 83 :: 72 :: 32 :: 80 :: 79 :: 80 :: 32 :: 76 :: 65 :: 72 :: 70 :: 32 :: 83 :: 65 :: 72 :: 70 :: 32 :: 68 :: 65 :: 65 :: 32 :: 67 :: 77 :: 67 :: 32 :: 83 :: 84 :: 67 :: 32 :: 67 :: 76 :: 67 :: 32 :: 83 :: 84 :: 73 :: 32 :: 67 :: 76 :: 73 :: 32 :: 72 :: 76 :: 84 :: 32 :: 78 :: 79 :: 80 :: 32 :: 73 :: 78 :: 32 :: 79 :: 85 :: 84 :: 32 :: 74 :: 77 :: 80 :: 32 :: 74 :: 77 :: 80 :: 83 :: 32 :: 67 :: 65 :: 76 :: 76 :: 32 :: 82 :: 69 :: 84 :: [])] (.sl false 35 (.str [77, 79, 86] :: .str [65, 68, 68] :: .str [79, 82] :: .str [65, 68, 67] :: .str [83, 66, 66] :: .str [65, 78, 68] :: .str [83, 85, 66] :: .str [88, 79, 82] :: .str [67, 77, 80] :: .str [73, 78, 67] :: .str [68, 69, 67] :: .str [82, 79, 76] :: .str [82, 79, 82] :: .str [82, 67, 76] :: .str [82, 67, 82] :: .str [78, 79, 84] :: .str [88, 67, 72, 71] :: .str [80, 85, 83, 72] :: .str [80, 79, 80] :: .str [76, 65, 72, 70] :: .str [83, 65, 72, 70] :: .str [68, 65, 65] :: .str [67, 77, 67] :: .str [83, 84, 67] :: .str [67, 76, 67] :: .str [83, 84, 73] :: .str [67, 76, 73] :: .str [72, 76, 84] :: .str [78, 79, 80] :: .str [73, 78] :: .str [79, 85, 84] :: .str [74, 77, 80] :: .str [74, 77, 80, 83] :: .str [67, 65, 76, 76] :: .str [82, 69, 84] :: [])) := ⟨by kernel_rfl⟩
theorem m157 : Memo1 call0 319 [] (.agg [.sl false 35 (.str [77, 79, 86] :: .str [65, 68, 68] :: .str [79, 82] :: .str [65, 68, 67] :: .str [83, 66, 66] :: .str [65, 78, 68] :: .str [83, 85, 66] :: .str [88, 79, 82] :: .str [67, 77, 80] :: .str [73, 78, 67] :: .str [68, 69, 67] :: .str [82, 79, 76] :: .str [82, 79, 82] :: .str [82, 67, 76] :: .str [82, 67, 82] :: .str [78, 79, 84] :: .str [88, 67, 72, 71] :: .str [80, 85, 83, 72] :: .str [80, 79, 80] :: .str [76, 65, 72, 70] :: .str [83, 65, 72, 70] :: .str [68, 65, 65] :: .str [67, 77, 67] :: .str [83, 84, 67] :: .str [67, 76, 67] :: .str [83, 84, 73] :: .str [67, 76, 73] :: .str [72, 76, 84] :: .str [78, 79, 80] :: .str [73, 78] :: .str [79, 85, 84] :: .str [74, 77, 80] :: .str [74, 77, 80, 83] :: .str [67, 65, 76, 76] :: .str [82, 69, 84] :: []), .int .i64 1]) := ⟨by kernel_rfl⟩
theorem m158 : Memo1 call0 135 [.str (74 :: 66 :: 32 :: 74 :: 78 :: 66 :: 32 :: 74 :: 90 :: 32 :: 74 :: 78 :: 90 :: [])] (.sl false 4 [.str [74, 66], .str [74, 78, 66], .str [74, 90], .str [74, 78, 90]]) := ⟨by kernel_rfl⟩
theorem m159 : Memo1 call0 135 [.str (74 :: 83 :: 32 :: 74 :: 78 :: 83 :: 32 :: 74 :: 80 :: 32 :: 74 :: 78 :: 80 :: [])] (.sl false 4 [.str [74, 83], .str [74, 78, 83], .str [74, 80], .str [74, 78, 80]]) := ⟨by kernel_rfl⟩
theorem m160 : Memo1 call0 218 [.str [73, 78, 67]] (.tup [.int .i64 0, .int .i64 0, .bool false]) := ⟨by kernel_rfl⟩
end Go.Proofs.QQ
end
