/- A part of the proof that XlatePolicy returns true at every argument: the reader machine and this translation under it. Conditions: those that each theorem bears. -/
import Derived.Test.YtcdjeickpdlbfaaGreatDoorQ37
import Derived.Test.YtcdjeickpdlbfaaGreatDoorQ38
import Derived.Test.YtcdjeickpdlbfaaGreatDoorQ39
section
set_option maxRecDepth 100000
namespace Go.Proofs.QQ
open Go
def tab8 : MemoT := [([.str [105, 110, 120, 32, 104, 10, 104, 108, 116], .bool false], .tup [.agg [.str (76 :: 48 :: 48 :: 48 :: 48 :: 58 :: 32 :: 76 :: 65 :: 72 :: 70 :: 10 :: 73 :: 78 :: 67 :: 32 :: 66 :: 88 :: 10 :: 83 :: 65 :: 72 :: 70 :: 10 :: 76 :: 48 :: 48 :: 48 :: 49 :: 58 :: 32 :: 72 :: 76 :: 84 :: 10 :: 69 :: 78 :: 68 :: 32 :: 76 :: 48 :: 48 :: 48 :: 48 :: 10 :: []), .sl false 2 [.int .u16 0, .int .u8 35, .int .u16 0, .int .u16 1, .int .u8 118, .int .u16 0], .sl false 2 [.int .i64 31, .int .i64 31]], .agg [.int .i64 0, .int .i64 0]]), ([.str (99 :: 111 :: 100 :: 101 :: 58 :: 32 :: 110 :: 111 :: 112 :: 10 :: 108 :: 120 :: 105 :: 32 :: 104 :: 44 :: 99 :: 111 :: 100 :: 101 :: 10 :: 104 :: 108 :: 116 :: []), .bool false], .tup [.agg [.str [], .nils, .nils], .agg [.int .i64 2, .int .i64 9]]), ([.str (99 :: 111 :: 100 :: 101 :: 58 :: 32 :: 110 :: 111 :: 112 :: 10 :: 112 :: 99 :: 104 :: 108 :: []), .bool false], .tup [.agg [.str [], .nils, .nils], .agg [.int .i64 2, .int .i64 10]]), ([.str [106, 109, 112, 32, 49, 10, 104, 108, 116], .bool false], .tup [.agg [.str [], .nils, .nils], .agg [.int .i64 1, .int .i64 10]]), ([.str (108 :: 120 :: 105 :: 32 :: 104 :: 44 :: 100 :: 97 :: 116 :: 97 :: 10 :: 104 :: 108 :: 116 :: 10 :: 100 :: 97 :: 116 :: 97 :: 58 :: 32 :: 100 :: 98 :: 32 :: 53 :: []), .bool false], .tup [.agg [.str (76 :: 48 :: 48 :: 48 :: 48 :: 58 :: 32 :: 77 :: 79 :: 86 :: 32 :: 66 :: 88 :: 44 :: 52 :: 10 :: 76 :: 48 :: 48 :: 48 :: 51 :: 58 :: 32 :: 72 :: 76 :: 84 :: 10 :: 69 :: 78 :: 68 :: 32 :: 76 :: 48 :: 48 :: 48 :: 48 :: 10 :: []), .sl false 2 [.int .u16 0, .int .u8 33, .int .u16 4, .int .u16 3, .int .u8 118, .int .u16 0], .sl false 2 [.int .i64 31, .int .i64 31]], .agg [.int .i64 0, .int .i64 0]]), ([.str (110 :: 111 :: 112 :: 10 :: 104 :: 108 :: 116 :: 10 :: 101 :: 110 :: 100 :: 32 :: 53 :: []), .bool false], .tup [.agg [.str [], .nils, .nils], .agg [.int .i64 0, .int .i64 10]]), ([.str (99 :: 111 :: 100 :: 101 :: 58 :: 32 :: 104 :: 108 :: 116 :: 10 :: 100 :: 119 :: 32 :: 99 :: 111 :: 100 :: 101 :: []), .bool false], .tup [.agg [.str [], .nils, .nils], .agg [.int .i64 2, .int .i64 9]])]
theorem tab8_ok : MemoOk Tryz.prog TT 8 tab8 := (.cons call4_ok m449 (.cons call4_ok m450 (.cons call4_ok m451 (.cons call4_ok m452 (.cons call4_ok m453 (.cons call4_ok m454 (.cons call4_ok m455 .nil)))))))
end Go.Proofs.QQ
end
section
set_option maxRecDepth 100000
namespace Go.Proofs.QQ
open Go
noncomputable def memos5 : NT MemoT := (.node 55 (.node 26 (.node 19 (.node 11 (.leaf 8 tab8) (.leaf 11 tab11)) (.node 20 (.leaf 19 tab19) (.node 21 (.leaf 20 tab20) (.leaf 21 tab21)))) (.node 49 (.node 37 (.leaf 26 tab26) (.leaf 37 tab37)) (.node 50 (.leaf 49 tab49) (.node 51 (.leaf 50 tab50) (.leaf 51 tab51))))) (.node 303 (.node 135 (.node 68 (.leaf 55 tab55) (.leaf 68 tab68)) (.node 218 (.leaf 135 tab135) (.node 302 (.leaf 218 tab218) (.leaf 302 tab302)))) (.node 311 (.node 310 (.leaf 303 tab303) (.leaf 310 tab310)) (.node 319 (.leaf 311 tab311) (.node 329 (.leaf 319 tab319) (.leaf 329 tab329))))))
theorem memos5_ok : memos5.All (MemoOk Tryz.prog TT) := And.intro (And.intro (And.intro (And.intro (tab8_ok) (tab11_ok)) (And.intro (tab19_ok) (And.intro (tab20_ok) (tab21_ok)))) (And.intro (And.intro (tab26_ok) (tab37_ok)) (And.intro (tab49_ok) (And.intro (tab50_ok) (tab51_ok))))) (And.intro (And.intro (And.intro (tab55_ok) (tab68_ok)) (And.intro (tab135_ok) (And.intro (tab218_ok) (tab302_ok)))) (And.intro (And.intro (tab303_ok) (tab310_ok)) (And.intro (tab311_ok) (And.intro (tab319_ok) (tab329_ok)))))
noncomputable def call5 : Caller := seatCall TT fns ext2 memos5 300 60
theorem call5_ok : CallOk Tryz.prog TT call5 := seatCall_ok TT_ok pe mixed fns_ok ext2_ok memos5_ok 300 60
end Go.Proofs.QQ
end
section
set_option maxRecDepth 100000
namespace Go.Proofs.QQ
open Go
theorem m456 : Memo1 call5 6 [] (.bool true) := ⟨by kernel_rfl⟩
end Go.Proofs.QQ
end
section
set_option maxRecDepth 100000
namespace Go.Proofs.QQ
open Go
def tab6 : MemoT := [([], .bool true)]
theorem tab6_ok : MemoOk Tryz.prog TT 6 tab6 := (.cons call5_ok m456 .nil)
end Go.Proofs.QQ
end
section
set_option maxRecDepth 100000
namespace Go.Proofs.QQ
open Go
noncomputable def memos6 : NT MemoT := (.node 51 (.node 21 (.node 11 (.node 8 (.leaf 6 tab6) (.leaf 8 tab8)) (.node 19 (.leaf 11 tab11) (.node 20 (.leaf 19 tab19) (.leaf 20 tab20)))) (.node 37 (.node 26 (.leaf 21 tab21) (.leaf 26 tab26)) (.node 49 (.leaf 37 tab37) (.node 50 (.leaf 49 tab49) (.leaf 50 tab50))))) (.node 302 (.node 68 (.node 55 (.leaf 51 tab51) (.leaf 55 tab55)) (.node 135 (.leaf 68 tab68) (.node 218 (.leaf 135 tab135) (.leaf 218 tab218)))) (.node 311 (.node 303 (.leaf 302 tab302) (.node 310 (.leaf 303 tab303) (.leaf 310 tab310))) (.node 319 (.leaf 311 tab311) (.node 329 (.leaf 319 tab319) (.leaf 329 tab329))))))
theorem memos6_ok : memos6.All (MemoOk Tryz.prog TT) := And.intro (And.intro (And.intro (And.intro (tab6_ok) (tab8_ok)) (And.intro (tab11_ok) (And.intro (tab19_ok) (tab20_ok)))) (And.intro (And.intro (tab21_ok) (tab26_ok)) (And.intro (tab37_ok) (And.intro (tab49_ok) (tab50_ok))))) (And.intro (And.intro (And.intro (tab51_ok) (tab55_ok)) (And.intro (tab68_ok) (And.intro (tab135_ok) (tab218_ok)))) (And.intro (And.intro (tab302_ok) (And.intro (tab303_ok) (tab310_ok))) (And.intro (tab311_ok) (And.intro (tab319_ok) (tab329_ok)))))
noncomputable def call6 : Caller := seatCall TT fns ext2 memos6 300 60
theorem call6_ok : CallOk Tryz.prog TT call6 := seatCall_ok TT_ok pe mixed fns_ok ext2_ok memos6_ok 300 60
end Go.Proofs.QQ
end
