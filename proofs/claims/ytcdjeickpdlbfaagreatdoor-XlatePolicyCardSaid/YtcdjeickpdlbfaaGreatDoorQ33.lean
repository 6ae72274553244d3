/- A part of the proof that XlatePolicy returns true at every argument: the reader machine and this translation under it. Conditions: those that each theorem bears. -/
import Derived.Test.YtcdjeickpdlbfaaGreatDoorQ28
import Derived.Test.YtcdjeickpdlbfaaGreatDoorQ29
import Derived.Test.YtcdjeickpdlbfaaGreatDoorQ30
import Derived.Test.YtcdjeickpdlbfaaGreatDoorQ31
import Derived.Test.YtcdjeickpdlbfaaGreatDoorQ32
section
set_option maxRecDepth 100000
namespace Go.Proofs.QQ
open Go
def tab11 : MemoT := [([.int .u8 35], .int .i64 1), ([.int .u8 118], .int .i64 1), ([.int .u8 0], .int .i64 1), ([.int .u8 33], .int .i64 3), ([.int .u8 233], .int .i64 1), ([.int .u8 195], .int .i64 3)]
theorem tab11_ok : MemoOk Tryz.prog TT 11 tab11 := (.cons call1_ok m365 (.cons call1_ok m366 (.cons call1_ok m388 (.cons call1_ok m389 (.cons call1_ok m392 (.cons call1_ok m397 .nil))))))
def tab20 : MemoT := (([.str [73, 78, 88]], .bool true) :: ([.str [72, 76, 84]], .bool true) :: ([.str [76, 48, 48, 48, 48]], .bool true) :: ([.str [76, 65, 72, 70]], .bool true) :: ([.str [73, 78, 67]], .bool true) :: ([.str [83, 65, 72, 70]], .bool true) :: ([.str [76, 48, 48, 48, 49]], .bool true) :: ([.str [69, 78, 68]], .bool true) :: ([.str [67, 79, 68, 69]], .bool true) :: ([.str [78, 79, 80]], .bool true) :: ([.str [76, 88, 73]], .bool true) :: ([.str [80, 67, 72, 76]], .bool true) :: ([.str [74, 77, 80]], .bool true) :: ([.str [68, 65, 84, 65]], .bool true) :: ([.str [68, 66]], .bool true) :: ([.str [77, 79, 86]], .bool true) :: ([.str [76, 48, 48, 48, 51]], .bool true) :: ([.str [68, 87]], .bool true) :: [])
theorem tab20_ok : MemoOk Tryz.prog TT 20 tab20 := (.cons call1_ok m361 (.cons call1_ok m362 (.cons call1_ok m367 (.cons call1_ok m369 (.cons call1_ok m370 (.cons call1_ok m372 (.cons call1_ok m373 (.cons call1_ok m375 (.cons call1_ok m380 (.cons call1_ok m382 (.cons call1_ok m383 (.cons call1_ok m390 (.cons call1_ok m393 (.cons call1_ok m399 (.cons call1_ok m400 (.cons call1_ok m401 (.cons call1_ok m402 (.cons call1_ok m405 .nil))))))))))))))))))
def tab49 : MemoT := [([.int .i64 0, .str [72]], .bool true), ([.int .i64 2, .str [76, 48, 48, 48, 48]], .bool false), ([.int .i64 2, .str [66, 88]], .bool true), ([.int .i64 2, .str [76, 48, 48, 48, 49]], .bool false), ([.int .i64 0, .str [67, 79, 68, 69]], .bool false), ([.int .i64 0, .str [68, 65, 84, 65]], .bool false), ([.int .i64 2, .str [76, 48, 48, 48, 51]], .bool false)]
theorem tab49_ok : MemoOk Tryz.prog TT 49 tab49 := (.cons call1_ok m360 (.cons call1_ok m368 (.cons call1_ok m371 (.cons call1_ok m374 (.cons call1_ok m381 (.cons call1_ok m398 (.cons call1_ok m403 .nil)))))))
def tab303 : MemoT := [([.str [73, 78, 88], .sl false 1 [.str [72]]], .tup [.int .u8 35, .bool true]), ([.str [72, 76, 84], .nils], .tup [.int .u8 118, .bool true]), ([.str [78, 79, 80], .nils], .tup [.int .u8 0, .bool true]), ([.str [76, 88, 73], .sl false 2 [.str [72], .str []]], .tup [.int .u8 0, .bool false]), ([.str [76, 88, 73], .sl false 2 [.str [72], .str [100, 56]]], .tup [.int .u8 0, .bool false]), ([.str [76, 88, 73], .sl false 2 [.str [72], .str [100, 49, 54]]], .tup [.int .u8 33, .bool true]), ([.str [80, 67, 72, 76], .nils], .tup [.int .u8 233, .bool true]), ([.str [74, 77, 80], .sl false 1 [.str []]], .tup [.int .u8 0, .bool false]), ([.str [74, 77, 80], .sl false 1 [.str [100, 56]]], .tup [.int .u8 0, .bool false]), ([.str [74, 77, 80], .sl false 1 [.str [100, 49, 54]]], .tup [.int .u8 195, .bool true])]
theorem tab303_ok : MemoOk Tryz.prog TT 303 tab303 := (.cons call1_ok m363 (.cons call1_ok m364 (.cons call1_ok m384 (.cons call1_ok m385 (.cons call1_ok m386 (.cons call1_ok m387 (.cons call1_ok m391 (.cons call1_ok m394 (.cons call1_ok m395 (.cons call1_ok m396 .nil))))))))))
def tab310 : MemoT := [([.str [76, 65, 72, 70]], .tup [.int .i64 20, .bool true]), ([.str [73, 78, 67]], .tup [.int .i64 10, .bool true]), ([.str [83, 65, 72, 70]], .tup [.int .i64 21, .bool true]), ([.str [72, 76, 84]], .tup [.int .i64 28, .bool true]), ([.str [77, 79, 86]], .tup [.int .i64 1, .bool true])]
theorem tab310_ok : MemoOk Tryz.prog TT 310 tab310 := (.cons call1_ok m376 (.cons call1_ok m377 (.cons call1_ok m378 (.cons call1_ok m379 (.cons call1_ok m404 .nil)))))
end Go.Proofs.QQ
end
section
set_option maxRecDepth 100000
namespace Go.Proofs.QQ
open Go
noncomputable def memos2 : NT MemoT := (.node 135 (.node 37 (.node 20 (.leaf 11 tab11) (.node 21 (.leaf 20 tab20) (.leaf 21 tab21))) (.node 50 (.node 49 (.leaf 37 tab37) (.leaf 49 tab49)) (.node 51 (.leaf 50 tab50) (.leaf 51 tab51)))) (.node 303 (.node 218 (.leaf 135 tab135) (.node 302 (.leaf 218 tab218) (.leaf 302 tab302))) (.node 319 (.node 310 (.leaf 303 tab303) (.leaf 310 tab310)) (.node 329 (.leaf 319 tab319) (.leaf 329 tab329)))))
theorem memos2_ok : memos2.All (MemoOk Tryz.prog TT) := And.intro (And.intro (And.intro (tab11_ok) (And.intro (tab20_ok) (tab21_ok))) (And.intro (And.intro (tab37_ok) (tab49_ok)) (And.intro (tab50_ok) (tab51_ok)))) (And.intro (And.intro (tab135_ok) (And.intro (tab218_ok) (tab302_ok))) (And.intro (And.intro (tab303_ok) (tab310_ok)) (And.intro (tab319_ok) (tab329_ok))))
noncomputable def call2 : Caller := seatCall TT fns ext0 memos2 300 60
theorem call2_ok : CallOk Tryz.prog TT call2 := seatCall_ok TT_ok pe mixed fns_ok ext0_ok memos2_ok 300 60
end Go.Proofs.QQ
end
