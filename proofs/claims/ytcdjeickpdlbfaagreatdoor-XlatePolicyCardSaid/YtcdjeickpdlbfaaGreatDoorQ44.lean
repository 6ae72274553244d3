/- A part of the proof that XlatePolicy returns true at every argument: the reader machine and this translation under it. Conditions: those that each theorem bears. -/
import Derived.Test.YtcdjeickpdlbfaaGreatDoorRows
import Derived.ProofKit
import Derived.SevenTiedAt
import Derived.Stop.Joined
section
namespace Go.Proofs.QQ
open Go Go.ChangeShapes Go.WideShapes Go.ChangeAt Go.RowKit
open Go.Proofs.YtcdjeickpdlbfaaGreatDoor
set_option maxRecDepth 100000
theorem cf1 : Tryz.pinned.checked.prog.funcNamed Rows.xlatePolicyRow.func = some 4 := by kernel_rfl
theorem cf3 : Tryz.f4.isInstance Tryz.pinned.checked.prog Rows.xlatePolicyRow.origin Rows.xlatePolicyRow.targs := (of_decide_eq_true (by kernel_rfl))
theorem cf4 : Tryz.f4.isWrapper Tryz.pinned.checked.prog Rows.xlatePolicyRow.wrapper Rows.xlatePolicyRow.mainSum := (by unfold Func.isWrapper; first | (rw [if_pos (by decide +kernel)]; kernel_rfl) | (rw [if_neg (by decide +kernel)]; exact ⟨rfl, rfl⟩))
theorem cf2 : joinedFacts Tryz.pinned.checked.prog 4 Tryz.f4 Rows.xlatePolicySpec Rows.xlatePolicyRow = true := by kernel_rfl
end Go.Proofs.QQ
end
