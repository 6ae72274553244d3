/- A part of the proof that XlatePolicy returns true at every argument: the reader machine and this translation under it. Conditions: those that each theorem bears. -/
import Derived.Test.YtcdjeickpdlbfaaGreatDoorRows
import Derived.Test.YtcdjeickpdlbfaaGreatDoorCards
import Derived.Test.YtcdjeickpdlbfaaGreatDoorTie
import Derived.ProofKit
import Derived.SevenTiedAt
import Derived.Stop.Joined
section
namespace Go.Proofs.QQ
open Go Go.ChangeShapes Go.WideShapes Go.ChangeAt Go.RowKit
open Go.Proofs.YtcdjeickpdlbfaaGreatDoor
set_option maxRecDepth 100000
theorem cf5 : Rows.xlatePolicyRow.wfByText (OpenSpec.ofChange Rows.xlatePolicySpec) = true := by kernel_rfl
theorem cf6 : Tryz.pinned.checked.prog.mainIs = some (true, "844d1fc8f12b7bf0a6b0bb21ada3fb424b1888b21aecff75d96965c0f100620a".toList) := by kernel_rfl
theorem cf7 : false = Tryz.pinned.checked.prog.looks [] := by kernel_rfl
theorem cf8 : ([22].all fun u => !Tryz.prog.wantsStandIn u) = true := by kernel_rfl
theorem cf9 : false = Rows.xlatePolicyRow.goesBy Tryz.pinned.checked.prog := by kernel_rfl
end Go.Proofs.QQ
end
