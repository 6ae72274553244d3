/- XlatePolicy, called with any argument, returns true, and the argument reads afterwards as it read before: the row, and the card that ties the listed package-level variables to the program's text. Conditions: none beyond the row's own (the listed variables hold what the program lays). -/
import Derived.Test.YtcdjeickpdlbfaaGreatDoorQ43
import Derived.Test.YtcdjeickpdlbfaaGreatDoorQ44
import Derived.Test.YtcdjeickpdlbfaaGreatDoorQ45
section
set_option linter.unusedVariables false
namespace Go.Proofs.YtcdjeickpdlbfaaGreatDoor
open Go Go.ChangeShapes Go.WideShapes Go.ChangeAt Go.RowKit
open Go.Proofs.QQ

theorem xlatePolicy_holds : Rows.XlatePolicySaid :=
  OpenClaim.holds_of_wide 4 Tryz.f4 rfl rfl rfl rfl rfl rfl rfl ⟨rfl, rfl, rfl, rfl, rfl⟩ rfl rfl rfl rfl rfl cf1 Tryz.func4 cf2 cf3 cf4
    (fun os started H enc _ => lifted os started H enc)

theorem xlatePolicy_card_holds : Rows.XlatePolicyCardSaid :=
  Claim7.holds_tied_plain_at .later [] [.data, .listed, .data, .pinned] true (true, "844d1fc8f12b7bf0a6b0bb21ada3fb424b1888b21aecff75d96965c0f100620a") false xlatePolicy_holds (fun _ h => by cases h) cf5 (fun _ h => by cases h) xlatePolicy_row_tie rfl ⟨rfl, rfl⟩ cf6 rfl
    (fun f fn hf hfn => by
      obtain rfl : f = 4 := Option.some.inj (cf1.symm.trans hf) |>.symm
      obtain rfl : fn = Tryz.f4 := (Option.some.inj (Tryz.func4.symm.trans hfn)).symm
      exact ⟨cf7, fun j t ht => by
        rw [Tryz.params4] at ht
        have hm : t ∈ [22] := by simpa using Array.mem_of_getElem? ht
        exact (show Tryz.prog.wantsStandIn t = false by simpa using List.all_eq_true.1 cf8 t hm)⟩)
    cf9
end Go.Proofs.YtcdjeickpdlbfaaGreatDoor
end
