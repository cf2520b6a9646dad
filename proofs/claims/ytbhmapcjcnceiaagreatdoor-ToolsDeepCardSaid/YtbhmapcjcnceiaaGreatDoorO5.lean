/- The law ToolsDeep: what its row asks of the program, and its card. -/
import Derived.Test.YtbhmapcjcnceiaaGreatDoorO4
namespace Go.Proofs.YtbhmapcjcnceiaaGreatDoor
open Go Go.RowKit Go.ChangeShapes Go.WideShapes Go.ChangeAt

set_option maxRecDepth 1000000 in
theorem deep_f1 : (Rows.toolsDeepRow.unfollowed == Tryz.prog.unfollowed 6) = true := by kernel_rfl
set_option maxRecDepth 1000000 in
theorem deep_f2 : (Rows.toolsDeepRow.inPlace == Tryz.prog.inPlace 6) = true := by kernel_rfl
set_option maxRecDepth 1000000 in
theorem deep_f3 : (Rows.toolsDeepRow.recurses == Tryz.prog.recurses 6) = true := by kernel_rfl
set_option maxRecDepth 1000000 in
theorem deep_f4 : (Rows.toolsDeepRow.named == Tryz.prog.varsNamed 6) = true := by kernel_rfl
set_option maxRecDepth 1000000 in
theorem deep_facts : joinedFacts Tryz.prog 6 Tryz.f6 (OpenSpec.ofChange Rows.toolsDeepSpec).bare Rows.toolsDeepRow = true := by
  unfold joinedFacts
  rw [deep_f1, deep_f2, deep_f3, deep_f4]
  kernel_rfl
set_option maxRecDepth 1000000 in
theorem deep_said : Rows.ToolsDeepSaid :=
  OpenClaim.holds_of_cond 6 Tryz.f6 rfl rfl rfl rfl rfl rfl rfl ⟨rfl, rfl, rfl, rfl, rfl⟩ rfl rfl rfl rfl rfl deep_named Tryz.func6 deep_facts deep_instance deep_wrapper
    (fun os started H enc _ F => by rw [OpenClaim.pre_eq_preRow]; exact deep_lifted os started H enc F)
set_option maxRecDepth 1000000 in
/-- The card of ToolsDeep. -/
theorem toolsDeep_card : Rows.ToolsDeepCardSaid :=
  Claim7.holds_tied_plain_at .later [] _ _ _ _ deep_said (fun _ h => by cases h) (by kernel_rfl) (fun _ h => by cases h) toolsDeep_row_tie rfl ⟨rfl, rfl⟩ (by kernel_rfl) rfl deep_plain (by kernel_rfl)
end Go.Proofs.YtbhmapcjcnceiaaGreatDoor
