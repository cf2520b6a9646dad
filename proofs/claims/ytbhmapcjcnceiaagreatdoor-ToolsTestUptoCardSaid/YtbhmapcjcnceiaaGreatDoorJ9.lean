/- The law ToolsTest, the second form: what its row asks of the program, and its card. -/
import Derived.Test.YtbhmapcjcnceiaaGreatDoorJ8
namespace Go.Proofs.YtbhmapcjcnceiaaGreatDoor
open Go Go.RowKit Go.ChangeShapes Go.WideShapes Go.ChangeAt

set_option maxRecDepth 1000000 in
theorem test_f1 : (Rows.toolsTestUptoRow.unfollowed == Tryz.prog.unfollowed 5) = true := by kernel_rfl
set_option maxRecDepth 1000000 in
theorem test_f2 : (Rows.toolsTestUptoRow.inPlace == Tryz.prog.inPlace 5) = true := by kernel_rfl
set_option maxRecDepth 1000000 in
theorem test_f3 : (Rows.toolsTestUptoRow.recurses == Tryz.prog.recurses 5) = true := by kernel_rfl
set_option maxRecDepth 1000000 in
theorem test_f4 : (Rows.toolsTestUptoRow.named == Tryz.prog.varsNamed 5) = true := by kernel_rfl
set_option maxRecDepth 1000000 in
theorem test_facts : joinedFacts Tryz.prog 5 Tryz.f5 (Rows.OpenSpec.upto Rows.toolsTestSpec).bare Rows.toolsTestUptoRow = true := by
  unfold joinedFacts
  rw [test_f1, test_f2, test_f3, test_f4]
  kernel_rfl
set_option maxRecDepth 1000000 in
theorem test_said : Rows.ToolsTestUptoSaid :=
  OpenClaim.holds_of_cond 5 Tryz.f5 rfl rfl rfl rfl rfl rfl rfl ⟨rfl, rfl, rfl, rfl, rfl⟩ rfl rfl rfl rfl rfl test_named Tryz.func5 test_facts test_instance test_wrapper
    (fun os started H enc _ F => by rw [OpenClaim.pre_eq_preRow]; exact test_lifted os started H enc F)
set_option maxRecDepth 1000000 in
/-- The card of ToolsTest. -/
theorem toolsTest_card : Rows.ToolsTestUptoCardSaid :=
  Claim7.holds_tied_plain_at .later [] _ _ _ _ test_said (fun _ h => by cases h) (by kernel_rfl) (fun _ h => by cases h) toolsTestUpto_row_tie rfl ⟨rfl, rfl⟩ (by kernel_rfl) rfl test_plain (by kernel_rfl)
end Go.Proofs.YtbhmapcjcnceiaaGreatDoor
