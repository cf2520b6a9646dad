/- The law ToolsPrint: what its row asks of the program, and its card. -/
import Derived.Test.YtbhmapcjcnceiaaGreatDoorE3
namespace Go.Proofs.YtbhmapcjcnceiaaGreatDoor
open Go Go.RowKit Go.ChangeShapes Go.WideShapes Go.ChangeAt

set_option maxRecDepth 1000000 in
theorem print_f1 : (Rows.toolsPrintRow.unfollowed == Tryz.prog.unfollowed 3) = true := by kernel_rfl
set_option maxRecDepth 1000000 in
theorem print_f2 : (Rows.toolsPrintRow.inPlace == Tryz.prog.inPlace 3) = true := by kernel_rfl
set_option maxRecDepth 1000000 in
theorem print_f3 : (Rows.toolsPrintRow.recurses == Tryz.prog.recurses 3) = true := by kernel_rfl
set_option maxRecDepth 1000000 in
theorem print_f4 : (Rows.toolsPrintRow.named == Tryz.prog.varsNamed 3) = true := by kernel_rfl
set_option maxRecDepth 1000000 in
theorem print_facts : joinedFacts Tryz.prog 3 Tryz.f3 (OpenSpec.ofChange Rows.toolsPrintSpec).bare Rows.toolsPrintRow = true := by
  unfold joinedFacts
  rw [print_f1, print_f2, print_f3, print_f4]
  kernel_rfl
set_option maxRecDepth 1000000 in
theorem print_said : Rows.ToolsPrintSaid :=
  OpenClaim.holds_of_cond 3 Tryz.f3 rfl rfl rfl rfl rfl rfl rfl ⟨rfl, rfl, rfl, rfl, rfl⟩ rfl rfl rfl rfl rfl print_named Tryz.func3 print_facts print_instance print_wrapper
    (fun os started H enc _ F => by rw [OpenClaim.pre_eq_preRow]; exact print_lifted os started H enc F)
set_option maxRecDepth 1000000 in
/-- The card of ToolsPrint. -/
theorem toolsPrint_card : Rows.ToolsPrintCardSaid :=
  Claim7.holds_tied_plain_at .later [] _ _ _ _ print_said (fun _ h => by cases h) (by kernel_rfl) (fun _ h => by cases h) toolsPrint_row_tie rfl ⟨rfl, rfl⟩ (by kernel_rfl) rfl print_plain (by kernel_rfl)
end Go.Proofs.YtbhmapcjcnceiaaGreatDoor
