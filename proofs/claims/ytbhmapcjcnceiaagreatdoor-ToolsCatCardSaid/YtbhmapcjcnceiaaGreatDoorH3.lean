/- The law ToolsCat: what its row asks of the program, and its card. -/
import Derived.Test.YtbhmapcjcnceiaaGreatDoorH2
namespace Go.Proofs.YtbhmapcjcnceiaaGreatDoor
open Go Go.RowKit Go.ChangeShapes Go.WideShapes Go.ChangeAt

set_option maxRecDepth 1000000 in
theorem cat_f1 : (Rows.toolsCatRow.unfollowed == Tryz.prog.unfollowed 4) = true := by kernel_rfl
set_option maxRecDepth 1000000 in
theorem cat_f2 : (Rows.toolsCatRow.inPlace == Tryz.prog.inPlace 4) = true := by kernel_rfl
set_option maxRecDepth 1000000 in
theorem cat_f3 : (Rows.toolsCatRow.recurses == Tryz.prog.recurses 4) = true := by kernel_rfl
set_option maxRecDepth 1000000 in
theorem cat_f4 : (Rows.toolsCatRow.named == Tryz.prog.varsNamed 4) = true := by kernel_rfl
set_option maxRecDepth 1000000 in
theorem cat_facts : joinedFacts Tryz.prog 4 Tryz.f4 (OpenSpec.ofChange Rows.toolsCatSpec).bare Rows.toolsCatRow = true := by
  unfold joinedFacts
  rw [cat_f1, cat_f2, cat_f3, cat_f4]
  kernel_rfl
set_option maxRecDepth 1000000 in
theorem cat_said : Rows.ToolsCatSaid :=
  OpenClaim.holds_of_cond 4 Tryz.f4 rfl rfl rfl rfl rfl rfl rfl ⟨rfl, rfl, rfl, rfl, rfl⟩ rfl rfl rfl rfl rfl cat_named Tryz.func4 cat_facts cat_instance cat_wrapper
    (fun os started H enc _ F => by rw [OpenClaim.pre_eq_preRow]; exact cat_lifted os started H enc F)
set_option maxRecDepth 1000000 in
/-- The card of ToolsCat. -/
theorem toolsCat_card : Rows.ToolsCatCardSaid :=
  Claim7.holds_tied_plain_at .later [] _ _ _ _ cat_said (fun _ h => by cases h) (by kernel_rfl) (fun _ h => by cases h) toolsCat_row_tie rfl ⟨rfl, rfl⟩ (by kernel_rfl) rfl cat_plain (by kernel_rfl)
end Go.Proofs.YtbhmapcjcnceiaaGreatDoor
