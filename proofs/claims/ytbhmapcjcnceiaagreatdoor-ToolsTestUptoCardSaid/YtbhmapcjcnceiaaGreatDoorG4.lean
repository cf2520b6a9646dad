/- The paths of the law ToolsCat. -/
import Derived.Test.YtbhmapcjcnceiaaGreatDoorG3
namespace Go.Proofs.YtbhmapcjcnceiaaGreatDoor
open Go Go.RowKit

theorem abs_f (i : Nat) (h : i < 10) : absOf ⟨#[47]⟩ ⟨#[47, 102, UInt8.ofNat (48 + i)]⟩ = (⟨#[47, 102, UInt8.ofNat (48 + i)]⟩, 0) ∧ absOf ⟨#[47]⟩ ⟨#[102, UInt8.ofNat (48 + i)]⟩ = (⟨#[47, 102, UInt8.ofNat (48 + i)]⟩, 0) := by
  match i, h with
  | 0, _ | 1, _ | 2, _ | 3, _ | 4, _ | 5, _ | 6, _ | 7, _ | 8, _ | 9, _ => exact ⟨by kernel_rfl, by kernel_rfl⟩
theorem way_f (t : Tree) (c : UInt8) (h : c ≠ 47) : wayOf t ⟨#[47, 102, c]⟩ = 0 := by
  have e : (⟨#[47, 102, c]⟩ : ByteArray).size = 3 := rfl
  unfold wayOf
  rw [e]
  simp [wayFrom, e, h]
end Go.Proofs.YtbhmapcjcnceiaaGreatDoor
