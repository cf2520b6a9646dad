/- The file system in memory: room, put, Write. -/
import Derived.Test.YtbhmapcjcnceiaaGreatDoorF5
namespace Go.Proofs.YtbhmapcjcnceiaaGreatDoor
open Go Go.RowKit

theorem run_len_map {P : Program} {t k e ty : TypeId} (ht : P.underlying t = some (.map k e)) {b : Nat} {es : Array MapEntry} {clock : Nat} {w : World} (hb : w.heap[b]? = some (.map es clock)) :
    (Builtin.len_ #[t] ty #[.map (some b)]).run P w = .ok (.int .i64 es.size) w := by
  simp [Builtin.len_, run_underlying ht, MapKept.run_getObj_map hb, goInt]
def roomOf (nodes bytes used : Int) (t : Tree) (n b : Int) : Bool := decide ((t.length : Int) + n ≤ nodes) && decide (used + b ≤ bytes)
set_option maxRecDepth 10000 in
set_option maxHeartbeats 800000 in
theorem room_calls {w : World} {P M : Nat} {nodes bytes used clock : Int} {t : Tree} (h : FsAt w P M nodes bytes used clock t) (n b : Int) (hn : 0 ≤ n ∧ n ≤ 10) (ht : t.length ≤ 1000000) (hb : -1099511627776 ≤ b ∧ b ≤ 1099511627776) (hu : 0 ≤ used ∧ used ≤ 1099511627776) :
    Calls Tryz.prog 28 #[.pointer (some ⟨P, 0, none⟩), .int .i64 n, .int .i64 b] w fun e w' => e = .returned (.bool (roomOf nodes bytes used t n b)) ∧ Fresh w w' := by
  have k0 := cell_of_block h.blk 0
  have k1 := cell_of_block h.blk 1
  have k2 := cell_of_block h.blk 2
  have k3 := cell_of_block h.blk 3
  simp at k0 k1 k2 k3
  obtain ⟨es, clk, hm, he, -⟩ := h.map
  have hes : es.size = t.length := by
    have := congrArg List.length he
    simpa using this
  have hg : (World.drew w).heap[M]? = some (.map es clk) := hm
  clear h he hm
  unfold roomOf
  have hT : 0 ≤ (t.length : Int) := Int.natCast_nonneg _
  have hT2 : (t.length : Int) ≤ 1000000 := by omega
  have hes' : (es.size : Int) = (t.length : Int) := by rw [hes]
  clear hes ht
  generalize (t.length : Int) = L at hT hT2 hes' ⊢
  go_enter Tryz.func28, Tryz.ntmps28
  go_wp2_with fail
  obtain ⟨W, hW⟩ : ∃ W, W = w.drew := ⟨_, rfl⟩
  have hF : Fresh w W := by rw [hW]; exact (Keeps.refl _ w).drew
  refine wp_region_ord [0, 1, 2, 3, 4, 5, 6, 7, 8, 9, 10, 11, 12, 13, 14, 15, 16, 17, 18, 19, 20, 21, 22, 23, 24, 25] [] [] (fun w => w = W) (by kernel_rfl) (by kernel_rfl) hW.symm ?_
  rw [← hW]
  have k0' : W.cell? ⟨P, 0, none⟩ = some (.map (some M)) := by rw [hW]; simpa using k0
  have k1' : W.cell? ⟨P, 1, none⟩ = some (.int .i64 nodes) := by rw [hW]; simpa using k1
  have k2' : W.cell? ⟨P, 2, none⟩ = some (.int .i64 bytes) := by rw [hW]; simpa using k2
  have k3' : W.cell? ⟨P, 3, none⟩ = some (.int .i64 used) := by rw [hW]; simpa using k3
  rw [← hW] at hg
  have HF := Lib.hid hF
  clear hW k0 k1 k2 k3 hF
  have hlen : ∀ ty, (Builtin.len_ #[67] ty #[.map (some M)]).run Tryz.prog W = .ok (.int .i64 L) W := fun ty => by
    have := run_len_map Tryz.underlying67 (ty := ty) hg
    rw [hes'] at this
    exact this
  clear hg hes'
  have v1 : IntKind.i64.wrap (L + n) = L + n := by rw [IntKind.wrap_i64]; omega
  have v2 : IntKind.i64.wrap (used + b) = used + b := by rw [IntKind.wrap_i64]; omega
  by_cases q : L + n ≤ nodes
  · have d1 : decide (L + n ≤ nodes) = true := decide_eq_true q
    repeat ((first | (refine wpOrd_skip rfl rfl rfl (fun _ _ _ h => h) ?_) | (refine' wpOrd_take (v := _) rfl rfl rfl (fun _ _ _ h => h) ?_ ?_; rotate_left; (· intro w' hS; rw [hS]; go_simp; rfl)) | (refine' wpOrd_takeg (v := _) rfl rfl rfl (fun _ _ _ h => h) ?_ ?_; rotate_left; (· intro w' hS; rw [hS]; go_simp; rfl))); (try simp only [Act.put, List.setIfInBounds_toArray, List.set_cons_zero, List.set_cons_succ]))
    refine wpOrd_nil ?_
    go_wp2_with fail
    go_ret
    exact ⟨by first | rfl | (rw [d1]; rfl), HF.out⟩
  · have d1 : decide (L + n ≤ nodes) = false := decide_eq_false q
    repeat ((first | (refine wpOrd_skip rfl rfl rfl (fun _ _ _ h => h) ?_) | (refine' wpOrd_take (v := _) rfl rfl rfl (fun _ _ _ h => h) ?_ ?_; rotate_left; (· intro w' hS; rw [hS]; go_simp; rfl)) | (refine' wpOrd_takeg (v := _) rfl rfl rfl (fun _ _ _ h => h) ?_ ?_; rotate_left; (· intro w' hS; rw [hS]; go_simp; rfl))); (try simp only [Act.put, List.setIfInBounds_toArray, List.set_cons_zero, List.set_cons_succ]))
    refine wpOrd_nil ?_
    go_wp2_with fail
    go_ret
    exact ⟨by first | rfl | (rw [d1]; rfl), HF.out⟩
end Go.Proofs.YtbhmapcjcnceiaaGreatDoor
