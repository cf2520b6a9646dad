/- What test tells of two texts. -/
import Derived.Test.YtbhmapcjcnceiaaGreatDoorJ2
namespace Go.Proofs.YtbhmapcjcnceiaaGreatDoor
open Go Go.RowKit

def twoOf (t : Tree) (cwd a op b : ByteArray) : Bool × Int × Bool :=
  if op.data.toList = [61] then (a.toList == b.toList, 0, true)
  else if op.data.toList = [33, 61] then (!(a.toList == b.toList), 0, true)
  else if op.data.toList = [45, 110, 116] then (decide (tTime t cwd b < tTime t cwd a), 0, true)
  else if (cmpOf op (numOf a).1 (numOf b).1).2 = true ∧ ((numOf a).2 && (numOf b).2) = false then (false, 2, true)
  else ((cmpOf op (numOf a).1 (numOf b).1).1, 0, (cmpOf op (numOf a).1 (numOf b).1).2)
set_option maxHeartbeats 1600000 in
theorem two_calls {w : World} {P M : Nat} {nodes bytes used clock : Int} {t : Tree} (h : FsAt w P M nodes bytes used clock t) (hE : Env w) (cwd a op b : ByteArray) (hc : cwd.size < 4294967281) (ha : a.size < 4294967281) (hb : b.size < 4294967281) :
    Calls Tryz.prog 204 #[plv P cwd, .string a, .string op, .string b] w fun e w' => e = .returned (.tuple #[.bool (twoOf t cwd a op b).1, .int .i64 (twoOf t cwd a op b).2.1, .bool (twoOf t cwd a op b).2.2]) ∧ Fresh w w' := by
  have HE := Lib.hid hE
  have H := Lib.hid h
  have hF0 : Fresh w (w.alloc (.cells #[.pointer (some ⟨P, 0, none⟩), .string cwd] 174)) := (Keeps.refl _ w).alloc _
  have hb0 : (w.alloc (.cells #[.pointer (some ⟨P, 0, none⟩), .string cwd] 174)).heap[w.heap.size]? = some (.cells #[.pointer (some ⟨P, 0, none⟩), .string cwd] 174 (0, 0)) := heap_alloc_new w _
  have HF0 := Lib.hid hF0
  have HB0 := Lib.hid hb0
  generalize hR : twoOf t cwd a op b = R
  have HR := Lib.hid hR
  unfold twoOf at HR
  clear hR hE h hF0 hb0
  by_cases e0 : op.data.toList = [61]
  · have t0 := eqb_is e0
    rw [if_pos e0] at HR
    unfold plv
    go_enter Tryz.func204, Tryz.ntmps204
    go_wp2_with fail
    go_ret3
    exact ⟨by rw [← HR.out]; rfl, HF0.out⟩
  have t0 := eqb_not e0
  rw [if_neg e0] at HR
  by_cases e1 : op.data.toList = [33, 61]
  · have t1 := eqb_is e1
    rw [if_pos e1] at HR
    unfold plv
    go_enter Tryz.func204, Tryz.ntmps204
    go_wp2_with fail
    go_ret3
    exact ⟨by rw [← HR.out]; rfl, HF0.out⟩
  have t1 := eqb_not e1
  rw [if_neg e1] at HR
  by_cases e2 : op.data.toList = [45, 110, 116]
  · have t2 := eqb_is e2
    rw [if_pos e2] at HR
    unfold plv
    go_enter Tryz.func204, Tryz.ntmps204
    go_wp2_with fail
    obtain ⟨w2, hw2⟩ : ∃ w2, w2 = w.alloc (.cells #[.pointer (some ⟨P, 0, none⟩), .string cwd] 174) := ⟨_, rfl⟩
    rw [← hw2] at HB0 HF0 ⊢
    clear hw2
    have x0 := cell_of_block HB0.out 0
    have x1 := cell_of_block HB0.out 1
    simp at x0 x1
    obtain ⟨W, hW⟩ : ∃ W, W = w2.drew := ⟨_, rfl⟩
    have hFW : Fresh w2 W := by rw [hW]; exact (Keeps.refl _ w2).drew
    have y0 := hFW.cell x0 (fun x => x)
    have y1 := hFW.cell x1 (fun x => x)
    refine wp_region_ord [0, 1, 3, 4, 2, 5, 6, 7, 8, 9] [2, 5] [] (fun w' => w'.cell? ⟨w.heap.size, 0, none⟩ = some (.pointer (some ⟨P, 0, none⟩)) ∧ w'.cell? ⟨w.heap.size, 1, none⟩ = some (.string cwd)) (by kernel_rfl) (by kernel_rfl) (by rw [← hW]; exact ⟨y0, y1⟩) ?_
    rw [← hW]
    clear hW x0 x1
    repeat (refine' wpOrd_take (v := _) rfl rfl rfl (fun _ _ _ h => h) ?_ ?_; rotate_left; (· intro w' hS; (try dsimp only at hS); go_simp; rfl); (try simp only [Act.put, List.setIfInBounds_toArray, List.set_cons_zero, List.set_cons_succ]))
    refine wpOrd_eff rfl rfl (fun K hK => ?_)
    go_simp
    refine (ptime_calls (H.out.fresh (HF0.out.trans hFW)) (HE.out.fresh (HF0.out.trans hFW)) cwd a hc ha).mono ?_
    rintro _ w3 ⟨rfl, hF3⟩
    have HF3 := Lib.hid ((HF0.out.trans hFW).trans hF3)
    have z0 := hF3.cell y0 (fun x => x)
    have z1 := hF3.cell y1 (fun x => x)
    refine hK _ _ (fun _ => ⟨z0, z1⟩) ?_
    clear hK K hF3 hFW y0 y1
    (try simp only [Act.put, List.setIfInBounds_toArray, List.set_cons_zero, List.set_cons_succ])
    repeat (refine' wpOrd_take (v := _) rfl rfl rfl (fun _ _ _ h => h) ?_ ?_; rotate_left; (· intro w' hS; (try dsimp only at hS); go_simp; rfl); (try simp only [Act.put, List.setIfInBounds_toArray, List.set_cons_zero, List.set_cons_succ]))
    refine wpOrd_eff rfl rfl (fun K hK => ?_)
    go_simp
    refine (ptime_calls (H.out.fresh HF3.out) (HE.out.fresh HF3.out) cwd b hc hb).mono ?_
    rintro _ w4 ⟨rfl, hF4⟩
    have HF4 := Lib.hid (HF3.out.trans hF4)
    refine hK _ _ (fun _ => ⟨hF4.cell z0 (fun x => x), hF4.cell z1 (fun x => x)⟩) ?_
    clear hK K hF4
    (try simp only [Act.put, List.setIfInBounds_toArray, List.set_cons_zero, List.set_cons_succ])
    generalize tTime t cwd a = ta at HR ⊢
    generalize tTime t cwd b = tb at HR ⊢
    repeat (refine' wpOrd_take (v := _) rfl rfl rfl (fun _ _ _ h => h) ?_ ?_; rotate_left; (· intro w' hS; (try dsimp only at hS); go_simp; rfl); (try simp only [Act.put, List.setIfInBounds_toArray, List.set_cons_zero, List.set_cons_succ]))
    refine wpOrd_nil ?_
    go_wp2_with fail
    go_ret3
    exact ⟨by rw [← HR.out]; rfl, HF4.out⟩
  have t2 := eqb_not e2
  rw [if_neg e2] at HR
  have HN1 := Lib.hid (fun w => number_calls a (by omega) w)
  have HN2 := Lib.hid (fun w => number_calls b (by omega) w)
  obtain ⟨⟨x, fx⟩, hx⟩ : ∃ q, numOf a = q := ⟨_, rfl⟩
  obtain ⟨⟨y, fy⟩, hy⟩ : ∃ q, numOf b = q := ⟨_, rfl⟩
  rw [hx] at HN1 HR
  rw [hy] at HN2 HR
  have HC := Lib.hid (fun w => compare_calls op x y w)
  simp only at HR
  obtain ⟨⟨is, ok⟩, hq⟩ : ∃ q, cmpOf op x y = q := ⟨_, rfl⟩
  rw [hq] at HC HR
  simp only at HR
  clear hx hy hq
  unfold plv
  go_enter Tryz.func204, Tryz.ntmps204
  go_wp2_with fail
  refine (HN1.out _).mono ?_
  rintro _ w2 ⟨rfl, hF2⟩
  have HF2 := Lib.hid (HF0.out.trans hF2)
  clear hF2
  go_wp2_with fail
  refine (HN2.out _).mono ?_
  rintro _ w3 ⟨rfl, hF3⟩
  have HF3 := Lib.hid (HF2.out.trans hF3)
  clear hF3
  go_wp2_with fail
  refine (HC.out _).mono ?_
  rintro _ _ ⟨rfl, rfl⟩
  cases ok <;> cases fx <;> cases fy <;>
  · go_wp2_with fail
    go_ret3
    exact ⟨by rw [← HR.out]; rfl, HF3.out⟩
end Go.Proofs.YtbhmapcjcnceiaaGreatDoor
