/- What test tells of one text, and of two. -/
import Derived.Test.YtbhmapcjcnceiaaGreatDoorJ1
namespace Go.Proofs.YtbhmapcjcnceiaaGreatDoor
open Go Go.RowKit

def oneOf (t : Tree) (cwd op s : ByteArray) : Bool × Int :=
  if op.data.toList = [45, 110] then (!s.toList.isEmpty, 0)
  else if op.data.toList = [45, 122] then (s.toList.isEmpty, 0)
  else if op.data.toList = [45, 101] then (tKind t cwd s != 0, 0)
  else if op.data.toList = [45, 102] then (tKind t cwd s == 1, 0)
  else if op.data.toList = [45, 100] then (tKind t cwd s == 2, 0)
  else if op.data.toList = [45, 115] then (if tKind t cwd s = 1 then (decide (0 < (fsRead t (absOf cwd s).1).1.length), 0) else (false, 0))
  else (false, 2)
set_option maxHeartbeats 1600000 in
theorem one_calls {w : World} {P M : Nat} {nodes bytes used clock : Int} {t : Tree} (h : FsAt w P M nodes bytes used clock t) (hE : Env w) (cwd op s : ByteArray) (hc : cwd.size < 4294967281) (hs : s.size < 4294967281) (hb : ∀ x ∈ t, x.2.data.length ≤ 1099511627776) :
    Calls Tryz.prog 203 #[plv P cwd, .string op, .string s] w fun e w' => e = .returned (.tuple #[.bool (oneOf t cwd op s).1, .int .i64 (oneOf t cwd op s).2]) ∧ Fresh w w' := by
  have HE := Lib.hid hE
  have H := Lib.hid h
  have hF0 : Fresh w (w.alloc (.cells #[.pointer (some ⟨P, 0, none⟩), .string cwd] 174)) := (Keeps.refl _ w).alloc _
  have hb0 : (w.alloc (.cells #[.pointer (some ⟨P, 0, none⟩), .string cwd] 174)).heap[w.heap.size]? = some (.cells #[.pointer (some ⟨P, 0, none⟩), .string cwd] 174 (0, 0)) := heap_alloc_new w _
  have HF0 := Lib.hid hF0
  have HB0 := Lib.hid hb0
  have HK := Lib.hid (pkind_calls (h.fresh hF0) (hE.fresh hF0) cwd s hc hs)
  generalize hR : oneOf t cwd op s = R
  have HR := Lib.hid hR
  unfold oneOf at HR
  clear hR hE h hF0 hb0
  obtain ⟨kd, hkd⟩ : ∃ kd, tKind t cwd s = kd := ⟨_, rfl⟩
  rw [hkd] at HK HR
  clear hkd
  unfold plv at HK ⊢
  by_cases e0 : op.data.toList = [45, 110]
  · have t0 := eqb_is e0
    rw [if_pos e0] at HR
    go_enter Tryz.func203, Tryz.ntmps203
    go_wp2_with fail
    go_ret2
    exact ⟨by rw [← HR.out]; rfl, HF0.out⟩
  have t0 := eqb_not e0
  rw [if_neg e0] at HR
  by_cases e1 : op.data.toList = [45, 122]
  · have t1 := eqb_is e1
    rw [if_pos e1] at HR
    go_enter Tryz.func203, Tryz.ntmps203
    go_wp2_with fail
    go_ret2
    exact ⟨by rw [← HR.out]; rfl, HF0.out⟩
  have t1 := eqb_not e1
  rw [if_neg e1] at HR
  by_cases e2 : op.data.toList = [45, 101]
  · have t2 := eqb_is e2
    rw [if_pos e2] at HR
    go_enter Tryz.func203, Tryz.ntmps203
    go_wp2_with fail
    refine HK.out.mono ?_
    rintro _ w2 ⟨rfl, hF2⟩
    have HF2 := Lib.hid (HF0.out.trans hF2)
    clear hF2
    go_wp2_with fail
    go_ret2
    exact ⟨by rw [← HR.out]; rfl, HF2.out⟩
  have t2 := eqb_not e2
  rw [if_neg e2] at HR
  by_cases e3 : op.data.toList = [45, 102]
  · have t3 := eqb_is e3
    rw [if_pos e3] at HR
    go_enter Tryz.func203, Tryz.ntmps203
    go_wp2_with fail
    refine HK.out.mono ?_
    rintro _ w2 ⟨rfl, hF2⟩
    have HF2 := Lib.hid (HF0.out.trans hF2)
    clear hF2
    go_wp2_with fail
    go_ret2
    exact ⟨by rw [← HR.out]; rfl, HF2.out⟩
  have t3 := eqb_not e3
  rw [if_neg e3] at HR
  by_cases e4 : op.data.toList = [45, 100]
  · have t4 := eqb_is e4
    rw [if_pos e4] at HR
    go_enter Tryz.func203, Tryz.ntmps203
    go_wp2_with fail
    refine HK.out.mono ?_
    rintro _ w2 ⟨rfl, hF2⟩
    have HF2 := Lib.hid (HF0.out.trans hF2)
    clear hF2
    go_wp2_with fail
    go_ret2
    exact ⟨by rw [← HR.out]; rfl, HF2.out⟩
  have t4 := eqb_not e4
  rw [if_neg e4] at HR
  by_cases e5 : op.data.toList = [45, 115]
  · have t5 := eqb_is e5
    rw [if_pos e5] at HR
    go_enter Tryz.func203, Tryz.ntmps203
    go_wp2_with fail
    refine HK.out.mono ?_
    rintro _ w2 ⟨rfl, hF2⟩
    have HB2 := Lib.hid (hF2.at HB0.out (fun x => x))
    have HF2 := Lib.hid (HF0.out.trans hF2)
    clear hF2
    by_cases ek : kd = 1
    · subst ek
      rw [if_pos rfl] at HR
      have x0 := cell_of_block HB2.out 0
      have x1 := cell_of_block HB2.out 1
      simp at x0 x1
      go_wp2_with fail
      obtain ⟨W, hW⟩ : ∃ W, W = w2.drew := ⟨_, rfl⟩
      have hFW : Fresh w2 W := by rw [hW]; exact (Keeps.refl _ w2).drew
      have y0 := hFW.cell x0 (fun x => x)
      have y1 := hFW.cell x1 (fun x => x)
      refine wp_region_ord [0, 1, 2, 3, 4, 5, 6, 7, 8, 9, 10] [4, 5] [] (fun w' => w'.cell? ⟨w.heap.size, 0, none⟩ = some (.pointer (some ⟨P, 0, none⟩)) ∧ w'.cell? ⟨w.heap.size, 1, none⟩ = some (.string cwd)) (by kernel_rfl) (by kernel_rfl) (by rw [← hW]; exact ⟨y0, y1⟩) ?_
      rw [← hW]
      clear hW x0 x1
      repeat (refine' wpOrd_take (v := _) rfl rfl rfl (fun _ _ _ h => h) ?_ ?_; rotate_left; (· intro w' hS; (try dsimp only at hS); go_simp; rfl); (try simp only [Act.put, List.setIfInBounds_toArray, List.set_cons_zero, List.set_cons_succ]))
      refine wpOrd_eff rfl rfl (fun K hK => ?_)
      go_simp
      have ha := pabs_calls (HE.out.fresh (HF2.out.trans hFW)) P cwd s hc hs
      unfold plv at ha
      refine ha.mono ?_
      rintro _ w3 ⟨rfl, hF3⟩
      have HF3 := Lib.hid ((HF2.out.trans hFW).trans hF3)
      refine hK _ _ (fun _ => ⟨hF3.cell y0 (fun x => x), hF3.cell y1 (fun x => x)⟩) ?_
      have z0 := hF3.cell y0 (fun x => x)
      have z1 := hF3.cell y1 (fun x => x)
      clear hK K ha hF3 hFW y0 y1
      (try simp only [Act.put, List.setIfInBounds_toArray, List.set_cons_zero, List.set_cons_succ])
      have hsz := absOf_size cwd s
      obtain ⟨q, hq⟩ : ∃ q, (absOf cwd s).1 = q := ⟨_, rfl⟩
      rw [hq] at HR hsz ⊢
      clear hq
      repeat (refine' wpOrd_take (v := _) rfl rfl rfl (fun _ _ _ h => h) ?_ ?_; rotate_left; (· intro w' hS; (try dsimp only at hS); go_simp; rfl); (try simp only [Act.put, List.setIfInBounds_toArray, List.set_cons_zero, List.set_cons_succ]))
      refine wpOrd_eff rfl rfl (fun K hK => ?_)
      go_simp
      refine (read_calls (H.out.fresh HF3.out) (HE.out.fresh HF3.out) q (by omega) hb).mono ?_
      rintro _ w4 ⟨ra, rc, rfl, hrow, hF4, -, -⟩
      have HF4 := Lib.hid (HF3.out.trans hF4)
      refine hK _ _ (fun _ => ⟨hF4.cell z0 (fun x => x), hF4.cell z1 (fun x => x)⟩) ?_
      clear hK K hF4 hrow
      (try simp only [Act.put, List.setIfInBounds_toArray, List.set_cons_zero, List.set_cons_succ])
      obtain ⟨n, hn⟩ : ∃ n, (fsRead t q).1.length = n := ⟨_, rfl⟩
      rw [hn] at HR ⊢
      clear hn
      generalize (fsRead t q).2 = er
      repeat (refine' wpOrd_take (v := _) rfl rfl rfl (fun _ _ _ h => h) ?_ ?_; rotate_left; (· intro w' hS; (try dsimp only at hS); go_simp; rfl); (try simp only [Act.put, List.setIfInBounds_toArray, List.set_cons_zero, List.set_cons_succ]))
      refine wpOrd_nil ?_
      go_wp2_with fail
      go_ret2
      exact ⟨by rw [← HR.out]; rfl, HF4.out⟩
    · have t6 : (kd == 1) = false := by rw [beq_eq_false_iff_ne]; exact ek
      rw [if_neg ek] at HR
      go_wp2_with fail
      go_ret2
      exact ⟨by rw [← HR.out]; rfl, HF2.out⟩
  have t5 := eqb_not e5
  rw [if_neg e5] at HR
  go_enter Tryz.func203, Tryz.ntmps203
  go_wp2_with fail
  go_ret2
  exact ⟨by rw [← HR.out]; rfl, HF0.out⟩
end Go.Proofs.YtbhmapcjcnceiaaGreatDoor
