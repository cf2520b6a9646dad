/- What test tells of any texts, further. -/
import Derived.Test.YtbhmapcjcnceiaaGreatDoorJ4
namespace Go.Proofs.YtbhmapcjcnceiaaGreatDoor
open Go Go.RowKit

section
variable {P M : Nat} {nodes bytes used clock : Int} {t : Tree} {cwd : ByteArray}
/-- What test is to tell of these texts, wherever they lie. -/
def TestC (P M : Nat) (nodes bytes used clock : Int) (t : Tree) (cwd : ByteArray) (l : List ByteArray) (R : Bool × Int) : Prop :=
  ∀ w oa c, FsAt w P M nodes bytes used clock t → Env w → Strs w oa c l → Calls Tryz.prog 161 #[plv P cwd, .slice oa l.length c] w fun e w' => e = .returned (.tuple #[.bool R.1, .int .i64 R.2]) ∧ Fresh w w'
theorem strs_some {w : World} {oa : Option Addr} {c : Nat} {a : ByteArray} {r : List ByteArray} (hs : Strs w oa c (a :: r)) : ∃ g off, oa = some ⟨g, off, none⟩ ∧ ∀ (j : Nat) x, (a :: r)[j]? = some x → w.cell? ⟨g, off + j, none⟩ = some (.string x) := by
  obtain ⟨h1, h2, h3, h4⟩ := hs
  cases oa with
  | none => simp [RowAt] at h4
  | some ad =>
    obtain ⟨g, off, sp⟩ := ad
    obtain rfl : sp = none := h4.spot
    exact ⟨g, off, rfl, fun j x hj => h4.cell (by rw [List.getElem?_map, hj]; rfl)⟩

theorem test0_calls : TestC P M nodes bytes used clock t cwd [] (false, 0) := by
  intro w oa c h hE hs
  clear hs h hE
  have hF0 : Fresh w (w.alloc (.cells #[.pointer (some ⟨P, 0, none⟩), .string cwd] 174)) := (Keeps.refl _ w).alloc _
  have HF0 := Lib.hid hF0
  clear hF0
  unfold plv
  show Calls _ _ #[_, .slice oa 0 c] w _
  go_enter Tryz.func161, Tryz.ntmps161
  go_wp2_with fail
  go_ret2
  exact ⟨rfl, HF0.out⟩
theorem test1_calls (a : ByteArray) : TestC P M nodes bytes used clock t cwd [a] (!a.toList.isEmpty, 0) := by
  intro w oa c h hE hs
  obtain ⟨g, off, rfl, hcell⟩ := strs_some hs
  have hF0 : Fresh w (w.alloc (.cells #[.pointer (some ⟨P, 0, none⟩), .string cwd] 174)) := (Keeps.refl _ w).alloc _
  have g0 := hF0.cell (hcell 0 a rfl) (fun x => x)
  have HF0 := Lib.hid hF0
  simp only [Nat.add_zero] at g0
  clear hs h hE hcell hF0
  unfold plv
  show Calls _ _ #[_, .slice _ 1 c] w _
  go_enter Tryz.func161, Tryz.ntmps161
  go_wp2_with fail
  go_ret2
  exact ⟨rfl, HF0.out⟩
theorem big_calls (l : List ByteArray) (h5 : 5 ≤ l.length) : TestC P M nodes bytes used clock t cwd l (false, 2) := by
  intro w oa c h hE hs
  obtain ⟨n, hn⟩ : ∃ n, l.length = n := ⟨_, rfl⟩
  rw [hn] at h5 ⊢
  have z0 : ((n : Int) == 0) = false := by rw [beq_eq_false_iff_ne]; omega
  have z1 : ((n : Int) == 1) = false := by rw [beq_eq_false_iff_ne]; omega
  have z2 : ((n : Int) == 2) = false := by rw [beq_eq_false_iff_ne]; omega
  have z3 : ((n : Int) == 3) = false := by rw [beq_eq_false_iff_ne]; omega
  have z4 : ((n : Int) == 4) = false := by rw [beq_eq_false_iff_ne]; omega
  have hF0 : Fresh w (w.alloc (.cells #[.pointer (some ⟨P, 0, none⟩), .string cwd] 174)) := (Keeps.refl _ w).alloc _
  have HF0 := Lib.hid hF0
  clear hs h hE hn h5 hF0
  unfold plv
  go_enter Tryz.func161, Tryz.ntmps161
  go_wp2_with fail
  go_ret2
  exact ⟨rfl, HF0.out⟩

/-- Where the answer is not's. -/
theorem notc (a : ByteArray) (r : List ByteArray) (R : Bool × Int) (ih : TestC P M nodes bytes used clock t cwd r R) {w : World} {oa : Option Addr} {c : Nat} (h : FsAt w P M nodes bytes used clock t) (hE : Env w) (hs : Strs w oa c (a :: r)) :
    Calls Tryz.prog 202 #[.agg #[.pointer (some ⟨P, 0, none⟩), .string cwd], .slice oa (r.length + 1) c] w fun e w' => (e = .returned (.tuple #[.bool (if a.data.toList = [33] then notR R else (false, 2)).1, .int .i64 (if a.data.toList = [33] then notR R else (false, 2)).2])) ∧ Fresh w w' :=
  not_calls cwd a r R ih h hE hs

set_option maxHeartbeats 800000 in
theorem test2_calls (hc : cwd.size < 4294967281) (hb : ∀ x ∈ t, x.2.data.length ≤ 1099511627776) (a b : ByteArray) (sb : b.size < 4294967281) : TestC P M nodes bytes used clock t cwd [a, b] (test2 t cwd a b) := by
  intro w oa c h hE hs
  have hF0 : Fresh w (w.alloc (.cells #[.pointer (some ⟨P, 0, none⟩), .string cwd] 174)) := (Keeps.refl _ w).alloc _
  have hb0 : (w.alloc (.cells #[.pointer (some ⟨P, 0, none⟩), .string cwd] 174)).heap[w.heap.size]? = some (.cells #[.pointer (some ⟨P, 0, none⟩), .string cwd] 174 (0, 0)) := heap_alloc_new w _
  have hn := notc (cwd := cwd) (w := w.alloc (.cells #[.pointer (some ⟨P, 0, none⟩), .string cwd] 174)) a [b] _ (test1_calls b) (h.fresh hF0) (hE.fresh hF0) ⟨hs.1, hs.2.1, hs.2.2.1, hs.2.2.2.fresh hF0⟩
  obtain ⟨g, off, rfl, hcell⟩ := strs_some hs
  have g0 := hF0.cell (hcell 0 a rfl) (fun x => x)
  have g1 := hF0.cell (hcell 1 b rfl) (fun x => x)
  simp only [Nat.add_zero] at g0
  have HE := Lib.hid hE
  have H := Lib.hid h
  have HF0 := Lib.hid hF0
  have HB0 := Lib.hid hb0
  have HN := Lib.hid hn
  generalize hR : test2 t cwd a b = R
  have HR := Lib.hid hR
  unfold test2 at HR
  clear hs h hE hcell hR hn hF0 hb0
  unfold plv
  show Calls _ _ #[_, .slice _ 2 c] w _
  by_cases e0 : a.data.toList = [33]
  · have t0 := eqb_is e0
    rw [if_pos e0] at HR HN
    go_enter Tryz.func161, Tryz.ntmps161
    go_wp2_with fail
    refine HN.out.mono ?_
    rintro _ w2 ⟨rfl, hF2⟩
    have HF2 := Lib.hid (HF0.out.trans hF2)
    clear hF2
    rw [HR.out]
    go_wp2_with fail
    go_ret2
    exact ⟨rfl, HF2.out⟩
  · have t0 := eqb_not e0
    rw [if_neg e0] at HR
    go_enter Tryz.func161, Tryz.ntmps161
    go_wp2_with fail
    obtain ⟨w2, hw2⟩ : ∃ w2, w2 = w.alloc (.cells #[.pointer (some ⟨P, 0, none⟩), .string cwd] 174) := ⟨_, rfl⟩
    rw [← hw2] at HB0 HF0 g0 g1 ⊢
    clear hw2
    have x0 := cell_of_block HB0.out 0
    have x1 := cell_of_block HB0.out 1
    simp at x0 x1
    obtain ⟨W, hW⟩ : ∃ W, W = w2.drew := ⟨_, rfl⟩
    have hFW : Fresh w2 W := by rw [hW]; exact (Keeps.refl _ w2).drew
    have y0 := hFW.cell x0 (fun x => x)
    have y1 := hFW.cell x1 (fun x => x)
    have u0 := hFW.cell g0 (fun x => x)
    have u1 := hFW.cell g1 (fun x => x)
    refine wp_region_ord [0, 1, 2, 3, 4, 5, 6, 7, 8, 9, 10, 11] [7] [] (fun w' => w'.cell? ⟨w.heap.size, 0, none⟩ = some (.pointer (some ⟨P, 0, none⟩)) ∧ w'.cell? ⟨w.heap.size, 1, none⟩ = some (.string cwd) ∧ w'.cell? ⟨g, off, none⟩ = some (.string a) ∧ w'.cell? ⟨g, off + 1, none⟩ = some (.string b)) (by kernel_rfl) (by kernel_rfl) (by rw [← hW]; exact ⟨y0, y1, u0, u1⟩) ?_
    rw [← hW]
    clear hW x0 x1 g0 g1
    repeat (refine' wpOrd_take (v := _) rfl rfl rfl (fun _ _ _ h => h) ?_ ?_; rotate_left; (· intro w' hS; (try dsimp only at hS); go_simp; rfl); (try simp only [Act.put, List.setIfInBounds_toArray, List.set_cons_zero, List.set_cons_succ]))
    refine wpOrd_eff rfl rfl (fun K hK => ?_)
    go_simp
    have ha := one_calls (H.out.fresh (HF0.out.trans hFW)) (HE.out.fresh (HF0.out.trans hFW)) cwd a b hc sb hb
    unfold plv at ha
    rw [HR.out] at ha
    refine ha.mono ?_
    rintro _ w3 ⟨rfl, hF3⟩
    have HF3 := Lib.hid ((HF0.out.trans hFW).trans hF3)
    refine hK _ _ (fun _ => ⟨hF3.cell y0 (fun x => x), hF3.cell y1 (fun x => x), hF3.cell u0 (fun x => x), hF3.cell u1 (fun x => x)⟩) ?_
    clear hK K ha hF3 hFW y0 y1 u0 u1
    (try simp only [Act.put, List.setIfInBounds_toArray, List.set_cons_zero, List.set_cons_succ])
    repeat (refine' wpOrd_take (v := _) rfl rfl rfl (fun _ _ _ h => h) ?_ ?_; rotate_left; (· intro w' hS; (try dsimp only at hS); go_simp; rfl); (try simp only [Act.put, List.setIfInBounds_toArray, List.set_cons_zero, List.set_cons_succ]))
    refine wpOrd_nil ?_
    go_wp2_with fail
    go_ret2
    exact ⟨rfl, HF3.out⟩

set_option maxHeartbeats 800000 in
theorem test3_calls (hc : cwd.size < 4294967281) (hb : ∀ x ∈ t, x.2.data.length ≤ 1099511627776) (a b d : ByteArray) (sa : a.size < 4294967281) (sd : d.size < 4294967281) : TestC P M nodes bytes used clock t cwd [a, b, d] (test3 t cwd a b d) := by
  intro w oa c h hE hs
  have hF0 : Fresh w (w.alloc (.cells #[.pointer (some ⟨P, 0, none⟩), .string cwd] 174)) := (Keeps.refl _ w).alloc _
  have hb0 : (w.alloc (.cells #[.pointer (some ⟨P, 0, none⟩), .string cwd] 174)).heap[w.heap.size]? = some (.cells #[.pointer (some ⟨P, 0, none⟩), .string cwd] 174 (0, 0)) := heap_alloc_new w _
  have HS := Lib.hid hs
  obtain ⟨g, off, rfl, hcell⟩ := strs_some hs
  have g0 := hF0.cell (hcell 0 a rfl) (fun x => x)
  have g1 := hF0.cell (hcell 1 b rfl) (fun x => x)
  have g2 := hF0.cell (hcell 2 d rfl) (fun x => x)
  simp only [Nat.add_zero] at g0
  have HE := Lib.hid hE
  have H := Lib.hid h
  have HF0 := Lib.hid hF0
  have HB0 := Lib.hid hb0
  generalize hR : test3 t cwd a b d = R
  have HR := Lib.hid hR
  unfold test3 at HR
  clear hs h hE hcell hR hF0 hb0
  unfold plv
  show Calls _ _ #[_, .slice _ 3 c] w _
  go_enter Tryz.func161, Tryz.ntmps161
  go_wp2_with fail
  obtain ⟨w2, hw2⟩ : ∃ w2, w2 = w.alloc (.cells #[.pointer (some ⟨P, 0, none⟩), .string cwd] 174) := ⟨_, rfl⟩
  rw [← hw2] at HB0 HF0 g0 g1 g2 ⊢
  clear hw2
  have x0 := cell_of_block HB0.out 0
  have x1 := cell_of_block HB0.out 1
  simp at x0 x1
  obtain ⟨W, hW⟩ : ∃ W, W = w2.drew := ⟨_, rfl⟩
  have hFW : Fresh w2 W := by rw [hW]; exact (Keeps.refl _ w2).drew
  have y0 := hFW.cell x0 (fun x => x)
  have y1 := hFW.cell x1 (fun x => x)
  have u0 := hFW.cell g0 (fun x => x)
  have u1 := hFW.cell g1 (fun x => x)
  have u2 := hFW.cell g2 (fun x => x)
  refine wp_region_ord [0, 1, 2, 3, 4, 5, 6, 7, 8, 9, 10, 11, 12, 13, 14, 15, 16, 17] [10] [] (fun w' => w'.cell? ⟨w.heap.size, 0, none⟩ = some (.pointer (some ⟨P, 0, none⟩)) ∧ w'.cell? ⟨w.heap.size, 1, none⟩ = some (.string cwd) ∧ w'.cell? ⟨g, off, none⟩ = some (.string a) ∧ w'.cell? ⟨g, off + 1, none⟩ = some (.string b) ∧ w'.cell? ⟨g, off + 2, none⟩ = some (.string d)) (by kernel_rfl) (by kernel_rfl) (by rw [← hW]; exact ⟨y0, y1, u0, u1, u2⟩) ?_
  rw [← hW]
  clear hW x0 x1 g0 g1 g2
  repeat (refine' wpOrd_take (v := _) rfl rfl rfl (fun _ _ _ h => h) ?_ ?_; rotate_left; (· intro w' hS; (try dsimp only at hS); go_simp; rfl); (try simp only [Act.put, List.setIfInBounds_toArray, List.set_cons_zero, List.set_cons_succ]))
  refine wpOrd_eff rfl rfl (fun K hK => ?_)
  go_simp
  have ha := two_calls (H.out.fresh (HF0.out.trans hFW)) (HE.out.fresh (HF0.out.trans hFW)) cwd a b d hc sa sd
  unfold plv at ha
  obtain ⟨⟨is, er, ok⟩, hq⟩ : ∃ q, twoOf t cwd a b d = q := ⟨_, rfl⟩
  rw [hq] at ha HR
  simp only at ha HR
  refine ha.mono ?_
  rintro _ w3 ⟨rfl, hF3⟩
  have HF3 := Lib.hid ((HF0.out.trans hFW).trans hF3)
  have z0 := hF3.cell y0 (fun x => x)
  have z1 := hF3.cell y1 (fun x => x)
  refine hK _ _ (fun _ => ⟨z0, z1, hF3.cell u0 (fun x => x), hF3.cell u1 (fun x => x), hF3.cell u2 (fun x => x)⟩) ?_
  clear hK K ha hF3 hFW y0 y1 u0 u1 u2 hq
  (try simp only [Act.put, List.setIfInBounds_toArray, List.set_cons_zero, List.set_cons_succ])
  repeat (refine' wpOrd_take (v := _) rfl rfl rfl (fun _ _ _ h => h) ?_ ?_; rotate_left; (· intro w' hS; (try dsimp only at hS); go_simp; rfl); (try simp only [Act.put, List.setIfInBounds_toArray, List.set_cons_zero, List.set_cons_succ]))
  refine wpOrd_nil ?_
  cases ok with
  | true =>
    rw [if_pos rfl] at HR
    go_wp2_with fail
    go_ret2
    exact ⟨by rw [← HR.out]; rfl, HF3.out⟩
  | false =>
    rw [if_neg (by decide)] at HR
    have hn := notc (cwd := cwd) (w := w3) a [b, d] _ (test2_calls hc hb b d sd) (H.out.fresh HF3.out) (HE.out.fresh HF3.out) ⟨HS.out.1, HS.out.2.1, HS.out.2.2.1, HS.out.2.2.2.fresh HF3.out⟩
    rw [HR.out] at hn
    have HN := Lib.hid hn
    clear hn
    go_wp2_with fail
    refine HN.out.mono ?_
    rintro _ w4 ⟨rfl, hF4⟩
    have HF4 := Lib.hid (HF3.out.trans hF4)
    clear hF4
    go_wp2_with fail
    go_ret2
    exact ⟨rfl, HF4.out⟩

theorem test4_calls (hc : cwd.size < 4294967281) (hb : ∀ x ∈ t, x.2.data.length ≤ 1099511627776) (a b d e : ByteArray) (sb : b.size < 4294967281) (se : e.size < 4294967281) : TestC P M nodes bytes used clock t cwd [a, b, d, e] (test4 t cwd a b d e) := by
  intro w oa c h hE hs
  have hF0 : Fresh w (w.alloc (.cells #[.pointer (some ⟨P, 0, none⟩), .string cwd] 174)) := (Keeps.refl _ w).alloc _
  have hn := notc (cwd := cwd) (w := w.alloc (.cells #[.pointer (some ⟨P, 0, none⟩), .string cwd] 174)) a [b, d, e] _ (test3_calls hc hb b d e sb se) (h.fresh hF0) (hE.fresh hF0) ⟨hs.1, hs.2.1, hs.2.2.1, hs.2.2.2.fresh hF0⟩
  have hr : (if a.data.toList = [33] then notR (test3 t cwd b d e) else (false, 2)) = test4 t cwd a b d e := rfl
  rw [hr] at hn
  have HN := Lib.hid hn
  have HF0 := Lib.hid hF0
  clear hs h hE hn hF0 hr
  unfold plv
  show Calls _ _ #[_, .slice _ 4 c] w _
  go_enter Tryz.func161, Tryz.ntmps161
  go_wp2_with fail
  refine HN.out.mono ?_
  rintro _ w4 ⟨rfl, hF4⟩
  have HF4 := Lib.hid (HF0.out.trans hF4)
  clear hF4
  go_wp2_with fail
  go_ret2
  exact ⟨rfl, HF4.out⟩

theorem test_calls (hc : cwd.size < 4294967281) (hb : ∀ x ∈ t, x.2.data.length ≤ 1099511627776) : ∀ l : List ByteArray, (∀ x ∈ l, x.size < 4294967281) → TestC P M nodes bytes used clock t cwd l (testOf t cwd l)
  | [], _ => test0_calls
  | [a], _ => test1_calls a
  | [a, b], h => test2_calls hc hb a b (h b (by simp))
  | [a, b, d], h => test3_calls hc hb a b d (h a (by simp)) (h d (by simp))
  | [a, b, d, e], h => test4_calls hc hb a b d e (h b (by simp)) (h e (by simp))
  | a :: b :: d :: e :: f :: r, _ => big_calls _ (by simp)

theorem ctest_calls (hc : cwd.size < 4294967281) (hb : ∀ x ∈ t, x.2.data.length ≤ 1099511627776) (l : List ByteArray) (hl : ∀ x ∈ l, x.size < 4294967281) {w : World} {oa : Option Addr} {c : Nat} (h : FsAt w P M nodes bytes used clock t) (hE : Env w) (hs : Strs w oa c l) :
    Calls Tryz.prog 123 #[.pointer (some ⟨P, 0, none⟩), .string cwd, .slice oa l.length c] w fun e w' => e = .returned (.tuple #[.bool (testOf t cwd l).1, .int .i64 (testOf t cwd l).2]) ∧ Fresh w w' := by
  have ht := test_calls hc hb l hl w oa c h hE hs
  unfold plv at ht
  have HT := Lib.hid ht
  clear ht hs h hE hl
  generalize testOf t cwd l = R at HT ⊢
  go_enter Tryz.func123, Tryz.ntmps123
  go_wp2_with fail
  refine HT.out.mono ?_
  rintro _ w4 ⟨rfl, hF4⟩
  have HF4 := Lib.hid hF4
  clear hF4
  go_wp2_with fail
  go_ret2
  exact ⟨rfl, HF4.out⟩
end
end Go.Proofs.YtbhmapcjcnceiaaGreatDoor
