/- What test tells of any texts. -/
import Derived.Test.YtbhmapcjcnceiaaGreatDoorJ3
namespace Go.Proofs.YtbhmapcjcnceiaaGreatDoor
open Go Go.RowKit

def notR (r : Bool × Int) : Bool × Int := (!r.1 && (r.2 == 0), r.2)
def test2 (t : Tree) (cwd a b : ByteArray) : Bool × Int := if a.data.toList = [33] then notR (!b.toList.isEmpty, 0) else oneOf t cwd a b
def test3 (t : Tree) (cwd a b c : ByteArray) : Bool × Int :=
  if (twoOf t cwd a b c).2.2 = true then ((twoOf t cwd a b c).1, (twoOf t cwd a b c).2.1) else if a.data.toList = [33] then notR (test2 t cwd b c) else (false, 2)
def test4 (t : Tree) (cwd a b c d : ByteArray) : Bool × Int := if a.data.toList = [33] then notR (test3 t cwd b c d) else (false, 2)
def testOf (t : Tree) (cwd : ByteArray) : List ByteArray → Bool × Int
  | [] => (false, 0)
  | [a] => (!a.toList.isEmpty, 0)
  | [a, b] => test2 t cwd a b
  | [a, b, c] => test3 t cwd a b c
  | [a, b, c, d] => test4 t cwd a b c d
  | _ => (false, 2)

set_option maxHeartbeats 800000 in
theorem not_calls {P M : Nat} {nodes bytes used clock : Int} {t : Tree} (cwd a : ByteArray) (r : List ByteArray) (R : Bool × Int)
    (ih : ∀ w oa c, FsAt w P M nodes bytes used clock t → Env w → Strs w oa c r → Calls Tryz.prog 161 #[plv P cwd, .slice oa r.length c] w fun e w' => e = .returned (.tuple #[.bool R.1, .int .i64 R.2]) ∧ Fresh w w')
    {w : World} {oa : Option Addr} {c : Nat} (h : FsAt w P M nodes bytes used clock t) (hE : Env w) (hs : Strs w oa c (a :: r)) :
    Calls Tryz.prog 202 #[plv P cwd, .slice oa (r.length + 1) c] w fun e w' => (e = .returned (.tuple #[.bool (if a.data.toList = [33] then notR R else (false, 2)).1, .int .i64 (if a.data.toList = [33] then notR R else (false, 2)).2])) ∧ Fresh w w' := by
  obtain ⟨h1, h2, h3, h4⟩ := hs
  cases oa with
  | none => simp [RowAt] at h4
  | some ad =>
    obtain ⟨g, off, sp⟩ := ad
    obtain rfl : sp = none := h4.spot
    simp only [List.length_cons] at h1
    have HE := Lib.hid hE
    have H := Lib.hid h
    have H4 := Lib.hid h4
    have IH := Lib.hid ih
    have hF0 : Fresh w (w.alloc (.cells #[.pointer (some ⟨P, 0, none⟩), .string cwd] 174)) := (Keeps.refl _ w).alloc _
    have hb0 : (w.alloc (.cells #[.pointer (some ⟨P, 0, none⟩), .string cwd] 174)).heap[w.heap.size]? = some (.cells #[.pointer (some ⟨P, 0, none⟩), .string cwd] 174 (0, 0)) := heap_alloc_new w _
    have g0 : (w.alloc (.cells #[.pointer (some ⟨P, 0, none⟩), .string cwd] 174)).cell? ⟨g, off, none⟩ = some (.string a) := hF0.cell (h4.cell (j := 0) rfl) (fun x => x)
    have HF0 := Lib.hid hF0
    have HB0 := Lib.hid hb0
    clear hE h h4 ih hF0 hb0
    obtain ⟨Rn, hRn⟩ : ∃ Rn, (if a.data.toList = [33] then notR R else (false, 2)) = Rn := ⟨_, rfl⟩
    rw [hRn]
    have HRn := Lib.hid hRn
    clear hRn
    unfold plv
    by_cases e0 : a.data.toList = [33]
    · have t0 := eqb_is e0
      rw [if_pos e0] at HRn
      go_enter Tryz.func202, Tryz.ntmps202
      go_wp2_with fail
      obtain ⟨w2, hw2⟩ : ∃ w2, w2 = w.alloc (.cells #[.pointer (some ⟨P, 0, none⟩), .string cwd] 174) := ⟨_, rfl⟩
      rw [← hw2] at HB0 HF0 g0 ⊢
      clear hw2
      have x0 := cell_of_block HB0.out 0
      have x1 := cell_of_block HB0.out 1
      simp at x0 x1
      obtain ⟨W, hW⟩ : ∃ W, W = w2.drew := ⟨_, rfl⟩
      have hFW : Fresh w2 W := by rw [hW]; exact (Keeps.refl _ w2).drew
      have y0 := hFW.cell x0 (fun x => x)
      have y1 := hFW.cell x1 (fun x => x)
      refine wp_region_ord [0, 1, 2, 3, 4, 5, 6, 7, 8] [3] [] (fun w' => w'.cell? ⟨w.heap.size, 0, none⟩ = some (.pointer (some ⟨P, 0, none⟩)) ∧ w'.cell? ⟨w.heap.size, 1, none⟩ = some (.string cwd)) (by kernel_rfl) (by kernel_rfl) (by rw [← hW]; exact ⟨y0, y1⟩) ?_
      rw [← hW]
      clear hW x0 x1
      repeat (refine' wpOrd_take (v := _) rfl rfl rfl (fun _ _ _ h => h) ?_ ?_; rotate_left; (· intro w' hS; (try dsimp only at hS); go_simp; rfl); (try simp only [Act.put, List.setIfInBounds_toArray, List.set_cons_zero, List.set_cons_succ]))
      have hoa : ∃ oa', (if c = 1 then some (⟨g, off, none⟩ : Addr) else some ⟨g, off + 1, none⟩) = oa' ∧ ∀ w', RowAt w' 9 (some ⟨g, off, none⟩) ((a :: r).map Value.string) → Strs w' oa' (c - 1) r := by
        refine ⟨_, rfl, fun w' hr => ?_⟩
        by_cases hc1 : c = 1
        · have hr0 : r = [] := List.eq_nil_of_length_eq_zero (by omega)
          subst hr0
          rw [if_pos hc1]
          obtain ⟨_, cur, fz, hb, _⟩ := hr
          exact ⟨by simp, by omega, fun h => (by cases h), rfl, cur, fz, hb, fun j u hu => by simp at hu⟩
        · rw [if_neg hc1]
          exact ⟨by omega, by omega, fun h => (by cases h), by simpa using hr.drop 1⟩
      obtain ⟨oa', hoa, hst⟩ := hoa
      have HSt := Lib.hid hst
      clear hst
      have q1 : (1 : Int) ≤ (r.length : Int) + 1 := by omega
      refine' wpOrd_take (v := .slice oa' r.length (c - 1)) rfl rfl rfl (fun _ _ _ h => h) (fun w' _ => by go_simp) ?_
      (try simp only [Act.put, List.setIfInBounds_toArray, List.set_cons_zero, List.set_cons_succ])
      clear hoa
      refine wpOrd_eff rfl rfl (fun K hK => ?_)
      go_simp
      have hi := IH.out W oa' (c - 1) (H.out.fresh (HF0.out.trans hFW)) (HE.out.fresh (HF0.out.trans hFW)) (HSt.out W (H4.out.fresh (HF0.out.trans hFW)))
      unfold plv at hi
      refine hi.mono ?_
      rintro _ w4 ⟨rfl, hF4⟩
      have HF4 := Lib.hid ((HF0.out.trans hFW).trans hF4)
      refine hK _ _ (fun _ => ⟨hF4.cell y0 (fun x => x), hF4.cell y1 (fun x => x)⟩) ?_
      clear hK K hF4 hFW y0 y1 hi
      (try simp only [Act.put, List.setIfInBounds_toArray, List.set_cons_zero, List.set_cons_succ])
      obtain ⟨ok, er⟩ := R
      repeat (refine' wpOrd_take (v := _) rfl rfl rfl (fun _ _ _ h => h) ?_ ?_; rotate_left; (· intro w' hS; (try dsimp only at hS); go_simp; rfl); (try simp only [Act.put, List.setIfInBounds_toArray, List.set_cons_zero, List.set_cons_succ]))
      refine wpOrd_nil ?_
      by_cases ee : er = 0
      · subst ee
        cases ok <;>
        · go_wp2_with fail
          go_ret2
          exact ⟨by rw [← HRn.out]; rfl, HF4.out⟩
      · have t1 : (er == 0) = false := by rw [beq_eq_false_iff_ne]; exact ee
        have hn : notR (ok, er) = (false, er) := by unfold notR; rw [t1, Bool.and_false]
        rw [hn] at HRn
        cases ok <;>
        · go_wp2_with fail
          go_ret2
          exact ⟨by rw [← HRn.out]; rfl, HF4.out⟩
    · have t0 := eqb_not e0
      rw [if_neg e0] at HRn
      go_enter Tryz.func202, Tryz.ntmps202
      go_wp2_with fail
      go_ret2
      exact ⟨by rw [← HRn.out]; rfl, HF0.out⟩
end Go.Proofs.YtbhmapcjcnceiaaGreatDoor
