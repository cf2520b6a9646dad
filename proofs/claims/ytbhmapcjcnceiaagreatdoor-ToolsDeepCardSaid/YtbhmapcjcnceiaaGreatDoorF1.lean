/- A path from the root on: what Abs makes of a directory and a path. -/
import Derived.Test.YtbhmapcjcnceiaaGreatDoorF0
import Derived.Test.YtbhmapcjcnceiaaGreatDoorD2
namespace Go.Proofs.YtbhmapcjcnceiaaGreatDoor
open Go Go.RowKit

/-- Has a text the byte nought? -/
def has0 (s : ByteArray) : Bool := decide (0 ≤ Lib.indexByte s.data.toList 0)
/-- The path of names. -/
def pathOf (l : List ByteArray) : List UInt8 := 47 :: Lib.join (l.map fun x => x.data.toList) [47]
/-- A path from the root on, and whether it is one. -/
def absOf (cwd p : ByteArray) : ByteArray × Int :=
  if p.data.toList = [] ∨ has0 cwd = true ∨ has0 p = true then (⟨#[]⟩, 1)
  else if (∀ s ∈ partsOf cwd p, s.size ≤ 60) ∧ (partsOf cwd p).length ≤ 20 ∧ (pathOf (partsOf cwd p)).length ≤ 200 then (B (pathOf (partsOf cwd p)), 0) else (⟨#[]⟩, 3)

theorem toolong_calls (s : ByteArray) (w : World) : Calls Tryz.prog 133 #[.string s] w fun e w' => e = .returned (.bool (decide (60 < (s.size : Int)))) ∧ w = w' := by
  go_enter Tryz.func133, Tryz.ntmps133
  go_wp2_with fail
  go_ret
  exact ⟨rfl, rfl⟩
theorem index_calls {w : World} {oa : Option Addr} {c : Nat} (l : List ByteArray) (h : RowAt w 9 oa (l.map Value.string)) (hl : l.length ≤ 9223372036854775806) :
    Calls Tryz.prog 178 #[.slice oa l.length c, .func (.func 133) #[] #[]] w fun e w' => (∃ r : Int, e = .returned (.int .i64 r) ∧ (0 ≤ r ↔ ∃ s ∈ l, 60 < s.size)) ∧ w = w' := by
  have HR := Lib.hid h
  clear h
  go_enter Tryz.func178, Tryz.ntmps178
  go_wp2_with fail
  go_loop [8] (fun i => ∃ k : Nat, k ≤ l.length ∧ i = .int .i64 k ∧ ∀ s ∈ l.take k, ¬ 60 < s.size) (fun i => l.length - (intOf i).toNat)
  case atStart => exact ⟨0, by omega, rfl, by simp⟩
  case round =>
    obtain ⟨k, hk, rfl, hpre⟩ := hrel
    have HP := Lib.hid hpre
    clear hpre
    by_cases hlt : k < l.length
    · cases oa with
      | none =>
        have : l.map Value.string = [] := HR.out
        simp at this
        subst this
        simp at hlt
      | some ad =>
        obtain ⟨g, off, sp⟩ := ad
        obtain rfl : sp = none := HR.out.spot
        have hcell : w.cell? ⟨g, off + k, none⟩ = some (.string l[k]) := HR.out.cell (j := k) (u := .string l[k]) (by simp [hlt])
        have Hmem := Lib.hid (List.getElem_mem hlt)
        have Hnext := Lib.hid (show ∀ (s : ByteArray), s ∈ l.take (k + 1) → s ∈ l.take k ∨ s = l[k] from fun s hs => by
          rw [List.take_add_one, List.getElem?_eq_getElem hlt] at hs
          rcases List.mem_append.1 hs with h | h
          · exact Or.inl h
          · exact Or.inr (List.mem_singleton.1 h))
        generalize l[k] = s at hcell Hnext Hmem
        by_cases hbig : 60 < s.size
        · have hb : decide (60 < (s.size : Int)) = true := by simp; omega
          go_wp2_with (go_at_call 133; refine (toolong_calls s _).mono ?_; rintro _ _ ⟨rfl, rfl⟩)
          go_ret
          exact ⟨⟨k, rfl, by simp only [Int.natCast_nonneg, true_iff]; exact ⟨s, Hmem.out, hbig⟩⟩, rfl⟩
        · have hb : decide (60 < (s.size : Int)) = false := by simp; omega
          go_wp2_with (go_at_call 133; refine (toolong_calls s _).mono ?_; rintro _ _ ⟨rfl, rfl⟩)
          go_round
          case rel => exact ⟨k + 1, by omega, by go_num, fun x hx => (Hnext.out x hx).elim (HP.out x) (fun e => e ▸ hbig)⟩
          case measure => simp [intOf]; omega
    · obtain rfl : k = l.length := by omega
      rw [List.take_length] at HP
      go_wp2_with fail
      go_ret
      exact ⟨⟨-1, rfl, by simp only [show ¬ (0 : Int) ≤ -1 by decide, false_iff]; rintro ⟨s, hs, hb⟩; exact HP.out s hs hb⟩, rfl⟩
theorem long_calls {w : World} {oa : Option Addr} {c : Nat} (l : List ByteArray) (h : RowAt w 9 oa (l.map Value.string)) (hl : l.length ≤ 9223372036854775806) :
    Calls Tryz.prog 132 #[.slice oa l.length c, .func (.func 133) #[] #[]] w fun e w' => e = .returned (.bool (decide (∃ s ∈ l, 60 < s.size))) ∧ w = w' := by
  have HI := Lib.hid (index_calls (c := c) l h hl)
  clear h
  go_enter Tryz.func132, Tryz.ntmps132
  go_wp2_with fail
  refine HI.out.mono ?_
  rintro _ _ ⟨⟨r, rfl, hr⟩, rfl⟩
  have Hr := Lib.hid hr
  clear hr
  go_wp2_with fail
  go_ret
  exact ⟨congrArg (fun b => Ending.returned (Value.bool b)) (decide_eq_decide.2 Hr.out), rfl⟩

/-- What strings.Join with a slash makes. -/
theorem slashes_calls {w : World} {oa : Option Addr} {c : Nat} (l : List ByteArray) (h : Strs w oa c l) (hn : l.length ≤ 1099511627776) (hl : (Lib.join (l.map fun x => x.data.toList) [47]).length ≤ 1099511627776) :
    Calls Tryz.prog 108 #[.slice oa l.length c, .string ⟨#[47]⟩] w fun e w' => e = .returned (.string (B (Lib.join (l.map fun x => x.data.toList) [47]))) ∧ Fresh w w' := by
  obtain ⟨h1, h2, h3, h4⟩ := h
  cases oa with
  | none =>
    have : l.map Value.string = [] := h4
    simp at this
    subst this
    exact (Tryz.strings_Join_none none c ⟨#[47]⟩ w).mono fun e w' ⟨he, hb⟩ => ⟨he, by rw [hb]; exact Fresh.refl w⟩
  | some ad =>
    obtain ⟨g, off, sp⟩ := ad
    obtain rfl : sp = none := h4.spot
    exact (Tryz.strings_Join g off c l ⟨#[47]⟩ w (fun j x hx => h4.cell (by rw [List.getElem?_map, hx]; rfl)) (h4.lt rfl) (Nat.le_trans hn (by decide)) h1 (Nat.le_trans hl (by decide))).mono fun e w' ⟨he, hb⟩ => ⟨he, Fresh.of_below hb⟩
theorem pathjoin_calls {w : World} {oa : Option Addr} {c : Nat} (l : List ByteArray) (h : Strs w oa c l) (hn : l.length ≤ 1099511627776) (hl : (Lib.join (l.map fun x => x.data.toList) [47]).length ≤ 1099511627776) :
    Calls Tryz.prog 134 #[.slice oa l.length c] w fun e w' => e = .returned (.string (B (pathOf l))) ∧ Fresh w w' := by
  have HJ := Lib.hid (slashes_calls l h hn hl)
  clear h
  go_enter Tryz.func134, Tryz.ntmps134
  go_wp2_with fail
  refine HJ.out.mono ?_
  rintro _ w1 ⟨rfl, hF⟩
  have HF := Lib.hid hF
  have hsz : ¬ 9223372036854775807 < 1 + (B (Lib.join (l.map fun x => x.data.toList) [47])).size := by rw [B_size]; omega
  clear hF
  go_wp2_with fail
  go_ret
  exact ⟨by rw [show (⟨#[47]⟩ : ByteArray) = B [47] from rfl, B_append]; rfl, HF.out⟩

/-- How long texts are, each with one byte more. -/
def wt (l : List ByteArray) : Nat := (l.map fun x => x.size + 1).sum
theorem wt_append (a b : List ByteArray) : wt (a ++ b) = wt a + wt b := by simp [wt]
theorem wt_take (k : Nat) : ∀ (l : List ByteArray), wt (l.take k) ≤ wt l := by
  induction k with
  | zero => intro l; simp [wt]
  | succ k ih =>
    intro l
    cases l with
    | nil => simp
    | cons x l => have := ih l; simp only [wt, List.take_succ_cons, List.map_cons, List.sum_cons] at this ⊢; omega
theorem wt_clean : ∀ (l o : List ByteArray), wt (l.foldl cleanStep o) ≤ wt o + wt l := by
  intro l
  induction l with
  | nil => intro o; simp [wt]
  | cons s l ih =>
    intro o
    have h1 := ih (cleanStep o s)
    have h2 : wt (cleanStep o s) ≤ wt o + (s.size + 1) := by
      unfold cleanStep
      split
      · omega
      · split
        · have := wt_take (o.length - 1) o; omega
        · rw [wt_append]; simp [wt]
    simp only [List.foldl_cons]
    have h3 : wt (s :: l) = s.size + 1 + wt l := by simp [wt]
    omega
theorem wt_split : ∀ (k : Nat) (s : ByteArray), wt (Lib.splitB ⟨#[47]⟩ 0 k s) ≤ s.size + (k + 1)
  | 0, s => by simp [Lib.splitB_zero, wt]
  | k + 1, s => by
    rcases Lib.indexB_cases s ⟨#[47]⟩ with h | ⟨i, h, hr⟩
    · rw [Lib.splitB_miss _ _ _ _ h]; simp [wt]
    · rw [Lib.splitB_hit _ _ _ _ i h]
      have ih := wt_split k (s.extract (i + (⟨#[47]⟩ : ByteArray).size) s.size)
      have e1 : (⟨#[47]⟩ : ByteArray).size = 1 := rfl
      rw [e1] at ih hr ⊢
      have e2 : (s.extract (i + 1) s.size).size = s.size - (i + 1) := by rw [ByteArray.size_extract]; omega
      have e3 : (s.extract 0 (i + 0)).size = i := by rw [ByteArray.size_extract]; omega
      have e4 : ∀ (x : ByteArray) l, wt (x :: l) = x.size + 1 + wt l := by intro x l; simp [wt]
      rw [e4, e3]
      omega
theorem wt_pieces (s : ByteArray) : wt (pieces s) ≤ 2 * s.size + 1 := by
  have h1 := wt_split (Lib.countB s ⟨#[47]⟩) s
  have h2 := Lib.countB_le ⟨#[47]⟩ (by decide) _ s (Nat.le_refl _)
  unfold pieces
  omega
theorem wt_parts (cwd p : ByteArray) : wt (partsOf cwd p) ≤ 2 * cwd.size + 2 * p.size + 2 := by
  have h1 := wt_clean (allPieces cwd p) []
  have h2 : wt (allPieces cwd p) ≤ 2 * cwd.size + 2 * p.size + 2 := by
    have := wt_pieces p
    have := wt_pieces cwd
    unfold allPieces
    split
    · omega
    · rw [wt_append]; omega
  have h3 : wt [] = 0 := rfl
  unfold partsOf
  omega
theorem joinTail_le : ∀ (l : List ByteArray), (Lib.joinTail [47] (l.map fun x => x.data.toList)).length = wt l
  | [] => rfl
  | x :: l => by
    have := joinTail_le l
    simp only [Lib.joinTail, List.map_cons, List.flatten_cons, List.length_append, wt, List.sum_cons] at this ⊢
    rw [this]
    show 1 + x.data.toList.length + _ = x.size + 1 + _
    rw [Array.length_toList]
    show 1 + x.size + _ = _
    omega
theorem join_le (l : List ByteArray) : (Lib.join (l.map fun x => x.data.toList) [47]).length ≤ wt l := by
  cases l with
  | nil => simp [Lib.join_nil, wt]
  | cons x l =>
    rw [List.map_cons, Lib.join_cons, List.length_append, joinTail_le]
    have : x.data.toList.length = x.size := by rw [Array.length_toList]; rfl
    simp [wt, this]
theorem len_wt (l : List ByteArray) : l.length ≤ wt l := by
  induction l with
  | nil => simp
  | cons x l ih => simp only [wt, List.map_cons, List.sum_cons, List.length_cons] at ih ⊢; omega

set_option maxHeartbeats 1600000 in
theorem abs_calls {w : World} (hE : Env w) (cwd p : ByteArray) (hc : cwd.size < 4294967281) (hp : p.size < 4294967281) :
    Calls Tryz.prog 77 #[.string cwd, .string p] w fun e w' => e = .returned (.tuple #[.string (absOf cwd p).1, .int .i64 (absOf cwd p).2]) ∧ Fresh w w' := by
  have hc0 : ∀ s w, Calls Tryz.prog 130 #[.string s, .string ⟨#[0]⟩] w fun e w' => e = .returned (.bool (has0 s)) ∧ w = w' := fun s w => (Tryz.strings_Contains_one s 0 w).mono fun e w' ⟨h1, h2⟩ => ⟨h1, h2.symm⟩
  have Hc0 := Lib.hid hc0
  have hwt := wt_parts cwd p
  have HP := Lib.hid (parts_calls hE cwd p hc hp)
  clear hE hc0
  by_cases e0 : p.data.toList = []
  · have t0 : p.toList.isEmpty = true := by rw [ByteArray.toList_eq, e0]; rfl
    have hab : absOf cwd p = (⟨#[]⟩, 1) := by unfold absOf; rw [if_pos (Or.inl e0)]
    rw [hab]
    go_enter Tryz.func77, Tryz.ntmps77
    go_wp2_with fail
    go_ret2
    exact ⟨rfl, Fresh.refl w⟩
  have t0 : p.toList.isEmpty = false := by rw [ByteArray.toList_eq]; cases hh : p.data.toList with | nil => exact absurd hh e0 | cons a l => rfl
  by_cases e1 : has0 cwd = true
  · have hab : absOf cwd p = (⟨#[]⟩, 1) := by unfold absOf; rw [if_pos (Or.inr (Or.inl e1))]
    rw [hab]
    go_enter Tryz.func77, Tryz.ntmps77
    go_wp2_with (go_at_call 130; refine (Hc0.out _ _).mono ?_; rintro _ _ ⟨rfl, rfl⟩)
    go_ret2
    exact ⟨rfl, Fresh.refl w⟩
  by_cases e2 : has0 p = true
  · have e1' : has0 cwd = false := by simpa using e1
    have hab : absOf cwd p = (⟨#[]⟩, 1) := by unfold absOf; rw [if_pos (Or.inr (Or.inr e2))]
    rw [hab]
    go_enter Tryz.func77, Tryz.ntmps77
    go_wp2_with (go_at_call 130; refine (Hc0.out _ _).mono ?_; rintro _ _ ⟨rfl, rfl⟩)
    go_ret2
    exact ⟨rfl, Fresh.refl w⟩
  have e1' : has0 cwd = false := by simpa using e1
  have e2' : has0 p = false := by simpa using e2
  have hab : absOf cwd p = if (∀ s ∈ partsOf cwd p, s.size ≤ 60) ∧ (partsOf cwd p).length ≤ 20 ∧ (pathOf (partsOf cwd p)).length ≤ 200 then (B (pathOf (partsOf cwd p)), 0) else (⟨#[]⟩, 3) := by
    unfold absOf
    rw [if_neg (by rintro (h | h | h) <;> contradiction)]
  have Hab := Lib.hid hab
  clear hab e1 e2
  obtain ⟨R, hR⟩ : ∃ R, absOf cwd p = R := ⟨_, rfl⟩
  have HR := Lib.hid hR
  rw [hR]
  clear hR
  go_enter Tryz.func77, Tryz.ntmps77
  go_wp2_with (go_at_call 130; refine (Hc0.out _ _).mono ?_; rintro _ _ ⟨rfl, rfl⟩)
  refine HP.out.mono ?_
  rintro _ w1 ⟨oa, c, rfl, hown, hF1⟩
  have hll := len_wt (partsOf cwd p)
  have hjl := join_le (partsOf cwd p)
  have hs := hown.shape2
  have HS := Lib.hid (show Strs w1 oa c (partsOf cwd p) from ⟨hs.1, hs.2.1, hs.2.2, RowAt.of_owns hown⟩)
  have HF1 := Lib.hid hF1
  clear hown hs hF1 HP
  generalize partsOf cwd p = L at Hab HS hll hjl hwt ⊢
  go_wp2_with fail
  refine (long_calls L HS.out.2.2.2 (by omega)).mono ?_
  rintro _ _ ⟨rfl, rfl⟩
  go_wp2_with fail
  refine (pathjoin_calls L HS.out (by omega) (by omega)).mono ?_
  rintro _ w2 ⟨rfl, hF2⟩
  have HF2 := Lib.hid (HF1.out.trans hF2)
  have hsz : (B (pathOf L)).size = (pathOf L).length := B_size _
  clear hF2 hjl HS
  generalize hpl : pathOf L = pl at Hab hsz ⊢
  by_cases q1 : ∀ s ∈ L, s.size ≤ 60
  · have d1 : decide (∃ s ∈ L, 60 < s.size) = false := by
      rw [decide_eq_false_iff_not]
      rintro ⟨s, hs, hb⟩
      have := q1 s hs
      omega
    by_cases q2 : L.length ≤ 20
    · by_cases q3 : pl.length ≤ 200
      · have hab : R = (B pl, 0) := by rw [← HR.out, Hab.out, if_pos ⟨q1, q2, q3⟩]
        subst hab
        go_wp2_with fail
        go_ret2
        exact ⟨rfl, HF2.out⟩
      · have hab : R = (⟨#[]⟩, 3) := by rw [← HR.out, Hab.out, if_neg (fun h => q3 h.2.2)]
        subst hab
        go_wp2_with fail
        go_ret2
        exact ⟨rfl, HF2.out⟩
    · have hab : R = (⟨#[]⟩, 3) := by rw [← HR.out, Hab.out, if_neg (fun h => q2 h.2.1)]
      subst hab
      go_wp2_with fail
      go_ret2
      exact ⟨rfl, HF2.out⟩
  · have d1 : decide (∃ s ∈ L, 60 < s.size) = true := by
      rw [decide_eq_true_iff]
      apply Classical.byContradiction
      intro h
      exact q1 (fun s hs => Nat.le_of_not_lt (fun hb => h ⟨s, hs, hb⟩))
    have hab : R = (⟨#[]⟩, 3) := by rw [← HR.out, Hab.out, if_neg (fun h => q1 h.1)]
    subst hab
    go_wp2_with fail
    go_ret2
    exact ⟨rfl, HF2.out⟩
end Go.Proofs.YtbhmapcjcnceiaaGreatDoor
