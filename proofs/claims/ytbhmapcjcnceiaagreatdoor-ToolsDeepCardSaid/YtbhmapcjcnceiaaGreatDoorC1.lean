/- Reckoning of a numeral: the levels of the operators, and that no operator stands at a text's end. -/
import Derived.Test.YtbhmapcjcnceiaaGreatDoorC0
namespace Go.Proofs.YtbhmapcjcnceiaaGreatDoor
open Go Go.RowKit

/-- The operators, level by level. -/
def lv : List (List ByteArray) := [[⟨#[124, 124]⟩], [⟨#[38, 38]⟩], [⟨#[124]⟩], [⟨#[94]⟩], [⟨#[38]⟩], [⟨#[61, 61]⟩, ⟨#[33, 61]⟩], [⟨#[60, 61]⟩, ⟨#[62, 61]⟩, ⟨#[60]⟩, ⟨#[62]⟩], [⟨#[60, 60]⟩, ⟨#[62, 62]⟩], [⟨#[43]⟩, ⟨#[45]⟩], [⟨#[42]⟩, ⟨#[47]⟩, ⟨#[37]⟩]]
/-- A slice of the levels lies at B. -/
def Lv (w : World) (N B : Nat) : Prop := N ≤ B ∧ ∀ i l, lv[i]? = some l → ∃ g, N ≤ g ∧ w.cell? ⟨B, i, none⟩ = some (.slice (some ⟨g, 0, none⟩) l.length l.length) ∧ ∀ j u, l[j]? = some u → w.cell? ⟨g, j, none⟩ = some (.string u)
theorem Lv.drewN {w : World} {N B : Nat} (h : Lv w N B) (n : Nat) : Lv (w.drewN n) N B := ⟨h.1, fun i l hl => h.2 i l hl⟩
theorem heap_push_at : ∀ (l : List Obj) (h : Array Obj) (k : Nat) (o : Obj), l[k]? = some o → (l.foldl Array.push h)[h.size + k]? = some o
  | [], _, k, _, hk => by simp at hk
  | x :: l, h, 0, o, hk => by
    obtain rfl := Option.some.inj hk
    have keep : ∀ (l : List Obj) (h : Array Obj) (i : Nat), i < h.size → (l.foldl Array.push h)[i]? = h[i]? := by
      intro l
      induction l with
      | nil => intro h i _; rfl
      | cons y l ih => intro h i hi; rw [List.foldl_cons, ih (h.push y) i (by simp; omega), Array.getElem?_push, if_neg (by omega)]
    rw [List.foldl_cons, Nat.add_zero, keep l _ _ (by simp)]
    simp
  | x :: l, h, k + 1, o, hk => by
    have := heap_push_at l (h.push x) k o (by simpa using hk)
    rw [List.foldl_cons, show h.size + (k + 1) = (h.push x).size + k by simp; omega]
    exact this
/-- The blocks that 'levels' makes. -/
def lvObjs (n : Nat) : List Obj := (lv.map fun l => Obj.cells (l.map Value.string).toArray 9) ++ [Obj.cells ((List.range 10).zip lv |>.map fun p => Value.slice (some ⟨n + p.1, 0, none⟩) p.2.length p.2.length).toArray 22]
theorem lvObjs_row (n i : Nat) (l : List ByteArray) (h : lv[i]? = some l) : (lvObjs n)[i]? = some (Obj.cells (l.map Value.string).toArray 9) := by
  have hi : i < 10 := by have := (List.getElem?_eq_some_iff.1 h).1; simpa [lv] using this
  unfold lvObjs
  rw [List.getElem?_append_left (by simpa [lv] using hi), List.getElem?_map, h]
  rfl
theorem lv_at {w w' : World} (hh : w'.heap = (lvObjs w.heap.size).foldl Array.push w.heap) : Lv w' w.heap.size (w.heap.size + 10) := by
  refine ⟨by omega, ?_⟩
  intro i l hl
  have hi : i < 10 := by have := (List.getElem?_eq_some_iff.1 hl).1; simpa [lv] using this
  have h1 : w'.heap[w.heap.size + i]? = some (Obj.cells (l.map Value.string).toArray 9) := by rw [hh]; exact heap_push_at _ _ _ _ (lvObjs_row _ _ _ hl)
  have h2 : w'.heap[w.heap.size + 10]? = some (Obj.cells ((List.range 10).zip lv |>.map fun p => Value.slice (some ⟨w.heap.size + p.1, 0, none⟩) p.2.length p.2.length).toArray 22) := by
    rw [hh]; exact heap_push_at _ _ _ _ rfl
  refine ⟨w.heap.size + i, by omega, ?_, ?_⟩
  · rw [cell_of_block h2]
    simp only [List.getElem?_toArray, List.getElem?_map, List.zip, List.getElem?_zipWith, hl, List.getElem?_range hi, Option.map_some]
  · intro j u hu
    rw [cell_of_block h1]
    simp [hu]
theorem levels_calls (w : World) : Calls Tryz.prog 263 #[] w fun e w' => ∃ B, e = .returned (.slice (some ⟨B, 0, none⟩) 10 10) ∧ Lv w' w.heap.size B ∧ Fresh w w' := by
  go_enter Tryz.func263, Tryz.ntmps263
  go_wp2
  go_ret
  refine ⟨w.heap.size + 10, rfl, lv_at rfl, ?_⟩
  repeat (first | exact Keeps.refl _ _ | refine Keeps.alloc ?_ _)

theorem noPrefix_calls (t u : ByteArray) (ht : t.size = 0) (hu : 0 < u.size) (w : World) :
    Calls Tryz.prog 81 #[.string t, .string u] w fun e w' => e = .returned (.bool false) ∧ w' = w := by
  refine (Tryz.strings_HasPrefix t u w).mono fun e w' ⟨he, hw⟩ => ⟨?_, hw⟩
  rw [he]
  have h1 : t.data.toList = [] := List.eq_nil_of_length_eq_zero ht
  have h2 : u.data.toList ≠ [] := by
    intro h
    have : u.size = u.data.toList.length := rfl
    rw [h] at this; rw [this] at hu; simp at hu
  cases hc : u.data.toList with
  | nil => exact absurd hc h2
  | cons x l => rw [h1]; rfl
theorem lv_ops : ∀ l ∈ lv, ∀ u ∈ l, 0 < u.size := by decide
set_option maxHeartbeats 800000 in
/-- No operator stands at a text's end. -/
theorem next_end {w : World} {b : Nat} {s : ByteArray} {l : Value} {deep : Int} {zero : Bool} (h : Rd w b s s.size l deep zero) (hs : s.size ≤ 4096) :
    Calls Tryz.prog 265 #[.pointer (some ⟨b, 0, none⟩)] w fun e w' => e = .returned (.string ⟨#[]⟩) ∧ Fresh w w' := by
  have H := Lib.hid h
  clear h
  go_enter Tryz.func265, Tryz.ntmps265
  go_wp2_with fail
  refine (blank_end H.out hs).mono ?_
  rintro _ w1 ⟨rfl, n1, rfl⟩
  go_wp2_with fail
  refine (levels_calls _).mono ?_
  rintro _ w2 ⟨B, rfl, hLv, hF⟩
  have H2 := Lib.hid (H.out.fresh ((Fresh.drewN w n1).then hF (fun _ _ x => x)))
  have HL := Lib.hid hLv
  have HF := Lib.hid ((Fresh.drewN w n1).then hF (fun _ _ x => x))
  generalize (w.drewN n1).heap.size = N at HL
  clear hLv hF
  go_wp2
  go_loopw [3, 12] (fun best i wr => ∃ k : Nat, k ≤ 10 ∧ i = .int .i64 k ∧ best = .string ⟨#[]⟩ ∧ Lv wr N B ∧ Rd wr b s s.size l deep zero ∧ Fresh w wr) (fun _ i _ => 10 - (intOf i).toNat)
  case atStart => exact ⟨0, by omega, rfl, rfl, HL.out, H2.out, HF.out⟩
  case round =>
    obtain ⟨k, hk, rfl, rfl, hLv, hRd, hFr⟩ := hrel
    rename_i wr
    clear HL H2 HF
    have HL := Lib.hid hLv
    have H2 := Lib.hid hRd
    have HF := Lib.hid hFr
    clear hLv hRd hFr
    by_cases hlt : k < 10
    · obtain ⟨lo, hlo⟩ : ∃ lo, lv[k]? = some lo := ⟨lv[k]'(by simpa [lv] using hlt), List.getElem?_eq_getElem _⟩
      obtain ⟨g, _, hg, _⟩ := HL.out.2 k lo hlo
      have hlen : lo.length ≤ 4 := by
        have : ∀ l ∈ lv, l.length ≤ 4 := by decide
        exact this lo (List.mem_of_getElem? hlo)
      have Hk := Lib.hid hlo
      have Hlo := Lib.hid (fun u (hu : u ∈ lo) => lv_ops lo (List.mem_of_getElem? hlo) u hu)
      clear hlo
      go_wp2
      go_loopw [3, 18] (fun best i wr => ∃ j : Nat, j ≤ lo.length ∧ i = .int .i64 j ∧ best = .string ⟨#[]⟩ ∧ Lv wr N B ∧ Rd wr b s s.size l deep zero ∧ Fresh w wr ∧ wr.cell? ⟨B, k, none⟩ = some (.slice (some ⟨g, 0, none⟩) lo.length lo.length)) (fun _ i _ => lo.length - (intOf i).toNat)
      case atStart => exact ⟨0, by omega, rfl, rfl, HL.out, H2.out, HF.out, hg⟩
      case round =>
        obtain ⟨j, hj, rfl, rfl, hLv, hRd, hFr, hg'⟩ := hrel
        rename_i wi
        clear hg HL H2 HF
        have HL := Lib.hid hLv
        have H2 := Lib.hid hRd
        have HF := Lib.hid hFr
        clear hLv hRd hFr
        by_cases hjl : j < lo.length
        · obtain ⟨g', _, hg2, hops⟩ := HL.out.2 k lo Hk.out
          obtain rfl : g' = g := by rw [hg'] at hg2; simpa using hg2.symm
          have hu := hops j lo[j] (List.getElem?_eq_getElem hjl)
          clear hops hg2
          have hpos := Hlo.out lo[j] (List.getElem_mem hjl)
          generalize lo[j] = u at hu hpos
          have c0 := H2.out.c0
          have c1 := H2.out.c1
          have hpos' : decide ((0 : Int) < (u.size : Int)) = true := by simpa using hpos
          have z0 : (0 : Int) ≤ (s.size : Int) := Int.natCast_nonneg _
          have hnp := Lib.hid (fun (t : ByteArray) (ht : t.size = 0) (W : World) => noPrefix_calls t u ht hpos W)
          go_wp2_with fail
          go_quiet ((go_at_call 81; exact Calls.quiet_of_same (hnp.out _ (by simp) _)))
          go_wp2
          exact ⟨⟨j + 1, by omega, by go_num, rfl, HL.out, H2.out, Keeps.drewN HF.out _, by simpa using hg'⟩, by simp [intOf]; omega⟩
        · go_wp2
          exact ⟨⟨k + 1, by omega, by go_num, rfl, HL.out, H2.out, HF.out⟩, by simp [intOf]; omega⟩
    · go_wp2
      go_ret
      exact ⟨rfl, HF.out⟩
end Go.Proofs.YtbhmapcjcnceiaaGreatDoor
