/- The names of a path: what Parts makes of a directory and a path. -/
import Derived.Test.YtbhmapcjcnceiaaGreatDoorB1
namespace Go.Proofs.YtbhmapcjcnceiaaGreatDoor
open Go Go.RowKit

theorem ownsRow_shrink {w : World} {base : Nat} {e : TypeId} {a : Option Addr} {n c : Nat} {xs : List Value} (h : w.ownsRow base e 1 (.slice a n c) n xs) (k : Nat) (hk : k ≤ n) : w.ownsRow base e 1 (.slice a k c) k (xs.take k) := by
  obtain ⟨h1, h | ⟨g, cap, cur, h2, h3, h4, h5, h6, h7, h8⟩⟩ := h
  · obtain ⟨h2, rfl⟩ := h
    obtain rfl : k = 0 := by omega
    cases h2
    exact ⟨by simp, Or.inl ⟨rfl, rfl⟩⟩
  · cases h2
    refine ⟨by simp at h1 ⊢; omega, Or.inr ⟨g, c, cur, rfl, h3, h4, by omega, h6, h7, ?_⟩⟩
    rw [← h8, List.take_take]
    congr 1
    omega

theorem ownsRow_base {w : World} {base b : Nat} {e : TypeId} {v : Value} {n : Nat} {xs : List Value} (h : w.ownsRow base e 1 v n xs) (hb : b ≤ base) : w.ownsRow b e 1 v n xs := by
  obtain ⟨h1, h | ⟨g, cap, cur, h2, h3, h⟩⟩ := h
  · exact ⟨h1, Or.inl h⟩
  · exact ⟨h1, Or.inr ⟨g, cap, cur, h2, Nat.le_trans hb h3, h⟩⟩

/-- A path's pieces between slashes. -/
def pieces (p : ByteArray) : List ByteArray := Lib.splitB ⟨#[47]⟩ 0 (Lib.countB p ⟨#[47]⟩) p
theorem pieces_length (p : ByteArray) : (pieces p).length = Lib.countB p ⟨#[47]⟩ + 1 := Lib.splitB_all ⟨#[47]⟩ (by decide) 0 _ p rfl
/-- One piece more: nothing and a point change nothing, two points take the last name away. -/
def cleanStep (out : List ByteArray) (s : ByteArray) : List ByteArray :=
  if s.data.toList = [] ∨ s.data.toList = [46] then out else if s.data.toList = [46, 46] then out.take (out.length - 1) else out ++ [s]
/-- All pieces: those of the directory ahead, if the path does not begin at the root. -/
def allPieces (cwd p : ByteArray) : List ByteArray := if Lib.hasPrefix p.data.toList [47] = true then pieces p else pieces cwd ++ pieces p
/-- The names of a path. -/
def partsOf (cwd p : ByteArray) : List ByteArray := (allPieces cwd p).foldl cleanStep []

theorem fold_next {l : List ByteArray} {k : Nat} (h : k < l.length) : (l.take (k + 1)).foldl cleanStep [] = cleanStep ((l.take k).foldl cleanStep []) l[k] := by
  rw [List.take_add_one, List.getElem?_eq_getElem h, List.foldl_append]
  rfl
theorem clean_len (l : List ByteArray) : ∀ (o : List ByteArray), (l.foldl cleanStep o).length ≤ o.length + l.length := by
  induction l with
  | nil => intro o; simp
  | cons s l ih =>
    intro o
    have h1 := ih (cleanStep o s)
    have h2 : (cleanStep o s).length ≤ o.length + 1 := by
      unfold cleanStep
      split
      · omega
      · split
        · simp; omega
        · simp
    simp only [List.foldl_cons, List.length_cons]
    omega

theorem split_calls {w : World} (hE : Env w) (s : ByteArray) (hs : s.size < 4294967281) :
    Calls Tryz.prog 177 #[.string s, .string ⟨#[47]⟩] w fun e w' => e = .returned (.slice (some ⟨w.heap.size, 0, none⟩) (pieces s).length (pieces s).length) ∧
      w'.ownsRow w.heap.size 9 1 (.slice (some ⟨w.heap.size, 0, none⟩) (pieces s).length (pieces s).length) (pieces s).length ((pieces s).map Value.string) ∧ Fresh w w' := by
  obtain ⟨m, hm⟩ := hE.maxlen
  refine (Tryz.strings_Split s ⟨#[47]⟩ m w hs hm (by decide)).mono fun e w' ⟨he, hw⟩ => ?_
  rw [← pieces_length] at he
  refine ⟨he, ?_, by rw [hw]; exact (Keeps.refl _ w).alloc _⟩
  rw [hw]
  refine ⟨by simp, Or.inr ⟨w.heap.size, _, _, rfl, Nat.le_refl _, heap_alloc_new w _, Nat.le_refl _, ?_, ?_, ?_⟩⟩
  · rw [pieces_length]
    have := Lib.countB_le ⟨#[47]⟩ (by decide) _ s (Nat.le_refl _)
    unfold maxLen
    omega
  · rw [Nat.mul_one]
    show (List.map Value.string (pieces s)).toArray.size = _
    simp
  · show (List.map Value.string (pieces s)).toArray.toList.take _ = _
    exact List.take_of_length_le (by simp)

/-- Where Parts has come to. -/
def PaRel (W wr : World) (l : List ByteArray) (k : Nat) (v : Value) : Prop := Fresh W wr ∧ ∃ a c, v = .slice a ((l.take k).foldl cleanStep []).length c ∧
  wr.ownsRow W.heap.size 9 1 (.slice a ((l.take k).foldl cleanStep []).length c) ((l.take k).foldl cleanStep []).length (((l.take k).foldl cleanStep []).map Value.string)

theorem pa_step {W wr : World} {l : List ByteArray} {k : Nat} {o : List ByteArray} {a : Option Addr} {n c : Nat} (hn : (l.take (k + 1)).foldl cleanStep [] = o) (hF : Fresh W wr) (he : n = o.length)
    (h : wr.ownsRow W.heap.size 9 1 (.slice a n c) n (o.map Value.string)) : PaRel W wr l (k + 1) (.slice a n c) := by
  subst he
  exact ⟨hF, a, c, by rw [hn], by rw [hn]; exact h⟩
theorem step_same {o : List ByteArray} {s : ByteArray} (h : s.data.toList = [] ∨ s.data.toList = [46]) : cleanStep o s = o := by unfold cleanStep; rw [if_pos h]
theorem step_up {o : List ByteArray} {s : ByteArray} (h : s.data.toList = [46, 46]) : cleanStep o s = o.take (o.length - 1) := by unfold cleanStep; rw [if_neg (by rw [h]; decide), if_pos h]
theorem step_more {o : List ByteArray} {s : ByteArray} (h0 : s.data.toList ≠ []) (h1 : s.data.toList ≠ [46]) (h2 : s.data.toList ≠ [46, 46]) : cleanStep o s = o ++ [s] := by unfold cleanStep; rw [if_neg (by rintro (h | h) <;> contradiction), if_neg h2]
theorem eqb_is {t : ByteArray} {l : List UInt8} (h : t.data.toList = l) : (t.toList == l) = true := by
  rw [ByteArray.toList_eq, h]
  exact beq_self_eq_true _
theorem eqb_not {t : ByteArray} {l : List UInt8} (h : t.data.toList ≠ l) : (t.toList == l) = false := by
  rw [ByteArray.toList_eq]
  exact beq_eq_false_iff_ne.2 h

set_option maxHeartbeats 1600000 in
theorem parts_calls {w : World} (hE : Env w) (cwd p : ByteArray) (hc : cwd.size < 4294967281) (hp : p.size < 4294967281) :
    Calls Tryz.prog 131 #[.string cwd, .string p] w fun e w' => ∃ oa c, e = .returned (.slice oa (partsOf cwd p).length c) ∧
      w'.ownsRow w.heap.size 9 1 (.slice oa (partsOf cwd p).length c) (partsOf cwd p).length ((partsOf cwd p).map Value.string) ∧ Fresh w w' := by
  have HE := Lib.hid hE
  have Hc := Lib.hid hc
  have Hp := Lib.hid hp
  have hpl : (pieces p).length ≤ 4294967281 := by rw [pieces_length]; have := Lib.countB_le ⟨#[47]⟩ (by decide) _ p (Nat.le_refl _); omega
  have hcl : (pieces cwd).length ≤ 4294967281 := by rw [pieces_length]; have := Lib.countB_le ⟨#[47]⟩ (by decide) _ cwd (Nat.le_refl _); omega
  clear hE hc hp
  have hpre : ∀ w, Calls Tryz.prog 81 #[.string p, .string ⟨#[47]⟩] w fun e w' => e = .returned (.bool (Lib.hasPrefix p.data.toList [47])) ∧ w = w' := fun w => (Tryz.strings_HasPrefix p ⟨#[47]⟩ w).mono fun e w' ⟨h1, h2⟩ => ⟨h1, h2.symm⟩
  unfold partsOf allPieces
  obtain ⟨h, hh⟩ : ∃ h, Lib.hasPrefix p.data.toList [47] = h := ⟨_, rfl⟩
  rw [hh]
  rw [hh] at hpre
  have Hpre := Lib.hid hpre
  clear hpre hh
  go_enter Tryz.func131, Tryz.ntmps131
  go_wp2_with fail
  refine (split_calls HE.out p Hp.out).mono ?_
  rintro _ w1 ⟨rfl, ho1, hF1⟩
  have HO1 := Lib.hid ho1
  have HF1 := Lib.hid hF1
  clear ho1 hF1
  have HBw := HF1.out.size
  generalize w.heap.size = B1 at HO1 HBw ⊢
  cases h
  · go_wp2_with (go_at_call 81; refine (Hpre.out _).mono ?_; rintro _ _ ⟨rfl, rfl⟩)
    refine (split_calls (HE.out.fresh HF1.out) cwd Hc.out).mono ?_
    rintro _ w2 ⟨rfl, ho2, hF2⟩
    have HO2 := Lib.hid ho2
    have HF2 := Lib.hid hF2
    have hlt := HF1.out.size
    have hrow1 : RowAt w1 9 (some ⟨B1, 0, none⟩) ((pieces p).map Value.string) := RowAt.of_owns HO1.out
    have hrow2 := hrow1.fresh hF2
    have Hadd := Lib.hid (show ∀ ad, (some (⟨B1, 0, none⟩ : Addr)) = some ad → ∀ j u, ((pieces p).map Value.string)[j]? = some u → w2.cell? (ad.add j) = some u from fun ad had => by cases had; exact hrow2.add)
    have Hsz := Lib.hid (show w1.heap.size ≤ w2.heap.size from hF2.size)
    have Hlen := Lib.hid (show ((pieces p).map Value.string).length = (pieces p).length by rw [List.length_map])
    have hbig : ((pieces cwd).length + (pieces p).length) * 16 ≤ 140737488355328 := by omega
    clear ho2 hF2 hrow1 hrow2
    go_wp2_with (at_builtin; go_must (refine wp_app_row rfl _ _ _ rfl w1.heap.size 9 (.string ⟨#[]⟩) 16 Tryz.underlying22 info_str rfl (.slice (some ⟨w1.heap.size, 0, none⟩) (pieces cwd).length (pieces cwd).length) (pieces cwd).length _ rfl HO2.out (some ⟨B1, 0, none⟩) (pieces p).length (pieces p).length _ rfl (fun h => by cases h) Hlen.out Hadd.out (strs_one _) hbig (by decide) Hsz.out ?_); intro ao ac w3 hown hg hat)
    obtain ⟨g, cur, rfl, _, _, hnc⟩ := ownsRow_pos hown (by rw [pieces_length, pieces_length]; omega)
    have hrow : RowAt w3 9 (some ⟨g, 0, none⟩) ((pieces cwd ++ pieces p).map Value.string) := by rw [List.map_append]; exact RowAt.of_owns hown
    have hF3 : Fresh w w3 := ((HF1.out.trans HF2.out)).grown hg (fun j hj hl => by
      simp only [Value.ownBlock, Option.some.injEq] at hj
      have := HF1.out.size
      omega)
    have HF0 := Lib.hid hF3
    have HB := Lib.hid (show B1 ≤ w3.heap.size from Nat.le_trans HBw (Nat.le_trans Hsz.out hg.size))
    have hlen : (pieces cwd ++ pieces p).length ≤ 8589934562 := by rw [List.length_append]; omega
    have hle : (pieces cwd).length + (pieces p).length = (pieces cwd ++ pieces p).length := by rw [List.length_append]
    have hle2 : ((pieces cwd).length : Int) + ((pieces p).length : Int) = ((pieces cwd ++ pieces p).length : Int) := by rw [List.length_append]; omega
    rw [hle2, hle]
    generalize hL : pieces cwd ++ pieces p = L at hrow hlen ⊢
    have HL := Lib.hid hL
    clear hL
    generalize w3 = W0 at hrow HF0 HB ⊢
    have HROW := Lib.hid hrow
    clear hrow hle hle2 hown hg hat
    go_loopw [6, 20] (fun v i wr => ∃ k : Nat, k ≤ L.length ∧ i = .int .i64 k ∧ PaRel W0 wr L k v) (fun _ i _ => L.length - (intOf i).toNat)
    case atStart => exact ⟨0, by omega, rfl, Keeps.refl _ _, none, 0, by simp, by simpa using World.ownsRow_nil _ _ _ _⟩
    case round =>
      obtain ⟨k, hk, rfl, hFr, a, c, rfl, hown⟩ := hrel
      rename_i wr
      have HFr := Lib.hid hFr
      have HOwn := Lib.hid hown
      clear hFr hown
      by_cases hlt : k < L.length
      · have hcell : wr.cell? ⟨g, k, none⟩ = some (.string L[k]) := by
          have := (HROW.out.fresh HFr.out).cell (j := k) (u := .string L[k]) (by simp [hlt])
          simpa using this
        have hnext := fold_next hlt
        have hcn := clean_len (L.take k) []
        simp only [List.length_take, List.length_nil] at hcn
        have Hnext := Lib.hid hnext
        clear hnext
        generalize L[k] = s at hcell Hnext
        generalize (L.take k).foldl cleanStep [] = o at HOwn Hnext hcn ⊢
        by_cases e0 : s.data.toList = []
        · have t0 : s.toList.isEmpty = true := by rw [ByteArray.toList_eq, e0]; rfl
          go_wp2_with fail
          exact ⟨⟨k + 1, by omega, by go_num, pa_step (Hnext.out.trans (step_same (Or.inl e0))) HFr.out rfl HOwn.out⟩, by simp [intOf]; omega⟩
        · have t0 : s.toList.isEmpty = false := by rw [ByteArray.toList_eq]; cases hh : s.data.toList with | nil => exact absurd hh e0 | cons a l => rfl
          by_cases e1 : s.data.toList = [46]
          · have t1 := eqb_is e1
            go_wp2_with fail
            exact ⟨⟨k + 1, by omega, by go_num, pa_step (Hnext.out.trans (step_same (Or.inr e1))) HFr.out rfl HOwn.out⟩, by simp [intOf]; omega⟩
          · have t1 := eqb_not e1
            by_cases e2 : s.data.toList = [46, 46]
            · have t2 := eqb_is e2
              obtain ⟨m, hm⟩ : ∃ m, o.length - 1 = m := ⟨_, rfl⟩
              have hmx : max 0 ((o.length : Int) - 1) = (m : Int) := by omega
              have hmc : m ≤ c := by have := HOwn.out.shape2.1; omega
              have hta : (o.take (o.length - 1)).length = m := by rw [List.length_take]; omega
              have hsh := ownsRow_shrink HOwn.out m (by omega)
              rw [← List.map_take, ← hm] at hsh
              have Hsh := Lib.hid hsh
              clear hsh
              cases a with
              | none =>
                obtain rfl : c = 0 := HOwn.out.shape2.2.2 rfl
                obtain rfl : m = 0 := by omega
                go_wp2_with fail
                refine ⟨⟨k + 1, by omega, by go_num, pa_step (Hnext.out.trans (step_up e2)) HFr.out hta.symm (by rw [hm] at Hsh; simpa [hm] using Hsh.out)⟩, by simp [intOf]; omega⟩
              | some ad =>
                go_wp2_with fail
                refine ⟨⟨k + 1, by omega, by go_num, pa_step (Hnext.out.trans (step_up e2)) HFr.out hta.symm (by rw [hm] at Hsh; simpa [hm] using Hsh.out)⟩, by simp [intOf]; omega⟩
            · have t2 := eqb_not e2
              have hfa : Fresh wr (wr.alloc (.cells #[.string s] 9)) := (Keeps.refl _ wr).alloc _
              have hnb : (wr.alloc (.cells #[.string s] 9)).heap[wr.heap.size]? = some (.cells #[.string s] 9 (0, 0)) := heap_alloc_new wr _
              have Hown2 := Lib.hid (ownsRow_keeps HOwn.out hfa (fun _ _ x => x))
              have Hadd1 := Lib.hid (show ∀ ad, (some (⟨wr.heap.size, 0, none⟩ : Addr)) = some ad → ∀ j u, [Value.string s][j]? = some u → (wr.alloc (.cells #[.string s] 9)).cell? (ad.add j) = some u from fun ad had => by cases had; exact (RowAt.of_block (fz := (0, 0)) hnb).add)
              have Hsz1 := Lib.hid (show W0.heap.size ≤ (wr.alloc (.cells #[.string s] 9)).heap.size from Nat.le_trans HFr.out.size hfa.size)
              have Hfa := Lib.hid hfa
              have hbig1 : (o.length + 1) * 16 ≤ 140737488355328 := by omega
              clear hfa hnb
              go_wp2_with (at_builtin; go_must (refine wp_app_row rfl _ _ _ rfl W0.heap.size 9 (.string ⟨#[]⟩) 16 Tryz.underlying22 info_str rfl (.slice a o.length c) o.length _ rfl Hown2.out (some ⟨wr.heap.size, 0, none⟩) 1 1 [.string s] rfl (fun h => by cases h) rfl Hadd1.out (strs_one [s]) hbig1 (by decide) Hsz1.out ?_); intro ao' ac' w4 hown4 hg4 hat4)
              have hF4 : Fresh W0 w4 := (HFr.out.trans Hfa.out).grown hg4 (fun j hj hl => by
                have h1 := (World.ownsRow.lt HOwn.out j hj).1
                omega)
              exact ⟨⟨k + 1, by omega, by go_num, pa_step (Hnext.out.trans (step_more e0 e1 e2)) hF4 (by simp) (by rw [List.map_append]; exact hown4)⟩, by simp [intOf]; omega⟩
      · obtain rfl : k = L.length := by omega
        rw [List.take_length] at HOwn
        go_wp2_with fail
        go_ret
        have hfin := HOwn.out
        have hl := HL.out
        clear HL HOwn
        subst hl
        try simp only [List.foldl_append] at hfin ⊢
        exact ⟨a, c, rfl, ownsRow_base hfin HF0.out.size, (HF0.out.trans HFr.out)⟩
  · go_wp2_with (go_at_call 81; refine (Hpre.out _).mono ?_; rintro _ _ ⟨rfl, rfl⟩)
    have hrow : RowAt w1 9 (some ⟨B1, 0, none⟩) ((pieces p).map Value.string) := RowAt.of_owns HO1.out
    have hlen : (pieces p).length ≤ 8589934562 := by omega
    have HF0 := Lib.hid HF1.out
    have HB := Lib.hid HBw
    generalize hL : pieces p = L at hrow hlen ⊢
    have HL := Lib.hid hL
    clear hL
    generalize hg : B1 = g at hrow ⊢
    generalize w1 = W0 at hrow HF0 HB ⊢
    have HROW := Lib.hid hrow
    clear hrow
    go_loopw [6, 20] (fun v i wr => ∃ k : Nat, k ≤ L.length ∧ i = .int .i64 k ∧ PaRel W0 wr L k v) (fun _ i _ => L.length - (intOf i).toNat)
    case atStart => exact ⟨0, by omega, rfl, Keeps.refl _ _, none, 0, by simp, by simpa using World.ownsRow_nil _ _ _ _⟩
    case round =>
      obtain ⟨k, hk, rfl, hFr, a, c, rfl, hown⟩ := hrel
      rename_i wr
      have HFr := Lib.hid hFr
      have HOwn := Lib.hid hown
      clear hFr hown
      by_cases hlt : k < L.length
      · have hcell : wr.cell? ⟨g, k, none⟩ = some (.string L[k]) := by
          have := (HROW.out.fresh HFr.out).cell (j := k) (u := .string L[k]) (by simp [hlt])
          simpa using this
        have hnext := fold_next hlt
        have hcn := clean_len (L.take k) []
        simp only [List.length_take, List.length_nil] at hcn
        have Hnext := Lib.hid hnext
        clear hnext
        generalize L[k] = s at hcell Hnext
        generalize (L.take k).foldl cleanStep [] = o at HOwn Hnext hcn ⊢
        by_cases e0 : s.data.toList = []
        · have t0 : s.toList.isEmpty = true := by rw [ByteArray.toList_eq, e0]; rfl
          go_wp2_with fail
          exact ⟨⟨k + 1, by omega, by go_num, pa_step (Hnext.out.trans (step_same (Or.inl e0))) HFr.out rfl HOwn.out⟩, by simp [intOf]; omega⟩
        · have t0 : s.toList.isEmpty = false := by rw [ByteArray.toList_eq]; cases hh : s.data.toList with | nil => exact absurd hh e0 | cons a l => rfl
          by_cases e1 : s.data.toList = [46]
          · have t1 := eqb_is e1
            go_wp2_with fail
            exact ⟨⟨k + 1, by omega, by go_num, pa_step (Hnext.out.trans (step_same (Or.inr e1))) HFr.out rfl HOwn.out⟩, by simp [intOf]; omega⟩
          · have t1 := eqb_not e1
            by_cases e2 : s.data.toList = [46, 46]
            · have t2 := eqb_is e2
              obtain ⟨m, hm⟩ : ∃ m, o.length - 1 = m := ⟨_, rfl⟩
              have hmx : max 0 ((o.length : Int) - 1) = (m : Int) := by omega
              have hmc : m ≤ c := by have := HOwn.out.shape2.1; omega
              have hta : (o.take (o.length - 1)).length = m := by rw [List.length_take]; omega
              have hsh := ownsRow_shrink HOwn.out m (by omega)
              rw [← List.map_take, ← hm] at hsh
              have Hsh := Lib.hid hsh
              clear hsh
              cases a with
              | none =>
                obtain rfl : c = 0 := HOwn.out.shape2.2.2 rfl
                obtain rfl : m = 0 := by omega
                go_wp2_with fail
                refine ⟨⟨k + 1, by omega, by go_num, pa_step (Hnext.out.trans (step_up e2)) HFr.out hta.symm (by rw [hm] at Hsh; simpa [hm] using Hsh.out)⟩, by simp [intOf]; omega⟩
              | some ad =>
                go_wp2_with fail
                refine ⟨⟨k + 1, by omega, by go_num, pa_step (Hnext.out.trans (step_up e2)) HFr.out hta.symm (by rw [hm] at Hsh; simpa [hm] using Hsh.out)⟩, by simp [intOf]; omega⟩
            · have t2 := eqb_not e2
              have hfa : Fresh wr (wr.alloc (.cells #[.string s] 9)) := (Keeps.refl _ wr).alloc _
              have hnb : (wr.alloc (.cells #[.string s] 9)).heap[wr.heap.size]? = some (.cells #[.string s] 9 (0, 0)) := heap_alloc_new wr _
              have Hown2 := Lib.hid (ownsRow_keeps HOwn.out hfa (fun _ _ x => x))
              have Hadd1 := Lib.hid (show ∀ ad, (some (⟨wr.heap.size, 0, none⟩ : Addr)) = some ad → ∀ j u, [Value.string s][j]? = some u → (wr.alloc (.cells #[.string s] 9)).cell? (ad.add j) = some u from fun ad had => by cases had; exact (RowAt.of_block (fz := (0, 0)) hnb).add)
              have Hsz1 := Lib.hid (show W0.heap.size ≤ (wr.alloc (.cells #[.string s] 9)).heap.size from Nat.le_trans HFr.out.size hfa.size)
              have Hfa := Lib.hid hfa
              have hbig1 : (o.length + 1) * 16 ≤ 140737488355328 := by omega
              clear hfa hnb
              go_wp2_with (at_builtin; go_must (refine wp_app_row rfl _ _ _ rfl W0.heap.size 9 (.string ⟨#[]⟩) 16 Tryz.underlying22 info_str rfl (.slice a o.length c) o.length _ rfl Hown2.out (some ⟨wr.heap.size, 0, none⟩) 1 1 [.string s] rfl (fun h => by cases h) rfl Hadd1.out (strs_one [s]) hbig1 (by decide) Hsz1.out ?_); intro ao' ac' w4 hown4 hg4 hat4)
              have hF4 : Fresh W0 w4 := (HFr.out.trans Hfa.out).grown hg4 (fun j hj hl => by
                have h1 := (World.ownsRow.lt HOwn.out j hj).1
                omega)
              exact ⟨⟨k + 1, by omega, by go_num, pa_step (Hnext.out.trans (step_more e0 e1 e2)) hF4 (by simp) (by rw [List.map_append]; exact hown4)⟩, by simp [intOf]; omega⟩
      · obtain rfl : k = L.length := by omega
        rw [List.take_length] at HOwn
        go_wp2_with fail
        go_ret
        have hfin := HOwn.out
        have hl := HL.out
        clear HL HOwn
        subst hl
        try simp only [List.foldl_append] at hfin ⊢
        exact ⟨a, c, rfl, ownsRow_base hfin HF0.out.size, (HF0.out.trans HFr.out)⟩
end Go.Proofs.YtbhmapcjcnceiaaGreatDoor
