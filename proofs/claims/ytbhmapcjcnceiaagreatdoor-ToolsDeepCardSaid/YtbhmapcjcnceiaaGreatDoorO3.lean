/- The walk of the law ToolsDeep. -/
import Derived.Test.YtbhmapcjcnceiaaGreatDoorO2
import Derived.Test.YtbhmapcjcnceiaaGreatDoorE0
import Derived.Test.YtbhmapcjcnceiaaGreatDoorK4
import Derived.Lib.SlBytesConst
namespace Go.Proofs.YtbhmapcjcnceiaaGreatDoor
open Go Go.RowKit

/-- The texts as rows of bytes. -/
def rowsOf (L : List ByteArray) : List (List UInt8) := L.map fun x => x.data.toList
theorem pa_next {L : List ByteArray} {k : Nat} (hk : k < L.length) : pa (rowsOf L) k ++ ⟨#[47]⟩ ++ L[k] = pa (rowsOf L) (k + 1) := by
  unfold pa
  have e : (rowsOf L).take (k + 1) = (rowsOf L).take k ++ [(L[k]).data.toList] := by
    unfold rowsOf
    rw [List.take_add_one, List.getElem?_map, List.getElem?_eq_getElem hk]
    rfl
  rw [e, pathL_append]
  apply ByteArray.ext
  apply Array.ext'
  simp [ByteArray.data_append, B, pathL]
theorem text_rows (w : World) (l : List Value) : ReadRow (w.alloc (.cells l.toArray 9)) (some ⟨w.heap.size, 0, none⟩) l.length l :=
  ⟨fun h => (by cases h), fun ad had j u hu => by
    cases had
    exact (RowAt.of_block (xs := l) (heap_alloc_new w _)).add j u hu⟩
theorem told_keeps {w w' : World} {P M a : Nat} {nodes bytes used clock : Int} {t : Tree} {cs : Array Value} {fz : Nat × Nat} (hf : FsAt w P M nodes bytes used clock t) (hb : w.heap[a]? = some (.cells cs 27 fz)) (hk : Keeps (fun k => k = P ∨ k = M) w w') :
    w'.heap[a]? = some (.cells cs 27 fz) := by
  refine hk.at hb ?_
  rintro (e | e)
  · subst e
    have := hb.symm.trans hf.blk
    simp only [Option.some.injEq, Obj.cells.injEq] at this
    exact absurd this.2.1 (by decide)
  · exact hf.map.ne hb e

theorem dn_data (ls : List (List UInt8)) (j : Nat) : ∀ x ∈ chain ls dn j, x.2.data.length ≤ 1099511627776 := by
  unfold chain
  intro x hx
  obtain ⟨i, _, rfl⟩ := List.mem_map.1 hx
  exact Nat.zero_le _
theorem dn_dataOf (ls : List (List UInt8)) (j : Nat) (q : ByteArray) : (dataOf (chain ls dn j) q).length ≤ 100000000 := by
  unfold dataOf
  cases hlk : look q (chain ls dn j) with
  | none => exact Nat.zero_le _
  | some v =>
    have hm := look_mem hlk
    unfold chain at hm
    obtain ⟨i, hi, he⟩ := List.mem_map.1 hm
    simp only [Prod.mk.injEq] at he
    show v.data.length ≤ _
    rw [← he.2]
    exact Nat.zero_le _
theorem ndx_data {ls' : List (List UInt8)} {m : Nat} {f : Cn} (hfl : f.data.length = 1) (j : Nat) : ∀ x ∈ chain ls' (ndx m f) j, x.2.data.length ≤ 1099511627776 := by
  unfold chain
  intro x hx
  obtain ⟨i, _, rfl⟩ := List.mem_map.1 hx
  show (ndx m f i).data.length ≤ _
  unfold ndx
  split
  · exact Nat.zero_le _
  · rw [hfl]; decide

set_option maxRecDepth 10000 in
set_option maxHeartbeats 32000000 in
theorem deep_law_calls {w : World} (hE : Env w) (oa : Option Addr) (c : Nat) (L : List ByteArray) (n : Int) (h1 : -9223372036854775808 ≤ n) (h2 : n ≤ 9223372036854775807) (hl : ReadRow w oa c (L.map Value.string)) :
    Calls Tryz.prog 6 #[.slice oa L.length c, .int .i64 n] w fun e w' => e = .returned (.bool true) ∧ Fresh w w' := by
  have HE := Lib.hid hE
  have HL := Lib.hid hl
  clear hE hl
  go_enter Tryz.func6, Tryz.ntmps6
  go_wp2_with fail
  refine (alive_calls HE.out).mono ?_
  rintro _ w1 ⟨rfl, hF1⟩
  have HF1 := Lib.hid hF1
  clear hF1
  go_wp2_with fail
  any_goals (go_ret; exact ⟨rfl, HF1.out⟩)
  have h8 : L.length ≤ 8 := by omega
  have hL1 : 1 ≤ L.length := by omega
  have hn1 : 1 ≤ n := by omega
  have hn2 : n ≤ (L.length : Int) := by omega
  obtain ⟨N, hN⟩ : ∃ N : Nat, n = N := ⟨n.toNat, by omega⟩
  have HN := Lib.hid hN
  clear hN
  go_loopw [6, 7, 8] (fun s p i wr => ∃ k : Nat, wr = w1 ∧ k ≤ L.length ∧ s = .string (pa (rowsOf L) k) ∧ p = .string (pa (rowsOf L) (min k N)) ∧ i = .int .i64 k ∧ ∀ x ∈ (rowsOf L).take k, OkName x) (fun _ _ i _ => L.length - (intOf i).toNat)
  case atStart => exact ⟨0, rfl, by omega, rfl, rfl, rfl, by simp⟩
  case round =>
    obtain ⟨k, hwr, hk, rfl, rfl, rfl, hok⟩ := hrel
    rename_i wr
    obtain rfl : w1 = wr := hwr.symm
    have HOk := Lib.hid hok
    clear hok
    by_cases hlt : k < L.length
    · cases oa with
      | none => exact absurd (HL.out.1 rfl).1 (by rw [List.length_map]; omega)
      | some ad =>
        have hcell := HF1.out.cell (HL.out.2 ad rfl k _ (by simp [hlt] : (L.map Value.string)[k]? = some (.string L[k]))) (fun x => x)
        have hnx := pa_next (L := L) hlt
        obtain ⟨x, hx⟩ : ∃ x, L[k] = x := ⟨_, rfl⟩
        rw [hx] at hcell hnx
        by_cases e0 : x.data.toList = []
        · have t0 := eqb_is e0
          go_wp2_with fail
          go_ret
          exact ⟨rfl, HF1.out⟩
        · have t0 := eqb_not e0
          have hpos : 0 < x.size := by
            have h0 : 0 < x.data.toList.length := List.length_pos_iff.2 e0
            rwa [Array.length_toList] at h0
          by_cases e1 : 20 < x.size
          · go_wp2_with fail
            go_ret
            exact ⟨rfl, HF1.out⟩
          have hx20 : x.size ≤ 20 := by omega
          have HA1 : Calls Tryz.prog 14 #[.string x, .int .u8 47] w1 fun e w' => w' = w1 ∧ ∃ z : Int, e = .returned (.int .i64 z) ∧ (0 ≤ z ↔ (47 : UInt8) ∈ x.data.toList) := at_calls w1 x 47 (by omega)
          have HA2 : Calls Tryz.prog 14 #[.string x, .int .u8 0] w1 fun e w' => w' = w1 ∧ ∃ z : Int, e = .returned (.int .i64 z) ∧ (0 ≤ z ↔ (0 : UInt8) ∈ x.data.toList) := at_calls w1 x 0 (by omega)
          have HA1 := Lib.hid HA1
          have HA2 := Lib.hid HA2
          have hps : (pa (rowsOf L) k).size ≤ 21 * k := by
            unfold pa
            rw [B_size]
            refine Nat.le_trans (pathL_len HOk.out) ?_
            rw [List.length_take]
            omega
          have z1 : ¬ 9223372036854775807 < (pa (rowsOf L) k).size + 1 := by omega
          have z2 : ¬ 9223372036854775807 < (pa (rowsOf L) k).size + 1 + x.size := by omega
          by_cases e2 : x[0] = 46
          · have t1 : ((x[0].toNat : Int) == 46) = true := by rw [e2]; rfl
            go_wp2_with fail
            go_ret
            exact ⟨rfl, HF1.out⟩
          have t1 : ((x[0].toNat : Int) == 46) = false := by
            rw [beq_eq_false_iff_ne]
            intro h
            exact e2 (UInt8.toNat_inj.1 (by show x[0].toNat = 46; omega))
          have hhd : x.data.toList.head? ≠ some 46 := by
            intro h
            rw [List.head?_eq_getElem?, Array.getElem?_toList, Array.getElem?_eq_getElem hpos] at h
            exact e2 (Option.some.inj h)
          have HHd := Lib.hid hhd
          clear hhd
          go_wp2_with fail
          refine HA1.out.mono ?_
          rintro _ w9 ⟨hw9, z, rfl, hz⟩
          obtain rfl : w1 = w9 := hw9.symm
          by_cases hm1 : (47 : UInt8) ∈ x.data.toList
          · have hz0 : 0 ≤ z := hz.2 hm1
            clear hz
            go_wp2_with fail
            go_ret
            exact ⟨rfl, HF1.out⟩
          have hz0 : ¬ 0 ≤ z := fun h => hm1 (hz.1 h)
          clear hz
          go_wp2_with fail
          refine HA2.out.mono ?_
          rintro _ w9 ⟨hw9, z', rfl, hz⟩
          obtain rfl : w1 = w9 := hw9.symm
          by_cases hm2 : (0 : UInt8) ∈ x.data.toList
          · have hz0' : 0 ≤ z' := hz.2 hm2
            clear hz
            go_wp2_with fail
            go_ret
            exact ⟨rfl, HF1.out⟩
          have hz0' : ¬ 0 ≤ z' := fun h => hm2 (hz.1 h)
          clear hz
          have HOk1 : ∀ y ∈ (rowsOf L).take (k + 1), OkName y := by
            intro y hy
            have e : (rowsOf L).take (k + 1) = (rowsOf L).take k ++ [x.data.toList] := by
              unfold rowsOf
              rw [List.take_add_one, List.getElem?_map, List.getElem?_eq_getElem hlt, hx]
              rfl
            rw [e] at hy
            rcases List.mem_append.1 hy with hy | hy
            · exact HOk.out y hy
            · obtain rfl : y = x.data.toList := by simpa using hy
              exact ⟨e0, by rw [Array.length_toList]; exact hx20, HHd.out, hm1, hm2⟩
          have HOk1 := Lib.hid HOk1
          clear hm1 hm2
          by_cases e3 : (k : Int) < n
          · go_wp2_with fail
            exact ⟨⟨k + 1, trivial, by omega, rfl, by rw [Nat.min_eq_left (by have := HN.out; omega)], by go_num, HOk1.out⟩, by simp [intOf]; omega⟩
          · go_wp2_with fail
            exact ⟨⟨k + 1, trivial, by omega, rfl, by rw [Nat.min_eq_right (by have := HN.out; omega), Nat.min_eq_right (by have := HN.out; omega)], by go_num, HOk1.out⟩, by simp [intOf]; omega⟩
    · obtain rfl : k = L.length := by omega
      clear hlt hk
      obtain ⟨ls, hls⟩ : ∃ ls, ls = rowsOf L := ⟨_, rfl⟩
      have hlL : ls.length = L.length := by rw [hls]; simp [rowsOf]
      have hok0 := HOk.out
      rw [← hls, List.take_of_length_le (by omega)] at hok0
      obtain ⟨m, hmL⟩ : ∃ m, L.length = m + 1 := ⟨L.length - 1, by omega⟩
      obtain ⟨i, hNi⟩ : ∃ i, N = i + 1 := ⟨N - 1, by have := HN.out; omega⟩
      obtain ⟨S, hS⟩ : ∃ S, S = pa ls (m + 1) := ⟨_, rfl⟩
      obtain ⟨D, hD⟩ : ∃ D, D = pa ls (i + 1) := ⟨_, rfl⟩
      have eS : pa (rowsOf L) L.length = S := by rw [← hls, hS, hmL]
      have eD : pa (rowsOf L) (min L.length N) = D := by rw [← hls, hD, Nat.min_eq_right (by have := HN.out; omega), hNi]
      rw [eS, eD]
      clear eS eD HOk
      have HOk := Lib.hid hok0
      have HMm := Lib.hid (show ls.length = m + 1 ∧ L.length = m + 1 ∧ ls.length ≤ 8 ∧ i ≤ m ∧ n = (i : Int) + 1 from ⟨by omega, hmL, by omega, by have := HN.out; omega, by have := HN.out; omega⟩)
      have HSS := Lib.hid hS
      have HDD := Lib.hid hD
      have HSx := Lib.hid (show S ++ ⟨#[47, 120]⟩ = pa (lsx ls) (m + 1 + 1) by
        have h := pa_file (ls := ls)
        rw [show ls.length = m + 1 by omega, ← hS] at h
        exact h.symm)
      have HT1 := Lib.hid (show aboveL 30 100 0 ((List.range (m + 1)).map fun j => pathL (ls.take (0 + j + 1))) (chain ls dn 0) 0 = (chain ls dn (m + 1), ((m + 1 : Nat) : Int), 0) from above_new hok0 (by omega) (m + 1) (by omega) (m + 1) 0 (by omega))
      have HT2 := Lib.hid (show aboveL 30 100 0 ((List.range (m + 1)).map fun j => pathL (ls.take (0 + j + 1))) (chain ls dn (m + 1)) ((m + 1 : Nat) : Int) = (chain ls dn (m + 1), ((m + 1 : Nat) : Int), 0) from above_old hok0 (by omega) (m + 1) (by omega) (m + 1) 0 (by omega) _)
      clear hok0 hmL hNi hS hD hls hlL HN h8 hL1 hn1 hn2
      go_wp2_with fail
      refine (new_fs 30 100 w1 (by decide) (by decide)).mono ?_
      rintro _ w2 ⟨rfl, hfs2, hF2, hsz2⟩
      obtain ⟨P, hP⟩ : ∃ P, P = w1.heap.size + 1 := ⟨_, rfl⟩
      obtain ⟨M, hM⟩ : ∃ M, M = w1.heap.size := ⟨_, rfl⟩
      rw [← hP, ← hM] at hfs2
      rw [← hP]
      have hw1 := HF1.out.size
      have hw9 := HE.out.len
      have H9 := Lib.hid (show 9 ≤ P ∧ 9 ≤ M from ⟨by omega, by omega⟩)
      have HwP := Lib.hid (show w.heap.size ≤ P ∧ w.heap.size ≤ M from ⟨by omega, by omega⟩)
      have HF := Lib.hid (HF1.out.trans hF2)
      have HS := Lib.hid (show FsAt w2 P M 30 100 0 0 (chain ls dn 0) from hfs2)
      clear hP hM hw1 hw9 hfs2 hF2 hsz2 HF1
      go_wp2_with fail
      have hok := HOk.out; obtain ⟨hm, hmL, hl8, hi, hni⟩ := HMm.out; have h9 := H9.out; have hS := HSS.out; have hD := HDD.out; have hwP := HwP.out; have hT1 := HT1.out; have hT2 := HT2.out
      have hfa : Fresh w2 (w2.alloc (.cells #[.string oP, .string S] 9)) := (Keeps.refl _ w2).alloc _
      have hr := text_rows w2 [.string oP, .string S]
      have h := run_mkp (w := (w2.alloc (.cells #[.string oP, .string S] 9))) (HE.out.fresh (HF.out.trans hfa)) h9 hok hl8 hm (j := 0) (Nat.zero_le _) (k := 0) (k' := ((m + 1 : Nat) : Int)) (by decide) (some ⟨w2.heap.size, 0, none⟩) 2 (by rw [← hS]; exact hr) hT1 (HS.out.fresh hfa)
      clear hr
      refine h.mono ?_
      rintro _ x1 ⟨oo1, oc1, lo1, lc1, n1, rfl, hs, hk⟩
      have hF' : Fresh w x1 := (HF.out.trans hfa).then hk (fun i hi e => by rcases e with e | e <;> omega)
      have hT : Fresh x1 (x1.alloc (.cells #[.int .i64 0, .slice oo1 0 oc1, .slice lo1 n1 lc1] 27)) := (Keeps.refl _ x1).alloc _
      have HB1 := Lib.hid (show (x1.alloc (.cells #[.int .i64 0, .slice oo1 0 oc1, .slice lo1 n1 lc1] 27)).heap[x1.heap.size]? = some (.cells #[.int .i64 0, .slice oo1 0 oc1, .slice lo1 n1 lc1] 27 (0, 0)) from heap_alloc_new x1 _)
      replace HF := Lib.hid (hF'.trans hT)
      replace HS := Lib.hid (hs.fresh hT)
      clear h hfa hF' hT hs hk
      clear hok hm hmL hl8 hi hni h9 hS hD hwP hT1 hT2
      go_wp2_with fail
      have hok := HOk.out; obtain ⟨hm, hmL, hl8, hi, hni⟩ := HMm.out; have h9 := H9.out; have hS := HSS.out; have hD := HDD.out; have hwP := HwP.out; have hT1 := HT1.out; have hT2 := HT2.out
      have hfa : Fresh (x1.alloc (.cells #[.int .i64 0, .slice oo1 0 oc1, .slice lo1 n1 lc1] 27)) ((x1.alloc (.cells #[.int .i64 0, .slice oo1 0 oc1, .slice lo1 n1 lc1] 27)).alloc (.cells #[.string oP, .string S] 9)) := (Keeps.refl _ (x1.alloc (.cells #[.int .i64 0, .slice oo1 0 oc1, .slice lo1 n1 lc1] 27))).alloc _
      have hr := text_rows (x1.alloc (.cells #[.int .i64 0, .slice oo1 0 oc1, .slice lo1 n1 lc1] 27)) [.string oP, .string S]
      rw [show (x1.alloc (.cells #[.int .i64 0, .slice oo1 0 oc1, .slice lo1 n1 lc1] 27)).heap.size = x1.heap.size + 1 by simp] at hr
      have h := run_mkp (w := ((x1.alloc (.cells #[.int .i64 0, .slice oo1 0 oc1, .slice lo1 n1 lc1] 27)).alloc (.cells #[.string oP, .string S] 9))) (HE.out.fresh (HF.out.trans hfa)) h9 hok hl8 hm (j := m + 1) (Nat.le_refl _) (k := ((m + 1 : Nat) : Int)) (k' := ((m + 1 : Nat) : Int)) ⟨by omega, by omega⟩ (some ⟨x1.heap.size + 1, 0, none⟩) 2 (by rw [← hS]; exact hr) hT2 (HS.out.fresh hfa)
      clear hr
      refine h.mono ?_
      rintro _ x2 ⟨oo2, oc2, lo2, lc2, n2, rfl, hs, hk⟩
      have hF' : Fresh w x2 := (HF.out.trans hfa).then hk (fun i hi e => by rcases e with e | e <;> omega)
      have b1 := told_keeps (HS.out.fresh hfa) (hfa.at HB1.out (fun x => x)) hk
      have hT : Fresh x2 (x2.alloc (.cells #[.int .i64 0, .slice oo2 0 oc2, .slice lo2 n2 lc2] 27)) := (Keeps.refl _ x2).alloc _
      replace HB1 := Lib.hid (hT.at b1 (fun x => x))
      have HB2 := Lib.hid (show (x2.alloc (.cells #[.int .i64 0, .slice oo2 0 oc2, .slice lo2 n2 lc2] 27)).heap[x2.heap.size]? = some (.cells #[.int .i64 0, .slice oo2 0 oc2, .slice lo2 n2 lc2] 27 (0, 0)) from heap_alloc_new x2 _)
      replace HF := Lib.hid (hF'.trans hT)
      replace HS := Lib.hid (hs.fresh hT)
      clear h hfa hF' hT hs hk b1
      clear hok hm hmL hl8 hi hni h9 hS hD hwP hT1 hT2
      go_wp2_with fail
      have hok := HOk.out; obtain ⟨hm, hmL, hl8, hi, hni⟩ := HMm.out; have h9 := H9.out; have hS := HSS.out; have hD := HDD.out; have hwP := HwP.out; have hT1 := HT1.out; have hT2 := HT2.out
      have hfa : Fresh (x2.alloc (.cells #[.int .i64 0, .slice oo2 0 oc2, .slice lo2 n2 lc2] 27)) ((x2.alloc (.cells #[.int .i64 0, .slice oo2 0 oc2, .slice lo2 n2 lc2] 27)).alloc (.cells #[.string S] 9)) := (Keeps.refl _ (x2.alloc (.cells #[.int .i64 0, .slice oo2 0 oc2, .slice lo2 n2 lc2] 27))).alloc _
      have hr := text_rows (x2.alloc (.cells #[.int .i64 0, .slice oo2 0 oc2, .slice lo2 n2 lc2] 27)) [.string S]
      rw [show (x2.alloc (.cells #[.int .i64 0, .slice oo2 0 oc2, .slice lo2 n2 lc2] 27)).heap.size = x2.heap.size + 1 by simp] at hr
      have h := run_mk (w := ((x2.alloc (.cells #[.int .i64 0, .slice oo2 0 oc2, .slice lo2 n2 lc2] 27)).alloc (.cells #[.string S] 9))) (HE.out.fresh (HF.out.trans hfa)) h9 hok hl8 hm (k := ((m + 1 : Nat) : Int)) ⟨by omega, by omega⟩ (some ⟨x2.heap.size + 1, 0, none⟩) 1 (by rw [← hS]; exact hr) (HS.out.fresh hfa)
      clear hr
      refine h.mono ?_
      rintro _ x3 ⟨oo3, oc3, lo3, lc3, n3, rfl, hs, hk⟩
      have hF' : Fresh w x3 := (HF.out.trans hfa).then hk (fun i hi e => by rcases e with e | e <;> omega)
      have b1 := told_keeps (HS.out.fresh hfa) (hfa.at HB1.out (fun x => x)) hk
      have b2 := told_keeps (HS.out.fresh hfa) (hfa.at HB2.out (fun x => x)) hk
      have hT : Fresh x3 (x3.alloc (.cells #[.int .i64 1, .slice oo3 0 oc3, .slice lo3 n3 lc3] 27)) := (Keeps.refl _ x3).alloc _
      replace HB1 := Lib.hid (hT.at b1 (fun x => x))
      replace HB2 := Lib.hid (hT.at b2 (fun x => x))
      have HB3 := Lib.hid (show (x3.alloc (.cells #[.int .i64 1, .slice oo3 0 oc3, .slice lo3 n3 lc3] 27)).heap[x3.heap.size]? = some (.cells #[.int .i64 1, .slice oo3 0 oc3, .slice lo3 n3 lc3] 27 (0, 0)) from heap_alloc_new x3 _)
      replace HF := Lib.hid (hF'.trans hT)
      replace HS := Lib.hid (hs.fresh hT)
      clear h hfa hF' hT hs hk b1 b2
      clear hok hm hmL hl8 hi hni h9 hS hD hwP hT1 hT2
      go_wp2_with fail
      have hok := HOk.out; obtain ⟨hm, hmL, hl8, hi, hni⟩ := HMm.out; have h9 := H9.out; have hS := HSS.out; have hD := HDD.out; have hwP := HwP.out; have hT1 := HT1.out; have hT2 := HT2.out
      have hln : (belowL (chain ls dn (m + 1)) ⟨#[47]⟩).length = L.length := (below_root (by omega)).trans hmL.symm
      have h := fsall_calls HS.out (by rw [chain_len]; omega) (dn_data ls (m + 1))
      rw [hln] at h
      refine h.mono ?_
      rintro _ yt13 ⟨yat13, yct13, rfl, hF'⟩
      replace HB1 := Lib.hid (hF'.at HB1.out (fun x => x))
      replace HB2 := Lib.hid (hF'.at HB2.out (fun x => x))
      replace HB3 := Lib.hid (hF'.at HB3.out (fun x => x))
      replace HF := Lib.hid (HF.out.trans hF')
      replace HS := Lib.hid (HS.out.fresh hF')
      clear h hln hF'
      have kc := Lib.run_convert_bytes_const (P := Tryz.prog) yt13 25 5 #[.int .u8 121] 1 1 Tryz.underlying25 Tryz.underlying5
      have zs : ¬ 9223372036854775807 < S.size + 2 := by have := pa_small hok hl8 hm (i := m + 1); rw [← hS] at this; omega
      clear hok hm hmL hl8 hi hni h9 hS hD hwP hT1 hT2
      go_wp2_with fail
      have hok := HOk.out; obtain ⟨hm, hmL, hl8, hi, hni⟩ := HMm.out; have h9 := H9.out; have hS := HSS.out; have hD := HDD.out; have hwP := HwP.out; have hT1 := HT1.out; have hT2 := HT2.out
      clear kc
      have hfa : Fresh yt13 (yt13.alloc (.cells #[.int .u8 121] 5 (1, 2))) := (Keeps.refl _ yt13).alloc _
      have hnb : (yt13.alloc (.cells #[.int .u8 121] 5 (1, 2))).heap[yt13.heap.size]? = some (.cells #[.int .u8 121] 5 (1, 2)) := heap_alloc_new yt13 _
      have hrb : ReadB (yt13.alloc (.cells #[.int .u8 121] 5 (1, 2))) (some ⟨yt13.heap.size, 0, none⟩) 1 [121] := ReadB.of (RowAt.of_block (xs := cellsOf [121]) hnb) (fun h => by cases h)
      have hPw := HS.out.below.1
      have h := write0_calls (HS.out.fresh hfa) (HE.out.fresh (HF.out.trans hfa)) h9 (pa (lsx ls) (m + 1 + 1)) (by have h1 := pa_size (okx hok) (i := m + 1 + 1); have h2 := lsx_len ls; omega) (some ⟨yt13.heap.size, 0, none⟩) 1 [121] hrb (fun ad had h0 e => by cases had; have h1 : yt13.heap.size = P := e; omega) (by decide) (by rw [chain_len]; omega) (dn_dataOf ls (m + 1)) (by decide) ⟨by omega, by omega⟩
      obtain ⟨e1, e2, e3⟩ := write_chain hok hl8 (m + 1) hm
      rw [e1, e2] at h
      rw [HSx.out]
      refine h.mono ?_
      rintro _ y5 ⟨rfl, hk, h4⟩
      have hs : ∃ f : Cn, f.dir = false ∧ f.data.length = 1 ∧ FsAt y5 P M 30 100 1 (((m + 1 : Nat) : Int) + 1) (chain (lsx ls) (ndx (m + 1) f) (m + 1 + 1)) := by
        rcases h4 with ⟨h, _⟩ | ⟨_, oa', c', hs, _⟩
        · exact absurd rfl h
        · rw [e3] at hs
          exact ⟨_, rfl, rfl, hs⟩
      obtain ⟨f, hfd, hfl, hs⟩ := hs
      have hF' : Fresh w y5 := (HF.out.trans hfa).then hk (fun i hi e => by rcases e with e | e <;> omega)
      replace HB1 := Lib.hid (told_keeps (HS.out.fresh hfa) (hfa.at HB1.out (fun x => x)) hk)
      replace HB2 := Lib.hid (told_keeps (HS.out.fresh hfa) (hfa.at HB2.out (fun x => x)) hk)
      replace HB3 := Lib.hid (told_keeps (HS.out.fresh hfa) (hfa.at HB3.out (fun x => x)) hk)
      replace HF := Lib.hid hF'
      replace HS := Lib.hid hs
      clear h hfa hnb hrb hF' hk h4 hs e1 e2 e3 hPw zs
      clear hok hm hmL hl8 hi hni h9 hS hD hwP hT1 hT2
      go_wp2_with fail
      have hok := HOk.out; obtain ⟨hm, hmL, hl8, hi, hni⟩ := HMm.out; have h9 := H9.out; have hS := HSS.out; have hD := HDD.out; have hwP := HwP.out; have hT1 := HT1.out; have hT2 := HT2.out
      have hfa : Fresh y5 (y5.alloc (.cells #[.string D] 9)) := (Keeps.refl _ y5).alloc _
      have hr := text_rows y5 [.string D]
      have h := run_rm_full (w := (y5.alloc (.cells #[.string D] 9))) (HE.out.fresh (HF.out.trans hfa)) h9 hok hl8 hm hfl hi (u := 1) (k := ((m + 1 : Nat) : Int) + 1) (by decide) ⟨by omega, by omega⟩ (some ⟨y5.heap.size, 0, none⟩) 1 (by rw [← hD]; exact hr) (HS.out.fresh hfa)
      clear hr
      refine h.mono ?_
      rintro _ x4 ⟨oo4, oc4, lo4, lc4, n4, rfl, hs, hk⟩
      have hF' : Fresh w x4 := (HF.out.trans hfa).then hk (fun i hi e => by rcases e with e | e <;> omega)
      have b1 := told_keeps (HS.out.fresh hfa) (hfa.at HB1.out (fun x => x)) hk
      have b2 := told_keeps (HS.out.fresh hfa) (hfa.at HB2.out (fun x => x)) hk
      have b3 := told_keeps (HS.out.fresh hfa) (hfa.at HB3.out (fun x => x)) hk
      have hT : Fresh x4 (x4.alloc (.cells #[.int .i64 1, .slice oo4 0 oc4, .slice lo4 n4 lc4] 27)) := (Keeps.refl _ x4).alloc _
      replace HB1 := Lib.hid (hT.at b1 (fun x => x))
      replace HB2 := Lib.hid (hT.at b2 (fun x => x))
      replace HB3 := Lib.hid (hT.at b3 (fun x => x))
      have HB4 := Lib.hid (show (x4.alloc (.cells #[.int .i64 1, .slice oo4 0 oc4, .slice lo4 n4 lc4] 27)).heap[x4.heap.size]? = some (.cells #[.int .i64 1, .slice oo4 0 oc4, .slice lo4 n4 lc4] 27 (0, 0)) from heap_alloc_new x4 _)
      replace HF := Lib.hid (hF'.trans hT)
      replace HS := Lib.hid (hs.fresh hT)
      clear h hfa hF' hT hs hk b1 b2 b3
      clear hok hm hmL hl8 hi hni h9 hS hD hwP hT1 hT2
      go_wp2_with fail
      have hok := HOk.out; obtain ⟨hm, hmL, hl8, hi, hni⟩ := HMm.out; have h9 := H9.out; have hS := HSS.out; have hD := HDD.out; have hwP := HwP.out; have hT1 := HT1.out; have hT2 := HT2.out
      have hfa : Fresh (x4.alloc (.cells #[.int .i64 1, .slice oo4 0 oc4, .slice lo4 n4 lc4] 27)) ((x4.alloc (.cells #[.int .i64 1, .slice oo4 0 oc4, .slice lo4 n4 lc4] 27)).alloc (.cells #[.string oR, .string D] 9)) := (Keeps.refl _ (x4.alloc (.cells #[.int .i64 1, .slice oo4 0 oc4, .slice lo4 n4 lc4] 27))).alloc _
      have hr := text_rows (x4.alloc (.cells #[.int .i64 1, .slice oo4 0 oc4, .slice lo4 n4 lc4] 27)) [.string oR, .string D]
      rw [show (x4.alloc (.cells #[.int .i64 1, .slice oo4 0 oc4, .slice lo4 n4 lc4] 27)).heap.size = x4.heap.size + 1 by simp] at hr
      have h := run_rm_all (w := ((x4.alloc (.cells #[.int .i64 1, .slice oo4 0 oc4, .slice lo4 n4 lc4] 27)).alloc (.cells #[.string oR, .string D] 9))) (HE.out.fresh (HF.out.trans hfa)) h9 hok hl8 hm hfd hfl hi (k := ((m + 1 : Nat) : Int) + 1) ⟨by omega, by omega⟩ (some ⟨x4.heap.size + 1, 0, none⟩) 2 (by rw [← hD]; exact hr) (HS.out.fresh hfa)
      clear hr
      refine h.mono ?_
      rintro _ x5 ⟨oo5, oc5, lo5, lc5, n5, rfl, hs, hk⟩
      have hF' : Fresh w x5 := (HF.out.trans hfa).then hk (fun i hi e => by rcases e with e | e <;> omega)
      have b1 := told_keeps (HS.out.fresh hfa) (hfa.at HB1.out (fun x => x)) hk
      have b2 := told_keeps (HS.out.fresh hfa) (hfa.at HB2.out (fun x => x)) hk
      have b3 := told_keeps (HS.out.fresh hfa) (hfa.at HB3.out (fun x => x)) hk
      have b4 := told_keeps (HS.out.fresh hfa) (hfa.at HB4.out (fun x => x)) hk
      have hT : Fresh x5 (x5.alloc (.cells #[.int .i64 0, .slice oo5 0 oc5, .slice lo5 n5 lc5] 27)) := (Keeps.refl _ x5).alloc _
      replace HB1 := Lib.hid (hT.at b1 (fun x => x))
      replace HB2 := Lib.hid (hT.at b2 (fun x => x))
      replace HB3 := Lib.hid (hT.at b3 (fun x => x))
      replace HB4 := Lib.hid (hT.at b4 (fun x => x))
      have HB5 := Lib.hid (show (x5.alloc (.cells #[.int .i64 0, .slice oo5 0 oc5, .slice lo5 n5 lc5] 27)).heap[x5.heap.size]? = some (.cells #[.int .i64 0, .slice oo5 0 oc5, .slice lo5 n5 lc5] 27 (0, 0)) from heap_alloc_new x5 _)
      replace HF := Lib.hid (hF'.trans hT)
      obtain ⟨ck, hckd⟩ : ∃ ck : Int, ck = ((m + 1 : Nat) : Int) + 1 + ((m + 1 - i + 1 : Nat) : Int) := ⟨_, rfl⟩
      have hck : 0 ≤ ck ∧ ck ≤ 1000 := ⟨by omega, by omega⟩
      rw [← hckd] at hs
      replace HS := Lib.hid (hs.fresh hT)
      clear h hfa hF' hT hs hk b1 b2 b3 b4
      clear hok hm hmL hl8 hi hni h9 hS hD hwP hT1 hT2
      go_wp2_with fail
      have hok := HOk.out; obtain ⟨hm, hmL, hl8, hi, hni⟩ := HMm.out; have h9 := H9.out; have hS := HSS.out; have hD := HDD.out; have hwP := HwP.out; have hT1 := HT1.out; have hT2 := HT2.out
      have hln : (belowL (chain (lsx ls) (ndx (m + 1) f) i) ⟨#[47]⟩).length = i := below_root (by rw [lsx_len]; omega)
      have h := fsall_calls HS.out (by rw [chain_len]; omega) (ndx_data hfl i)
      rw [hln] at h
      refine h.mono ?_
      rintro _ yt16 ⟨yat16, yct16, rfl, hF'⟩
      replace HB1 := Lib.hid (hF'.at HB1.out (fun x => x))
      replace HB2 := Lib.hid (hF'.at HB2.out (fun x => x))
      replace HB3 := Lib.hid (hF'.at HB3.out (fun x => x))
      replace HB4 := Lib.hid (hF'.at HB4.out (fun x => x))
      replace HB5 := Lib.hid (hF'.at HB5.out (fun x => x))
      replace HF := Lib.hid (HF.out.trans hF')
      replace HS := Lib.hid (HS.out.fresh hF')
      clear h hln hF'
      clear hok hm hmL hl8 hi hni h9 hS hD hwP hT1 hT2
      go_wp2_with fail
      have hok := HOk.out; obtain ⟨hm, hmL, hl8, hi, hni⟩ := HMm.out; have h9 := H9.out; have hS := HSS.out; have hD := HDD.out; have hwP := HwP.out; have hT1 := HT1.out; have hT2 := HT2.out
      have hfa : Fresh yt16 (yt16.alloc (.cells #[.string oRf, .string D] 9)) := (Keeps.refl _ yt16).alloc _
      have hr := text_rows yt16 [.string oRf, .string D]
      have h := run_rm_quiet (w := (yt16.alloc (.cells #[.string oRf, .string D] 9))) (HE.out.fresh (HF.out.trans hfa)) h9 hok hl8 hm hfl hi (k := ck) hck (some ⟨yt16.heap.size, 0, none⟩) 2 (by rw [← hD]; exact hr) (HS.out.fresh hfa)
      clear hr
      refine h.mono ?_
      rintro _ x6 ⟨oo6, oc6, lo6, lc6, n6, rfl, hs, hk⟩
      have hF' : Fresh w x6 := (HF.out.trans hfa).then hk (fun i hi e => by rcases e with e | e <;> omega)
      have b1 := told_keeps (HS.out.fresh hfa) (hfa.at HB1.out (fun x => x)) hk
      have b2 := told_keeps (HS.out.fresh hfa) (hfa.at HB2.out (fun x => x)) hk
      have b3 := told_keeps (HS.out.fresh hfa) (hfa.at HB3.out (fun x => x)) hk
      have b4 := told_keeps (HS.out.fresh hfa) (hfa.at HB4.out (fun x => x)) hk
      have b5 := told_keeps (HS.out.fresh hfa) (hfa.at HB5.out (fun x => x)) hk
      have hT : Fresh x6 (x6.alloc (.cells #[.int .i64 0, .slice oo6 0 oc6, .slice lo6 n6 lc6] 27)) := (Keeps.refl _ x6).alloc _
      replace HB1 := Lib.hid (hT.at b1 (fun x => x))
      replace HB2 := Lib.hid (hT.at b2 (fun x => x))
      replace HB3 := Lib.hid (hT.at b3 (fun x => x))
      replace HB4 := Lib.hid (hT.at b4 (fun x => x))
      replace HB5 := Lib.hid (hT.at b5 (fun x => x))
      have HB6 := Lib.hid (show (x6.alloc (.cells #[.int .i64 0, .slice oo6 0 oc6, .slice lo6 n6 lc6] 27)).heap[x6.heap.size]? = some (.cells #[.int .i64 0, .slice oo6 0 oc6, .slice lo6 n6 lc6] 27 (0, 0)) from heap_alloc_new x6 _)
      replace HF := Lib.hid (hF'.trans hT)
      replace HS := Lib.hid (hs.fresh hT)
      clear h hfa hF' hT hs hk b1 b2 b3 b4 b5
      clear hok hm hmL hl8 hi hni h9 hS hD hwP hT1 hT2
      go_wp2_with fail
      have hok := HOk.out; obtain ⟨hm, hmL, hl8, hi, hni⟩ := HMm.out; have h9 := H9.out; have hS := HSS.out; have hD := HDD.out; have hwP := HwP.out; have hT1 := HT1.out; have hT2 := HT2.out
      have hfa : Fresh (x6.alloc (.cells #[.int .i64 0, .slice oo6 0 oc6, .slice lo6 n6 lc6] 27)) ((x6.alloc (.cells #[.int .i64 0, .slice oo6 0 oc6, .slice lo6 n6 lc6] 27)).alloc (.cells #[.string oR, .string D] 9)) := (Keeps.refl _ (x6.alloc (.cells #[.int .i64 0, .slice oo6 0 oc6, .slice lo6 n6 lc6] 27))).alloc _
      have hr := text_rows (x6.alloc (.cells #[.int .i64 0, .slice oo6 0 oc6, .slice lo6 n6 lc6] 27)) [.string oR, .string D]
      rw [show (x6.alloc (.cells #[.int .i64 0, .slice oo6 0 oc6, .slice lo6 n6 lc6] 27)).heap.size = x6.heap.size + 1 by simp] at hr
      have h := run_rm_gone (w := ((x6.alloc (.cells #[.int .i64 0, .slice oo6 0 oc6, .slice lo6 n6 lc6] 27)).alloc (.cells #[.string oR, .string D] 9))) (HE.out.fresh (HF.out.trans hfa)) h9 hok hl8 hm hfl hi (k := ck) hck (some ⟨x6.heap.size + 1, 0, none⟩) 2 (by rw [← hD]; exact hr) (HS.out.fresh hfa)
      clear hr
      refine h.mono ?_
      rintro _ x7 ⟨oo7, oc7, lo7, lc7, n7, rfl, hs, hk⟩
      have hF' : Fresh w x7 := (HF.out.trans hfa).then hk (fun i hi e => by rcases e with e | e <;> omega)
      have b1 := told_keeps (HS.out.fresh hfa) (hfa.at HB1.out (fun x => x)) hk
      have b2 := told_keeps (HS.out.fresh hfa) (hfa.at HB2.out (fun x => x)) hk
      have b3 := told_keeps (HS.out.fresh hfa) (hfa.at HB3.out (fun x => x)) hk
      have b4 := told_keeps (HS.out.fresh hfa) (hfa.at HB4.out (fun x => x)) hk
      have b5 := told_keeps (HS.out.fresh hfa) (hfa.at HB5.out (fun x => x)) hk
      have b6 := told_keeps (HS.out.fresh hfa) (hfa.at HB6.out (fun x => x)) hk
      have hT : Fresh x7 (x7.alloc (.cells #[.int .i64 1, .slice oo7 0 oc7, .slice lo7 n7 lc7] 27)) := (Keeps.refl _ x7).alloc _
      replace HB1 := Lib.hid (hT.at b1 (fun x => x))
      replace HB2 := Lib.hid (hT.at b2 (fun x => x))
      replace HB3 := Lib.hid (hT.at b3 (fun x => x))
      replace HB4 := Lib.hid (hT.at b4 (fun x => x))
      replace HB5 := Lib.hid (hT.at b5 (fun x => x))
      replace HB6 := Lib.hid (hT.at b6 (fun x => x))
      have HB7 := Lib.hid (show (x7.alloc (.cells #[.int .i64 1, .slice oo7 0 oc7, .slice lo7 n7 lc7] 27)).heap[x7.heap.size]? = some (.cells #[.int .i64 1, .slice oo7 0 oc7, .slice lo7 n7 lc7] 27 (0, 0)) from heap_alloc_new x7 _)
      replace HF := Lib.hid (hF'.trans hT)
      replace HS := Lib.hid (hs.fresh hT)
      clear h hfa hF' hT hs hk b1 b2 b3 b4 b5 b6
      clear hok hm hmL hl8 hi hni h9 hS hD hwP hT1 hT2
      have a1 := cell_of_block HB1.out 0
      have a2 := cell_of_block HB2.out 0
      have a3 := cell_of_block HB3.out 0
      have a4 := cell_of_block HB4.out 0
      have a5 := cell_of_block HB5.out 0
      have a6 := cell_of_block HB6.out 0
      have a7 := cell_of_block HB7.out 0
      have ti : ((i : Int) == n - 1) = true := by obtain ⟨hm, hmL, hl8, hi, hni⟩ := HMm.out; rw [beq_iff_eq]; omega
      simp at a1 a2 a3 a4 a5 a6 a7
      go_wp2_with fail
      go_ret
      exact ⟨rfl, HF.out⟩
end Go.Proofs.YtbhmapcjcnceiaaGreatDoor
