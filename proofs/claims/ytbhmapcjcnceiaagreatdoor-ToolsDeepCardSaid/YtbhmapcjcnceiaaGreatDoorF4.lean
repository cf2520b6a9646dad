/- The file system in memory: the way to a whole path, and a path's whole form. -/
import Derived.Test.YtbhmapcjcnceiaaGreatDoorF3
import Derived.Lib.AtoiErrMem
namespace Go.Proofs.YtbhmapcjcnceiaaGreatDoor
open Go Go.RowKit

/-- Why there is no way, from the k-th byte from the end on. -/
def wayFrom (t : Tree) (p : ByteArray) : Nat → Int
  | 0 => 0
  | n + 1 => if p.data.toList[p.size - (n + 1)]? = some 47 ∧ p.size - (n + 1) ≠ 0 then
      (if kindOf t (p.extract 0 (p.size - (n + 1))) = 0 then 6 else if kindOf t (p.extract 0 (p.size - (n + 1))) = 1 then 11 else wayFrom t p n) else wayFrom t p n
def wayOf (t : Tree) (p : ByteArray) : Int := wayFrom t p p.size

theorem tobytes (w : World) (p : ByteArray) (hp : p.size ≤ 1099511627776) : ∃ G W, (convert 9 25 (.string p)).run Tryz.prog w = .ok (.slice (some ⟨w.heap.size, 0, none⟩) p.size G) W ∧ Fresh w W ∧
    BytesAt W (some ⟨w.heap.size, 0, none⟩) p.data.toList ∧ p.size ≤ G ∧ G ≤ 9223372036854775807 := by
  refine ⟨_, _, Lib.run_convert_string_bytes w 9 25 5 p Tryz.underlying9 Tryz.underlying25 Tryz.underlying5, Fresh.of_below (Lib.bytesWorld_below w 5 p), ⟨rfl, _, _, Lib.bytesWorld_at_new w 5 p, fun j u hu => ?_⟩, grownCap_ge w _ _ _, ?_⟩
  · have hj : j < p.data.toList.length := by
      have := (List.getElem?_eq_some_iff.1 hu).1
      rwa [cellsOf_length] at this
    have hj' : j < p.size := by rwa [Array.length_toList] at hj
    have h1 := Lib.bytesWorld_cell w 5 p j hj'
    rw [cell_of_block (Lib.bytesWorld_at_new w 5 p)] at h1
    simp only [Nat.zero_add]
    rw [h1, ← hu]
    simp only [cellsOf, List.getElem?_map, List.getD, List.getElem?_eq_getElem hj, Option.map_some, Option.getD_some]
  · have := grownCap_le_maxLen w p.size 0 5 (by unfold maxLen; omega)
    exact this

set_option maxRecDepth 10000 in
set_option maxHeartbeats 800000 in
theorem way_calls {w : World} {P M : Nat} {nodes bytes used clock : Int} {t : Tree} (h : FsAt w P M nodes bytes used clock t) (p : ByteArray) (hp : p.size ≤ 1000000) :
    Calls Tryz.prog 78 #[.pointer (some ⟨P, 0, none⟩), .string p] w fun e w' => e = .returned (.int .i64 (wayOf t p)) ∧ Fresh w w' := by
  have H := Lib.hid h
  clear h
  obtain ⟨G, W, hcv, hF, hrow, hG1, hG2⟩ := tobytes w p (by omega)
  have HF := Lib.hid hF
  have HW := Lib.hid (H.out.fresh hF)
  have HR := Lib.hid hrow
  clear hF hrow H
  go_enter Tryz.func78, Tryz.ntmps78
  go_wp2_with fail
  clear hcv
  generalize w.heap.size = g at HR ⊢
  go_loopw [10] (fun i wr => ∃ k : Nat, k ≤ p.size ∧ i = .int .i64 k ∧ Fresh W wr ∧ wayOf t p = wayFrom t p (p.size - k)) (fun i _ => p.size - (intOf i).toNat)
  case atStart => exact ⟨0, by omega, rfl, Fresh.refl W, rfl⟩
  case round =>
    obtain ⟨k, hk, rfl, hFr, hway⟩ := hrel
    rename_i wr
    have HFr := Lib.hid hFr
    have HWay := Lib.hid hway
    clear hFr hway
    by_cases hlt : k < p.size
    · have hj : k < p.data.toList.length := by rw [Array.length_toList]; exact hlt
      have hcell : wr.cell? ⟨g, k, none⟩ = some (.int .u8 ((p.data.toList[k]).toNat : Int)) := by
        have := (HR.out.fresh HFr.out).cell (j := k) (u := .int .u8 ((p.data.toList[k]).toNat : Int)) (by rw [cellsOf, List.getElem?_map, List.getElem?_eq_getElem hj]; rfl)
        simpa using this
      obtain ⟨m, hm⟩ : ∃ m, p.size - k = m + 1 := ⟨p.size - k - 1, by omega⟩
      have hmk : p.size - (m + 1) = k := by omega
      have hstep : wayFrom t p (m + 1) = if p.data.toList[k]? = some 47 ∧ k ≠ 0 then (if kindOf t (p.extract 0 k) = 0 then 6 else if kindOf t (p.extract 0 k) = 1 then 11 else wayFrom t p m) else wayFrom t p m := by
        simp only [wayFrom, hmk]
      rw [hm] at HWay
      rw [List.getElem?_eq_getElem hj] at hstep
      generalize p.data.toList[k] = b at hcell hstep
      have HStep := Lib.hid hstep
      clear hstep
      by_cases e1 : b = 47
      · have t1 : ((b.toNat : Int) == 47) = true := by rw [e1]; rfl
        by_cases e2 : k = 0
        · subst e2
          have hn : wayOf t p = wayFrom t p (p.size - 1) := by
            rw [HWay.out, HStep.out, if_neg (fun h => h.2 rfl)]
            congr 1
            omega
          go_wp2_with fail
          exact ⟨⟨1, by omega, by go_num, HFr.out, hn⟩, by simp [intOf]; omega⟩
        · have t2 : ((k : Int) == 0) = false := by rw [beq_eq_false_iff_ne]; omega
          have hk1 : (kindOf t (p.extract 0 k) = 0 ∧ wayOf t p = 6) ∨ (kindOf t (p.extract 0 k) = 1 ∧ wayOf t p = 11) ∨ (kindOf t (p.extract 0 k) ≠ 0 ∧ kindOf t (p.extract 0 k) ≠ 1 ∧ wayOf t p = wayFrom t p (p.size - (k + 1))) := by
            rw [HWay.out, HStep.out, if_pos ⟨by rw [e1], e2⟩]
            by_cases z0 : kindOf t (p.extract 0 k) = 0
            · exact Or.inl ⟨z0, by rw [if_pos z0]⟩
            · by_cases z1 : kindOf t (p.extract 0 k) = 1
              · exact Or.inr (Or.inl ⟨z1, by rw [if_neg z0, if_pos z1]⟩)
              · refine Or.inr (Or.inr ⟨z0, z1, ?_⟩)
                rw [if_neg z0, if_neg z1]
                congr 1
                omega
          have HK := Lib.hid (kind_calls (HW.out.fresh HFr.out) (p.extract 0 k))
          generalize kindOf t (p.extract 0 k) = kd at HK hk1
          go_wp2_with fail
          refine HK.out.mono ?_
          rintro _ w2 ⟨rfl, hF2⟩
          have HF2 := Lib.hid (HFr.out.trans hF2)
          clear hF2
          rcases hk1 with ⟨rfl, hw⟩ | ⟨rfl, hw⟩ | ⟨z0, z1, hw⟩
          · go_wp2_with fail
            go_ret
            exact ⟨by rw [hw]; rfl, HF.out.trans HF2.out⟩
          · go_wp2_with fail
            go_ret
            exact ⟨by rw [hw]; rfl, HF.out.trans HF2.out⟩
          · have t3 : (kd == 0) = false := by rw [beq_eq_false_iff_ne]; exact z0
            have t4 : (kd == 1) = false := by rw [beq_eq_false_iff_ne]; exact z1
            go_wp2_with fail
            exact ⟨⟨k + 1, by omega, by go_num, HF2.out, hw⟩, by simp [intOf]; omega⟩
      · have t1 : ((b.toNat : Int) == 47) = false := by
          rw [beq_eq_false_iff_ne]
          intro h
          exact e1 (UInt8.toNat_inj.1 (Int.ofNat_inj.1 (h.trans rfl)))
        have hn : wayOf t p = wayFrom t p (p.size - (k + 1)) := by
          rw [HWay.out, HStep.out, if_neg (fun h => e1 (Option.some.inj h.1))]
          congr 1
          omega
        go_wp2_with fail
        exact ⟨⟨k + 1, by omega, by go_num, HFr.out, hn⟩, by simp [intOf]; omega⟩
    · obtain rfl : k = p.size := by omega
      have hw : wayOf t p = 0 := by rw [HWay.out, Nat.sub_self]; rfl
      go_wp2_with fail
      go_ret
      exact ⟨by rw [hw]; rfl, HF.out.trans HFr.out⟩
end Go.Proofs.YtbhmapcjcnceiaaGreatDoor
