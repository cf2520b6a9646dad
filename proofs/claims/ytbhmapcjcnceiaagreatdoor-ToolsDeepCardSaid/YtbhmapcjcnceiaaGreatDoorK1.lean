/- The file system in memory: the names in a directory, List. -/
import Derived.Test.YtbhmapcjcnceiaaGreatDoorK0
namespace Go.Proofs.YtbhmapcjcnceiaaGreatDoor
open Go Go.RowKit

/-- The name that a path below a front is, where it is one name. -/
def nameOf (n : Nat) (q : List UInt8) : Option (List UInt8) := if 0 ≤ Lib.indexByte (q.drop n) 47 then none else some (q.drop n)
def namesL (t : Tree) (p : ByteArray) : List (List UInt8) := (belowL t p).filterMap (nameOf (frontL p).length)
theorem below_front {t : Tree} {p : ByteArray} {q : List UInt8} (h : q ∈ belowL t p) : (frontL p).length ≤ q.length := by
  have h1 := (List.mergeSort_perm _ _).mem_iff.1 h
  have h2 := (List.mem_filter.1 h1).2
  unfold Lib.hasPrefix at h2
  exact (List.isPrefixOf_iff_prefix.1 h2).length_le
theorem below_len (t : Tree) (p : ByteArray) : (belowL t p).length ≤ t.length := by
  unfold belowL
  rw [List.length_mergeSort]
  refine Nat.le_trans (List.length_filter_le _ _) ?_
  simp [keysOf]
theorem take_next {α β : Type} {f : α → Option β} {l : List α} {k : Nat} (h : k < l.length) : (l.take (k + 1)).filterMap f = (l.take k).filterMap f ++ (f l[k]).toList := by
  rw [List.take_add_one, List.getElem?_eq_getElem h, List.filterMap_append, Option.toList_some]
  cases hf : f l[k] <;> simp [hf]

set_option maxHeartbeats 1600000 in
theorem names_calls {w : World} {P M : Nat} {nodes bytes used clock : Int} {t : Tree} (h : FsAt w P M nodes bytes used clock t) (p : ByteArray) (hp : p.size ≤ 1099511627776) (ht : t.length ≤ 1000000) :
    Calls Tryz.prog 106 #[.pointer (some ⟨P, 0, none⟩), .string p] w fun e w' => ∃ oa c, e = .returned (.slice oa (namesL t p).length c) ∧
      w'.ownsRow w.heap.size 9 1 (.slice oa (namesL t p).length c) (namesL t p).length ((namesL t p).map encStr) ∧ Fresh w w' := by
  have hsz := front_size p
  have hfb := front_ba p
  have hT := fun w => Tryz.strings_TrimSuffix p ⟨#[47]⟩ w (by omega)
  obtain ⟨fr0, hfr0⟩ : ∃ q : ByteArray, q = ⟨(Lib.trimSuffix p.data.toList [47]).toArray⟩ := ⟨_, rfl⟩
  have hT' : ∀ w, Calls Tryz.prog 80 #[.string p, .string ⟨#[47]⟩] w fun e w' => e = .returned (.string fr0) ∧ w' = w := fun w => by rw [hfr0]; exact hT w
  rw [← hfr0] at hsz hfb
  have HT := Lib.hid hT'
  obtain ⟨fr, hfr⟩ : ∃ q, q = B (frontL p) := ⟨_, rfl⟩
  rw [← hfr] at hfb
  have hfl : fr.size = (frontL p).length := by rw [hfr, B_size]
  have z1 : ¬ 9223372036854775807 < fr0.size + 1 := by omega
  have HBl := Lib.hid (below_calls h p hp ht)
  have HFr := Lib.hid (fun q (hq : q ∈ belowL t p) => below_front hq)
  have hbl := below_len t p
  have hnm : namesL t p = (belowL t p).filterMap (nameOf (frontL p).length) := rfl
  generalize namesL t p = R at hnm ⊢
  have HNm := Lib.hid hnm
  generalize belowL t p = bl at HBl HFr hbl HNm
  rw [← hfl] at HFr HNm
  have HC := Lib.hid (fun (s : ByteArray) w => Tryz.strings_Contains_one s 47 w)
  clear hT hT' hfr0 hfr h hnm hfl
  go_enter Tryz.func106, Tryz.ntmps106
  go_wp2_with fail
  refine (HT.out _).mono ?_
  rintro _ w' ⟨rfl, hw'⟩
  subst hw'
  go_wp2_with fail
  refine HBl.out.mono ?_
  rintro _ w1 ⟨ba, bc, rfl, hown1, hF1⟩
  have HOwn1 := Lib.hid hown1
  have HF1 := Lib.hid hF1
  clear hown1 hF1 HBl HT
  go_wp2_with fail
  go_loopw [6, 17] (fun out i wr => ∃ (oa : Option Addr) (c : Nat) (k : Nat) (ss : List (List UInt8)), k ≤ bl.length ∧ i = .int .i64 k ∧ ss = (bl.take k).filterMap (nameOf fr.size) ∧ out = .slice oa ss.length c ∧
    wr.ownsRow w1.heap.size 9 1 (.slice oa ss.length c) ss.length (ss.map encStr) ∧ Fresh w1 wr) (fun _ i _ => bl.length - (intOf i).toNat)
  case atStart => exact ⟨none, 0, 0, [], by omega, rfl, by simp, rfl, World.ownsRow_nil _ _ _ _, Fresh.refl _⟩
  case round =>
    obtain ⟨oa, c, k, ss, hk, rfl, hss, rfl, hown, hF⟩ := hrel
    rename_i wr
    have HSs := Lib.hid hss
    have HOwn := Lib.hid hown
    have HF := Lib.hid hF
    have hsl : ss.length ≤ k := by
      rw [hss]
      refine Nat.le_trans (List.length_filterMap_le _ _) ?_
      rw [List.length_take]; omega
    clear hss hown hF
    by_cases hlt : k < bl.length
    · obtain ⟨ad, rfl⟩ : ∃ ad, ba = some ad := by
        cases ba with
        | none => exact absurd HOwn1.out.2 (by
            rintro (⟨_, h0⟩ | ⟨g, cap, cur, h, _⟩)
            · omega
            · cases h)
        | some ad => exact ⟨ad, rfl⟩
      obtain ⟨g, off, sp⟩ := ad
      have hrow : RowAt w1 9 (some ⟨g, off, sp⟩) (bl.map encStr) := RowAt.of_owns HOwn1.out
      obtain rfl : sp = none := hrow.spot
      have hcell : wr.cell? ⟨g, off + k, none⟩ = some (.string (B bl[k])) := HF.out.cell (hrow.cell (j := k) (by simp [hlt, B])) (fun x => x)
      have hfk : fr.size ≤ (B bl[k]).size := by rw [B_size]; exact HFr.out _ (List.getElem_mem hlt)
      have hnx := take_next (f := nameOf fr.size) hlt
      have hqd : (B bl[k]).data.toList = bl[k] := B_data _
      obtain ⟨q, hq⟩ : ∃ q, B bl[k] = q := ⟨_, rfl⟩
      rw [hq] at hcell hfk hqd
      have hxd : (q.extract fr.size q.size).data.toList = q.data.toList.drop fr.size := by
        rw [Lib.extract_data]
        exact List.take_of_length_le (by simp)
      have hN : (q.extract fr.size q.size) = B (q.data.toList.drop fr.size) := by
        apply ByteArray.ext; apply Array.ext'
        rw [hxd, B_data]
      obtain ⟨x, hx⟩ : ∃ x, q.extract fr.size q.size = x := ⟨_, rfl⟩
      have HX := Lib.hid hx
      rw [hx] at hxd hN
      have HXd := Lib.hid hxd
      have HXN := Lib.hid hN
      have Hqd := Lib.hid hqd
      have Hnx := Lib.hid hnx
      have hfk' : (fr.size : Int) ≤ (q.size : Int) := by omega
      clear hq hqd hxd hN hnx hrow
      go_wp2_with fail
      refine (HC.out x _).mono ?_
      rintro _ w' ⟨rfl, hw'⟩
      obtain rfl : wr = w' := hw'.symm
      have hxq : bl[k].drop fr.size = x.data.toList := by rw [← Hqd.out, ← HXd.out]
      by_cases hc : 0 ≤ Lib.indexByte x.data.toList 47
      · rw [decide_eq_true hc]
        have hno : nameOf fr.size bl[k] = none := by unfold nameOf; rw [hxq, if_pos hc]
        have hn2 := Hnx.out
        rw [hno, ← HSs.out] at hn2
        have HN2 := Lib.hid hn2
        clear hn2 hno hxq hc
        go_wp2_with fail
        exact ⟨⟨oa, c, k + 1, ss, by omega, by go_num, by rw [HN2.out]; simp, rfl, HOwn.out, HF.out⟩, by simp [intOf]; omega⟩
      · rw [decide_eq_false hc]
        have hso : nameOf fr.size bl[k] = some x.data.toList := by unfold nameOf; rw [hxq, if_neg hc]
        have hn2 := Hnx.out
        rw [hso, ← HSs.out] at hn2
        have HN2 := Lib.hid hn2
        have hfa : Fresh wr (wr.alloc (.cells #[.string x] 9)) := (Keeps.refl _ wr).alloc _
        have Hown0 := Lib.hid (ownsRow_keeps HOwn.out hfa (fun _ _ x => x))
        have HFa := Lib.hid (HF.out.trans hfa)
        have Q2 := Lib.hid (show ∀ ad, some (⟨wr.heap.size, 0, none⟩ : Addr) = some ad → ∀ j u, [Value.string x][j]? = some u → (wr.alloc (.cells #[.string x] 9)).cell? (ad.add j) = some u from fun ad had j u hu => by
          cases had
          exact (RowAt.of_block (xs := [Value.string x]) (heap_alloc_new wr _)).add j u hu)
        clear hn2 hso hxq hc hfa
        go_wp2_with (at_builtin; go_must (refine wp_app_row rfl _ _ _ rfl w1.heap.size 9 (.string ⟨#[]⟩) 16 Tryz.underlying22 info_str rfl (.slice oa ss.length c) ss.length (ss.map encStr) rfl Hown0.out (some ⟨wr.heap.size, 0, none⟩) 1 1 [.string x] rfl (fun h => by cases h) rfl Q2.out (strs_one [x]) (by omega) (by decide) HFa.out.size ?_); intro ao ac w4 hown4 hg4 hat4)
        have hF4 : Fresh w1 w4 := HFa.out.grown hg4 (fun i hi hlt => by
          have := (World.ownsRow.lt Hown0.out i hi).1
          omega)
        have hl4 : (ss ++ [x.data.toList]).length = ss.length + 1 := by simp
        exact ⟨⟨ao, ac, k + 1, ss ++ [x.data.toList], by omega, by go_num, by rw [HN2.out]; rfl, by rw [hl4], by rw [hl4, List.map_append]; exact hown4, hF4⟩, by simp [intOf]; omega⟩
    · obtain rfl : k = bl.length := by omega
      rw [List.take_length, ← HNm.out] at HSs
      have hs2 := HSs.out
      clear HSs
      subst hs2
      go_wp2_with fail
      go_ret
      exact ⟨oa, c, rfl, ⟨HOwn.out.1, HOwn.out.2.imp id (fun ⟨g, cap, cur, h1, h2, h3⟩ => ⟨g, cap, cur, h1, Nat.le_trans HF1.out.size h2, h3⟩)⟩, HF1.out.trans HF.out⟩
end Go.Proofs.YtbhmapcjcnceiaaGreatDoor
