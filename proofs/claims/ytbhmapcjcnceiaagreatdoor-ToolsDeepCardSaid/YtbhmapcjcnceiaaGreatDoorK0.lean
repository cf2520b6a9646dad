/- The file system in memory: the paths below a whole path. -/
import Derived.Test.YtbhmapcjcnceiaaGreatDoorG0
import Derived.Maps.RangeRun
import Derived.Maps.Range
import Derived.Sort.OwnSorted
import Derived.Sort.KeysCollected
namespace Go.Proofs.YtbhmapcjcnceiaaGreatDoor
open Go Go.RowKit

/-- An entry's key, as bytes. -/
def keyB (e : MapEntry) : List UInt8 := match e.key with | .string s => s.data.toList | _ => []
theorem keyB_map {es : Array MapEntry} {ks : List (ByteArray × Value)} (h : es.toList.map (fun e => (e.key, e.val)) = ks.map (fun p => (Value.string p.1, p.2))) : es.toList.map keyB = ks.map (fun p => p.1.data.toList) := by
  have h1 : es.toList.map (·.key) = ks.map (fun p => Value.string p.1) := by
    have := congrArg (List.map Prod.fst) h
    rw [List.map_map, List.map_map] at this
    exact this
  have h2 := congrArg (List.map (fun v : Value => match v with | .string s => s.data.toList | _ => [])) h1
  simp only [List.map_map] at h2
  exact h2
theorem key_str {es : Array MapEntry} {ks : List (ByteArray × Value)} (h : es.toList.map (fun e => (e.key, e.val)) = ks.map (fun p => (Value.string p.1, p.2))) {e : MapEntry} (he : e ∈ es.toList) : ∃ s : ByteArray, e.key = .string s ∧ keyB e = s.data.toList := by
  have h1 : (e.key, e.val) ∈ ks.map (fun p => (Value.string p.1, p.2)) := by rw [← h]; exact List.mem_map.2 ⟨e, he, rfl⟩
  obtain ⟨p, _, hp⟩ := List.mem_map.1 h1
  simp only [Prod.mk.injEq] at hp
  exact ⟨p.1, hp.1.symm, by unfold keyB; rw [← hp.1]⟩
/-- One element pulled out of those that are left. -/
theorem pull : ∀ (l : List MapEntry) (p : MapEntry → Bool) (e : MapEntry), (l.map (·.born)).Nodup → e ∈ l → p e = true → (l.filter p).Perm (e :: l.filter (fun x => p x && !(x.born == e.born)))
  | [], _, _, _, h, _ => by cases h
  | a :: l, p, e, hn, he, hp => by
    simp only [List.map_cons, List.nodup_cons] at hn
    rcases List.mem_cons.1 he with rfl | he'
    · have hrest : l.filter (fun x => p x && !(x.born == e.born)) = l.filter p := by
        apply List.filter_congr
        intro x hx
        have : x.born ≠ e.born := fun h => hn.1 (List.mem_map.2 ⟨x, hx, h⟩)
        rw [beq_eq_false_iff_ne.2 this, Bool.not_false, Bool.and_true]
      rw [List.filter_cons_of_pos hp, List.filter_cons_of_neg (by simp), hrest]
    · have hne : a.born ≠ e.born := fun h => hn.1 (List.mem_map.2 ⟨e, he', h.symm⟩)
      have ih := pull l p e hn.2 he' hp
      by_cases ha : p a = true
      · rw [List.filter_cons_of_pos ha, List.filter_cons_of_pos (by rw [ha, beq_eq_false_iff_ne.2 hne]; rfl)]
        exact (List.Perm.cons a ih).trans (List.Perm.swap e a _)
      · rw [List.filter_cons_of_neg ha, List.filter_cons_of_neg (by simp [ha])]
        exact ih
theorem left_list (es : Array MapEntry) (seen : Array Nat) : (leftOf es seen).toList = es.toList.filter fun e => !seen.contains e.born := by
  unfold leftOf
  rw [Array.toList_filter]
theorem left_step {es : Array MapEntry} {seen : Array Nat} {e : MapEntry} (hn : (es.toList.map (·.born)).Nodup) (he : e ∈ (leftOf es seen).toList) : (leftOf es seen).toList.Perm (e :: (leftOf es (seen.push e.born)).toList) := by
  rw [left_list] at he ⊢
  rw [left_list]
  obtain ⟨h1, h2⟩ := List.mem_filter.1 he
  have := pull es.toList (fun x => !seen.contains x.born) e hn h1 h2
  refine this.trans (List.Perm.cons e ?_)
  rw [show (fun x : MapEntry => !seen.contains x.born && !(x.born == e.born)) = (fun x => !(seen.push e.born).contains x.born) from by
    funext x
    rw [contains_push]
    cases seen.contains x.born <;> rfl]
theorem left_mem {es : Array MapEntry} {seen : Array Nat} {e : MapEntry} (he : e ∈ (leftOf es seen).toList) : e ∈ es.toList := by
  rw [left_list] at he
  exact (List.mem_filter.1 he).1

/-- An owned row is no block of entries, and no iterator. -/
theorem ownsRow_ne_obj {w : World} {base : Nat} {e : TypeId} {size : Nat} {v : Value} {n : Nat} {xs : List Value} (h : w.ownsRow base e size v n xs) {r : Nat} {o : Obj} (hr : w.heap[r]? = some o) (ho : ∀ c t fz, o ≠ .cells c t fz) : v.ownBlock ≠ some r := by
  intro hg
  rcases h.2 with ⟨h, _⟩ | ⟨g', cap, cur, h, _, hg', _⟩
  · rw [h] at hg; simp [Value.ownBlock] at hg
  · rw [h] at hg
    simp only [Value.ownBlock, Option.some.injEq] at hg
    rw [hg, hr] at hg'
    exact ho _ _ _ (Option.some.inj hg')
/-- What stands ahead of all paths below a path. -/
def frontL (p : ByteArray) : List UInt8 := Lib.trimSuffix p.data.toList [47] ++ [47]
def keysOf (t : Tree) : List (List UInt8) := t.map fun x => x.1.data.toList
def belowL (t : Tree) (p : ByteArray) : List (List UInt8) := ((keysOf t).filter fun q => Lib.hasPrefix q (frontL p)).mergeSort leB
theorem strs_enc (l : List (List UInt8)) : l.map encStr = (l.map B).map Value.string := by simp [B]

theorem front_ba (p : ByteArray) : (⟨(Lib.trimSuffix p.data.toList [47]).toArray⟩ : ByteArray) ++ ⟨#[47]⟩ = B (frontL p) := by
  apply ByteArray.ext
  apply Array.ext'
  simp [B, frontL, ByteArray.data_append]
theorem front_size (p : ByteArray) : (⟨(Lib.trimSuffix p.data.toList [47]).toArray⟩ : ByteArray).size ≤ p.size := by
  show (Lib.trimSuffix p.data.toList [47]).toArray.size ≤ p.data.size
  unfold Lib.trimSuffix
  split <;> simp

set_option maxHeartbeats 1600000 in
theorem below_calls {w : World} {P M : Nat} {nodes bytes used clock : Int} {t : Tree} (h : FsAt w P M nodes bytes used clock t) (p : ByteArray) (hp : p.size ≤ 1099511627776) (ht : t.length ≤ 1000000) :
    Calls Tryz.prog 31 #[.pointer (some ⟨P, 0, none⟩), .string p] w fun e w' => ∃ oa c, e = .returned (.slice oa (belowL t p).length c) ∧
      w'.ownsRow w.heap.size 9 1 (.slice oa (belowL t p).length c) (belowL t p).length ((belowL t p).map encStr) ∧ Fresh w w' := by
  obtain ⟨es, clk, hm, he, hst⟩ := h.map
  have hkeys : es.toList.map keyB = keysOf t := by rw [keyB_map he]; unfold keysOf; rw [List.map_map]; rfl
  have hes : es.size = t.length := by
    have := congrArg List.length he
    simpa using this
  have c0 := cell_of_block h.blk 0
  simp at c0
  have hPM := h.map.ne h.blk
  have hPl := lt_of_block h.blk
  have hMl := lt_of_block hm
  have hsz := front_size p
  have hfb := front_ba p
  have hT := fun w => Tryz.strings_TrimSuffix p ⟨#[47]⟩ w (by omega)
  obtain ⟨fr0, hfr0⟩ : ∃ q : ByteArray, q = ⟨(Lib.trimSuffix p.data.toList [47]).toArray⟩ := ⟨_, rfl⟩
  have hT' : ∀ w, Calls Tryz.prog 80 #[.string p, .string ⟨#[47]⟩] w fun e w' => e = .returned (.string fr0) ∧ w' = w := fun w => by rw [hfr0]; exact hT w
  rw [← hfr0] at hsz hfb
  have HT := Lib.hid hT'
  obtain ⟨fr, hfr⟩ : ∃ q, q = B (frontL p) := ⟨_, rfl⟩
  rw [← hfr] at hfb
  have hfd : fr.data.toList = frontL p := by rw [hfr, B_data]
  have HP := Lib.hid (fun (q : ByteArray) w => Tryz.strings_HasPrefix q fr w)
  rw [hfd] at HP
  have HPF := Lib.hid (show belowL t p = ((es.toList.map keyB).filter fun q => Lib.hasPrefix q (frontL p)).mergeSort leB by rw [hkeys]; rfl)
  generalize belowL t p = R at HPF ⊢
  generalize frontL p = fl at HP HPF
  have hrange := run_range_map (P := Tryz.prog) w 67 9 74 M es clk Tryz.underlying67 hm
  have hW0 : Fresh w (w.alloc (.mapIter (some M) clk #[] clk)) := (Keeps.refl _ w).alloc _
  have hr0 : (w.alloc (.mapIter (some M) clk #[] clk)).heap[w.heap.size]? = some (.mapIter (some M) clk #[] clk) := heap_alloc_new w _
  have hm0 := hW0.at hm (fun x => x)
  have z1 : ¬ 9223372036854775807 < fr0.size + 1 := by omega
  have HSt := Lib.hid hst
  have HKs := Lib.hid (fun e (h : e ∈ es.toList) => key_str he h)
  have HF0 := Lib.hid hW0
  have HR0 := Lib.hid hr0
  have HM0 := Lib.hid hm0
  clear hT hT' hfr0 hfr hfd h hm he hst hkeys hW0 hr0 hm0
  go_enter Tryz.func31, Tryz.ntmps31
  go_wp2_with fail
  refine (HT.out _).mono ?_
  rintro _ w' ⟨rfl, hw'⟩
  obtain rfl : w = w' := hw'.symm
  go_wp2_with fail
  go_loopw [6] (fun out wr => ∃ (oa : Option Addr) (c : Nat) (ss : List (List UInt8)) (seen : Array Nat) (c0 : Nat), out = .slice oa ss.length c ∧ wr.ownsRow w.heap.size 9 1 (.slice oa ss.length c) ss.length (ss.map encStr) ∧
    wr.heap[w.heap.size]? = some (.mapIter (some M) clk seen c0) ∧ clk ≤ c0 ∧ wr.heap[M]? = some (.map es clk) ∧ Fresh w wr ∧
    (ss ++ ((leftOf es seen).toList.map keyB).filter fun q => Lib.hasPrefix q fl).Perm ((es.toList.map keyB).filter fun q => Lib.hasPrefix q fl)) (fun _ wr => wr.rangeLeft M w.heap.size)
  case atStart =>
    refine ⟨none, 0, [], #[], clk, rfl, World.ownsRow_nil _ _ _ _, HR0.out, Nat.le_refl _, HM0.out, HF0.out, ?_⟩
    have e0 : es.toList.filter (fun e => !(#[] : Array Nat).contains e.born) = es.toList := List.filter_eq_self.2 (by simp)
    rw [left_list, List.nil_append, e0]
  case round =>
    obtain ⟨oa, c, ss, seen, c0, rfl, hown, hr, hsc, hm, hF, hperm⟩ := hrel
    rename_i wr
    have hlen : ss.length ≤ 1000000 := by
      have h1 := hperm.length_eq
      rw [List.length_append] at h1
      have h2 := List.length_filter_le (fun q => Lib.hasPrefix q fl) (es.toList.map keyB)
      rw [List.length_map, Array.length_toList] at h2
      have h3 : (List.filter (fun q => Lib.hasPrefix q fl) (List.map keyB es.toList)).length ≤ es.size := h2
      omega
    have hml : wr.rangeLeft M w.heap.size = (leftOf es seen).size := by simp [World.rangeLeft, hm, hr]
    rcases run_next_at (P := Tryz.prog) wr 0 w.heap.size M clk c0 seen es clk hr hm HSt.out.1 hsc with ⟨h0, hrun⟩ | ⟨e, he, w1, hal, hrun⟩
    · have hrun' : ∀ ty, (Instr.next (.pointer (some ⟨w.heap.size, 0, none⟩)) false ty).run Tryz.prog wr = .ok (.tuple #[.bool false]) wr := fun _ => hrun
      have hleft : (leftOf es seen).toList = [] := List.eq_nil_of_length_eq_zero (by simpa using h0)
      rw [hleft, List.map_nil, List.filter_nil, List.append_nil] at hperm
      have hRs : ss.mergeSort leB = R := by rw [HPF.out]; exact mergeSort_of_perm hperm
      have HRs := Lib.hid hRs
      have HOwn := Lib.hid hown
      have HF := Lib.hid hF
      clear hrun hleft hperm hown hr hm hF hRs hml h0
      go_wp2_with fail
      by_cases hs0 : ss = []
      · subst hs0
        have hR0 : R = [] := by rw [← HRs.out]; simp
        refine (Tryz.slices_Sort_string_none oa c _).mono ?_
        rintro _ w2 ⟨rfl, hw2⟩
        obtain rfl : wr = w2 := hw2.symm
        go_wp2_with fail
        go_ret
        exact ⟨oa, c, by rw [hR0]; rfl, by rw [hR0]; exact HOwn.out, HF.out⟩
      · obtain ⟨g, cur, rfl, hbg, hgb, hcap⟩ : ∃ g cur, oa = some ⟨g, 0, none⟩ ∧ w.heap.size ≤ g ∧ wr.heap[g]? = some (.cells cur 9 (0, 0)) ∧ (ss.length ≤ c ∧ c ≤ maxLen ∧ cur.size = c * 1 ∧ cur.toList.take ss.length = ss.map encStr) := by
          rcases HOwn.out.2 with ⟨_, h0⟩ | ⟨g, cap, cur, hv, hb, hg, h1, h2, h3, h4⟩
          · exact absurd (List.eq_nil_of_length_eq_zero h0) hs0
          · simp only [Value.slice.injEq] at hv
            obtain ⟨rfl, _, rfl⟩ := hv
            exact ⟨g, cur, rfl, hb, hg, h1, h2, h3, by rw [← h4, Nat.mul_one]⟩
        refine (Tryz.slices_Sort_string g 0 c ss wr (holds_of_block hgb hcap.2.2.2) (lt_of_block hgb) (by omega)).mono ?_
        rintro _ w2 ⟨rfl, n, os, hw2⟩
        have hlenR : R.length = ss.length := by rw [← HRs.out, List.length_mergeSort]
        have hown2 : w2.ownsRow w.heap.size 9 1 (.slice (some ⟨g, 0, none⟩) ss.length c) ss.length (R.map encStr) := by
          rw [hw2, ← HRs.out]
          exact ownsRow_sorted (List.length_mergeSort ss) hbg hgb hcap.1 hcap.2.1 hcap.2.2.1
        have hg2 : wr.grownBy w2 (some g) := by rw [hw2]; exact grownBy_sorted _
        have hF2 : Fresh w w2 := HF.out.grown hg2 (fun k hk hlt => by cases hk; omega)
        have HOwn2 := Lib.hid hown2
        have HF2 := Lib.hid hF2
        clear hw2 hown2 hg2 hF2 hgb hcap hbg
        go_wp2_with fail
        go_ret
        exact ⟨_, c, by rw [hlenR]; rfl, by rw [hlenR]; exact HOwn2.out, HF2.out⟩
    · have hem := left_mem he
      obtain ⟨k, hk, hkb⟩ := HKs.out e hem
      obtain ⟨W2, hW2⟩ : ∃ W2, W2 = ChangeMaps.setBlock w1 w.heap.size (.mapIter (some M) clk (seen.push e.born) clk) := ⟨_, rfl⟩
      rw [← hW2, hk] at hrun
      have hr1 : w1.heap[w.heap.size]? = some (.mapIter (some M) clk seen c0) := by rcases hal with rfl | rfl <;> exact hr
      have hset : W2.heap[w.heap.size]? = some (.mapIter (some M) clk (seen.push e.born) clk) ∧ ∀ i, i ≠ w.heap.size → W2.heap[i]? = w1.heap[i]? := by rw [hW2]; exact MapKept.heap_set hr1
      have hKr : Keeps (fun k => k = w.heap.size) wr W2 := by
        have hb := hset.2
        rw [hW2] at hb ⊢
        rcases hal with rfl | rfl <;> exact ⟨rfl, rfl, rfl, by simp [ChangeMaps.setBlock], fun i _ hi => hb i hi⟩
      have hm2 := hKr.at hm (fun e => by omega)
      have hent := run_entry_at (P := Tryz.prog) W2 w.heap.size M clk seen es clk e hset.1 hm2 hem HSt.out.2
      rw [hk] at hent
      have hrun' : ∀ ty, (Instr.next (.pointer (some ⟨w.heap.size, 0, none⟩)) false ty).run Tryz.prog wr = .ok (.tuple #[.bool true, .string k, e.val]) W2 := fun _ => hrun
      have hown2 := ownsRow_keeps hown hKr (fun g hg e1 => by
        subst e1
        rcases hown.2 with ⟨h, _⟩ | ⟨g', cap, cur, h, _, hg', _⟩
        · rw [h] at hg; simp [Value.ownBlock] at hg
        · rw [h] at hg
          simp only [Value.ownBlock, Option.some.injEq] at hg
          rw [hg, hr] at hg'
          cases hg')
      have hF2 : Fresh w W2 := hF.then hKr (fun i hi e => by omega)
      have hstep := left_step HSt.out.2 he
      have hms : W2.rangeLeft M w.heap.size = (leftOf es (seen.push e.born)).size := by simp [World.rangeLeft, hm2, hset.1]
      have hlt : (leftOf es (seen.push e.born)).size < (leftOf es seen).size := by
        have := hstep.length_eq
        simp only [List.length_cons, Array.length_toList] at this
        omega
      have HOwn2 := Lib.hid hown2
      have HF2 := Lib.hid hF2
      have HR2 := Lib.hid hset.1
      have HM2 := Lib.hid hm2
      have HStep := Lib.hid hstep
      have HPerm := Lib.hid hperm
      generalize e.val = ev at hrun' hent
      clear hrun hset hKr hown2 hF2 hm2 hstep hperm hown hr hm hF hal hr1 hW2 hk
      go_wp2_with fail
      refine (HP.out k _).mono ?_
      rintro _ w3 ⟨rfl, hw3⟩
      obtain rfl : W2 = w3 := hw3.symm
      have hperm2 := HPerm.out
      have hfl := (HStep.out.map keyB).filter (fun q => Lib.hasPrefix q fl)
      rw [List.map_cons] at hfl
      by_cases hpf : Lib.hasPrefix k.data.toList fl = true
      · rw [hpf]
        rw [List.filter_cons_of_pos (by rw [hkb]; exact hpf), hkb] at hfl
        have hp2 : ((ss ++ [k.data.toList]) ++ ((leftOf es (seen.push e.born)).toList.map keyB).filter fun q => Lib.hasPrefix q fl).Perm ((es.toList.map keyB).filter fun q => Lib.hasPrefix q fl) := by
          rw [List.append_assoc]
          exact (List.Perm.append_left ss hfl.symm).trans hperm2
        have HP2 := Lib.hid hp2
        have hfa : Fresh W2 (W2.alloc (.cells #[.string k] 9)) := (Keeps.refl _ W2).alloc _
        have Hown0 := Lib.hid (ownsRow_keeps HOwn2.out hfa (fun _ _ x => x))
        have HFa := Lib.hid (HF2.out.trans hfa)
        have HRa := Lib.hid (hfa.at HR2.out (fun x => x))
        have HMa := Lib.hid (hfa.at HM2.out (fun x => x))
        have Q2 := Lib.hid (show ∀ ad, some (⟨W2.heap.size, 0, none⟩ : Addr) = some ad → ∀ j u, [Value.string k][j]? = some u → (W2.alloc (.cells #[.string k] 9)).cell? (ad.add j) = some u from fun ad had j u hu => by
          cases had
          exact (RowAt.of_block (xs := [Value.string k]) (heap_alloc_new W2 _)).add j u hu)
        clear hpf hp2 hfa hfl hperm2 hkb
        go_wp2_with (at_builtin; go_must (refine wp_app_row rfl _ _ _ rfl w.heap.size 9 (.string ⟨#[]⟩) 16 Tryz.underlying22 info_str rfl (.slice oa ss.length c) ss.length (ss.map encStr) rfl Hown0.out (some ⟨W2.heap.size, 0, none⟩) 1 1 [.string k] rfl (fun h => by cases h) rfl Q2.out (strs_one [k]) (by omega) (by decide) HFa.out.size ?_); intro ao ac w4 hown4 hg4 hat4)
        have hr4 := grown_at hg4 HRa.out (ownsRow_ne_obj Hown0.out HRa.out (fun _ _ _ h => by cases h))
        have hm4 := grown_at hg4 HMa.out (ownsRow_ne_obj Hown0.out HMa.out (fun _ _ _ h => by cases h))
        have hF4 : Fresh w w4 := HFa.out.grown hg4 (fun i hi hlt => by
          have := (World.ownsRow.lt Hown0.out i hi).1
          omega)
        have hl4 : (ss ++ [k.data.toList]).length = ss.length + 1 := by simp
        refine ⟨⟨ao, ac, ss ++ [k.data.toList], seen.push e.born, clk, by rw [hl4], ?_, hr4, Nat.le_refl _, hm4, hF4, HP2.out⟩, ?_⟩
        · rw [hl4, List.map_append]
          exact hown4
        · have : w4.rangeLeft M w.heap.size = (leftOf es (seen.push e.born)).size := by simp [World.rangeLeft, hm4, hr4]
          rw [this, hml]
          exact hlt
      · have hpf' : Lib.hasPrefix k.data.toList fl = false := by simpa using hpf
        rw [hpf']
        rw [List.filter_cons_of_neg (by rw [hkb]; exact hpf)] at hfl
        have HP2 := Lib.hid ((List.Perm.append_left ss hfl.symm).trans hperm2)
        clear hpf hpf' hfl hperm2 hkb
        go_wp2_with fail
        exact ⟨⟨oa, c, ss, seen.push e.born, clk, rfl, HOwn2.out, HR2.out, Nat.le_refl _, HM2.out, HF2.out, HP2.out⟩, by rw [hms, hml]; exact hlt⟩
end Go.Proofs.YtbhmapcjcnceiaaGreatDoor
