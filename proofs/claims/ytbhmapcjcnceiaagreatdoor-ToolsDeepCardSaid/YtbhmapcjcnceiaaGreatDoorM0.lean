/- mkdir -p: the ways to a path, and each directory that is not there. -/
import Derived.Test.YtbhmapcjcnceiaaGreatDoorK4
import Derived.Test.YtbhmapcjcnceiaaGreatDoorL2
import Derived.Test.YtbhmapcjcnceiaaGreatDoorJ0
namespace Go.Proofs.YtbhmapcjcnceiaaGreatDoor
open Go Go.RowKit

theorem Ut.fsKeeps {w w' : World} {b base : Nat} {f : Value} {cwd name : ByteArray} {args inn : Value} {st : Int} {out log : Value} {o l : List UInt8} (h : Ut w b base f cwd name args inn st out log o l) {P M : Nat} (hP : P < base) (hM : M < base)
    (hk : Keeps (fun k => k = P ∨ k = M) w w') : Ut w' b base f cwd name args inn st out log o l := by
  have hg := h.ge
  refine ⟨hk.at h.blk (by rintro (e | e) <;> omega), h.bufO.keeps hk (fun g hg e => ?_), h.bufL.keeps hk (fun g hg e => ?_), h.apart, Nat.le_trans h.hsz hk.size, h.ge⟩
  · have := h.bufO.ge hg
    rcases e with e | e <;> omega
  · have := h.bufL.ge hg
    rcases e with e | e <;> omega

set_option maxHeartbeats 800000 in
theorem ways_calls (p : ByteArray) (hp : p.size ≤ 1000000) (w : World) : Calls Tryz.prog 160 #[.string p] w fun e w' => ∃ oa c, e = .returned (.slice oa (waysL [] p.data.toList).length c) ∧
    w'.ownsRow w.heap.size 9 1 (.slice oa (waysL [] p.data.toList).length c) (waysL [] p.data.toList).length ((waysL [] p.data.toList).map encStr) ∧ Fresh w w' := by
  obtain ⟨R, hR⟩ : ∃ R, waysL [] p.data.toList = R := ⟨_, rfl⟩
  have HR := Lib.hid hR
  rw [hR]
  clear hR
  go_enter Tryz.func160, Tryz.ntmps160
  go_wp2_with fail
  go_loopw [3, 4] (fun out i wr => ∃ (oa : Option Addr) (c : Nat) (k : Nat) (ss : List (List UInt8)), 1 ≤ k ∧ k ≤ p.size + 1 ∧ i = .int .i64 k ∧ out = .slice oa ss.length c ∧ ss.length ≤ k ∧
    wr.ownsRow w.heap.size 9 1 (.slice oa ss.length c) ss.length (ss.map encStr) ∧ Fresh w wr ∧ ss ++ waysL (p.data.toList.take k) (p.data.toList.drop k) = R) (fun _ i _ => p.size + 1 - (intOf i).toNat)
  case atStart =>
    refine ⟨none, 0, 1, [], by omega, by omega, rfl, rfl, by simp, World.ownsRow_nil _ _ _ _, Fresh.refl _, ?_⟩
    rw [← HR.out, List.nil_append]
    cases p.data.toList with
    | nil => rfl
    | cons c r => simp [waysL]
  case round =>
    obtain ⟨oa, c, k, ss, hk1, hk2, rfl, rfl, hsl, hown, hF, hw⟩ := hrel
    rename_i wr
    have HOwn := Lib.hid hown
    have HF := Lib.hid hF
    have HW := Lib.hid hw
    clear hown hF hw
    by_cases hlt : k < p.size
    · have hlt' : k < p.data.toList.length := by rw [Array.length_toList]; exact hlt
      have hg : p.data.toList[k] = p[k] := by simp; rfl
      have hd : p.data.toList.drop k = p[k] :: p.data.toList.drop (k + 1) := by rw [List.drop_eq_getElem_cons hlt', hg]
      have ht : p.data.toList.take (k + 1) = p.data.toList.take k ++ [p[k]] := by rw [List.take_add_one, List.getElem?_eq_getElem hlt', hg]; rfl
      have hne : p.data.toList.take k ≠ [] := by
        intro h
        have := congrArg List.length h
        rw [List.length_take, List.length_nil] at this
        omega
      have hw2 := HW.out
      rw [hd, waysL] at hw2
      by_cases e1 : p[k] = 47
      · have t1 : ((p[k].toNat : Int) == 47) = true := by rw [e1]; rfl
        rw [if_pos ⟨e1, hne⟩, ← ht] at hw2
        have HW2 := Lib.hid hw2
        have hx : p.extract 0 k = B (p.data.toList.take k) := by
          apply ByteArray.ext; apply Array.ext'
          rw [Lib.extract_data, B_data]; simp
        obtain ⟨x, hxx⟩ : ∃ x, p.extract 0 k = x := ⟨_, rfl⟩
        have HX := Lib.hid (hxx.symm.trans hx)
        have hk63 : (k : Int) ≤ (p.size : Int) := by omega
        have hfa : Fresh wr (wr.alloc (.cells #[.string x] 9)) := (Keeps.refl _ wr).alloc _
        have Hown0 := Lib.hid (ownsRow_keeps HOwn.out hfa (fun _ _ x => x))
        have HFa := Lib.hid (HF.out.trans hfa)
        have Q2 := Lib.hid (show ∀ ad, some (⟨wr.heap.size, 0, none⟩ : Addr) = some ad → ∀ j u, [Value.string x][j]? = some u → (wr.alloc (.cells #[.string x] 9)).cell? (ad.add j) = some u from fun ad had j u hu => by
          cases had
          exact (RowAt.of_block (xs := [Value.string x]) (heap_alloc_new wr _)).add j u hu)
        clear hw2 ht hd hne hfa hx hg
        go_wp2_with (at_builtin; go_must (refine wp_app_row rfl _ _ _ rfl w.heap.size 9 (.string ⟨#[]⟩) 16 Tryz.underlying22 info_str rfl (.slice oa ss.length c) ss.length (ss.map encStr) rfl Hown0.out (some ⟨wr.heap.size, 0, none⟩) 1 1 [.string x] rfl (fun h => by cases h) rfl Q2.out (strs_one [x]) (by omega) (by decide) HFa.out.size ?_); intro ao ac w4 hown4 hg4 hat4)
        have hF4 : Fresh w w4 := HFa.out.grown hg4 (fun i hi hlt => by
          have := (World.ownsRow.lt Hown0.out i hi).1
          omega)
        have hl4 : (ss ++ [p.data.toList.take k]).length = ss.length + 1 := by simp
        exact ⟨⟨ao, ac, k + 1, ss ++ [p.data.toList.take k], by omega, by omega, by go_num, by rw [hl4], by rw [hl4]; omega, by rw [hl4, List.map_append]; rw [HX.out] at hown4; exact hown4, hF4, by rw [List.append_assoc]; exact HW2.out⟩, by simp [intOf]; omega⟩
      · have t1 : ((p[k].toNat : Int) == 47) = false := by
          rw [beq_eq_false_iff_ne]
          intro e
          have h47 : (47 : UInt8).toNat = 47 := rfl
          exact e1 (UInt8.toNat_inj.1 (by omega))
        rw [if_neg (fun h => e1 h.1), ← ht] at hw2
        have HW2 := Lib.hid hw2
        clear hw2 ht hd hne hg
        go_wp2_with fail
        exact ⟨⟨oa, c, k + 1, ss, by omega, by omega, by go_num, rfl, by omega, HOwn.out, HF.out, HW2.out⟩, by simp [intOf]; omega⟩
    · have hd : p.data.toList.drop k = [] := List.drop_of_length_le (by rw [Array.length_toList]; exact Nat.not_lt.1 hlt)
      have hw2 := HW.out
      rw [hd, waysL, List.append_nil] at hw2
      subst hw2
      go_wp2_with fail
      go_ret
      exact ⟨oa, c, rfl, HOwn.out, HF.out⟩

/-- Each directory that is not there, made in turn: the tree, the clock, the first error. -/
def aboveL (nodes bytes used : Int) : List (List UInt8) → Tree → Int → Tree × Int × Int
  | [], t, k => (t, k, 0)
  | q :: r, t, k => if fsKind t (B q) ≠ 0 then aboveL nodes bytes used r t k else if mkErr nodes bytes used t (B q) ≠ 0 then (t, k, mkErr nodes bytes used t (B q))
      else aboveL nodes bytes used r (put (fsAbs t (B q)).1 ⟨true, none, 0, [], k + 1⟩ t) (k + 1)
theorem put_len {α : Type} (k : ByteArray) (v : α) : ∀ t : List (ByteArray × α), (put k v t).length ≤ t.length + 1
  | [] => by simp [put]
  | p :: r => by
    simp only [put]
    split
    · simp
    · have := put_len k v r
      simp only [List.length_cons]
      omega

set_option maxRecDepth 10000 in
set_option maxHeartbeats 1600000 in
theorem above_calls {w : World} (hE : Env w) {b base P M : Nat} {nodes bytes used clock : Int} {t : Tree} {cwd name : ByteArray} {args inn : Value} {st : Int} {out log : Value} {o l : List UInt8} (p : ByteArray) (hp : p.size ≤ 1000)
    (hu : Ut w b base (.pointer (some ⟨P, 0, none⟩)) cwd name args inn st out log o l) (hf : FsAt w P M nodes bytes used clock t) (hP : P < base) (hM : M < base) (h9 : 9 ≤ P ∧ 9 ≤ M) (ht : t.length ≤ 100000) (hus : 0 ≤ used ∧ used ≤ 100000000) (hck : 0 ≤ clock ∧ clock ≤ 1000000000)
    (hwl : (waysL [] p.data.toList).length ≤ 1000) (hws : ∀ q ∈ waysL [] p.data.toList, q.length ≤ 1000) :
    Calls Tryz.prog 119 #[.pointer (some ⟨b, 0, none⟩), .string p] w fun e w' => e = .returned (.int .i64 (aboveL nodes bytes used (waysL [] p.data.toList ++ [p.data.toList]) t clock).2.2) ∧ Keeps (fun k => k = P ∨ k = M) w w' ∧
      FsAt w' P M nodes bytes used (aboveL nodes bytes used (waysL [] p.data.toList ++ [p.data.toList]) t clock).2.1 (aboveL nodes bytes used (waysL [] p.data.toList ++ [p.data.toList]) t clock).1 := by
  have HWy := Lib.hid (ways_calls p (by omega) w)
  obtain ⟨wl, hwle⟩ : ∃ wl, waysL [] p.data.toList = wl := ⟨_, rfl⟩
  rw [hwle] at HWy hwl hws ⊢
  have hpl : p.data.toList.length ≤ 1000 := by rw [Array.length_toList]; exact hp
  have HU := Lib.hid hu
  have HFs := Lib.hid hf
  have HE := Lib.hid hE
  have HPs := Lib.hid (show ∀ q ∈ wl ++ [p.data.toList], q.length ≤ 1000 from fun q hq => by
    rcases List.mem_append.1 hq with h | h
    · exact hws q h
    · obtain rfl := List.mem_singleton.1 h
      exact hpl)
  obtain ⟨R, hR⟩ : ∃ R, aboveL nodes bytes used (wl ++ [p.data.toList]) t clock = R := ⟨_, rfl⟩
  have HR := Lib.hid hR
  rw [hR]
  have hPl := lt_of_block hf.blk
  have hMl := hf.map.lt
  clear hu hf hE hws hwle hR
  go_enter Tryz.func119, Tryz.ntmps119
  go_wp2_with fail
  refine HWy.out.mono ?_
  rintro _ w1 ⟨wa, wc, rfl, hown1, hF1⟩
  have hfa : Fresh w1 (w1.alloc (.cells #[.string p] 9)) := (Keeps.refl _ w1).alloc _
  have Hown0 := Lib.hid (ownsRow_keeps hown1 hfa (fun _ _ x => x))
  have HFa := Lib.hid (hF1.trans hfa)
  have Q2 := Lib.hid (show ∀ ad, some (⟨w1.heap.size, 0, none⟩ : Addr) = some ad → ∀ j u, [Value.string p][j]? = some u → (w1.alloc (.cells #[.string p] 9)).cell? (ad.add j) = some u from fun ad had j u hu => by
    cases had
    exact (RowAt.of_block (xs := [Value.string p]) (heap_alloc_new w1 _)).add j u hu)
  clear hown1 hF1 hfa HWy
  go_wp2_with (at_builtin; go_must (refine wp_app_row rfl _ _ _ rfl w.heap.size 9 (.string ⟨#[]⟩) 16 Tryz.underlying22 info_str rfl (.slice wa wl.length wc) wl.length (wl.map encStr) rfl Hown0.out (some ⟨w1.heap.size, 0, none⟩) 1 1 [.string p] rfl (fun h => by cases h) rfl Q2.out (strs_one [p]) (by omega) (by decide) HFa.out.size ?_); intro ao ac w2 hown2 hg2 hat2)
  have hF2 : Fresh w w2 := HFa.out.grown hg2 (fun i hi hlt => by
    have := (World.ownsRow.lt Hown0.out i hi).1
    omega)
  obtain ⟨L, hL⟩ : ∃ L, L = wl ++ [p.data.toList] := ⟨_, rfl⟩
  rw [← hL] at HR HPs
  have hown2' : w2.ownsRow w.heap.size 9 1 (.slice ao L.length ac) L.length (L.map encStr) := by
    have e1 : L.length = wl.length + 1 := by rw [hL]; simp
    have e2 : L.map encStr = wl.map encStr ++ [Value.string p] := by rw [hL]; simp
    rw [e1, e2]
    exact hown2
  rw [show wl.length + 1 = L.length by rw [hL]; simp, show ((wl.length : Int) + 1) = (L.length : Int) by rw [hL]; simp]
  have hLl : L.length ≤ 1001 := by rw [hL]; simp; omega
  have HOwn2 := Lib.hid hown2'
  have HF2 := Lib.hid hF2
  have hLp : 0 < L.length := by rw [hL]; simp
  clear hown2 hg2 hat2 hF2 hown2' Hown0 HFa Q2 hL
  obtain ⟨g, hg⟩ : ∃ g, ao = some ⟨g, 0, none⟩ := by
    rcases HOwn2.out.2 with ⟨_, h0⟩ | ⟨g, cap, cur, h, _⟩
    · omega
    · simp only [Value.slice.injEq] at h
      exact ⟨g, h.1⟩
  subst hg
  have hgn := (World.ownsRow.lt HOwn2.out g rfl).1
  have hrow : RowAt w2 9 (some ⟨g, 0, none⟩) (L.map encStr) := RowAt.of_owns HOwn2.out
  have HRow := Lib.hid hrow
  clear hrow
  go_loopw [14] (fun i wr => ∃ (k : Nat) (t' : Tree) (ck : Int), k ≤ L.length ∧ i = .int .i64 k ∧ FsAt wr P M nodes bytes used ck t' ∧ aboveL nodes bytes used (L.drop k) t' ck = R ∧ t'.length ≤ t.length + k ∧ 0 ≤ ck ∧ ck ≤ clock + k ∧
    Keeps (fun k => k = P ∨ k = M) w wr ∧ Keeps (fun k => k = P ∨ k = M) w2 wr) (fun i _ => L.length - (intOf i).toNat)
  case atStart => exact ⟨0, t, clock, by omega, rfl, HFs.out.fresh HF2.out, by rw [List.drop_zero]; exact HR.out, by omega, by omega, by omega, HF2.out.mono (fun _ _ h => h.elim), Keeps.refl _ _⟩
  case round =>
    obtain ⟨k, t', ck, hk, rfl, hf, hab, htl, hc0, hc1, hkw, hk2⟩ := hrel
    rename_i wr
    have HF := Lib.hid hf
    have HAb := Lib.hid hab
    have HKw := Lib.hid hkw
    have HK2 := Lib.hid hk2
    have HU1 := Lib.hid (HU.out.fsKeeps hP hM hkw)
    have HE1 := Lib.hid (HE.out.keeps hkw (fun k h => by rcases h with e | e <;> omega))
    clear hf hab hkw hk2
    by_cases hlt : k < L.length
    · have hcell : wr.cell? ⟨g, k, none⟩ = some (.string (B L[k])) := by
        have h1 := HRow.out.cell (j := k) (u := .string (B L[k])) (by simp [hlt, B])
        rw [Nat.zero_add] at h1
        exact HK2.out.cell h1 (by show ¬ (g = P ∨ g = M); omega)
      have hql := HPs.out _ (List.getElem_mem hlt)
      have hd : L.drop k = L[k] :: L.drop (k + 1) := List.drop_eq_getElem_cons hlt
      have hab := HAb.out
      rw [hd, aboveL] at hab
      obtain ⟨q, hq⟩ : ∃ q, B L[k] = q := ⟨_, rfl⟩
      have hqs : q.size ≤ 1000 := by rw [← hq, B_size]; exact hql
      rw [hq] at hcell hab
      have HAb2 := Lib.hid hab
      have c0 := cell_of_block HU1.out.blk 0
      simp at c0
      clear hq hd hab hql
      go_wp2_with fail
      refine (fskind_calls HF.out HE1.out q (by omega)).mono ?_
      rintro _ w3 ⟨rfl, hF3⟩
      have HF3 := Lib.hid hF3
      have c3 := hF3.cell c0 (fun x => x)
      clear hF3
      by_cases e0 : fsKind t' q = 0
      · rw [if_neg (fun h => h e0)] at HAb2
        rw [e0]
        go_wp2_with fail
        refine (mkdir_calls (HF.out.fresh HF3.out) (HE1.out.fresh HF3.out) q (by omega) (by omega) hus ⟨hc0, by omega⟩).mono ?_
        rintro _ w4 ⟨rfl, hk4, hcase⟩
        have HKw4 := Lib.hid ((HKw.out.then HF3.out (fun _ _ h => h.elim)).trans hk4)
        have HK24 := Lib.hid ((HK2.out.then HF3.out (fun _ _ h => h.elim)).trans hk4)
        have HCase := Lib.hid hcase
        clear hk4 hcase
        by_cases e1 : mkErr nodes bytes used t' q = 0
        · rw [if_neg (fun h => h e1)] at HAb2
          have hfs : FsAt w4 P M nodes bytes used (ck + 1) (put (fsAbs t' q).1 ⟨true, none, 0, [], ck + 1⟩ t') := by
            rcases HCase.out with ⟨h, _⟩ | ⟨_, h⟩
            · exact absurd e1 h
            · exact h
          have HFs4 := Lib.hid hfs
          have hpl := put_len (fsAbs t' q).1 (⟨true, none, 0, [], ck + 1⟩ : Cn) t'
          rw [e1]
          clear hfs
          go_wp2_with fail
          exact ⟨⟨k + 1, _, ck + 1, by omega, by go_num, HFs4.out, HAb2.out, by omega, by omega, by omega, HKw4.out, HK24.out⟩, by simp [intOf]; omega⟩
        · rw [if_pos e1] at HAb2
          have hfs : FsAt w4 P M nodes bytes used ck t' := by
            rcases HCase.out with ⟨_, h⟩ | ⟨h, _⟩
            · exact h
            · exact absurd h e1
          have HFs4 := Lib.hid hfs
          generalize mkErr nodes bytes used t' q = me at HAb2 e1 ⊢
          have t1 : (me == 0) = false := by rw [beq_eq_false_iff_ne]; exact e1
          have HR2 := Lib.hid HAb2.out.symm
          clear hfs e1
          go_wp2_with fail
          go_ret
          exact ⟨by rw [HR2.out]; rfl, HKw4.out, by rw [HR2.out]; exact HFs4.out⟩
      · rw [if_pos e0] at HAb2
        generalize fsKind t' q = kd at e0 ⊢
        have t1 : (kd == 0) = false := by rw [beq_eq_false_iff_ne]; exact e0
        go_wp2_with fail
        exact ⟨⟨k + 1, t', ck, by omega, by go_num, HF.out.fresh HF3.out, HAb2.out, by omega, by omega, by omega, HKw.out.then HF3.out (fun _ _ h => h.elim), HK2.out.then HF3.out (fun _ _ h => h.elim)⟩, by simp [intOf]; omega⟩
    · obtain rfl : k = L.length := by omega
      have hab := HAb.out
      rw [List.drop_length, aboveL] at hab
      have HR2 := Lib.hid hab.symm
      clear hab
      go_wp2_with fail
      go_ret
      exact ⟨by rw [HR2.out]; rfl, HKw.out, by rw [HR2.out]; exact HF.out⟩
end Go.Proofs.YtbhmapcjcnceiaaGreatDoor
