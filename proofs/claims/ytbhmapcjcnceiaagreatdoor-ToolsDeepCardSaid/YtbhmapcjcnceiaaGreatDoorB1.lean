/- The utility's own small words, further: next, complain, may. -/
import Derived.Test.YtbhmapcjcnceiaaGreatDoorB0
import Derived.Test.YtbhmapcjcnceiaaGreatDoorA2
namespace Go.Proofs.YtbhmapcjcnceiaaGreatDoor
open Go Go.RowKit

/-- A value is a slice of these texts. -/
def Strs (w : World) (oa : Option Addr) (c : Nat) (ss : List ByteArray) : Prop := ss.length ≤ c ∧ c ≤ 9223372036854775807 ∧ (oa = none → c = 0) ∧ RowAt w 9 oa (ss.map Value.string)

theorem next_none {w : World} {b base : Nat} {f : Value} {cwd name : ByteArray} {inn : Value} {st : Int} {out log : Value} {o l : List UInt8} (oa : Option Addr) (c : Nat)
    (hu : Ut w b base f cwd name (.slice oa 0 c) inn st out log o l) :
    Calls Tryz.prog 110 #[.pointer (some ⟨b, 0, none⟩)] w fun e w' => e = .returned (.string ⟨#[]⟩) ∧ w = w' := by
  have c3 := cell_of_block hu.blk 3
  clear hu
  simp at c3
  go_enter Tryz.func110, Tryz.ntmps110
  go_wp2
  go_ret
  exact ⟨rfl, rfl⟩

theorem next_some {w : World} {b base : Nat} {f : Value} {cwd name : ByteArray} {inn : Value} {st : Int} {out log : Value} {o l : List UInt8} (oa : Option Addr) (c : Nat) (s : ByteArray) (ss : List ByteArray)
    (hu : Ut w b base f cwd name (.slice oa (ss.length + 1) c) inn st out log o l) (hs : Strs w oa c (s :: ss)) :
    Calls Tryz.prog 110 #[.pointer (some ⟨b, 0, none⟩)] w fun e w' => e = .returned (.string s) ∧ ∃ oa' c', Strs w' oa' c' ss ∧
      Ut w' b base f cwd name (.slice oa' ss.length c') inn st out log o l ∧ Keeps (fun k => k = b) w w' := by
  obtain ⟨h1, h2, h3, h4⟩ := hs
  simp only [List.length_cons] at h1
  cases oa with
  | none => simp [RowAt] at h4
  | some ad =>
    obtain ⟨g, off, sp⟩ := ad
    obtain rfl : sp = none := h4.spot
    have Hu := Lib.hid hu
    have H4 := Lib.hid h4
    have c3 := cell_of_block hu.blk 3
    have f3 := frozen_of_block hu.blk 3
    have g0 : w.cell? ⟨g, off, none⟩ = some (.string s) := h4.cell (j := 0) rfl
    have hb1 : ∀ a c', (w.setCell ⟨b, 3, none⟩ (.slice a ss.length c')).heap[b]? = some (.cells #[f, .string cwd, .string name, .slice a ss.length c', inn, .int .i64 st, out, log] 65 (0, 0)) := fun a c' => block_setCell hu.blk 3 _
    have Hb1 := Lib.hid hb1
    have hgne : g ≠ b := h4.ne hu.blk (by decide) _ rfl
    have Hfin : Hid (∀ a c', ss.length ≤ c' → c' ≤ 9223372036854775807 → (a = none → c' = 0) → RowAt w 9 a (ss.map Value.string) → (∀ ad, a = some ad → ad.block = g) → Strs (w.setCell ⟨b, 3, none⟩ (.slice a ss.length c')) a c' ss ∧ Ut (w.setCell ⟨b, 3, none⟩ (.slice a ss.length c')) b base f cwd name (.slice a ss.length c') inn st out log o l ∧ Keeps (fun k => k = b) w (w.setCell ⟨b, 3, none⟩ (.slice a ss.length c'))) := by
      intro a c' q1 q2 q3 q4 q5
      have K := Keeps.set w b 3 (.slice a ss.length c')
      have hone : out.ownBlock ≠ some b := hu.bufO.ne hu.blk (by decide)
      have hlne : log.ownBlock ≠ some b := hu.bufL.ne hu.blk (by decide)
      refine ⟨⟨q1, q2, q3, q4.keeps K (fun ad ha e => hgne ((q5 ad ha).symm.trans e))⟩, ⟨hb1 a c', hu.bufO.keeps K (fun k hk e => hone (by rw [hk, e])), hu.bufL.keeps K (fun k hk e => hlne (by rw [hk, e])), hu.apart, ?_, hu.ge⟩, K⟩
      have := hu.hsz
      simpa [World.setCell] using this
    clear hu h4 hb1 hgne
    simp at c3
    go_enter Tryz.func110, Tryz.ntmps110
    go_wp2
    all_goals go_ret
    · subst c
      have e0 : ss.length = 0 := by omega
      obtain rfl : ss = [] := List.eq_nil_of_length_eq_zero e0
      exact ⟨rfl, _, _, Hfin.out _ _ (by simp) (by omega) (fun h => rfl) ⟨rfl, H4.out.2.choose, H4.out.2.choose_spec.choose, H4.out.2.choose_spec.choose_spec.1, fun j u hj => by simp at hj⟩ (fun ad ha => by cases ha; rfl)⟩
    · exact ⟨rfl, _, _, Hfin.out _ _ (by omega) (by omega) (fun h => by cases h) (by simpa using H4.out.drop 1) (fun ad ha => by cases ha; rfl)⟩

/-- What a complaint writes. -/
def complaint (name x : ByteArray) (e : Nat) : List UInt8 := name.data.toList ++ [58, 32] ++ x.data.toList ++ [58, 32, 101, 114, 114, 111, 114, 32] ++ Lib.decDigits e ++ [10]

set_option maxHeartbeats 400000 in
set_option maxRecDepth 10000 in
theorem complain_calls {w : World} {b base : Nat} {f : Value} {cwd name : ByteArray} {args inn : Value} {st : Int} {out log : Value} {o l : List UInt8} (x : ByteArray) (e : Nat) (he : e < 100)
    (hu : Ut w b base f cwd name args inn st out log o l) (hroom : l.length + (complaint name x e).length ≤ 140737488355328) :
    Calls Tryz.prog 109 #[.pointer (some ⟨b, 0, none⟩), .string x, .int .i64 e] w fun r w' => r = .returned (.tuple #[]) ∧ ∃ log',
      Ut w' b base f cwd name args inn 1 out log' o (l ++ complaint name x e) ∧ Keeps (utF b out log) w w' ∧ Old w (utF b out log') (utF b out log) := by
  have c2 := cell_of_block hu.blk 2
  have c7 := cell_of_block hu.blk 7
  have Hu := Lib.hid hu
  have Hr := Lib.hid hroom
  clear hu hroom
  simp at c2 c7
  have hl : (complaint name x e).length = name.size + x.size + (Lib.decDigits e).length + 11 := by
    simp only [complaint, List.length_append, List.length_cons, List.length_nil, Array.length_toList]
    show name.size + _ + x.size + _ + _ + _ = _
    omega
  have z1 : ¬ 9223372036854775807 < name.size + 2 := by have := Hr.out; omega
  have z2 : ¬ 9223372036854775807 < name.size + 2 + x.size := by have := Hr.out; omega
  have z3 : ¬ 9223372036854775807 < name.size + 2 + x.size + 8 := by have := Hr.out; omega
  have z4 : ¬ 9223372036854775807 < name.size + 2 + x.size + 8 + (Lib.decDigits e).length := by have := Hr.out; omega
  have z5 : ¬ 9223372036854775807 < name.size + 2 + x.size + 8 + (Lib.decDigits e).length + 1 := by have := Hr.out; omega
  clear hl
  go_enter Tryz.func109, Tryz.ntmps109
  go_wp2
  refine wp_region_ord [0, 1, 2, 3, 4, 5, 6, 7, 8, 9, 10, 11, 12, 13, 14, 15, 16, 17, 18, 19, 20, 21, 22] [15, 18, 19, 20, 21, 22] [22] (fun w => w.cell? ⟨b, 2, none⟩ = some (.string name) ∧ w.cell? ⟨b, 7, none⟩ = some log) (by kernel_rfl) (by kernel_rfl) (by simpa using ⟨c2, c7⟩) ?_
  repeat (refine' wpOrd_take (v := _) rfl rfl rfl (fun _ _ _ h => h) ?_ ?_; rotate_left; (· intro w' hS; (try dsimp only at hS); go_simp; rfl); (try simp only [Act.put, List.setIfInBounds_toArray, List.set_cons_zero, List.set_cons_succ]))
  refine wpOrd_eff rfl rfl (fun K hK => ?_)
  go_simp
  refine (Tryz.strconv_Itoa_small e he _).mono ?_
  rintro _ _ ⟨rfl, rfl⟩
  refine hK _ _ (fun _ => by simpa using ⟨c2, c7⟩) ?_
  clear hK K
  (try simp only [Act.put, List.setIfInBounds_toArray, List.set_cons_zero, List.set_cons_succ])
  repeat (refine' wpOrd_take (v := _) rfl rfl rfl (fun _ _ _ h => h) ?_ ?_; rotate_left; (· intro w' hS; (try dsimp only at hS); go_simp; rfl); (try simp only [Act.put, List.setIfInBounds_toArray, List.set_cons_zero, List.set_cons_succ]))
  generalize hE : name ++ { data := #[58, 32] } ++ x ++ { data := #[58, 32, 101, 114, 114, 111, 114, 32] } ++ { data := (Lib.decDigits e).toArray } ++ { data := #[10] } = E
  have HE := Lib.hid (show E.data.toList = complaint name x e from by rw [← hE]; simp [complaint, ByteArray.data_append])
  have HEs := Lib.hid (show E.size = (complaint name x e).length from by rw [← HE.out]; rfl)
  clear hE z1 z2 z3 z4 z5
  have Hne := Lib.hid (Hu.out.bufL.ne Hu.out.blk (by decide))
  have Hbl := Lib.hid (Hu.out.bufL.keeps ((Keeps.refl (fun _ => False) w).drew) (fun _ _ x => x))
  refine wpOrd_eff rfl rfl (fun K hK => ?_)
  refine st_app_str rfl _ _ _ _ rfl base 5 Tryz.underlying25 Tryz.underlying9 info_byte log l rfl Hbl.out E rfl (by have := Hr.out; rw [HEs.out]; omega) Hu.out.hsz ?_
  intro oa' oc' w1 hown1 hg1 hat1
  have hbl := grown_at hg1 Hu.out.blk Hne.out
  have k2 := cell_of_block hbl 2
  have k7 := cell_of_block hbl 7
  have f7 := frozen_of_block hbl 7
  have f5 := frozen_of_block hbl 5
  have k5 := cell_of_block hbl 5
  simp at k2 k7 k5
  have Hb := Lib.hid hbl
  clear hbl
  refine hK _ _ (fun _ => ⟨k2, k7⟩) ?_
  clear hK K
  (try simp only [Act.put, List.setIfInBounds_toArray, List.set_cons_zero, List.set_cons_succ])
  (refine wpOrd_eff rfl rfl (fun K hK => ?_); go_simp; refine hK _ _ (fun _ => ⟨k2, k7⟩) ?_; clear hK K; (try simp only [Act.put, List.setIfInBounds_toArray, List.set_cons_zero, List.set_cons_succ]))
  (refine wpOrd_eff rfl rfl (fun K hK => ?_); go_simp; refine hK _ _ (fun _ => ⟨k2, k7⟩) ?_; clear hK K; (try simp only [Act.put, List.setIfInBounds_toArray, List.set_cons_zero, List.set_cons_succ]))
  (refine wpOrd_eff rfl rfl (fun K hK => ?_); go_simp; refine hK _ _ (fun _ => ⟨k2, k7⟩) ?_; clear hK K; (try simp only [Act.put, List.setIfInBounds_toArray, List.set_cons_zero, List.set_cons_succ]))
  (refine wpOrd_eff rfl rfl (fun K hK => ?_); go_simp; refine hK _ _ (fun h => by cases h) ?_; clear hK K; (try simp only [Act.put, List.setIfInBounds_toArray, List.set_cons_zero, List.set_cons_succ]))
  refine wpOrd_nil ?_
  go_wp2
  go_end0
  have K1 : Keeps (utF b out log) w w1 := (Keeps.refl _ w).drew.grown hg1 (fun k hk _ => Or.inr (Or.inr hk))
  have hne' : (Value.slice oa' (l.length + E.size) oc').ownBlock ≠ some b := hown1.ne Hb.out (by decide)
  have hone : out.ownBlock ≠ some b := Hu.out.bufO.ne Hu.out.blk (by decide)
  have hbl2 := block_setCell (block_setCell Hb.out 7 (.slice oa' (l.length + E.size) oc')) 5 (.int .i64 1)
  refine ⟨rfl, _, ⟨hbl2, ?_, ?_, ?_, ?_, Hu.out.ge⟩, (K1.setCell (fun _ => Or.inl rfl) _).setCell (fun _ => Or.inl rfl) _, ?_⟩
  · exact ((Hu.out.bufO.keeps ((Keeps.refl (fun k => log.ownBlock = some k) w).drew.grown hg1 (fun k hk _ => hk)) (fun g hg e => Hu.out.apart g hg e)).keeps (Keeps.set w1 b 7 _) (fun g hg e => hone (by rw [hg, e]))).keeps (Keeps.set _ b 5 _) (fun g hg e => hone (by rw [hg, e]))
  · rw [HE.out] at hown1
    exact (hown1.keeps (Keeps.set w1 b 7 _) (fun g hg e => hne' (by rw [hg, e]))).keeps (Keeps.set _ b 5 _) (fun g hg e => hne' (by rw [hg, e]))
  · intro k hk hl
    rcases hat1 with h | h
    · exact Hu.out.apart k hk (h ▸ hl)
    · have := Hu.out.bufO.lt hk
      rw [h] at hl
      simp only [Option.some.injEq, World.size_drew] at hl
      omega
  · have := Hu.out.hsz
    have := hg1.size
    simp only [World.size_drew] at this
    simp only [World.setCell, Array.size_modify]
    omega
  · rintro k hk (h | h | h)
    · exact Or.inl h
    · exact Or.inr (Or.inl h)
    · rcases hat1 with h' | h'
      · exact Or.inr (Or.inr (h' ▸ h))
      · rw [h'] at h
        simp only [Option.some.injEq, World.size_drew] at h
        omega

theorem may_ok (w : World) (b : Nat) (x : ByteArray) :
    Calls Tryz.prog 114 #[.pointer (some ⟨b, 0, none⟩), .string x, .int .i64 0] w fun r w' => r = .returned (.bool true) ∧ w = w' := by
  go_enter Tryz.func114, Tryz.ntmps114
  go_wp2
  go_ret
  exact ⟨rfl, rfl⟩
theorem may_err {w : World} {b base : Nat} {f : Value} {cwd name : ByteArray} {args inn : Value} {st : Int} {out log : Value} {o l : List UInt8} (x : ByteArray) (e : Nat) (he : e < 100) (h0 : 0 < e)
    (hu : Ut w b base f cwd name args inn st out log o l) (hroom : l.length + (complaint name x e).length ≤ 140737488355328) :
    Calls Tryz.prog 114 #[.pointer (some ⟨b, 0, none⟩), .string x, .int .i64 e] w fun r w' => r = .returned (.bool false) ∧ ∃ log',
      Ut w' b base f cwd name args inn 1 out log' o (l ++ complaint name x e) ∧ Keeps (utF b out log) w w' ∧ Old w (utF b out log') (utF b out log) := by
  have H := Lib.hid (complain_calls x e he hu hroom)
  clear hu hroom
  have t1 : ((e : Int) != 0) = true := by simp; omega
  have t2 : ((e : Int) == 0) = false := by simp; omega
  go_enter Tryz.func114, Tryz.ntmps114
  go_wp2_with (go_at_call 109; refine H.out.mono ?_; rintro _ w1 ⟨rfl, HH⟩; have H1 := Lib.hid HH; clear HH)
  go_ret
  exact ⟨rfl, H1.out⟩
end Go.Proofs.YtbhmapcjcnceiaaGreatDoor
