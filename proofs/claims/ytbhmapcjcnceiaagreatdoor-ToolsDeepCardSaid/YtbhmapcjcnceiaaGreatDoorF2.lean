/- Two rows of bytes laid one behind the other. -/
import Derived.Test.YtbhmapcjcnceiaaGreatDoorF1
import Derived.Test.YtbhmapcjcnceiaaGreatDoorD4
import Derived.Lib.AppendZerosOnto
namespace Go.Proofs.YtbhmapcjcnceiaaGreatDoor
open Go Go.RowKit

set_option maxHeartbeats 800000 in
theorem grow_calls (n : Nat) (hn : n ≤ 1099511627776) (w : World) : Calls Tryz.prog 79 #[.slice none 0 0, .int .i64 n] w fun e w' => ∃ v, e = .returned v ∧ Buf w' 5 w.heap.size v [] ∧ Fresh w w' := by
  by_cases h0 : n = 0
  · subst h0
    go_enter Tryz.func79, Tryz.ntmps79
    go_wp2_with fail
    go_ret
    exact ⟨_, rfl, Buf.nil _ _ _, Fresh.refl w⟩
  · obtain ⟨i, hi, hz, hs, hb⟩ : ∃ i, Tryz.prog.info? 5 = some i ∧ i.zero = some (.int .u8 0) ∧ i.size = 1 ∧ i.bytes = 1 := by
      have := info_byte
      cases hh : Tryz.prog.info? 5 with
      | none => rw [hh] at this; simp at this
      | some i => rw [hh] at this; simp at this; exact ⟨i, rfl, this⟩
    have hrun := fun ty => Lib.run_append_grow_zeros (P := Tryz.prog) w 25 3 ty 5 i (.int .u8 0) .i64 .i64 Tryz.underlying25 Tryz.underlying3 hi hz none 0 0 [] (run_firstCells_none _ _ 0 0 0) n (by omega) (by omega) (by omega) (by omega) (by rw [hb]; omega) (by rw [hb]; exact growslice_fits (by omega) (by omega))
    obtain ⟨G, hG⟩ : ∃ G, G = grownCap w (0 + n) 0 5 := ⟨_, rfl⟩
    rw [← hG] at hrun
    have hGn : 0 + n ≤ G := by rw [hG]; exact grownCap_ge w _ _ _
    have hGm : G ≤ 9223372036854775807 := by
      have := grownCap_le_maxLen w (0 + n) 0 5 (by unfold maxLen; omega)
      rw [← hG] at this
      exact this
    have Hrun := Lib.hid hrun
    have z1 : decide ((0 : Int) < (n : Int)) = true := by simp; omega
    clear hrun hG hi
    go_enter Tryz.func79, Tryz.ntmps79
    go_wp2_with (at_builtin; refine Lib.wpList_append_run _ rfl _ _ _ _ rfl _ _ rfl rfl _ _ (Hrun.out _) ?_)
    go_ret
    refine ⟨_, rfl, ⟨rfl, Or.inr ⟨w.heap.size, G, _, rfl, Nat.le_refl _, heap_alloc_new w _, Nat.zero_le _, hGm, ?_, rfl⟩⟩, ((Keeps.refl _ w).alloc _).drew⟩
    rw [Array.size_append, size_zeroCells, size_zeroCells]
    simp
    omega

/-- Bytes that can be read, cell for cell (of their block nothing is said). -/
def ReadB (w : World) (oa : Option Addr) (c : Nat) (l : List UInt8) : Prop :=
  (oa = none → l.length = 0 ∧ c = 0) ∧ ∀ ad, oa = some ad → ∀ j u, (cellsOf l)[j]? = some u → w.cell? (ad.add j) = some u
theorem add_block (ad : Addr) (j : Nat) : (ad.add j).block = ad.block := by unfold Addr.add; split <;> rfl
theorem ReadB.keeps {F : Nat → Prop} {w w' : World} {oa : Option Addr} {c : Nat} {l : List UInt8} (h : ReadB w oa c l) (hk : Keeps F w w') (hn : ∀ ad, oa = some ad → 0 < l.length → ¬ F ad.block) : ReadB w' oa c l :=
  ⟨h.1, fun ad had j u hu => hk.cell (h.2 ad had j u hu) (by
    have hj : j < (cellsOf l).length := (List.getElem?_eq_some_iff.1 hu).1
    rw [cellsOf_length] at hj
    rw [add_block]
    exact hn ad had (by omega))⟩
theorem ReadB.lt {w : World} {oa : Option Addr} {c : Nat} {l : List UInt8} (h : ReadB w oa c l) : ∀ ad, oa = some ad → 0 < l.length → ad.block < w.heap.size := fun ad had h0 => by
  have hlen : 0 < (cellsOf l).length := by rw [cellsOf_length]; exact h0
  have := h.2 ad had 0 _ (List.getElem?_eq_getElem hlen)
  have := World.block_lt_of_cell? w _ this
  rwa [add_block] at this
theorem ReadB.fresh {w w' : World} {oa : Option Addr} {c : Nat} {l : List UInt8} (h : ReadB w oa c l) (hk : Fresh w w') : ReadB w' oa c l := h.keeps hk (fun _ _ _ x => x)
theorem ReadB.of {w : World} {oa : Option Addr} {c : Nat} {l : List UInt8} (h : BytesAt w oa l) (h0 : oa = none → c = 0) : ReadB w oa c l :=
  ⟨fun e => ⟨by subst e; have : cellsOf l = [] := h; rw [← cellsOf_length, this]; rfl, h0 e⟩, fun ad had => by subst had; exact h.add⟩

set_option maxHeartbeats 1600000 in
theorem concat_calls {w : World} {g : Nat} {a1 a2 : Option Addr} {c1 c2 : Nat} (l1 l2 : List UInt8) (hb : w.heap[g]? = some (.cells #[.slice a1 l1.length c1, .slice a2 l2.length c2] 25 (0, 0)))
    (h1 : ReadB w a1 c1 l1) (h2 : ReadB w a2 c2 l2) (hl : l1.length + l2.length ≤ 1099511627776) (h9 : 9 ≤ w.heap.size) :
    Calls Tryz.prog 30 #[.slice (some ⟨g, 0, none⟩) 2 2] w fun e w' => ∃ v, e = .returned v ∧ Buf w' 5 w.heap.size v (l1 ++ l2) ∧ Fresh w w' := by
  have k0 := cell_of_block hb 0
  have k1 := cell_of_block hb 1
  simp at k0 k1
  have HB := Lib.hid hb
  have H1 := Lib.hid h1
  have H2 := Lib.hid h2
  have hlt := lt_of_block hb
  have hg := fun w' => grow_calls (l1.length + l2.length) hl w'
  simp only [Int.natCast_add] at hg
  have Hg := Lib.hid hg
  have Z1 := Lib.hid h1.1
  have Z2 := Lib.hid h2.1
  clear hb h1 h2 hg
  go_enter Tryz.func30, Tryz.ntmps30
  go_wp2_with fail
  refine wp_loop_rounds 3 ?_
  rw [rounds_succ]
  go_wp2_with fail
  rw [rounds_succ]
  go_wp2_with fail
  rw [rounds_succ]
  go_wp2_with fail
  refine (Hg.out _).mono ?_
  rintro _ w1 ⟨v, rfl, hbuf, hF1⟩
  obtain ⟨ga, gc, rfl⟩ := hbuf.shape
  have q0 := hF1.cell (p := ⟨g, 0, none⟩) k0 (fun x => x)
  have q1 := hF1.cell (p := ⟨g, 1, none⟩) k1 (fun x => x)
  have HBuf := Lib.hid hbuf
  have HF1 := Lib.hid hF1
  have HSz := Lib.hid hF1.size
  have A1 := Lib.hid (show ∀ ad, a1 = some ad → ∀ j u, (cellsOf l1)[j]? = some u → w1.cell? (ad.add j) = some u from (H1.out.fresh hF1).2)
  clear hbuf hF1 k0 k1
  have b1 : (0 + l1.length) * 1 ≤ 140737488355328 := by omega
  have L1 := Lib.hid (cellsOf_length l1)
  go_wp2_with fail
  refine wp_loop_rounds 3 ?_
  rw [rounds_succ]
  go_wp2_with (at_builtin; go_must (refine wp_app_row rfl _ _ _ rfl w.heap.size 5 (.int .u8 0) 1 Tryz.underlying25 info_byte rfl (.slice ga 0 gc) 0 [] rfl HBuf.out a1 l1.length c1 (cellsOf l1) rfl Z1.out L1.out A1.out (cells_one l1) b1 (by decide) HSz.out ?_); intro ao ac w2 hown2 hg2 hat2; have q1' := cell_of_block (grown_at hg2 (HF1.out.at HB.out (fun x => x)) (fun e => by have := (World.ownsRow.lt HBuf.out g e).1; omega)) 1; simp at q1')
  rw [Nat.zero_add, List.nil_append] at hown2
  have hF2 : Fresh w w2 := HF1.out.grown hg2 (fun k hk hl => by have := (World.ownsRow.lt HBuf.out k hk).1; omega)
  have HOwn2 := Lib.hid hown2
  have HF2 := Lib.hid hF2
  have HSz2 := Lib.hid hF2.size
  have A2 := Lib.hid (show ∀ ad, a2 = some ad → ∀ j u, (cellsOf l2)[j]? = some u → w2.cell? (ad.add j) = some u from (H2.out.fresh hF2).2)
  clear hown2 hg2 hat2 hF2 q0 q1
  have b2 : (l1.length + l2.length) * 1 ≤ 140737488355328 := by omega
  have L2 := Lib.hid (cellsOf_length l2)
  rw [rounds_succ]
  go_wp2_with (at_builtin; go_must (refine wp_app_row rfl _ _ _ rfl w.heap.size 5 (.int .u8 0) 1 Tryz.underlying25 info_byte rfl (.slice ao l1.length ac) l1.length (cellsOf l1) rfl HOwn2.out a2 l2.length c2 (cellsOf l2) rfl Z2.out L2.out A2.out (cells_one l2) b2 (by decide) HSz2.out ?_); intro ao3 ac3 w3 hown3 hg3 hat3)
  rw [rounds_succ]
  go_wp2_with fail
  go_ret
  refine ⟨_, rfl, ?_, HF2.out.grown hg3 (fun k hk hl => by have := (World.ownsRow.lt HOwn2.out k hk).1; omega)⟩
  unfold Buf
  rw [List.length_append, cellsOf_append]
  exact hown3
end Go.Proofs.YtbhmapcjcnceiaaGreatDoor
