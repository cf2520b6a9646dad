/- The file system in memory: Write. -/
import Derived.Test.YtbhmapcjcnceiaaGreatDoorF7
namespace Go.Proofs.YtbhmapcjcnceiaaGreatDoor
open Go Go.RowKit

/-- A file's bytes. -/
def dataOf (t : Tree) (q : ByteArray) : List UInt8 := ((look q t).map Cn.data).getD []
/-- How much a tree's bytes grow. -/
def wrGrow (t : Tree) (q : ByteArray) (b : List UInt8) (more : Bool) : Int := if more = true then (b.length : Int) else (b.length : Int) - ((dataOf t q).length : Int)
def wrErr (nodes bytes used : Int) (t : Tree) (p : ByteArray) (b : List UInt8) (more : Bool) : Int :=
  if (fsAbs t p).2 ≠ 0 then (fsAbs t p).2 else if kindOf t (fsAbs t p).1 = 2 then 10
  else if roomOf nodes bytes used t (if kindOf t (fsAbs t p).1 = 0 then 1 else 0) (wrGrow t (fsAbs t p).1 b more) = true then 0 else 13

theorem look_node {w : World} {P M : Nat} {nodes bytes used clock : Int} {t : Tree} (h : FsAt w P M nodes bytes used clock t) (q : ByteArray) : ∃ d oa c x, (find q (t.map fun p => (p.1, p.2.val))).getD (.agg #[.bool false, .slice none 0 0, .int .i64 0]) = .agg #[.bool d, .slice oa (dataOf t q).length c, .int .i64 x] ∧
    BytesAt w oa (dataOf t q) ∧ (oa = none → c = 0) := by
  have hf := find_look Cn.val q t
  unfold dataOf
  cases hlk : look q t with
  | none =>
    rw [hlk] at hf
    exact ⟨false, none, 0, 0, by rw [hf]; rfl, rfl, fun _ => rfl⟩
  | some n =>
    rw [hlk] at hf
    have := h.rows _ (look_mem hlk)
    exact ⟨n.dir, n.oa, n.c, n.time, by rw [hf]; rfl, this.1, this.2⟩

set_option maxRecDepth 10000 in
set_option maxHeartbeats 1600000 in
theorem write0_calls {w : World} {P M : Nat} {nodes bytes used clock : Int} {t : Tree} (h : FsAt w P M nodes bytes used clock t) (hE : Env w) (h9 : 9 ≤ P ∧ 9 ≤ M) (p : ByteArray) (hp : p.size < 4294967281) (ba : Option Addr) (bc : Nat) (b : List UInt8)
    (hb : ReadB w ba bc b) (hbP : ∀ ad, ba = some ad → 0 < b.length → ad.block ≠ P) (hbl : b.length ≤ 100000000) (ht : t.length ≤ 1000000) (hd : ∀ q, (dataOf t q).length ≤ 100000000) (hu : 0 ≤ used ∧ used ≤ 100000000) (hck : 0 ≤ clock ∧ clock ≤ 1099511627776) :
    Calls Tryz.prog 13 #[.pointer (some ⟨P, 0, none⟩), .string p, .slice ba b.length bc, .bool false] w fun e w' => e = .returned (.int .i64 (wrErr nodes bytes used t p b false)) ∧ Keeps (fun k => k = P ∨ k = M) w w' ∧
      ((wrErr nodes bytes used t p b false ≠ 0 ∧ FsAt w' P M nodes bytes used clock t) ∨
       (wrErr nodes bytes used t p b false = 0 ∧ ∃ oa c, FsAt w' P M nodes bytes (used + wrGrow t (fsAbs t p).1 b false) (clock + 1) (put (fsAbs t p).1 ⟨false, oa, c, b, clock + 1⟩ t) ∧ (∀ ad, oa = some ad → w.heap.size ≤ ad.block))) := by
  have hz : ∀ w, (zeroValue 74).run Tryz.prog w = .ok (.agg #[.bool false, .slice none 0 0, .int .i64 0]) w := fun _ => by kernel_rfl
  have Hz := Lib.hid hz
  have hfl : ∀ (d : Bool) (a : Option Addr) (n c : Nat) (x : Int) (w : World), (Instr.field 74 (.agg #[.bool d, .slice a n c, .int .i64 x]) 1).run Tryz.prog w = .ok (.slice a n c) w := node_data
  have HA := Lib.hid (fsabs_calls h hE p hp)
  have H := Lib.hid h
  have HB := Lib.hid hb
  have HD := Lib.hid hd
  have HE := Lib.hid hE
  have hwr : wrErr nodes bytes used t p b false = if (fsAbs t p).2 ≠ 0 then (fsAbs t p).2 else if kindOf t (fsAbs t p).1 = 2 then 10
    else if roomOf nodes bytes used t (if kindOf t (fsAbs t p).1 = 0 then 1 else 0) (wrGrow t (fsAbs t p).1 b false) = true then 0 else 13 := rfl
  generalize wrErr nodes bytes used t p b false = R at hwr ⊢
  have HR := Lib.hid hwr
  clear h hE hb hd hwr hz
  obtain ⟨Q, hQ⟩ : ∃ Q, fsAbs t p = Q := ⟨_, rfl⟩
  rw [hQ] at HA HR ⊢
  clear hQ
  obtain ⟨q, er⟩ := Q
  go_enter Tryz.func13, Tryz.ntmps13
  go_wp2_with fail
  refine HA.out.mono ?_
  rintro _ w1 ⟨rfl, hF1⟩
  have HF1 := Lib.hid hF1
  clear hF1 HA
  by_cases e0 : er = 0
  · subst e0
    go_wp2_with fail
    refine (kind_calls (H.out.fresh HF1.out) q).mono ?_
    rintro _ w2 ⟨rfl, hF2⟩
    have HF2 := Lib.hid (HF1.out.trans hF2)
    clear hF2 HF1
    have H2 := Lib.hid (H.out.fresh HF2.out)
    by_cases e1 : kindOf t q = 2
    · have Hr := Lib.hid (show R = 10 by have := HR.out; rw [if_neg (fun h => h rfl), if_pos e1] at this; exact this)
      rw [e1]
      clear e1
      go_wp2_with fail
      go_ret
      exact ⟨by rw [Hr.out]; rfl, HF2.out.mono (fun _ _ h => h.elim), Or.inl ⟨by rw [Hr.out]; decide, H2.out⟩⟩
    · have t1 : (kindOf t q == 2) = false := by rw [beq_eq_false_iff_ne]; exact e1
      have hr : R = if roomOf nodes bytes used t (if kindOf t q = 0 then 1 else 0) (wrGrow t q b false) = true then 0 else 13 := by
        have := HR.out; rw [if_neg (fun h => h rfl), if_neg e1] at this; exact this
      have Hr := Lib.hid hr
      clear HR hr
      obtain ⟨d0, oa0, c0, x0, hnode, hrow0, hc0⟩ := look_node H2.out q
      have hdl : (dataOf t q).length ≤ 100000000 := HD.out q
      have HRow0 := Lib.hid hrow0
      have HC0 := Lib.hid hc0
      obtain ⟨rn, hrn⟩ : ∃ rn, find q (t.map fun p => (p.1, p.2.val)) = rn := ⟨_, rfl⟩
      rw [hrn] at hnode
      have HFd := Lib.hid hrn
      have HM := Lib.hid H2.out.map
      have hc := cell_of_block H2.out.blk 0
      simp at hc
      clear hrn hrow0 hc0
      obtain ⟨X, hX⟩ : ∃ X, (b.length : Int) - ((dataOf t q).length : Int) = X := ⟨_, rfl⟩
      have hX1 : -100000000 ≤ X ∧ X ≤ 100000000 := by omega
      have hwg : wrGrow t q b false = X := by rw [← hX]; rfl
      have HWg := Lib.hid hwg
      rw [hwg] at Hr
      clear hwg
      by_cases e2 : kindOf t q = 0
      · have t2 : (kindOf t q == 0) = true := by rw [e2]; rfl
        rw [if_pos e2] at Hr
        generalize kindOf t q = kd at t1 t2 ⊢
        go_wp2_with (refine wp_lookup_str rfl _ _ _ _ rfl 9 74 Tryz.underlying67 Tryz.underlying9 (.agg #[.bool false, .slice none 0 0, .int .i64 0]) (Hz.out _) M _ rfl q rfl HM.out rn HFd.out ?_)
        refine (room_calls H2.out 1 X ⟨by omega, by omega⟩ ht ⟨by omega, by omega⟩ ⟨hu.1, by omega⟩).mono ?_
        rintro _ w3 ⟨rfl, hF3⟩
        clear hX
        have H3 := Lib.hid (H2.out.fresh hF3)
        have HF3 := Lib.hid (HF2.out.trans hF3)
        have Hr' := Lib.hid (show R = if roomOf nodes bytes used t 1 X = true then 0 else 13 from Hr.out)
        clear hF3 Hr hc
        generalize roomOf nodes bytes used t 1 X = rm at Hr' ⊢
        have m3 := cell_of_block H3.out.blk 3
        have f3 := frozen_of_block H3.out.blk 3
        simp at m3
        cases rm
        · have Hr2 := Lib.hid (show R = 13 from Hr'.out)
          go_wp2_with fail
          go_ret
          exact ⟨by rw [Hr2.out]; rfl, HF3.out.mono (fun _ _ h => h.elim), Or.inl ⟨by rw [Hr2.out]; decide, H3.out⟩⟩
        · have Hr2 := Lib.hid (show R = 0 from Hr'.out)
          have HS := Lib.hid (H3.out.setUsed (used + X))
          have HKS := Lib.hid (show Keeps (fun k => k = P) w (w3.setCell ⟨P, 3, none⟩ (.int .i64 (used + X))) from (HF3.out.mono (G := fun k => k = P) (fun _ _ h => h.elim)).setCell (p := ⟨P, 3, none⟩) (fun _ => rfl) _)
          go_wp2_with fail
          clear m3 f3
          obtain ⟨w4, hw4⟩ : ∃ w4, w4 = w3.setCell ⟨P, 3, none⟩ (.int .i64 (used + X)) := ⟨_, rfl⟩
          have hsz4 : w3.heap.size = w4.heap.size := by rw [hw4]; simp [World.setCell]
          rw [← hw4] at HS HKS ⊢
          rw [hsz4]
          clear hw4 hsz4
          have hfa : Fresh w4 (w4.alloc (.cells #[.slice none 0 0, .slice ba b.length bc] 25)) := (Keeps.refl _ w4).alloc _
          have hnb : (w4.alloc (.cells #[.slice none 0 0, .slice ba b.length bc] 25)).heap[w4.heap.size]? = some (.cells #[.slice none 0 0, .slice ba b.length bc] 25 (0, 0)) := heap_alloc_new w4 _
          have hbw : ReadB (w4.alloc (.cells #[.slice none 0 0, .slice ba b.length bc] 25)) ba bc b := (HB.out.keeps HKS.out (fun ad had h0 e => hbP ad had h0 e)).fresh hfa
          have HSa := Lib.hid (HS.out.fresh hfa)
          have HKa := Lib.hid (HKS.out.then hfa (fun _ _ h => h.elim))
          have h9a : 9 ≤ (w4.alloc (.cells #[.slice none 0 0, .slice ba b.length bc] 25)).heap.size := Nat.le_trans HE.out.len HKa.out.size
          refine (concat_calls (a1 := none) (c1 := 0) ([] : List UInt8) b hnb (ReadB.of (RowAt.nil _ _) (fun _ => rfl)) hbw (by rw [List.length_nil]; omega) h9a).mono ?_
          rintro _ w5 ⟨v, rfl, hbuf, hF5⟩
          rw [List.nil_append] at hbuf
          obtain ⟨ca, cc, rfl⟩ := hbuf.shape
          have HBuf := Lib.hid hbuf
          have H5 := Lib.hid (HSa.out.fresh hF5)
          have HK5 := Lib.hid (HKa.out.then hF5 (fun _ _ h => h.elim))
          have Hge := Lib.hid (Nat.le_trans HKS.out.size hfa.size)
          clear hbuf hF5 hbw hnb hfa h9a
          go_wp2_with fail
          refine (put_calls H5.out q false ca cc b 0 HBuf.out.row HBuf.out.shape2.2.2 hck).mono ?_
          rintro _ w6 ⟨rfl, hf6, hk6⟩
          have HF6 := Lib.hid hf6
          have HK6 := Lib.hid ((HK5.out.mono (fun _ _ h => Or.inl h)).trans hk6)
          clear hf6 hk6
          go_wp2_with fail
          go_ret
          exact ⟨by rw [Hr2.out]; rfl, HK6.out, Or.inr ⟨Hr2.out, ca, cc, by rw [HWg.out]; exact HF6.out, fun ad had => by subst had; exact Nat.le_trans Hge.out (HBuf.out.ge rfl)⟩⟩
      · have t2 : (kindOf t q == 0) = false := by rw [beq_eq_false_iff_ne]; exact e2
        rw [if_neg e2] at Hr
        generalize kindOf t q = kd at t1 t2 ⊢
        go_wp2_with (refine wp_lookup_str rfl _ _ _ _ rfl 9 74 Tryz.underlying67 Tryz.underlying9 (.agg #[.bool false, .slice none 0 0, .int .i64 0]) (Hz.out _) M _ rfl q rfl HM.out rn HFd.out ?_)
        refine (room_calls H2.out 0 X ⟨by omega, by omega⟩ ht ⟨by omega, by omega⟩ ⟨hu.1, by omega⟩).mono ?_
        rintro _ w3 ⟨rfl, hF3⟩
        clear hX
        have H3 := Lib.hid (H2.out.fresh hF3)
        have HF3 := Lib.hid (HF2.out.trans hF3)
        have Hr' := Lib.hid (show R = if roomOf nodes bytes used t 0 X = true then 0 else 13 from Hr.out)
        clear hF3 Hr hc
        generalize roomOf nodes bytes used t 0 X = rm at Hr' ⊢
        have m3 := cell_of_block H3.out.blk 3
        have f3 := frozen_of_block H3.out.blk 3
        simp at m3
        cases rm
        · have Hr2 := Lib.hid (show R = 13 from Hr'.out)
          go_wp2_with fail
          go_ret
          exact ⟨by rw [Hr2.out]; rfl, HF3.out.mono (fun _ _ h => h.elim), Or.inl ⟨by rw [Hr2.out]; decide, H3.out⟩⟩
        · have Hr2 := Lib.hid (show R = 0 from Hr'.out)
          have HS := Lib.hid (H3.out.setUsed (used + X))
          have HKS := Lib.hid (show Keeps (fun k => k = P) w (w3.setCell ⟨P, 3, none⟩ (.int .i64 (used + X))) from (HF3.out.mono (G := fun k => k = P) (fun _ _ h => h.elim)).setCell (p := ⟨P, 3, none⟩) (fun _ => rfl) _)
          go_wp2_with fail
          clear m3 f3
          obtain ⟨w4, hw4⟩ : ∃ w4, w4 = w3.setCell ⟨P, 3, none⟩ (.int .i64 (used + X)) := ⟨_, rfl⟩
          have hsz4 : w3.heap.size = w4.heap.size := by rw [hw4]; simp [World.setCell]
          rw [← hw4] at HS HKS ⊢
          rw [hsz4]
          clear hw4 hsz4
          have hfa : Fresh w4 (w4.alloc (.cells #[.slice none 0 0, .slice ba b.length bc] 25)) := (Keeps.refl _ w4).alloc _
          have hnb : (w4.alloc (.cells #[.slice none 0 0, .slice ba b.length bc] 25)).heap[w4.heap.size]? = some (.cells #[.slice none 0 0, .slice ba b.length bc] 25 (0, 0)) := heap_alloc_new w4 _
          have hbw : ReadB (w4.alloc (.cells #[.slice none 0 0, .slice ba b.length bc] 25)) ba bc b := (HB.out.keeps HKS.out (fun ad had h0 e => hbP ad had h0 e)).fresh hfa
          have HSa := Lib.hid (HS.out.fresh hfa)
          have HKa := Lib.hid (HKS.out.then hfa (fun _ _ h => h.elim))
          have h9a : 9 ≤ (w4.alloc (.cells #[.slice none 0 0, .slice ba b.length bc] 25)).heap.size := Nat.le_trans HE.out.len HKa.out.size
          refine (concat_calls (a1 := none) (c1 := 0) ([] : List UInt8) b hnb (ReadB.of (RowAt.nil _ _) (fun _ => rfl)) hbw (by rw [List.length_nil]; omega) h9a).mono ?_
          rintro _ w5 ⟨v, rfl, hbuf, hF5⟩
          rw [List.nil_append] at hbuf
          obtain ⟨ca, cc, rfl⟩ := hbuf.shape
          have HBuf := Lib.hid hbuf
          have H5 := Lib.hid (HSa.out.fresh hF5)
          have HK5 := Lib.hid (HKa.out.then hF5 (fun _ _ h => h.elim))
          have Hge := Lib.hid (Nat.le_trans HKS.out.size hfa.size)
          clear hbuf hF5 hbw hnb hfa h9a
          go_wp2_with fail
          refine (put_calls H5.out q false ca cc b 0 HBuf.out.row HBuf.out.shape2.2.2 hck).mono ?_
          rintro _ w6 ⟨rfl, hf6, hk6⟩
          have HF6 := Lib.hid hf6
          have HK6 := Lib.hid ((HK5.out.mono (fun _ _ h => Or.inl h)).trans hk6)
          clear hf6 hk6
          go_wp2_with fail
          go_ret
          exact ⟨by rw [Hr2.out]; rfl, HK6.out, Or.inr ⟨Hr2.out, ca, cc, by rw [HWg.out]; exact HF6.out, fun ad had => by subst had; exact Nat.le_trans Hge.out (HBuf.out.ge rfl)⟩⟩
  · have t1 : (er == 0) = false := by rw [beq_eq_false_iff_ne]; exact e0
    have Hr := Lib.hid (show R = er by have := HR.out; rw [if_pos e0] at this; exact this)
    have E0 := Lib.hid e0
    clear e0
    go_wp2_with fail
    go_ret
    exact ⟨by rw [Hr.out]; rfl, HF1.out.mono (fun _ _ h => h.elim), Or.inl ⟨by rw [Hr.out]; exact E0.out, H.out.fresh HF1.out⟩⟩
end Go.Proofs.YtbhmapcjcnceiaaGreatDoor
