/- Run: the frame round what a utility does. -/
import Derived.Test.YtbhmapcjcnceiaaGreatDoorD3
namespace Go.Proofs.YtbhmapcjcnceiaaGreatDoor
open Go Go.RowKit

/-- A slice of these bytes can be read at oa. -/
abbrev BytesAt (w : World) (oa : Option Addr) (l : List UInt8) : Prop := RowAt w 5 oa (cellsOf l)
theorem cells_ints (l : List UInt8) : (l.map fun b => (b.toNat : Int)).map (Value.int .u8) = cellsOf l := by simp [cellsOf]
theorem clone_calls {w : World} (oa : Option Addr) (m c : Nat) (l : List UInt8) (hl : l.length = m) (hrow : BytesAt w oa l) (hbig : m ≤ 1099511627776) :
    Calls Tryz.prog 25 #[.slice oa m c] w fun e w' => ∃ oa' c', e = .returned (.slice oa' m c') ∧ BytesAt w' oa' l ∧ Fresh w w' ∧ (∀ ad, oa' = some ad → w.heap.size ≤ ad.block) := by
  cases oa with
  | none =>
    have h0 : cellsOf l = [] := hrow
    have : l = [] := by simpa [cellsOf] using h0
    subst this
    simp only [List.length_nil] at hl
    subst hl
    exact (Tryz.bytes_Clone_nil 0 c w).mono fun e w' ⟨he, hw⟩ => ⟨none, 0, he, rfl, by rw [hw]; exact Fresh.refl w, fun _ h => by cases h⟩
  | some ad =>
    refine (Tryz.bytes_Clone_at ad m c (l.map fun b => (b.toNat : Int)) w (by simp [hl]) (by omega) (fun i hi => ?_)).mono fun e w' ⟨v', he, hown, _, hb⟩ => ?_
    · have hlt : i < l.length := by omega
      have e1 : (cellsOf l)[i]? = some (.int .u8 (((l.map fun b => (b.toNat : Int)).getD i 0))) := by
        simp [cellsOf, List.getElem?_map, List.getD, List.getElem?_eq_getElem hlt]
      exact hrow.add i _ e1
    · rw [cells_ints] at hown
      obtain ⟨oa', c', rfl⟩ := ownsRow_shape hown
      refine ⟨oa', c', he, RowAt.of_owns hown, Fresh.of_below hb, fun ad' h => ?_⟩
      subst h
      exact (World.ownsRow.lt hown ad'.block rfl).1

/-- A slice whose cells can be read (of its block nothing is said). -/
def ReadRow (w : World) (oa : Option Addr) (c : Nat) (xs : List Value) : Prop :=
  (oa = none → xs.length = 0 ∧ c = 0) ∧ ∀ ad, oa = some ad → ∀ j u, xs[j]? = some u → w.cell? (ad.add j) = some u
theorem ReadRow.fresh {w w' : World} {oa : Option Addr} {c : Nat} {xs : List Value} (h : ReadRow w oa c xs) (hk : Fresh w w') : ReadRow w' oa c xs :=
  ⟨h.1, fun ad had j u hu => hk.cell (h.2 ad had j u hu) (fun x => x)⟩
theorem Strs.read {w : World} {oa : Option Addr} {c : Nat} {ss : List ByteArray} (h : Strs w oa c ss) : ReadRow w oa c (ss.map Value.string) := by
  obtain ⟨h1, h2, h3, h4⟩ := h
  refine ⟨fun e => ?_, fun ad had => by subst had; exact h4.add⟩
  subst e
  have h0 : ss.map Value.string = [] := h4
  exact ⟨by rw [h0]; rfl, h3 rfl⟩
/-- What a utility's method is to do, from a fresh utility on. F: the old blocks that it may write. -/
def Does (K : FuncId) (w : World) (f : Value) (cwd name : ByteArray) (args : List ByteArray) (inn : Value) (F : Nat → Prop) (st : Int) (o l : List UInt8) (Q : World → World → Prop) : Prop :=
  ∀ w1 b oa c, Fresh w w1 → w.heap.size ≤ b → Ut w1 b w.heap.size f cwd name (.slice oa args.length c) inn 0 (.slice none 0 0) (.slice none 0 0) [] [] → Strs w1 oa c args → Env w1 →
    Calls Tryz.prog K #[.pointer (some ⟨b, 0, none⟩)] w1 fun e w2 => e = .returned (.tuple #[]) ∧ ∃ args' out' log',
      Ut w2 b w.heap.size f cwd name args' inn st out' log' o l ∧ Keeps (fun k => k = b ∨ F k) w1 w2 ∧ Q w1 w2

set_option maxHeartbeats 1600000 in
theorem run_calls_read {w : World} {K : FuncId} {pf : Nat} {cwd name : ByteArray} {args : List ByteArray} {ia : Option Addr} {il ic : Nat} {F : Nat → Prop} {st : Int} {o l : List UInt8} {Q : World → World → Prop} (oa : Option Addr) (c : Nat)
    (hent : ∀ args w, (callFunc K args).run Tryz.prog w = .ok (.enter K args) w) (hfind : find name allTab = some (.func (.func K) #[] #[])) (hE : Env w) (hs : ReadRow w oa c (args.map Value.string)) (hlen : args.length ≤ 1000) (hF : ∀ k, F k → 9 ≤ k ∧ k < w.heap.size) (ho : o.length ≤ 1099511627776) (hl : l.length ≤ 1099511627776)
    (hdo : Does K w (.pointer (some ⟨pf, 0, none⟩)) cwd name args (.slice ia il ic) F st o l Q) :
    Calls Tryz.prog 10 #[.pointer (some ⟨pf, 0, none⟩), .string cwd, .string name, .slice oa args.length c, .slice ia il ic] w fun e w' => ∃ oo oc lo lc w1 w2, e = .returned (.agg #[.int .i64 st, .slice oo (min o.length 65536) oc, .slice lo l.length lc]) ∧
      BytesAt w' oo (o.take 65536) ∧ BytesAt w' lo l ∧ Fresh w w1 ∧ Q w1 w2 ∧ Keeps (fun k => ∃ cs T fz, w2.heap[k]? = some (.cells cs T fz) ∧ (T = 65 ∨ T = 27)) w2 w' ∧ Keeps F w w' := by
  have hz : ∀ w, (zeroValue 59).run Tryz.prog w = .ok .nilFunc w := fun _ => by kernel_rfl
  have HDO := Lib.hid hdo
  have HE := Lib.hid hE
  have HS := Lib.hid hs
  have HF := Lib.hid hF
  have Hfind := Lib.hid hfind
  have Hent := Lib.hid hent
  clear hdo hE hs hF hfind
  go_enter Tryz.func10, Tryz.ntmps10
  go_wp2_with fail
  refine (all_calls _).mono ?_
  rintro _ w1 ⟨rfl, hM, hFr⟩
  have hr1 : w1.heap[w.heap.size]? = some (.cells #[Value.int IntKind.i64 0, Value.slice none 0 0, Value.slice none 0 0] 27 (0, 0)) := hFr.at (heap_alloc_new w _) (fun x => x)
  have hF1 : Fresh w w1 := by
    have k0 : Fresh w (w.alloc (.cells #[Value.int IntKind.i64 0, Value.slice none 0 0, Value.slice none 0 0] 27)) := (Keeps.refl _ w).alloc _
    exact k0.then hFr (fun i hi x => x)
  generalize (w.alloc (.cells #[Value.int IntKind.i64 0, Value.slice none 0 0, Value.slice none 0 0] 27)).heap.size = MB at hM ⊢
  have HM := Lib.hid hM
  have HR1 := Lib.hid hr1
  have HF1 := Lib.hid hF1
  have Hz := Lib.hid hz
  clear hM hFr hr1 hF1 hz
  have Q1 := Lib.hid (show oa = none → args.length = 0 ∧ c = 0 from fun h => by have := HS.out.1 h; rwa [List.length_map] at this)
  have Q2 := Lib.hid (show ∀ ad, oa = some ad → ∀ j u, (args.map Value.string)[j]? = some u → w1.cell? (ad.add j) = some u from (HS.out.fresh HF1.out).2)
  have Q3 := Lib.hid (show (args.map Value.string).length = args.length by simp)
  have Q4 := Lib.hid (show (0 + args.length) * 16 ≤ 140737488355328 by omega)
  go_wp2_with (first
    | (refine wp_lookup_str rfl _ _ _ _ rfl 9 59 Tryz.underlying61 Tryz.underlying9 .nilFunc (Hz.out _) MB allTab rfl name rfl HM.out (some (.func (.func K) #[] #[])) Hfind.out ?_)
    | (at_builtin; go_must (refine wp_app_row rfl _ _ _ rfl w.heap.size 9 (.string ⟨#[]⟩) 16 Tryz.underlying22 info_str rfl (.slice none 0 0) 0 [] rfl (World.ownsRow_nil _ _ _ _) oa args.length c (args.map Value.string) rfl Q1.out Q3.out Q2.out (strs_one _) Q4.out (by decide) HF1.out.size ?_); intro ao ac w2 hown hg2 hat))
  have hF2 : Fresh w1 w2 := (Keeps.grew hg2).mono (fun k _ h => by cases h)
  have hsa := hown.shape2
  obtain ⟨hs1, hs2, hs3⟩ := hsa
  rw [Nat.zero_add] at hs1 hown
  have hrow2 : RowAt w2 9 ao (args.map Value.string) := by simpa using RowAt.of_owns hown
  have hF3 : Fresh w2 (w2.alloc (.cells #[.pointer (some ⟨pf, 0, none⟩), .string cwd, .string name, .slice ao args.length ac, .slice ia il ic, .int .i64 0, .slice none 0 0, .slice none 0 0] 65)) := (Keeps.refl _ w2).alloc _
  have hb3 : (w2.alloc (.cells #[.pointer (some ⟨pf, 0, none⟩), .string cwd, .string name, .slice ao args.length ac, .slice ia il ic, .int .i64 0, .slice none 0 0, .slice none 0 0] 65)).heap[w2.heap.size]? = some (.cells #[.pointer (some ⟨pf, 0, none⟩), .string cwd, .string name, .slice ao args.length ac, .slice ia il ic, .int .i64 0, .slice none 0 0, .slice none 0 0] 65 (0, 0)) := heap_alloc_new w2 _
  generalize (w2.alloc (.cells #[.pointer (some ⟨pf, 0, none⟩), .string cwd, .string name, .slice ao args.length ac, .slice ia il ic, .int .i64 0, .slice none 0 0, .slice none 0 0] 65)) = w3 at hF3 hb3 ⊢
  have hlt2 : w.heap.size ≤ w2.heap.size := Nat.le_trans HF1.out.size hF2.size
  have hlt3 : w2.heap.size < w3.heap.size := lt_of_block hb3
  have hlt1 : w.heap.size < w1.heap.size := lt_of_block HR1.out
  have hr3 := hF3.at (hF2.at HR1.out (fun x => x)) (fun x => x)
  have hF13 : Fresh w w3 := (HF1.out.trans hF2).trans hF3
  have hE3 : Env w3 := HE.out.fresh hF13
  have hu3 : Ut w3 w2.heap.size w.heap.size (.pointer (some ⟨pf, 0, none⟩)) cwd name (.slice ao args.length ac) (.slice ia il ic) 0 (.slice none 0 0) (.slice none 0 0) [] [] :=
    ⟨hb3, Buf.nil _ _ _, Buf.nil _ _ _, fun k h => (by cases h), hF13.size, HE.out.len, hlt2⟩
  have hbr : w.heap.size < w2.heap.size := Nat.lt_of_lt_of_le hlt1 hF2.size
  refine (HDO.out w3 w2.heap.size ao ac hF13 hlt2 hu3 ⟨hs1, hs2, hs3, hrow2.fresh hF3⟩ hE3).mono ?_
  rintro _ w4 ⟨rfl, args', out', log', hu4, hk4, hq4⟩
  have hr4 := hk4.at hr3 (by
    rintro (h | h)
    · omega
    · have := HF.out _ h
      omega)
  generalize w2.heap.size = b at hu4 hk4 hbr hlt3 ⊢
  have hK4 : Keeps F w w4 := (hF13.mono (fun _ _ h => h.elim)).then hk4 (fun i hi h => by
    rcases h with h | h
    · omega
    · exact h)
  obtain ⟨xo, xc, rfl⟩ := hu4.bufO.shape
  obtain ⟨lo, lc, rfl⟩ := hu4.bufL.shape
  have HU4 := Lib.hid hu4
  have HQ4 := Lib.hid hq4
  have HK4 := Lib.hid hK4
  have HR4 := Lib.hid hr4
  have HF13 := Lib.hid hF13
  have c5 := cell_of_block hu4.blk 5
  have c6 := cell_of_block hu4.blk 6
  have c7 := cell_of_block hu4.blk 7
  have f5 := frozen_of_block hu4.blk 5
  have f6 := frozen_of_block hu4.blk 6
  simp at c5 c6 c7
  clear hu4 hq4 hK4 hr4 hF13 hk4 hE3 hb3 hF3 hF2 hrow2 hown hg2 hat hr3 hu3 HR1 HM HS HF Hz Q1 Q2 Q3 Q4 Hent HDO
  go_wp2_with fail
  have hsh := HU4.out.bufO.shape2
  obtain ⟨hs4, hs5, hs6⟩ := hsh
  refine wp_region_ord [0, 1, 2, 3, 4, 5, 6, 7, 8, 9, 10, 11, 12, 13, 14, 15, 16, 17, 18] [14, 15, 16, 17, 18] [18] (fun w => w.cell? ⟨b, 6, none⟩ = some (.slice xo o.length xc)) (by kernel_rfl) (by kernel_rfl) (by simpa using c6) ?_
  repeat (refine' wpOrd_take (v := _) rfl rfl rfl (fun _ _ _ h => h) ?_ ?_; rotate_left; (· intro w' hS; (try dsimp only at hS); go_simp; rfl); (try simp only [Act.put, List.setIfInBounds_toArray, List.set_cons_zero, List.set_cons_succ]))
  rw [show min (o.length : Int) 65536 = ((min o.length 65536 : Nat) : Int) by omega]
  have hm1 : min o.length 65536 ≤ o.length := by omega
  have hm2 : (o.take 65536).length = min o.length 65536 := by rw [List.length_take]; omega
  have Hm2 := Lib.hid hm2
  have hrow : BytesAt w4 xo (o.take 65536) := by
    have := HU4.out.bufO.row.take 65536
    rwa [show (cellsOf o).take 65536 = cellsOf (o.take 65536) from by simp [cellsOf, List.map_take]] at this
  have Hrow := Lib.hid hrow
  clear hm2 hrow
  generalize min o.length 65536 = m at hm1 Hm2 ⊢
  have hm3 : m ≤ xc := by omega
  refine' wpOrd_take (v := .slice xo m xc) rfl rfl rfl (fun _ _ _ h => h) ?_ ?_
  · intro w' hS
    cases xo with
    | none =>
      obtain rfl : xc = 0 := hs6 rfl
      obtain rfl : m = 0 := by omega
      go_simp
    | some ad =>
      go_simp
  go_simp
  refine wpOrd_eff rfl rfl (fun K' hK => ?_)
  go_simp
  have hdr : Fresh w4 w4.drew := (Keeps.refl _ w4).drew
  refine (clone_calls xo m xc (o.take 65536) Hm2.out (Hrow.out.fresh hdr) (by omega)).mono ?_
  rintro _ w5 ⟨co, cc, rfl, hco, hF5, hge⟩
  have HF5 := Lib.hid (hdr.trans hF5)
  have HCO := Lib.hid hco
  have HGE := Lib.hid hge
  have hb5 := hF5.at (hdr.at HU4.out.blk (fun x => x)) (fun x => x)
  clear hco hge hdr hF5
  have k5 := cell_of_block hb5 5
  have k6 := cell_of_block hb5 6
  have k7 := cell_of_block hb5 7
  have g5 := frozen_of_block hb5 5
  have g6 := frozen_of_block hb5 6
  have g7 := frozen_of_block hb5 7
  simp at k5 k6 k7
  have HB5 := Lib.hid hb5
  clear hb5 c5 c6 c7 f5 f6
  refine hK _ _ (fun _ => k6) ?_
  clear hK K'
  (try simp only [Act.put, List.setIfInBounds_toArray, List.set_cons_zero, List.set_cons_succ])
  (refine wpOrd_eff rfl rfl (fun K hK => ?_); go_simp; refine hK _ _ (fun _ => k6) ?_; clear hK K; (try simp only [Act.put, List.setIfInBounds_toArray, List.set_cons_zero, List.set_cons_succ]))
  (refine wpOrd_eff rfl rfl (fun K hK => ?_); go_simp; refine hK _ _ (fun _ => k6) ?_; clear hK K; (try simp only [Act.put, List.setIfInBounds_toArray, List.set_cons_zero, List.set_cons_succ]))
  (refine wpOrd_eff rfl rfl (fun K hK => ?_); go_simp; refine hK _ _ (fun _ => k6) ?_; clear hK K; (try simp only [Act.put, List.setIfInBounds_toArray, List.set_cons_zero, List.set_cons_succ]))
  (refine wpOrd_eff rfl rfl (fun K hK => ?_); go_simp; refine hK _ _ (fun h => by cases h) ?_; clear hK K; (try simp only [Act.put, List.setIfInBounds_toArray, List.set_cons_zero, List.set_cons_succ]))
  refine wpOrd_nil ?_
  have hb6 := block_setCell HB5.out 6 (.slice co m cc)
  have hr6 : (w5.setCell ⟨b, 6, none⟩ (.slice co m cc)).heap[w.heap.size]? = some (.cells #[Value.int IntKind.i64 0, Value.slice none 0 0, Value.slice none 0 0] 27 (0, 0)) := by
    rw [block_setCell_ne (by show _ ≠ b; omega)]
    exact HF5.out.at HR4.out (fun x => x)
  have HK6 := Lib.hid ((HF5.out.mono (G := fun k => k = b ∨ k = w.heap.size) (fun _ _ h => h.elim)).setCell (p := ⟨b, 6, none⟩) (fun _ => Or.inl rfl) (.slice co m cc))
  have HK5 := Lib.hid ((Keeps.refl (fun k => k = b ∨ k = w.heap.size) w5).setCell (p := ⟨b, 6, none⟩) (fun _ => Or.inl rfl) (.slice co m cc))
  generalize w5.setCell ⟨b, 6, none⟩ (.slice co m cc) = w6 at hb6 hr6 HK6 HK5 ⊢
  have k5 := cell_of_block hb6 5
  have k6 := cell_of_block hb6 6
  have k7 := cell_of_block hb6 7
  have r0 := cell_of_block hr6 0
  have r1 := cell_of_block hr6 1
  have r2 := cell_of_block hr6 2
  have g0 := frozen_of_block hr6 0
  have g1 := frozen_of_block hr6 1
  have g2 := frozen_of_block hr6 2
  simp at k5 k6 k7 r0 r1 r2
  go_wp2_with fail
  have hr7 := block_setCell (block_setCell (block_setCell hr6 0 (.int .i64 st)) 1 (.slice co m cc)) 2 (.slice lo l.length lc)
  have HK7 := ((HK6.out.setCell (F := fun k => k = b ∨ k = w.heap.size) (p := ⟨w.heap.size, 0, none⟩) (fun _ => Or.inr rfl) (.int .i64 st)).setCell (p := ⟨w.heap.size, 1, none⟩) (fun _ => Or.inr rfl) (.slice co m cc)).setCell (p := ⟨w.heap.size, 2, none⟩) (fun _ => Or.inr rfl) (.slice lo l.length lc)
  have HK75 := ((HK5.out.setCell (F := fun k => k = b ∨ k = w.heap.size) (p := ⟨w.heap.size, 0, none⟩) (fun _ => Or.inr rfl) (.int .i64 st)).setCell (p := ⟨w.heap.size, 1, none⟩) (fun _ => Or.inr rfl) (.slice co m cc)).setCell (p := ⟨w.heap.size, 2, none⟩) (fun _ => Or.inr rfl) (.slice lo l.length lc)
  have hq0 := cell_of_block hr7 0
  have hq1 := cell_of_block hr7 1
  have hq2 := cell_of_block hr7 2
  simp at hq0 hq1 hq2
  generalize ((w6.setCell ⟨w.heap.size, 0, none⟩ (.int .i64 st)).setCell ⟨w.heap.size, 1, none⟩ (.slice co m cc)).setCell ⟨w.heap.size, 2, none⟩ (.slice lo l.length lc) = w7 at hr7 HK7 HK75 hq0 hq1 hq2 ⊢
  refine bodyPost_ret (v := .agg #[.int .i64 st, .slice co m cc, .slice lo l.length lc]) ?_ rfl ?_
  · simp [results, Tryz.results10, go_sem, hq0, hq1, hq2]
  · have hblk := HU4.out.blk
    have hln : ∀ ad, lo = some ad → ¬ (ad.block = b ∨ ad.block = w.heap.size) := by
      have h1 : ∀ ad, lo = some ad → ad.block ≠ b := HU4.out.bufL.row.ne hblk (by decide)
      have h2 : ∀ ad, lo = some ad → ad.block ≠ w.heap.size := HU4.out.bufL.row.ne HR4.out (by decide)
      intro ad had h
      rcases h with h | h
      · exact h1 ad had h
      · exact h2 ad had h
    have hcn : ∀ ad, co = some ad → ¬ (ad.block = b ∨ ad.block = w.heap.size) := by
      intro ad had h
      have := HGE.out ad had
      have hb4 := lt_of_block hblk
      have e : w4.drew.heap.size = w4.heap.size := rfl
      omega
    refine ⟨co, cc, lo, lc, w3, w4, by rw [← Hm2.out, List.length_take, Nat.min_comm], HCO.out.keeps HK75 hcn, HU4.out.bufL.row.keeps HK7 hln, HF13.out, HQ4.out, HK7.mono (fun k hk h => ?_), HK4.out.then HK7 (fun i hi h => ?_)⟩
    · rcases h with rfl | rfl
      · exact ⟨_, _, _, hblk, Or.inl rfl⟩
      · exact ⟨_, _, _, HR4.out, Or.inr rfl⟩
    · omega
theorem run_calls {w : World} {K : FuncId} {pf : Nat} {cwd name : ByteArray} {args : List ByteArray} {ia : Option Addr} {il ic : Nat} {F : Nat → Prop} {st : Int} {o l : List UInt8} {Q : World → World → Prop} (oa : Option Addr) (c : Nat)
    (hent : ∀ args w, (callFunc K args).run Tryz.prog w = .ok (.enter K args) w) (hfind : find name allTab = some (.func (.func K) #[] #[])) (hE : Env w) (hs : Strs w oa c args) (hlen : args.length ≤ 1000) (hF : ∀ k, F k → 9 ≤ k ∧ k < w.heap.size) (ho : o.length ≤ 1099511627776) (hl : l.length ≤ 1099511627776)
    (hdo : Does K w (.pointer (some ⟨pf, 0, none⟩)) cwd name args (.slice ia il ic) F st o l Q) :
    Calls Tryz.prog 10 #[.pointer (some ⟨pf, 0, none⟩), .string cwd, .string name, .slice oa args.length c, .slice ia il ic] w fun e w' => ∃ oo oc lo lc w1 w2, e = .returned (.agg #[.int .i64 st, .slice oo (min o.length 65536) oc, .slice lo l.length lc]) ∧
      BytesAt w' oo (o.take 65536) ∧ BytesAt w' lo l ∧ Fresh w w1 ∧ Q w1 w2 ∧ Keeps (fun k => ∃ cs T fz, w2.heap[k]? = some (.cells cs T fz) ∧ (T = 65 ∨ T = 27)) w2 w' ∧ Keeps F w w' :=
  run_calls_read oa c hent hfind hE hs.read hlen hF ho hl hdo
end Go.Proofs.YtbhmapcjcnceiaaGreatDoor
