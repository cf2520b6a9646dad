/- The file system in memory: put. -/
import Derived.Test.YtbhmapcjcnceiaaGreatDoorF6
namespace Go.Proofs.YtbhmapcjcnceiaaGreatDoor
open Go Go.RowKit

section
variable {P : Program} {ops : Array Oper} {o : Oper} {a : Act} {w : World} {Q : Exit → Act → World → Prop}
theorem st_update_str {K0 : Act → World → Prop} {E0 : Prop} (hg : o.guard = none) (m x v : Operand) (T : TypeId) (hop : o.op = Op.mapUpdate T m x v ∨ o.op = Op.insert T m x v) (K E : TypeId) (hT : P.underlying T = some (.map K E)) (hK : P.underlying K = some .string)
    (B : Nat) (ks : List (ByteArray × Value)) (hm : a.eval m = .map (some B)) (k : ByteArray) (hx : a.eval x = .string k) (u : Value) (hv : a.eval v = u) (h : MapAt w B ks)
    (hK' : ∀ w', MapAt w' B (upd k u ks) → Keeps (fun j => j = B) w w' → K0 (a.put o.dst undef) w') : if Region.wanted o (yielded ops a.tmps) = true then Oper.wp P o a w K0 Q else E0 := by
  rw [if_pos (by simp [Region.wanted, hg])]
  obtain ⟨w', hrun, r1, r2⟩ := run_update_str (P := P) hT hK h k u
  unfold Oper.wp
  rcases hop with hop | hop <;>
  · simp [execOp, hop, hm, hx, hv, hrun, Result.andThen]
    exact hK' w' r1 r2
end
theorem put_rows {t : Tree} {p : ByteArray} {n : Cn} {q : ByteArray × Cn → Prop} (h : ∀ x ∈ t, q x) (hn : ∀ k, q (k, n)) : ∀ x ∈ put p n t, q x := by
  induction t with
  | nil => intro x hx; simp [put] at hx; rw [hx]; exact hn p
  | cons y r ih =>
    intro x hx
    simp only [put] at hx
    split at hx
    · rcases List.mem_cons.1 hx with rfl | hx
      · exact hn p
      · exact h x (List.mem_cons_of_mem _ hx)
    · rcases List.mem_cons.1 hx with rfl | hx
      · exact h _ List.mem_cons_self
      · exact ih (fun z hz => h z (List.mem_cons_of_mem _ hz)) x hx

theorem FsAt.keepsP {w w' : World} {P M : Nat} {nodes bytes used clock n' b' u' c' : Int} {t : Tree} (h : FsAt w P M nodes bytes used clock t) (hk : Keeps (fun k => k = P) w w')
    (hb : w'.heap[P]? = some (.cells #[.map (some M), .int .i64 n', .int .i64 b', .int .i64 u', .int .i64 c'] 69 (0, 0))) : FsAt w' P M n' b' u' c' t :=
  ⟨hb, h.map.keeps hk (fun e => h.map.ne h.blk e.symm), fun p hp => ⟨(h.rows p hp).1.keeps hk (fun ad had e => (h.rows p hp).1.ne h.blk (by decide) ad had e), (h.rows p hp).2⟩⟩
theorem FsAt.setClock {w : World} {P M : Nat} {nodes bytes used clock : Int} {t : Tree} (h : FsAt w P M nodes bytes used clock t) (x : Int) : FsAt (w.setCell ⟨P, 4, none⟩ (.int .i64 x)) P M nodes bytes used x t :=
  h.keepsP (Keeps.set w P 4 _) (block_setCell h.blk 4 _)
theorem FsAt.setUsed {w : World} {P M : Nat} {nodes bytes used clock : Int} {t : Tree} (h : FsAt w P M nodes bytes used clock t) (x : Int) : FsAt (w.setCell ⟨P, 3, none⟩ (.int .i64 x)) P M nodes bytes x clock t :=
  h.keepsP (Keeps.set w P 3 _) (block_setCell h.blk 3 _)
/-- A node is put into the map. -/
theorem FsAt.putNode {w w' : World} {P M : Nat} {nodes bytes used clock : Int} {t : Tree} (h : FsAt w P M nodes bytes used clock t) (p : ByteArray) (n : Cn) (hk : Keeps (fun k => k = M) w w')
    (hm : MapAt w' M (upd p n.val (t.map fun p => (p.1, p.2.val)))) (hd : BytesAt w n.oa n.data) (hc : n.oa = none → n.c = 0) : FsAt w' P M nodes bytes used clock (put p n t) := by
  have hMc : ∀ ad : Addr, ∀ l, BytesAt w (some ad) l → ad.block ≠ M := fun ad l hr => by
    obtain ⟨_, cur, fz, hb, _⟩ := hr
    exact h.map.ne hb
  refine ⟨hk.at h.blk (fun e => h.map.ne h.blk e), by rw [← upd_put]; exact hm, put_rows (fun x hx => ⟨?_, (h.rows x hx).2⟩) (fun k => ⟨?_, hc⟩)⟩
  · exact (h.rows x hx).1.keeps hk (fun ad had e => hMc ad _ (had ▸ (h.rows x hx).1) e)
  · exact hd.keeps hk (fun ad had e => hMc ad _ (had ▸ hd) e)
set_option maxRecDepth 10000 in
set_option maxHeartbeats 800000 in
theorem put_calls {w : World} {P M : Nat} {nodes bytes used clock : Int} {t : Tree} (h : FsAt w P M nodes bytes used clock t) (p : ByteArray) (d : Bool) (oa : Option Addr) (c : Nat) (data : List UInt8) (x : Int)
    (hd : BytesAt w oa data) (hc0 : oa = none → c = 0) (hck : 0 ≤ clock ∧ clock ≤ 1099511627776) :
    Calls Tryz.prog 29 #[.pointer (some ⟨P, 0, none⟩), .string p, .agg #[.bool d, .slice oa data.length c, .int .i64 x]] w fun e w' => e = .returned (.tuple #[]) ∧
      FsAt w' P M nodes bytes used (clock + 1) (put p ⟨d, oa, c, data, clock + 1⟩ t) ∧ Keeps (fun k => k = P ∨ k = M) w w' := by
  have k0 := cell_of_block h.blk 0
  have k4 := cell_of_block h.blk 4
  have f4 := frozen_of_block h.blk 4
  simp at k0 k4
  have H := Lib.hid h
  have Hd := Lib.hid hd
  have Hc0 := Lib.hid hc0
  have hPl := lt_of_block h.blk
  clear h hd hc0
  go_enter Tryz.func29, Tryz.ntmps29
  go_wp2_with fail
  have h1 := (H.out.setClock (clock + 1)).fresh (((Keeps.refl _ (w.setCell ⟨P, 4, none⟩ (.int .i64 (clock + 1)))).alloc (.cells #[.bool d, .slice oa data.length c, .int .i64 (clock + 1)] 74)).drew)
  have hK : Keeps (fun k => k = P ∨ k = M) w ((w.setCell ⟨P, 4, none⟩ (.int .i64 (clock + 1))).alloc (.cells #[.bool d, .slice oa data.length c, .int .i64 (clock + 1)] 74)).drew := (((Keeps.refl _ w).setCell (p := ⟨P, 4, none⟩) (fun _ => Or.inl rfl) _).alloc _).drew
  have hrow : BytesAt ((w.setCell ⟨P, 4, none⟩ (.int .i64 (clock + 1))).alloc (.cells #[.bool d, .slice oa data.length c, .int .i64 (clock + 1)] 74)).drew oa data := Hd.out.keeps (((Keeps.refl (fun k => k = P) w).setCell (p := ⟨P, 4, none⟩) (fun _ => rfl) _).alloc _).drew (fun ad had e => Hd.out.ne H.out.blk (by decide) ad had e)
  have hn0 : ((w.setCell ⟨P, 4, none⟩ (.int .i64 (clock + 1))).alloc (.cells #[.bool d, .slice oa data.length c, .int .i64 (clock + 1)] 74)).drew.heap[w.heap.size]? = some (.cells #[.bool d, .slice oa data.length c, .int .i64 (clock + 1)] 74 (0, 0)) := by
    have e : (w.setCell ⟨P, 4, none⟩ (.int .i64 (clock + 1))).heap.size = w.heap.size := by simp [World.setCell]
    rw [← e]
    exact heap_alloc_new _ _
  obtain ⟨W, hW⟩ : ∃ W, W = ((w.setCell ⟨P, 4, none⟩ (.int .i64 (clock + 1))).alloc (.cells #[.bool d, .slice oa data.length c, .int .i64 (clock + 1)] 74)).drew := ⟨_, rfl⟩
  refine wp_region_ord [0, 1, 2, 3, 4, 5, 6] [6] [6] (fun w => w = W) (by kernel_rfl) (by kernel_rfl) hW.symm ?_
  rw [← hW] at h1 hK hrow hn0 ⊢
  clear hW k0 k4 f4
  have m0 := cell_of_block h1.blk 0
  have n0 := cell_of_block hn0 0
  have n1 := cell_of_block hn0 1
  have n2 := cell_of_block hn0 2
  simp at m0 n0 n1 n2
  have H1 := Lib.hid h1
  have HK := Lib.hid hK
  have HRow := Lib.hid hrow
  clear h1 hK hrow hn0
  repeat (refine' wpOrd_take (v := _) rfl rfl rfl (fun _ _ _ h => h) ?_ ?_; rotate_left; (· intro w' hS; rw [hS]; go_simp; rfl); (try simp only [Act.put, List.setIfInBounds_toArray, List.set_cons_zero, List.set_cons_succ]))
  refine wpOrd_eff rfl rfl (fun K hK => ?_)
  refine st_update_str rfl _ _ _ _ (Or.inl rfl) 9 74 Tryz.underlying67 Tryz.underlying9 M (t.map fun p => (p.1, p.2.val)) rfl p rfl (.agg #[.bool d, .slice oa data.length c, .int .i64 (clock + 1)]) rfl H1.out.map ?_
  intro w2 hm2 hk2
  have HF := Lib.hid (H1.out.putNode p ⟨d, oa, c, data, clock + 1⟩ hk2 hm2 HRow.out Hc0.out)
  have HK2 := Lib.hid (HK.out.then hk2 (fun i hi e => Or.inr e))
  refine hK _ _ (fun h => by cases h) ?_
  clear hK K
  (try simp only [Act.put, List.setIfInBounds_toArray, List.set_cons_zero, List.set_cons_succ])
  refine wpOrd_nil ?_
  go_wp2_with fail
  go_end0
  exact ⟨rfl, HF.out, HK2.out⟩
end Go.Proofs.YtbhmapcjcnceiaaGreatDoor
