/- rm -r and rm -rf of one path. -/
import Derived.Test.YtbhmapcjcnceiaaGreatDoorN2
namespace Go.Proofs.YtbhmapcjcnceiaaGreatDoor
open Go Go.RowKit

set_option maxRecDepth 10000 in
set_option maxHeartbeats 1600000 in
theorem rm_r {w : World} (hE : Env w) {b base P M : Nat} {nodes bytes used clock : Int} {t : Tree} {cwd name : ByteArray} {oa : Option Addr} {c : Nat} {inn : Value} {st : Int} {out log : Value} {o l : List UInt8} (x : ByteArray)
    (hu : Ut w b base (.pointer (some ⟨P, 0, none⟩)) cwd name (.slice oa 2 c) inn st out log o l) (hs : Strs w oa c [⟨#[45, 114]⟩, x]) (hf : FsAt w P M nodes bytes used clock t) (hB : FsBelow base P M t)
    (hc : cwd.size < 4294967281) (hx : x.size < 4294967281) (hok : (absOf cwd x).2 = 0) (T : Tree × Int × Int) (hBT : FsBelow base P M T.1)
    (er : Nat) (her1 : er < 100) (hl2 : l.length + name.size + x.size ≤ 1099511627776)
    (hdo : ∀ (args' : Value) W, Env W → Ut W b base (.pointer (some ⟨P, 0, none⟩)) cwd name args' inn st out log o l → FsAt W P M nodes bytes used clock t → Calls Tryz.prog 118 #[.pointer (some ⟨b, 0, none⟩), .string (absOf cwd x).1, .bool true] W fun e w' => e = .returned (.int .i64 (er : Nat)) ∧ Keeps (fun k => k = P ∨ k = M) W w' ∧ FsAt w' P M nodes bytes T.2.1 T.2.2 T.1) :
    Calls Tryz.prog 70 #[.pointer (some ⟨b, 0, none⟩)] w fun e w' => e = .returned (.tuple #[]) ∧ ∃ (args' log' : Value),
      Ut w' b base (.pointer (some ⟨P, 0, none⟩)) cwd name args' inn (catSt st (rmSaid false er)) out log' o (catLog l name x (rmSaid false er)) ∧ FsAt w' P M nodes bytes T.2.1 T.2.2 T.1 ∧
      Keeps (fun k => (k = P ∨ k = M) ∨ utF b out log k) w w' ∧ Old w (utF b out log') (utF b out log) := by
  have hmf : ∀ (fn : Fn) (first cap : Array Value) (w : World), (Instr.makeFunc fn first cap).run Tryz.prog w = .ok (.func fn first cap) w := fun _ _ _ _ => rfl
  have hc2 := hs.1
  simp only [List.length_cons, List.length_nil] at hc2
  have hc1 : ¬ c = 1 := by omega
  obtain ⟨g, off, rfl, hcell⟩ := strs_some' hs
  have g0 := hcell 0 _ rfl
  have g1 := hcell 1 x rfl
  rw [Nat.add_zero] at g0
  have c0 := cell_of_block hu.blk 0
  have c3 := cell_of_block hu.blk 3
  simp at c0 c3
  have hbl := lt_of_block hu.blk
  have hgl : g < w.heap.size := World.block_lt_of_cell? w _ g0
  have hgb : g ≠ b := hs.2.2.2.ne hu.blk (by decide) _ rfl
  have HU := Lib.hid hu
  have HFs := Lib.hid hf
  have HE := Lib.hid hE
  have HS := Lib.hid hs
  obtain ⟨w0, hw0⟩ : ∃ w0, w0 = ((w.alloc (.cells #[.pointer (some ⟨b, 0, none⟩)] 63)).alloc (.cells #[.bool false] 4)).alloc (.cells #[.bool false] 4) := ⟨_, rfl⟩
  have hF0 : Fresh w w0 := by rw [hw0]; exact (((Keeps.refl _ w).alloc _).alloc _).alloc _
  have hbx : w0.heap[w.heap.size]? = some (.cells #[.pointer (some ⟨b, 0, none⟩)] 63 (0, 0)) := by
    rw [hw0]; exact block_alloc (block_alloc (heap_alloc_new w _))
  have hdx : w0.heap[w.heap.size + 1]? = some (.cells #[.bool false] 4 (0, 0)) := by
    have h1 : (w.alloc (.cells #[.pointer (some ⟨b, 0, none⟩)] 63)).heap.size = w.heap.size + 1 := by simp
    rw [hw0, ← h1]; exact block_alloc (heap_alloc_new _ _)
  have hqx : w0.heap[w.heap.size + 1 + 1]? = some (.cells #[.bool false] 4 (0, 0)) := by
    have h1 : ((w.alloc (.cells #[.pointer (some ⟨b, 0, none⟩)] 63)).alloc (.cells #[.bool false] 4)).heap.size = w.heap.size + 1 + 1 := by simp
    rw [hw0, ← h1]; exact heap_alloc_new _ _
  have k0 := cell_of_block hbx 0
  have k1 := cell_of_block hdx 0
  have k2 := cell_of_block hqx 0
  simp at k0 k1 k2
  have k3 := hF0.cell c3 (fun x => x)
  have k4 := hF0.cell g0 (fun x => x)
  have HF0 := Lib.hid hF0
  have HBx := Lib.hid hbx
  have HDx := Lib.hid hdx
  have HQx := Lib.hid hqx
  subst hw0
  clear hu hf hE hs hcell hF0 hbx hdx hqx
  go_enter Tryz.func70, Tryz.ntmps70
  go_wp2_with fail
  obtain ⟨W1, hW1⟩ : ∃ W1, W1 = (((w.alloc (.cells #[.pointer (some ⟨b, 0, none⟩)] 63)).alloc (.cells #[.bool true] 4)).alloc (.cells #[.bool false] 4)) := ⟨_, rfl⟩
  have hF1 : Fresh w W1 := by rw [hW1]; exact (((Keeps.refl _ w).alloc _).alloc _).alloc _
  have hb1 : W1.heap[w.heap.size]? = some (.cells #[.pointer (some ⟨b, 0, none⟩)] 63 (0, 0)) := by
    rw [hW1]; exact block_alloc (block_alloc (heap_alloc_new w _))
  have hd1 : W1.heap[w.heap.size + 1]? = some (.cells #[.bool true] 4 (0, 0)) := by
    have h1 : (w.alloc (.cells #[.pointer (some ⟨b, 0, none⟩)] 63)).heap.size = w.heap.size + 1 := by simp
    rw [hW1, ← h1]; exact block_alloc (heap_alloc_new _ _)
  have hq1 : W1.heap[w.heap.size + 1 + 1]? = some (.cells #[.bool false] 4 (0, 0)) := by
    have h1 : ((w.alloc (.cells #[.pointer (some ⟨b, 0, none⟩)] 63)).alloc (.cells #[.bool true] 4)).heap.size = w.heap.size + 1 + 1 := by simp
    rw [hW1, ← h1]; exact heap_alloc_new _ _
  rw [← hW1]
  clear hW1 k0 k1 k2 k3 k4 HF0 HBx HDx HQx
  obtain ⟨W, hW⟩ : ∃ W, W = W1.drew := ⟨_, rfl⟩
  have hFW : Fresh w W := by rw [hW]; exact hF1.drew
  have hbW : W.heap[w.heap.size]? = some (.cells #[.pointer (some ⟨b, 0, none⟩)] 63 (0, 0)) := by rw [hW]; exact hb1
  have hdW : W.heap[w.heap.size + 1]? = some (.cells #[.bool true] 4 (0, 0)) := by rw [hW]; exact hd1
  have hqW : W.heap[w.heap.size + 1 + 1]? = some (.cells #[.bool false] 4 (0, 0)) := by rw [hW]; exact hq1
  have y0 := cell_of_block hbW 0
  simp at y0
  have y3 := hFW.cell c3 (fun x => x)
  have hUW := HU.out.fresh hFW
  have f3 := frozen_of_block hUW.blk 3
  refine wp_region_ord [0, 1, 2, 3, 4, 5, 6, 7, 8] [6, 7, 8] [8] (fun w' => w'.cell? ⟨w.heap.size, 0, none⟩ = some (.pointer (some ⟨b, 0, none⟩)) ∧ w'.cell? ⟨b, 3, none⟩ = some (.slice (some ⟨g, off, none⟩) 2 c)) (by kernel_rfl) (by kernel_rfl) (by rw [← hW]; exact ⟨y0, y3⟩) ?_
  rw [← hW]
  clear hW
  repeat (refine' wpOrd_take (v := _) rfl rfl rfl (fun _ _ _ h => h) ?_ ?_; rotate_left; (· intro w' hS; (try dsimp only at hS); go_simp; rfl); (try simp only [Act.put, List.setIfInBounds_toArray, List.set_cons_zero, List.set_cons_succ]))
  (refine wpOrd_eff rfl rfl (fun K hK => ?_); go_simp; refine hK _ _ (fun _ => ⟨y0, y3⟩) ?_; clear hK K; (try simp only [Act.put, List.setIfInBounds_toArray, List.set_cons_zero, List.set_cons_succ]))
  (refine wpOrd_eff rfl rfl (fun K hK => ?_); go_simp; refine hK _ _ (fun _ => ⟨y0, y3⟩) ?_; clear hK K; (try simp only [Act.put, List.setIfInBounds_toArray, List.set_cons_zero, List.set_cons_succ]))
  (refine wpOrd_eff rfl rfl (fun K hK => ?_); go_simp; refine hK _ _ (fun h => absurd h (by decide)) ?_; clear hK K; (try simp only [Act.put, List.setIfInBounds_toArray, List.set_cons_zero, List.set_cons_succ]))
  refine wpOrd_nil ?_
  obtain ⟨W2, hW2⟩ : ∃ W2, W2 = W.setCell ⟨b, 3, none⟩ (.slice (some ⟨g, off + 1, none⟩) 1 (c - 1)) := ⟨_, rfl⟩
  have hK2 : Keeps (fun k => k = b) W W2 := by
    rw [hW2]
    exact (Keeps.set W b 3 _).mono (fun _ _ h => h)
  have hU2 : Ut W2 b base (.pointer (some ⟨P, 0, none⟩)) cwd name (.slice (some ⟨g, off + 1, none⟩) 1 (c - 1)) inn st out log o l := by
    rw [hW2]
    exact hUW.setArgs (.slice (some ⟨g, off + 1, none⟩) 1 (c - 1))
  have hF2 : FsAt W2 P M nodes bytes used clock t := by
    have hPl := lt_of_block HFs.out.blk
    have hMl := HFs.out.map.lt
    have hbb := HU.out.ge.2
    refine (HFs.out.fresh hFW).keeps hK2 ?_ ?_ (fun y hy ad had => ?_)
    · have := hB.1; omega
    · have := hB.2.1; omega
    · have h1 := hB.2.2 y hy ad had
      omega
  have hE2 : Env W2 := (HE.out.fresh hFW).keeps hK2 (fun k h => by
    have hbb := HU.out.ge
    have h9' := HE.out.len
    omega)
  have hKw : Keeps (fun k => (k = P ∨ k = M) ∨ utF b out log k) w W2 := (hFW.mono (fun _ _ h => h.elim)).trans (hK2.mono (fun _ _ h => Or.inr (Or.inl h)))
  have hb2 := hK2.at hbW (show ¬ w.heap.size = b by omega)
  have hd2 := hK2.at hdW (show ¬ w.heap.size + 1 = b by omega)
  have hq2 := hK2.at hqW (show ¬ w.heap.size + 1 + 1 = b by omega)
  have hg2 := hK2.cell (hFW.cell g1 (fun x => x)) hgb
  have h3 := cell_of_block hU2.blk 3
  have h0 := cell_of_block hb2 0
  simp at h3 h0
  rw [← hW2]
  have HU2 := Lib.hid hU2
  have HF2 := Lib.hid hF2
  have HE2 := Lib.hid hE2
  have HKw := Lib.hid hKw
  have HB2 := Lib.hid hb2
  have HD2 := Lib.hid hd2
  have HQ2 := Lib.hid hq2
  clear hW2 hK2 hU2 hF2 hE2 hKw hb2 hd2 hq2 hb1 hd1 hq1 hbW hdW hqW y0 y3 f3 hUW g0 g1 c0 c3 hF1
  go_wp2_with fail
  obtain ⟨V, hV⟩ : ∃ V, V = W2.drew := ⟨_, rfl⟩
  have hFV : Fresh W2 V := by rw [hV]; exact (Keeps.refl _ W2).drew
  have u0 := hFV.cell h0 (fun x => x)
  have u3 := hFV.cell h3 (fun x => x)
  have ug := hFV.cell hg2 (fun x => x)
  refine wp_region_ord [0, 1, 2, 3, 4, 5, 6] [6] [] (fun w' => w'.cell? ⟨w.heap.size, 0, none⟩ = some (.pointer (some ⟨b, 0, none⟩)) ∧ w'.cell? ⟨b, 3, none⟩ = some (.slice (some ⟨g, off + 1, none⟩) 1 (c - 1))) (by kernel_rfl) (by kernel_rfl) (by rw [← hV]; exact ⟨u0, u3⟩) ?_
  rw [← hV]
  clear hV
  repeat (refine' wpOrd_take (v := _) rfl rfl rfl (fun _ _ _ h => h) ?_ ?_; rotate_left; (· intro w' hS; (try dsimp only at hS); go_simp; rfl); (try simp only [Act.put, List.setIfInBounds_toArray, List.set_cons_zero, List.set_cons_succ]))
  refine wpOrd_eff rfl rfl (fun K hK => ?_)
  go_simp
  have hq := absOf_size cwd x
  have HUV := Lib.hid (HU2.out.fresh hFV)
  have HFV := Lib.hid (HF2.out.fresh hFV)
  have HEV := Lib.hid (HE2.out.fresh hFV)
  have he := each_rm_c1 HEV.out x HUV.out ug hc hx hok (c := c - 1) (c0 := .pointer (some ⟨w.heap.size, 0, none⟩)) (c1 := .pointer (some ⟨w.heap.size + 1, 0, none⟩)) (c2 := .pointer (some ⟨w.heap.size + 1 + 1, 0, none⟩))
    (S := fun w2 => ∃ log' : Value, Ut w2 b base (.pointer (some ⟨P, 0, none⟩)) cwd name (.slice (some ⟨g, off + 1, none⟩) 1 (c - 1)) inn (catSt st (rmSaid false er)) out log' o (catLog l name x (rmSaid false er)) ∧ FsAt w2 P M nodes bytes T.2.1 T.2.2 T.1 ∧
      Keeps (fun k => (k = P ∨ k = M) ∨ utF b out log k) V w2 ∧ Old V (utF b out log') (utF b out log))
    (fun w' hFw => (rm1_calls x (absOf cwd x).1 true false T er her1 (HUV.out.fresh hFw) (HFV.out.fresh hFw) hBT (hFw.at (hFV.at HB2.out (fun x => x)) (fun x => x)) (hFw.at (hFV.at HD2.out (fun x => x)) (fun x => x)) (hFw.at (hFV.at HQ2.out (fun x => x)) (fun x => x)) hl2
      (fun W' hFW' => hdo _ W' (HE2.out.fresh ((hFV.trans hFw).trans hFW')) (HU2.out.fresh ((hFV.trans hFw).trans hFW')) (HF2.out.fresh ((hFV.trans hFw).trans hFW')))).mono fun e w2 ⟨h1, log', h2, h3, h4, h5⟩ =>
        ⟨h1, log', h2, h3, (hFw.mono (fun _ _ h => h.elim)).trans h4, (Old.refl V _).trans hFw.size h5⟩)
  refine he.mono ?_
  rintro _ w2 ⟨rfl, log2, hu2, hf2, hk2, ho2⟩
  have nb : ¬ ((w.heap.size = P ∨ w.heap.size = M) ∨ utF b out log w.heap.size) := by
    rintro ((e | e) | e)
    · have := lt_of_block HFs.out.blk; omega
    · have := HFs.out.map.lt; omega
    · exact HU2.out.apart_of HB2.out (by decide) (by decide) e
  have v0 := hk2.cell u0 nb
  have v3 := cell_of_block hu2.blk 3
  simp at v3
  refine hK _ _ (fun _ => ⟨v0, v3⟩) ?_
  clear hK K u0 u3 v0 v3 nb he
  (try simp only [Act.put, List.setIfInBounds_toArray, List.set_cons_zero, List.set_cons_succ])
  refine wpOrd_nil ?_
  go_wp2_with fail
  go_end0
  have hKV := HKw.out.then hFV (fun _ _ h => h.elim)
  exact ⟨rfl, _, log2, hu2, hf2, hKV.trans hk2, (Old.refl w _).trans hKV.size ho2⟩
end Go.Proofs.YtbhmapcjcnceiaaGreatDoor

namespace Go.Proofs.YtbhmapcjcnceiaaGreatDoor
open Go Go.RowKit

set_option maxRecDepth 10000 in
set_option maxHeartbeats 1600000 in
theorem rm_rf {w : World} (hE : Env w) {b base P M : Nat} {nodes bytes used clock : Int} {t : Tree} {cwd name : ByteArray} {oa : Option Addr} {c : Nat} {inn : Value} {st : Int} {out log : Value} {o l : List UInt8} (x : ByteArray)
    (hu : Ut w b base (.pointer (some ⟨P, 0, none⟩)) cwd name (.slice oa 2 c) inn st out log o l) (hs : Strs w oa c [⟨#[45, 114, 102]⟩, x]) (hf : FsAt w P M nodes bytes used clock t) (hB : FsBelow base P M t)
    (hc : cwd.size < 4294967281) (hx : x.size < 4294967281) (hok : (absOf cwd x).2 = 0) (T : Tree × Int × Int) (hBT : FsBelow base P M T.1)
    (er : Nat) (her1 : er < 100) (hl2 : l.length + name.size + x.size ≤ 1099511627776)
    (hdo : ∀ (args' : Value) W, Env W → Ut W b base (.pointer (some ⟨P, 0, none⟩)) cwd name args' inn st out log o l → FsAt W P M nodes bytes used clock t → Calls Tryz.prog 118 #[.pointer (some ⟨b, 0, none⟩), .string (absOf cwd x).1, .bool true] W fun e w' => e = .returned (.int .i64 (er : Nat)) ∧ Keeps (fun k => k = P ∨ k = M) W w' ∧ FsAt w' P M nodes bytes T.2.1 T.2.2 T.1) :
    Calls Tryz.prog 70 #[.pointer (some ⟨b, 0, none⟩)] w fun e w' => e = .returned (.tuple #[]) ∧ ∃ (args' log' : Value),
      Ut w' b base (.pointer (some ⟨P, 0, none⟩)) cwd name args' inn (catSt st (rmSaid true er)) out log' o (catLog l name x (rmSaid true er)) ∧ FsAt w' P M nodes bytes T.2.1 T.2.2 T.1 ∧
      Keeps (fun k => (k = P ∨ k = M) ∨ utF b out log k) w w' ∧ Old w (utF b out log') (utF b out log) := by
  have hmf : ∀ (fn : Fn) (first cap : Array Value) (w : World), (Instr.makeFunc fn first cap).run Tryz.prog w = .ok (.func fn first cap) w := fun _ _ _ _ => rfl
  have hc2 := hs.1
  simp only [List.length_cons, List.length_nil] at hc2
  have hc1 : ¬ c = 1 := by omega
  obtain ⟨g, off, rfl, hcell⟩ := strs_some' hs
  have g0 := hcell 0 _ rfl
  have g1 := hcell 1 x rfl
  rw [Nat.add_zero] at g0
  have c0 := cell_of_block hu.blk 0
  have c3 := cell_of_block hu.blk 3
  simp at c0 c3
  have hbl := lt_of_block hu.blk
  have hgl : g < w.heap.size := World.block_lt_of_cell? w _ g0
  have hgb : g ≠ b := hs.2.2.2.ne hu.blk (by decide) _ rfl
  have HU := Lib.hid hu
  have HFs := Lib.hid hf
  have HE := Lib.hid hE
  have HS := Lib.hid hs
  obtain ⟨w0, hw0⟩ : ∃ w0, w0 = ((w.alloc (.cells #[.pointer (some ⟨b, 0, none⟩)] 63)).alloc (.cells #[.bool false] 4)).alloc (.cells #[.bool false] 4) := ⟨_, rfl⟩
  have hF0 : Fresh w w0 := by rw [hw0]; exact (((Keeps.refl _ w).alloc _).alloc _).alloc _
  have hbx : w0.heap[w.heap.size]? = some (.cells #[.pointer (some ⟨b, 0, none⟩)] 63 (0, 0)) := by
    rw [hw0]; exact block_alloc (block_alloc (heap_alloc_new w _))
  have hdx : w0.heap[w.heap.size + 1]? = some (.cells #[.bool false] 4 (0, 0)) := by
    have h1 : (w.alloc (.cells #[.pointer (some ⟨b, 0, none⟩)] 63)).heap.size = w.heap.size + 1 := by simp
    rw [hw0, ← h1]; exact block_alloc (heap_alloc_new _ _)
  have hqx : w0.heap[w.heap.size + 1 + 1]? = some (.cells #[.bool false] 4 (0, 0)) := by
    have h1 : ((w.alloc (.cells #[.pointer (some ⟨b, 0, none⟩)] 63)).alloc (.cells #[.bool false] 4)).heap.size = w.heap.size + 1 + 1 := by simp
    rw [hw0, ← h1]; exact heap_alloc_new _ _
  have k0 := cell_of_block hbx 0
  have k1 := cell_of_block hdx 0
  have k2 := cell_of_block hqx 0
  simp at k0 k1 k2
  have k3 := hF0.cell c3 (fun x => x)
  have k4 := hF0.cell g0 (fun x => x)
  have HF0 := Lib.hid hF0
  have HBx := Lib.hid hbx
  have HDx := Lib.hid hdx
  have HQx := Lib.hid hqx
  subst hw0
  clear hu hf hE hs hcell hF0 hbx hdx hqx
  go_enter Tryz.func70, Tryz.ntmps70
  go_wp2_with fail
  obtain ⟨W1, hW1⟩ : ∃ W1, W1 = (((w.alloc (.cells #[.pointer (some ⟨b, 0, none⟩)] 63)).alloc (.cells #[.bool true] 4)).alloc (.cells #[.bool true] 4)) := ⟨_, rfl⟩
  have hF1 : Fresh w W1 := by rw [hW1]; exact (((Keeps.refl _ w).alloc _).alloc _).alloc _
  have hb1 : W1.heap[w.heap.size]? = some (.cells #[.pointer (some ⟨b, 0, none⟩)] 63 (0, 0)) := by
    rw [hW1]; exact block_alloc (block_alloc (heap_alloc_new w _))
  have hd1 : W1.heap[w.heap.size + 1]? = some (.cells #[.bool true] 4 (0, 0)) := by
    have h1 : (w.alloc (.cells #[.pointer (some ⟨b, 0, none⟩)] 63)).heap.size = w.heap.size + 1 := by simp
    rw [hW1, ← h1]; exact block_alloc (heap_alloc_new _ _)
  have hq1 : W1.heap[w.heap.size + 1 + 1]? = some (.cells #[.bool true] 4 (0, 0)) := by
    have h1 : ((w.alloc (.cells #[.pointer (some ⟨b, 0, none⟩)] 63)).alloc (.cells #[.bool true] 4)).heap.size = w.heap.size + 1 + 1 := by simp
    rw [hW1, ← h1]; exact heap_alloc_new _ _
  rw [← hW1]
  clear hW1 k0 k1 k2 k3 k4 HF0 HBx HDx HQx
  obtain ⟨W, hW⟩ : ∃ W, W = W1.drew := ⟨_, rfl⟩
  have hFW : Fresh w W := by rw [hW]; exact hF1.drew
  have hbW : W.heap[w.heap.size]? = some (.cells #[.pointer (some ⟨b, 0, none⟩)] 63 (0, 0)) := by rw [hW]; exact hb1
  have hdW : W.heap[w.heap.size + 1]? = some (.cells #[.bool true] 4 (0, 0)) := by rw [hW]; exact hd1
  have hqW : W.heap[w.heap.size + 1 + 1]? = some (.cells #[.bool true] 4 (0, 0)) := by rw [hW]; exact hq1
  have y0 := cell_of_block hbW 0
  simp at y0
  have y3 := hFW.cell c3 (fun x => x)
  have hUW := HU.out.fresh hFW
  have f3 := frozen_of_block hUW.blk 3
  refine wp_region_ord [0, 1, 2, 3, 4, 5, 6, 7, 8] [6, 7, 8] [8] (fun w' => w'.cell? ⟨w.heap.size, 0, none⟩ = some (.pointer (some ⟨b, 0, none⟩)) ∧ w'.cell? ⟨b, 3, none⟩ = some (.slice (some ⟨g, off, none⟩) 2 c)) (by kernel_rfl) (by kernel_rfl) (by rw [← hW]; exact ⟨y0, y3⟩) ?_
  rw [← hW]
  clear hW
  repeat (refine' wpOrd_take (v := _) rfl rfl rfl (fun _ _ _ h => h) ?_ ?_; rotate_left; (· intro w' hS; (try dsimp only at hS); go_simp; rfl); (try simp only [Act.put, List.setIfInBounds_toArray, List.set_cons_zero, List.set_cons_succ]))
  (refine wpOrd_eff rfl rfl (fun K hK => ?_); go_simp; refine hK _ _ (fun _ => ⟨y0, y3⟩) ?_; clear hK K; (try simp only [Act.put, List.setIfInBounds_toArray, List.set_cons_zero, List.set_cons_succ]))
  (refine wpOrd_eff rfl rfl (fun K hK => ?_); go_simp; refine hK _ _ (fun _ => ⟨y0, y3⟩) ?_; clear hK K; (try simp only [Act.put, List.setIfInBounds_toArray, List.set_cons_zero, List.set_cons_succ]))
  (refine wpOrd_eff rfl rfl (fun K hK => ?_); go_simp; refine hK _ _ (fun h => absurd h (by decide)) ?_; clear hK K; (try simp only [Act.put, List.setIfInBounds_toArray, List.set_cons_zero, List.set_cons_succ]))
  refine wpOrd_nil ?_
  obtain ⟨W2, hW2⟩ : ∃ W2, W2 = W.setCell ⟨b, 3, none⟩ (.slice (some ⟨g, off + 1, none⟩) 1 (c - 1)) := ⟨_, rfl⟩
  have hK2 : Keeps (fun k => k = b) W W2 := by
    rw [hW2]
    exact (Keeps.set W b 3 _).mono (fun _ _ h => h)
  have hU2 : Ut W2 b base (.pointer (some ⟨P, 0, none⟩)) cwd name (.slice (some ⟨g, off + 1, none⟩) 1 (c - 1)) inn st out log o l := by
    rw [hW2]
    exact hUW.setArgs (.slice (some ⟨g, off + 1, none⟩) 1 (c - 1))
  have hF2 : FsAt W2 P M nodes bytes used clock t := by
    have hPl := lt_of_block HFs.out.blk
    have hMl := HFs.out.map.lt
    have hbb := HU.out.ge.2
    refine (HFs.out.fresh hFW).keeps hK2 ?_ ?_ (fun y hy ad had => ?_)
    · have := hB.1; omega
    · have := hB.2.1; omega
    · have h1 := hB.2.2 y hy ad had
      omega
  have hE2 : Env W2 := (HE.out.fresh hFW).keeps hK2 (fun k h => by
    have hbb := HU.out.ge
    have h9' := HE.out.len
    omega)
  have hKw : Keeps (fun k => (k = P ∨ k = M) ∨ utF b out log k) w W2 := (hFW.mono (fun _ _ h => h.elim)).trans (hK2.mono (fun _ _ h => Or.inr (Or.inl h)))
  have hb2 := hK2.at hbW (show ¬ w.heap.size = b by omega)
  have hd2 := hK2.at hdW (show ¬ w.heap.size + 1 = b by omega)
  have hq2 := hK2.at hqW (show ¬ w.heap.size + 1 + 1 = b by omega)
  have hg2 := hK2.cell (hFW.cell g1 (fun x => x)) hgb
  have h3 := cell_of_block hU2.blk 3
  have h0 := cell_of_block hb2 0
  simp at h3 h0
  rw [← hW2]
  have HU2 := Lib.hid hU2
  have HF2 := Lib.hid hF2
  have HE2 := Lib.hid hE2
  have HKw := Lib.hid hKw
  have HB2 := Lib.hid hb2
  have HD2 := Lib.hid hd2
  have HQ2 := Lib.hid hq2
  clear hW2 hK2 hU2 hF2 hE2 hKw hb2 hd2 hq2 hb1 hd1 hq1 hbW hdW hqW y0 y3 f3 hUW g0 g1 c0 c3 hF1
  go_wp2_with fail
  obtain ⟨V, hV⟩ : ∃ V, V = W2.drew := ⟨_, rfl⟩
  have hFV : Fresh W2 V := by rw [hV]; exact (Keeps.refl _ W2).drew
  have u0 := hFV.cell h0 (fun x => x)
  have u3 := hFV.cell h3 (fun x => x)
  have ug := hFV.cell hg2 (fun x => x)
  refine wp_region_ord [0, 1, 2, 3, 4, 5, 6] [6] [] (fun w' => w'.cell? ⟨w.heap.size, 0, none⟩ = some (.pointer (some ⟨b, 0, none⟩)) ∧ w'.cell? ⟨b, 3, none⟩ = some (.slice (some ⟨g, off + 1, none⟩) 1 (c - 1))) (by kernel_rfl) (by kernel_rfl) (by rw [← hV]; exact ⟨u0, u3⟩) ?_
  rw [← hV]
  clear hV
  repeat (refine' wpOrd_take (v := _) rfl rfl rfl (fun _ _ _ h => h) ?_ ?_; rotate_left; (· intro w' hS; (try dsimp only at hS); go_simp; rfl); (try simp only [Act.put, List.setIfInBounds_toArray, List.set_cons_zero, List.set_cons_succ]))
  refine wpOrd_eff rfl rfl (fun K hK => ?_)
  go_simp
  have hq := absOf_size cwd x
  have HUV := Lib.hid (HU2.out.fresh hFV)
  have HFV := Lib.hid (HF2.out.fresh hFV)
  have HEV := Lib.hid (HE2.out.fresh hFV)
  have he := each_rm_c1 HEV.out x HUV.out ug hc hx hok (c := c - 1) (c0 := .pointer (some ⟨w.heap.size, 0, none⟩)) (c1 := .pointer (some ⟨w.heap.size + 1, 0, none⟩)) (c2 := .pointer (some ⟨w.heap.size + 1 + 1, 0, none⟩))
    (S := fun w2 => ∃ log' : Value, Ut w2 b base (.pointer (some ⟨P, 0, none⟩)) cwd name (.slice (some ⟨g, off + 1, none⟩) 1 (c - 1)) inn (catSt st (rmSaid true er)) out log' o (catLog l name x (rmSaid true er)) ∧ FsAt w2 P M nodes bytes T.2.1 T.2.2 T.1 ∧
      Keeps (fun k => (k = P ∨ k = M) ∨ utF b out log k) V w2 ∧ Old V (utF b out log') (utF b out log))
    (fun w' hFw => (rm1_calls x (absOf cwd x).1 true true T er her1 (HUV.out.fresh hFw) (HFV.out.fresh hFw) hBT (hFw.at (hFV.at HB2.out (fun x => x)) (fun x => x)) (hFw.at (hFV.at HD2.out (fun x => x)) (fun x => x)) (hFw.at (hFV.at HQ2.out (fun x => x)) (fun x => x)) hl2
      (fun W' hFW' => hdo _ W' (HE2.out.fresh ((hFV.trans hFw).trans hFW')) (HU2.out.fresh ((hFV.trans hFw).trans hFW')) (HF2.out.fresh ((hFV.trans hFw).trans hFW')))).mono fun e w2 ⟨h1, log', h2, h3, h4, h5⟩ =>
        ⟨h1, log', h2, h3, (hFw.mono (fun _ _ h => h.elim)).trans h4, (Old.refl V _).trans hFw.size h5⟩)
  refine he.mono ?_
  rintro _ w2 ⟨rfl, log2, hu2, hf2, hk2, ho2⟩
  have nb : ¬ ((w.heap.size = P ∨ w.heap.size = M) ∨ utF b out log w.heap.size) := by
    rintro ((e | e) | e)
    · have := lt_of_block HFs.out.blk; omega
    · have := HFs.out.map.lt; omega
    · exact HU2.out.apart_of HB2.out (by decide) (by decide) e
  have v0 := hk2.cell u0 nb
  have v3 := cell_of_block hu2.blk 3
  simp at v3
  refine hK _ _ (fun _ => ⟨v0, v3⟩) ?_
  clear hK K u0 u3 v0 v3 nb he
  (try simp only [Act.put, List.setIfInBounds_toArray, List.set_cons_zero, List.set_cons_succ])
  refine wpOrd_nil ?_
  go_wp2_with fail
  go_end0
  have hKV := HKw.out.then hFV (fun _ _ h => h.elim)
  exact ⟨rfl, _, log2, hu2, hf2, hKV.trans hk2, (Old.refl w _).trans hKV.size ho2⟩
end Go.Proofs.YtbhmapcjcnceiaaGreatDoor
