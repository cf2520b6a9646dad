/- rm of one path. -/
import Derived.Test.YtbhmapcjcnceiaaGreatDoorN1
import Derived.Test.YtbhmapcjcnceiaaGreatDoorM4
import Derived.Laws.EntriesVeiled
namespace Go.Proofs.YtbhmapcjcnceiaaGreatDoor
open Go Go.RowKit

set_option maxRecDepth 10000 in
set_option maxHeartbeats 1600000 in
theorem rm_plain {w : World} (hE : Env w) {b base P M : Nat} {nodes bytes used clock : Int} {t : Tree} {cwd name : ByteArray} {oa : Option Addr} {c : Nat} {inn : Value} {st : Int} {out log : Value} {o l : List UInt8} (x : ByteArray) (hx0 : x.data.toList.head? = some 47)
    (hu : Ut w b base (.pointer (some ⟨P, 0, none⟩)) cwd name (.slice oa 1 c) inn st out log o l) (hs : Strs w oa c [x]) (hf : FsAt w P M nodes bytes used clock t) (hB : FsBelow base P M t)
    (hc : cwd.size < 4294967281) (hx : x.size < 4294967281) (hok : (absOf cwd x).2 = 0) (T : Tree × Int × Int) (hBT : FsBelow base P M T.1)
    (er : Nat) (her1 : er < 100) (hl2 : l.length + name.size + x.size ≤ 1099511627776)
    (hdo : ∀ W, Fresh w W → Calls Tryz.prog 118 #[.pointer (some ⟨b, 0, none⟩), .string (absOf cwd x).1, .bool false] W fun e w' => e = .returned (.int .i64 (er : Nat)) ∧ Keeps (fun k => k = P ∨ k = M) W w' ∧ FsAt w' P M nodes bytes T.2.1 T.2.2 T.1) :
    Calls Tryz.prog 70 #[.pointer (some ⟨b, 0, none⟩)] w fun e w' => e = .returned (.tuple #[]) ∧ ∃ (args' log' : Value),
      Ut w' b base (.pointer (some ⟨P, 0, none⟩)) cwd name args' inn (catSt st (rmSaid false er)) out log' o (catLog l name x (rmSaid false er)) ∧ FsAt w' P M nodes bytes T.2.1 T.2.2 T.1 ∧
      Keeps (fun k => (k = P ∨ k = M) ∨ utF b out log k) w w' ∧ Old w (utF b out log') (utF b out log) := by
  have hmf : ∀ (fn : Fn) (first cap : Array Value) (w : World), (Instr.makeFunc fn first cap).run Tryz.prog w = .ok (.func fn first cap) w := fun _ _ _ _ => rfl
  obtain ⟨g, off, rfl, hcell⟩ := strs_some' hs
  have g0 := hcell 0 x rfl
  rw [Nat.add_zero] at g0
  have c0 := cell_of_block hu.blk 0
  have c3 := cell_of_block hu.blk 3
  simp at c0 c3
  have hbl := lt_of_block hu.blk
  have hgl : g < w.heap.size := World.block_lt_of_cell? w _ g0
  have HU := Lib.hid hu
  have HFs := Lib.hid hf
  have HE := Lib.hid hE
  have HS := Lib.hid hs
  have t0 := eqb_not (t := x) (l := [45, 102]) (fun h => by rw [h] at hx0; simp at hx0)
  have t1 := eqb_not (t := x) (l := [45, 114]) (fun h => by rw [h] at hx0; simp at hx0)
  have t2 := eqb_not (t := x) (l := [45, 114, 102]) (fun h => by rw [h] at hx0; simp at hx0)
  have t3 := eqb_not (t := x) (l := [45, 102, 114]) (fun h => by rw [h] at hx0; simp at hx0)
  obtain ⟨w0, hw0⟩ : ∃ w0, w0 = ((w.alloc (.cells #[.pointer (some ⟨b, 0, none⟩)] 63)).alloc (.cells #[.bool false] 4)).alloc (.cells #[.bool false] 4) := ⟨_, rfl⟩
  have hF0 : Fresh w w0 := by rw [hw0]; exact (((Keeps.refl _ w).alloc _).alloc _).alloc _
  have hbx : w0.heap[w.heap.size]? = some (.cells #[.pointer (some ⟨b, 0, none⟩)] 63 (0, 0)) := by
    rw [hw0]; exact block_alloc (block_alloc (heap_alloc_new w _))
  have hdx : w0.heap[w.heap.size + 1]? = some (.cells #[.bool false] 4 (0, 0)) := by
    have h1 : (w.alloc (.cells #[.pointer (some ⟨b, 0, none⟩)] 63)).heap.size = w.heap.size + 1 := by simp
    rw [hw0, ← h1]; exact block_alloc (heap_alloc_new _ _)
  have hqx : w0.heap[w.heap.size + 1 + 1]? = some (.cells #[.bool false] 4 (0, 0)) := by
    have h1 : ((w.alloc (.cells #[.pointer (some ⟨b, 0, none⟩)] 63)).alloc (.cells #[.bool false] 4)).heap.size = w.heap.size + 1 + 1 := by simp
    rw [hw0, ← h1]; exact heap_alloc_new _ _
  have k0 := cell_of_block hbx 0
  have k1 := cell_of_block hdx 0
  have k2 := cell_of_block hqx 0
  simp at k0 k1 k2
  have k3 := hF0.cell c3 (fun x => x)
  have k4 := hF0.cell g0 (fun x => x)
  have HF0 := Lib.hid hF0
  have HBx := Lib.hid hbx
  have HDx := Lib.hid hdx
  have HQx := Lib.hid hqx
  subst hw0
  clear hu hf hE hs hcell hx0 hF0 hbx hdx hqx
  go_enter Tryz.func70, Tryz.ntmps70
  go_wp2_with fail
  obtain ⟨W1, hW1⟩ : ∃ W1, W1 = (((w.alloc (.cells #[.pointer (some ⟨b, 0, none⟩)] 63)).alloc (.cells #[.bool false] 4)).alloc (.cells #[.bool false] 4)) := ⟨_, rfl⟩
  rw [← hW1] at HF0 HBx HDx HQx ⊢
  clear hW1 k0 k1 k2 k3 k4
  obtain ⟨W, hW⟩ : ∃ W, W = W1.drew := ⟨_, rfl⟩
  have hFW : Fresh w W := by rw [hW]; exact HF0.out.drew
  have hbW : W.heap[w.heap.size]? = some (.cells #[.pointer (some ⟨b, 0, none⟩)] 63 (0, 0)) := by rw [hW]; exact HBx.out
  have hdW : W.heap[w.heap.size + 1]? = some (.cells #[.bool false] 4 (0, 0)) := by rw [hW]; exact HDx.out
  have hqW : W.heap[w.heap.size + 1 + 1]? = some (.cells #[.bool false] 4 (0, 0)) := by rw [hW]; exact HQx.out
  have y0 := cell_of_block hbW 0
  simp at y0
  have y3 := hFW.cell c3 (fun x => x)
  have yg := hFW.cell g0 (fun x => x)
  refine wp_region_ord [0, 1, 2, 3, 4, 5, 6] [6] [] (fun w' => w'.cell? ⟨w.heap.size, 0, none⟩ = some (.pointer (some ⟨b, 0, none⟩)) ∧ w'.cell? ⟨b, 3, none⟩ = some (.slice (some ⟨g, off, none⟩) 1 c)) (by kernel_rfl) (by kernel_rfl) (by rw [← hW]; exact ⟨y0, y3⟩) ?_
  rw [← hW]
  clear hW
  repeat (refine' wpOrd_take (v := _) rfl rfl rfl (fun _ _ _ h => h) ?_ ?_; rotate_left; (· intro w' hS; (try dsimp only at hS); go_simp; rfl); (try simp only [Act.put, List.setIfInBounds_toArray, List.set_cons_zero, List.set_cons_succ]))
  refine wpOrd_eff rfl rfl (fun K hK => ?_)
  go_simp
  have hq := absOf_size cwd x
  have HUW := Lib.hid (HU.out.fresh hFW)
  have HFsW := Lib.hid (HFs.out.fresh hFW)
  have HEW := Lib.hid (HE.out.fresh hFW)
  have he := each_rm_c1 HEW.out x HUW.out yg hc hx hok (c := c) (c0 := .pointer (some ⟨w.heap.size, 0, none⟩)) (c1 := .pointer (some ⟨w.heap.size + 1, 0, none⟩)) (c2 := .pointer (some ⟨w.heap.size + 1 + 1, 0, none⟩))
    (S := fun w2 => ∃ log' : Value, Ut w2 b base (.pointer (some ⟨P, 0, none⟩)) cwd name (.slice (some ⟨g, off, none⟩) 1 c) inn (catSt st (rmSaid false er)) out log' o (catLog l name x (rmSaid false er)) ∧ FsAt w2 P M nodes bytes T.2.1 T.2.2 T.1 ∧
      Keeps (fun k => (k = P ∨ k = M) ∨ utF b out log k) W w2 ∧ Old W (utF b out log') (utF b out log))
    (fun w' hFw => (rm1_calls x (absOf cwd x).1 false false T er her1 (HUW.out.fresh hFw) (HFsW.out.fresh hFw) hBT (hFw.at hbW (fun x => x)) (hFw.at hdW (fun x => x)) (hFw.at hqW (fun x => x)) hl2
      (fun W' hFW' => hdo W' ((hFW.trans hFw).trans hFW'))).mono fun e w2 ⟨h1, log', h2, h3, h4, h5⟩ =>
        ⟨h1, log', h2, h3, (hFw.mono (fun _ _ h => h.elim)).trans h4, (Old.refl W _).trans hFw.size h5⟩)
  refine he.mono ?_
  rintro _ w2 ⟨rfl, log2, hu2, hf2, hk2, ho2⟩
  have nb : ¬ ((w.heap.size = P ∨ w.heap.size = M) ∨ utF b out log w.heap.size) := by
    rintro ((e | e) | e)
    · have := lt_of_block HFs.out.blk; omega
    · have := HFs.out.map.lt; omega
    · exact HUW.out.apart_of hbW (by decide) (by decide) e
  have v0 := hk2.cell y0 nb
  have v3 := cell_of_block hu2.blk 3
  simp at v3
  refine hK _ _ (fun _ => ⟨v0, v3⟩) ?_
  clear hK K y0 y3 v0 v3 nb he
  (try simp only [Act.put, List.setIfInBounds_toArray, List.set_cons_zero, List.set_cons_succ])
  refine wpOrd_nil ?_
  go_wp2_with fail
  go_end0
  exact ⟨rfl, _, log2, hu2, hf2, (hFW.mono (fun _ _ h => h.elim)).trans hk2, (Old.refl w _).trans hFW.size ho2⟩
end Go.Proofs.YtbhmapcjcnceiaaGreatDoor
