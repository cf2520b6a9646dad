/- mkdir -p of one path. -/
import Derived.Test.YtbhmapcjcnceiaaGreatDoorM3
import Derived.Test.YtbhmapcjcnceiaaGreatDoorA4
namespace Go.Proofs.YtbhmapcjcnceiaaGreatDoor
open Go Go.RowKit

theorem Ut.keepsOther {w w' : World} {b base : Nat} {f : Value} {cwd name : ByteArray} {args inn : Value} {st : Int} {out log : Value} {o l : List UInt8} (h : Ut w b base f cwd name args inn st out log o l) {F : Nat → Prop} (hk : Keeps F w w') (hn : ∀ k, utF b out log k → ¬ F k) :
    Ut w' b base f cwd name args inn st out log o l :=
  ⟨hk.at h.blk (hn b (Or.inl rfl)), h.bufO.keeps hk (fun g hg e => hn g (Or.inr (Or.inl hg)) e), h.bufL.keeps hk (fun g hg e => hn g (Or.inr (Or.inr hg)) e), h.apart, Nat.le_trans h.hsz hk.size, h.ge⟩

set_option maxRecDepth 10000 in
set_option maxHeartbeats 3200000 in
theorem mkdir_p {w : World} (hE : Env w) {b base P M : Nat} {nodes bytes used clock : Int} {t : Tree} {cwd name : ByteArray} {oa : Option Addr} {c : Nat} {inn : Value} {st : Int} {out log : Value} {o l : List UInt8} (dp x : ByteArray) (hx0 : dp.data.toList = [45, 112]) (T : Tree × Int × Int)
    (hT : aboveL nodes bytes used (waysL [] (absOf cwd x).1.data.toList ++ [(absOf cwd x).1.data.toList]) t clock = T)
    (hu : Ut w b base (.pointer (some ⟨P, 0, none⟩)) cwd name (.slice oa 2 c) inn st out log o l) (hs : Strs w oa c [dp, x]) (hf : FsAt w P M nodes bytes used clock t) (hB : FsBelow base P M t) (hBT : FsBelow base P M T.1) (h9 : 9 ≤ P ∧ 9 ≤ M)
    (hc : cwd.size < 4294967281) (hx : x.size < 4294967281) (hok : (absOf cwd x).2 = 0) (ht : t.length ≤ 100000) (hus : 0 ≤ used ∧ used ≤ 100000000) (hck : 0 ≤ clock ∧ clock ≤ 1000000000)
    (hwl : (waysL [] (absOf cwd x).1.data.toList).length ≤ 1000) (hws : ∀ q ∈ waysL [] (absOf cwd x).1.data.toList, q.length ≤ 1000)
    (er : Nat) (her : T.2.2 = (er : Int)) (her1 : er < 100) (hl2 : l.length + name.size + x.size ≤ 1099511627776) :
    Calls Tryz.prog 71 #[.pointer (some ⟨b, 0, none⟩)] w fun e w' => e = .returned (.tuple #[]) ∧ ∃ (args' log' : Value),
      Ut w' b base (.pointer (some ⟨P, 0, none⟩)) cwd name args' inn (catSt st er) out log' o (catLog l name x er) ∧ FsAt w' P M nodes bytes used T.2.1 T.1 ∧
      Keeps (fun k => (k = P ∨ k = M) ∨ utF b out log k) w w' ∧ Old w (utF b out log') (utF b out log) := by
  have hmf : ∀ (fn : Fn) (first cap : Array Value) (w : World), (Instr.makeFunc fn first cap).run Tryz.prog w = .ok (.func fn first cap) w := fun _ _ _ _ => rfl
  have hc2 := hs.1
  simp only [List.length_cons, List.length_nil] at hc2
  have hc1 : ¬ c = 1 := by omega
  obtain ⟨g, off, rfl, hcell⟩ := strs_some' hs
  have g0 := hcell 0 dp rfl
  have g1 := hcell 1 x rfl
  rw [Nat.add_zero] at g0
  have c0 := cell_of_block hu.blk 0
  have c3 := cell_of_block hu.blk 3
  simp at c0 c3
  have hbl := lt_of_block hu.blk
  have hgl : g < w.heap.size := World.block_lt_of_cell? w _ g0
  have hgb : g ≠ b := hs.2.2.2.ne hu.blk (by decide) _ rfl
  have HU := Lib.hid hu
  have HFs := Lib.hid hf
  have HE := Lib.hid hE
  have HS := Lib.hid hs
  have t0 := eqb_is hx0
  have HT := Lib.hid hT
  have HWs := Lib.hid hws
  clear hu hf hE hs hcell hT hws
  go_enter Tryz.func71, Tryz.ntmps71
  go_wp2_with fail
  obtain ⟨w0, hw0⟩ : ∃ w0, w0 = (w.alloc (.cells #[.pointer (some ⟨b, 0, none⟩)] 63)).alloc (.cells #[.func (.func 35) #[.pointer (some ⟨P, 0, none⟩)] #[]] 86) := ⟨_, rfl⟩
  have hF0 : Fresh w w0 := by rw [hw0]; exact ((Keeps.refl _ w).alloc _).alloc _
  have hbx : w0.heap[w.heap.size]? = some (.cells #[.pointer (some ⟨b, 0, none⟩)] 63 (0, 0)) := by
    rw [hw0]; exact block_alloc (heap_alloc_new w _)
  have hhx : w0.heap[w.heap.size + 1]? = some (.cells #[.func (.func 35) #[.pointer (some ⟨P, 0, none⟩)] #[]] 86 (0, 0)) := by
    have h1 : (w.alloc (.cells #[.pointer (some ⟨b, 0, none⟩)] 63)).heap.size = w.heap.size + 1 := by simp
    rw [hw0, ← h1]; exact heap_alloc_new _ _
  rw [← hw0]
  clear hw0
  obtain ⟨W, hW⟩ : ∃ W, W = w0.drew := ⟨_, rfl⟩
  have hFW : Fresh w W := by rw [hW]; exact hF0.drew
  have hbW : W.heap[w.heap.size]? = some (.cells #[.pointer (some ⟨b, 0, none⟩)] 63 (0, 0)) := by rw [hW]; exact hbx
  have hhW : W.heap[w.heap.size + 1]? = some (.cells #[.func (.func 35) #[.pointer (some ⟨P, 0, none⟩)] #[]] 86 (0, 0)) := by rw [hW]; exact hhx
  have y0 := cell_of_block hbW 0
  have yh := cell_of_block hhW 0
  have fh := frozen_of_block hhW 0
  simp at y0 yh
  have y3 := hFW.cell c3 (fun x => x)
  have hUW := HU.out.fresh hFW
  have f3 := frozen_of_block hUW.blk 3
  refine wp_region_ord2 [0, 1, 2, 3, 4, 5, 6, 7, 8, 9, 10, 11] [8, 9, 10, 11] [6, 7] [10, 11] [11] (fun w' => w'.cell? ⟨w.heap.size, 0, none⟩ = some (.pointer (some ⟨b, 0, none⟩)) ∧ w'.cell? ⟨b, 3, none⟩ = some (.slice (some ⟨g, off, none⟩) 2 c))
    (fun w' => w'.cell? ⟨w.heap.size, 0, none⟩ = some (.pointer (some ⟨b, 0, none⟩))) (by kernel_rfl) (by kernel_rfl) (by rw [← hW]; exact ⟨⟨y0, y3⟩, y0⟩) ?_
  rw [← hW]
  clear hW
  repeat (first
    | (refine' wpOrd2_takeA (v := _) rfl rfl rfl rfl (fun _ _ _ h => h) ?_ ?_; rotate_left; (· intro w' hS; (try dsimp only at hS); go_simp; rfl); (try simp only [Act.put, List.setIfInBounds_toArray, List.set_cons_zero, List.set_cons_succ]))
    | (refine' wpOrd2_takeB (v := _) rfl rfl rfl rfl (fun _ _ _ h => h) ?_ ?_; rotate_left; (· intro w' hS; (try dsimp only at hS); go_simp; rfl); (try simp only [Act.put, List.setIfInBounds_toArray, List.set_cons_zero, List.set_cons_succ])))
  have hne : b ≠ w.heap.size := by omega
  (refine wpOrd2_eff rfl rfl (fun K hK => ?_); go_simp; refine hK _ _ (fun _ => ⟨y0, y3⟩) (fun _ => y0) ?_; clear hK K; (try simp only [Act.put, List.setIfInBounds_toArray, List.set_cons_zero, List.set_cons_succ]))
  (refine wpOrd2_eff rfl rfl (fun K hK => ?_); go_simp; refine hK _ _ (fun _ => ⟨y0, y3⟩) (fun _ => y0) ?_; clear hK K; (try simp only [Act.put, List.setIfInBounds_toArray, List.set_cons_zero, List.set_cons_succ]))
  (refine wpOrd2_eff rfl rfl (fun K hK => ?_); go_simp; refine hK _ _ (fun h => absurd h (by decide)) (fun _ => (Keeps.set W b 3 _).cell y0 (fun e => hne e.symm)) ?_; clear hK K; (try simp only [Act.put, List.setIfInBounds_toArray, List.set_cons_zero, List.set_cons_succ]))
  (refine wpOrd2_eff rfl rfl (fun K hK => ?_); go_simp; refine hK _ _ (fun h => absurd h (by decide)) (fun h => absurd h (by decide)) ?_; clear hK K; (try simp only [Act.put, List.setIfInBounds_toArray, List.set_cons_zero, List.set_cons_succ]))
  refine wpOrd2_nil ?_
  obtain ⟨W2, hW2⟩ : ∃ W2, W2 = (W.setCell ⟨b, 3, none⟩ (.slice (some ⟨g, off + 1, none⟩) 1 (c - 1))).setCell ⟨w.heap.size + 1, 0, none⟩ (.func (.func 119) #[.pointer (some ⟨b, 0, none⟩)] #[]) := ⟨_, rfl⟩
  have hK2 : Keeps (fun k => k = b ∨ k = w.heap.size + 1) W W2 := by
    rw [hW2]
    exact ((Keeps.refl _ W).setCell (p := ⟨b, 3, none⟩) (fun _ => Or.inl rfl) _).setCell (p := ⟨w.heap.size + 1, 0, none⟩) (fun _ => Or.inr rfl) _
  have hU1 := hUW.setArgs (.slice (some ⟨g, off + 1, none⟩) 1 (c - 1))
  have hh1 : (W.setCell ⟨b, 3, none⟩ (.slice (some ⟨g, off + 1, none⟩) 1 (c - 1))).heap[w.heap.size + 1]? = some (.cells #[.func (.func 35) #[.pointer (some ⟨P, 0, none⟩)] #[]] 86 (0, 0)) := by
    rw [block_setCell_ne (by show w.heap.size + 1 ≠ b; omega)]; exact hhW
  have hU2 : Ut W2 b base (.pointer (some ⟨P, 0, none⟩)) cwd name (.slice (some ⟨g, off + 1, none⟩) 1 (c - 1)) inn st out log o l := by
    rw [hW2]
    exact hU1.keepsOther (Keeps.set _ (w.heap.size + 1) 0 _) (fun k hk e => hU1.apart_of hh1 (by decide) (by decide) (by rw [← e]; exact hk))
  have hF2 : FsAt W2 P M nodes bytes used clock t := by
    have hPl := lt_of_block HFs.out.blk
    have hMl := HFs.out.map.lt
    have hbb := HU.out.ge.2
    have hBl := HFs.out.below
    refine (HFs.out.fresh hFW).keeps hK2 ?_ ?_ (fun y hy ad had => ?_)
    · have := hB.1; omega
    · have := hB.2.1; omega
    · have h1 := hB.2.2 y hy ad had
      have h2 := hBl.2.2 y hy ad had
      omega
  have hE2 : Env W2 := (HE.out.fresh hFW).keeps hK2 (fun k h => by
    have hbb := HU.out.ge
    have h9' := HE.out.len
    rcases h with e | e <;> omega)
  have hb2 : W2.heap[w.heap.size]? = some (.cells #[.pointer (some ⟨b, 0, none⟩)] 63 (0, 0)) := hK2.at hbW (by omega)
  have hh2 : W2.heap[w.heap.size + 1]? = some (.cells #[.func (.func 119) #[.pointer (some ⟨b, 0, none⟩)] #[]] 86 (0, 0)) := by
    rw [hW2]; exact block_setCell hh1 0 _
  have hg2 : W2.cell? ⟨g, off + 1, none⟩ = some (.string x) := hK2.cell (hFW.cell g1 (fun x => x)) (by show ¬ (g = b ∨ g = w.heap.size + 1); omega)
  have hKw : Keeps (fun k => (k = P ∨ k = M) ∨ utF b out log k) w W2 := hFW.mono (G := fun k => (k = P ∨ k = M) ∨ utF b out log k) (fun _ _ h => h.elim) |>.then hK2 (fun i hi h => by
    rcases h with e | e
    · exact Or.inr (Or.inl e)
    · omega)
  have h3 := cell_of_block hU2.blk 3
  have h0 := cell_of_block hb2 0
  simp at h3 h0
  rw [← hW2]
  have HU2 := Lib.hid hU2
  have HF2 := Lib.hid hF2
  have HE2 := Lib.hid hE2
  have HKw := Lib.hid hKw
  have HB2 := Lib.hid hb2
  have HH2 := Lib.hid hh2
  clear hW2 hK2 hU1 hh1 hU2 hF2 hE2 hKw hb2 hh2 hbx hhx hbW hhW y0 yh fh y3 f3 hUW g0 g1 c0 c3 hF0 hFW hne
  go_wp2_with fail
  obtain ⟨V, hV⟩ : ∃ V, V = W2.drew := ⟨_, rfl⟩
  have hFV : Fresh W2 V := by rw [hV]; exact (Keeps.refl _ W2).drew
  have u0 := hFV.cell h0 (fun x => x)
  have u3 := hFV.cell h3 (fun x => x)
  have ug := hFV.cell hg2 (fun x => x)
  refine wp_region_ord [0, 1, 2, 3, 4, 5, 6] [6] [] (fun w' => w'.cell? ⟨w.heap.size, 0, none⟩ = some (.pointer (some ⟨b, 0, none⟩)) ∧ w'.cell? ⟨b, 3, none⟩ = some (.slice (some ⟨g, off + 1, none⟩) 1 (c - 1))) (by kernel_rfl) (by kernel_rfl) (by rw [← hV]; exact ⟨u0, u3⟩) ?_
  rw [← hV]
  clear hV
  repeat (refine' wpOrd_take (v := _) rfl rfl rfl (fun _ _ _ h => h) ?_ ?_; rotate_left; (· intro w' hS; (try dsimp only at hS); go_simp; rfl); (try simp only [Act.put, List.setIfInBounds_toArray, List.set_cons_zero, List.set_cons_succ]))
  refine wpOrd_eff rfl rfl (fun K hK => ?_)
  go_simp
  have hq := absOf_size cwd x
  have hul : (absOf cwd x).1.size ≤ 1000 := by omega
  have HUV := Lib.hid (HU2.out.fresh hFV)
  have HFV := Lib.hid (HF2.out.fresh hFV)
  have HEV := Lib.hid (HE2.out.fresh hFV)
  have hbV := HB2.out
  have he := each_mkdir_c1 HEV.out x HUV.out ug hc hx hok (c := c - 1) (c0 := .pointer (some ⟨w.heap.size, 0, none⟩)) (c1 := .pointer (some ⟨w.heap.size + 1, 0, none⟩))
    (S := fun w2 => ∃ log' : Value, Ut w2 b base (.pointer (some ⟨P, 0, none⟩)) cwd name (.slice (some ⟨g, off + 1, none⟩) 1 (c - 1)) inn (catSt st er) out log' o (catLog l name x er) ∧ FsAt w2 P M nodes bytes used T.2.1 T.1 ∧
      Keeps (fun k => (k = P ∨ k = M) ∨ utF b out log k) V w2 ∧ Old V (utF b out log') (utF b out log))
    (fun w' hFw => (mkdir1_above x (absOf cwd x).1 T er her her1 (HUV.out.fresh hFw) (HFV.out.fresh hFw) hBT (hFw.at (hFV.at HB2.out (fun x => x)) (fun x => x)) (hFw.at (hFV.at HH2.out (fun x => x)) (fun x => x)) hl2
      (fun W' hFW' => by
        have ha := above_calls ((HEV.out.fresh hFw).fresh hFW') (absOf cwd x).1 hul ((HUV.out.fresh hFw).fresh hFW') ((HFV.out.fresh hFw).fresh hFW') hB.1 hB.2.1 h9 ht hus hck hwl HWs.out
        rw [HT.out] at ha
        exact ha)).mono fun e w2 ⟨h1, log', h2, h3, h4, h5⟩ =>
        ⟨h1, log', h2, h3, (hFw.mono (fun _ _ h => h.elim)).trans h4, (Old.refl V _).trans hFw.size h5⟩)
  refine he.mono ?_
  rintro _ w2 ⟨rfl, log2, hu2, hf2, hk2, ho2⟩
  have nb : ¬ ((w.heap.size = P ∨ w.heap.size = M) ∨ utF b out log w.heap.size) := by
    rintro ((e | e) | e)
    · have := lt_of_block HFs.out.blk; omega
    · have := HFs.out.map.lt; omega
    · exact HU2.out.apart_of HB2.out (by decide) (by decide) e
  have v0 := hk2.cell u0 nb
  have v3 := cell_of_block hu2.blk 3
  simp at v3
  refine hK _ _ (fun _ => ⟨v0, v3⟩) ?_
  clear hK K u0 u3 v0 v3 nb he
  (try simp only [Act.put, List.setIfInBounds_toArray, List.set_cons_zero, List.set_cons_succ])
  refine wpOrd_nil ?_
  go_wp2_with fail
  go_end0
  have hKV := HKw.out.then hFV (fun _ _ h => h.elim)
  exact ⟨rfl, _, log2, hu2, hf2, hKV.trans hk2, (Old.refl w _).trans hKV.size ho2⟩
end Go.Proofs.YtbhmapcjcnceiaaGreatDoor
