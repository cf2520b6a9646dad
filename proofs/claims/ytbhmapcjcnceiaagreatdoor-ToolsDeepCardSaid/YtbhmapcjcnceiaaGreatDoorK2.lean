/- The file system in memory: List, Remove, Mkdir. -/
import Derived.Test.YtbhmapcjcnceiaaGreatDoorK1
namespace Go.Proofs.YtbhmapcjcnceiaaGreatDoor
open Go Go.RowKit

theorem wp_delete_str {P : Program} {ops : Array Oper} {rest : List Oper} {o : Oper} {a : Act} {Q : Exit → Act → World → Prop} {w : World} (hg : o.guard = none) (m x : Operand) (T K E : TypeId) (hop : o.op = Op.call { callee := Callee.builtin Builtin.delete, args := #[m, x], argTypes := #[T, K] })
    (hT : P.underlying T = some (.map K E)) (hK : P.underlying K = some .string) (B : Nat) (ks : List (ByteArray × Value)) (hm : a.eval m = .map (some B)) (k : ByteArray) (hx : a.eval x = .string k) (h : MapAt w B ks)
    (hK' : ∀ w', MapAt w' B (del k ks) → Keeps (fun j => j = B) w w' → wpList P ops Q rest (a.put o.dst (.tuple #[])) w') : wpList P ops Q (o :: rest) a w := by
  refine wpList_plain hg fun K0 hK0 => ?_
  obtain ⟨w', hrun, r1, r2⟩ := run_delete_str (P := P) hT hK h k o.type
  unfold Oper.wp
  simp [execOp, hop, resolve, invoke, builtin, hm, hx, hrun, Result.andThen]
  exact hK0 _ _ (hK' w' r1 r2)
theorem rem_sub {α : Type} {k : ByteArray} : ∀ {t : List (ByteArray × α)} {x}, x ∈ rem k t → x ∈ t
  | [], _, h => h
  | p :: r, x, h => by
    simp only [rem] at h
    split at h
    · exact List.mem_cons_of_mem _ h
    · rcases List.mem_cons.1 h with rfl | h
      · exact List.mem_cons_self
      · exact List.mem_cons_of_mem _ (rem_sub h)
theorem FsAt.remNode {w w' : World} {P M : Nat} {nodes bytes used clock : Int} {t : Tree} (h : FsAt w P M nodes bytes used clock t) (p : ByteArray) (hk : Keeps (fun k => k = M) w w')
    (hm : MapAt w' M (del p (t.map fun p => (p.1, p.2.val)))) : FsAt w' P M nodes bytes used clock (rem p t) := by
  refine ⟨hk.at h.blk (fun e => h.map.ne h.blk e), by rw [← del_rem]; exact hm, fun x hx => ⟨(h.rows x (rem_sub hx)).1.keeps hk (fun ad had e => ?_), (h.rows x (rem_sub hx)).2⟩⟩
  have hr := (h.rows x (rem_sub hx)).1
  rw [had] at hr
  obtain ⟨_, cur, fz, hb, _⟩ := hr
  exact h.map.ne hb e

/-- What List tells. -/
def fsList (t : Tree) (p : ByteArray) : List (List UInt8) × Int := if (fsFound t p).2 ≠ 0 then ([], (fsFound t p).2) else if kindOf t (fsFound t p).1 = 1 then ([], 11) else (namesL t (fsFound t p).1, 0)
theorem fsFound_size (t : Tree) (p : ByteArray) : (fsFound t p).1.size ≤ 200 := by
  have h : (fsAbs t p).1.size ≤ 200 := by
    unfold fsAbs
    split
    · exact Nat.zero_le _
    · split
      · exact Nat.zero_le _
      · exact absOf_size _ _
  unfold fsFound
  split
  · exact h
  · exact h
set_option maxHeartbeats 800000 in
theorem list_calls {w : World} {P M : Nat} {nodes bytes used clock : Int} {t : Tree} (h : FsAt w P M nodes bytes used clock t) (hE : Env w) (p : ByteArray) (hp : p.size < 4294967281) (ht : t.length ≤ 1000000) :
    Calls Tryz.prog 54 #[.pointer (some ⟨P, 0, none⟩), .string p] w fun e w' => ∃ oa c, e = .returned (.tuple #[.slice oa (fsList t p).1.length c, .int .i64 (fsList t p).2]) ∧
      w'.ownsRow w.heap.size 9 1 (.slice oa (fsList t p).1.length c) (fsList t p).1.length ((fsList t p).1.map encStr) ∧ Fresh w w' := by
  have HA := Lib.hid (found_calls h hE p hp)
  have H := Lib.hid h
  have hqs := fsFound_size t p
  have hr : fsList t p = if (fsFound t p).2 ≠ 0 then ([], (fsFound t p).2) else if kindOf t (fsFound t p).1 = 1 then ([], 11) else (namesL t (fsFound t p).1, 0) := rfl
  generalize fsList t p = R at hr ⊢
  have HR := Lib.hid hr
  clear h hE hr
  obtain ⟨Q, hQ⟩ : ∃ Q, fsFound t p = Q := ⟨_, rfl⟩
  rw [hQ] at HA HR hqs
  clear hQ
  obtain ⟨q, er⟩ := Q
  go_enter Tryz.func54, Tryz.ntmps54
  go_wp2_with fail
  refine HA.out.mono ?_
  rintro _ w1 ⟨rfl, hF1⟩
  have HF1 := Lib.hid hF1
  clear hF1 HA
  by_cases e0 : er = 0
  · subst e0
    rw [if_neg (fun h => h rfl)] at HR
    go_wp2_with fail
    refine (kind_calls (H.out.fresh HF1.out) q).mono ?_
    rintro _ w2 ⟨rfl, hF2⟩
    have HF2 := Lib.hid (HF1.out.trans hF2)
    clear hF2
    by_cases e1 : kindOf t q = 1
    · rw [if_pos e1] at HR
      rw [e1]
      go_wp2_with fail
      go_ret2
      exact ⟨none, 0, by rw [HR.out]; rfl, by rw [HR.out]; exact World.ownsRow_nil _ _ _ _, HF2.out⟩
    · have t1 : (kindOf t q == 1) = false := by rw [beq_eq_false_iff_ne]; exact e1
      rw [if_neg e1] at HR
      generalize kindOf t q = kd at t1 ⊢
      go_wp2_with fail
      refine (names_calls (H.out.fresh HF2.out) q (by omega) ht).mono ?_
      rintro _ w3 ⟨na, nc, rfl, hown, hF3⟩
      have HOwn := Lib.hid hown
      have HF3 := Lib.hid (HF2.out.trans hF3)
      clear hown hF3
      go_wp2_with fail
      go_ret2
      refine ⟨na, nc, by rw [HR.out]; rfl, ?_, HF3.out⟩
      rw [HR.out]
      exact ⟨HOwn.out.1, HOwn.out.2.imp id (fun ⟨g, cap, cur, h1, h2, h3⟩ => ⟨g, cap, cur, h1, Nat.le_trans HF2.out.size h2, h3⟩)⟩
  · have t1 : (er == 0) = false := by rw [beq_eq_false_iff_ne]; exact e0
    rw [if_pos e0] at HR
    go_wp2_with fail
    go_ret2
    exact ⟨none, 0, by rw [HR.out]; rfl, by rw [HR.out]; exact World.ownsRow_nil _ _ _ _, HF1.out⟩

def rmErr (t : Tree) (p : ByteArray) : Int := if (fsFound t p).2 ≠ 0 then (fsFound t p).2 else if (fsFound t p).1.data.toList = [47] then 1 else if belowL t (fsFound t p).1 ≠ [] then 14 else 0
set_option maxRecDepth 10000 in
set_option maxHeartbeats 1600000 in
theorem remove_calls {w : World} {P M : Nat} {nodes bytes used clock : Int} {t : Tree} (h : FsAt w P M nodes bytes used clock t) (hE : Env w) (p : ByteArray) (hp : p.size < 4294967281) (ht : t.length ≤ 1000000)
    (hd : ∀ q, (dataOf t q).length ≤ 100000000) (hu : 0 ≤ used ∧ used ≤ 100000000) (hck : 0 ≤ clock ∧ clock ≤ 1099511627776) :
    Calls Tryz.prog 37 #[.pointer (some ⟨P, 0, none⟩), .string p] w fun e w' => e = .returned (.int .i64 (rmErr t p)) ∧ Keeps (fun k => k = P ∨ k = M) w w' ∧
      ((rmErr t p ≠ 0 ∧ FsAt w' P M nodes bytes used clock t) ∨ (rmErr t p = 0 ∧ FsAt w' P M nodes bytes (used - ((dataOf t (fsFound t p).1).length : Int)) (clock + 1) (rem (fsFound t p).1 t))) := by
  have hz : ∀ w, (zeroValue 74).run Tryz.prog w = .ok (.agg #[.bool false, .slice none 0 0, .int .i64 0]) w := fun _ => by kernel_rfl
  have hfl : ∀ (d : Bool) (a : Option Addr) (n c : Nat) (x : Int) (w : World), (Instr.field 74 (.agg #[.bool d, .slice a n c, .int .i64 x]) 1).run Tryz.prog w = .ok (.slice a n c) w := node_data
  have HA := Lib.hid (found_calls h hE p hp)
  have H := Lib.hid h
  have HD := Lib.hid hd
  have Hz := Lib.hid hz
  have hqs := fsFound_size t p
  have hr : rmErr t p = if (fsFound t p).2 ≠ 0 then (fsFound t p).2 else if (fsFound t p).1.data.toList = [47] then 1 else if belowL t (fsFound t p).1 ≠ [] then 14 else 0 := rfl
  generalize rmErr t p = R at hr ⊢
  have HR := Lib.hid hr
  clear h hE hr hd hz
  obtain ⟨Q, hQ⟩ : ∃ Q, fsFound t p = Q := ⟨_, rfl⟩
  rw [hQ] at HA HR hqs ⊢
  clear hQ
  obtain ⟨q, er⟩ := Q
  go_enter Tryz.func37, Tryz.ntmps37
  go_wp2_with fail
  refine HA.out.mono ?_
  rintro _ w1 ⟨rfl, hF1⟩
  have HF1 := Lib.hid hF1
  clear hF1 HA
  by_cases e0 : er = 0
  · subst e0
    rw [if_neg (fun h => h rfl)] at HR
    by_cases e1 : q.data.toList = [47]
    · have t1 := eqb_is e1
      rw [if_pos e1] at HR
      have Hr := Lib.hid (show R = 1 from HR.out)
      go_wp2_with fail
      go_ret
      exact ⟨by rw [Hr.out]; rfl, HF1.out.mono (fun _ _ h => h.elim), Or.inl ⟨by rw [Hr.out]; decide, H.out.fresh HF1.out⟩⟩
    · have t1 := eqb_not e1
      rw [if_neg e1] at HR
      have HBl := Lib.hid (below_calls (H.out.fresh HF1.out) q (by omega) ht)
      obtain ⟨bl, hbl⟩ : ∃ bl, belowL t q = bl := ⟨_, rfl⟩
      rw [hbl] at HBl HR
      clear hbl
      go_wp2_with fail
      refine HBl.out.mono ?_
      rintro _ w2 ⟨ba, bc, rfl, -, hF2⟩
      have HF2 := Lib.hid (HF1.out.trans hF2)
      have H2 := Lib.hid (H.out.fresh HF2.out)
      clear hF2 HF1 HBl
      by_cases e2 : bl = []
      · subst e2
        rw [if_neg (fun h => h rfl)] at HR
        have Hr := Lib.hid (show R = 0 from HR.out)
        obtain ⟨d0, oa0, c0, x0, hnode, hrow0, hc0⟩ := look_node H2.out q
        have hdl : (dataOf t q).length ≤ 100000000 := HD.out q
        generalize hdd : (dataOf t q).length = dl at hnode hdl ⊢
        obtain ⟨W, hW⟩ : ∃ W, W = w2.drew := ⟨_, rfl⟩
        have hFW : Fresh w2 W := by rw [hW]; exact (Keeps.refl _ w2).drew
        have HW := Lib.hid (H2.out.fresh hFW)
        have hlook : (Instr.lookup 67 (.map (some M)) (.string q) false).run Tryz.prog W = .ok (.agg #[.bool d0, .slice oa0 dl c0, .int .i64 x0]) W := by
          have := run_lookup_str (P := Tryz.prog) (w := W) Tryz.underlying67 Tryz.underlying9 (.agg #[.bool false, .slice none 0 0, .int .i64 0]) (Hz.out W) HW.out.map q false
          rw [hnode] at this
          simpa using this
        have k0 := cell_of_block HW.out.blk 0
        have k3 := cell_of_block HW.out.blk 3
        have f3 := frozen_of_block HW.out.blk 3
        simp at k0 k3
        have v1 : IntKind.i64.wrap (used - (dl : Int)) = used - (dl : Int) := by rw [IntKind.wrap_i64]; omega
        have HS := Lib.hid (HW.out.setUsed (used - (dl : Int)))
        have HKW := Lib.hid (show Keeps (fun k => k = P) w (W.setCell ⟨P, 3, none⟩ (.int .i64 (used - (dl : Int)))) from ((HF2.out.trans hFW).mono (G := fun k => k = P) (fun _ _ h => h.elim)).setCell (p := ⟨P, 3, none⟩) (fun _ => rfl) _)
        clear hnode hrow0 hc0 HR
        go_wp2_with fail
        refine wp_region_ord [0, 1, 2, 3, 4, 5, 6, 7, 8, 9, 10, 11, 12, 13, 14, 15] [13, 14, 15] [15] (fun w => w = W) (by kernel_rfl) (by kernel_rfl) hW.symm ?_
        rw [← hW]
        clear hW hFW
        repeat (refine' wpOrd_take (v := _) rfl rfl rfl (fun _ _ _ h => h) ?_ ?_; rotate_left; (· intro w' hS; rw [hS]; go_simp; rfl); (try simp only [Act.put, List.setIfInBounds_toArray, List.set_cons_zero, List.set_cons_succ]))
        (refine wpOrd_eff rfl rfl (fun K hK => ?_); go_simp; refine hK _ _ (fun _ => rfl) ?_; clear hK K; (try simp only [Act.put, List.setIfInBounds_toArray, List.set_cons_zero, List.set_cons_succ]))
        (refine wpOrd_eff rfl rfl (fun K hK => ?_); go_simp; refine hK _ _ (fun _ => rfl) ?_; clear hK K; (try simp only [Act.put, List.setIfInBounds_toArray, List.set_cons_zero, List.set_cons_succ]))
        (refine wpOrd_eff rfl rfl (fun K hK => ?_); go_simp; refine hK _ _ (fun h => by cases h) ?_; clear hK K; (try simp only [Act.put, List.setIfInBounds_toArray, List.set_cons_zero, List.set_cons_succ]))
        refine wpOrd_nil ?_
        obtain ⟨w4, hw4⟩ : ∃ w4, w4 = W.setCell ⟨P, 3, none⟩ (.int .i64 (used - (dl : Int))) := ⟨_, rfl⟩
        rw [← hw4] at HS HKW ⊢
        clear hw4 hlook k0 k3 f3 v1
        have m0 := cell_of_block HS.out.blk 0
        simp at m0
        go_wp2_with (refine wp_delete_str rfl _ _ 67 9 74 rfl Tryz.underlying67 Tryz.underlying9 M (t.map fun p => (p.1, p.2.val)) rfl q rfl HS.out.map ?_; intro w5 hm5 hk5; have hf5 := HS.out.remNode q hk5 hm5; have n4 := cell_of_block hf5.blk 4; have g4 := frozen_of_block hf5.blk 4; simp at n4)
        go_ret
        refine ⟨by rw [Hr.out]; rfl, ((HKW.out.mono (fun _ _ h => Or.inl h)).trans (hk5.mono (fun _ _ h => Or.inr h))).setCell (p := ⟨P, 4, none⟩) (fun _ => Or.inl rfl) _, Or.inr ⟨Hr.out, ?_⟩⟩
        rw [hdd]
        exact hf5.setClock (clock + 1)
      · have hl : 0 < bl.length := List.length_pos_iff.2 e2
        have t2 : decide ((0 : Int) < (bl.length : Int)) = true := by simp; omega
        rw [if_pos e2] at HR
        have Hr := Lib.hid (show R = 14 from HR.out)
        go_wp2_with fail
        go_ret
        exact ⟨by rw [Hr.out]; rfl, HF2.out.mono (fun _ _ h => h.elim), Or.inl ⟨by rw [Hr.out]; decide, H2.out⟩⟩
  · have t1 : (er == 0) = false := by rw [beq_eq_false_iff_ne]; exact e0
    have Hr := Lib.hid (show R = er by have := HR.out; rw [if_pos e0] at this; exact this)
    have E0 := Lib.hid e0
    clear e0
    go_wp2_with fail
    go_ret
    exact ⟨by rw [Hr.out]; rfl, HF1.out.mono (fun _ _ h => h.elim), Or.inl ⟨by rw [Hr.out]; exact E0.out, H.out.fresh HF1.out⟩⟩
end Go.Proofs.YtbhmapcjcnceiaaGreatDoor
