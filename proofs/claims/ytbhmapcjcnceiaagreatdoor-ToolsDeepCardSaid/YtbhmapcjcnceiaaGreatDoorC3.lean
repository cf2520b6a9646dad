/- Reckoning of a numeral: what signs stand ahead of. -/
import Derived.Test.YtbhmapcjcnceiaaGreatDoorC2
namespace Go.Proofs.YtbhmapcjcnceiaaGreatDoor
open Go Go.RowKit

theorem sign_calls (c : UInt8) (v : Int) (h : Lib.indexByte [43, 45, 33, 126] c = v) (w : World) :
    Calls Tryz.prog 206 #[.string ⟨#[43, 45, 33, 126]⟩, .int .u8 (c.toNat : Int)] w fun e w' => e = .returned (.int .i64 v) ∧ w' = w := by
  refine (Tryz.strings_IndexByte ⟨#[43, 45, 33, 126]⟩ c.toNat w).mono fun e w' ⟨he, hw⟩ => ⟨?_, hw⟩
  rw [he, ← h]
  simp
theorem noSign (c : UInt8) (h1 : 48 ≤ c.toNat) (h2 : c.toNat ≤ 57) : Lib.indexByte [43, 45, 33, 126] c = -1 := by
  have e : ∀ d : UInt8, (d.toNat < 48 ∨ 57 < d.toNat) → (d == c) = false := by
    intro d hd
    cases hh : d == c with
    | false => rfl
    | true => have := eq_of_beq hh; subst this; omega
  simp only [Lib.indexByte, e 43 (by decide), e 45 (by decide), e 33 (by decide), e 126 (by decide)]
  simp

set_option maxHeartbeats 800000 in
theorem unary_pos {w : World} {b : Nat} {s : ByteArray} {l : Value} {deep : Int} {zero : Bool} (i : Nat) (h : Rd w b s i l deep zero) (hs : s.size ≤ 4096) (hd : Digs (s.data.toList.drop i)) :
    Calls Tryz.prog 264 #[.pointer (some ⟨b, 0, none⟩)] w fun e w' => e = .returned (.int .i64 (wrap64 (valU (s.data.toList.drop i)))) ∧ Rd w' b s s.size l deep zero ∧ Keeps (fun k => k = b) w w' := by
  have hi : i < s.size := by
    have : s.size = s.data.toList.length := rfl
    have h1 := hd.1
    rcases Nat.lt_or_ge i s.size with hlt | hge
    · exact hlt
    · exact absurd (List.drop_of_length_le (by omega)) h1
  have hc : 48 ≤ s[i].toNat ∧ s[i].toNat ≤ 57 := by
    have : s[i] ∈ s.data.toList.drop i := by
      rw [List.drop_eq_getElem_cons (by simpa using hi)]
      exact List.mem_cons_self
    exact hd.2 _ this
  have hnb : s[i] ≠ 32 ∧ s[i] ≠ 9 ∧ s[i] ≠ 10 := by
    refine ⟨?_, ?_, ?_⟩ <;> (intro e; rw [e] at hc; revert hc; decide)
  have Hns := Lib.hid (noSign s[i] hc.1 hc.2)
  have HD := Lib.hid hd
  have H := Lib.hid h
  have Hnb := Lib.hid hnb
  clear h hd hc hnb
  have z0 : (0 : Int) ≤ (i : Int) := Int.natCast_nonneg _
  have z1 : (i : Int) < (s.size : Int) := by omega
  go_enter Tryz.func264, Tryz.ntmps264
  go_wp2_with fail
  refine (blank_at i H.out hs hi Hnb.out).mono ?_
  rintro _ w1 ⟨rfl, n1, rfl⟩
  obtain ⟨W, hW⟩ : ∃ W, W = w.drewN n1 := ⟨_, rfl⟩
  have KW := Lib.hid (show Keeps (fun k => k = b) w W by rw [hW]; exact (Keeps.refl _ w).drewN n1)
  have RW := Lib.hid (show Rd W b s i l deep zero by rw [hW]; exact H.out)
  rw [← hW]
  clear hW
  have c0 := RW.out.c0
  have c1 := RW.out.c1
  go_wp2_with fail
  refine wp_loop_rounds 1 ?_
  rw [rounds_succ]
  go_wp2_with fail
  go_quiet ((go_at_call 206; exact Calls.quiet_of_same (sign_calls _ _ Hns.out _)))
  obtain ⟨W2, hW2⟩ : ∃ W2, W2 = W.drewN nq := ⟨_, rfl⟩
  have KW2 := Lib.hid (show Keeps (fun k => k = b) w W2 by rw [hW2]; exact KW.out.drewN nq)
  have RW2 := Lib.hid (show Rd W2 b s i l deep zero by rw [hW2]; exact RW.out)
  rw [← hW2]
  clear hW2 c0 c1 RW KW
  go_wp2_with fail
  refine (primary_num i RW2.out hs HD.out).mono ?_
  rintro _ W3 ⟨rfl, hR3, hK3⟩
  have R3 := Lib.hid hR3
  have K3 := Lib.hid (KW2.out.trans hK3)
  clear hR3 hK3
  go_wp2_with fail
  refine wp_loop_rounds 1 ?_
  rw [rounds_succ]
  go_wp2
  go_ret
  exact ⟨rfl, R3.out, K3.out⟩

theorem pre_calls (t u : ByteArray) (v : Bool) (h : Lib.hasPrefix t.data.toList u.data.toList = v) (w : World) :
    Calls Tryz.prog 81 #[.string t, .string u] w fun e w' => e = .returned (.bool v) ∧ w' = w :=
  (Tryz.strings_HasPrefix t u w).mono fun e w' ⟨he, hw⟩ => ⟨by rw [he, h], hw⟩
set_option maxHeartbeats 1600000 in
theorem unary_neg {w : World} {b : Nat} {s : ByteArray} {l : Value} {deep : Int} {zero : Bool} (h : Rd w b s 0 l deep zero) (hs : s.size ≤ 4096) (ds : List UInt8) (hds : s.data.toList = 45 :: ds) (hd : Digs ds) (hbs : 9 ≤ b) :
    Calls Tryz.prog 264 #[.pointer (some ⟨b, 0, none⟩)] w fun e w' => e = .returned (.int .i64 (wrap64 (-(wrap64 (valU ds))))) ∧ Rd w' b s s.size l deep zero ∧ Keeps (fun k => k = b) w w' := by
  have hsz : s.size = ds.length + 1 := by
    have : s.size = s.data.toList.length := rfl
    rw [this, hds]; rfl
  have hdl : 0 < ds.length := by
    cases hcc : ds with
    | nil => exact absurd hcc hd.1
    | cons x r => simp
  have h0 : 0 < s.size := by omega
  have h1 : 1 < s.size := by omega
  have hs0 : s[0] = 45 := by
    have : s.data.toList[0]'(by rw [hds]; simp) = 45 := by simp [hds]
    show s.data[0] = 45
    simpa using this
  have hdrop : s.data.toList.drop 1 = ds := by rw [hds]; rfl
  have hc : 48 ≤ s[1].toNat ∧ s[1].toNat ≤ 57 := by
    have : s[1] ∈ s.data.toList.drop 1 := by
      rw [List.drop_eq_getElem_cons (by simpa using h1)]
      exact List.mem_cons_self
    rw [hdrop] at this
    exact hd.2 _ this
  have hnb : s[1] ≠ 32 ∧ s[1] ≠ 9 ∧ s[1] ≠ 10 := by
    refine ⟨?_, ?_, ?_⟩ <;> (intro e; rw [e] at hc; revert hc; decide)
  have hnb0 : s[0] ≠ 32 ∧ s[0] ≠ 9 ∧ s[0] ≠ 10 := by rw [hs0]; decide
  have Hs0 := Lib.hid (show Lib.indexByte [43, 45, 33, 126] s[0] = 1 by rw [hs0]; decide)
  have Hb0 := Lib.hid (show ((s[0].toNat : Nat) : Int) = 45 by rw [hs0]; decide)
  have Hns := Lib.hid (noSign s[1] hc.1 hc.2)
  have hnp : Lib.hasPrefix s.data.toList [33, 61] = false := by rw [hds]; rfl
  have Hnp := Lib.hid hnp
  have HD := Lib.hid (show Digs (s.data.toList.drop 1) by rw [hdrop]; exact hd)
  have Hdrop := Lib.hid hdrop
  have H := Lib.hid h
  have Hnb := Lib.hid hnb
  have Hnb0 := Lib.hid hnb0
  clear h hd hc hnb hnb0 hs0 hnp hdrop hds hsz hdl
  have z1 : (0 : Int) < (s.size : Int) := by omega
  have z2 : (1 : Int) < (s.size : Int) := by omega
  go_enter Tryz.func264, Tryz.ntmps264
  go_wp2_with fail
  refine (blank_at 0 H.out hs h0 Hnb0.out).mono ?_
  rintro _ w1 ⟨rfl, n1, rfl⟩
  obtain ⟨W, hW⟩ : ∃ W, W = w.drewN n1 := ⟨_, rfl⟩
  have KW := Lib.hid (show Keeps (fun k => k = b) w W by rw [hW]; exact (Keeps.refl _ w).drewN n1)
  have RW := Lib.hid (show Rd W b s 0 l deep zero by rw [hW]; exact H.out)
  rw [← hW]
  clear hW
  have c0 := RW.out.c0
  have c1 := RW.out.c1
  go_wp2_with fail
  refine wp_loop_rounds 2 ?_
  rw [rounds_succ]
  go_wp2_with fail
  go_quiet ((first | (go_at_call 206; exact Calls.quiet_of_same (sign_calls _ _ Hs0.out _)) | (go_at_call 81; exact Calls.quiet_of_same (pre_calls s ⟨#[33, 61]⟩ false Hnp.out _))))
  obtain ⟨W2, hW2⟩ : ∃ W2, W2 = W.drewN nq := ⟨_, rfl⟩
  have KW2 := Lib.hid (show Keeps (fun k => k = b) w W2 by rw [hW2]; exact KW.out.drewN nq)
  have RW2 := Lib.hid (show Rd W2 b s 0 l deep zero by rw [hW2]; exact RW.out)
  rw [← hW2]
  clear hW2 c0 c1 RW KW
  have c0 := RW2.out.c0
  have c1 := RW2.out.c1
  go_wp2_with fail
  refine wp_region_ord [0, 1, 2, 3, 4, 5, 6, 7, 8, 9, 10, 11, 12] [10, 11, 12] [] (fun w => w.cell? ⟨b, 0, none⟩ = some (.string s) ∧ w.cell? ⟨b, 1, none⟩ = some (.int .i64 0)) (by kernel_rfl) (by kernel_rfl) (by simpa using ⟨c0, c1⟩) ?_
  repeat (refine' wpOrd_take (v := _) rfl rfl rfl (fun _ _ _ h => h) ?_ ?_; rotate_left; (· intro w' hS; (try dsimp only at hS); go_simp; rfl); (try simp only [Act.put, List.setIfInBounds_toArray, List.set_cons_zero, List.set_cons_succ]))
  refine wpOrd_eff rfl rfl (fun K hK => ?_)
  go_simp
  have RW3 : Rd (W2.alloc (Obj.cells #[Value.int IntKind.u8 (s[0].toNat : Int)] 5)).drew b s 0 l deep zero := block_alloc RW2.out
  have hnb2 : (W2.alloc (Obj.cells #[Value.int IntKind.u8 (s[0].toNat : Int)] 5)).drew.heap[W2.heap.size]? = some (Obj.cells #[Value.int IntKind.u8 (s[0].toNat : Int)] 5 (0, 0)) := heap_alloc_new W2 _
  have K3 : Keeps (fun k => k = b) w (W2.alloc (Obj.cells #[Value.int IntKind.u8 (s[0].toNat : Int)] 5)).drew := (KW2.out.alloc _).drew
  have hz3 : W2.heap.size + 1 = (W2.alloc (Obj.cells #[Value.int IntKind.u8 (s[0].toNat : Int)] 5)).drew.heap.size := by simp
  obtain ⟨W3, hW3⟩ : ∃ W3, W3 = (W2.alloc (Obj.cells #[Value.int IntKind.u8 (s[0].toNat : Int)] 5)).drew := ⟨_, rfl⟩
  rw [← hW3] at RW3 hnb2 K3 hz3 ⊢
  clear hW3 c0 c1
  have c0 := RW3.c0
  have c1 := RW3.c1
  refine hK _ _ (fun _ => ⟨c0, c1⟩) ?_
  clear hK K
  (try simp only [Act.put, List.setIfInBounds_toArray, List.set_cons_zero, List.set_cons_succ])
  have HR3 := Lib.hid RW3
  have HK3 := Lib.hid K3
  have Hnb3 := Lib.hid hnb2
  have Hz3 := Lib.hid hz3
  clear RW3 K3 hnb2 hz3
  refine wpOrd_eff rfl rfl (fun K hK => ?_)
  refine st_app_row rfl _ _ _ rfl 0 5 (.int .u8 0) 1 Tryz.underlying25 info_byte rfl (.slice none 0 0) 0 [] rfl (World.ownsRow_nil _ _ _ _) (some ⟨W2.heap.size, 0, none⟩) 1 1 [.int .u8 (s[0].toNat : Int)] rfl (fun h => by cases h) rfl ?_ (by simp [Value.oneCell']) (by omega) (by omega) (by omega) ?_
  · intro ad had j u hu
    obtain rfl := Option.some.inj had
    match j, hu with
    | 0, hu =>
      obtain rfl := Option.some.inj hu
      have : (⟨W2.heap.size, 0, none⟩ : Addr).add 0 = ⟨W2.heap.size, 0, none⟩ := rfl
      rw [this, cell_of_block Hnb3.out]; rfl
  intro oa oc W4 hown hg4 hat
  obtain ⟨g, cur, rfl, _, hgb, hoc⟩ := ownsRow_pos hown (by omega)
  have hgn : g = W3.heap.size := by
    rcases hat with h | h
    · cases h
    · exact Option.some.inj h
  have hrow := (RowAt.of_owns hown).cell (j := 0) (u := .int .u8 (s[0].toNat : Int)) rfl
  have hR4 : Rd W4 b s 0 l deep zero := grown_at hg4 HR3.out (by simp [Value.ownBlock])
  have HK4 := Lib.hid (HK3.out.grown hg4 (fun k hk => by simp [Value.ownBlock] at hk))
  have hgb' : g ≠ b := by have := lt_of_block HR3.out; omega
  have c0' := hR4.c0
  have c1' := hR4.c1
  have HR4 := Lib.hid hR4
  have Hrow := Lib.hid hrow
  clear hR4 hrow hgn hat hown hg4 c0 c1
  refine hK _ _ (fun _ => ⟨c0', c1'⟩) ?_
  clear hK K
  (try simp only [Act.put, List.setIfInBounds_toArray, List.set_cons_zero, List.set_cons_succ])
  (refine wpOrd_eff rfl rfl (fun K hK => ?_); go_simp; refine hK _ _ (fun _ => ⟨c0', c1'⟩) ?_; clear hK K; (try simp only [Act.put, List.setIfInBounds_toArray, List.set_cons_zero, List.set_cons_succ]))
  refine wpOrd_nil ?_
  have f1 := HR4.out.f1
  go_wp2_with fail
  have hR5 : Rd (W4.setCell ⟨b, 1, none⟩ (.int .i64 1)) b s 1 l deep zero := block_setCell HR4.out 1 _
  have hK5 : Keeps (fun k => k = b) w (W4.setCell ⟨b, 1, none⟩ (.int .i64 1)) := HK4.out.setCell (fun _ => rfl) _
  have hg5 : (W4.setCell ⟨b, 1, none⟩ (.int .i64 1)).heap[g]? = some (.cells cur 5 (0, 0)) := by rw [block_setCell_ne (by exact hgb')]; exact hgb
  have hrow5 : (W4.setCell ⟨b, 1, none⟩ (.int .i64 1)).cell? ⟨g, 0, none⟩ = some (.int .u8 (s[0].toNat : Int)) := by
    rw [cell_of_block hg5, ← cell_of_block hgb]; exact Hrow.out
  obtain ⟨W5, hW5⟩ : ∃ W5, W5 = W4.setCell ⟨b, 1, none⟩ (.int .i64 1) := ⟨_, rfl⟩
  rw [← hW5] at hR5 hK5 hg5 hrow5 ⊢
  clear hW5 f1 HR4 HK4 Hrow hgb c0' c1'
  have HR5 := Lib.hid hR5
  have HK5 := Lib.hid hK5
  have Hrow5 := Lib.hid hrow5
  clear hR5 hK5 hrow5
  refine (blank_at 1 HR5.out hs h1 Hnb.out).mono ?_
  rintro _ w1 ⟨rfl, n6, rfl⟩
  obtain ⟨W6, hW6⟩ : ∃ W6, W6 = W5.drewN n6 := ⟨_, rfl⟩
  have HR6 := Lib.hid (show Rd W6 b s 1 l deep zero by rw [hW6]; exact HR5.out)
  have HK6 := Lib.hid (show Keeps (fun k => k = b) w W6 by rw [hW6]; exact HK5.out.drewN n6)
  have hg6 : W6.heap[g]? = some (.cells cur 5 (0, 0)) := by rw [hW6]; exact hg5
  have Hrow6 := Lib.hid (show W6.cell? ⟨g, 0, none⟩ = some (.int .u8 (s[0].toNat : Int)) by rw [hW6]; exact Hrow5.out)
  rw [← hW6]
  clear hW6 hg5 HR5 HK5 Hrow5
  have c0 := HR6.out.c0
  have c1 := HR6.out.c1
  go_wp2_with fail
  rw [rounds_succ]
  go_wp2_with fail
  go_quiet ((go_at_call 206; exact Calls.quiet_of_same (sign_calls _ _ Hns.out _)))
  obtain ⟨W7, hW7⟩ : ∃ W7, W7 = W6.drewN nq := ⟨_, rfl⟩
  have HR7 := Lib.hid (show Rd W7 b s (1 : Nat) l deep zero by rw [hW7]; exact HR6.out)
  have HK7 := Lib.hid (show Keeps (fun k => k = b) w W7 by rw [hW7]; exact HK6.out.drewN nq)
  have hg7 : W7.heap[g]? = some (.cells cur 5 (0, 0)) := by rw [hW7]; exact hg6
  have Hrow7 := Lib.hid (show W7.cell? ⟨g, 0, none⟩ = some (.int .u8 (s[0].toNat : Int)) by rw [hW7]; exact Hrow6.out)
  rw [← hW7]
  clear hW7 c0 c1 hg6 HR6 HK6 Hrow6
  have HG7 := Lib.hid hg7
  clear hg7
  go_wp2_with fail
  refine (primary_num 1 HR7.out hs HD.out).mono ?_
  rintro _ W8 ⟨rfl, hR8, hK8⟩
  have R8 := Lib.hid hR8
  have K8 := Lib.hid (HK7.out.trans hK8)
  have hg8 := hK8.at HG7.out hgb'
  have hrow8 : W8.cell? ⟨g, 0, none⟩ = some (.int .u8 45) := by
    rw [cell_of_block hg8, ← cell_of_block HG7.out, ← Hb0.out]; exact Hrow7.out
  clear hR8 hK8 hg8
  rw [Hdrop.out]
  go_wp2_with fail
  refine wp_loop_rounds 2 ?_
  rw [rounds_succ]
  go_wp2
  rw [rounds_succ]
  go_wp2
  go_ret
  exact ⟨rfl, R8.out, K8.out⟩
end Go.Proofs.YtbhmapcjcnceiaaGreatDoor
