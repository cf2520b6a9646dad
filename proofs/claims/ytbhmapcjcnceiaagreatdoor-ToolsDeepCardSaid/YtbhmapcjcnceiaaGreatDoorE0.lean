/- The walk of the law ToolsPrint: it returns true, and changes nothing that was. -/
import Derived.Test.YtbhmapcjcnceiaaGreatDoorD5
namespace Go.Proofs.YtbhmapcjcnceiaaGreatDoor
open Go Go.RowKit

theorem six_other {c : UInt8} {r : List UInt8} (h1 : c ≠ 37) (h2 : c ≠ 92) : (c :: r).take 2 ∉ six := by
  unfold six
  cases r <;> simp [h1, h2]
theorem pf_plain : ∀ {l : List UInt8} {r : List UInt8} {a : List ByteArray} {o : List UInt8}, (∀ c ∈ l, c ≠ 37 ∧ c ≠ 92) → PfS r a o → PfS (l ++ r) a (l ++ o)
  | [], _, _, _, _, h => h
  | c :: l, _, _, _, hl, h => .other c _ _ _ (six_other (hl c (by simp)).1 (hl c (by simp)).2) (pf_plain (fun x hx => hl x (List.mem_cons_of_mem _ hx)) h)

/-- What printf is to write of the law's format. -/
def told (s : ByteArray) (n : Int) : ByteArray := s ++ s ++ ⟨#[124]⟩ ++ B (Lib.itoa n) ++ ⟨#[37, 9, 37, 120, 10]⟩
theorem pf_law (s : ByteArray) (n : Int) (h1 : -9223372036854775808 ≤ n) (h2 : n ≤ 9223372036854775807) (more : List ByteArray) (hs : ∀ c ∈ s.data.toList, c ≠ 37 ∧ c ≠ 92) :
    PfS (s ++ ⟨#[37, 115, 124, 37, 100, 37, 37, 92, 116, 37, 120, 92, 110]⟩).data.toList (s :: B (Lib.itoa n) :: more) (told s n).data.toList := by
  have e1 : (s ++ ⟨#[37, 115, 124, 37, 100, 37, 37, 92, 116, 37, 120, 92, 110]⟩ : ByteArray).data.toList = s.data.toList ++ [37, 115, 124, 37, 100, 37, 37, 92, 116, 37, 120, 92, 110] := by simp [ByteArray.data_append]
  have e2 : (told s n).data.toList = s.data.toList ++ (s.data.toList ++ (124 :: (Lib.itoa n ++ [37, 9, 37, 120, 10]))) := by simp [told, ByteArray.data_append, B_data]
  rw [e1, e2]
  refine pf_plain hs (.str _ _ _ _ (.other 124 _ _ _ (by decide) (.num _ _ _ _ h1 h2 (.pct _ _ _ (.tab _ _ _ (.other 37 _ _ _ (by decide) (.other 120 _ _ _ (by decide) (.nl _ _ _ (.nil _)))))))))

theorem byte_ne {a b : UInt8} {n : Int} (hn : n = (b.toNat : Int)) (h : a ≠ b) : ((a.toNat : Int) == n) = false := by
  rw [beq_eq_false_iff_ne]
  intro e
  exact h (UInt8.toNat_inj.1 (by omega))
theorem pre_step {s : ByteArray} {k : Nat} (hlt : k < s.size) (p : UInt8 → Prop) (h : ∀ c ∈ s.data.toList.take k, p c) (hp : p s[k]) : ∀ c ∈ s.data.toList.take (k + 1), p c := by
  have hg : s.data.toList[k]? = some s[k] := by
    have h1 : k < s.data.toList.length := by rw [Array.length_toList]; exact hlt
    rw [List.getElem?_eq_getElem h1]
    rfl
  intro c hc
  rw [List.take_add_one, hg] at hc
  simp at hc
  rcases hc with hc | rfl
  · exact h c hc
  · exact hp
theorem pre_all {s : ByteArray} (p : UInt8 → Prop) (h : ∀ c ∈ s.data.toList.take s.size, p c) : ∀ c ∈ s.data.toList, p c := by
  rwa [List.take_of_length_le (Nat.le_of_eq (by rw [Array.length_toList]; rfl))] at h

set_option maxRecDepth 10000 in
set_option maxHeartbeats 1600000 in
theorem print_calls {w : World} (hE : Env w) (s : ByteArray) (n : Int) (h1 : -9223372036854775808 ≤ n) (h2 : n ≤ 9223372036854775807) (oa : Option Addr) (c : Nat) (more : List ByteArray) (hm : ReadRow w oa c (more.map Value.string)) :
    Calls Tryz.prog 3 #[.string s, .int .i64 n, .slice oa more.length c] w fun e w' => e = .returned (.bool true) ∧ Fresh w w' := by
  have HE := Lib.hid hE
  have HM := Lib.hid hm
  have H1 := Lib.hid h1
  have H2 := Lib.hid h2
  clear hE hm h1 h2
  go_enter Tryz.func3, Tryz.ntmps3
  go_wp2_with fail
  refine (alive_calls HE.out).mono ?_
  rintro _ w1 ⟨rfl, hF1⟩
  have HF1 := Lib.hid hF1
  clear hF1
  go_wp2_with fail
  any_goals (go_ret; exact ⟨rfl, HF1.out⟩)
  rename_i hb1 hb2
  have hb1' : s.size ≤ 200 := by omega
  have hb2' : more.length ≤ 10 := by omega
  go_loop [8] (fun i => ∃ k : Nat, k ≤ s.size ∧ i = .int .i64 k ∧ ∀ c ∈ s.data.toList.take k, c ≠ 37 ∧ c ≠ 92) (fun i => s.size - (intOf i).toNat)
  case atStart => exact ⟨0, by omega, rfl, by simp⟩
  case round =>
    obtain ⟨k, hk, rfl, hpre⟩ := hrel
    have HP := Lib.hid hpre
    clear hpre
    by_cases hlt : k < s.size
    · by_cases e1 : s[k] = 37
      · have t1 : ((s[k].toNat : Int) == 37) = true := by rw [e1]; rfl
        go_wp2
        go_ret
        exact ⟨rfl, HF1.out⟩
      · have t1 : ((s[k].toNat : Int) == 37) = false := byte_ne rfl e1
        by_cases e2 : s[k] = 92
        · have t2 : ((s[k].toNat : Int) == 92) = true := by rw [e2]; rfl
          go_wp2
          go_ret
          exact ⟨rfl, HF1.out⟩
        · have t2 : ((s[k].toNat : Int) == 92) = false := byte_ne rfl e2
          go_wp2
          go_round
          case rel => exact ⟨k + 1, by omega, by go_num, pre_step hlt (fun c => c ≠ 37 ∧ c ≠ 92) HP.out ⟨e1, e2⟩⟩
          case measure => simp [intOf]; omega
    · obtain rfl : k = s.size := by omega
      have HA := Lib.hid (pre_all (fun c => c ≠ 37 ∧ c ≠ 92) HP.out)
      clear HP
      go_wp2_with fail
      refine (int_ref n H1.out H2.out _).mono ?_
      rintro _ _ ⟨rfl, rfl⟩
      have HP := Lib.hid (pf_law s n H1.out H2.out more HA.out)
      have hsz : (told s n).data.toList.length = s.size + s.size + 1 + (Lib.itoa n).length + 5 := by
        show (told s n).size = _
        simp only [told, ByteArray.size_append, B_size]
        rfl
      have hil : (Lib.itoa n).length ≤ 21 := itoa_len n H1.out H2.out
      have HSZ := Lib.hid hsz
      generalize hG : s ++ ⟨#[37, 115, 124, 37, 100, 37, 37, 92, 116, 37, 120, 92, 110]⟩ = G at HP ⊢
      have hF2 : Fresh w1 (w1.alloc (.cells #[.string G, .string s, .string (B (Lib.itoa n))] 9)) := (Keeps.refl _ w1).alloc _
      have hb2 : (w1.alloc (.cells #[.string G, .string s, .string (B (Lib.itoa n))] 9)).heap[w1.heap.size]? = some (.cells #[.string G, .string s, .string (B (Lib.itoa n))] 9 (0, 0)) := heap_alloc_new w1 _
      have hown0 : (w1.alloc (.cells #[.string G, .string s, .string (B (Lib.itoa n))] 9)).ownsRow 9 9 1 (.slice (some ⟨w1.heap.size, 0, none⟩) 3 3) 3 [.string G, .string s, .string (B (Lib.itoa n))] :=
        ⟨rfl, Or.inr ⟨w1.heap.size, 3, _, rfl, (HE.out.fresh HF1.out).len, hb2, Nat.le_refl _, by decide, rfl, rfl⟩⟩
      have Q1 := Lib.hid (show oa = none → more.length = 0 ∧ c = 0 from fun h => by have := HM.out.1 h; rwa [List.length_map] at this)
      have Q2 := Lib.hid (show ∀ ad, oa = some ad → ∀ j u, (more.map Value.string)[j]? = some u → (w1.alloc (.cells #[.string G, .string s, .string (B (Lib.itoa n))] 9)).cell? (ad.add j) = some u from ((HM.out.fresh HF1.out).fresh hF2).2)
      have Q3 := Lib.hid (show (more.map Value.string).length = more.length by rw [List.length_map])
      have Q4 := Lib.hid (show (3 + more.length) * 16 ≤ 140737488355328 by omega)
      have Hown0 := Lib.hid hown0
      have HF2 := Lib.hid hF2
      have Hsz2 := Lib.hid (show 9 ≤ (w1.alloc (.cells #[.string G, .string s, .string (B (Lib.itoa n))] 9)).heap.size from Nat.le_trans (HE.out.fresh HF1.out).len hF2.size)
      clear hown0 hF2 hb2 hsz hk hlt
      go_wp2_with (at_builtin; go_must (refine wp_app_row rfl _ _ _ rfl 9 9 (.string ⟨#[]⟩) 16 Tryz.underlying22 info_str rfl (.slice (some ⟨w1.heap.size, 0, none⟩) 3 3) 3 _ rfl Hown0.out oa more.length c (more.map Value.string) rfl Q1.out Q3.out Q2.out (strs_one _) Q4.out (by decide) Hsz2.out ?_); intro ao ac w2 hown hg2 hat)
      have hF3 : Fresh w w2 := by
        refine Keeps.grown (HF1.out.trans HF2.out) hg2 (fun k hk hlt => ?_)
        have := HF1.out.size
        simp only [Value.ownBlock, Option.some.injEq] at hk
        omega
      obtain ⟨L, hL⟩ : ∃ L, L = G :: s :: B (Lib.itoa n) :: more := ⟨_, rfl⟩
      have hlen : 3 + more.length = L.length := by rw [hL]; simp only [List.length_cons]; omega
      have hsh := hown.shape2
      have hrow : RowAt w2 9 ao (L.map Value.string) := by rw [hL]; exact RowAt.of_owns hown
      rw [hlen] at hsh ⊢
      have hs2 : Strs w2 ao ac L := ⟨hsh.1, hsh.2.1, hsh.2.2, hrow⟩
      have HF3 := Lib.hid hF3
      have HS2 := Lib.hid hs2
      have HL := Lib.hid hL
      have HG := Lib.hid hG
      have hlL : L.length ≤ 1000 := by omega
      clear hF3 hs2 hrow hsh hL hown hg2 hat hlen Hown0 HF2 Hsz2 Q1 Q2 Q3 Q4 hG
      refine (new_calls 1 1 _ (by decide) (by decide)).mono ?_
      rintro _ w3 ⟨rfl, hw3⟩
      have hF4 : Fresh w2 w3 := by rw [hw3]; exact ((Keeps.refl _ w2).alloc _).alloc _
      have HF4 := Lib.hid hF4
      clear hw3 hF4
      go_wp2_with fail
      have hol : (told s n).data.toList.length ≤ 1099511627776 := by have := HSZ.out; omega
      refine (run_calls (w := w3) (K := 66) (args := L) (F := fun _ => False) (st := 0) (o := (told s n).data.toList) (l := []) (Q := fun _ _ => True) ao ac
        (fun _ _ => by kernel_rfl) (by rfl) (HE.out.fresh (HF3.out.trans HF4.out)) ⟨HS2.out.1, HS2.out.2.1, HS2.out.2.2.1, HS2.out.2.2.2.fresh HF4.out⟩ hlL (fun _ h => h.elim) hol (by decide) (by rw [HL.out]; exact does_printf G _ _ HP.out hol)).mono ?_
      rintro _ w4 ⟨oo, oc, lo, lc, _, _, rfl, ho, hl, -, -, -, hk⟩
      have HF5 := Lib.hid ((HF3.out.trans HF4.out).trans hk)
      rw [List.take_of_length_le (by have := HSZ.out; omega)] at ho
      rw [show min (told s n).data.toList.length 65536 = (told s n).data.toList.length by have := HSZ.out; omega, show ([] : List UInt8).length = 0 from rfl]
      have HO := Lib.hid ho
      generalize hM : (told s n).data.toList.length = M
      have HM' := Lib.hid hM
      clear ho hl hk hol hM
      go_wp2_with fail
      have hcv : (convert 25 9 (.slice oo M oc)).run Tryz.prog (w4.alloc (.cells #[.int .i64 0, .slice oo M oc, .slice lo 0 lc] 27)).drew = .ok (.string (told s n)) (w4.alloc (.cells #[.int .i64 0, .slice oo M oc, .slice lo 0 lc] 27)).drew := string_of (l := (told s n).data.toList) HM'.out (HO.out.fresh ((Keeps.refl _ w4).alloc _).drew)
      have hI := int_ref n H1.out H2.out (w4.alloc (.cells #[.int .i64 0, .slice oo M oc, .slice lo 0 lc] 27)).drew
      have HF6 := Lib.hid ((HF5.out.alloc (.cells #[.int .i64 0, .slice oo M oc, .slice lo 0 lc] 27)).drew)
      have hbs : (B (Lib.itoa n)).size ≤ 21 := by rw [B_size]; exact hil
      unfold told at hcv
      generalize B (Lib.itoa n) = bi at hcv hI hbs
      have z1 : ¬ 9223372036854775807 < s.size + s.size := by omega
      have z2 : ¬ 9223372036854775807 < s.size + s.size + 1 := by omega
      have z3 : ¬ 9223372036854775807 < s.size + s.size + 1 + bi.size := by omega
      have z4 : ¬ 9223372036854775807 < s.size + s.size + 1 + bi.size + 5 := by omega
      have HI := Lib.hid hI
      have k0 : (w4.alloc (.cells #[.int .i64 0, .slice oo M oc, .slice lo 0 lc] 27)).drew.cell? ⟨w4.heap.size, 0, none⟩ = some (.int .i64 0) := by simp
      have k1 : (w4.alloc (.cells #[.int .i64 0, .slice oo M oc, .slice lo 0 lc] 27)).drew.cell? ⟨w4.heap.size, 1, none⟩ = some (.slice oo M oc) := by simp
      have k2 : (w4.alloc (.cells #[.int .i64 0, .slice oo M oc, .slice lo 0 lc] 27)).drew.cell? ⟨w4.heap.size, 2, none⟩ = some (.slice lo 0 lc) := by simp
      clear hI
      obtain ⟨W, hW⟩ : ∃ W, W = (w4.alloc (.cells #[.int .i64 0, .slice oo M oc, .slice lo 0 lc] 27)).drew := ⟨_, rfl⟩
      rw [← hW] at hcv HI HF6 k0 k1 k2
      refine wp_region_ord [0, 1, 2, 3, 4, 5, 6, 7, 8, 9, 10, 11, 12, 13, 14, 15, 16, 17, 18, 19, 20, 21, 22, 23] [12] [] (fun w => w = W) (by kernel_rfl) (by kernel_rfl) hW.symm ?_
      rw [← hW]
      clear hW
      repeat ((first | refine' wpOrd_take (v := _) rfl rfl rfl (fun _ _ _ h => h) ?_ ?_ | refine' wpOrd_takeg (v := _) rfl rfl rfl (fun _ _ _ h => h) ?_ ?_); rotate_left; (· intro w' hS; rw [hS]; go_simp; rfl); (try simp only [Act.put, List.setIfInBounds_toArray, List.set_cons_zero, List.set_cons_succ]))
      refine wpOrd_eff rfl rfl (fun K hK => ?_)
      rw [if_pos (by rfl)]
      go_simp
      refine HI.out.mono ?_
      rintro _ _ ⟨rfl, rfl⟩
      refine hK _ _ (fun _ => rfl) ?_
      clear hK K
      (try simp only [Act.put, List.setIfInBounds_toArray, List.set_cons_zero, List.set_cons_succ])
      repeat ((first | refine' wpOrd_take (v := _) rfl rfl rfl (fun _ _ _ h => h) ?_ ?_ | refine' wpOrd_takeg (v := _) rfl rfl rfl (fun _ _ _ h => h) ?_ ?_); rotate_left; (· intro w' hS; rw [hS]; go_simp; rfl); (try simp only [Act.put, List.setIfInBounds_toArray, List.set_cons_zero, List.set_cons_succ]))
      refine wpOrd_nil ?_
      go_wp2_with fail
      go_ret
      exact ⟨rfl, HF6.out⟩
end Go.Proofs.YtbhmapcjcnceiaaGreatDoor
