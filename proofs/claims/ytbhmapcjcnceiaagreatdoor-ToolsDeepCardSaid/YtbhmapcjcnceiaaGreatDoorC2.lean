/- Reckoning of a numeral: what stands for a number. -/
import Derived.Test.YtbhmapcjcnceiaaGreatDoorC1
namespace Go.Proofs.YtbhmapcjcnceiaaGreatDoor
open Go Go.RowKit

/-- All bytes are digits, and there is one. -/
def Digs (l : List UInt8) : Prop := l ≠ [] ∧ ∀ c ∈ l, 48 ≤ c.toNat ∧ c.toNat ≤ 57
theorem Digs.at {r : ByteArray} (h : Digs r.data.toList) (k : Nat) (hk : k < r.size) : 48 ≤ r[k].toNat ∧ r[k].toNat ≤ 57 := h.2 _ (mem_at r k hk)
theorem Digs.pos {r : ByteArray} (h : Digs r.data.toList) : 0 < r.size := by
  have : r.size = r.data.toList.length := rfl
  cases hc : r.data.toList with
  | nil => exact absurd hc h.1
  | cons x l => rw [this, hc]; simp

theorem run_digs (r : ByteArray) (h : Digs r.data.toList) (hs : r.size ≤ 4096) (w : World) :
    Calls Tryz.prog 300 #[.string r] w fun e w' => e = .returned (.int .i64 0) ∧ w = w' := by
  have hp := h.pos
  have hb := h.at 0 hp
  have hb1 : (48 : Int) ≤ (r[0].toNat : Int) := by omega
  have hb2 : (r[0].toNat : Int) ≤ 57 := by omega
  clear hb h
  go_enter Tryz.func300, Tryz.ntmps300
  go_wp2
  refine wp_loop_rounds 1 ?_
  rw [rounds_succ]
  go_wp2_with (go_at_call 308; refine (start_dig _ _ hb1 hb2).mono ?_; rintro _ _ ⟨rfl, rfl⟩)
  go_ret
  exact ⟨rfl, rfl⟩

set_option maxHeartbeats 800000 in
theorem primary_num {w : World} {b : Nat} {s : ByteArray} {l : Value} {deep : Int} {zero : Bool} (i : Nat) (h : Rd w b s i l deep zero) (hs : s.size ≤ 4096) (hd : Digs (s.data.toList.drop i)) :
    Calls Tryz.prog 282 #[.pointer (some ⟨b, 0, none⟩)] w fun e w' => e = .returned (.int .i64 (wrap64 (valU (s.data.toList.drop i)))) ∧ Rd w' b s s.size l deep zero ∧ Keeps (fun k => k = b) w w' := by
  have hi : i < s.size := by
    have : s.size = s.data.toList.length := rfl
    have h1 := hd.1
    rcases Nat.lt_or_ge i s.size with hlt | hge
    · exact hlt
    · exact absurd (List.drop_of_length_le (by omega)) h1
  have hc : 48 ≤ s[i].toNat ∧ s[i].toNat ≤ 57 := by
    have : s[i] ∈ s.data.toList.drop i := by
      rw [List.drop_eq_getElem_cons (by simpa using hi)]
      exact List.mem_cons_self
    exact hd.2 _ this
  have hnb : s[i] ≠ 32 ∧ s[i] ≠ 9 ∧ s[i] ≠ 10 := by
    refine ⟨?_, ?_, ?_⟩ <;> (intro e; rw [e] at hc; revert hc; decide)
  obtain ⟨r, hr⟩ : ∃ r, r = s.extract i s.size := ⟨_, rfl⟩
  have hrl : r.data.toList = s.data.toList.drop i := by rw [hr, Lib.extract_data]; exact List.take_of_length_le (by simp)
  have hrs : r.size = s.size - i := by rw [hr]; simp
  have hD : Digs r.data.toList := by rw [hrl]; exact hd
  have hrp := hD.pos
  have hr0 := hD.at 0 hrp
  have HD := Lib.hid hD
  have HR := Lib.hid hr
  have HL := Lib.hid hrl
  have HS := Lib.hid hrs
  have H := Lib.hid h
  have Hnb := Lib.hid hnb
  have hrs' : r.size ≤ 4096 := by omega
  clear h hd hc hnb hr hrl hrs hD
  go_enter Tryz.func282, Tryz.ntmps282
  go_wp2_with fail
  refine (blank_at i H.out hs hi Hnb.out).mono ?_
  rintro _ w1 ⟨rfl, n1, rfl⟩
  obtain ⟨W, hW⟩ : ∃ W, W = w.drewN n1 := ⟨_, rfl⟩
  have KW : Keeps (fun k => k = b) w W := by rw [hW]; exact (Keeps.refl _ w).drewN n1
  have RW : Rd W b s i l deep zero := by rw [hW]; exact H.out
  rw [← hW]
  clear hW
  have c0 := RW.c0
  have c1 := RW.c1
  have f1 := RW.f1
  have HRW := Lib.hid RW
  clear RW
  have z0 : (0 : Int) ≤ (i : Int) := Int.natCast_nonneg _
  have z1 : (i : Int) ≤ (s.size : Int) := by omega
  go_wp2_with fail
  go_quiet (fail)
  rw [← HR.out]
  obtain ⟨W2, hW2⟩ : ∃ W2, W2 = W.drewN nq := ⟨_, rfl⟩
  have KW2 : Keeps (fun k => k = b) w W2 := by rw [hW2]; exact KW.drewN nq
  have HRW2 := Lib.hid (show Rd W2 b s i l deep zero by rw [hW2]; exact HRW.out)
  rw [← hW2]
  clear hW2 c0 c1 f1 HRW KW
  have c1 := HRW2.out.c1
  have f1 := HRW2.out.f1
  have t1 : r.toList.isEmpty = false := by
    rw [ByteArray.toList_eq]
    cases hh : r.data.toList with
    | nil => exact absurd hh HD.out.1
    | cons a l => rfl
  have t2 : ((r[0].toNat : Int) == 40) = false := by simp; omega
  have HK := Lib.hid KW2
  clear KW2
  go_wp2_with (go_at_call 300; refine (run_digs r HD.out hrs' _).mono ?_; rintro _ _ ⟨rfl, rfl⟩)
  go_loop [5] (fun n => ∃ k : Nat, k ≤ r.size ∧ n = .int .i64 k) (fun n => r.size - (intOf n).toNat)
  case atStart => exact ⟨0, by omega, rfl⟩
  case round =>
    obtain ⟨k, hk, rfl⟩ := hrel
    by_cases hlt : k < r.size
    · have hb := HD.out.at k hlt
      have hb1 : (48 : Int) ≤ (r[k].toNat : Int) := by omega
      have hb2 : (r[k].toNat : Int) ≤ 57 := by omega
      clear hb
      go_wp2_with (go_at_call 302; refine (digit_yes _ _ hb1 hb2).mono ?_; rintro _ _ ⟨rfl, rfl⟩)
      go_round
      case rel => exact ⟨k + 1, by omega, by go_num⟩
      case measure => simp [intOf]; omega
    · obtain rfl : k = r.size := by omega
      have hsum : (i : Int) + (r.size : Int) = (s.size : Int) := by have := HS.out; omega
      have Hsum := Lib.hid hsum
      clear hsum
      go_wp2_with fail
      refine (digits_calls r _ hrs' HD.out.2 hrp).mono ?_
      rintro _ _ ⟨rfl, rfl⟩
      go_wp2
      go_ret
      have hfin := block_setCell HRW2.out 1 (.int .i64 ((i : Int) + (r.size : Int)))
      rw [Hsum.out] at hfin ⊢
      refine ⟨?_, hfin, HK.out.setCell (fun _ => rfl) _⟩
      rw [← HL.out]
      rfl
end Go.Proofs.YtbhmapcjcnceiaaGreatDoor
