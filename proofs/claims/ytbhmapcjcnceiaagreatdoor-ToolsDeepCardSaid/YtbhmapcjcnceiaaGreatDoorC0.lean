/- Reckoning of a numeral: the leaves. -/
import Derived.Test.YtbhmapcjcnceiaaGreatDoorB1
namespace Go.Proofs.YtbhmapcjcnceiaaGreatDoor
open Go Go.RowKit

/-- A digit. -/
def isDig (c : Int) : Bool := decide (48 ≤ c) && decide (c ≤ 57)
theorem digit_calls (c : Int) (w : World) : Calls Tryz.prog 302 #[.int .u8 c] w fun e w' => e = .returned (.bool (isDig c)) ∧ w = w' := by
  by_cases h1 : 48 ≤ c
  · by_cases h2 : c ≤ 57
    · have h3 : isDig c = true := by simp [isDig, h1, h2]
      rw [h3]
      go_enter Tryz.func302, Tryz.ntmps302
      go_wp2
      go_ret
      exact ⟨by simp [h1, h2], rfl⟩
    · have h3 : isDig c = false := by simp [isDig, h1, h2]
      rw [h3]
      go_enter Tryz.func302, Tryz.ntmps302
      go_wp2
      go_ret
      exact ⟨by simp [h1, h2], rfl⟩
  · have h3 : isDig c = false := by simp [isDig, h1]
    have h1' : decide (48 ≤ c) = false := by simp [h1]
    rw [h3]
    go_enter Tryz.func302, Tryz.ntmps302
    go_wp2
    go_ret
    exact ⟨by simp [h1], rfl⟩
theorem digit_yes (c : Int) (w : World) (h1 : 48 ≤ c) (h2 : c ≤ 57) : Calls Tryz.prog 302 #[.int .u8 c] w fun e w' => e = .returned (.bool true) ∧ w = w' :=
  (digit_calls c w).mono fun e w' ⟨he, hw⟩ => ⟨by rw [he]; simp [isDig, h1, h2], hw⟩
theorem start_dig (c : Int) (w : World) (h1 : 48 ≤ c) (h2 : c ≤ 57) : Calls Tryz.prog 308 #[.int .u8 c] w fun e w' => e = .returned (.bool false) ∧ w = w' := by
  have t1 : decide (c ≥ 97) = false := by simp; omega
  have t2 : decide (c ≥ 65) = false := by simp; omega
  have t3 : (c == 95) = false := by simp; omega
  go_enter Tryz.func308, Tryz.ntmps308
  go_wp2
  go_ret
  exact ⟨rfl, rfl⟩
/-- What digits tell, in 64 bits. -/
def valU (l : List UInt8) : Nat := l.foldl (fun n c => (n * 10 + (c.toNat - 48)) % 18446744073709551616) 0
theorem valU_snoc (l : List UInt8) (c : UInt8) : valU (l ++ [c]) = (valU l * 10 + (c.toNat - 48)) % 18446744073709551616 := by simp [valU]
theorem u64_wrap (n : Int) : IntKind.u64.wrap n = n % 18446744073709551616 := by simp [IntKind.wrap, IntKind.bits, IntKind.signed]
theorem valU_step (v : Nat) (b : UInt8) (h1 : 48 ≤ b.toNat) (h2 : b.toNat ≤ 57) :
    IntKind.u64.wrap (IntKind.u64.wrap ((v : Int) * 10) + ((b.toNat : Int) - 48)) = (((v * 10 + (b.toNat - 48)) % 18446744073709551616 : Nat) : Int) := by
  rw [u64_wrap, u64_wrap]
  omega
theorem take_snoc (s : ByteArray) (k : Nat) (h : k < s.size) : s.data.toList.take (k + 1) = s.data.toList.take k ++ [s[k]] := by
  rw [List.take_succ_eq_append_getElem (by simpa using h)]; rfl
theorem mem_at (s : ByteArray) (k : Nat) (h : k < s.size) : s[k] ∈ s.data.toList := by
  show s.data[k] ∈ s.data.toList
  simp
theorem take_all (s : ByteArray) (k : Nat) (h : s.size ≤ k) : s.data.toList.take k = s.data.toList := List.take_of_length_le (by simpa using h)
theorem digits_calls (s : ByteArray) (w : World) (hs : s.size ≤ 4096) (hd : ∀ c ∈ s.data.toList, 48 ≤ c.toNat ∧ c.toNat ≤ 57) (h0 : 0 < s.size) :
    Calls Tryz.prog 303 #[.string s] w fun e w' => e = .returned (.tuple #[.int .i64 (wrap64 (valU s.data.toList)), .bool true]) ∧ w = w' := by
  have Hd := Lib.hid hd
  clear hd
  have t2 : s.toList.isEmpty = false := by
    rw [ByteArray.toList_eq]
    cases hh : s.data.toList with
    | nil => have : s.size = s.data.toList.length := rfl; rw [hh] at this; rw [this] at h0; simp at h0
    | cons a l => rfl
  go_enter Tryz.func303, Tryz.ntmps303
  go_wp2
  go_loop [4, 5, 8] (fun n i k8 => ∃ k : Nat, k ≤ s.size ∧ k8 = .int .i64 k ∧ n = .int .u64 (valU (s.data.toList.take k))) (fun _ _ k8 => s.size - (intOf k8).toNat)
  case atStart => exact ⟨0, by omega, rfl, rfl⟩
  case round =>
    obtain ⟨k, hk, rfl, rfl⟩ := hrel
    by_cases hlt : k < s.size
    · have hb := Hd.out _ (mem_at s k hlt)
      have hb1 : (48 : Int) ≤ (s[k].toNat : Int) := by omega
      have hb2 : (s[k].toNat : Int) ≤ 57 := by omega
      have HS := Lib.hid (valU_step (valU (s.data.toList.take k)) s[k] hb.1 hb.2)
      have HT := Lib.hid (take_snoc s k hlt)
      clear hb
      go_wp2_with (go_at_call 302; refine (digit_yes _ _ hb1 hb2).mono ?_; rintro _ _ ⟨rfl, rfl⟩)
      go_round
      case rel => exact ⟨k + 1, by omega, by go_num, by rw [HT.out, valU_snoc, ← HS.out]⟩
      case measure => simp [intOf]; omega
    · go_wp2
      go_ret2
      refine ⟨?_, rfl⟩
      show Ending.returned (.tuple #[.int .i64 (wrap64 (valU (s.data.toList.take k))), .bool true]) = _
      rw [take_all s k (by omega)]

/-- The reader in memory. -/
def Rd (w : World) (b : Nat) (s : ByteArray) (i : Int) (l : Value) (deep : Int) (zero : Bool) : Prop := w.heap[b]? = some (.cells #[.string s, .int .i64 i, l, .int .i64 deep, .bool zero] 206 (0, 0))
theorem Rd.c0 {w : World} {b : Nat} {s : ByteArray} {i : Int} {l : Value} {deep : Int} {zero : Bool} (h : Rd w b s i l deep zero) : w.cell? ⟨b, 0, none⟩ = some (.string s) := by have := cell_of_block h 0; simpa using this
theorem Rd.c1 {w : World} {b : Nat} {s : ByteArray} {i : Int} {l : Value} {deep : Int} {zero : Bool} (h : Rd w b s i l deep zero) : w.cell? ⟨b, 1, none⟩ = some (.int .i64 i) := by have := cell_of_block h 1; simpa using this
theorem Rd.c4 {w : World} {b : Nat} {s : ByteArray} {i : Int} {l : Value} {deep : Int} {zero : Bool} (h : Rd w b s i l deep zero) : w.cell? ⟨b, 4, none⟩ = some (.bool zero) := by have := cell_of_block h 4; simpa using this
theorem Rd.f1 {w : World} {b : Nat} {s : ByteArray} {i : Int} {l : Value} {deep : Int} {zero : Bool} (h : Rd w b s i l deep zero) : w.frozen? ⟨b, 1, none⟩ = false := frozen_of_block h 1
theorem Rd.fresh {w w' : World} {b : Nat} {s : ByteArray} {i : Int} {l : Value} {deep : Int} {zero : Bool} (h : Rd w b s i l deep zero) (hk : Fresh w w') : Rd w' b s i l deep zero := hk.at h (fun x => x)
theorem Fresh.drewN (w : World) (n : Nat) : Fresh w (w.drewN n) := (Keeps.refl _ w).drewN n

/-- Nothing to pass over: the end. -/
theorem blank_end {w : World} {b : Nat} {s : ByteArray} {l : Value} {deep : Int} {zero : Bool} (h : Rd w b s s.size l deep zero) (hs : s.size ≤ 4096) :
    Calls Tryz.prog 233 #[.pointer (some ⟨b, 0, none⟩)] w fun e w' => e = .returned (.tuple #[]) ∧ ∃ n, w' = w.drewN n := by
  have c0 := h.c0
  have c1 := h.c1
  clear h
  go_enter Tryz.func233, Tryz.ntmps233
  go_wp2
  refine wp_loop_rounds 1 ?_
  rw [rounds_succ]
  go_wp2
  go_quiet (fail)
  go_wp2
  go_end0
  exact ⟨rfl, _, rfl⟩
/-- A byte that is no blank. -/
theorem notBlank_calls (c : UInt8) (h : c ≠ 32 ∧ c ≠ 9 ∧ c ≠ 10) (w : World) :
    Calls Tryz.prog 206 #[.string ⟨#[32, 9, 10]⟩, .int .u8 (c.toNat : Int)] w fun e w' => e = .returned (.int .i64 (-1)) ∧ w' = w := by
  refine (Tryz.strings_IndexByte ⟨#[32, 9, 10]⟩ c.toNat w).mono fun e w' ⟨he, hw⟩ => ⟨?_, hw⟩
  rw [he]
  have : Lib.indexByte [32, 9, 10] c = -1 := by
    simp [Lib.indexByte, Ne.symm h.1, Ne.symm h.2.1, Ne.symm h.2.2]
  simpa using this
theorem blank_at {w : World} {b : Nat} {s : ByteArray} {l : Value} {deep : Int} {zero : Bool} (i : Nat) (h : Rd w b s i l deep zero) (hs : s.size ≤ 4096) (hi : i < s.size)
    (hc : s[i] ≠ 32 ∧ s[i] ≠ 9 ∧ s[i] ≠ 10) :
    Calls Tryz.prog 233 #[.pointer (some ⟨b, 0, none⟩)] w fun e w' => e = .returned (.tuple #[]) ∧ ∃ n, w' = w.drewN n := by
  have c0 := h.c0
  have c1 := h.c1
  have hi' : (i : Int) < s.size := by omega
  have hi'' : (0 : Int) ≤ i := by omega
  have H := Lib.hid hc
  clear h hc
  go_enter Tryz.func233, Tryz.ntmps233
  go_wp2
  refine wp_loop_rounds 1 ?_
  rw [rounds_succ]
  go_wp2
  go_quiet ((go_at_call 206; exact Calls.quiet_of_same (notBlank_calls _ H.out _)))
  go_wp2
  go_end0
  exact ⟨rfl, _, rfl⟩
end Go.Proofs.YtbhmapcjcnceiaaGreatDoor
