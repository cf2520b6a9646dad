/- Numerals: what the reference writes of a number, and that Eval reckons it back. -/
import Derived.Test.YtbhmapcjcnceiaaGreatDoorC5
namespace Go.Proofs.YtbhmapcjcnceiaaGreatDoor
open Go Go.RowKit

theorem dig_toNat (k : Nat) (h : k < 10) : (UInt8.ofNat (48 + k)).toNat = 48 + k := by
  rw [UInt8.toNat_ofNat']
  omega
/-- The digits of a number: they are digits, few, and tell it. -/
theorem decDigits_spec : ∀ (u : Nat), u < 18446744073709551616 → Digs (Lib.decDigits u) ∧ valU (Lib.decDigits u) = u := by
  intro u
  induction u using Nat.strongRecOn with
  | ind u ih =>
    intro hu
    rw [Lib.decDigits]
    by_cases h : u < 10
    · rw [dif_pos h]
      refine ⟨⟨by simp, fun c hc => ?_⟩, ?_⟩
      · obtain rfl := List.mem_singleton.1 hc
        rw [dig_toNat u h]; omega
      · simp only [valU, List.foldl_cons, List.foldl_nil, dig_toNat u h]; omega
    · rw [dif_neg h]
      obtain ⟨⟨h1, h2⟩, h3⟩ := ih (u / 10) (by omega) (by omega)
      refine ⟨⟨by simp, fun c hc => ?_⟩, ?_⟩
      · rcases List.mem_append.1 hc with hc | hc
        · exact h2 c hc
        · obtain rfl := List.mem_singleton.1 hc
          rw [dig_toNat (u % 10) (by omega)]; omega
      · rw [valU_snoc, h3, dig_toNat (u % 10) (by omega)]; omega
theorem decDigits_len (k : Nat) : ∀ (u : Nat), u < 10 ^ (k + 1) → (Lib.decDigits u).length ≤ k + 1 := by
  induction k with
  | zero => intro u hu; rw [Lib.decDigits, dif_pos (by simpa using hu)]; simp
  | succ k ih =>
    intro u hu
    rw [Lib.decDigits]
    by_cases h : u < 10
    · rw [dif_pos h]; simp
    · rw [dif_neg h]
      have := ih (u / 10) (by rw [Nat.pow_succ] at hu; omega)
      simp; omega
theorem decDigits_len20 (u : Nat) (h : u < 18446744073709551616) : (Lib.decDigits u).length ≤ 20 := decDigits_len 19 u (by omega)
theorem itoa_len (n : Int) (h1 : -9223372036854775808 ≤ n) (h2 : n ≤ 9223372036854775807) : (Lib.itoa n).length ≤ 21 := by
  unfold Lib.itoa
  split
  · have := decDigits_len20 n.natAbs (by omega); simp; omega
  · have := decDigits_len20 n.toNat (by omega); omega

/-- A text of these bytes. -/
def B (l : List UInt8) : ByteArray := ⟨l.toArray⟩
theorem B_data (l : List UInt8) : (B l).data.toList = l := by simp [B]
theorem B_size (l : List UInt8) : (B l).size = l.length := by simp [B, ByteArray.size]
theorem B_append (a b : List UInt8) : B a ++ B b = B (a ++ b) := by
  have h : (B a ++ B b).data = (B (a ++ b)).data := by simp [B, ByteArray.data_append]
  exact ByteArray.ext h

theorem ten_piece (d : Nat) (h : d < 10) : ({ data := #[48, 49, 50, 51, 52, 53, 54, 55, 56, 57] } : ByteArray).extract d (d + 1) = B [UInt8.ofNat (48 + d)] := by
  match d, h with
  | 0, _ | 1, _ | 2, _ | 3, _ | 4, _ | 5, _ | 6, _ | 7, _ | 8, _ | 9, _ => rfl
set_option maxHeartbeats 800000 in
theorem digits_ref : ∀ (n : Nat), n ≤ 9223372036854775807 → ∀ w, Calls Tryz.prog 12 #[.int .i64 n] w fun e w' => e = .returned (.string (B (Lib.decDigits n))) ∧ w = w' := by
  intro n
  induction n using Nat.strongRecOn with
  | ind n ih =>
    intro hn w
    have z0 : (0 : Int) ≤ n := Int.natCast_nonneg _
    obtain ⟨t, ht⟩ : ∃ t, t = ({ data := #[48, 49, 50, 51, 52, 53, 54, 55, 56, 57] } : ByteArray).extract (n % 10) (n % 10 + 1) := ⟨_, rfl⟩
    have HT := Lib.hid ht
    have Ht := Lib.hid (ht.trans (ten_piece (n % 10) (by omega)))
    clear ht
    by_cases h9 : 9 < n
    · have hq : ((n : Int) / 10) = ((n / 10 : Nat) : Int) := by omega
      have IH := Lib.hid (ih (n / 10) (by omega) (by omega) w)
      have Hq := Lib.hid hq
      have hsz : ¬ 9223372036854775807 < (B (Lib.decDigits (n / 10))).size + t.size := by
        rw [Ht.out, B_size, B_size]
        have := decDigits_len20 (n / 10) (by omega)
        simp; omega
      have Hd := Lib.hid (show Lib.decDigits n = Lib.decDigits (n / 10) ++ [UInt8.ofNat (48 + n % 10)] by rw [Lib.decDigits, dif_neg (by omega)])
      clear ih hq
      go_enter Tryz.func12, Tryz.ntmps12
      go_wp2_with fail
      rw [Hq.out]
      refine IH.out.mono ?_
      rintro _ w' ⟨rfl, rfl⟩
      rw [← HT.out]
      go_wp2_with fail
      go_ret
      refine ⟨?_, rfl⟩
      show Ending.returned (.string (B (Lib.decDigits (n / 10)) ++ t)) = _
      rw [Ht.out, B_append, ← Hd.out]
    · have Hd := Lib.hid (show Lib.decDigits n = [UInt8.ofNat (48 + n % 10)] by rw [Lib.decDigits, dif_pos (by omega), Nat.mod_eq_of_lt (by omega)])
      clear ih
      go_enter Tryz.func12, Tryz.ntmps12
      go_wp2_with fail
      go_ret
      refine ⟨?_, rfl⟩
      rw [Hd.out, ← Ht.out, HT.out]
      rfl
theorem itoa_min : B (Lib.itoa (-9223372036854775808)) = ⟨#[45, 57, 50, 50, 51, 51, 55, 50, 48, 51, 54, 56, 53, 52, 55, 55, 53, 56, 48, 56]⟩ := by
  unfold Lib.itoa B
  rw [if_pos (by omega)]
  congr 1
  have : (-9223372036854775808 : Int).natAbs = 9223372036854775808 := by decide
  rw [this]
  repeat (rw [Lib.decDigits]; simp only [Nat.reduceLT, Nat.reduceDiv, Nat.reduceMod, Nat.reduceAdd, dif_pos, dif_neg, not_false_eq_true])
  rfl
set_option maxHeartbeats 800000 in
theorem int_ref (n : Int) (h1 : -9223372036854775808 ≤ n) (h2 : n ≤ 9223372036854775807) (w : World) :
    Calls Tryz.prog 9 #[.int .i64 n] w fun e w' => e = .returned (.string (B (Lib.itoa n))) ∧ w = w' := by
  by_cases hm : n = -9223372036854775808
  · have Hm := Lib.hid itoa_min
    have t : (n == -9223372036854775808) = true := by simp [hm]
    have HM := Lib.hid hm
    clear hm
    go_enter Tryz.func9, Tryz.ntmps9
    go_wp2
    go_ret
    refine ⟨?_, rfl⟩
    rw [HM.out, Hm.out]
    rfl
  · have t : (n == -9223372036854775808) = false := by simp [hm]
    by_cases hn : n < 0
    · obtain ⟨m, hmn⟩ : ∃ m : Nat, n = -(m : Int) := ⟨n.natAbs, by omega⟩
      have Hi := Lib.hid (show Lib.itoa n = 45 :: Lib.decDigits m by rw [hmn]; exact Lib.itoa_neg m (by omega))
      have HD := Lib.hid (digits_ref m (by omega) w)
      have hsz : ¬ 9223372036854775807 < 1 + (B (Lib.decDigits m)).size := by
        rw [B_size]
        have := decDigits_len20 m (by omega)
        omega
      have hneg : -n = (m : Int) := by omega
      have Hneg := Lib.hid hneg
      have z1 : -n ≤ 9223372036854775807 := by omega
      have z2 : 0 ≤ -n := by omega
      clear hneg hmn hm
      go_enter Tryz.func9, Tryz.ntmps9
      go_wp2_with fail
      rw [Hneg.out]
      refine HD.out.mono ?_
      rintro _ w' ⟨rfl, rfl⟩
      go_wp2_with fail
      go_ret
      refine ⟨?_, rfl⟩
      rw [Hi.out]
      show Ending.returned (.string (B [45] ++ B (Lib.decDigits m))) = _
      rw [B_append]
      rfl
    · obtain ⟨m, rfl⟩ : ∃ m : Nat, n = (m : Int) := ⟨n.toNat, by omega⟩
      have Hi := Lib.hid (Lib.itoa_nonneg m)
      have HD := Lib.hid (digits_ref m (by omega) w)
      clear hm
      go_enter Tryz.func9, Tryz.ntmps9
      go_wp2_with fail
      refine HD.out.mono ?_
      rintro _ w' ⟨rfl, rfl⟩
      go_wp2_with fail
      go_ret
      refine ⟨?_, rfl⟩
      rw [Hi.out]
      rfl

/-- Eval reckons a numeral back. -/
theorem eval_itoa (n : Int) (h1 : -9223372036854775808 ≤ n) (h2 : n ≤ 9223372036854775807) (w : World) (hw : 9 ≤ w.heap.size) :
    Calls Tryz.prog 157 #[.string (B (Lib.itoa n)), .slice none 0 0] w fun e w' => e = .returned (.tuple #[.int .i64 n, .int .i64 0]) ∧ Fresh w w' := by
  have hlen := itoa_len n h1 h2
  have hs : (B (Lib.itoa n)).size ≤ 4096 := by rw [B_size]; omega
  by_cases hn : n < 0
  · obtain ⟨m, hmn⟩ : ∃ m : Nat, n = -(m : Int) := ⟨n.natAbs, by omega⟩
    have hi : Lib.itoa n = 45 :: Lib.decDigits m := by rw [hmn]; exact Lib.itoa_neg m (by omega)
    obtain ⟨hd, hv⟩ := decDigits_spec m (by omega)
    have hval : wrap64 (-(wrap64 (valU (Lib.decDigits m)))) = n := by rw [hv]; unfold wrap64; omega
    refine eval_num n hs (fun b hb w2 hR => ?_)
    have := unary_neg hR hs (Lib.decDigits m) (by rw [B_data, hi]) hd (by omega)
    rw [hval] at this
    exact this
  · obtain ⟨m, rfl⟩ : ∃ m : Nat, n = (m : Int) := ⟨n.toNat, by omega⟩
    have hi : Lib.itoa (m : Int) = Lib.decDigits m := Lib.itoa_nonneg m
    obtain ⟨hd, hv⟩ := decDigits_spec m (by omega)
    have hval : wrap64 (valU ((B (Lib.itoa (m : Int))).data.toList.drop 0)) = m := by rw [B_data, hi, List.drop_zero, hv]; unfold wrap64; omega
    refine eval_num m hs (fun b hb w2 hR => ?_)
    have := unary_pos 0 hR hs (by rw [B_data, hi]; exact hd)
    rw [hval] at this
    exact this
end Go.Proofs.YtbhmapcjcnceiaaGreatDoor
