/- printf: what two bytes of a format are. -/
import Derived.Test.YtbhmapcjcnceiaaGreatDoorC6
namespace Go.Proofs.YtbhmapcjcnceiaaGreatDoor
open Go Go.RowKit

/-- The pieces of a format that are not themselves. -/
def six : List (List UInt8) := [[37, 115], [37, 100], [37, 37], [92, 110], [92, 116], [92, 92]]
theorem eqb_no {t : ByteArray} {l : List UInt8} (h : t.data.toList ≠ l) : (t.toList == l) = false := by
  rw [ByteArray.toList_eq]
  cases hh : t.data.toList == l with
  | false => rfl
  | true => exact absurd (eq_of_beq hh) h
theorem piece_other (w : World) (b : Nat) (t : ByteArray) (ht : t.data.toList ∉ six) :
    Calls Tryz.prog 111 #[.pointer (some ⟨b, 0, none⟩), .string t] w fun e w' => e = .returned (.tuple #[.string ⟨#[]⟩, .bool false]) ∧ w = w' := by
  have t0 : (t.toList == [37, 115]) = false := eqb_no (fun e => ht (by rw [e]; simp [six]))
  have t1 : (t.toList == [37, 100]) = false := eqb_no (fun e => ht (by rw [e]; simp [six]))
  have t2 : (t.toList == [37, 37]) = false := eqb_no (fun e => ht (by rw [e]; simp [six]))
  have t3 : (t.toList == [92, 110]) = false := eqb_no (fun e => ht (by rw [e]; simp [six]))
  have t4 : (t.toList == [92, 116]) = false := eqb_no (fun e => ht (by rw [e]; simp [six]))
  have t5 : (t.toList == [92, 92]) = false := eqb_no (fun e => ht (by rw [e]; simp [six]))
  clear ht
  go_enter Tryz.func111, Tryz.ntmps111
  go_wp2_with fail
  go_ret2
  exact ⟨rfl, rfl⟩
theorem piece_pct (w : World) (b : Nat) (t : ByteArray) (ht : t.data.toList = [37, 37]) :
    Calls Tryz.prog 111 #[.pointer (some ⟨b, 0, none⟩), .string t] w fun e w' => e = .returned (.tuple #[.string ⟨#[37]⟩, .bool true]) ∧ w = w' := by
  have t0 : (t.toList == [37, 115]) = false := by rw [ByteArray.toList_eq, ht]; rfl
  have t1 : (t.toList == [37, 100]) = false := by rw [ByteArray.toList_eq, ht]; rfl
  have t2 : (t.toList == [37, 37]) = true := by rw [ByteArray.toList_eq, ht]; rfl
  clear ht
  go_enter Tryz.func111, Tryz.ntmps111
  go_wp2_with fail
  go_ret2
  exact ⟨rfl, rfl⟩
theorem piece_nl (w : World) (b : Nat) (t : ByteArray) (ht : t.data.toList = [92, 110]) :
    Calls Tryz.prog 111 #[.pointer (some ⟨b, 0, none⟩), .string t] w fun e w' => e = .returned (.tuple #[.string ⟨#[10]⟩, .bool true]) ∧ w = w' := by
  have t0 : (t.toList == [37, 115]) = false := by rw [ByteArray.toList_eq, ht]; rfl
  have t1 : (t.toList == [37, 100]) = false := by rw [ByteArray.toList_eq, ht]; rfl
  have t2 : (t.toList == [37, 37]) = false := by rw [ByteArray.toList_eq, ht]; rfl
  have t3 : (t.toList == [92, 110]) = true := by rw [ByteArray.toList_eq, ht]; rfl
  clear ht
  go_enter Tryz.func111, Tryz.ntmps111
  go_wp2_with fail
  go_ret2
  exact ⟨rfl, rfl⟩
theorem piece_tab (w : World) (b : Nat) (t : ByteArray) (ht : t.data.toList = [92, 116]) :
    Calls Tryz.prog 111 #[.pointer (some ⟨b, 0, none⟩), .string t] w fun e w' => e = .returned (.tuple #[.string ⟨#[9]⟩, .bool true]) ∧ w = w' := by
  have t0 : (t.toList == [37, 115]) = false := by rw [ByteArray.toList_eq, ht]; rfl
  have t1 : (t.toList == [37, 100]) = false := by rw [ByteArray.toList_eq, ht]; rfl
  have t2 : (t.toList == [37, 37]) = false := by rw [ByteArray.toList_eq, ht]; rfl
  have t3 : (t.toList == [92, 110]) = false := by rw [ByteArray.toList_eq, ht]; rfl
  have t4 : (t.toList == [92, 116]) = true := by rw [ByteArray.toList_eq, ht]; rfl
  clear ht
  go_enter Tryz.func111, Tryz.ntmps111
  go_wp2_with fail
  go_ret2
  exact ⟨rfl, rfl⟩
theorem piece_bs (w : World) (b : Nat) (t : ByteArray) (ht : t.data.toList = [92, 92]) :
    Calls Tryz.prog 111 #[.pointer (some ⟨b, 0, none⟩), .string t] w fun e w' => e = .returned (.tuple #[.string ⟨#[92]⟩, .bool true]) ∧ w = w' := by
  have t0 : (t.toList == [37, 115]) = false := by rw [ByteArray.toList_eq, ht]; rfl
  have t1 : (t.toList == [37, 100]) = false := by rw [ByteArray.toList_eq, ht]; rfl
  have t2 : (t.toList == [37, 37]) = false := by rw [ByteArray.toList_eq, ht]; rfl
  have t3 : (t.toList == [92, 110]) = false := by rw [ByteArray.toList_eq, ht]; rfl
  have t4 : (t.toList == [92, 116]) = false := by rw [ByteArray.toList_eq, ht]; rfl
  have t5 : (t.toList == [92, 92]) = true := by rw [ByteArray.toList_eq, ht]; rfl
  clear ht
  go_enter Tryz.func111, Tryz.ntmps111
  go_wp2_with fail
  go_ret2
  exact ⟨rfl, rfl⟩

section
variable {w : World} {b base : Nat} {f : Value} {cwd name : ByteArray} {inn : Value} {st : Int} {out log : Value} {o l : List UInt8}
theorem piece_str (t : ByteArray) (ht : t.data.toList = [37, 115]) (oa : Option Addr) (c : Nat) (s : ByteArray) (ss : List ByteArray)
    (hu : Ut w b base f cwd name (.slice oa (ss.length + 1) c) inn st out log o l) (hs : Strs w oa c (s :: ss)) :
    Calls Tryz.prog 111 #[.pointer (some ⟨b, 0, none⟩), .string t] w fun e w' => e = .returned (.tuple #[.string s, .bool true]) ∧ ∃ oa' c', Strs w' oa' c' ss ∧
      Ut w' b base f cwd name (.slice oa' ss.length c') inn st out log o l ∧ Keeps (fun k => k = b) w w' := by
  have t0 : (t.toList == [37, 115]) = true := by rw [ByteArray.toList_eq, ht]; rfl
  have H := Lib.hid (next_some oa c s ss hu hs)
  clear ht hu hs
  go_enter Tryz.func111, Tryz.ntmps111
  go_wp2_with fail
  refine H.out.mono ?_
  rintro _ w1 ⟨rfl, hx⟩
  have HX := Lib.hid hx
  clear hx
  go_wp2_with fail
  go_ret2
  exact ⟨rfl, HX.out⟩
theorem itoa_calls (n : Int) (h1 : -9223372036854775808 ≤ n) (h2 : n ≤ 9223372036854775807) {w : World} (hE : Env w) :
    Calls Tryz.prog 156 #[.int .i64 n] w fun e w' => e = .returned (.string (B (Lib.itoa n))) ∧ Fresh w w' := by
  refine (Tryz.strconv_Itoa n h1 h2 w hE.pow).mono fun e w' ⟨he, k, os, hw⟩ => ⟨he, ?_⟩
  rw [hw]
  refine ⟨rfl, rfl, rfl, ?_, fun j hj _ => ?_⟩
  · simp [«Sort».grow, World.drewN]
  · simp only [«Sort».grow, World.drewN]
    rw [Array.getElem?_append_left hj]
theorem piece_num (t : ByteArray) (ht : t.data.toList = [37, 100]) (n : Int) (h1 : -9223372036854775808 ≤ n) (h2 : n ≤ 9223372036854775807) (oa : Option Addr) (c : Nat) (ss : List ByteArray) (hE : Env w)
    (hu : Ut w b base f cwd name (.slice oa (ss.length + 1) c) inn st out log o l) (hs : Strs w oa c (B (Lib.itoa n) :: ss)) :
    Calls Tryz.prog 111 #[.pointer (some ⟨b, 0, none⟩), .string t] w fun e w' => e = .returned (.tuple #[.string (B (Lib.itoa n)), .bool true]) ∧ ∃ oa' c', Strs w' oa' c' ss ∧
      Ut w' b base f cwd name (.slice oa' ss.length c') inn st out log o l ∧ Keeps (fun k => k = b) w w' := by
  have t0 : (t.toList == [37, 115]) = false := by rw [ByteArray.toList_eq, ht]; rfl
  have t1 : (t.toList == [37, 100]) = true := by rw [ByteArray.toList_eq, ht]; rfl
  have hge := hu.ge
  have H := Lib.hid (next_some oa c (B (Lib.itoa n)) ss hu hs)
  have HE := Lib.hid hE
  clear ht hu hs hE
  go_enter Tryz.func111, Tryz.ntmps111
  go_wp2_with fail
  refine H.out.mono ?_
  rintro _ w1 ⟨rfl, oa', c', hs1, hu1, hk1⟩
  have HE1 := Lib.hid (HE.out.keeps hk1 (fun k hk => by omega))
  have HS1 := Lib.hid hs1
  have HU1 := Lib.hid hu1
  have HK1 := Lib.hid hk1
  clear hs1 hu1 hk1
  go_wp2_with fail
  refine (eval_itoa n h1 h2 w1 HE1.out.len).mono ?_
  rintro _ w2 ⟨rfl, hF2⟩
  have HF2 := Lib.hid hF2
  clear hF2
  go_wp2_with fail
  refine (may_ok w2 b _).mono ?_
  rintro _ _ ⟨rfl, rfl⟩
  go_wp2_with fail
  refine (itoa_calls n h1 h2 (HE1.out.fresh HF2.out)).mono ?_
  rintro _ w3 ⟨rfl, hF3⟩
  have HF3 := Lib.hid (HF2.out.trans hF3)
  clear hF3
  go_wp2_with fail
  go_ret2
  refine ⟨rfl, oa', c', ?_, HU1.out.fresh HF3.out, HK1.out.trans (HF3.out.mono (fun _ _ x => x.elim))⟩
  obtain ⟨g1, g2, g3, g4⟩ := HS1.out
  exact ⟨g1, g2, g3, g4.fresh HF3.out⟩
end
end Go.Proofs.YtbhmapcjcnceiaaGreatDoor
