/- echo. -/
import Derived.Test.YtbhmapcjcnceiaaGreatDoorD1
namespace Go.Proofs.YtbhmapcjcnceiaaGreatDoor
open Go Go.RowKit

/-- Texts with blanks between. -/
def joined (ss : List ByteArray) : List UInt8 := Lib.join (ss.map fun x => x.data.toList) [32]
theorem join_calls {w : World} (oa : Option Addr) (c : Nat) (s : ByteArray) (ss : List ByteArray) (hs : Strs w oa c (s :: ss)) (hl : (joined (s :: ss)).length ≤ 1099511627776) (hn : ss.length ≤ 1099511627776) :
    Calls Tryz.prog 108 #[.slice oa (ss.length + 1) c, .string ⟨#[32]⟩] w fun e w' => e = .returned (.string (B (joined (s :: ss)))) ∧ Fresh w w' := by
  obtain ⟨h1, h2, h3, h4⟩ := hs
  cases oa with
  | none => simp [RowAt] at h4
  | some ad =>
    obtain ⟨g, off, sp⟩ := ad
    obtain rfl : sp = none := h4.spot
    refine (Tryz.strings_Join g off c (s :: ss) ⟨#[32]⟩ w (fun j x hx => h4.cell (by rw [List.getElem?_map, hx]; rfl)) (h4.lt rfl) (by simp; omega) h1 (by unfold joined at hl; exact Nat.le_trans hl (by decide))).mono fun e w' ⟨he, hb⟩ => ⟨he, Fresh.of_below hb⟩

set_option maxHeartbeats 800000 in
theorem echo_calls {w : World} {b base : Nat} {f : Value} {cwd name : ByteArray} {inn : Value} {st : Int} {out log : Value} {o l : List UInt8} (oa : Option Addr) (c : Nat) (s : ByteArray) (ss : List ByteArray)
    (hu : Ut w b base f cwd name (.slice oa (ss.length + 1) c) inn st out log o l) (hs : Strs w oa c (s :: ss)) (hne : s.data.toList ≠ [45, 110]) (hl : o.length + (joined (s :: ss)).length ≤ 1099511627776) (hn : ss.length ≤ 1099511627776) :
    Calls Tryz.prog 65 #[.pointer (some ⟨b, 0, none⟩)] w fun e w' => e = .returned (.tuple #[]) ∧ ∃ (args' : Value) (out' : Value),
      Ut w' b base f cwd name args' inn st out' log (o ++ (joined (s :: ss) ++ [10])) l ∧ Keeps (utF b out log) w w' ∧ Old w (utF b out' log) (utF b out log) := by
  have hJ := Lib.hid (join_calls oa c s ss hs (by omega) hn)
  have hs' := hs
  obtain ⟨h1, h2, h3, h4⟩ := hs'
  cases oa with
  | none => simp [RowAt] at h4
  | some ad =>
    obtain ⟨g, off, sp⟩ := ad
    obtain rfl : sp = none := h4.spot
    have c3 := cell_of_block hu.blk 3
    have g0 : w.cell? ⟨g, off, none⟩ = some (.string s) := h4.cell (j := 0) rfl
    simp at c3
    have t1 := eqb_no hne
    have hsz : ¬ 9223372036854775807 < (B (joined (s :: ss))).size + 1 := by rw [B_size]; omega
    have hsz2 : (B (joined (s :: ss)) ++ ⟨#[10]⟩).data.toList = joined (s :: ss) ++ [10] := by rw [show (⟨#[10]⟩ : ByteArray) = B [10] from rfl, B_append, B_data]
    have Hsz2 := Lib.hid hsz2
    have hsz3 : (B (joined (s :: ss)) ++ ⟨#[10]⟩).size = (joined (s :: ss)).length + 1 := by
      have : (B (joined (s :: ss)) ++ ⟨#[10]⟩).size = (B (joined (s :: ss)) ++ ⟨#[10]⟩).data.toList.length := rfl
      rw [this, hsz2]; simp
    have Hsz3 := Lib.hid hsz3
    have HU := Lib.hid hu
    have HL := Lib.hid hl
    have z0 : (0 : Int) < (ss.length : Int) + 1 := by omega
    clear hu hs h3 h4 hne hl hsz2 hsz3
    go_enter Tryz.func65, Tryz.ntmps65
    go_wp2_with fail
    refine hJ.out.mono ?_
    rintro _ w1 ⟨rfl, hF⟩
    have HU1 := Lib.hid (HU.out.fresh hF)
    have HF := Lib.hid (hF.mono (G := utF b out log) (fun _ _ x => x.elim))
    clear hF
    go_wp2_with fail
    refine (say_calls _ HU1.out (by rw [Hsz3.out]; have := HL.out; omega)).mono ?_
    rintro _ w2 ⟨rfl, out2, hu2, hk2, ho2⟩
    have HU2 := Lib.hid hu2
    have HK2 := Lib.hid (HF.out.trans hk2)
    have HO2 := Lib.hid ((Old.refl w (utF b out log)).trans HF.out.size ho2)
    clear hu2 hk2 ho2
    go_wp2_with fail
    go_end0
    refine ⟨rfl, .slice (some ⟨g, off, none⟩) (ss.length + 1) c, out2, ?_, HK2.out, HO2.out⟩
    rw [← Hsz2.out]
    exact HU2.out
end Go.Proofs.YtbhmapcjcnceiaaGreatDoor
