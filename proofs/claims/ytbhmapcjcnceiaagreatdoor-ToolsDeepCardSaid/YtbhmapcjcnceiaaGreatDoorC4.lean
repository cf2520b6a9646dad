/- Reckoning of a numeral: level by level, and the whole. -/
import Derived.Test.YtbhmapcjcnceiaaGreatDoorC3
namespace Go.Proofs.YtbhmapcjcnceiaaGreatDoor
open Go Go.RowKit

/-- What 'unary' is known to do of this reader. -/
def UnOK (b : Nat) (s : ByteArray) (i : Int) (l : Value) (deep : Int) (zero : Bool) (v : Int) : Prop :=
  ∀ w, Rd w b s i l deep zero → Calls Tryz.prog 264 #[.pointer (some ⟨b, 0, none⟩)] w fun e w' => e = .returned (.int .i64 v) ∧ Rd w' b s s.size l deep zero ∧ Keeps (fun k => k = b) w w'

set_option maxHeartbeats 1600000 in
theorem binary_num {b : Nat} {s : ByteArray} {i : Int} {l : Value} {deep : Int} {zero : Bool} {v : Int} (hU : UnOK b s i l deep zero v) (hs : s.size ≤ 4096) :
    ∀ (d : Nat), d ≤ 10 → ∀ w, Rd w b s i l deep zero → Calls Tryz.prog 232 #[.pointer (some ⟨b, 0, none⟩), .int .i64 ((10 - d : Nat) : Int)] w fun e w' => e = .returned (.int .i64 v) ∧ Rd w' b s s.size l deep zero ∧ Keeps (fun k => k = b) w w' := by
  intro d
  induction d with
  | zero =>
    intro _ w h
    have H := Lib.hid h
    clear h
    go_enter Tryz.func232, Tryz.ntmps232
    go_wp2_with fail
    go_step3
    go_wp2_with fail
    refine (levels_calls _).mono ?_
    rintro _ w2 ⟨B, rfl, _, hF⟩
    have H2 := Lib.hid (H.out.fresh hF)
    have HF := Lib.hid hF
    clear hF
    go_wp2_with fail
    refine (hU _ H2.out).mono ?_
    rintro _ W3 ⟨rfl, hR3, hK3⟩
    have R3 := Lib.hid hR3
    have K3 := Lib.hid ((HF.out.mono (G := fun k => k = b) (fun k _ x => x.elim)).trans hK3)
    clear hR3 hK3
    go_wp2
    rw [Exit.noGoto_ret]
    go_ret
    exact ⟨rfl, R3.out, K3.out⟩
  | succ d ih =>
    intro hd w h
    have H := Lib.hid h
    have IH := Lib.hid (fun w hR => ih (by omega) w hR)
    clear h ih
    have e1 : ((10 - (d + 1) : Nat) : Int) + 1 = ((10 - d : Nat) : Int) := by omega
    have e2 : (((10 - (d + 1) : Nat) : Int) == 10) = false := by simp; omega
    obtain ⟨lev, hlev⟩ : ∃ lev : Nat, lev = 10 - (d + 1) := ⟨_, rfl⟩
    rw [← hlev] at e1 e2 ⊢
    have hl10 : lev < 10 := by omega
    have E1 := Lib.hid e1
    clear e1 hlev
    go_enter Tryz.func232, Tryz.ntmps232
    go_wp2_with fail
    go_step3
    go_wp2_with fail
    refine (levels_calls _).mono ?_
    rintro _ w2 ⟨B, rfl, hL, hF⟩
    have H2 := Lib.hid (H.out.fresh hF)
    have HF := Lib.hid hF
    have HL := Lib.hid hL
    clear hF hL
    go_wp2_with fail
    rw [E1.out]
    refine (IH.out _ H2.out).mono ?_
    rintro _ W3 ⟨rfl, hR3, hK3⟩
    have R3 := Lib.hid hR3
    have K3 := Lib.hid ((HF.out.mono (G := fun k => k = b) (fun k _ x => x.elim)).trans hK3)
    obtain ⟨lo, hlo⟩ : ∃ lo, lv[lev]? = some lo := ⟨lv[lev]'(by simpa [lv] using hl10), List.getElem?_eq_getElem _⟩
    have hL3 : ∃ g, W3.cell? ⟨B, lev, none⟩ = some (.slice (some ⟨g, 0, none⟩) lo.length lo.length) ∧ ∀ j u, lo[j]? = some u → W3.cell? ⟨g, j, none⟩ = some (.string u) := by
      have hbw := lt_of_block H.out
      obtain ⟨hB, hLL⟩ := HL.out
      obtain ⟨g, hgN, h1, h2⟩ := hLL lev lo hlo
      exact ⟨g, hK3.cell h1 (by show B ≠ b; omega), fun j u hu => hK3.cell (h2 j u hu) (by show g ≠ b; omega)⟩
    obtain ⟨g, hg, hops⟩ := hL3
    have hlen : lo.length ≤ 4 := by
      have : ∀ l ∈ lv, l.length ≤ 4 := by decide
      exact this lo (List.mem_of_getElem? hlo)
    have Hops := Lib.hid hops
    have Hlo := Lib.hid (fun u (hu : u ∈ lo) => lv_ops lo (List.mem_of_getElem? hlo) u hu)
    have HU := Lib.hid hU
    clear hops hlo hU hR3 hK3
    go_wp2_with fail
    go_step3
    go_wp2_with fail
    refine wp_loop_rounds 1 ?_
    rw [rounds_succ]
    go_wp2_with fail
    refine (next_end R3.out hs).mono ?_
    rintro _ W4 ⟨rfl, hF4⟩
    have R4 := Lib.hid (R3.out.fresh hF4)
    have K4 := Lib.hid (K3.out.trans (hF4.mono (G := fun k => k = b) (fun k _ x => x.elim)))
    have hg4 : W4.cell? ⟨B, lev, none⟩ = some (.slice (some ⟨g, 0, none⟩) lo.length lo.length) := hF4.cell hg (fun x => x)
    have Hops4 := Lib.hid (fun j u hu => hF4.cell (Hops.out j u hu) (fun x => x))
    clear hF4 hg
    have z0 : (0 : Int) ≤ (lev : Int) := Int.natCast_nonneg _
    go_wp2_with fail
    go_loop [6, 28] (fun a j => ∃ k : Nat, k ≤ lo.length ∧ a = .int .i64 v ∧ j = .int .i64 k) (fun _ j => lo.length - (intOf j).toNat)
    case atStart => exact ⟨0, by omega, rfl, rfl⟩
    case round =>
      obtain ⟨j, hj, rfl, rfl⟩ := hrel
      by_cases hjl : j < lo.length
      · have hu := Hops4.out j lo[j] (List.getElem?_eq_getElem hjl)
        have hpos := Hlo.out lo[j] (List.getElem_mem hjl)
        generalize lo[j] = u at hu hpos
        have t1 : u.toList.isEmpty = false := by
          rw [ByteArray.toList_eq]
          cases hh : u.data.toList with
          | nil => have : u.size = u.data.toList.length := rfl; rw [hh] at this; rw [this] at hpos; simp at hpos
          | cons a l => rfl
        go_wp2_with fail
        go_round
        case rel => exact ⟨j + 1, by omega, rfl, by go_num⟩
        case measure => simp [intOf]; omega
      · go_wp2
        go_ret
        exact ⟨rfl, R4.out, K4.out⟩
end Go.Proofs.YtbhmapcjcnceiaaGreatDoor
