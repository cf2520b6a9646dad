/- Has, what echo and printf do within Run, and the law's own word that the utilities are alive. -/
import Derived.Test.YtbhmapcjcnceiaaGreatDoorD4
import Derived.Test.YtbhmapcjcnceiaaGreatDoorD1
namespace Go.Proofs.YtbhmapcjcnceiaaGreatDoor
open Go Go.RowKit

theorem string_of {w : World} {oa : Option Addr} {l : List UInt8} {m c : Nat} (hl : l.length = m) (h : BytesAt w oa l) : (convert 25 9 (.slice oa m c)).run Tryz.prog w = .ok (.string (B l)) w := by
  cases oa with
  | none =>
    have h0 : cellsOf l = [] := h
    have : l = [] := by simpa [cellsOf] using h0
    subst this
    exact run_convert_bytes_nil w 25 5 Tryz.underlying25 Tryz.underlying5 m c 9 Tryz.underlying9
  | some ad =>
    subst hl
    refine run_convert_bytes_back w 25 9 5 ad c l Tryz.underlying25 Tryz.underlying5 Tryz.underlying9 (fun j hj => ?_)
    exact h.add j _ (by simp [cellsOf, hj])

theorem has_calls (w : World) (name : ByteArray) : Calls Tryz.prog 21 #[.string name] w fun e w' => e = .returned (.bool (find name allTab).isSome) ∧ Fresh w w' := by
  have hz : ∀ w, (zeroValue 59).run Tryz.prog w = .ok .nilFunc w := fun _ => by kernel_rfl
  have Hz := Lib.hid hz
  clear hz
  obtain ⟨r, hr⟩ : ∃ r, find name allTab = r := ⟨_, rfl⟩
  have HR := Lib.hid hr
  rw [hr]
  clear hr
  go_enter Tryz.func21, Tryz.ntmps21
  go_wp2_with fail
  refine (all_calls _).mono ?_
  rintro _ w1 ⟨rfl, hM, hFr⟩
  have HM := Lib.hid hM
  have HF := Lib.hid hFr
  clear hM hFr
  go_wp2_with (refine wp_lookup_str rfl _ _ _ _ rfl 9 59 Tryz.underlying61 Tryz.underlying9 .nilFunc (Hz.out _) w.heap.size allTab rfl name rfl HM.out r HR.out ?_)
  go_ret
  exact ⟨rfl, HF.out⟩

theorem does_echo {w : World} {f : Value} {cwd name : ByteArray} {inn : Value} (s : ByteArray) (ss : List ByteArray) (hne : s.data.toList ≠ [45, 110]) (hl : (joined (s :: ss)).length ≤ 1099511627776) (hn : ss.length ≤ 1099511627776) :
    Does 65 w f cwd name (s :: ss) inn (fun _ => False) 0 (joined (s :: ss) ++ [10]) [] (fun _ _ => True) := by
  intro w1 b oa c hF hb hu hs hE
  refine (echo_calls oa c s ss hu hs hne (by simpa using hl) hn).mono ?_
  rintro _ w2 ⟨rfl, args', out', hu2, hk2, -⟩
  refine ⟨rfl, args', out', _, hu2, hk2.mono (fun k hk h => ?_), trivial⟩
  rcases h with h | h | h
  · exact Or.inl h
  · cases h
  · cases h

theorem does_printf {w : World} {f : Value} {cwd name : ByteArray} {inn : Value} (fmt : ByteArray) (args : List ByteArray) (res : List UInt8) (hP : PfS fmt.data.toList args res) (hl : res.length ≤ 1099511627776) :
    Does 66 w f cwd name (fmt :: args) inn (fun _ => False) 0 res [] (fun _ _ => True) := by
  intro w1 b oa c hF hb hu hs hE
  refine (printf_calls fmt args res oa c hP hu hs hE (by simpa using hl)).mono ?_
  rintro _ w2 ⟨rfl, args', out', hu2, hk2, -⟩
  refine ⟨rfl, args', out', _, hu2, hk2.mono (fun k hk h => ?_), trivial⟩
  rcases h with h | h | h
  · exact Or.inl h
  · cases h
  · cases h

set_option maxRecDepth 10000 in
set_option maxHeartbeats 800000 in
theorem alive_calls {w : World} (hE : Env w) : Calls Tryz.prog 8 #[] w fun e w' => e = .returned (.bool true) ∧ Fresh w w' := by
  have HE := Lib.hid hE
  clear hE
  go_enter Tryz.func8, Tryz.ntmps8
  go_wp2_with fail
  refine (new_calls 1 1 _ (by decide) (by decide)).mono ?_
  rintro _ w1 ⟨rfl, hw1⟩
  have hF1 : Fresh w w1 := by rw [hw1]; exact ((Keeps.refl _ w).alloc _).alloc _
  have HF1 := Lib.hid hF1
  clear hw1 hF1
  go_wp2_with fail
  have hF2 : Fresh w (w1.alloc (.cells #[.string ⟨#[97]⟩, .string ⟨#[98]⟩] 9)) := HF1.out.alloc _
  have hb2 : (w1.alloc (.cells #[.string ⟨#[97]⟩, .string ⟨#[98]⟩] 9)).heap[w1.heap.size]? = some (.cells #[.string ⟨#[97]⟩, .string ⟨#[98]⟩] 9 (0, 0)) := heap_alloc_new w1 _
  generalize (w1.alloc (.cells #[.string ⟨#[97]⟩, .string ⟨#[98]⟩] 9)) = w2 at hF2 hb2 ⊢
  have hs2 : Strs w2 (some ⟨w1.heap.size, 0, none⟩) 2 [⟨#[97]⟩, ⟨#[98]⟩] := ⟨by simp, by decide, fun h => (by cases h), RowAt.of_block (fz := (0, 0)) hb2⟩
  have hj : joined [⟨#[97]⟩, ⟨#[98]⟩] ++ [10] = [97, 32, 98, 10] := by decide
  refine (run_calls (w := w2) (K := 65) (args := [⟨#[97]⟩, ⟨#[98]⟩]) (F := fun _ => False) (st := 0) (o := joined [⟨#[97]⟩, ⟨#[98]⟩] ++ [10]) (l := []) (Q := fun _ _ => True) (some ⟨w1.heap.size, 0, none⟩) 2
    (fun _ _ => by kernel_rfl) (by rfl) (HE.out.fresh hF2) hs2 (by simp) (fun _ h => h.elim) (by rw [hj]; decide) (by decide) (does_echo ⟨#[97]⟩ [⟨#[98]⟩] (by decide) (by decide) (by decide))).mono ?_
  rintro _ w3 ⟨oo, oc, lo, lc, _, _, rfl, ho, hl, -, -, -, hk⟩
  have HF3 := Lib.hid (hF2.trans hk)
  rw [hj, show min ([97, 32, 98, 10] : List UInt8).length 65536 = 4 from rfl, show ([] : List UInt8).length = 0 from rfl]
  rw [hj] at ho
  have ho' : BytesAt w3 oo [97, 32, 98, 10] := ho
  have HO := Lib.hid ho'
  clear ho hl hk hb2 hs2 hF2 ho' hj
  have hcv : (convert 25 9 (.slice oo 4 oc)).run Tryz.prog (w3.alloc (.cells #[.int .i64 0, .slice oo 4 oc, .slice lo 0 lc] 27)) = .ok (.string ⟨#[97, 32, 98, 10]⟩) (w3.alloc (.cells #[.int .i64 0, .slice oo 4 oc, .slice lo 0 lc] 27)) := string_of (l := [97, 32, 98, 10]) rfl (HO.out.fresh ((Keeps.refl _ w3).alloc _))
  have HF4 := Lib.hid (HF3.out.alloc (.cells #[.int .i64 0, .slice oo 4 oc, .slice lo 0 lc] 27))
  go_wp2_with fail
  refine (has_calls _ _).mono ?_
  rintro _ w5 ⟨rfl, hF5⟩
  have HF6 := Lib.hid (HF4.out.trans hF5)
  clear hF5
  rw [show (find ⟨#[99, 97, 116]⟩ allTab).isSome = true from rfl]
  go_wp2_with fail
  refine (has_calls _ _).mono ?_
  rintro _ w6 ⟨rfl, hF7⟩
  have HF8 := Lib.hid (HF6.out.trans hF7)
  clear hF7
  rw [show (find ⟨#[100, 111, 103]⟩ allTab).isSome = false from rfl]
  go_wp2_with fail
  go_ret
  exact ⟨rfl, HF8.out⟩
end Go.Proofs.YtbhmapcjcnceiaaGreatDoor
