/- The law ToolsTest, the second form: its row, out of its walk. -/
import Derived.Test.YtbhmapcjcnceiaaGreatDoorE2
import Derived.Test.YtbhmapcjcnceiaaGreatDoorJ7
namespace Go.Proofs.YtbhmapcjcnceiaaGreatDoor
open Go Go.RowKit Go.ChangeShapes Go.WideShapes Go.ChangeAt

section
variable {H : Type} {enc : TypeId × Value → H}
theorem bulk_mem {d : DataW H} : ∀ {l : List (DataW H)}, d ∈ l → Rows.uptoBulk d ≤ Rows.uptoBulkAll l
  | [], h => by cases h
  | x :: r, h => by
    rw [Rows.uptoBulkAll]
    rcases List.mem_cons.1 h with rfl | h
    · omega
    · have := bulk_mem h
      omega
set_option maxRecDepth 100000 in
/-- An argument of type []string, and how long its texts are. -/
theorem open_texts_sized {W : World} {b0 : Nat} {v : Value} {d : DataW H} {p : List MemPlace} (hval : Value.okWide Tryz.prog W .any b0 22 v) (h : DataW.Trod enc Tryz.prog W 0 (fun _ => true) true 22 v d p) :
    ∃ (oa : Option Addr) (c : Nat) (ss : List ByteArray), v = .slice oa ss.length c ∧ ReadRow W oa c (ss.map Value.string) ∧ ∀ x ∈ ss, x.size ≤ Rows.uptoBulk d := by
  obtain ⟨fuel, hf⟩ := h
  obtain ⟨oa, n, c, rfl⟩ := okWide_slice Tryz.underlying22 hval
  rcases Go.Deep.open_strs Tryz.underlying22 Tryz.underlying9 (by kernel_rfl) hf with ⟨hcs, _⟩ | ⟨a, len, cap, m, Sx, hcs, _, hl, hm, hmm, hd, hx⟩
  · simp [Value.cells] at hcs
    obtain ⟨rfl, rfl, rfl⟩ := hcs
    exact ⟨none, 0, [], rfl, ⟨fun _ => ⟨rfl, rfl⟩, fun ad h => (by cases h)⟩, by simp⟩
  · simp [Value.cells] at hcs
    obtain ⟨rfl, rfl, rfl⟩ := hcs
    refine ⟨some a, c, (List.range n).map Sx, by simp, ⟨fun h => (by cases h), fun ad had j u hu => ?_⟩, fun x hxm => ?_⟩
    · obtain rfl := Option.some.inj had
      simp only [List.map_map, List.getElem?_map, Option.map_eq_some_iff] at hu
      obtain ⟨i, hi, rfl⟩ := hu
      obtain ⟨hlt, hi⟩ := List.getElem?_eq_some_iff.1 hi
      simp at hlt hi
      subst hi
      exact (hx j (by simp at hmm; omega)).1
    · obtain ⟨i, hi, rfl⟩ := List.mem_map.1 hxm
      simp only [Prod.mk.injEq] at hd
      rw [hd.1, Rows.uptoBulk]
      have hmem : (DataW.lit (.string (Sx i).data.toList) : DataW H) ∈ (List.range n).map fun i => DataW.lit (.string (Sx i).data.toList) := List.mem_map.2 ⟨i, hi, rfl⟩
      have h1 := bulk_mem hmem
      rw [Rows.uptoBulk, Array.length_toList] at h1
      have h2 : (Sx i).size = (Sx i).data.size := rfl
      omega
end

set_option maxRecDepth 100000 in
theorem test_contract (H : Type) (enc : TypeId × Value → H) (W : World) (base : Nat) (args : Array Value) (ds gs : List (DataW H)) (before : List MemPlace)
    (hval : ∀ (j : Nat) t v, Tryz.f5.params[j]? = some t → args[j]? = some v → Value.okWide Tryz.prog W .any base t v)
    (hW : DataW.Whole enc Tryz.prog Tryz.f5.params.toList Rows.toolsTestSpec.vars false W args.toList ds gs before) (hk : Rows.uptoSmall H (ds ++ gs) = true) (hE : Env W) :
    Calls Tryz.prog 5 args W fun e W' => ∃ v, e = .returned v ∧ Rows.toolsTestSpec.post enc Tryz.prog Tryz.f5 false true false false W args v W' := by
  have hW' := hW
  obtain ⟨p, q, hA0, hV, rfl, hfz, hnd⟩ := hW
  have hA : DataW.TrodAll enc Tryz.prog W 0 (fun _ => true) true Tryz.f5.params.toList args.toList ds p := hA0
  rw [Tryz.params5] at hA hval
  obtain ⟨v0, vs0, d0, ds0, p0, q0, hargs, rfl, rfl, h0, r0⟩ := trodAll_cons hA
  obtain ⟨rfl, rfl, rfl⟩ := trodAll_nil r0
  obtain rfl : args = #[v0] := by cases args; simp_all
  obtain ⟨oa, c, ss, rfl, hr, hs⟩ := open_texts_sized (hval 0 22 v0 rfl rfl) h0
  have hb : Rows.uptoBulk d0 ≤ 1048576 := by
    have h1 : Rows.uptoBulkAll ([d0] ++ gs) ≤ 1048576 := of_decide_eq_true hk
    rw [List.singleton_append, Rows.uptoBulkAll] at h1
    omega
  clear hA0
  refine (test_law_calls hE oa c ss hr (fun x hx => Nat.le_trans (hs x hx) hb)).mono fun e W' ⟨he, hF⟩ => ?_
  exact ⟨_, he, post_of_fresh hW' hF rfl rfl rfl (by rw [Tryz.params5]; intro t ht; simp at ht; rcases ht with rfl; exact ⟨by kernel_rfl, of_decide_eq_true (by kernel_rfl)⟩)⟩

set_option maxRecDepth 1000000 in
theorem test_witness (os : Os) {H : Type} (enc : TypeId × Value → H) :
    (Rows.OpenSpec.upto Rows.toolsTestSpec).preRow enc Tryz.prog Tryz.f5 Rows.toolsTestUptoRow.domain false Rows.toolsTestUptoRow.laid ((laidWorld os).forCall (fun _ _ => 0) ⟨#[], #[.slice none 0 0], []⟩).memory #[.slice none 0 0] := by
  have hw : (DataW.whole enc Tryz.prog ((laidWorld os).forCall (fun _ _ => 0) ⟨#[], #[.slice none 0 0], []⟩).memory Tryz.f5.params.toList Rows.toolsTestSpec.vars false #[Value.slice none 0 0].toList 8).map (fun x => (x.1, x.2.1)) =
      some ([.nil], []) := by kernel_rfl
  obtain ⟨⟨x1, x2, x3⟩, hx, hx1⟩ := Option.map_eq_some_iff.1 hw
  simp only [Prod.mk.injEq] at hx1
  obtain ⟨rfl, rfl⟩ := hx1
  exact OpenSpec.preRow_of_cond 8 hx (by kernel_rfl) (fun k hk => by cases hk; kernel_rfl) (by kernel_rfl) (laid_met os _)

set_option maxRecDepth 1000000 in
theorem test_lifted (os : Os) (started : os.Started) (H : Type) (enc : TypeId × Value → H) (F : Stop.Interp) :
    ReturnsInHanded {} Tryz.checked os 5 .any ((Rows.OpenSpec.upto Rows.toolsTestSpec).preRow enc Tryz.prog Tryz.f5 Rows.toolsTestUptoRow.domain false Rows.toolsTestUptoRow.laid) (((Rows.OpenSpec.upto Rows.toolsTestSpec).at F).post enc Tryz.prog Tryz.f5 false true false false) := by
  refine returnsInHanded_of_row (C := Tryz.checked) (s := Rows.OpenSpec.upto Rows.toolsTestSpec) own started (by kernel_rfl) Tryz.func5
    (witness_row_atRef (enc := enc) (C := Tryz.checked) false (laidWorld os) #[.slice none 0 0] rfl (by kernel_rfl) (by kernel_rfl) (by kernel_rfl) (test_witness os enc)) ?_
  intro W base args ds gs before hval hW _ hk _ hL hS _
  exact test_contract H enc W base args ds gs before hval hW (hk _ rfl) (env_of hL hS)

theorem test_named : Tryz.pinned.checked.prog.funcNamed Rows.toolsTestUptoRow.func = some 5 := by kernel_rfl
theorem test_instance : Tryz.f5.isInstance Tryz.pinned.checked.prog Rows.toolsTestUptoRow.origin Rows.toolsTestUptoRow.targs := of_decide_eq_true (by kernel_rfl)
theorem test_wrapper : Tryz.f5.isWrapper Tryz.pinned.checked.prog Rows.toolsTestUptoRow.wrapper Rows.toolsTestUptoRow.mainSum := by unfold Func.isWrapper; first | (rw [if_pos (by decide +kernel)]; kernel_rfl) | (rw [if_neg (by decide +kernel)]; exact ⟨rfl, rfl⟩)

theorem test_plain (f : FuncId) (fn : Func) (hf : Tryz.pinned.checked.prog.funcNamed "quartermaster/quartermasterlaw15.ToolsTest" = some f) (hfn : Tryz.pinned.checked.prog.funcs[f]? = some fn) :
    true = Tryz.pinned.checked.prog.looks [] ∧ ∀ (j : Nat) t, fn.params[j]? = some t → Tryz.pinned.checked.prog.wantsStandIn t = false := by
  obtain rfl : f = 5 := Option.some.inj ((show Tryz.prog.funcNamed "quartermaster/quartermasterlaw15.ToolsTest" = some 5 by kernel_rfl).symm.trans hf) |>.symm
  obtain rfl : fn = Tryz.f5 := (Option.some.inj (Tryz.func5.symm.trans hfn)).symm
  refine ⟨by kernel_rfl, fun j t ht => ?_⟩
  rw [Tryz.params5] at ht
  have hm := Array.mem_of_getElem? ht
  simp at hm
  rcases hm with rfl
  exact (show Tryz.prog.wantsStandIn _ = false by kernel_rfl)
end Go.Proofs.YtbhmapcjcnceiaaGreatDoor
