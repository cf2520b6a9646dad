/- The law ToolsCat: its row, out of its walk. -/
import Derived.Test.YtbhmapcjcnceiaaGreatDoorE2
import Derived.Test.YtbhmapcjcnceiaaGreatDoorH1
import Derived.Deep.Matrix
import Derived.Deep.Grids
namespace Go.Proofs.YtbhmapcjcnceiaaGreatDoor
open Go Go.RowKit Go.ChangeShapes Go.WideShapes Go.ChangeAt

section
variable {H : Type} {enc : TypeId × Value → H}
/-- Numbers that are bytes, as bytes. -/
def u8s (zs : List Int) : List UInt8 := zs.map fun z => UInt8.ofNat z.toNat
theorem u8s_cell {zs : List Int} (hw : ∀ n ∈ zs, (Lit.int .u8 n).wf = true) {j : Nat} {u : Value} (hu : (cellsOf (u8s zs))[j]? = some u) : j < zs.length ∧ u = .int .u8 (zs.getD j 0) := by
  simp only [cellsOf, u8s, List.map_map, List.getElem?_map, Option.map_eq_some_iff] at hu
  obtain ⟨z, hz, rfl⟩ := hu
  obtain ⟨hj, hz'⟩ := List.getElem?_eq_some_iff.1 hz
  have h1 := hw z (by rw [← hz']; exact List.getElem_mem hj)
  have e1 : IntKind.u8.min = 0 := rfl
  have e2 : IntKind.u8.max = 255 := rfl
  simp only [Lit.wf, Bool.and_eq_true, decide_eq_true_eq, e1, e2] at h1
  refine ⟨hj, ?_⟩
  simp only [Function.comp, List.getD, hz, Option.getD_some, UInt8.toNat_ofNat']
  congr 1
  omega
set_option maxRecDepth 100000 in
/-- An argument of type []byte. -/
theorem open_bytes {W : World} {b0 : Nat} {v : Value} {d : DataW H} {p : List MemPlace} (hval : Value.okWide Tryz.prog W .any b0 25 v) (h : DataW.Trod enc Tryz.prog W 0 (fun _ => true) true 25 v d p) :
    ∃ (oa : Option Addr) (c : Nat) (l : List UInt8), v = .slice oa l.length c ∧ ReadB W oa c l := by
  obtain ⟨fuel, hf⟩ := h
  obtain ⟨oa, n, c, rfl⟩ := okWide_slice Tryz.underlying25 hval
  rcases open_ints Tryz.underlying25 Tryz.underlying5 (by kernel_rfl) hf with ⟨hcs, _⟩ | ⟨a, len, cap, zs, hcs, _, hl, hm, hz, _, hx, hw⟩
  · simp [Value.cells] at hcs
    obtain ⟨rfl, rfl, rfl⟩ := hcs
    exact ⟨none, 0, [], rfl, fun _ => ⟨rfl, rfl⟩, fun ad h => (by cases h)⟩
  · simp [Value.cells] at hcs
    obtain ⟨rfl, rfl, rfl⟩ := hcs
    simp only [if_true] at hz
    refine ⟨some a, c, u8s (zs.take n), by simp [u8s, hz, hl], fun h => (by cases h), fun ad had j u hu => ?_⟩
    obtain rfl := Option.some.inj had
    obtain ⟨hj, rfl⟩ := u8s_cell (fun n hn => hw n (List.mem_of_mem_take hn)) hu
    rw [List.length_take] at hj
    rw [hx j (by omega)]
    simp [List.getD, List.getElem?_take, show j < n by omega]
set_option maxRecDepth 100000 in
/-- An argument of type []bool. -/
theorem open_flags {W : World} {b0 : Nat} {v : Value} {d : DataW H} {p : List MemPlace} (hval : Value.okWide Tryz.prog W .any b0 33 v) (h : DataW.Trod enc Tryz.prog W 0 (fun _ => true) true 33 v d p) :
    ∃ (oa : Option Addr) (c : Nat) (bs : List Bool), v = .slice oa bs.length c ∧ ReadRow W oa c (bs.map Value.bool) := by
  obtain ⟨fuel, hf⟩ := h
  obtain ⟨oa, n, c, rfl⟩ := okWide_slice Tryz.underlying33 hval
  rcases Go.Deep.open_bools Tryz.underlying33 Tryz.underlying4 (by kernel_rfl) hf with ⟨hcs, _⟩ | ⟨a, len, cap, Bf, hcs, _, hl, hm, _, hx⟩
  · simp [Value.cells] at hcs
    obtain ⟨rfl, rfl, rfl⟩ := hcs
    exact ⟨none, 0, [], rfl, fun _ => ⟨rfl, rfl⟩, fun ad h => (by cases h)⟩
  · simp [Value.cells] at hcs
    obtain ⟨rfl, rfl, rfl⟩ := hcs
    refine ⟨some a, c, (List.range n).map Bf, by simp, fun h => (by cases h), fun ad had j u hu => ?_⟩
    obtain rfl := Option.some.inj had
    simp only [List.map_map, List.getElem?_map, Option.map_eq_some_iff] at hu
    obtain ⟨i, hi, rfl⟩ := hu
    obtain ⟨hlt, hi⟩ := List.getElem?_eq_some_iff.1 hi
    simp at hlt hi
    subst hi
    exact hx j (by omega)
set_option maxRecDepth 100000 in
/-- An argument of type [][]byte. -/
theorem open_bytess {W : World} {b0 : Nat} {v : Value} {d : DataW H} {p : List MemPlace} (hval : Value.okWide Tryz.prog W .any b0 32 v) (h : DataW.Trod enc Tryz.prog W 0 (fun _ => true) true 32 v d p) :
    ∃ (oa : Option Addr) (c : Nat) (X : List Bx), v = .slice oa X.length c ∧ ReadRow W oa c (X.map Bx.val) ∧ ∀ x ∈ X, ReadB W x.1 x.2.1 x.2.2 := by
  obtain ⟨fuel, hf⟩ := h
  obtain ⟨oa, n, c, rfl⟩ := okWide_slice Tryz.underlying32 hval
  rcases Go.Deep.open_int_rows Tryz.underlying32 Tryz.underlying25 Tryz.underlying5 (by kernel_rfl) (by kernel_rfl) hf with ⟨hcs, _⟩ | ⟨a, len, cap, A, L, C, Z, hcs, _, hl, hm, _, hx⟩
  · simp [Value.cells] at hcs
    obtain ⟨rfl, rfl, rfl⟩ := hcs
    exact ⟨none, 0, [], rfl, ⟨fun _ => ⟨rfl, rfl⟩, fun ad h => (by cases h)⟩, by simp⟩
  · simp [Value.cells] at hcs
    obtain ⟨rfl, rfl, rfl⟩ := hcs
    have hlen : ∀ r, r < c → (u8s ((Z r).take (L r))).length = L r := fun r hr => by
      obtain ⟨_, h2, _, h4, _⟩ := hx r hr
      simp [u8s, h4, h2]
    refine ⟨some a, c, (List.range n).map fun r => (A r, C r, u8s ((Z r).take (L r))), by simp, ⟨fun h => (by cases h), fun ad had j u hu => ?_⟩, fun x hxm => ?_⟩
    · obtain rfl := Option.some.inj had
      simp only [List.map_map, List.getElem?_map, Option.map_eq_some_iff] at hu
      obtain ⟨i, hi, rfl⟩ := hu
      obtain ⟨hlt, hi⟩ := List.getElem?_eq_some_iff.1 hi
      simp at hlt hi
      subst hi
      rw [(hx j (by omega)).1]
      simp only [Function.comp, Bx.val, hlen j (by omega)]
    · obtain ⟨r, hr, rfl⟩ := List.mem_map.1 hxm
      have hrc : r < c := by have := List.mem_range.1 hr; omega
      obtain ⟨_, h2, _, h4, h5, h6, h7⟩ := hx r hrc
      refine ⟨fun h => ?_, fun ad had j u hu => ?_⟩
      · have h0 := h6 h
        exact ⟨by show (u8s _).length = 0; rw [hlen r hrc]; omega, h0⟩
      · obtain ⟨hj, rfl⟩ := u8s_cell (fun n hn => h5 n (List.mem_of_mem_take hn)) hu
        rw [List.length_take] at hj
        rw [(h7 ad had).2 j (by omega)]
        simp [List.getD, List.getElem?_take, show j < L r by omega]
end

set_option maxRecDepth 100000 in
theorem cat_contract (H : Type) (enc : TypeId × Value → H) (W : World) (base : Nat) (args : Array Value) (ds gs : List (DataW H)) (before : List MemPlace)
    (hval : ∀ (j : Nat) t v, Tryz.f4.params[j]? = some t → args[j]? = some v → Value.okWide Tryz.prog W .any base t v)
    (hW : DataW.Whole enc Tryz.prog Tryz.f4.params.toList Rows.toolsCatSpec.vars false W args.toList ds gs before) (hE : Env W) :
    Calls Tryz.prog 4 args W fun e W' => ∃ v, e = .returned v ∧ Rows.toolsCatSpec.post enc Tryz.prog Tryz.f4 false true false false W args v W' := by
  have hW' := hW
  obtain ⟨p, q, hA0, hV, rfl, hfz, hnd⟩ := hW
  have hA : DataW.TrodAll enc Tryz.prog W 0 (fun _ => true) true Tryz.f4.params.toList args.toList ds p := hA0
  rw [Tryz.params4] at hA hval
  obtain ⟨v0, vs0, d0, ds0, p0, q0, hargs, rfl, rfl, h0, r0⟩ := trodAll_cons hA
  obtain ⟨v1, vs1, d1, ds1, p1, q1, rfl, rfl, rfl, h1, r1⟩ := trodAll_cons r0
  obtain ⟨v2, vs2, d2, ds2, p2, q2, rfl, rfl, rfl, h2, r2⟩ := trodAll_cons r1
  obtain ⟨rfl, rfl, rfl⟩ := trodAll_nil r2
  obtain rfl : args = #[v0, v1, v2] := by cases args; simp_all
  obtain ⟨la, lc, X, rfl, hl, hx⟩ := open_bytess (hval 0 32 v0 rfl rfl) h0
  obtain ⟨ga, gc, G, rfl, hg⟩ := open_flags (hval 1 33 v1 rfl rfl) h1
  obtain ⟨ia, ic, inn, rfl, hin⟩ := open_bytes (hval 2 25 v2 rfl rfl) h2
  clear hA0
  refine (cat_law_calls hE la lc X ga gc G ia ic inn hl hx hg hin).mono fun e W' ⟨he, hF⟩ => ?_
  exact ⟨_, he, post_of_fresh hW' hF rfl rfl rfl (by rw [Tryz.params4]; intro t ht; simp at ht; rcases ht with rfl | rfl | rfl <;> exact ⟨by kernel_rfl, of_decide_eq_true (by kernel_rfl)⟩)⟩

set_option maxRecDepth 1000000 in
theorem cat_witness (os : Os) {H : Type} (enc : TypeId × Value → H) :
    (OpenSpec.ofChange Rows.toolsCatSpec).preRow enc Tryz.prog Tryz.f4 Rows.toolsCatRow.domain false Rows.toolsCatRow.laid ((laidWorld os).forCall (fun _ _ => 0) ⟨#[], #[.slice none 0 0, .slice none 0 0, .slice none 0 0], []⟩).memory #[.slice none 0 0, .slice none 0 0, .slice none 0 0] := by
  have hw : (DataW.whole enc Tryz.prog ((laidWorld os).forCall (fun _ _ => 0) ⟨#[], #[.slice none 0 0, .slice none 0 0, .slice none 0 0], []⟩).memory Tryz.f4.params.toList Rows.toolsCatSpec.vars false #[Value.slice none 0 0, .slice none 0 0, .slice none 0 0].toList 8).map (fun x => (x.1, x.2.1)) =
      some ([.nil, .nil, .nil], []) := by kernel_rfl
  obtain ⟨⟨x1, x2, x3⟩, hx, hx1⟩ := Option.map_eq_some_iff.1 hw
  simp only [Prod.mk.injEq] at hx1
  obtain ⟨rfl, rfl⟩ := hx1
  exact OpenSpec.preRow_of_cond 8 hx (by kernel_rfl) (fun k hk => by cases hk) (by kernel_rfl) (laid_met os _)

set_option maxRecDepth 1000000 in
theorem cat_lifted (os : Os) (started : os.Started) (H : Type) (enc : TypeId × Value → H) (F : Stop.Interp) :
    ReturnsInHanded {} Tryz.checked os 4 .any ((OpenSpec.ofChange Rows.toolsCatSpec).preRow enc Tryz.prog Tryz.f4 Rows.toolsCatRow.domain false Rows.toolsCatRow.laid) (((OpenSpec.ofChange Rows.toolsCatSpec).at F).post enc Tryz.prog Tryz.f4 false true false false) := by
  refine returnsInHanded_of_row (C := Tryz.checked) (s := OpenSpec.ofChange Rows.toolsCatSpec) own started (by kernel_rfl) Tryz.func4
    (witness_row_atRef (enc := enc) (C := Tryz.checked) false (laidWorld os) #[.slice none 0 0, .slice none 0 0, .slice none 0 0] rfl (by kernel_rfl) (by kernel_rfl) (by kernel_rfl) (cat_witness os enc)) ?_
  intro W base args ds gs before hval hW _ _ _ hL hS _
  exact cat_contract H enc W base args ds gs before hval hW (env_of hL hS)

theorem cat_named : Tryz.pinned.checked.prog.funcNamed Rows.toolsCatRow.func = some 4 := by kernel_rfl
theorem cat_instance : Tryz.f4.isInstance Tryz.pinned.checked.prog Rows.toolsCatRow.origin Rows.toolsCatRow.targs := of_decide_eq_true (by kernel_rfl)
theorem cat_wrapper : Tryz.f4.isWrapper Tryz.pinned.checked.prog Rows.toolsCatRow.wrapper Rows.toolsCatRow.mainSum := by unfold Func.isWrapper; first | (rw [if_pos (by decide +kernel)]; kernel_rfl) | (rw [if_neg (by decide +kernel)]; exact ⟨rfl, rfl⟩)

theorem cat_plain (f : FuncId) (fn : Func) (hf : Tryz.pinned.checked.prog.funcNamed "quartermaster/quartermasterlaw15.ToolsCat" = some f) (hfn : Tryz.pinned.checked.prog.funcs[f]? = some fn) :
    true = Tryz.pinned.checked.prog.looks [] ∧ ∀ (j : Nat) t, fn.params[j]? = some t → Tryz.pinned.checked.prog.wantsStandIn t = false := by
  obtain rfl : f = 4 := Option.some.inj ((show Tryz.prog.funcNamed "quartermaster/quartermasterlaw15.ToolsCat" = some 4 by kernel_rfl).symm.trans hf) |>.symm
  obtain rfl : fn = Tryz.f4 := (Option.some.inj (Tryz.func4.symm.trans hfn)).symm
  refine ⟨by kernel_rfl, fun j t ht => ?_⟩
  rw [Tryz.params4] at ht
  have hm := Array.mem_of_getElem? ht
  simp at hm
  rcases hm with rfl | rfl | rfl <;> exact (show Tryz.prog.wantsStandIn _ = false by kernel_rfl)
end Go.Proofs.YtbhmapcjcnceiaaGreatDoor
