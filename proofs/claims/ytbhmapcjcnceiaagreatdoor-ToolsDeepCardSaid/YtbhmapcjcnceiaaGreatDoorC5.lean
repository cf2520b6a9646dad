/- Reckoning of a numeral: the whole text, and Eval. -/
import Derived.Test.YtbhmapcjcnceiaaGreatDoorC4
import Derived.Recover
import Derived.Defers
namespace Go.Proofs.YtbhmapcjcnceiaaGreatDoor
open Go Go.RowKit

/-- The deferred closure behind a reckoning that came to its end: nothing. -/
theorem rescue_idle (p q : Addr) (w : World) :
    CallsD Tryz.prog 231 #[.pointer (some p), .pointer (some q)] .returning w fun e u' w' => e = .returned (.tuple #[]) ∧ u' = .returning ∧ w' = w := by
  refine callsD_of_wpS Tryz.func231 rfl fun c₀ cs hu => ?_
  apply wpS_seq
  apply wpS_region
  simp [wpOpsS, go_sem, recoverD, hu, Tryz.ntmps231, Exit.thenS]
  apply wpS_seq
  apply wpS_region
  simp [wpOpsS, go_sem, Exit.thenS]
  refine wpS_cond (t := false) (by simp [Act.eval, Array.replicate]) ?_
  simp only [Bool.false_eq_true, if_false]
  refine wpS_of_wp (wp_skip ?_)
  cases c₀
  simp_all [bodyPostS, results, Tryz.results231]

set_option maxHeartbeats 800000 in
theorem whole_num {w : World} {b : Nat} {s : ByteArray} {l : Value} {v : Int} (h : Rd w b s 0 l 0 false) (hU : UnOK b s 0 l 0 false v) (hs : s.size ≤ 4096) :
    Calls Tryz.prog 201 #[.pointer (some ⟨b, 0, none⟩)] w fun e w' => e = .returned (.tuple #[.int .i64 v, .int .i64 0]) ∧ Keeps (fun k => k = b) w w' := by
  have hmf : ∀ (fn : Fn) (first cap : Array Value) (w : World), (Instr.makeFunc fn first cap).run Tryz.prog w = .ok (.func fn first cap) w := fun _ _ _ _ => rfl
  have H := Lib.hid h
  have HU := Lib.hid hU
  clear h hU
  go_enter_defers Tryz.func201, Tryz.ntmps201
  go_wp2_with fail
  have hbw := lt_of_block H.out
  have R1 : Rd ((w.alloc (Obj.cells #[Value.int IntKind.i64 0] 3)).alloc (Obj.cells #[Value.int IntKind.i64 0] 34)) b s 0 l 0 false := block_alloc (block_alloc H.out)
  have p1 : ((w.alloc (Obj.cells #[Value.int IntKind.i64 0] 3)).alloc (Obj.cells #[Value.int IntKind.i64 0] 34)).heap[w.heap.size]? = some (.cells #[Value.int IntKind.i64 0] 3 (0, 0)) := block_alloc (heap_alloc_new w _)
  have q1 : ((w.alloc (Obj.cells #[Value.int IntKind.i64 0] 3)).alloc (Obj.cells #[Value.int IntKind.i64 0] 34)).heap[w.heap.size + 1]? = some (.cells #[Value.int IntKind.i64 0] 34 (0, 0)) := by
    have := heap_alloc_new (w.alloc (Obj.cells #[Value.int IntKind.i64 0] 3)) (Obj.cells #[Value.int IntKind.i64 0] 34)
    simpa using this
  have K1 : Keeps (fun k => k = b) w ((w.alloc (Obj.cells #[Value.int IntKind.i64 0] 3)).alloc (Obj.cells #[Value.int IntKind.i64 0] 34)) := ((Keeps.refl _ w).alloc _).alloc _
  obtain ⟨W1, hW1⟩ : ∃ W1, W1 = (w.alloc (Obj.cells #[Value.int IntKind.i64 0] 3)).alloc (Obj.cells #[Value.int IntKind.i64 0] 34) := ⟨_, rfl⟩
  rw [← hW1] at R1 p1 q1 K1 ⊢
  clear hW1
  refine (binary_num HU.out hs 10 (by omega) W1 R1).mono ?_
  rintro _ W2 ⟨rfl, hR2, hK2⟩
  have p2 := hK2.at p1 (by omega)
  have q2 := hK2.at q1 (by omega)
  have HK := Lib.hid (K1.trans hK2)
  have HR := Lib.hid hR2
  have HP := Lib.hid p2
  have HQ := Lib.hid q2
  clear p1 q1 K1 hR2 hK2 R1
  have cp := cell_of_block p2 0
  have fp := frozen_of_block p2 0
  simp at cp
  clear p2 q2
  go_wp2_with fail
  have R3 : Rd (W2.setCell ⟨w.heap.size, 0, none⟩ (.int .i64 v)) b s s.size l 0 false := by
    unfold Rd
    rw [block_setCell_ne (by show b ≠ w.heap.size; omega)]
    exact HR.out
  have p3 := block_setCell HP.out 0 (.int .i64 v)
  have q3 : (W2.setCell ⟨w.heap.size, 0, none⟩ (.int .i64 v)).heap[w.heap.size + 1]? = some (.cells #[Value.int IntKind.i64 0] 34 (0, 0)) := by
    rw [block_setCell_ne (by show w.heap.size + 1 ≠ w.heap.size; omega)]
    exact HQ.out
  have K3 : Keeps (fun k => k = b) w (W2.setCell ⟨w.heap.size, 0, none⟩ (.int .i64 v)) := HK.out.setCell (fun (h : w.heap.size < w.heap.size) => absurd h (by omega)) _
  obtain ⟨W3, hW3⟩ : ∃ W3, W3 = W2.setCell ⟨w.heap.size, 0, none⟩ (.int .i64 v) := ⟨_, rfl⟩
  rw [← hW3] at R3 p3 q3 K3 ⊢
  clear hW3 cp fp HP HQ HK HR
  refine (blank_end R3 hs).mono ?_
  rintro _ w1 ⟨rfl, n4, rfl⟩
  obtain ⟨W4, hW4⟩ : ∃ W4, W4 = W3.drewN n4 := ⟨_, rfl⟩
  have HR4 := Lib.hid (show Rd W4 b s s.size l 0 false by rw [hW4]; exact R3)
  have p4 : W4.heap[w.heap.size]? = some (.cells #[Value.int .i64 v] 3 (0, 0)) := by rw [hW4]; exact p3
  have q4 : W4.heap[w.heap.size + 1]? = some (.cells #[Value.int IntKind.i64 0] 34 (0, 0)) := by rw [hW4]; exact q3
  have HK4 := Lib.hid (show Keeps (fun k => k = b) w W4 by rw [hW4]; exact K3.drewN n4)
  rw [← hW4]
  clear hW4 p3 q3 R3 K3
  have HP4 := Lib.hid p4
  have HQ4 := Lib.hid q4
  clear p4 q4
  have c0 := HR4.out.c0
  have c1 := HR4.out.c1
  go_wp2_with fail
  go_quiet (fail)
  obtain ⟨W5, hW5⟩ : ∃ W5, W5 = W4.drewN nq := ⟨_, rfl⟩
  have HR5 := Lib.hid (show Rd W5 b s s.size l 0 false by rw [hW5]; exact HR4.out)
  have HP5 := Lib.hid (show W5.heap[w.heap.size]? = some (.cells #[Value.int .i64 v] 3 (0, 0)) by rw [hW5]; exact HP4.out)
  have HQ5 := Lib.hid (show W5.heap[w.heap.size + 1]? = some (.cells #[Value.int IntKind.i64 0] 34 (0, 0)) by rw [hW5]; exact HQ4.out)
  have HK5 := Lib.hid (show Keeps (fun k => k = b) w W5 by rw [hW5]; exact HK4.out.drewN nq)
  rw [← hW5]
  clear hW5 c0 c1 HR4 HP4 HQ4 HK4
  have c4 := HR5.out.c4
  have cp := cell_of_block HP5.out 0
  have fp := frozen_of_block HP5.out 0
  have cq := cell_of_block HQ5.out 0
  have fq := frozen_of_block HQ5.out 0
  simp at cp cq
  go_wp2
  refine leaves_cons (f := 231) (args := #[.pointer (some ⟨w.heap.size, 0, none⟩), .pointer (some ⟨w.heap.size + 1, 0, none⟩)]) (by simp) (by simp [go_sem]) ?_
  refine (rescue_idle _ _ _).mono ?_
  rintro e u' w'' ⟨rfl, rfl, rfl⟩
  have K6 : Keeps (fun k => k = b) w ((W5.setCell ⟨w.heap.size, 0, none⟩ (.int .i64 v)).setCell ⟨w.heap.size + 1, 0, none⟩ (.int .i64 0)) :=
    (HK5.out.setCell (fun (h : w.heap.size < w.heap.size) => absurd h (by omega)) _).setCell (fun (h : w.heap.size + 1 < w.heap.size) => absurd h (by omega)) _
  have p6 : ((W5.setCell ⟨w.heap.size, 0, none⟩ (.int .i64 v)).setCell ⟨w.heap.size + 1, 0, none⟩ (.int .i64 0)).heap[w.heap.size]? = some (.cells #[Value.int .i64 v] 3 (0, 0)) := by
    rw [block_setCell_ne (by show w.heap.size ≠ w.heap.size + 1; omega)]
    exact block_setCell HP5.out 0 _
  have q6 : ((W5.setCell ⟨w.heap.size, 0, none⟩ (.int .i64 v)).setCell ⟨w.heap.size + 1, 0, none⟩ (.int .i64 0)).heap[w.heap.size + 1]? = some (.cells #[Value.int .i64 0] 34 (0, 0)) := by
    refine block_setCell (c := #[Value.int IntKind.i64 0]) ?_ 0 _
    rw [block_setCell_ne (by show w.heap.size + 1 ≠ w.heap.size; omega)]
    exact HQ5.out
  have cp6 := cell_of_block p6 0
  have cq6 := cell_of_block q6 0
  simp only [List.getElem?_toArray, List.getElem?_cons_zero] at cp6 cq6
  generalize (W5.setCell ⟨w.heap.size, 0, none⟩ (.int .i64 v)).setCell ⟨w.heap.size + 1, 0, none⟩ (.int .i64 0) = W6 at K6 cp6 cq6 ⊢
  clear p6 q6 c4 cp fp cq fq
  refine ⟨.tuple #[.int .i64 v, .int .i64 0], ?_, rfl, K6⟩
  simp [results, Tryz.results201, go_sem, cp6, cq6]

set_option maxHeartbeats 800000 in
theorem eval_num {w : World} {s : ByteArray} (v : Int) (hs : s.size ≤ 4096) (hU : ∀ b, b = w.heap.size → UnOK b s 0 (.slice none 0 0) 0 false v) :
    Calls Tryz.prog 157 #[.string s, .slice none 0 0] w fun e w' => e = .returned (.tuple #[.int .i64 v, .int .i64 0]) ∧ Fresh w w' := by
  have z : ¬ (s.size : Int) > 4096 := by omega
  go_enter Tryz.func157, Tryz.ntmps157
  go_wp2_with fail
  have R1 : Rd (w.alloc (Obj.cells #[.string s, .int .i64 0, .slice none 0 0, .int .i64 0, .bool false] 206)) w.heap.size s 0 (.slice none 0 0) 0 false := heap_alloc_new w _
  refine (whole_num R1 (hU _ rfl) hs).mono ?_
  rintro _ w2 ⟨rfl, K⟩
  go_wp2
  go_ret2
  refine ⟨rfl, ?_⟩
  have K0 : Keeps (fun _ => False) w (w.alloc (Obj.cells #[.string s, .int .i64 0, .slice none 0 0, .int .i64 0, .bool false] 206)) := (Keeps.refl _ w).alloc _
  exact K0.then K (fun i hi h => by omega)
end Go.Proofs.YtbhmapcjcnceiaaGreatDoor
