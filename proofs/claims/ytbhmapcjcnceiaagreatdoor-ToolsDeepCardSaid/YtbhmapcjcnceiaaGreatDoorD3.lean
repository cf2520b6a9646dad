/- The table of the utilities, and whether there is one. -/
import Derived.Test.YtbhmapcjcnceiaaGreatDoorD2
import Derived.Test.YtbhmapcjcnceiaaGreatDoorA3
namespace Go.Proofs.YtbhmapcjcnceiaaGreatDoor
open Go Go.RowKit

/-- A map that is being filled. -/
def Filling (w0 : World) (B : Nat) (w : World) (ks : List (ByteArray × Value)) : Prop := MapAt w B ks ∧ Keeps (fun j => j = B) w0 w
theorem wp_fill {P : Program} {ops : Array Oper} {rest : List Oper} {o : Oper} {a : Act} {Q : Exit → Act → World → Prop} {w w0 : World} (hg : o.guard = none) (m x v : Operand) (T : TypeId) (hop : o.op = Op.insert T m x v) (K E : TypeId) (hT : P.underlying T = some (.map K E)) (hK : P.underlying K = some .string)
    (B : Nat) (ks : List (ByteArray × Value)) (hm : a.eval m = .map (some B)) (k : ByteArray) (hx : a.eval x = .string k) (u : Value) (hv : a.eval v = u) (h : Filling w0 B w ks)
    (hK' : ∀ w', Filling w0 B w' (upd k u ks) → wpList P ops Q rest (a.put o.dst undef) w') : wpList P ops Q (o :: rest) a w :=
  wp_update_str hg m x v T (Or.inr hop) K E hT hK B ks hm k hx u hv h.1 (fun w' h1 h2 => hK' w' ⟨h1, h.2.trans h2⟩)
/-- The utilities by their names. -/
def allTab : List (ByteArray × Value) :=
  [(⟨#[116, 114, 117, 101]⟩, .func (.func 63) #[] #[]), (⟨#[102, 97, 108, 115, 101]⟩, .func (.func 64) #[] #[]), (⟨#[101, 99, 104, 111]⟩, .func (.func 65) #[] #[]),
   (⟨#[112, 114, 105, 110, 116, 102]⟩, .func (.func 66) #[] #[]), (⟨#[99, 97, 116]⟩, .func (.func 67) #[] #[]), (⟨#[99, 112]⟩, .func (.func 68) #[] #[]),
   (⟨#[109, 118]⟩, .func (.func 69) #[] #[]), (⟨#[114, 109]⟩, .func (.func 70) #[] #[]), (⟨#[109, 107, 100, 105, 114]⟩, .func (.func 71) #[] #[]),
   (⟨#[114, 109, 100, 105, 114]⟩, .func (.func 72) #[] #[]), (⟨#[116, 111, 117, 99, 104]⟩, .func (.func 73) #[] #[]), (⟨#[116, 101, 115, 116]⟩, .func (.func 74) #[] #[]),
   (⟨#[91]⟩, .func (.func 75) #[] #[]), (⟨#[99, 97, 108, 99]⟩, .func (.func 76) #[] #[])]
set_option maxHeartbeats 800000 in
theorem all_calls (w : World) : Calls Tryz.prog 24 #[] w fun e w' => e = .returned (.map (some w.heap.size)) ∧ MapAt w' w.heap.size allTab ∧ Fresh w w' := by
  have hmm := @run_makeMap Tryz.prog
  have h0 : Filling (w.alloc (.map #[] 0)) w.heap.size (w.alloc (.map #[] 0)) [] := ⟨MapAt.nil w, Keeps.refl _ _⟩
  go_enter Tryz.func24, Tryz.ntmps24
  go_wp2_with (refine wp_fill rfl _ _ _ _ rfl 9 59 Tryz.underlying61 Tryz.underlying9 w.heap.size _ rfl _ rfl _ rfl (by assumption) ?_; intro w1 hM)
  go_ret
  rename_i wf _
  obtain ⟨hm, hk⟩ := hM
  refine ⟨rfl, (by exact hm), ?_⟩
  have k0 : Keeps (fun _ => False) w (w.alloc (.map #[] 0)) := (Keeps.refl _ w).alloc _
  exact k0.then hk (fun i hi h => by omega)
theorem new_calls (n m : Nat) (w : World) (hn : n ≤ 10000) (hm : m ≤ 1048576) : Calls Tryz.prog 11 #[.int .i64 n, .int .i64 m] w fun e w' => e = .returned (.pointer (some ⟨w.heap.size + 1, 0, none⟩)) ∧
    w' = (w.alloc (.map #[] 0)).alloc (.cells #[.map (some w.heap.size), .int .i64 n, .int .i64 m, .int .i64 0, .int .i64 0] 69) := by
  have hmm := @run_makeMap Tryz.prog
  go_enter Tryz.func11, Tryz.ntmps11
  go_wp2
  go_ret
  have e1 : min (n : Int) 10000 = n := by omega
  have e2 : min (m : Int) 1048576 = m := by omega
  rw [e1, e2]
  exact ⟨rfl, rfl⟩
end Go.Proofs.YtbhmapcjcnceiaaGreatDoor
