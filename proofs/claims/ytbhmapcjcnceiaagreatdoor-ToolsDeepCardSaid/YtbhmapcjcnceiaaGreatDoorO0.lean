/- Within Run: what one command makes of a file system. -/
import Derived.Test.YtbhmapcjcnceiaaGreatDoorD4
import Derived.Test.YtbhmapcjcnceiaaGreatDoorN3
namespace Go.Proofs.YtbhmapcjcnceiaaGreatDoor
open Go Go.RowKit

set_option maxRecDepth 10000 in
theorem at_calls (w : World) (s : ByteArray) (c : UInt8) (hs : s.size ≤ 1000000) : Calls Tryz.prog 14 #[.string s, .int .u8 c.toNat] w fun e w' => w' = w ∧ ∃ z : Int, e = .returned (.int .i64 z) ∧ (0 ≤ z ↔ c ∈ s.data.toList) := by
  go_enter Tryz.func14, Tryz.ntmps14
  go_wp2_with fail
  go_loop [5] (fun i => ∃ k : Nat, k ≤ s.size ∧ i = .int .i64 k ∧ c ∉ s.data.toList.take k) (fun i => s.size - (intOf i).toNat)
  case atStart => exact ⟨0, by omega, rfl, by simp⟩
  case round =>
    obtain ⟨k, hk, rfl, hpre⟩ := hrel
    have HP := Lib.hid hpre
    clear hpre
    by_cases hlt : k < s.size
    · have hg : s.data.toList[k]? = some s[k] := by
        rw [Array.getElem?_toList, Array.getElem?_eq_getElem hlt]
        rfl
      have HG := Lib.hid hg
      clear hg
      by_cases e1 : s[k] = c
      · have t1 : ((s[k].toNat : Int) == (c.toNat : Int)) = true := by rw [e1]; exact beq_self_eq_true _
        go_wp2
        go_ret
        exact ⟨rfl, k, rfl, by
          refine ⟨fun _ => ?_, fun _ => by omega⟩
          have := List.mem_of_getElem? HG.out
          rw [e1] at this
          simpa using this⟩
      · have t1 : ((s[k].toNat : Int) == (c.toNat : Int)) = false := by
          rw [beq_eq_false_iff_ne]
          intro h
          exact e1 (UInt8.toNat_inj.1 (by omega))
        go_wp2
        go_round
        case rel => exact ⟨k + 1, by omega, by go_num, by
          rw [List.take_add_one, HG.out]
          simp only [Option.toList_some, List.mem_append, List.mem_singleton, not_or]
          exact ⟨HP.out, fun h => e1 h.symm⟩⟩
        case measure => simp [intOf]; omega
    · obtain rfl : k = s.size := by omega
      go_wp2_with fail
      go_ret
      refine ⟨rfl, -1, rfl, ⟨fun h => by omega, fun h => absurd h ?_⟩⟩
      have := HP.out
      rw [List.take_of_length_le (Nat.le_of_eq (by rw [Array.length_toList]; rfl))] at this
      simpa using this

def rootP : ByteArray := ⟨#[47]⟩
abbrev nilS : Value := .slice none 0 0
/-- One command, within Run. -/
theorem fs_run {w : World} {K : FuncId} {P M : Nat} {nodes bytes used used' clock clock' : Int} {t T : Tree} {name : ByteArray} {args : List ByteArray} {st : Int} {l : List UInt8} (oa : Option Addr) (c : Nat)
    (hent : ∀ args w, (callFunc K args).run Tryz.prog w = .ok (.enter K args) w) (hfind : find name allTab = some (.func (.func K) #[] #[])) (hE : Env w) (hs : ReadRow w oa c (args.map Value.string)) (hlen : args.length ≤ 1000) (hl : l.length ≤ 1099511627776)
    (hf : FsAt w P M nodes bytes used clock t) (h9 : 9 ≤ P ∧ 9 ≤ M)
    (hdo : ∀ w1 b oa c, w.heap.size ≤ b → Ut w1 b w.heap.size (.pointer (some ⟨P, 0, none⟩)) rootP name (.slice oa args.length c) nilS 0 nilS nilS [] [] → Strs w1 oa c args → Env w1 → FsAt w1 P M nodes bytes used clock t →
      Calls Tryz.prog K #[.pointer (some ⟨b, 0, none⟩)] w1 fun e w2 => e = .returned (.tuple #[]) ∧ ∃ args' log', Ut w2 b w.heap.size (.pointer (some ⟨P, 0, none⟩)) rootP name args' nilS st nilS log' [] l ∧ FsAt w2 P M nodes bytes used' clock' T ∧
        Keeps (fun k => (k = P ∨ k = M) ∨ utF b nilS nilS k) w1 w2 ∧ Old w1 (utF b nilS log') (utF b nilS nilS)) :
    Calls Tryz.prog 10 #[.pointer (some ⟨P, 0, none⟩), .string rootP, .string name, .slice oa args.length c, nilS] w fun e w' => ∃ oo oc lo lc, e = .returned (.agg #[.int .i64 st, .slice oo 0 oc, .slice lo l.length lc]) ∧
      FsAt w' P M nodes bytes used' clock' T ∧ Keeps (fun k => k = P ∨ k = M) w w' := by
  have hB := hf.below
  have hd : Does K w (.pointer (some ⟨P, 0, none⟩)) rootP name args nilS (fun k => k = P ∨ k = M) st [] l (fun _ w2 => FsAt w2 P M nodes bytes used' clock' T) := by
    intro w1 b oa c hF hbb hu hs1 hE1
    refine (hdo w1 b oa c hbb hu hs1 hE1 (hf.fresh hF)).mono ?_
    rintro _ w2 ⟨rfl, args', log', hu2, hf2, hk2, -⟩
    refine ⟨rfl, args', nilS, log', hu2, hk2.mono (fun k hk h => ?_), hf2⟩
    rcases h with h | h | h | h
    · exact Or.inr h
    · exact Or.inl h
    · cases h
    · cases h
  refine (run_calls_read (ia := none) (il := 0) (ic := 0) oa c hent hfind hE hs hlen (fun k hk => by have h1 := hB.1; have h2 := hB.2.1; rcases hk with e | e <;> omega) (by simp) hl hd).mono ?_
  rintro _ w' ⟨oo, oc, lo, lc, w1, w2, rfl, -, -, -, hq, hk, hK⟩
  refine ⟨oo, oc, lo, lc, rfl, hq.keeps hk ?_ ?_ ?_, hK⟩
  · rintro ⟨cs, Ty, fz, hb, hT⟩
    rw [hq.blk] at hb
    simp only [Option.some.injEq, Obj.cells.injEq] at hb
    rcases hT with h | h <;> rw [h] at hb <;> exact absurd hb.2.1 (by decide)
  · rintro ⟨cs, Ty, fz, hb, hT⟩
    exact hq.map.ne hb rfl
  · rintro x hx ad had ⟨cs, Ty, fz, hb, hT⟩
    have hr := (hq.rows x hx).1
    rw [had] at hr
    obtain ⟨_, cur, fz', hb', _⟩ := hr
    rw [hb'] at hb
    simp only [Option.some.injEq, Obj.cells.injEq] at hb
    rcases hT with h | h <;> rw [h] at hb <;> exact absurd hb.2.1 (by decide)
end Go.Proofs.YtbhmapcjcnceiaaGreatDoor
