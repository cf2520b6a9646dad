/- The utility in memory, and its own small words: say, next, complain, may. -/
import Derived.Test.YtbhmapcjcnceiaaGreatDoorProg
import Derived.Test.YtbhmapcjcnceiaaGreatDoorA1
import Derived.Test.YtbhmapcjcnceiaaGreatDoorShelf
namespace Go.Proofs.YtbhmapcjcnceiaaGreatDoor
open Go Go.RowKit

theorem info_byte : (Tryz.prog.info? 5).map (fun i => (i.zero, i.size, i.bytes)) = some (some (.int .u8 0), 1, 1) := by kernel_rfl
theorem info_str : (Tryz.prog.info? 9).map (fun i => (i.zero, i.size, i.bytes)) = some (some (.string ⟨#[]⟩), 1, 16) := by kernel_rfl

/-- What every walk asks of the package-level variables. -/
structure Env (w : World) : Prop where
  len : 9 ≤ w.heap.size
  maxlen : ∃ m, w.cell? ⟨1, 0, none⟩ = some (.int .i64 m)
  pow : Lib.TabIs Tryz.prog w "internal/strconv.uint64pow10" .u64 Lib.pow10Tab
theorem glob_pow : Tryz.prog.globalNamed "internal/strconv.uint64pow10" = some 4 := by kernel_rfl
theorem Env.below {w w' : World} (h : Env w) (hb : Below 9 w w') : Env w' := by
  obtain ⟨m, hm⟩ := h.maxlen
  have hl := h.len
  have hl' := hb.size
  refine ⟨by omega, ⟨m, by rw [hb.cell (by decide)]; exact hm⟩, ?_⟩
  have hp := h.pow
  unfold Lib.TabIs World.var? at hp ⊢
  rw [glob_pow] at hp ⊢
  simpa [hb.block 4 (by decide)] using hp
theorem Env.keeps {F : Nat → Prop} {w w' : World} (h : Env w) (hk : Keeps F w w') (hF : ∀ k, F k → 9 ≤ k) : Env w' :=
  h.below ⟨hk.os, hk.tape, hk.output, hk.size, fun k hk9 => hk.block k (Nat.lt_of_lt_of_le hk9 h.len) (fun hf => by have := hF k hf; omega)⟩
theorem Env.fresh {w w' : World} (h : Env w) (hk : Fresh w w') : Env w' := h.keeps hk (fun _ x => x.elim)

/-- The utility lies in block b; its two buffers are its own. -/
structure Ut (w : World) (b base : Nat) (f : Value) (cwd name : ByteArray) (args inn : Value) (st : Int) (out log : Value) (o l : List UInt8) : Prop where
  blk : w.heap[b]? = some (.cells #[f, .string cwd, .string name, args, inn, .int .i64 st, out, log] 65 (0, 0))
  bufO : Buf w 5 base out o
  bufL : Buf w 5 base log l
  apart : ∀ k, out.ownBlock = some k → log.ownBlock ≠ some k
  hsz : base ≤ w.heap.size
  ge : 9 ≤ base ∧ base ≤ b
/-- The blocks that a utility may write. -/
def utF (b : Nat) (out log : Value) (k : Nat) : Prop := k = b ∨ out.ownBlock = some k ∨ log.ownBlock = some k
/-- Behind a call the utility's blocks are its old ones, or new. -/
def Old (w : World) (F' F : Nat → Prop) : Prop := ∀ k, k < w.heap.size → F' k → F k
theorem Old.refl (w : World) (F : Nat → Prop) : Old w F F := fun _ _ h => h
theorem Old.trans {w w' : World} {F F' F'' : Nat → Prop} (h : Old w F' F) (hs : w.heap.size ≤ w'.heap.size) (h' : Old w' F'' F') : Old w F'' F := fun k hk hf => h k hk (h' k (by omega) hf)
theorem Ut.ge9 {w : World} {b base : Nat} {f : Value} {cwd name : ByteArray} {args inn : Value} {st : Int} {out log : Value} {o l : List UInt8} (h : Ut w b base f cwd name args inn st out log o l) : ∀ k, utF b out log k → 9 ≤ k := by
  have := h.ge
  rintro k (rfl | hk | hk)
  · omega
  · have := h.bufO.ge hk; omega
  · have := h.bufL.ge hk; omega
theorem Ut.row_keeps {w w' : World} {b base : Nat} {f : Value} {cwd name : ByteArray} {args inn : Value} {st : Int} {out log : Value} {o l : List UInt8} (h : Ut w b base f cwd name args inn st out log o l)
    (hk : Keeps (utF b out log) w w') {oa : Option Addr} {xs : List Value} (hr : RowAt w 9 oa xs) : RowAt w' 9 oa xs := by
  refine hr.keeps hk (fun ad ha hf => ?_)
  rcases hf with hf | hf | hf
  · exact hr.ne h.blk (by decide) ad ha hf
  · subst ha
    obtain ⟨_, cur, fz, hb, _⟩ := hr
    exact h.bufO.ne hb (by decide) hf
  · subst ha
    obtain ⟨_, cur, fz, hb, _⟩ := hr
    exact h.bufL.ne hb (by decide) hf

theorem Ut.fresh {w w' : World} {b base : Nat} {f : Value} {cwd name : ByteArray} {args inn : Value} {st : Int} {out log : Value} {o l : List UInt8} (h : Ut w b base f cwd name args inn st out log o l) (hk : Fresh w w') :
    Ut w' b base f cwd name args inn st out log o l :=
  ⟨hk.at h.blk (fun x => x), h.bufO.keeps hk (fun _ _ x => x), h.bufL.keeps hk (fun _ _ x => x), h.apart, Nat.le_trans h.hsz hk.size, h.ge⟩
set_option maxHeartbeats 400000 in
theorem say_calls {w : World} {b base : Nat} {f : Value} {cwd name : ByteArray} {args inn : Value} {st : Int} {out log : Value} {o l : List UInt8} (s : ByteArray)
    (hu : Ut w b base f cwd name args inn st out log o l) (hroom : o.length + s.size ≤ 140737488355328) :
    Calls Tryz.prog 107 #[.pointer (some ⟨b, 0, none⟩), .string s] w fun e w' => e = .returned (.tuple #[]) ∧ ∃ out',
      Ut w' b base f cwd name args inn st out' log (o ++ s.data.toList) l ∧ Keeps (utF b out log) w w' ∧ Old w (utF b out' log) (utF b out log) := by
  have Hu := Lib.hid hu
  have Hne := Lib.hid (hu.bufO.ne hu.blk (by decide))
  have c6 := cell_of_block hu.blk 6
  have f6 := frozen_of_block hu.blk 6
  have Ho := Lib.hid hu.bufO
  have Hr := Lib.hid hroom
  clear hu hroom
  simp at c6
  go_enter Tryz.func107, Tryz.ntmps107
  go_wp2_with (at_builtin; refine wp_app_str rfl _ _ _ _ rfl base 5 Tryz.underlying25 Tryz.underlying9 info_byte out o rfl Ho.out s rfl Hr.out Hu.out.hsz ?_; intro oa' oc' w1 hown1 hg1 hat1; have k6 := cell_of_block (grown_at hg1 Hu.out.blk Hne.out) 6; have f6' := frozen_of_block (grown_at hg1 Hu.out.blk Hne.out) 6; simp at k6)
  go_end0
  have hbl := grown_at hg1 Hu.out.blk Hne.out
  have hne' : (Value.slice oa' (o.length + s.size) oc').ownBlock ≠ some b := hown1.ne hbl (by decide)
  have K1 : Keeps (utF b out log) w w1 := (Keeps.refl _ w).grown hg1 (fun k hk _ => Or.inr (Or.inl hk))
  have hlne : log.ownBlock ≠ some b := Hu.out.bufL.ne Hu.out.blk (by decide)
  refine ⟨rfl, _, ⟨block_setCell hbl 6 _, ?_, ?_, ?_, ?_, Hu.out.ge⟩, K1.setCell (fun _ => Or.inl rfl) _, ?_⟩
  · exact hown1.keeps (Keeps.set w1 b 6 _) (fun g hg e => hne' (by rw [hg, e]))
  · exact (Hu.out.bufL.keeps (Keeps.grew hg1) (fun g hg e => Hu.out.apart g e hg)).keeps (Keeps.set w1 b 6 _) (fun g hg e => hlne (by rw [hg, e]))
  · intro k hk hl
    rcases hat1 with h | h
    · exact Hu.out.apart k (h ▸ hk) hl
    · have := Hu.out.bufL.lt hl
      rw [h] at hk
      simp only [Option.some.injEq] at hk
      omega
  · have := Hu.out.hsz
    have := hg1.size
    simp only [World.setCell, Array.size_modify]
    omega
  · rintro k hk (h | h | h)
    · exact Or.inl h
    · rcases hat1 with h' | h'
      · exact Or.inr (Or.inl (h' ▸ h))
      · rw [h'] at h
        simp only [Option.some.injEq] at h
        omega
    · exact Or.inr (Or.inr h)
end Go.Proofs.YtbhmapcjcnceiaaGreatDoor
