/- The file system in memory: what kind and way tell. -/
import Derived.Test.YtbhmapcjcnceiaaGreatDoorF2
import Derived.Test.YtbhmapcjcnceiaaGreatDoorA3
namespace Go.Proofs.YtbhmapcjcnceiaaGreatDoor
open Go Go.RowKit

section
variable {α : Type}
def look (k : ByteArray) : List (ByteArray × α) → Option α
  | [] => none
  | p :: r => if k = p.1 then some p.2 else look k r
def put (k : ByteArray) (v : α) : List (ByteArray × α) → List (ByteArray × α)
  | [] => [(k, v)]
  | p :: r => if k = p.1 then (k, v) :: r else p :: put k v r
def rem (k : ByteArray) : List (ByteArray × α) → List (ByteArray × α)
  | [] => []
  | p :: r => if k = p.1 then r else p :: rem k r
variable (f : α → Value)
theorem find_look (k : ByteArray) : ∀ t : List (ByteArray × α), find k (t.map fun p => (p.1, f p.2)) = (look k t).map f
  | [] => rfl
  | p :: r => by
    simp only [List.map_cons, find, look]
    split
    · rfl
    · exact find_look k r
theorem upd_put (k : ByteArray) (v : α) : ∀ t : List (ByteArray × α), upd k (f v) (t.map fun p => (p.1, f p.2)) = (put k v t).map fun p => (p.1, f p.2)
  | [] => rfl
  | p :: r => by
    simp only [List.map_cons, upd, put]
    split
    · rfl
    · rw [upd_put k v r]; rfl
theorem del_rem (k : ByteArray) : ∀ t : List (ByteArray × α), del k (t.map fun p => (p.1, f p.2)) = (rem k t).map fun p => (p.1, f p.2)
  | [] => rfl
  | p :: r => by
    simp only [List.map_cons, del, rem]
    split
    · rfl
    · rw [del_rem k r]; rfl
end

/-- A node as it lies in memory. -/
structure Cn where
  dir : Bool
  oa : Option Addr
  c : Nat
  data : List UInt8
  time : Int
def Cn.val (n : Cn) : Value := .agg #[.bool n.dir, .slice n.oa n.data.length n.c, .int .i64 n.time]
abbrev Tree := List (ByteArray × Cn)
/-- A file system: its block P, its map in block M, its nodes. -/
structure FsAt (w : World) (P M : Nat) (nodes bytes used clock : Int) (t : Tree) : Prop where
  blk : w.heap[P]? = some (.cells #[.map (some M), .int .i64 nodes, .int .i64 bytes, .int .i64 used, .int .i64 clock] 69 (0, 0))
  map : MapAt w M (t.map fun p => (p.1, p.2.val))
  rows : ∀ p ∈ t, BytesAt w p.2.oa p.2.data ∧ (p.2.oa = none → p.2.c = 0)
theorem FsAt.fresh {w w' : World} {P M : Nat} {nodes bytes used clock : Int} {t : Tree} (h : FsAt w P M nodes bytes used clock t) (hk : Fresh w w') : FsAt w' P M nodes bytes used clock t :=
  ⟨hk.at h.blk (fun x => x), h.map.keeps hk (fun x => x), fun p hp => ⟨(h.rows p hp).1.fresh hk, (h.rows p hp).2⟩⟩

/-- What is at a whole path. -/
def kindOf (t : Tree) (p : ByteArray) : Int := if p.data.toList = [47] then 2 else match look p t with
  | some n => if n.dir = true then 2 else 1
  | none => 0

set_option maxHeartbeats 800000 in
theorem kind_calls {w : World} {P M : Nat} {nodes bytes used clock : Int} {t : Tree} (h : FsAt w P M nodes bytes used clock t) (p : ByteArray) :
    Calls Tryz.prog 27 #[.pointer (some ⟨P, 0, none⟩), .string p] w fun e w' => e = .returned (.int .i64 (kindOf t p)) ∧ Fresh w w' := by
  have hz : ∀ w, (zeroValue 74).run Tryz.prog w = .ok (.agg #[.bool false, .slice none 0 0, .int .i64 0]) w := fun _ => by kernel_rfl
  have Hz := Lib.hid hz
  have hf := find_look Cn.val p t
  have c0 := cell_of_block h.blk 0
  simp at c0
  have HM := Lib.hid h.map
  clear h hz
  unfold kindOf
  cases hlk : look p t with
  | none =>
    rw [hlk] at hf
    have HFd := Lib.hid hf
    clear hf hlk
    by_cases e0 : p.data.toList = [47]
    · have t0 := eqb_is e0
      rw [if_pos e0]
      go_enter Tryz.func27, Tryz.ntmps27
      go_wp2_with (refine wp_lookup_str rfl _ _ _ _ rfl 9 74 Tryz.underlying67 Tryz.underlying9 (.agg #[.bool false, .slice none 0 0, .int .i64 0]) (Hz.out _) M _ rfl p rfl HM.out _ HFd.out ?_)
      go_ret
      exact ⟨rfl, (Keeps.refl _ w).alloc _⟩
    · have t0 := eqb_not e0
      rw [if_neg e0]
      go_enter Tryz.func27, Tryz.ntmps27
      go_wp2_with (refine wp_lookup_str rfl _ _ _ _ rfl 9 74 Tryz.underlying67 Tryz.underlying9 (.agg #[.bool false, .slice none 0 0, .int .i64 0]) (Hz.out _) M _ rfl p rfl HM.out _ HFd.out ?_)
      go_ret
      exact ⟨rfl, (Keeps.refl _ w).alloc _⟩
  | some n =>
    obtain ⟨dir, oa, c, data, time⟩ := n
    rw [hlk] at hf
    have hf' : find p (t.map fun p => (p.1, p.2.val)) = some (.agg #[.bool dir, .slice oa data.length c, .int .i64 time]) := hf
    have HFd := Lib.hid hf'
    clear hf hf' hlk
    by_cases e0 : p.data.toList = [47]
    · have t0 := eqb_is e0
      rw [if_pos e0]
      go_enter Tryz.func27, Tryz.ntmps27
      go_wp2_with (refine wp_lookup_str rfl _ _ _ _ rfl 9 74 Tryz.underlying67 Tryz.underlying9 (.agg #[.bool false, .slice none 0 0, .int .i64 0]) (Hz.out _) M _ rfl p rfl HM.out _ HFd.out ?_)
      go_ret
      exact ⟨rfl, (Keeps.refl _ w).alloc _⟩
    · have t0 := eqb_not e0
      rw [if_neg e0]
      cases dir
      · go_enter Tryz.func27, Tryz.ntmps27
        go_wp2_with (refine wp_lookup_str rfl _ _ _ _ rfl 9 74 Tryz.underlying67 Tryz.underlying9 (.agg #[.bool false, .slice none 0 0, .int .i64 0]) (Hz.out _) M _ rfl p rfl HM.out _ HFd.out ?_)
        go_ret
        exact ⟨rfl, (Keeps.refl _ w).alloc _⟩
      · go_enter Tryz.func27, Tryz.ntmps27
        go_wp2_with (refine wp_lookup_str rfl _ _ _ _ rfl 9 74 Tryz.underlying67 Tryz.underlying9 (.agg #[.bool false, .slice none 0 0, .int .i64 0]) (Hz.out _) M _ rfl p rfl HM.out _ HFd.out ?_)
        go_ret
        exact ⟨rfl, (Keeps.refl _ w).alloc _⟩
end Go.Proofs.YtbhmapcjcnceiaaGreatDoor
