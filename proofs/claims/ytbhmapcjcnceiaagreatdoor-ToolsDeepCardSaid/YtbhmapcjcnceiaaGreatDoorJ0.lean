/- The file system's Kind and Time, and what a place tells. -/
import Derived.Test.YtbhmapcjcnceiaaGreatDoorF5
namespace Go.Proofs.YtbhmapcjcnceiaaGreatDoor
open Go Go.RowKit

def fsKind (t : Tree) (p : ByteArray) : Int := if (fsAbs t p).2 ≠ 0 then 0 else kindOf t (fsAbs t p).1
theorem fskind_calls {w : World} {P M : Nat} {nodes bytes used clock : Int} {t : Tree} (h : FsAt w P M nodes bytes used clock t) (hE : Env w) (p : ByteArray) (hp : p.size < 4294967281) :
    Calls Tryz.prog 57 #[.pointer (some ⟨P, 0, none⟩), .string p] w fun e w' => e = .returned (.int .i64 (fsKind t p)) ∧ Fresh w w' := by
  have HA := Lib.hid (fsabs_calls h hE p hp)
  have H := Lib.hid h
  have hr : fsKind t p = if (fsAbs t p).2 ≠ 0 then 0 else kindOf t (fsAbs t p).1 := rfl
  generalize fsKind t p = R at hr ⊢
  have HR := Lib.hid hr
  clear h hE hr
  obtain ⟨Q, hQ⟩ : ∃ Q, fsAbs t p = Q := ⟨_, rfl⟩
  rw [hQ] at HA HR
  clear hQ
  obtain ⟨q, er⟩ := Q
  go_enter Tryz.func57, Tryz.ntmps57
  go_wp2_with fail
  refine HA.out.mono ?_
  rintro _ w1 ⟨rfl, hF1⟩
  have HF1 := Lib.hid hF1
  clear hF1 HA
  by_cases e0 : er = 0
  · subst e0
    rw [if_neg (fun h => h rfl)] at HR
    go_wp2_with fail
    refine (kind_calls (H.out.fresh HF1.out) q).mono ?_
    rintro _ w2 ⟨rfl, hF2⟩
    have HF2 := Lib.hid (HF1.out.trans hF2)
    clear hF2
    go_wp2_with fail
    go_ret
    exact ⟨by rw [HR.out]; rfl, HF2.out⟩
  · have t1 : (er == 0) = false := by rw [beq_eq_false_iff_ne]; exact e0
    rw [if_pos e0] at HR
    go_wp2_with fail
    go_ret
    exact ⟨by rw [HR.out]; rfl, HF1.out⟩

def fsTime (t : Tree) (p : ByteArray) : Int := if (fsAbs t p).2 ≠ 0 then 0 else ((look (fsAbs t p).1 t).map Cn.time).getD 0
theorem node_time (d : Bool) (a : Option Addr) (n c : Nat) (x : Int) (w : World) : (Instr.field 74 (.agg #[.bool d, .slice a n c, .int .i64 x]) 2).run Tryz.prog w = .ok (.int .i64 x) w := by kernel_rfl
theorem fstime_calls {w : World} {P M : Nat} {nodes bytes used clock : Int} {t : Tree} (h : FsAt w P M nodes bytes used clock t) (hE : Env w) (p : ByteArray) (hp : p.size < 4294967281) :
    Calls Tryz.prog 59 #[.pointer (some ⟨P, 0, none⟩), .string p] w fun e w' => e = .returned (.int .i64 (fsTime t p)) ∧ Fresh w w' := by
  have hz : ∀ w, (zeroValue 74).run Tryz.prog w = .ok (.agg #[.bool false, .slice none 0 0, .int .i64 0]) w := fun _ => by kernel_rfl
  have Hz := Lib.hid hz
  have hfl : ∀ (d : Bool) (a : Option Addr) (n c : Nat) (x : Int) (w : World), (Instr.field 74 (.agg #[.bool d, .slice a n c, .int .i64 x]) 2).run Tryz.prog w = .ok (.int .i64 x) w := node_time
  have HA := Lib.hid (fsabs_calls h hE p hp)
  have H := Lib.hid h
  have hr : fsTime t p = if (fsAbs t p).2 ≠ 0 then 0 else ((look (fsAbs t p).1 t).map Cn.time).getD 0 := rfl
  generalize fsTime t p = R at hr ⊢
  have HR := Lib.hid hr
  clear h hE hr hz
  obtain ⟨Q, hQ⟩ : ∃ Q, fsAbs t p = Q := ⟨_, rfl⟩
  rw [hQ] at HA HR
  clear hQ
  obtain ⟨q, er⟩ := Q
  go_enter Tryz.func59, Tryz.ntmps59
  go_wp2_with fail
  refine HA.out.mono ?_
  rintro _ w1 ⟨rfl, hF1⟩
  have HF1 := Lib.hid hF1
  clear hF1 HA
  by_cases e0 : er = 0
  · subst e0
    rw [if_neg (fun h => h rfl)] at HR
    have hf := find_look Cn.val q t
    have hc := cell_of_block (H.out.fresh HF1.out).blk 0
    simp at hc
    have HM := Lib.hid (H.out.fresh HF1.out).map
    cases hlk : look q t with
    | none =>
      rw [hlk] at hf HR
      have HFd := Lib.hid hf
      clear hf hlk
      go_wp2_with (refine wp_lookup_str rfl _ _ _ _ rfl 9 74 Tryz.underlying67 Tryz.underlying9 (.agg #[.bool false, .slice none 0 0, .int .i64 0]) (Hz.out _) M _ rfl q rfl HM.out _ HFd.out ?_)
      go_ret
      exact ⟨by rw [HR.out]; rfl, HF1.out⟩
    | some n =>
      obtain ⟨dir, oa, c, data, time⟩ := n
      rw [hlk] at hf HR
      have hf' : find q (t.map fun p => (p.1, p.2.val)) = some (.agg #[.bool dir, .slice oa data.length c, .int .i64 time]) := hf
      have HFd := Lib.hid hf'
      clear hf hf' hlk
      go_wp2_with (refine wp_lookup_str rfl _ _ _ _ rfl 9 74 Tryz.underlying67 Tryz.underlying9 (.agg #[.bool false, .slice none 0 0, .int .i64 0]) (Hz.out _) M _ rfl q rfl HM.out _ HFd.out ?_)
      go_ret
      exact ⟨by rw [HR.out]; rfl, HF1.out⟩
  · have t1 : (er == 0) = false := by rw [beq_eq_false_iff_ne]; exact e0
    rw [if_pos e0] at HR
    go_wp2_with fail
    go_ret
    exact ⟨by rw [HR.out]; rfl, HF1.out⟩

/-- A place: a file system, and a directory. -/
def plv (P : Nat) (cwd : ByteArray) : Value := .agg #[.pointer (some ⟨P, 0, none⟩), .string cwd]
theorem pabs_calls {w : World} (hE : Env w) (P : Nat) (cwd s : ByteArray) (hc : cwd.size < 4294967281) (hs : s.size < 4294967281) :
    Calls Tryz.prog 235 #[plv P cwd, .string s] w fun e w' => e = .returned (.string (absOf cwd s).1) ∧ Fresh w w' := by
  have HE := Lib.hid hE
  have ha := fun w' (h : Env w') => abs_calls h cwd s hc hs
  generalize absOf cwd s = Q at ha ⊢
  obtain ⟨q, er⟩ := Q
  have HA := Lib.hid ha
  clear hE ha
  unfold plv
  go_enter Tryz.func235, Tryz.ntmps235
  go_wp2_with fail
  have hF0 : Fresh w (w.alloc (.cells #[.pointer (some ⟨P, 0, none⟩), .string cwd] 174)) := (Keeps.refl _ w).alloc _
  refine (HA.out _ (HE.out.fresh hF0)).mono ?_
  rintro _ w1 ⟨rfl, hF1⟩
  have HF1 := Lib.hid (hF0.trans hF1)
  clear hF1 hF0
  go_wp2_with fail
  go_ret
  exact ⟨rfl, HF1.out⟩
def tKind (t : Tree) (cwd s : ByteArray) : Int := if (absOf cwd s).1.data.toList = [] then 0 else fsKind t (absOf cwd s).1
def tTime (t : Tree) (cwd s : ByteArray) : Int := if (absOf cwd s).1.data.toList = [] then 0 else fsTime t (absOf cwd s).1
theorem isEmpty_is {s : ByteArray} (h : s.data.toList = []) : s.toList.isEmpty = true := by rw [ByteArray.toList_eq, h]; rfl
theorem isEmpty_not {s : ByteArray} (h : s.data.toList ≠ []) : s.toList.isEmpty = false := by rw [ByteArray.toList_eq]; cases hh : s.data.toList with | nil => exact absurd hh h | cons => rfl
theorem pkind_calls {w : World} {P M : Nat} {nodes bytes used clock : Int} {t : Tree} (h : FsAt w P M nodes bytes used clock t) (hE : Env w) (cwd s : ByteArray) (hc : cwd.size < 4294967281) (hs : s.size < 4294967281) :
    Calls Tryz.prog 234 #[plv P cwd, .string s] w fun e w' => e = .returned (.int .i64 (tKind t cwd s)) ∧ Fresh w w' := by
  have HE := Lib.hid hE
  have H := Lib.hid h
  have ha := fun w' (h : Env w') => pabs_calls h P cwd s hc hs
  have hsz := absOf_size cwd s
  have hr : tKind t cwd s = if (absOf cwd s).1.data.toList = [] then 0 else fsKind t (absOf cwd s).1 := rfl
  generalize tKind t cwd s = R at hr ⊢
  generalize (absOf cwd s).1 = q at ha hsz hr
  have HR := Lib.hid hr
  clear hr
  have HA := Lib.hid ha
  clear hE h ha
  unfold plv at HA ⊢
  go_enter Tryz.func234, Tryz.ntmps234
  go_wp2_with fail
  have hF0 : Fresh w (w.alloc (.cells #[.pointer (some ⟨P, 0, none⟩), .string cwd] 174)) := (Keeps.refl _ w).alloc _
  have hb0 : (w.alloc (.cells #[.pointer (some ⟨P, 0, none⟩), .string cwd] 174)).heap[w.heap.size]? = some (.cells #[.pointer (some ⟨P, 0, none⟩), .string cwd] 174 (0, 0)) := heap_alloc_new w _
  refine (HA.out _ (HE.out.fresh hF0)).mono ?_
  rintro _ w1 ⟨rfl, hF1⟩
  have hb1 := hF1.at hb0 (fun x => x)
  have HF1 := Lib.hid (hF0.trans hF1)
  have k0 := cell_of_block hb1 0
  simp at k0
  clear hF1 hF0 hb0 hb1
  by_cases e0 : q.data.toList = []
  · have t0 := isEmpty_is e0
    rw [if_pos e0] at HR
    go_wp2_with fail
    go_ret
    exact ⟨by rw [HR.out]; rfl, HF1.out⟩
  · have t0 := isEmpty_not e0
    rw [if_neg e0] at HR
    go_wp2_with fail
    refine (fskind_calls (H.out.fresh HF1.out) (HE.out.fresh HF1.out) q (by omega)).mono ?_
    rintro _ w2 ⟨rfl, hF2⟩
    have HF2 := Lib.hid (HF1.out.trans hF2)
    clear hF2
    go_wp2_with fail
    go_ret
    exact ⟨by rw [HR.out]; rfl, HF2.out⟩
theorem ptime_calls {w : World} {P M : Nat} {nodes bytes used clock : Int} {t : Tree} (h : FsAt w P M nodes bytes used clock t) (hE : Env w) (cwd s : ByteArray) (hc : cwd.size < 4294967281) (hs : s.size < 4294967281) :
    Calls Tryz.prog 236 #[plv P cwd, .string s] w fun e w' => e = .returned (.int .i64 (tTime t cwd s)) ∧ Fresh w w' := by
  have HE := Lib.hid hE
  have H := Lib.hid h
  have ha := fun w' (h : Env w') => pabs_calls h P cwd s hc hs
  have hsz := absOf_size cwd s
  have hr : tTime t cwd s = if (absOf cwd s).1.data.toList = [] then 0 else fsTime t (absOf cwd s).1 := rfl
  generalize tTime t cwd s = R at hr ⊢
  generalize (absOf cwd s).1 = q at ha hsz hr
  have HR := Lib.hid hr
  clear hr
  have HA := Lib.hid ha
  clear hE h ha
  unfold plv at HA ⊢
  go_enter Tryz.func236, Tryz.ntmps236
  go_wp2_with fail
  have hF0 : Fresh w (w.alloc (.cells #[.pointer (some ⟨P, 0, none⟩), .string cwd] 174)) := (Keeps.refl _ w).alloc _
  have hb0 : (w.alloc (.cells #[.pointer (some ⟨P, 0, none⟩), .string cwd] 174)).heap[w.heap.size]? = some (.cells #[.pointer (some ⟨P, 0, none⟩), .string cwd] 174 (0, 0)) := heap_alloc_new w _
  refine (HA.out _ (HE.out.fresh hF0)).mono ?_
  rintro _ w1 ⟨rfl, hF1⟩
  have hb1 := hF1.at hb0 (fun x => x)
  have HF1 := Lib.hid (hF0.trans hF1)
  have k0 := cell_of_block hb1 0
  simp at k0
  clear hF1 hF0 hb0 hb1
  by_cases e0 : q.data.toList = []
  · have t0 := isEmpty_is e0
    rw [if_pos e0] at HR
    go_wp2_with fail
    go_ret
    exact ⟨by rw [HR.out]; rfl, HF1.out⟩
  · have t0 := isEmpty_not e0
    rw [if_neg e0] at HR
    go_wp2_with fail
    refine (fstime_calls (H.out.fresh HF1.out) (HE.out.fresh HF1.out) q (by omega)).mono ?_
    rintro _ w2 ⟨rfl, hF2⟩
    have HF2 := Lib.hid (HF1.out.trans hF2)
    clear hF2
    go_wp2_with fail
    go_ret
    exact ⟨by rw [HR.out]; rfl, HF2.out⟩
end Go.Proofs.YtbhmapcjcnceiaaGreatDoor
