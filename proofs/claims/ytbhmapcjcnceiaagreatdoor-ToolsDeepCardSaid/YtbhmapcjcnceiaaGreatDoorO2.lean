/- The commands of the law ToolsDeep, each within Run, on its chain of directories. -/
import Derived.Test.YtbhmapcjcnceiaaGreatDoorO0
import Derived.Test.YtbhmapcjcnceiaaGreatDoorO1
namespace Go.Proofs.YtbhmapcjcnceiaaGreatDoor
open Go Go.RowKit

def mkN : ByteArray := ⟨#[109, 107, 100, 105, 114]⟩
def rmN : ByteArray := ⟨#[114, 109]⟩
def oP : ByteArray := ⟨#[45, 112]⟩
def oR : ByteArray := ⟨#[45, 114]⟩
def oRf : ByteArray := ⟨#[45, 114, 102]⟩
theorem below_dn {base P M : Nat} (hP : P < base) (hM : M < base) (ls : List (List UInt8)) (j : Nat) : FsBelow base P M (chain ls dn j) := ⟨hP, hM, fun x hx ad had => by
  unfold chain at hx
  obtain ⟨i, _, rfl⟩ := List.mem_map.1 hx
  cases had⟩
theorem chain_sub {ls : List (List UInt8)} {nd : Nat → Cn} {i j : Nat} (h : i ≤ j) : ∀ x ∈ chain ls nd i, x ∈ chain ls nd j := by
  unfold chain
  intro x hx
  obtain ⟨k, hk, rfl⟩ := List.mem_map.1 hx
  exact List.mem_map.2 ⟨k, List.mem_range.2 (by have := List.mem_range.1 hk; omega), rfl⟩
theorem FsBelow.sub {base P M : Nat} {t t' : Tree} (h : FsBelow base P M t) (hs : ∀ x ∈ t', x ∈ t) : FsBelow base P M t' := ⟨h.1, h.2.1, fun x hx => h.2.2 x (hs x hx)⟩
theorem cmd_len (name x : ByteArray) (e : Nat) (he : e < 100) (hn : name.size ≤ 1000) (hx : x.size ≤ 1000) : (catLog [] name x e).length ≤ 1099511627776 := by
  unfold catLog
  have := compl_len name x e he
  split
  · decide
  · rw [List.nil_append]; omega

section
variable {w : World} (hE : Env w) {P M : Nat} (h9 : 9 ≤ P ∧ 9 ≤ M) {ls : List (List UInt8)} (hok : ∀ x ∈ ls, OkName x) (hl : ls.length ≤ 8) {m : Nat} (hm : ls.length = m + 1)
include hE h9 hok hl hm
omit hE h9 in
theorem abs_pa {i : Nat} (hi : i ≤ m) : absOf rootP (pa ls (i + 1)) = (pa ls (i + 1), 0) :=
  abs_path rootP has0_root (ls.take (i + 1)) (by
    intro h
    have := congrArg List.length h
    rw [List.length_take, List.length_nil] at this
    omega) (fun x hx => hok x (List.mem_of_mem_take hx)) (by rw [List.length_take]; omega)
omit hE h9 in
theorem pa_small {i : Nat} : (pa ls i).size ≤ 168 := by
  have := pa_size hok (i := i)
  omega
omit hE h9 hok hl hm in
theorem pa_head {i : Nat} (hi : i < ls.length) : (pa ls (i + 1)).data.toList.head? = some 47 := by
  unfold pa
  rw [B_data]
  cases hc : ls.take (i + 1) with
  | nil =>
    have := congrArg List.length hc
    rw [List.length_take, List.length_nil] at this
    omega
  | cons x r => rw [pathL_cons]; rfl
theorem run_mkp {j : Nat} (hj : j ≤ m + 1) {k k' : Int} (hk : 0 ≤ k ∧ k ≤ 1000) (oa : Option Addr) (c : Nat) (hs : ReadRow w oa c ([oP, pa ls (m + 1)].map Value.string))
    (hT : aboveL 30 100 0 ((List.range (m + 1)).map fun j => pathL (ls.take (0 + j + 1))) (chain ls dn j) k = (chain ls dn (m + 1), k', 0)) (hf : FsAt w P M 30 100 0 k (chain ls dn j)) :
    Calls Tryz.prog 10 #[.pointer (some ⟨P, 0, none⟩), .string rootP, .string mkN, .slice oa 2 c, nilS] w fun e w' => ∃ oo oc lo lc n, e = .returned (.agg #[.int .i64 0, .slice oo 0 oc, .slice lo n lc]) ∧
      FsAt w' P M 30 100 0 k' (chain ls dn (m + 1)) ∧ Keeps (fun k => k = P ∨ k = M) w w' := by
  have hab := abs_pa hok hl hm (i := m) (Nat.le_refl _)
  have hsm := pa_small hok hl hm (i := m + 1)
  have hwa := ways_all hok m hm
  have hw := ways_pa hok m hm
  have hcl := chain_len ls dn j
  have hB := hf.below
  refine (fs_run (used' := 0) (clock' := k') (T := chain ls dn (m + 1)) (K := 71) (args := [oP, pa ls (m + 1)]) (st := catSt 0 0) (l := catLog [] mkN (pa ls (m + 1)) 0) oa c (fun _ _ => by kernel_rfl) (by rfl) hE hs (by simp) (cmd_len _ _ _ (by decide) (by decide) (by omega)) hf h9
    (fun w1 b oa1 c1 hbb hu hs1 hE1 hf1 => ?_)).mono ?_
  rotate_left
  · rintro _ w' ⟨oo, oc, lo, lc, rfl, h1, h2⟩
    exact ⟨oo, oc, lo, lc, _, rfl, h1, h2⟩
  · refine (mkdir_p hE1 oP (pa ls (m + 1)) rfl (chain ls dn (m + 1), k', 0) ?_ hu hs1 hf1 hB (below_dn hB.1 hB.2.1 _ _) h9 (by decide) (by omega) (by rw [hab]) (by omega) (by decide) (by omega) ?_ ?_ 0 rfl (by decide) ?_).mono ?_
    · rw [hab]
      simp only
      rw [hwa]
      exact hT
    · rw [hab]
      simp only
      rw [hw, List.length_map, List.length_range]
      omega
    · rw [hab]
      simp only
      rw [hw]
      intro q hq
      obtain ⟨i, hi, rfl⟩ := List.mem_map.1 hq
      have h1 := pa_small hok hl hm (i := 0 + i + 1)
      unfold pa at h1
      rw [B_size] at h1
      omega
    · show 0 + 5 + (pa ls (m + 1)).size ≤ _
      omega
    · rintro _ w2 ⟨rfl, args', log', h1, h2, h3, h4⟩
      exact ⟨rfl, args', log', h1, h2, h3, h4⟩
theorem run_mk {k : Int} (hk : 0 ≤ k ∧ k ≤ 1000) (oa : Option Addr) (c : Nat) (hs : ReadRow w oa c ([pa ls (m + 1)].map Value.string)) (hf : FsAt w P M 30 100 0 k (chain ls dn (m + 1))) :
    Calls Tryz.prog 10 #[.pointer (some ⟨P, 0, none⟩), .string rootP, .string mkN, .slice oa 1 c, nilS] w fun e w' => ∃ oo oc lo lc n, e = .returned (.agg #[.int .i64 1, .slice oo 0 oc, .slice lo n lc]) ∧
      FsAt w' P M 30 100 0 k (chain ls dn (m + 1)) ∧ Keeps (fun k => k = P ∨ k = M) w w' := by
  have hab := abs_pa hok hl hm (i := m) (Nat.le_refl _)
  have hsm := pa_small hok hl hm (i := m + 1)
  have hhd := pa_head (ls := ls) (i := m) (by omega)
  have hmk := mk_again hok hl m hm k
  have hcl := chain_len ls dn (m + 1)
  have hB := hf.below
  refine (fs_run (used' := 0) (clock' := k) (T := chain ls dn (m + 1)) (K := 71) (args := [pa ls (m + 1)]) (st := catSt 0 12) (l := catLog [] mkN (pa ls (m + 1)) 12) oa c (fun _ _ => by kernel_rfl) (by rfl) hE hs (by simp) (cmd_len _ _ _ (by decide) (by decide) (by omega)) hf h9
    (fun w1 b oa1 c1 hbb hu hs1 hE1 hf1 => ?_)).mono ?_
  rotate_left
  · rintro _ w' ⟨oo, oc, lo, lc, rfl, h1, h2⟩
    exact ⟨oo, oc, lo, lc, _, rfl, h1, h2⟩
  · have h := mkdir_plain hE1 (pa ls (m + 1)) (fun h => by rw [h] at hhd; simp at hhd) hu hs1 hf1 hB (by rw [hab]; simp only; rw [hmk]; exact hB) (by decide) (by omega) (by rw [hab]) (by omega) (by decide) (by omega) 12 (by rw [hab]; simp only; rw [hmk]; rfl) (by decide) (by show 0 + 5 + (pa ls (m + 1)).size ≤ _; omega)
    rw [hab] at h
    simp only at h
    rw [hmk] at h
    exact h

variable {f : Cn} (hfd : f.dir = false) (hfl : f.data.length = 1) {i : Nat} (hi : i ≤ m)
include hfd hfl hi
omit hfd in
theorem run_rm_full {u k : Int} (hu0 : 0 ≤ u ∧ u ≤ 1000) (hk : 0 ≤ k ∧ k ≤ 1000) (oa : Option Addr) (c : Nat) (hs : ReadRow w oa c ([pa ls (i + 1)].map Value.string)) (hf : FsAt w P M 30 100 u k (chain (lsx ls) (ndx (m + 1) f) (m + 1 + 1))) :
    Calls Tryz.prog 10 #[.pointer (some ⟨P, 0, none⟩), .string rootP, .string rmN, .slice oa 1 c, nilS] w fun e w' => ∃ oo oc lo lc n, e = .returned (.agg #[.int .i64 1, .slice oo 0 oc, .slice lo n lc]) ∧
      FsAt w' P M 30 100 u k (chain (lsx ls) (ndx (m + 1) f) (m + 1 + 1)) ∧ Keeps (fun k => k = P ∨ k = M) w w' := by
  have hab := abs_pa hok hl hm hi
  have hsm := pa_small hok hl hm (i := i + 1)
  have hhd := pa_head (ls := ls) (i := i) (by omega)
  have hrm := rm_full hok hl (m + 1) hm f (i := i) (by omega) u k
  have hcl := chain_len (lsx ls) (ndx (m + 1) f) (m + 1 + 1)
  have hB := hf.below
  have hda : ∀ q, (dataOf (chain (lsx ls) (ndx (m + 1) f) (m + 1 + 1)) q).length ≤ 100000000 := chain_data (ndx_dirs (m + 1) f) (by rw [ndx_file]; exact hfl) (Nat.le_refl _)
  refine (fs_run (used' := u) (clock' := k) (T := chain (lsx ls) (ndx (m + 1) f) (m + 1 + 1)) (K := 70) (args := [pa ls (i + 1)]) (st := catSt 0 (rmSaid false 14)) (l := catLog [] rmN (pa ls (i + 1)) (rmSaid false 14)) oa c (fun _ _ => by kernel_rfl) (by rfl) hE hs (by simp) (cmd_len _ _ _ (by decide) (by decide) (by omega)) hf h9
    (fun w1 b oa1 c1 hbb hu hs1 hE1 hf1 => ?_)).mono ?_
  rotate_left
  · rintro _ w' ⟨oo, oc, lo, lc, rfl, h1, h2⟩
    exact ⟨oo, oc, lo, lc, _, rfl, h1, h2⟩
  · refine rm_plain hE1 (pa ls (i + 1)) hhd hu hs1 hf1 hB (by decide) (by omega) (by rw [hab]) (chain (lsx ls) (ndx (m + 1) f) (m + 1 + 1), u, k) hB 14 (by decide) (by show 0 + 2 + (pa ls (i + 1)).size ≤ _; omega) (fun W hW => ?_)
    have h := uremove_plain (hE1.fresh hW) (pa ls (i + 1)) false (Or.inl rfl) (hu.fresh hW) (hf1.fresh hW) (by omega) (by omega) hda (by omega) (by omega)
    rw [hrm] at h
    rw [hab]
    exact h
theorem run_rm_all {k : Int} (hk : 0 ≤ k ∧ k ≤ 1000) (oa : Option Addr) (c : Nat) (hs : ReadRow w oa c ([oR, pa ls (i + 1)].map Value.string)) (hf : FsAt w P M 30 100 1 k (chain (lsx ls) (ndx (m + 1) f) (m + 1 + 1))) :
    Calls Tryz.prog 10 #[.pointer (some ⟨P, 0, none⟩), .string rootP, .string rmN, .slice oa 2 c, nilS] w fun e w' => ∃ oo oc lo lc n, e = .returned (.agg #[.int .i64 0, .slice oo 0 oc, .slice lo n lc]) ∧
      FsAt w' P M 30 100 0 (k + (m + 1 - i + 1 : Nat)) (chain (lsx ls) (ndx (m + 1) f) i) ∧ Keeps (fun k => k = P ∨ k = M) w w' := by
  have hab := abs_pa hok hl hm hi
  have hsm := pa_small hok hl hm (i := i + 1)
  have hcl := chain_len (lsx ls) (ndx (m + 1) f) (m + 1 + 1)
  have hB := hf.below
  have hxl := lsx_len ls
  refine (fs_run (used' := 0) (clock' := k + (m + 1 - i + 1 : Nat)) (T := chain (lsx ls) (ndx (m + 1) f) i) (K := 70) (args := [oR, pa ls (i + 1)]) (st := catSt 0 (rmSaid false 0)) (l := catLog [] rmN (pa ls (i + 1)) (rmSaid false 0)) oa c (fun _ _ => by kernel_rfl) (by rfl) hE hs (by simp) (cmd_len _ _ _ (by decide) (by decide) (by omega)) hf h9
    (fun w1 b oa1 c1 hbb hu hs1 hE1 hf1 => ?_)).mono ?_
  rotate_left
  · rintro _ w' ⟨oo, oc, lo, lc, rfl, h1, h2⟩
    exact ⟨oo, oc, lo, lc, _, rfl, h1, h2⟩
  · refine rm_r hE1 (pa ls (i + 1)) hu hs1 hf1 hB (by decide) (by omega) (by rw [hab]) (chain (lsx ls) (ndx (m + 1) f) i, 0, k + (m + 1 - i + 1 : Nat)) (hB.sub (chain_sub (by omega))) 0 (by decide) (by show 0 + 2 + (pa ls (i + 1)).size ≤ _; omega) (fun args' W hEW huW hfW => ?_)
    have h := uremove_chain (okx hok) (nd := ndx (m + 1) f) (by omega) (m + 1) (by omega) (ndx_dirs (m + 1) f) (by rw [ndx_file]; exact hfd) (by rw [ndx_file]; exact hfl) hB.1 hB.2.1 h9 hk (m + 1 - i) i (by omega) W hEW huW hfW
    rw [pa_lsx (by omega)] at h
    rw [hab]
    exact h
omit hfd in
theorem run_rm_quiet {k : Int} (hk : 0 ≤ k ∧ k ≤ 1000) (oa : Option Addr) (c : Nat) (hs : ReadRow w oa c ([oRf, pa ls (i + 1)].map Value.string)) (hf : FsAt w P M 30 100 0 k (chain (lsx ls) (ndx (m + 1) f) i)) :
    Calls Tryz.prog 10 #[.pointer (some ⟨P, 0, none⟩), .string rootP, .string rmN, .slice oa 2 c, nilS] w fun e w' => ∃ oo oc lo lc n, e = .returned (.agg #[.int .i64 0, .slice oo 0 oc, .slice lo n lc]) ∧
      FsAt w' P M 30 100 0 k (chain (lsx ls) (ndx (m + 1) f) i) ∧ Keeps (fun k => k = P ∨ k = M) w w' := by
  have hab := abs_pa hok hl hm hi
  have hsm := pa_small hok hl hm (i := i + 1)
  have hcl := chain_len (lsx ls) (ndx (m + 1) f) i
  have hB := hf.below
  obtain ⟨hrm, hkd⟩ := rm_gone hok hl (m + 1) hm f (i := i) (by omega) 0 k
  have hda : ∀ q, (dataOf (chain (lsx ls) (ndx (m + 1) f) i) q).length ≤ 100000000 := chain_data (ndx_dirs (m + 1) f) (by rw [ndx_file]; exact hfl) (by omega)
  refine (fs_run (used' := 0) (clock' := k) (T := chain (lsx ls) (ndx (m + 1) f) i) (K := 70) (args := [oRf, pa ls (i + 1)]) (st := catSt 0 (rmSaid true 6)) (l := catLog [] rmN (pa ls (i + 1)) (rmSaid true 6)) oa c (fun _ _ => by kernel_rfl) (by rfl) hE hs (by simp) (cmd_len _ _ _ (by decide) (by decide) (by omega)) hf h9
    (fun w1 b oa1 c1 hbb hu hs1 hE1 hf1 => ?_)).mono ?_
  rotate_left
  · rintro _ w' ⟨oo, oc, lo, lc, rfl, h1, h2⟩
    exact ⟨oo, oc, lo, lc, _, rfl, h1, h2⟩
  · refine rm_rf hE1 (pa ls (i + 1)) hu hs1 hf1 hB (by decide) (by omega) (by rw [hab]) (chain (lsx ls) (ndx (m + 1) f) i, 0, k) hB 6 (by decide) (by show 0 + 2 + (pa ls (i + 1)).size ≤ _; omega) (fun args' W hEW huW hfW => ?_)
    have h := uremove_plain hEW (pa ls (i + 1)) true (Or.inr hkd) huW hfW (by omega) (by omega) hda (by decide) (by omega)
    rw [hrm] at h
    rw [hab]
    exact h
omit hfd in
theorem run_rm_gone {k : Int} (hk : 0 ≤ k ∧ k ≤ 1000) (oa : Option Addr) (c : Nat) (hs : ReadRow w oa c ([oR, pa ls (i + 1)].map Value.string)) (hf : FsAt w P M 30 100 0 k (chain (lsx ls) (ndx (m + 1) f) i)) :
    Calls Tryz.prog 10 #[.pointer (some ⟨P, 0, none⟩), .string rootP, .string rmN, .slice oa 2 c, nilS] w fun e w' => ∃ oo oc lo lc n, e = .returned (.agg #[.int .i64 1, .slice oo 0 oc, .slice lo n lc]) ∧
      FsAt w' P M 30 100 0 k (chain (lsx ls) (ndx (m + 1) f) i) ∧ Keeps (fun k => k = P ∨ k = M) w w' := by
  have hab := abs_pa hok hl hm hi
  have hsm := pa_small hok hl hm (i := i + 1)
  have hcl := chain_len (lsx ls) (ndx (m + 1) f) i
  have hB := hf.below
  obtain ⟨hrm, hkd⟩ := rm_gone hok hl (m + 1) hm f (i := i) (by omega) 0 k
  have hda : ∀ q, (dataOf (chain (lsx ls) (ndx (m + 1) f) i) q).length ≤ 100000000 := chain_data (ndx_dirs (m + 1) f) (by rw [ndx_file]; exact hfl) (by omega)
  refine (fs_run (used' := 0) (clock' := k) (T := chain (lsx ls) (ndx (m + 1) f) i) (K := 70) (args := [oR, pa ls (i + 1)]) (st := catSt 0 (rmSaid false 6)) (l := catLog [] rmN (pa ls (i + 1)) (rmSaid false 6)) oa c (fun _ _ => by kernel_rfl) (by rfl) hE hs (by simp) (cmd_len _ _ _ (by decide) (by decide) (by omega)) hf h9
    (fun w1 b oa1 c1 hbb hu hs1 hE1 hf1 => ?_)).mono ?_
  rotate_left
  · rintro _ w' ⟨oo, oc, lo, lc, rfl, h1, h2⟩
    exact ⟨oo, oc, lo, lc, _, rfl, h1, h2⟩
  · refine rm_r hE1 (pa ls (i + 1)) hu hs1 hf1 hB (by decide) (by omega) (by rw [hab]) (chain (lsx ls) (ndx (m + 1) f) i, 0, k) hB 6 (by decide) (by show 0 + 2 + (pa ls (i + 1)).size ≤ _; omega) (fun args' W hEW huW hfW => ?_)
    have h := uremove_plain hEW (pa ls (i + 1)) true (Or.inr hkd) huW hfW (by omega) (by omega) hda (by decide) (by omega)
    rw [hrm] at h
    rw [hab]
    exact h
end
end Go.Proofs.YtbhmapcjcnceiaaGreatDoor
