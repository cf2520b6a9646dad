/- rm: what is taken away, one path and a whole chain; what is done with one path. -/
import Derived.Test.YtbhmapcjcnceiaaGreatDoorM4
import Derived.Test.YtbhmapcjcnceiaaGreatDoorL2
import Derived.Laws.EntriesVeiled
namespace Go.Proofs.YtbhmapcjcnceiaaGreatDoor
open Go Go.RowKit

/-- What Remove makes of a tree: the tree, what is used, the clock, the error. -/
def rmOne (t : Tree) (used clock : Int) (p : ByteArray) : Tree × Int × Int × Int :=
  if rmErr t p = 0 then (rem (fsFound t p).1 t, used - ((dataOf t (fsFound t p).1).length : Int), clock + 1, 0) else (t, used, clock, rmErr t p)
theorem rmOne_calls {w : World} {P M : Nat} {nodes bytes used clock : Int} {t : Tree} (h : FsAt w P M nodes bytes used clock t) (hE : Env w) (p : ByteArray) (hp : p.size < 4294967281) (ht : t.length ≤ 1000000)
    (hd : ∀ q, (dataOf t q).length ≤ 100000000) (hu : 0 ≤ used ∧ used ≤ 100000000) (hck : 0 ≤ clock ∧ clock ≤ 1099511627776) :
    Calls Tryz.prog 37 #[.pointer (some ⟨P, 0, none⟩), .string p] w fun e w' => e = .returned (.int .i64 (rmOne t used clock p).2.2.2) ∧ Keeps (fun k => k = P ∨ k = M) w w' ∧
      FsAt w' P M nodes bytes (rmOne t used clock p).2.1 (rmOne t used clock p).2.2.1 (rmOne t used clock p).1 := by
  refine (remove_calls h hE p hp ht hd hu hck).mono fun e w' ⟨he, hk, hc⟩ => ?_
  unfold rmOne
  rcases hc with ⟨h1, h2⟩ | ⟨h1, h2⟩
  · rw [if_neg h1]; exact ⟨he, hk, h2⟩
  · rw [if_pos h1]; exact ⟨by rw [he, h1], hk, h2⟩

set_option maxHeartbeats 800000 in
/-- Where nothing below is looked for: Remove's answer. -/
theorem uremove_plain {w : World} (hE : Env w) {b base P M : Nat} {nodes bytes used clock : Int} {t : Tree} {cwd name : ByteArray} {args inn : Value} {st : Int} {out log : Value} {o l : List UInt8} (p : ByteArray) (deep : Bool) (hdp : deep = false ∨ fsKind t p ≠ 2)
    (hu : Ut w b base (.pointer (some ⟨P, 0, none⟩)) cwd name args inn st out log o l) (hf : FsAt w P M nodes bytes used clock t) (hp : p.size < 4294967281) (ht : t.length ≤ 1000000)
    (hd : ∀ q, (dataOf t q).length ≤ 100000000) (hus : 0 ≤ used ∧ used ≤ 100000000) (hck : 0 ≤ clock ∧ clock ≤ 1099511627776) :
    Calls Tryz.prog 118 #[.pointer (some ⟨b, 0, none⟩), .string p, .bool deep] w fun e w' => e = .returned (.int .i64 (rmOne t used clock p).2.2.2) ∧ Keeps (fun k => k = P ∨ k = M) w w' ∧
      FsAt w' P M nodes bytes (rmOne t used clock p).2.1 (rmOne t used clock p).2.2.1 (rmOne t used clock p).1 := by
  have c0 := cell_of_block hu.blk 0
  simp at c0
  have HRm := Lib.hid (fun W (hF : Fresh w W) => rmOne_calls (hf.fresh hF) (hE.fresh hF) p hp ht hd hus hck)
  generalize rmOne t used clock p = R at HRm ⊢
  have HKd := Lib.hid (fskind_calls hf hE p hp)
  clear hu hf hE hd
  cases deep with
  | false =>
    go_enter Tryz.func118, Tryz.ntmps118
    go_wp2_with fail
    refine (HRm.out w (Fresh.refl w)).mono ?_
    rintro _ w2 ⟨rfl, hk2, hf2⟩
    have HK := Lib.hid hk2
    have HF := Lib.hid hf2
    clear hk2 hf2
    go_wp2_with fail
    go_ret
    exact ⟨rfl, HK.out, HF.out⟩
  | true =>
    have hk2 : fsKind t p ≠ 2 := hdp.resolve_left (by decide)
    generalize fsKind t p = kd at HKd hk2
    have t1 : (kd == 2) = false := by rw [beq_eq_false_iff_ne]; exact hk2
    go_enter Tryz.func118, Tryz.ntmps118
    go_wp2_with fail
    refine HKd.out.mono ?_
    rintro _ w1 ⟨rfl, hF1⟩
    have HR1 := Lib.hid (HRm.out w1 hF1)
    have HF1 := Lib.hid hF1
    have c1 := hF1.cell c0 (fun x => x)
    clear hF1
    go_wp2_with fail
    refine HR1.out.mono ?_
    rintro _ w2 ⟨rfl, hk2, hf2⟩
    have HK := Lib.hid ((HF1.out.mono (G := fun k => k = P ∨ k = M) (fun _ _ h => h.elim)).trans hk2)
    have HF := Lib.hid hf2
    clear hk2 hf2
    go_wp2_with fail
    go_ret
    exact ⟨rfl, HK.out, HF.out⟩

set_option maxHeartbeats 1600000 in
/-- A directory with one name in it. -/
theorem uremove_one {w : World} (hE : Env w) {b base P M : Nat} {nodes bytes used clock : Int} {t : Tree} {cwd name : ByteArray} {args inn : Value} {st : Int} {out log : Value} {o l : List UInt8} (p q : ByteArray) (x : List UInt8) (T : Tree × Int × Int) (e1 : Int)
    (hkd : fsKind t p = 2) (hls : fsList t p = ([x], 0)) (hab : absOf p (B x) = (q, 0)) (hxs : x.length ≤ 1000)
    (hu : Ut w b base (.pointer (some ⟨P, 0, none⟩)) cwd name args inn st out log o l) (hP : P < base) (hM : M < base) (hf : FsAt w P M nodes bytes used clock t) (hp : p.size < 4294967281) (ht : t.length ≤ 1000000) (h9 : 9 ≤ P ∧ 9 ≤ M)
    (hdo : ∀ W, Fresh w W → Calls Tryz.prog 118 #[.pointer (some ⟨b, 0, none⟩), .string q, .bool true] W fun e w' => e = .returned (.int .i64 e1) ∧ Keeps (fun k => k = P ∨ k = M) W w' ∧ FsAt w' P M nodes bytes T.2.1 T.2.2 T.1)
    (hd : ∀ q, (dataOf T.1 q).length ≤ 100000000) (hus : 0 ≤ T.2.1 ∧ T.2.1 ≤ 100000000) (hck : 0 ≤ T.2.2 ∧ T.2.2 ≤ 1099511627776) (htl : T.1.length ≤ 1000000) :
    Calls Tryz.prog 118 #[.pointer (some ⟨b, 0, none⟩), .string p, .bool true] w fun e w' => e = .returned (.int .i64 (rmOne T.1 T.2.1 T.2.2 p).2.2.2) ∧ Keeps (fun k => k = P ∨ k = M) w w' ∧
      FsAt w' P M nodes bytes (rmOne T.1 T.2.1 T.2.2 p).2.1 (rmOne T.1 T.2.1 T.2.2 p).2.2.1 (rmOne T.1 T.2.1 T.2.2 p).1 := by
  obtain ⟨R, hR⟩ : ∃ R, rmOne T.1 T.2.1 T.2.2 p = R := ⟨_, rfl⟩
  have HRr := Lib.hid hR
  rw [hR]
  clear hR
  have c0 := cell_of_block hu.blk 0
  simp at c0
  have HU := Lib.hid hu
  have HFs := Lib.hid hf
  have HE := Lib.hid hE
  have HDo := Lib.hid hdo
  have HD := Lib.hid hd
  have HKd := Lib.hid (fskind_calls hf hE p hp)
  rw [hkd] at HKd
  have HPl := Lib.hid (show P < w.heap.size ∧ M < w.heap.size from ⟨lt_of_block hf.blk, hf.map.lt⟩)
  clear hu hf hE hdo hd hkd
  go_enter Tryz.func118, Tryz.ntmps118
  go_wp2_with fail
  refine HKd.out.mono ?_
  rintro _ w1 ⟨rfl, hF1⟩
  have HF1 := Lib.hid hF1
  have c1 := hF1.cell c0 (fun x => x)
  have HLs := Lib.hid (list_calls (HFs.out.fresh hF1) (HE.out.fresh hF1) p hp ht)
  rw [hls] at HLs
  clear hF1 HKd hls
  go_wp2_with fail
  refine HLs.out.mono ?_
  rintro _ w2 ⟨la, lc, rfl, hown, hF2⟩
  simp only [List.length_singleton, List.map_cons, List.map_nil] at hown ⊢
  obtain ⟨g, hg⟩ : ∃ g, la = some ⟨g, 0, none⟩ := by
    rcases hown.2 with ⟨_, h0⟩ | ⟨g, cap, cur, h, _⟩
    · omega
    · simp only [Value.slice.injEq] at h
      exact ⟨g, h.1⟩
  subst hg
  have hcell : w2.cell? ⟨g, 0, none⟩ = some (.string (B x)) := (RowAt.of_owns hown).cell (j := 0) rfl
  have HF2 := Lib.hid (HF1.out.trans hF2)
  have c2 := hF2.cell c1 (fun x => x)
  have HAb := Lib.hid (abs_calls (HE.out.fresh HF2.out) p (B x) hp (by rw [B_size]; omega))
  rw [hab] at HAb
  clear hown hF2 HLs hab c1 c0
  go_wp2_with fail
  refine wp_loop_rounds 2 ?_
  rw [rounds_succ]
  go_wp2_with fail
  refine HAb.out.mono ?_
  rintro _ w3 ⟨rfl, hF3⟩
  have HF3 := Lib.hid (HF2.out.trans hF3)
  have c3 := hF3.cell c2 (fun x => x)
  have HR3 := Lib.hid (HDo.out w3 HF3.out)
  clear hF3 HAb hcell c2
  go_wp2_with fail
  refine HR3.out.mono ?_
  rintro _ w4 ⟨rfl, hk4, hf4⟩
  have HK4 := Lib.hid ((HF3.out.mono (G := fun k => k = P ∨ k = M) (fun _ _ h => h.elim)).trans hk4)
  have HFs4 := Lib.hid hf4
  have hu4 := HU.out.fsKeeps hP hM HK4.out
  have c4 := cell_of_block hu4.blk 0
  simp at c4
  have HR4 := Lib.hid (rmOne_calls HFs4.out (HE.out.keeps HK4.out (fun k h => by rcases h with e | e <;> omega)) p hp htl HD.out hus hck)
  rw [HRr.out] at HR4
  clear hk4 hf4 hu4 c3 HR3
  go_wp2_with fail
  rw [rounds_succ]
  go_wp2_with fail
  refine HR4.out.mono ?_
  rintro _ w5 ⟨rfl, hk5, hf5⟩
  have HK5 := Lib.hid (HK4.out.trans hk5)
  have HFs5 := Lib.hid hf5
  clear hk5 hf5
  go_wp2_with fail
  go_ret
  exact ⟨rfl, HK5.out, HFs5.out⟩
end Go.Proofs.YtbhmapcjcnceiaaGreatDoor

namespace Go.Proofs.YtbhmapcjcnceiaaGreatDoor
open Go Go.RowKit

section
variable {ls : List (List UInt8)} (hok : ∀ x ∈ ls, OkName x) {nd : Nat → Cn}
include hok
theorem data_chain {j : Nat} (hj : j ≤ ls.length) {i : Nat} (hi : i < j) : dataOf (chain ls nd j) (pa ls (i + 1)) = (nd i).data := by
  unfold dataOf
  rw [look_chain hok hj (by omega), if_pos hi]
  rfl
theorem rmOne_chain (hl : ls.length ≤ 9) {i : Nat} (hi : i < ls.length) (hd : ∀ k, k < i → (nd k).dir = true) (used clock : Int) :
    rmOne (chain ls nd (i + 1)) used clock (pa ls (i + 1)) = (chain ls nd i, used - ((nd i).data.length : Int), clock + 1, 0) := by
  have hf := fsfound_chain hok (nd := nd) hl (j := i + 1) (by omega) hi (by omega) hd
  rw [if_pos (by omega)] at hf
  have he : rmErr (chain ls nd (i + 1)) (pa ls (i + 1)) = 0 := by
    unfold rmErr
    rw [hf]
    simp only [ne_eq, not_true, if_false]
    rw [if_neg (pa_ne hok hi), below_chain hok (by omega) hi]
    simp
  unfold rmOne
  rw [if_pos he, hf]
  simp only
  rw [rem_chain hok hi, data_chain hok (by omega) (by omega)]
end

theorem chain_data {ls : List (List UInt8)} {nd : Nat → Cn} {m : Nat} (hd : ∀ k, k < m → (nd k).dir = true ∧ (nd k).data = []) (hdl : (nd m).data.length = 1) {j : Nat} (hj : j ≤ m + 1) (q : ByteArray) : (dataOf (chain ls nd j) q).length ≤ 100000000 := by
  unfold dataOf
  cases hlk : look q (chain ls nd j) with
  | none => exact Nat.zero_le _
  | some v =>
    have hm := look_mem hlk
    unfold chain at hm
    obtain ⟨i, hi, he⟩ := List.mem_map.1 hm
    have hi' := List.mem_range.1 hi
    simp only [Prod.mk.injEq] at he
    show v.data.length ≤ _
    rw [← he.2]
    rcases Nat.lt_or_ge i m with h | h
    · rw [(hd i h).2]; exact Nat.zero_le _
    · obtain rfl : i = m := by omega
      rw [hdl]; decide

/-- From the d-th above the end on. -/
theorem uremove_chain {ls : List (List UInt8)} (hok : ∀ x ∈ ls, OkName x) {nd : Nat → Cn} (hl : ls.length ≤ 9) (m : Nat) (hm : ls.length = m + 1) (hd : ∀ k, k < m → (nd k).dir = true ∧ (nd k).data = []) (hfl : (nd m).dir = false) (hdl : (nd m).data.length = 1)
    {b base P M : Nat} {nodes bytes clock : Int} {cwd name : ByteArray} {args inn : Value} {st : Int} {out log : Value} {o l : List UInt8} (hP : P < base) (hM : M < base) (h9 : 9 ≤ P ∧ 9 ≤ M) (hck : 0 ≤ clock ∧ clock ≤ 1000) :
    ∀ d i, i + d = m → ∀ w : World, Env w → Ut w b base (.pointer (some ⟨P, 0, none⟩)) cwd name args inn st out log o l → FsAt w P M nodes bytes 1 clock (chain ls nd (m + 1)) →
      Calls Tryz.prog 118 #[.pointer (some ⟨b, 0, none⟩), .string (pa ls (i + 1)), .bool true] w fun e w' => e = .returned (.int .i64 0) ∧ Keeps (fun k => k = P ∨ k = M) w w' ∧
        FsAt w' P M nodes bytes 0 (clock + (d + 1 : Nat)) (chain ls nd i)
  | 0, i, hi, w, hE, hu, hf => by
    obtain rfl : i = m := by omega
    have hsz := pa_size hok (i := i + 1)
    have hcl := chain_len ls nd (i + 1)
    have hkd : fsKind (chain ls nd (i + 1)) (pa ls (i + 1)) ≠ 2 := by
      unfold fsKind
      rw [fsabs_chain hok hl (by omega) (by omega) (by omega) (fun k hk => (hd k hk).1)]
      simp only [ne_eq, not_true, if_false]
      rw [kind_chain hok (by omega) (by omega), if_pos (by omega), if_neg (by rw [hfl]; decide)]
      decide
    have h := uremove_plain hE (pa ls (i + 1)) true (Or.inr hkd) hu hf (by omega) (by omega) (fun q => chain_data hd hdl (by omega) q) (by omega) (by omega)
    rw [rmOne_chain hok hl (by omega) (fun k hk => (hd k hk).1), hdl] at h
    exact h
  | d + 1, i, hi, w, hE, hu, hf => by
    have hsz := pa_size hok (i := i + 1)
    have hcl := chain_len ls nd (m + 1)
    have hfd := fsfound_chain hok (nd := nd) hl (j := m + 1) (by omega) (i := i) (by omega) (by omega) (fun k hk => (hd k (by omega)).1)
    rw [if_pos (by omega)] at hfd
    have hkk := kind_chain hok (nd := nd) (j := m + 1) (by omega) (i := i) (by omega)
    rw [if_pos (by omega), if_pos (hd i (by omega)).1] at hkk
    have hkd : fsKind (chain ls nd (m + 1)) (pa ls (i + 1)) = 2 := by
      unfold fsKind
      rw [fsabs_chain hok hl (by omega) (by omega) (by omega) (fun k hk => (hd k (by omega)).1)]
      simp only [ne_eq, not_true, if_false]
      exact hkk
    have hls : fsList (chain ls nd (m + 1)) (pa ls (i + 1)) = ([ls[i + 1]'(by omega)], 0) := by
      unfold fsList
      rw [hfd]
      simp only [ne_eq, not_true, if_false]
      rw [hkk, if_neg (by decide), names_chain hok (by omega) (by omega), dif_pos (by omega)]
    have hx := hok (ls[i + 1]'(by omega)) (List.getElem_mem _)
    have hab : absOf (pa ls (i + 1)) (B (ls[i + 1]'(by omega))) = (pa ls (i + 2), 0) := by
      have htk : ls.take (i + 2) = ls.take (i + 1) ++ [ls[i + 1]'(by omega)] := by rw [List.take_add_one, List.getElem?_eq_getElem (by omega)]; rfl
      unfold pa
      rw [htk]
      refine abs_name _ ?_ _ ?_ ?_
      · intro h
        have := congrArg List.length h
        rw [List.length_take, List.length_nil] at this
        omega
      · rw [← htk]
        exact fun y hy => hok y (List.mem_of_mem_take hy)
      · rw [List.length_take]; omega
    have ih := uremove_chain hok hl m hm hd hfl hdl (nodes := nodes) (bytes := bytes) (clock := clock) (cwd := cwd) (name := name) (args := args) (inn := inn) (st := st) (out := out) (log := log) (o := o) (l := l) (b := b) hP hM h9 hck d (i + 1) (by omega)
    have hcl2 := chain_len ls nd (i + 1)
    have h := uremove_one hE (pa ls (i + 1)) (pa ls (i + 2)) (ls[i + 1]'(by omega)) (chain ls nd (i + 1), 0, clock + (d + 1 : Nat)) 0 hkd hls hab (by have := hx.2.1; omega) hu hP hM hf (by omega) (by omega) h9
      (fun W hW => ih W (hE.fresh hW) (hu.fresh hW) (hf.fresh hW)) (fun q => chain_data hd hdl (by omega) q) (by simp) (by simp only; omega) (by simp only; omega)
    rw [rmOne_chain hok hl (by omega) (fun k hk => (hd k (by omega)).1), (hd i (by omega)).2] at h
    simp only [List.length_nil] at h
    rw [show clock + ((d + 1 : Nat) : Int) + 1 = clock + ((d + 1 + 1 : Nat) : Int) by omega] at h
    exact h

/-- What counts of an error. -/
def rmSaid (quiet : Bool) (e : Nat) : Nat := if quiet = true ∧ e = 6 then 0 else e
set_option maxHeartbeats 800000 in
theorem rm1_calls {w : World} {b base bx dx qx P M : Nat} {nodes bytes used clock : Int} {t : Tree} {cwd name : ByteArray} {args inn : Value} {st : Int} {out log : Value} {o l : List UInt8} (x p : ByteArray) (deep quiet : Bool) (T : Tree × Int × Int) (er : Nat) (her1 : er < 100)
    (hu : Ut w b base (.pointer (some ⟨P, 0, none⟩)) cwd name args inn st out log o l) (hf : FsAt w P M nodes bytes used clock t) (hBT : FsBelow base P M T.1)
    (hbx : w.heap[bx]? = some (.cells #[.pointer (some ⟨b, 0, none⟩)] 63 (0, 0))) (hdx : w.heap[dx]? = some (.cells #[.bool deep] 4 (0, 0))) (hqx : w.heap[qx]? = some (.cells #[.bool quiet] 4 (0, 0)))
    (hl2 : l.length + name.size + x.size ≤ 1099511627776)
    (hdo : ∀ W, Fresh w W → Calls Tryz.prog 118 #[.pointer (some ⟨b, 0, none⟩), .string p, .bool deep] W fun e w' => e = .returned (.int .i64 (er : Nat)) ∧ Keeps (fun k => k = P ∨ k = M) W w' ∧ FsAt w' P M nodes bytes T.2.1 T.2.2 T.1) :
    Calls Tryz.prog 117 #[.string x, .string p, .pointer (some ⟨bx, 0, none⟩), .pointer (some ⟨dx, 0, none⟩), .pointer (some ⟨qx, 0, none⟩)] w fun e w' => e = .returned (.tuple #[]) ∧ ∃ log' : Value,
      Ut w' b base (.pointer (some ⟨P, 0, none⟩)) cwd name args inn (catSt st (rmSaid quiet er)) out log' o (catLog l name x (rmSaid quiet er)) ∧ FsAt w' P M nodes bytes T.2.1 T.2.2 T.1 ∧ Keeps (fun k => (k = P ∨ k = M) ∨ utF b out log k) w w' ∧ Old w (utF b out log') (utF b out log) := by
  have x0 := cell_of_block hbx 0
  have d0 := cell_of_block hdx 0
  have q0 := cell_of_block hqx 0
  simp at x0 d0 q0
  have hP := hBT.1
  have hM := hBT.2.1
  have HU := Lib.hid hu
  have HDo := Lib.hid (hdo w (Fresh.refl w))
  have bP : bx ≠ P := fun e => by subst e; have := hbx.symm.trans hf.blk; simp at this
  have bM : bx ≠ M := hf.map.ne hbx
  have qP : qx ≠ P := fun e => by subst e; have := hqx.symm.trans hf.blk; simp at this
  have qM : qx ≠ M := hf.map.ne hqx
  have hcl := compl_len name x er her1
  have y1 : ∃ q, q = rmSaid quiet er := ⟨_, rfl⟩
  obtain ⟨er', her'⟩ : ∃ q, q = rmSaid quiet er := ⟨_, rfl⟩
  rw [← her']
  have HEr := Lib.hid her'
  have HC := Lib.hid (fun (W : World) (hW : Ut W b base (.pointer (some ⟨P, 0, none⟩)) cwd name args inn st out log o l) => may_calls x er her1 hW (by omega))
  clear hu hf hdo her' y1 hbx hdx hqx
  go_enter Tryz.func117, Tryz.ntmps117
  go_wp2_with fail
  refine HDo.out.mono ?_
  rintro _ w1 ⟨rfl, hk1, hf1⟩
  have z0 := hk1.cell x0 (by rintro (e | e); exact bP e; exact bM e)
  have zq := hk1.cell q0 (by rintro (e | e); exact qP e; exact qM e)
  have HU1 := Lib.hid (HU.out.fsKeeps hP hM hk1)
  have HK1 := Lib.hid hk1
  have HF1 := Lib.hid hf1
  have HM1 := Lib.hid (HC.out w1 HU1.out)
  clear hk1 hf1 x0 d0 q0 HDo HC
  by_cases hcase : quiet = true ∧ er = 6
  · obtain ⟨rfl, rfl⟩ := hcase
    have he0 : er' = 0 := HEr.out
    go_wp2_with fail
    go_end0
    refine ⟨rfl, log, ?_, HF1.out, HK1.out.mono (fun _ _ h => Or.inl h), (Old.refl w _)⟩
    rw [he0]
    exact HU1.out
  · have he0 : er' = er := by rw [HEr.out]; unfold rmSaid; rw [if_neg hcase]
    have fin : ∀ w2 log2, Ut w2 b base (.pointer (some ⟨P, 0, none⟩)) cwd name args inn (catSt st er) out log2 o (catLog l name x er) → Keeps (utF b out log) w1 w2 → Old w1 (utF b out log2) (utF b out log) →
      ∃ log' : Value, Ut w2 b base (.pointer (some ⟨P, 0, none⟩)) cwd name args inn (catSt st er') out log' o (catLog l name x er') ∧ FsAt w2 P M nodes bytes T.2.1 T.2.2 T.1 ∧ Keeps (fun k => (k = P ∨ k = M) ∨ utF b out log k) w w2 ∧ Old w (utF b out log') (utF b out log) := by
      rw [he0]
      intro w2 log2 h1 h2 h3
      exact ⟨log2, h1, HF1.out.ut HU1.out hBT h2, (HK1.out.mono (fun _ _ h => Or.inl h)).trans (h2.mono (fun _ _ h => Or.inr h)), (Old.refl w _).trans HK1.out.size h3⟩
    have Hfin := Lib.hid fin
    clear fin HEr he0
    cases quiet with
    | false =>
      go_wp2_with fail
      refine HM1.out.mono ?_
      rintro _ w2 ⟨rfl, log2, h1, h2, h3⟩
      have HA1 := Lib.hid (Hfin.out w2 log2 h1 h2 h3)
      clear h1 h2 h3
      go_wp2_with fail
      go_end0
      exact ⟨rfl, HA1.out⟩
    | true =>
      have t6 : ((er : Int) == 6) = false := by
        rw [beq_eq_false_iff_ne]
        intro h
        exact hcase ⟨rfl, by omega⟩
      clear hcase
      go_wp2_with fail
      refine HM1.out.mono ?_
      rintro _ w2 ⟨rfl, log2, h1, h2, h3⟩
      have HA1 := Lib.hid (Hfin.out w2 log2 h1 h2 h3)
      clear h1 h2 h3
      go_wp2_with fail
      go_end0
      exact ⟨rfl, HA1.out⟩
end Go.Proofs.YtbhmapcjcnceiaaGreatDoor
