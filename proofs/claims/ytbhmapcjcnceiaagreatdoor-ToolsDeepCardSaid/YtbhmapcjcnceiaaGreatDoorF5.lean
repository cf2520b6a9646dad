/- The file system in memory: abs, found, Read. -/
import Derived.Test.YtbhmapcjcnceiaaGreatDoorF4
namespace Go.Proofs.YtbhmapcjcnceiaaGreatDoor
open Go Go.RowKit

theorem absOf_size (cwd p : ByteArray) : (absOf cwd p).1.size ≤ 200 := by
  unfold absOf
  split
  · exact Nat.zero_le _
  · split
    · rename_i h
      show (B _).size ≤ 200
      rw [B_size]
      exact h.2.2
    · exact Nat.zero_le _
def fsAbs (t : Tree) (p : ByteArray) : ByteArray × Int :=
  if (absOf ⟨#[47]⟩ p).2 ≠ 0 then (⟨#[]⟩, (absOf ⟨#[47]⟩ p).2) else if wayOf t (absOf ⟨#[47]⟩ p).1 ≠ 0 then (⟨#[]⟩, wayOf t (absOf ⟨#[47]⟩ p).1) else ((absOf ⟨#[47]⟩ p).1, 0)

theorem fsabs_calls {w : World} {P M : Nat} {nodes bytes used clock : Int} {t : Tree} (h : FsAt w P M nodes bytes used clock t) (hE : Env w) (p : ByteArray) (hp : p.size < 4294967281) :
    Calls Tryz.prog 26 #[.pointer (some ⟨P, 0, none⟩), .string p] w fun e w' => e = .returned (.tuple #[.string (fsAbs t p).1, .int .i64 (fsAbs t p).2]) ∧ Fresh w w' := by
  have HA := Lib.hid (abs_calls hE ⟨#[47]⟩ p (by decide) hp)
  have H := Lib.hid h
  have hsz := absOf_size ⟨#[47]⟩ p
  have hfs : fsAbs t p = if (absOf ⟨#[47]⟩ p).2 ≠ 0 then (⟨#[]⟩, (absOf ⟨#[47]⟩ p).2) else if wayOf t (absOf ⟨#[47]⟩ p).1 ≠ 0 then (⟨#[]⟩, wayOf t (absOf ⟨#[47]⟩ p).1) else ((absOf ⟨#[47]⟩ p).1, 0) := rfl
  generalize fsAbs t p = R at hfs ⊢
  have HR := Lib.hid hfs
  clear h hE hfs
  go_enter Tryz.func26, Tryz.ntmps26
  go_wp2_with fail
  refine HA.out.mono ?_
  rintro _ w1 ⟨rfl, hF1⟩
  have HF1 := Lib.hid hF1
  clear hF1 HA
  obtain ⟨q, hq⟩ : ∃ q, (absOf ⟨#[47]⟩ p).1 = q := ⟨_, rfl⟩
  obtain ⟨er, her⟩ : ∃ er, (absOf ⟨#[47]⟩ p).2 = er := ⟨_, rfl⟩
  rw [hq, her] at HR
  rw [hq] at hsz
  rw [hq, her]
  clear hq her
  by_cases e0 : er = 0
  · subst e0
    go_wp2_with fail
    refine (way_calls (H.out.fresh HF1.out) q (by omega)).mono ?_
    rintro _ w2 ⟨rfl, hF2⟩
    have HF2 := Lib.hid (HF1.out.trans hF2)
    clear hF2
    rw [if_neg (fun h => h rfl)] at HR
    generalize wayOf t q = wy at HR ⊢
    by_cases e1 : wy = 0
    · subst e1
      rw [if_neg (fun h => h rfl)] at HR
      go_wp2_with fail
      go_ret2
      exact ⟨by rw [HR.out]; rfl, HF2.out⟩
    · have t1 : (wy == 0) = false := by rw [beq_eq_false_iff_ne]; exact e1
      rw [if_pos e1] at HR
      go_wp2_with fail
      go_ret2
      exact ⟨by rw [HR.out]; rfl, HF2.out⟩
  · have t1 : (er == 0) = false := by rw [beq_eq_false_iff_ne]; exact e0
    rw [if_pos e0] at HR
    go_wp2_with fail
    go_ret2
    exact ⟨by rw [HR.out]; rfl, HF1.out⟩

def fsFound (t : Tree) (p : ByteArray) : ByteArray × Int := if (fsAbs t p).2 = 0 ∧ kindOf t (fsAbs t p).1 = 0 then ((fsAbs t p).1, 6) else fsAbs t p
theorem found_calls {w : World} {P M : Nat} {nodes bytes used clock : Int} {t : Tree} (h : FsAt w P M nodes bytes used clock t) (hE : Env w) (p : ByteArray) (hp : p.size < 4294967281) :
    Calls Tryz.prog 88 #[.pointer (some ⟨P, 0, none⟩), .string p] w fun e w' => e = .returned (.tuple #[.string (fsFound t p).1, .int .i64 (fsFound t p).2]) ∧ Fresh w w' := by
  have HA := Lib.hid (fsabs_calls h hE p hp)
  have H := Lib.hid h
  have hfs : fsFound t p = if (fsAbs t p).2 = 0 ∧ kindOf t (fsAbs t p).1 = 0 then ((fsAbs t p).1, 6) else fsAbs t p := rfl
  generalize fsFound t p = R at hfs ⊢
  have HR := Lib.hid hfs
  clear h hE hfs
  obtain ⟨Q, hQ⟩ : ∃ Q, fsAbs t p = Q := ⟨_, rfl⟩
  rw [hQ] at HA HR
  clear hQ
  obtain ⟨q, er⟩ := Q
  go_enter Tryz.func88, Tryz.ntmps88
  go_wp2_with fail
  refine HA.out.mono ?_
  rintro _ w1 ⟨rfl, hF1⟩
  have HF1 := Lib.hid hF1
  clear hF1 HA
  by_cases e0 : er = 0
  · subst e0
    go_wp2_with fail
    refine (kind_calls (H.out.fresh HF1.out) q).mono ?_
    rintro _ w2 ⟨rfl, hF2⟩
    have HF2 := Lib.hid (HF1.out.trans hF2)
    clear hF2
    generalize kindOf t q = kd at HR ⊢
    by_cases e1 : kd = 0
    · subst e1
      have hr : R = (q, 6) := by have := HR.out; simpa using this
      go_wp2_with fail
      go_ret2
      exact ⟨by rw [hr]; rfl, HF2.out⟩
    · have t1 : (kd == 0) = false := by rw [beq_eq_false_iff_ne]; exact e1
      rw [if_neg (fun h => e1 h.2)] at HR
      go_wp2_with fail
      go_ret2
      exact ⟨by rw [HR.out]; rfl, HF2.out⟩
  · have t1 : (er == 0) = false := by rw [beq_eq_false_iff_ne]; exact e0
    rw [if_neg (fun h => e0 h.1)] at HR
    go_wp2_with fail
    go_ret2
    exact ⟨by rw [HR.out]; rfl, HF1.out⟩

theorem node_data (d : Bool) (a : Option Addr) (n c : Nat) (x : Int) (w : World) : (Instr.field 74 (.agg #[.bool d, .slice a n c, .int .i64 x]) 1).run Tryz.prog w = .ok (.slice a n c) w := by kernel_rfl
theorem look_mem {α : Type} {k : ByteArray} {v : α} : ∀ {t : List (ByteArray × α)}, look k t = some v → (k, v) ∈ t
  | [], h => by cases h
  | p :: r, h => by
    simp only [look] at h
    split at h
    · rename_i e
      cases h
      rw [e]
      exact List.mem_cons_self
    · exact List.mem_cons_of_mem _ (look_mem h)
/-- bytes.Clone, once more: where its row lies. -/
theorem clone2_calls {w : World} (oa : Option Addr) (m c : Nat) (l : List UInt8) (hl : l.length = m) (hrow : BytesAt w oa l) (hbig : m ≤ 1099511627776) :
    Calls Tryz.prog 25 #[.slice oa m c] w fun e w' => ∃ oa' c', e = .returned (.slice oa' m c') ∧ BytesAt w' oa' l ∧ Fresh w w' ∧ (∀ ad, oa' = some ad → w.heap.size ≤ ad.block) ∧ (oa' = none → c' = 0) := by
  cases oa with
  | none =>
    have h0 : cellsOf l = [] := hrow
    have : l = [] := by simpa [cellsOf] using h0
    subst this
    simp only [List.length_nil] at hl
    subst hl
    exact (Tryz.bytes_Clone_nil 0 c w).mono fun e w' ⟨he, hw⟩ => ⟨none, 0, he, rfl, by rw [hw]; exact Fresh.refl w, fun _ h => (by cases h), fun _ => rfl⟩
  | some ad =>
    refine (Tryz.bytes_Clone_at ad m c (l.map fun b => (b.toNat : Int)) w (by simp [hl]) (by omega) (fun i hi => ?_)).mono fun e w' ⟨v', he, hown, _, hb⟩ => ?_
    · have hlt : i < l.length := by omega
      have e1 : (cellsOf l)[i]? = some (.int .u8 (((l.map fun b => (b.toNat : Int)).getD i 0))) := by
        simp [cellsOf, List.getElem?_map, List.getD, List.getElem?_eq_getElem hlt]
      exact hrow.add i _ e1
    · rw [cells_ints] at hown
      obtain ⟨oa', c', rfl⟩ := ownsRow_shape hown
      refine ⟨oa', c', he, RowAt.of_owns hown, Fresh.of_below hb, fun ad' h => ?_, hown.shape2.2.2⟩
      subst h
      exact (World.ownsRow.lt hown ad'.block rfl).1
/-- What Read tells. -/
def fsRead (t : Tree) (p : ByteArray) : List UInt8 × Int :=
  if (fsFound t p).2 ≠ 0 then ([], (fsFound t p).2) else if kindOf t (fsFound t p).1 = 2 then ([], 10) else (((look (fsFound t p).1 t).map Cn.data).getD [], 0)
set_option maxRecDepth 10000 in
set_option maxHeartbeats 800000 in
theorem read_calls {w : World} {P M : Nat} {nodes bytes used clock : Int} {t : Tree} (h : FsAt w P M nodes bytes used clock t) (hE : Env w) (p : ByteArray) (hp : p.size < 4294967281) (hb : ∀ x ∈ t, x.2.data.length ≤ 1099511627776) :
    Calls Tryz.prog 52 #[.pointer (some ⟨P, 0, none⟩), .string p] w fun e w' => ∃ oa c, e = .returned (.tuple #[.slice oa (fsRead t p).1.length c, .int .i64 (fsRead t p).2]) ∧ BytesAt w' oa (fsRead t p).1 ∧ Fresh w w' ∧ (∀ ad, oa = some ad → w.heap.size ≤ ad.block) ∧ (oa = none → c = 0) := by
  have hz : ∀ w, (zeroValue 74).run Tryz.prog w = .ok (.agg #[.bool false, .slice none 0 0, .int .i64 0]) w := fun _ => by kernel_rfl
  have Hz := Lib.hid hz
  have hfl : ∀ (d : Bool) (a : Option Addr) (n c : Nat) (x : Int) (w : World), (Instr.field 74 (.agg #[.bool d, .slice a n c, .int .i64 x]) 1).run Tryz.prog w = .ok (.slice a n c) w := node_data
  have HA := Lib.hid (found_calls h hE p hp)
  have H := Lib.hid h
  have HBt := Lib.hid hb
  have hfs : fsRead t p = if (fsFound t p).2 ≠ 0 then ([], (fsFound t p).2) else if kindOf t (fsFound t p).1 = 2 then ([], 10) else (((look (fsFound t p).1 t).map Cn.data).getD [], 0) := rfl
  generalize fsRead t p = R at hfs ⊢
  have HR := Lib.hid hfs
  clear h hE hfs hz hb
  obtain ⟨Q, hQ⟩ : ∃ Q, fsFound t p = Q := ⟨_, rfl⟩
  rw [hQ] at HA HR
  clear hQ
  obtain ⟨q, er⟩ := Q
  go_enter Tryz.func52, Tryz.ntmps52
  go_wp2_with fail
  refine HA.out.mono ?_
  rintro _ w1 ⟨rfl, hF1⟩
  have HF1 := Lib.hid hF1
  clear hF1 HA
  by_cases e0 : er = 0
  · subst e0
    go_wp2_with fail
    refine (kind_calls (H.out.fresh HF1.out) q).mono ?_
    rintro _ w2 ⟨rfl, hF2⟩
    have HF2 := Lib.hid (HF1.out.trans hF2)
    clear hF2
    rw [if_neg (fun h => h rfl)] at HR
    by_cases e1 : kindOf t q = 2
    · rw [if_pos e1] at HR
      rw [e1]
      go_wp2_with fail
      go_ret2
      exact ⟨none, 0, by rw [HR.out]; rfl, by rw [HR.out]; exact rfl, HF2.out, fun _ h => (by cases h), fun _ => rfl⟩
    · have t1 : (kindOf t q == 2) = false := by rw [beq_eq_false_iff_ne]; exact e1
      rw [if_neg e1] at HR
      generalize kindOf t q = kd at t1 ⊢
      have hf := find_look Cn.val q t
      have hc := cell_of_block (H.out.fresh HF2.out).blk 0
      simp at hc
      have HM := Lib.hid (H.out.fresh HF2.out).map
      cases hlk : look q t with
      | none =>
        rw [hlk] at hf HR
        have HFd := Lib.hid hf
        clear hf hlk
        go_wp2_with (refine wp_lookup_str rfl _ _ _ _ rfl 9 74 Tryz.underlying67 Tryz.underlying9 (.agg #[.bool false, .slice none 0 0, .int .i64 0]) (Hz.out _) M _ rfl q rfl HM.out _ HFd.out ?_)
        refine (clone2_calls none 0 0 [] rfl rfl (by decide)).mono ?_
        rintro _ w3 ⟨ca, cc, rfl, hco, hF3, hge, hz0⟩
        have HGe := Lib.hid (And.intro (fun ad had => Nat.le_trans HF2.out.size (hge ad had)) hz0)
        clear hge hz0
        have HCo := Lib.hid hco
        have HF3 := Lib.hid (HF2.out.trans hF3)
        clear hco hF3
        go_wp2_with fail
        go_ret2
        exact ⟨ca, cc, by rw [HR.out]; rfl, by rw [HR.out]; exact HCo.out, HF3.out, HGe.out⟩
      | some n =>
        have hmem := look_mem hlk
        obtain ⟨dir, oa, c, data, time⟩ := n
        rw [hlk] at hf HR
        have hf' : find q (t.map fun p => (p.1, p.2.val)) = some (.agg #[.bool dir, .slice oa data.length c, .int .i64 time]) := hf
        have HFd := Lib.hid hf'
        have HRow := Lib.hid ((H.out.fresh HF2.out).rows _ hmem).1
        have hdl : data.length ≤ 1099511627776 := HBt.out _ hmem
        clear hf hf' hlk hmem
        go_wp2_with (refine wp_lookup_str rfl _ _ _ _ rfl 9 74 Tryz.underlying67 Tryz.underlying9 (.agg #[.bool false, .slice none 0 0, .int .i64 0]) (Hz.out _) M _ rfl q rfl HM.out _ HFd.out ?_)
        refine (clone2_calls oa data.length c data rfl HRow.out hdl).mono ?_
        rintro _ w3 ⟨ca, cc, rfl, hco, hF3, hge, hz0⟩
        have HGe := Lib.hid (And.intro (fun ad had => Nat.le_trans HF2.out.size (hge ad had)) hz0)
        clear hge hz0
        have HCo := Lib.hid hco
        have HF3 := Lib.hid (HF2.out.trans hF3)
        clear hco hF3
        go_wp2_with fail
        go_ret2
        exact ⟨ca, cc, by rw [HR.out]; rfl, by rw [HR.out]; exact HCo.out, HF3.out, HGe.out⟩
  · have t1 : (er == 0) = false := by rw [beq_eq_false_iff_ne]; exact e0
    rw [if_pos e0] at HR
    go_wp2_with fail
    go_ret2
    exact ⟨none, 0, by rw [HR.out]; rfl, by rw [HR.out]; exact rfl, HF1.out, fun _ h => (by cases h), fun _ => rfl⟩
end Go.Proofs.YtbhmapcjcnceiaaGreatDoor
