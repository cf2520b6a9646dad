/- check's numbers and comparisons. -/
import Derived.Test.YtbhmapcjcnceiaaGreatDoorJ0
import Derived.Shelf.Strings.SlTrimAscii
import Derived.Lib.AtoiAllCases
namespace Go.Proofs.YtbhmapcjcnceiaaGreatDoor
open Go Go.RowKit

def digs10 : List UInt8 := [48, 49, 50, 51, 52, 53, 54, 55, 56, 57]
theorem strim_calls (s : ByteArray) (hs : s.size ≤ 9223372036854775807) (w : World) : Calls Tryz.prog 268 #[.string s, .string ⟨#[48, 49, 50, 51, 52, 53, 54, 55, 56, 57]⟩] w fun e w' => e = .returned (.string ⟨(Lib.trimS s.data.toList digs10).toArray⟩) ∧ Fresh w w' :=
  (Any.strings_Trim_laid Tryz.lays160 (by kernel_rfl) s ⟨#[48, 49, 50, 51, 52, 53, 54, 55, 56, 57]⟩ w hs (by decide) (ascii_of_all (by decide))).mono fun _ _ ⟨he, hb⟩ => ⟨he, Fresh.of_below hb⟩

theorem dig_of_mem {c : UInt8} (h : digs10.contains c = true) : 48 ≤ c.toNat ∧ c.toNat ≤ 57 := by
  simp only [digs10, List.contains_cons, List.contains_nil, Bool.or_false, Bool.or_eq_true, beq_iff_eq] at h
  rcases h with h | h | h | h | h | h | h | h | h | h <;> subst h <;> decide
theorem dropWhile_nil {α : Type} {p : α → Bool} : ∀ {l : List α}, l.dropWhile p = [] → ∀ x ∈ l, p x = true
  | [], _, _, hx => by cases hx
  | a :: l, h, x, hx => by
    simp only [List.dropWhile_cons] at h
    split at h
    · rename_i ha
      rcases List.mem_cons.1 hx with rfl | hx
      · exact ha
      · exact dropWhile_nil h x hx
    · cases h
/-- What is trimmed to nothing is digits alone. -/
theorem trimS_nil {l : List UInt8} (h : Lib.trimS l digs10 = []) : ∀ c ∈ l, 48 ≤ c.toNat ∧ c.toNat ≤ 57 := by
  have h1 : ∀ c ∈ Lib.trimRightS l digs10, digs10.contains c = true := dropWhile_nil h
  have h2 : l.reverse.dropWhile (digs10.contains ·) = [] := by
    cases hd : l.reverse.dropWhile (digs10.contains ·) with
    | nil => rfl
    | cons x r =>
      exfalso
      have hx : digs10.contains x = true := h1 x (by unfold Lib.trimRightS; rw [hd]; simp)
      have := List.head_dropWhile_not (digs10.contains ·) (l := l.reverse) (by rw [hd]; simp)
      simp only [hd, List.head_cons] at this
      rw [hx] at this
      cases this
  intro c hc
  exact dig_of_mem (dropWhile_nil h2 c (by simpa using hc))
theorem pu_ok : ∀ (l : List UInt8) (acc k : Nat), acc < 10 ^ k → l.length + k ≤ 18 → (∀ c ∈ l, 48 ≤ c.toNat ∧ c.toNat ≤ 57) → ∃ u, u < 10 ^ 18 ∧ Lib.parseUint10 acc l = .ok u
  | [], acc, k, ha, hk, _ => ⟨acc, Nat.lt_of_lt_of_le ha (Nat.pow_le_pow_right (by decide) (by simpa using hk)), rfl⟩
  | c :: r, acc, k, ha, hk, hd => by
    have hc := hd c (by simp)
    simp only [List.length_cons] at hk
    have h17 : acc < 10 ^ 17 := Nat.lt_of_lt_of_le ha (Nat.pow_le_pow_right (by decide) (by omega))
    have e17 : (10 : Nat) ^ 17 = 100000000000000000 := by decide
    have hn : acc * 10 + (c.toNat - 48) < 10 ^ (k + 1) := by rw [Nat.pow_succ]; omega
    obtain ⟨u, hu, he⟩ := pu_ok r _ (k + 1) hn (by omega) (fun x hx => hd x (List.mem_cons_of_mem _ hx))
    refine ⟨u, hu, ?_⟩
    rw [Lib.parseUint10, if_pos hc, if_neg (by omega), if_neg (by omega)]
    exact he

/-- A text without its sign. -/
def numS (s : ByteArray) : ByteArray := ⟨(Lib.trimPrefix s.data.toList [45]).toArray⟩
def numOf (s : ByteArray) : Int × Bool :=
  if (numS s).data.toList = [] ∨ 18 < (numS s).size ∨ Lib.trimS (numS s).data.toList digs10 ≠ [] then (0, false) else ((match Lib.atoiAll s.data.toList with | .ok v => v | _ => 0), true)
theorem atoi_of_num {s : ByteArray} (h0 : (numS s).data.toList ≠ []) (h1 : (numS s).size ≤ 18) (h2 : Lib.trimS (numS s).data.toList digs10 = []) : ∃ v, Lib.atoiAll s.data.toList = .ok v := by
  have hd := trimS_nil h2
  have hl : (numS s).data.toList.length ≤ 18 := by rw [Array.length_toList]; exact h1
  obtain ⟨u, hu, he⟩ := pu_ok _ 0 0 (by decide) (by omega) hd
  have e18 : (10 : Nat) ^ 18 = 1000000000000000000 := by decide
  have hm : Lib.parseMag (numS s).data.toList = .ok u := by unfold Lib.parseMag; rw [if_neg h0]; exact he
  have hn : (numS s).data.toList = Lib.trimPrefix s.data.toList [45] := by simp [numS]
  rw [hn] at hm h0 hd
  unfold Lib.trimPrefix at hm h0 hd
  cases hs : s.data.toList with
  | nil => rw [hs] at h0; exact absurd rfl h0
  | cons c r =>
    rw [hs] at hm h0 hd
    by_cases hc : c = 45
    · subst hc
      have hp : Lib.hasPrefix (45 :: r) [45] = true := rfl
      rw [hp] at hm
      have hm' : Lib.parseMag r = .ok u := hm
      refine ⟨-(u : Int), ?_⟩
      rw [Lib.atoiAll_minus, hm']
      simp only [Lib.signed]
      rw [if_neg (by omega)]
    · have hp : Lib.hasPrefix (c :: r) [45] = false := by
        show (45 == c && _) = false
        rw [beq_eq_false_iff_ne.2 (Ne.symm hc)]
        rfl
      rw [hp] at hm hd
      have hm' : Lib.parseMag (c :: r) = .ok u := hm
      have hcd := hd c (by simp)
      refine ⟨(u : Int), ?_⟩
      rw [Lib.atoiAll_plain c r (by omega) (by omega), hm']
      simp only [Lib.signless]
      rw [if_neg (by omega)]

set_option maxHeartbeats 800000 in
theorem number_calls (s : ByteArray) (hs : s.size ≤ 1099511627776) (w : World) :
    Calls Tryz.prog 237 #[.string s] w fun e w' => e = .returned (.tuple #[.int .i64 (numOf s).1, .bool (numOf s).2]) ∧ Fresh w w' := by
  have hat := fun h0 h1 h2 => atoi_of_num (s := s) h0 h1 h2
  have hr : numOf s = if (numS s).data.toList = [] ∨ 18 < (numS s).size ∨ Lib.trimS (numS s).data.toList digs10 ≠ [] then (0, false) else ((match Lib.atoiAll s.data.toList with | .ok v => v | _ => 0), true) := rfl
  generalize numOf s = R at hr ⊢
  have hp : ∀ w, Calls Tryz.prog 267 #[.string s, .string ⟨#[45]⟩] w fun e w' => e = .returned (.string (numS s)) ∧ w' = w := fun w => Tryz.strings_TrimPrefix s ⟨#[45]⟩ w
  have hsz : (numS s).size ≤ s.size := by
    show (Lib.trimPrefix s.data.toList [45]).toArray.size ≤ s.data.size
    unfold Lib.trimPrefix
    split <;> simp
  generalize numS s = D at hr hat hp hsz
  have HR := Lib.hid hr
  have HP := Lib.hid hp
  have HAt := Lib.hid hat
  clear hr hp hat
  go_enter Tryz.func237, Tryz.ntmps237
  go_wp2_with fail
  refine (HP.out _).mono ?_
  rintro _ w' ⟨rfl, rfl⟩
  by_cases e0 : D.data.toList = []
  · have t0 := isEmpty_is e0
    rw [if_pos (Or.inl e0)] at HR
    go_wp2_with fail
    go_ret2
    exact ⟨by rw [HR.out]; rfl, Fresh.refl _⟩
  · have t0 := isEmpty_not e0
    by_cases e1 : 18 < D.size
    · have t1 : decide ((18 : Int) < (D.size : Int)) = true := by simp; omega
      rw [if_pos (Or.inr (Or.inl e1))] at HR
      go_wp2_with fail
      go_ret2
      exact ⟨by rw [HR.out]; rfl, Fresh.refl _⟩
    · have t1 : decide ((18 : Int) < (D.size : Int)) = false := by simp; omega
      have HT := Lib.hid (fun w => strim_calls D (by omega) w)
      obtain ⟨q, hq⟩ : ∃ q : ByteArray, q = ⟨(Lib.trimS D.data.toList digs10).toArray⟩ := ⟨_, rfl⟩
      rw [← hq] at HT
      have hqd : q.data.toList = Lib.trimS D.data.toList digs10 := by rw [hq]
      have Hqd := Lib.hid hqd
      clear hq hqd
      go_wp2_with fail
      refine (HT.out _).mono ?_
      rintro _ w2 ⟨rfl, hF2⟩
      have HF2 := Lib.hid hF2
      clear hF2
      by_cases e2 : q.data.toList = []
      · have t2 := isEmpty_is e2
        have h2 : Lib.trimS D.data.toList digs10 = [] := by rw [← Hqd.out]; exact e2
        obtain ⟨v, hv⟩ := HAt.out e0 (by omega) h2
        rw [if_neg (by rintro (h | h | h) <;> contradiction)] at HR
        have hR2 : R = (v, true) := by rw [HR.out, hv]
        have HR2 := Lib.hid hR2
        have HV := Lib.hid hv
        clear hv hR2 HR h2
        go_wp2_with fail
        refine (Tryz.strconv_Atoi_ok s (by omega) v HV.out _).mono ?_
        rintro _ w3 ⟨rfl, hw3⟩
        have hF3 : Fresh w2 w3 := by
          rcases hw3 with rfl | ⟨t, rfl⟩
          · exact Fresh.refl _
          · exact Fresh.of_below (Lib.bytesWorld_below _ _ _)
        have HF3 := Lib.hid (HF2.out.trans hF3)
        clear hw3 hF3
        go_wp2_with fail
        go_ret2
        exact ⟨by rw [HR2.out]; rfl, HF3.out⟩
      · have t2 := isEmpty_not e2
        rw [if_pos (Or.inr (Or.inr (by rw [← Hqd.out]; exact e2)))] at HR
        go_wp2_with fail
        go_ret2
        exact ⟨by rw [HR.out]; rfl, HF2.out⟩

def cmpOf (op : ByteArray) (a b : Int) : Bool × Bool :=
  if op.data.toList = [45, 101, 113] then (a == b, true)
  else if op.data.toList = [45, 110, 101] then (a != b, true)
  else if op.data.toList = [45, 108, 116] then (decide (a < b), true)
  else if op.data.toList = [45, 108, 101] then (decide (a ≤ b), true)
  else if op.data.toList = [45, 103, 116] then (decide (b < a), true)
  else if op.data.toList = [45, 103, 101] then (decide (b ≤ a), true)
  else (false, false)
set_option maxHeartbeats 800000 in
theorem compare_calls (op : ByteArray) (a b : Int) (w : World) :
    Calls Tryz.prog 238 #[.string op, .int .i64 a, .int .i64 b] w fun e w' => e = .returned (.tuple #[.bool (cmpOf op a b).1, .bool (cmpOf op a b).2]) ∧ w = w' := by
  have hr : cmpOf op a b = _ := rfl
  generalize hR : cmpOf op a b = R at hr ⊢
  rw [← hR] at hr
  clear hr
  unfold cmpOf at hR
  have HR := Lib.hid hR
  clear hR
  by_cases e0 : op.data.toList = [45, 101, 113]
  · have t0 := eqb_is e0
    rw [if_pos e0] at HR
    go_enter Tryz.func238, Tryz.ntmps238
    go_wp2_with fail
    go_ret2
    exact ⟨by rw [← HR.out]; rfl, rfl⟩
  have t0 := eqb_not e0
  rw [if_neg e0] at HR
  by_cases e1 : op.data.toList = [45, 110, 101]
  · have t1 := eqb_is e1
    rw [if_pos e1] at HR
    go_enter Tryz.func238, Tryz.ntmps238
    go_wp2_with fail
    go_ret2
    exact ⟨by rw [← HR.out]; rfl, rfl⟩
  have t1 := eqb_not e1
  rw [if_neg e1] at HR
  by_cases e2 : op.data.toList = [45, 108, 116]
  · have t2 := eqb_is e2
    rw [if_pos e2] at HR
    go_enter Tryz.func238, Tryz.ntmps238
    go_wp2_with fail
    go_ret2
    exact ⟨by rw [← HR.out]; rfl, rfl⟩
  have t2 := eqb_not e2
  rw [if_neg e2] at HR
  by_cases e3 : op.data.toList = [45, 108, 101]
  · have t3 := eqb_is e3
    rw [if_pos e3] at HR
    go_enter Tryz.func238, Tryz.ntmps238
    go_wp2_with fail
    go_ret2
    exact ⟨by rw [← HR.out]; rfl, rfl⟩
  have t3 := eqb_not e3
  rw [if_neg e3] at HR
  by_cases e4 : op.data.toList = [45, 103, 116]
  · have t4 := eqb_is e4
    rw [if_pos e4] at HR
    go_enter Tryz.func238, Tryz.ntmps238
    go_wp2_with fail
    go_ret2
    exact ⟨by rw [← HR.out]; rfl, rfl⟩
  have t4 := eqb_not e4
  rw [if_neg e4] at HR
  by_cases e5 : op.data.toList = [45, 103, 101]
  · have t5 := eqb_is e5
    rw [if_pos e5] at HR
    go_enter Tryz.func238, Tryz.ntmps238
    go_wp2_with fail
    go_ret2
    exact ⟨by rw [← HR.out]; rfl, rfl⟩
  have t5 := eqb_not e5
  rw [if_neg e5] at HR
  go_enter Tryz.func238, Tryz.ntmps238
  go_wp2_with fail
  go_ret2
  exact ⟨by rw [← HR.out]; rfl, rfl⟩
end Go.Proofs.YtbhmapcjcnceiaaGreatDoor
