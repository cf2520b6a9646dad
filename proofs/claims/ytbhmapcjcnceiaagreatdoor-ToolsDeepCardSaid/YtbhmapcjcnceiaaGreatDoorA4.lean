/- A region that draws its order, walked in one order, where some of its reckonings may come behind a store that changes what others read: two classes of them, each with what it leans on. -/
import Derived.Test.YtbhmapcjcnceiaaGreatDoorA2
namespace Go.Proofs.YtbhmapcjcnceiaaGreatDoor
open Go Go.RowKit
section
variable {P : Program} {ops : Array Oper} {Q : Exit → Act → World → Prop} {md : Region.Mode} {S : Bool → World → Prop}

/-- What is still so behind operation i. -/
def lvOf (Z : Bool → List Nat) (lv : Bool → Bool) (i : Nat) : Bool → Bool := fun c => lv c && !(Z c).contains i
/-- Whatever order is picked from here on; what class c leans on holds till an operation of Z c. -/
def wpAny2 (P : Program) (md : Region.Mode) (ops : Array Oper) (Q : Exit → Act → World → Prop) (Z : Bool → List Nat) (S : Bool → World → Prop) : Nat → (Bool → Bool) → Array Bool → Act → World → Prop
  | 0, _, listed, a, w => Region.ready md ops listed = [] ∧ Q .normal a w
  | fuel + 1, lv, listed, a, w =>
    (Region.ready md ops listed = [] → Q .normal a w) ∧
    ∀ i ∈ Region.ready md ops listed, wpOp P ops Q i (fun a' w' => (∀ c, lvOf Z lv i c = true → S c w') ∧ wpAny2 P md ops Q Z S fuel (lvOf Z lv i) (listed.setIfInBounds i true) a' w') a w

theorem wpAny_of_2 {Z : Bool → List Nat} : ∀ (fuel : Nat) (lv : Bool → Bool) (listed : Array Bool) (a : Act) (w : World), wpAny2 P md ops Q Z S fuel lv listed a w → wpAny P md ops Q fuel listed a w
  | 0, _, _, _, _, h => h
  | fuel + 1, _, _, _, _, h => ⟨h.1, fun i hi => wpOp_mono (fun a' w' h' => wpAny_of_2 fuel _ _ a' w' h'.2) (h.2 i hi)⟩

theorem lvOf_no {Z : Bool → List Nat} {lv : Bool → Bool} {i : Nat} (h : ∀ c, (Z c).contains i = false) : lvOf Z lv i = lv := by
  funext c
  unfold lvOf
  rw [h c, Bool.not_false, Bool.and_true]
theorem wpAny2_first {Z : Bool → List Nat} (c : Bool) {i : Nat} {oi : Oper} {v : Value} (hi : ops[i]? = some oi) (hsel : ∀ (j : Nat) (o : Oper) cs b, ops[j]? = some o → o.op ≠ .select cs b)
    (hQ : ∀ c a w, Q (.panic c) (a.put oi.dst v) w → Q (.panic c) a w) (hZ : ∀ z ∈ Z c, waits md ops z i = true) (hno : ∀ c, (Z c).contains i = false) :
    ∀ (fuel : Nat) (lv : Bool → Bool) (listed : Array Bool) (a : Act) (w : World),
      (∀ j oj, ops[j]? = some oj → j ≠ i → listed.getD j true = false → (∀ e ∈ oj.after, Region.binds md e = true → e.on ≠ i) → oi.apart ops oj = true) →
      i ∈ Region.ready md ops listed → YieldsIf P ops (S c) oi v a → lv c = true → (∀ c, lv c = true → S c w) →
      wpAny2 P md ops Q Z S fuel lv (listed.setIfInBounds i true) (a.put oi.dst v) w → wpAny2 P md ops Q Z S (fuel + 1) lv listed a w := by
  intro fuel
  induction fuel with
  | zero =>
    intro lv listed a w _ hr hy hlc hS H
    refine ⟨fun h => (by rw [h] at hr; cases hr), fun j hj => ?_⟩
    by_cases hji : j = i
    · subst hji
      rw [lvOf_no hno]
      exact hy.wpOp hi (hS c hlc) ⟨hS, H⟩
    · have := ready_mono hj hji
      rw [H.1] at this
      cases this
  | succ fuel ih =>
    intro lv listed a w hfree hr hy hlc hS H
    refine ⟨fun h => (by rw [h] at hr; cases hr), fun j hj => ?_⟩
    by_cases hji : j = i
    · subst hji
      rw [lvOf_no hno]
      exact hy.wpOp hi (hS c hlc) ⟨hS, H⟩
    · have h1 := H.2 j (ready_mono hj hji)
      obtain ⟨hjun, oj, hoj, hall⟩ := mem_ready.1 hj
      have hnot : ∀ e ∈ oj.after, Region.binds md e = true → e.on ≠ i := fun e he hb heq => by
        have h1 := hall e he hb
        have h0 := (mem_ready.1 hr).1
        rw [heq] at h1
        rcases Nat.lt_or_ge i listed.size with h' | h'
        · simp [h'] at h0 h1; rw [h0] at h1; cases h1
        · simp [Array.getElem?_eq_none h'] at h1
      have hjZ : (Z c).contains j = false := by
        cases hc : (Z c).contains j with
        | false => rfl
        | true =>
          have := hZ j (by simpa using hc)
          simp only [waits, hoj, Option.map_some, Option.getD_some, Array.any_eq_true', Bool.and_eq_true, beq_iff_eq] at this
          obtain ⟨e, he, hb, hon⟩ := this
          exact absurd hon (hnot e he hb)
      have h2 := wpOp_putIf hoj (hfree j oj hoj hji hjun hnot) (fun cs b => hsel i oi cs b hi) (fun cs b => hsel j oj cs b hoj) hQ hy h1
      have hfree' : ∀ k ok, ops[k]? = some ok → k ≠ i → (listed.setIfInBounds j true).getD k true = false →
          (∀ e ∈ ok.after, Region.binds md e = true → e.on ≠ i) → oi.apart ops ok = true := fun k ok hk hki hun hno => by
        refine hfree k ok hk hki ?_ hno
        by_cases hjk : j = k
        · subst hjk; exact hjun
        · rw [getD_set_ne true hjk] at hun; exact hun
      have hlj : lvOf Z lv j c = true := by unfold lvOf; rw [hlc, hjZ]; rfl
      refine wpOp_mono (fun a' w' h3 => ⟨h3.2.1, ih (lvOf Z lv j) (listed.setIfInBounds j true) a' w' hfree' (ready_mono hr (Ne.symm hji)) h3.1 hlj h3.2.1 ?_⟩) h2
      rw [Array.setIfInBounds_comm _ _ hji]
      exact h3.2.2

/-- The order 'ord' can be walked; cls: those of the second class. -/
def ordOK2 (md : Region.Mode) (ops : Array Oper) (eff cls : List Nat) (Z : Bool → List Nat) : List Nat → (Bool → Bool) → Array Bool → Bool
  | [], _, listed => (Region.ready md ops listed).isEmpty
  | i :: r, lv, listed =>
    if eff.contains i then decide (Region.ready md ops listed = [i]) && ordOK2 md ops eff cls Z r (lvOf Z lv i) (listed.setIfInBounds i true)
    else lv (cls.contains i) && (Region.ready md ops listed).contains i && Region.free md ops listed i && ((Z (cls.contains i)).all fun z => waits md ops z i) && !(Z false).contains i && !(Z true).contains i && ordOK2 md ops eff cls Z r lv (listed.setIfInBounds i true)

/-- The walk in that order. -/
def wpOrd2 (P : Program) (ops : Array Oper) (Q : Exit → Act → World → Prop) (eff cls : List Nat) (Z : Bool → List Nat) (S : Bool → World → Prop) : (Bool → Bool) → List Nat → Act → World → Prop
  | _, [], a, w => Q .normal a w
  | lv, i :: r, a, w =>
    if eff.contains i then wpOp P ops Q i (fun a' w' => (∀ c, lvOf Z lv i c = true → S c w') ∧ wpOrd2 P ops Q eff cls Z S (lvOf Z lv i) r a' w') a w
    else ∃ o v, ops[i]? = some o ∧ YieldsIf P ops (S (cls.contains i)) o v a ∧ (∀ c a w, Q (.panic c) (a.put o.dst v) w → Q (.panic c) a w) ∧ wpOrd2 P ops Q eff cls Z S lv r (a.put o.dst v) w

theorem wpAny2_done {Z : Bool → List Nat} {lv : Bool → Bool} {listed : Array Bool} {a : Act} {w : World} (hr : Region.ready md ops listed = []) (h : Q .normal a w) : ∀ fuel, wpAny2 P md ops Q Z S fuel lv listed a w
  | 0 => ⟨hr, h⟩
  | _ + 1 => ⟨fun _ => h, by rw [hr]; simp⟩

theorem wpAny2_of_ord {eff cls : List Nat} {Z : Bool → List Nat} (hsel : Region.noSelect ops = true) : ∀ (ord : List Nat) (lv : Bool → Bool) (fuel : Nat) (listed : Array Bool) (a : Act) (w : World), ord.length ≤ fuel →
    ordOK2 md ops eff cls Z ord lv listed = true → (∀ c, lv c = true → S c w) → wpOrd2 P ops Q eff cls Z S lv ord a w → wpAny2 P md ops Q Z S fuel lv listed a w
  | [], _, fuel, listed, a, w, _, hok, _, h => wpAny2_done (by simpa [ordOK2] using hok) h fuel
  | i :: r, lv, 0, _, _, _, hf, _, _, _ => by simp at hf
  | i :: r, lv, fuel + 1, listed, a, w, hf, hok, hS, h => by
    simp only [ordOK2] at hok
    simp only [wpOrd2] at h
    by_cases he : eff.contains i = true
    · rw [if_pos he] at hok h
      simp only [Bool.and_eq_true, decide_eq_true_eq] at hok
      refine ⟨fun h0 => (by rw [hok.1] at h0; cases h0), fun j hj => ?_⟩
      rw [hok.1] at hj
      obtain rfl : j = i := by simpa using hj
      refine wpOp_mono (fun a' w' h' => ⟨h'.1, ?_⟩) h
      exact wpAny2_of_ord hsel r _ fuel _ a' w' (by simpa using hf) hok.2 h'.1 h'.2
    · rw [if_neg he] at hok h
      simp only [Bool.and_eq_true, List.all_eq_true, Bool.not_eq_true'] at hok
      obtain ⟨⟨⟨⟨⟨⟨hl, hr⟩, hfr⟩, hz⟩, hzf⟩, hzt⟩, hrest⟩ := hok
      obtain ⟨o, v, ho, hy, hQ, hw⟩ := h
      exact wpAny2_first (cls.contains i) ho (Region.noSelect_spec hsel) hQ hz (fun c => by cases c; exact hzf; exact hzt) fuel lv listed a w (Region.free_spec ho hfr) (by simpa using hr) hy hl hS
        (wpAny2_of_ord hsel r lv fuel _ _ w (by simpa using hf) hrest hS hw)

/-- Two lists by class. -/
def two {α : Type} (x y : α) : Bool → α := fun c => if c = true then y else x
/-- The beginning. -/
theorem wp_region_ord2 {id : Nat} {l : List Oper} {a : Act} {w : World} (ord eff cls ZA ZB : List Nat) (SA SB : World → Prop) (hm : P.follows .mixedOrders = true)
    (hok : (Region.noSelect l.toArray && decide (ord.length ≤ l.toArray.size) && ordOK2 .any l.toArray eff cls (two ZA ZB) ord (fun _ => true) (Array.replicate l.toArray.size false)) = true)
    (hS : SA w.drew ∧ SB w.drew) (h : wpOrd2 P l.toArray Q eff cls (two ZA ZB) (two SA SB) (fun _ => true) ord a w.drew) : (Code.region id l.toArray true).wp P Q a w := by
  simp only [Bool.and_eq_true, decide_eq_true_eq] at hok
  exact wp_region_any hm (wpAny_of_2 _ _ _ _ _ (wpAny2_of_ord hok.1.1 ord _ _ _ a w.drew hok.1.2 hok.2 (fun c _ => by cases c; exact hS.1; exact hS.2) h))

section
variable {eff cls ZA ZB : List Nat} {SA SB : World → Prop} {lv : Bool → Bool} {i : Nat} {o : Oper} {l ro : List Oper} {r : List Nat} {a : Act} {w : World}
theorem wpOrd2_nil {Z : Bool → List Nat} (h : Q .normal a w) : wpOrd2 P ops Q eff cls Z S lv [] a w := h
/-- An operation of the first class that is taken. -/
theorem wpOrd2_takeA {v : Value} (he : eff.contains i = false) (hc : cls.contains i = false) (ho : l.drop i = o :: ro) (hg : o.guard = none) (hQ : ∀ c a w, Q (.panic c) (a.put o.dst v) w → Q (.panic c) a w)
    (hv : ∀ w, SA w → (execOp a.eval o).run P w = .ok (.value v) w) (h : wpOrd2 P l.toArray Q eff cls (two ZA ZB) (two SA SB) lv r (a.put o.dst v) w) : wpOrd2 P l.toArray Q eff cls (two ZA ZB) (two SA SB) lv (i :: r) a w := by
  simp only [wpOrd2, he, hc]
  exact ⟨o, v, op_of_drop ho, Or.inl ⟨by simp [Region.wanted, hg], hv⟩, hQ, h⟩
theorem wpOrd2_takeB {v : Value} (he : eff.contains i = false) (hc : cls.contains i = true) (ho : l.drop i = o :: ro) (hg : o.guard = none) (hQ : ∀ c a w, Q (.panic c) (a.put o.dst v) w → Q (.panic c) a w)
    (hv : ∀ w, SB w → (execOp a.eval o).run P w = .ok (.value v) w) (h : wpOrd2 P l.toArray Q eff cls (two ZA ZB) (two SA SB) lv r (a.put o.dst v) w) : wpOrd2 P l.toArray Q eff cls (two ZA ZB) (two SA SB) lv (i :: r) a w := by
  simp only [wpOrd2, he, hc]
  exact ⟨o, v, op_of_drop ho, Or.inl ⟨by simp [Region.wanted, hg], hv⟩, hQ, h⟩
/-- An effect. -/
theorem wpOrd2_eff (he : eff.contains i = true) (ho : l.drop i = o :: ro)
    (h : ∀ K : Act → World → Prop, (∀ a w, ((lv false && !ZA.contains i) = true → SA w) → ((lv true && !ZB.contains i) = true → SB w) → wpOrd2 P l.toArray Q eff cls (two ZA ZB) (two SA SB) (lvOf (two ZA ZB) lv i) r a w → K a w) →
      if Region.wanted o (yielded l.toArray a.tmps) = true then o.wp P a w K Q else K (a.put o.dst undef) w) : wpOrd2 P l.toArray Q eff cls (two ZA ZB) (two SA SB) lv (i :: r) a w := by
  simp only [wpOrd2, he, if_true]
  exact wpOp_step (op_of_drop ho) (fun K' hK => h K' (fun a w hA hB hW => hK a w ⟨fun c hc => by cases c; exact hA hc; exact hB hc, hW⟩))
end
end
end Go.Proofs.YtbhmapcjcnceiaaGreatDoor
