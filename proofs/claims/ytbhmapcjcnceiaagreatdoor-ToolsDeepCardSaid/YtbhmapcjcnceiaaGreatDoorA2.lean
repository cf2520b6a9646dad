/- A region that draws its order, walked in ONE order: its loads and reckonings are taken as soon as they may come up, its other operations follow one another. What the loads read is as S says till an operation of Z (the last stores), which waits for them all. -/
import Derived.OrdersHeld
import Derived.KernelRfl
import Derived.Tactics
import Derived.RegionTactic
import Derived.Test.YtbhmapcjcnceiaaGreatDoorA0
namespace Go.Proofs.YtbhmapcjcnceiaaGreatDoor
open Go Go.RowKit
section
variable {P : Program} {ops : Array Oper} {Q : Exit → Act → World → Prop} {md : Region.Mode} {S : World → Prop}

/-- Whatever order is picked from here on; S holds behind every operation that is carried out, but for those of Z. -/
def wpAnyZ (P : Program) (md : Region.Mode) (ops : Array Oper) (Q : Exit → Act → World → Prop) (Z : List Nat) (S : World → Prop) : Nat → Array Bool → Act → World → Prop
  | 0, listed, a, w => Region.ready md ops listed = [] ∧ Q .normal a w
  | fuel + 1, listed, a, w =>
    (Region.ready md ops listed = [] → Q .normal a w) ∧
    ∀ i ∈ Region.ready md ops listed, wpOp P ops Q i (fun a' w' => (Z.contains i = false → S w') ∧ wpAnyZ P md ops Q Z S fuel (listed.setIfInBounds i true) a' w') a w

theorem wpAny_of_Z {Z : List Nat} : ∀ (fuel : Nat) (listed : Array Bool) (a : Act) (w : World), wpAnyZ P md ops Q Z S fuel listed a w → wpAny P md ops Q fuel listed a w
  | 0, _, _, _, h => h
  | fuel + 1, _, _, _, h => ⟨h.1, fun i hi => wpOp_mono (fun a' w' h' => wpAny_of_Z fuel _ a' w' h'.2) (h.2 i hi)⟩

/-- Does operation z wait for operation i outright? -/
def waits (md : Region.Mode) (ops : Array Oper) (z i : Nat) : Bool := ((ops[z]?).map fun o => o.after.any fun e => Region.binds md e && e.on == i).getD false

theorem wpAnyZ_first {Z : List Nat} {i : Nat} {oi : Oper} {v : Value} (hi : ops[i]? = some oi) (hsel : ∀ (j : Nat) (o : Oper) cs b, ops[j]? = some o → o.op ≠ .select cs b)
    (hQ : ∀ c a w, Q (.panic c) (a.put oi.dst v) w → Q (.panic c) a w) (hZ : ∀ z ∈ Z, waits md ops z i = true) :
    ∀ (fuel : Nat) (listed : Array Bool) (a : Act) (w : World),
      (∀ j oj, ops[j]? = some oj → j ≠ i → listed.getD j true = false → (∀ e ∈ oj.after, Region.binds md e = true → e.on ≠ i) → oi.apart ops oj = true) →
      i ∈ Region.ready md ops listed → YieldsIf P ops S oi v a → S w →
      wpAnyZ P md ops Q Z S fuel (listed.setIfInBounds i true) (a.put oi.dst v) w → wpAnyZ P md ops Q Z S (fuel + 1) listed a w := by
  intro fuel
  induction fuel with
  | zero =>
    intro listed a w _ hr hy hS H
    refine ⟨fun h => (by rw [h] at hr; cases hr), fun j hj => ?_⟩
    by_cases hji : j = i
    · subst hji; exact hy.wpOp hi hS ⟨fun _ => hS, H⟩
    · have := ready_mono hj hji
      rw [H.1] at this
      cases this
  | succ fuel ih =>
    intro listed a w hfree hr hy hS H
    refine ⟨fun h => (by rw [h] at hr; cases hr), fun j hj => ?_⟩
    by_cases hji : j = i
    · subst hji; exact hy.wpOp hi hS ⟨fun _ => hS, H⟩
    · have h1 := H.2 j (ready_mono hj hji)
      obtain ⟨hjun, oj, hoj, hall⟩ := mem_ready.1 hj
      have hnot : ∀ e ∈ oj.after, Region.binds md e = true → e.on ≠ i := fun e he hb heq => by
        have h1 := hall e he hb
        have h0 := (mem_ready.1 hr).1
        rw [heq] at h1
        rcases Nat.lt_or_ge i listed.size with h' | h'
        · simp [h'] at h0 h1; rw [h0] at h1; cases h1
        · simp [Array.getElem?_eq_none h'] at h1
      have hjZ : Z.contains j = false := by
        cases hc : Z.contains j with
        | false => rfl
        | true =>
          have := hZ j (by simpa using hc)
          simp only [waits, hoj, Option.map_some, Option.getD_some, Array.any_eq_true', Bool.and_eq_true, beq_iff_eq] at this
          obtain ⟨e, he, hb, hon⟩ := this
          exact absurd hon (hnot e he hb)
      have h2 := wpOp_putIf hoj (hfree j oj hoj hji hjun hnot) (fun cs b => hsel i oi cs b hi) (fun cs b => hsel j oj cs b hoj) hQ hy h1
      have hfree' : ∀ k ok, ops[k]? = some ok → k ≠ i → (listed.setIfInBounds j true).getD k true = false →
          (∀ e ∈ ok.after, Region.binds md e = true → e.on ≠ i) → oi.apart ops ok = true := fun k ok hk hki hun hno => by
        refine hfree k ok hk hki ?_ hno
        by_cases hjk : j = k
        · subst hjk; exact hjun
        · rw [getD_set_ne true hjk] at hun; exact hun
      refine wpOp_mono (fun a' w' h3 => ⟨fun _ => h3.2.1 hjZ, ih (listed.setIfInBounds j true) a' w' hfree' (ready_mono hr (Ne.symm hji)) h3.1 (h3.2.1 hjZ) ?_⟩) h2
      rw [Array.setIfInBounds_comm _ _ hji]
      exact h3.2.2

/-- The order 'ord' can be walked: each operation that is no effect may be taken as soon as its turn has come, each effect is then the only one that may come up; behind an operation of Z nothing is taken. -/
def ordOK (md : Region.Mode) (ops : Array Oper) (eff Z : List Nat) : List Nat → Bool → Array Bool → Bool
  | [], _, listed => (Region.ready md ops listed).isEmpty
  | i :: r, live, listed =>
    if eff.contains i then decide (Region.ready md ops listed = [i]) && ordOK md ops eff Z r (live && !Z.contains i) (listed.setIfInBounds i true)
    else live && (Region.ready md ops listed).contains i && Region.free md ops listed i && (Z.all fun z => waits md ops z i) && ordOK md ops eff Z r live (listed.setIfInBounds i true)

/-- The walk in that order. -/
def wpOrd (P : Program) (ops : Array Oper) (Q : Exit → Act → World → Prop) (eff Z : List Nat) (S : World → Prop) : List Nat → Act → World → Prop
  | [], a, w => Q .normal a w
  | i :: r, a, w =>
    if eff.contains i then wpOp P ops Q i (fun a' w' => (Z.contains i = false → S w') ∧ wpOrd P ops Q eff Z S r a' w') a w
    else ∃ o v, ops[i]? = some o ∧ YieldsIf P ops S o v a ∧ (∀ c a w, Q (.panic c) (a.put o.dst v) w → Q (.panic c) a w) ∧ wpOrd P ops Q eff Z S r (a.put o.dst v) w

theorem wpAnyZ_done {Z : List Nat} {listed : Array Bool} {a : Act} {w : World} (hr : Region.ready md ops listed = []) (h : Q .normal a w) : ∀ fuel, wpAnyZ P md ops Q Z S fuel listed a w
  | 0 => ⟨hr, h⟩
  | _ + 1 => ⟨fun _ => h, by rw [hr]; simp⟩

theorem wpAnyZ_of_ord {eff Z : List Nat} (hsel : Region.noSelect ops = true) : ∀ (ord : List Nat) (live : Bool) (fuel : Nat) (listed : Array Bool) (a : Act) (w : World), ord.length ≤ fuel →
    ordOK md ops eff Z ord live listed = true → (live = true → S w) → wpOrd P ops Q eff Z S ord a w → wpAnyZ P md ops Q Z S fuel listed a w
  | [], _, fuel, listed, a, w, _, hok, _, h => wpAnyZ_done (by simpa [ordOK] using hok) h fuel
  | i :: r, live, 0, _, _, _, hf, _, _, _ => by simp at hf
  | i :: r, live, fuel + 1, listed, a, w, hf, hok, hS, h => by
    simp only [ordOK] at hok
    simp only [wpOrd] at h
    by_cases he : eff.contains i = true
    · rw [if_pos he] at hok h
      simp only [Bool.and_eq_true, decide_eq_true_eq] at hok
      refine ⟨fun h0 => (by rw [hok.1] at h0; cases h0), fun j hj => ?_⟩
      rw [hok.1] at hj
      obtain rfl : j = i := by simpa using hj
      refine wpOp_mono (fun a' w' h' => ⟨h'.1, ?_⟩) h
      exact wpAnyZ_of_ord hsel r _ fuel _ a' w' (by simpa using hf) hok.2 (fun hl => h'.1 (by simp only [Bool.and_eq_true, Bool.not_eq_true'] at hl; exact hl.2)) h'.2
    · rw [if_neg he] at hok h
      simp only [Bool.and_eq_true, List.all_eq_true] at hok
      obtain ⟨⟨⟨⟨hl, hr⟩, hfr⟩, hz⟩, hrest⟩ := hok
      obtain ⟨o, v, ho, hy, hQ, hw⟩ := h
      exact wpAnyZ_first ho (Region.noSelect_spec hsel) hQ hz fuel listed a w (Region.free_spec ho hfr) (by simpa using hr) hy (hS hl)
        (wpAnyZ_of_ord hsel r live fuel _ _ w (by simpa using hf) hrest hS hw)

/-- The beginning. -/
theorem wp_region_ord {id : Nat} {l : List Oper} {a : Act} {w : World} (ord eff Z : List Nat) (S : World → Prop) (hm : P.follows .mixedOrders = true)
    (hok : (Region.noSelect l.toArray && decide (ord.length ≤ l.toArray.size) && ordOK .any l.toArray eff Z ord true (Array.replicate l.toArray.size false)) = true)
    (hS : S w.drew) (h : wpOrd P l.toArray Q eff Z S ord a w.drew) : (Code.region id l.toArray true).wp P Q a w := by
  simp only [Bool.and_eq_true, decide_eq_true_eq] at hok
  exact wp_region_any hm (wpAny_of_Z _ _ _ _ (wpAnyZ_of_ord hok.1.1 ord true _ _ a w.drew hok.1.2 hok.2 (fun _ => hS) h))

theorem op_of_drop {l : List Oper} {i : Nat} {o : Oper} {r : List Oper} (h : l.drop i = o :: r) : l.toArray[i]? = some o := by
  have : (l.drop i)[0]? = some o := by rw [h]; rfl
  rw [List.getElem?_drop] at this
  simpa using this
section
variable {eff Z : List Nat} {i : Nat} {o : Oper} {l ro : List Oper} {r : List Nat} {a : Act} {w : World}
theorem wpOrd_nil (h : Q .normal a w) : wpOrd P ops Q eff Z S [] a w := h
/-- An operation that is taken: it yields v in every world of S. -/
theorem wpOrd_take {v : Value} (he : eff.contains i = false) (ho : l.drop i = o :: ro) (hg : o.guard = none) (hQ : ∀ c a w, Q (.panic c) (a.put o.dst v) w → Q (.panic c) a w)
    (hv : ∀ w, S w → (execOp a.eval o).run P w = .ok (.value v) w) (h : wpOrd P l.toArray Q eff Z S r (a.put o.dst v) w) : wpOrd P l.toArray Q eff Z S (i :: r) a w := by
  simp only [wpOrd, he]
  exact ⟨o, v, op_of_drop ho, Or.inl ⟨by simp [Region.wanted, hg], hv⟩, hQ, h⟩
theorem wpOrd_takeg {v : Value} (he : eff.contains i = false) (ho : l.drop i = o :: ro) (hg : Region.wanted o (yielded l.toArray a.tmps) = true) (hQ : ∀ c a w, Q (.panic c) (a.put o.dst v) w → Q (.panic c) a w)
    (hv : ∀ w, S w → (execOp a.eval o).run P w = .ok (.value v) w) (h : wpOrd P l.toArray Q eff Z S r (a.put o.dst v) w) : wpOrd P l.toArray Q eff Z S (i :: r) a w := by
  simp only [wpOrd, he]
  exact ⟨o, v, op_of_drop ho, Or.inl ⟨hg, hv⟩, hQ, h⟩
theorem wpOrd_skip (he : eff.contains i = false) (ho : l.drop i = o :: ro) (hg : Region.wanted o (yielded l.toArray a.tmps) = false) (hQ : ∀ c a w, Q (.panic c) (a.put o.dst undef) w → Q (.panic c) a w)
    (h : wpOrd P l.toArray Q eff Z S r (a.put o.dst undef) w) : wpOrd P l.toArray Q eff Z S (i :: r) a w := by
  simp only [wpOrd, he]
  exact ⟨o, undef, op_of_drop ho, Or.inr ⟨hg, rfl⟩, hQ, h⟩
/-- An effect: whatever follows stands behind K. -/
theorem wpOrd_eff (he : eff.contains i = true) (ho : l.drop i = o :: ro)
    (h : ∀ K : Act → World → Prop, (∀ a w, (Z.contains i = false → S w) → wpOrd P l.toArray Q eff Z S r a w → K a w) →
      if Region.wanted o (yielded l.toArray a.tmps) = true then o.wp P a w K Q else K (a.put o.dst undef) w) : wpOrd P l.toArray Q eff Z S (i :: r) a w := by
  simp only [wpOrd, he, if_true]
  exact wpOp_step (op_of_drop ho) (fun K' hK => h K' (fun a w hS hW => hK a w ⟨hS, hW⟩))
end
end
end Go.Proofs.YtbhmapcjcnceiaaGreatDoor
