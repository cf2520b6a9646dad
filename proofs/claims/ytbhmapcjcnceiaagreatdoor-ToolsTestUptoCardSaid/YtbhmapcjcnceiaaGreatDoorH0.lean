/- The plain law of ToolsCat: what its tree holds, and what cat tells of it. -/
import Derived.Test.YtbhmapcjcnceiaaGreatDoorG4
import Derived.Test.YtbhmapcjcnceiaaGreatDoorE0
namespace Go.Proofs.YtbhmapcjcnceiaaGreatDoor
open Go Go.RowKit

section
variable {α : Type}
theorem look_put_same (k : ByteArray) (v : α) : ∀ t : List (ByteArray × α), look k (put k v t) = some v
  | [] => by simp [put, look]
  | p :: r => by
    simp only [put]
    split
    · simp [look]
    · rename_i h
      simp only [look, h, if_false]
      exact look_put_same k v r
theorem look_put_ne {k k' : ByteArray} (h : k' ≠ k) (v : α) : ∀ t : List (ByteArray × α), look k' (put k v t) = look k' t
  | [] => by simp [put, look, h]
  | p :: r => by
    simp only [put]
    split
    · rename_i e
      simp only [look, h, if_false]
      rw [← e, if_neg h]
    · simp only [look]
      rw [look_put_ne h v r]
theorem put_length (k : ByteArray) (v : α) : ∀ t : List (ByteArray × α), (put k v t).length ≤ t.length + 1
  | [] => by simp [put]
  | p :: r => by
    simp only [put]
    split
    · simp
    · have := put_length k v r
      simp only [List.length_cons]
      omega
end

/-- The i-th file's name, its path, and what is told where it is gone. -/
def nm (i : Nat) : ByteArray := ⟨#[102, UInt8.ofNat (48 + i)]⟩
def pth (i : Nat) : ByteArray := ⟨#[47, 102, UInt8.ofNat (48 + i)]⟩
def lg (i : Nat) : List UInt8 := [99, 97, 116, 58, 32, 102, UInt8.ofNat (48 + i), 58, 32, 101, 114, 114, 111, 114, 32, 54, 10]
def root : ByteArray := ⟨#[47]⟩
def catN : ByteArray := ⟨#[99, 97, 116]⟩
def dash : ByteArray := ⟨#[45]⟩
theorem dig_inj {i j : Nat} (hi : i < 10) (hj : j < 10) (h : UInt8.ofNat (48 + i) = UInt8.ofNat (48 + j)) : i = j := by
  have := congrArg UInt8.toNat h
  rw [dig_toNat i hi, dig_toNat j hj] at this
  omega
theorem pth_inj {i j : Nat} (hi : i < 10) (hj : j < 10) (h : pth i = pth j) : i = j := by
  have := congrArg (fun b : ByteArray => b.data.toList) h
  simp only [pth, List.cons.injEq, and_true, true_and] at this
  exact dig_inj hi hj this
theorem pth_abs (i : Nat) (h : i < 10) : absOf root (pth i) = (pth i, 0) := (abs_f i h).1
theorem nm_abs (i : Nat) (h : i < 10) : absOf root (nm i) = (pth i, 0) := (abs_f i h).2
theorem dig_ne (i : Nat) (h : i < 10) : UInt8.ofNat (48 + i) ≠ 47 := fun e => by
  have := congrArg UInt8.toNat e
  rw [dig_toNat i h] at this
  simp at this
  omega
theorem pth_way (t : Tree) (i : Nat) (h : i < 10) : wayOf t (pth i) = 0 := way_f t _ (dig_ne i h)
theorem pth_fsabs (t : Tree) (i : Nat) (h : i < 10) : fsAbs t (pth i) = (pth i, 0) := by
  unfold fsAbs
  have h1 : absOf ⟨#[47]⟩ (pth i) = (pth i, 0) := pth_abs i h
  rw [h1]
  simp [pth_way t i h]
theorem pth_ne (i : Nat) : (pth i).data.toList ≠ [47] := by simp [pth]
theorem pth_kind (t : Tree) (i : Nat) : kindOf t (pth i) = match look (pth i) t with | some n => if n.dir = true then 2 else 1 | none => 0 := by
  unfold kindOf
  rw [if_neg (pth_ne i)]
  cases look (pth i) t <;> rfl

variable (L : List (List UInt8)) (G : List Bool)
/-- Is the i-th one there? -/
def isIn (i : Nat) : Bool := !(G[i]?.getD false)
def wantOf : Nat → List UInt8
  | 0 => []
  | k + 1 => if isIn G k = true then wantOf k ++ (L[k]?).getD [] else wantOf k
def logOf : Nat → List UInt8
  | 0 => []
  | k + 1 => if isIn G k = true then logOf k else logOf k ++ lg k
structure CatTree (k : Nat) (t : Tree) : Prop where
  len : t.length ≤ k
  data : ∀ x ∈ t, x.2.data.length ≤ 200
  look : ∀ i, i < 10 → (look (pth i) t).map (fun n => (n.dir, n.data)) = if i < k ∧ isIn G i = true then some (false, (L[i]?).getD []) else none
theorem CatTree.nil : CatTree L G 0 [] := ⟨Nat.le_refl _, (by simp), fun i _ => by simp [Go.Proofs.YtbhmapcjcnceiaaGreatDoor.look]⟩
variable {L G}
theorem CatTree.gone {k : Nat} {t : Tree} (h : CatTree L G k t) (hg : isIn G k = false) : CatTree L G (k + 1) t :=
  ⟨Nat.le_succ_of_le h.len, h.data, fun i hi => by
    rw [h.look i hi]
    by_cases e : i = k
    · subst e; simp [hg]
    · by_cases hlt : i < k
      · simp [hlt, Nat.lt_succ_of_lt hlt]
      · have : ¬ i < k + 1 := by omega
        simp [hlt, this]⟩
theorem CatTree.in {k : Nat} {t : Tree} (h : CatTree L G k t) (hk : k < 10) (hg : isIn G k = true) (oa : Option Addr) (c : Nat) (x : Int) (hl : ((L[k]?).getD []).length ≤ 200) : CatTree L G (k + 1) (put (pth k) ⟨false, oa, c, (L[k]?).getD [], x⟩ t) :=
  ⟨Nat.le_trans (put_length _ _ _) (Nat.succ_le_succ h.len), put_rows h.data (fun _ => hl), fun i hi => by
    by_cases e : i = k
    · subst e
      rw [look_put_same]
      simp [hg]
    · rw [look_put_ne (fun hp => e (pth_inj hi hk hp)), h.look i hi]
      by_cases hlt : i < k
      · simp [hlt, Nat.lt_succ_of_lt hlt]
      · have : ¬ i < k + 1 := by omega
        simp [hlt, this]⟩
theorem CatTree.none {k : Nat} {t : Tree} (h : CatTree L G k t) (hk : k < 10) : Go.Proofs.YtbhmapcjcnceiaaGreatDoor.look (pth k) t = none := by
  have := h.look k hk
  simpa using this
theorem CatTree.dataOf {k : Nat} {t : Tree} (h : CatTree L G k t) (q : ByteArray) : (dataOf t q).length ≤ 200 := by
  unfold Go.Proofs.YtbhmapcjcnceiaaGreatDoor.dataOf
  cases hl : Go.Proofs.YtbhmapcjcnceiaaGreatDoor.look q t with
  | none => simp
  | some n => simpa using h.data _ (look_mem hl)
/-- Writing the next file succeeds. -/
theorem cat_write {k : Nat} {t : Tree} (h : CatTree L G k t) (hk : k < 10) (used : Int) (hu : used ≤ 200 * k) (b : List UInt8) (hb : b.length ≤ 200) : wrErr 20 5000 used t (pth k) b false = 0 ∧ wrGrow t (fsAbs t (pth k)).1 b false = b.length := by
  have hn := h.none hk
  have hkd : kindOf t (pth k) = 0 := by rw [pth_kind, hn]
  have hd : dataOf t (pth k) = [] := by unfold dataOf; rw [hn]; rfl
  have hg : wrGrow t (pth k) b false = b.length := by unfold wrGrow; rw [hd]; simp
  have hlen := h.len
  unfold wrErr
  rw [pth_fsabs t k hk]
  simp only [hkd, hg]
  refine ⟨?_, trivial⟩
  simp [roomOf]
  omega
/-- What a file reads. -/
theorem cat_read {n : Nat} {t : Tree} (h : CatTree L G n t) {i : Nat} (hi : i < n) (hn : n ≤ 10) : fsRead t (pth i) = if isIn G i = true then ((L[i]?).getD [], 0) else ([], 6) := by
  have hi10 : i < 10 := by omega
  have hl := h.look i hi10
  have hk := pth_kind t i
  unfold fsRead fsFound
  rw [pth_fsabs t i hi10]
  by_cases hg : isIn G i = true
  · rw [if_pos ⟨hi, hg⟩] at hl
    obtain ⟨nd, h1, h2⟩ := Option.map_eq_some_iff.1 hl
    simp only [Prod.mk.injEq] at h2
    rw [h1] at hk
    simp only [h2.1, Bool.false_eq_true, if_false] at hk
    simp [hk, h1, h2.2, hg]
  · rw [if_neg (fun e => hg e.2)] at hl
    rw [Option.map_eq_none_iff.1 hl] at hk
    simp only at hk
    simp [hk, hg]
theorem lg_eq (i : Nat) : complaint catN (nm i) 6 = lg i := by
  unfold complaint
  rw [Lib.decDigits, dif_pos (by decide)]
  rfl
theorem logOf_nil_or (G : List Bool) : ∀ k, (logOf G k = [] → ∀ i, i < k → isIn G i = true) 
  | 0, _, i, h => by omega
  | k + 1, h, i, hi => by
    unfold logOf at h
    split at h
    · rename_i e
      by_cases hik : i = k
      · rw [hik]; exact e
      · exact logOf_nil_or G k h i (by omega)
    · simp [lg] at h
/-- The status. -/
def stOf (l : List UInt8) : Int := if l = [] then 0 else 1
theorem cat_law {n : Nat} {t : Tree} (h : CatTree L G n t) (hn : n ≤ 10) (inn : List UInt8) : ∀ k, k ≤ n → catAt t root catN inn (0, [], []) ((List.range n).map nm ++ [dash]) k = (stOf (logOf G k), wantOf L G k, logOf G k)
  | 0, _ => rfl
  | k + 1, hk => by
    have hlen : k < ((List.range n).map nm ++ [dash]).length := by simp; omega
    rw [catAt_next hlen, cat_law h hn inn k (by omega)]
    have hg : ((List.range n).map nm ++ [dash])[k] = nm k := by
      rw [List.getElem_append_left (by simp; omega)]
      simp
    rw [hg]
    unfold catStep
    rw [if_neg (by simp [nm]), nm_abs k (by omega), cat_read h (by omega) hn]
    by_cases hi : isIn G k = true
    · simp [hi, catSt, catLog, wantOf, logOf]
    · simp [hi, catSt, catLog, wantOf, logOf, lg_eq, stOf, lg]
theorem cat_law_end {n : Nat} {t : Tree} (h : CatTree L G n t) (hn : n ≤ 10) (inn : List UInt8) : catAt t root catN inn (0, [], []) ((List.range n).map nm ++ [dash]) ((List.range n).map nm ++ [dash]).length = (stOf (logOf G n), wantOf L G n ++ inn, logOf G n) := by
  have hlen : n < ((List.range n).map nm ++ [dash]).length := by simp
  have e : ((List.range n).map nm ++ [dash]).length = n + 1 := by simp
  rw [e, catAt_next hlen, cat_law h hn inn n (Nat.le_refl _)]
  have hg : ((List.range n).map nm ++ [dash])[n] = dash := by
    rw [List.getElem_append_right (by simp)]
    simp
  rw [hg]
  rfl
theorem want_len (hL : ∀ i, i < L.length → ((L[i]?).getD []).length ≤ 200) : ∀ k, k ≤ L.length → (wantOf L G k).length ≤ 200 * k
  | 0, _ => by simp [wantOf]
  | k + 1, hk => by
    have := want_len hL k (by omega)
    have h2 := hL k (by omega)
    unfold wantOf
    split
    · rw [List.length_append]; omega
    · omega
theorem log_len (G : List Bool) : ∀ k, (logOf G k).length ≤ 17 * k
  | 0 => by simp [logOf]
  | k + 1 => by
    have := log_len G k
    unfold logOf
    split
    · omega
    · rw [List.length_append]; simp [lg]; omega
end Go.Proofs.YtbhmapcjcnceiaaGreatDoor
