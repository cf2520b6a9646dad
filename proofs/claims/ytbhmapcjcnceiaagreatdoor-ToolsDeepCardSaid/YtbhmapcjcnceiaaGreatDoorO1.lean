/- The law ToolsDeep, plain: what its commands make of a chain of directories. -/
import Derived.Test.YtbhmapcjcnceiaaGreatDoorN1
import Derived.Test.YtbhmapcjcnceiaaGreatDoorF8
import Derived.Test.YtbhmapcjcnceiaaGreatDoorM3
namespace Go.Proofs.YtbhmapcjcnceiaaGreatDoor
open Go Go.RowKit

theorem chain_congr {ls ls' : List (List UInt8)} {nd nd' : Nat → Cn} {j : Nat} (h : ∀ i, i < j → ls.take (i + 1) = ls'.take (i + 1) ∧ nd i = nd' i) : chain ls nd j = chain ls' nd' j := by
  unfold chain pa
  apply List.map_congr_left
  intro i hi
  have := h i (List.mem_range.1 hi)
  rw [this.1, this.2]

/-- The i-th directory that mkdir -p makes. -/
def dn (i : Nat) : Cn := ⟨true, none, 0, [], (i : Int) + 1⟩
section
variable {ls : List (List UInt8)} (hok : ∀ x ∈ ls, OkName x) (hl : ls.length ≤ 8)
include hok hl
theorem fskind_dn {j : Nat} (hj : j ≤ ls.length) {i : Nat} (hi : i < ls.length) (hij : i ≤ j) : fsKind (chain ls dn j) (pa ls (i + 1)) = if i < j then 2 else 0 := by
  unfold fsKind
  rw [fsabs_chain hok (by omega) hj hi hij (fun _ _ => rfl)]
  simp only [ne_eq, not_true, if_false]
  rw [kind_chain hok hj hi]
  rfl
theorem above_new (m : Nat) (hm : ls.length = m) : ∀ d i, i + d = m → aboveL 30 100 0 ((List.range d).map fun j => pathL (ls.take (i + j + 1))) (chain ls dn i) (i : Nat) = (chain ls dn m, ((m : Nat) : Int), 0)
  | 0, i, h => by
    obtain rfl : i = m := by omega
    rfl
  | d + 1, i, h => by
    have ih := above_new m hm d (i + 1) (by omega)
    have hk := fskind_dn hok hl (j := i) (by omega) (i := i) (by omega) (Nat.le_refl _)
    rw [if_neg (by omega)] at hk
    have ha := fsabs_chain hok (nd := dn) (by omega) (j := i) (by omega) (i := i) (by omega) (Nat.le_refl _) (fun _ _ => rfl)
    have hmk : mkErr 30 100 0 (chain ls dn i) (pa ls (i + 1)) = 0 := by
      unfold mkErr
      rw [ha]
      simp only [ne_eq, not_true, if_false]
      unfold fsKind at hk
      rw [ha] at hk
      simp only [ne_eq, not_true, if_false] at hk
      rw [hk, if_neg (by decide), if_pos]
      unfold roomOf
      rw [chain_len]
      simp
      omega
    rw [List.range_succ_eq_map, List.map_cons, List.map_map]
    show aboveL 30 100 0 (pathL (ls.take (i + 1)) :: _) _ _ = _
    rw [aboveL]
    rw [show B (pathL (ls.take (i + 1))) = pa ls (i + 1) from rfl, if_neg (by rw [hk]; decide), if_neg (by rw [hmk]; decide), ha]
    have hp : put (pa ls (i + 1)) (dn i) (chain ls dn i) = chain ls dn (i + 1) := put_chain hok (by omega)
    have e1 : (⟨true, none, 0, [], (i : Int) + 1⟩ : Cn) = dn i := rfl
    simp only [e1]
    rw [hp]
    have e2 : ((fun j => pathL (ls.take (i + j + 1))) ∘ Nat.succ) = fun j => pathL (ls.take (i + 1 + j + 1)) := by
      funext j
      show pathL (ls.take (i + (j + 1) + 1)) = _
      rw [show i + (j + 1) + 1 = i + 1 + j + 1 by omega]
    rw [e2]
    have e3 : ((i : Int) + 1) = ((i + 1 : Nat) : Int) := by omega
    rw [e3]
    exact ih
theorem above_old (m : Nat) (hm : ls.length = m) : ∀ d i, i + d = m → ∀ k, aboveL 30 100 0 ((List.range d).map fun j => pathL (ls.take (i + j + 1))) (chain ls dn m) k = (chain ls dn m, k, 0)
  | 0, i, h, k => rfl
  | d + 1, i, h, k => by
    have ih := above_old m hm d (i + 1) (by omega) k
    have hk := fskind_dn hok hl (j := m) (by omega) (i := i) (by omega) (by omega)
    rw [if_pos (by omega)] at hk
    rw [List.range_succ_eq_map, List.map_cons, List.map_map]
    show aboveL 30 100 0 (pathL (ls.take (i + 1)) :: _) _ _ = _
    rw [aboveL]
    rw [show B (pathL (ls.take (i + 1))) = pa ls (i + 1) from rfl, if_pos (by rw [hk]; decide)]
    have e2 : ((fun j => pathL (ls.take (i + j + 1))) ∘ Nat.succ) = fun j => pathL (ls.take (i + 1 + j + 1)) := by
      funext j
      show pathL (ls.take (i + (j + 1) + 1)) = _
      rw [show i + (j + 1) + 1 = i + 1 + j + 1 by omega]
    rw [e2]
    exact ih
omit hl in
theorem ways_pa (m : Nat) (hm : ls.length = m + 1) : waysL [] (pa ls (m + 1)).data.toList = (List.range m).map fun j => pathL (ls.take (0 + j + 1)) := by
  obtain ⟨x, r, rfl⟩ : ∃ x r, ls = x :: r := by
    cases ls with
    | nil => simp at hm
    | cons x r => exact ⟨x, r, rfl⟩
  unfold pa
  rw [B_data, List.take_of_length_le (by omega), waysL_all x r hok]
  have : r.length = m := by simpa using hm
  rw [this]
  apply List.map_congr_left
  intro j _
  rw [Nat.zero_add]
omit hl in
theorem ways_all (m : Nat) (hm : ls.length = m + 1) : waysL [] (pa ls (m + 1)).data.toList ++ [(pa ls (m + 1)).data.toList] = (List.range (m + 1)).map fun j => pathL (ls.take (0 + j + 1)) := by
  rw [ways_pa hok m hm, List.range_succ, List.map_append, List.map_singleton, Nat.zero_add]
  unfold pa
  rw [B_data]
theorem mk_again (m : Nat) (hm : ls.length = m + 1) (k : Int) : mkOne 30 100 0 (chain ls dn (m + 1)) k (pa ls (m + 1)) = (chain ls dn (m + 1), k, 12) := by
  have ha := fsabs_chain hok (nd := dn) (by omega) (j := m + 1) (by omega) (i := m) (by omega) (by omega) (fun _ _ => rfl)
  have hk := fskind_dn hok hl (j := m + 1) (by omega) (i := m) (by omega) (by omega)
  rw [if_pos (by omega)] at hk
  have hmk : mkErr 30 100 0 (chain ls dn (m + 1)) (pa ls (m + 1)) = 12 := by
    unfold mkErr
    unfold fsKind at hk
    rw [ha] at hk ⊢
    simp only [ne_eq, not_true, if_false] at hk ⊢
    rw [hk, if_pos (by decide)]
  unfold mkOne
  rw [if_neg (by rw [hmk]; decide), hmk]
end

/-- The names with the file's behind them; the nodes with the file's. -/
def lsx (ls : List (List UInt8)) : List (List UInt8) := ls ++ [[120]]
def ndx (m : Nat) (f : Cn) (i : Nat) : Cn := if i < m then dn i else f
theorem okx {ls : List (List UInt8)} (hok : ∀ x ∈ ls, OkName x) : ∀ x ∈ lsx ls, OkName x := by
  intro x hx
  rcases List.mem_append.1 hx with h | h
  · exact hok x h
  · obtain rfl : x = [120] := by simpa using h
    exact ⟨by decide, by decide, by decide, by decide, by decide⟩
theorem lsx_len (ls : List (List UInt8)) : (lsx ls).length = ls.length + 1 := by simp [lsx]
theorem pa_lsx {ls : List (List UInt8)} {i : Nat} (h : i ≤ ls.length) : pa (lsx ls) i = pa ls i := by
  unfold pa lsx
  rw [List.take_append_of_le_length h]
theorem pa_file {ls : List (List UInt8)} : pa (lsx ls) (ls.length + 1) = pa ls ls.length ++ ⟨#[47, 120]⟩ := by
  unfold pa lsx
  rw [List.take_of_length_le (by simp), List.take_of_length_le (Nat.le_refl _), pathL_append]
  apply ByteArray.ext
  apply Array.ext'
  rw [ByteArray.data_append, Array.toList_append, B_data, B_data]
  rfl
section
variable {ls : List (List UInt8)} (hok : ∀ x ∈ ls, OkName x) (hl : ls.length ≤ 8)
include hok hl
theorem write_chain (m : Nat) (hm : ls.length = m) : wrErr 30 100 0 (chain ls dn m) (pa (lsx ls) (m + 1)) [121] false = 0 ∧ wrGrow (chain ls dn m) (fsAbs (chain ls dn m) (pa (lsx ls) (m + 1))).1 [121] false = 1 ∧
    ∀ f : Cn, put (fsAbs (chain ls dn m) (pa (lsx ls) (m + 1))).1 f (chain ls dn m) = chain (lsx ls) (ndx m f) (m + 1) := by
  have hx := okx hok
  have hxl := lsx_len ls
  have hc : ∀ f, chain ls dn m = chain (lsx ls) (ndx m f) m := fun f => chain_congr (fun i hi => by
    refine ⟨?_, by unfold ndx; rw [if_pos hi]⟩
    unfold lsx
    rw [List.take_append_of_le_length (by omega)])
  have hd : ∀ f k, k < m → (ndx m f k).dir = true := fun f k hk => by unfold ndx; rw [if_pos hk]; rfl
  have ha : ∀ f, fsAbs (chain ls dn m) (pa (lsx ls) (m + 1)) = (pa (lsx ls) (m + 1), 0) := fun f => by
    rw [hc f]
    exact fsabs_chain hx (by omega) (by omega) (by omega) (Nat.le_refl _) (hd f)
  have hk : kindOf (chain ls dn m) (pa (lsx ls) (m + 1)) = 0 := by
    rw [hc (dn 0), kind_chain hx (by omega) (by omega), if_neg (by omega)]
  have hlk : look (pa (lsx ls) (m + 1)) (chain ls dn m) = none := by
    rw [hc (dn 0), look_chain hx (by omega) (by omega), if_neg (by omega)]
  have hg : wrGrow (chain ls dn m) (pa (lsx ls) (m + 1)) [121] false = 1 := by
    unfold wrGrow dataOf
    rw [hlk]
    simp
  refine ⟨?_, ?_, fun f => ?_⟩
  · unfold wrErr
    rw [ha (dn 0)]
    simp only [ne_eq, not_true, if_false]
    rw [hk, hg, if_neg (by decide), if_pos]
    unfold roomOf
    rw [chain_len]
    simp
    omega
  · rw [ha (dn 0)]; exact hg
  · rw [ha f]
    simp only
    rw [hc f]
    have := put_chain hx (nd := ndx m f) (j := m) (by omega)
    rw [show ndx m f m = f by unfold ndx; rw [if_neg (by omega)]] at this
    exact this
omit hok hl in
theorem ndx_dirs (m : Nat) (f : Cn) : ∀ k, k < m → (ndx m f k).dir = true ∧ (ndx m f k).data = [] := fun k hk => by unfold ndx; rw [if_pos hk]; exact ⟨rfl, rfl⟩
omit hok hl in
theorem ndx_file (m : Nat) (f : Cn) : ndx m f m = f := by unfold ndx; rw [if_neg (by omega)]
/-- rm of a directory with something in it. -/
theorem rm_full (m : Nat) (hm : ls.length = m) (f : Cn) {i : Nat} (hi : i < m) (u k : Int) : rmOne (chain (lsx ls) (ndx m f) (m + 1)) u k (pa ls (i + 1)) = (chain (lsx ls) (ndx m f) (m + 1), u, k, 14) := by
  have hx := okx hok
  have hxl := lsx_len ls
  rw [← pa_lsx (ls := ls) (by omega)]
  have hf := fsfound_chain hx (nd := ndx m f) (by omega) (j := m + 1) (by omega) (i := i) (by omega) (by omega) (fun k hk => (ndx_dirs m f k (by omega)).1)
  rw [if_pos (by omega)] at hf
  have he : rmErr (chain (lsx ls) (ndx m f) (m + 1)) (pa (lsx ls) (i + 1)) = 14 := by
    unfold rmErr
    rw [hf]
    simp only [ne_eq, not_true, if_false]
    rw [if_neg (pa_ne hx (by omega)), below_chain hx (by omega) (by omega), if_pos]
    intro h
    have := congrArg List.length h
    rw [List.length_map, List.length_range, List.length_nil] at this
    omega
  unfold rmOne
  rw [if_neg (by rw [he]; decide), he]
/-- rm of what is not there. -/
theorem rm_gone (m : Nat) (hm : ls.length = m) (f : Cn) {i : Nat} (hi : i < m) (u k : Int) : rmOne (chain (lsx ls) (ndx m f) i) u k (pa ls (i + 1)) = (chain (lsx ls) (ndx m f) i, u, k, 6) ∧ fsKind (chain (lsx ls) (ndx m f) i) (pa ls (i + 1)) ≠ 2 := by
  have hx := okx hok
  have hxl := lsx_len ls
  rw [← pa_lsx (ls := ls) (by omega)]
  have hf := fsfound_chain hx (nd := ndx m f) (by omega) (j := i) (by omega) (i := i) (by omega) (by omega) (fun k hk => (ndx_dirs m f k (by omega)).1)
  rw [if_neg (by omega)] at hf
  have ha := fsabs_chain hx (nd := ndx m f) (by omega) (j := i) (by omega) (i := i) (by omega) (by omega) (fun k hk => (ndx_dirs m f k (by omega)).1)
  have hk := kind_chain hx (nd := ndx m f) (j := i) (by omega) (i := i) (by omega)
  rw [if_neg (by omega)] at hk
  have he : rmErr (chain (lsx ls) (ndx m f) i) (pa (lsx ls) (i + 1)) = 6 := by
    unfold rmErr
    rw [hf]
    simp
  refine ⟨?_, ?_⟩
  · unfold rmOne
    rw [if_neg (by rw [he]; decide), he]
  · unfold fsKind
    rw [ha]
    simp only [ne_eq, not_true, if_false]
    rw [hk]
    decide
end
end Go.Proofs.YtbhmapcjcnceiaaGreatDoor
