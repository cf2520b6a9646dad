/- Chains of directories: their paths, what the file system tells of them, what is below. -/
import Derived.Test.YtbhmapcjcnceiaaGreatDoorK2
import Derived.Test.YtbhmapcjcnceiaaGreatDoorJ0
namespace Go.Proofs.YtbhmapcjcnceiaaGreatDoor
open Go Go.RowKit

/-! Names and paths as rows of bytes. -/
/-- A name that a path may have: not nothing, no dot ahead, no slash, no nought, short. -/
def OkName (x : List UInt8) : Prop := x ≠ [] ∧ x.length ≤ 20 ∧ x.head? ≠ some 46 ∧ 47 ∉ x ∧ 0 ∉ x
/-- The path of names. -/
def pathL (ls : List (List UInt8)) : List UInt8 := ls.flatMap fun x => 47 :: x
theorem pathL_nil : pathL [] = [] := rfl
theorem pathL_cons (x : List UInt8) (r : List (List UInt8)) : pathL (x :: r) = 47 :: (x ++ pathL r) := by simp [pathL]
theorem pathL_append (a b : List (List UInt8)) : pathL (a ++ b) = pathL a ++ pathL b := by simp [pathL]
theorem pathL_len {ls : List (List UInt8)} (h : ∀ x ∈ ls, OkName x) : (pathL ls).length ≤ 21 * ls.length := by
  induction ls with
  | nil => simp [pathL]
  | cons x r ih =>
    rw [pathL_cons]
    have h1 := ih (fun y hy => h y (List.mem_cons_of_mem _ hy))
    have h2 := (h x (by simp)).2.1
    simp only [List.length_cons, List.length_append]
    omega
theorem pathL_join : ∀ {ls : List (List UInt8)}, ls ≠ [] → pathL ls = 47 :: Lib.join ls [47]
  | [], h => absurd rfl h
  | [x], _ => by simp [pathL, Lib.join]
  | x :: y :: r, _ => by
    rw [pathL_cons, pathL_join (ls := y :: r) (by simp)]
    simp [Lib.join]
theorem pathL_inj_len {ls : List (List UInt8)} (h : ∀ x ∈ ls, OkName x) {i k : Nat} (hik : i < k) (hk : k ≤ ls.length) : (pathL (ls.take i)).length + 1 < (pathL (ls.take k)).length := by
  have e : ls.take k = ls.take i ++ (ls.drop i).take (k - i) := by
    rw [← List.take_append_drop i (ls.take k), List.take_take, List.drop_take, Nat.min_eq_left (by omega)]
  rw [e, pathL_append, List.length_append]
  obtain ⟨x, r, hx⟩ : ∃ x r, (ls.drop i).take (k - i) = x :: r := by
    cases hc : (ls.drop i).take (k - i) with
    | nil =>
      have := congrArg List.length hc
      rw [List.length_take, List.length_drop, List.length_nil] at this
      omega
    | cons x r => exact ⟨x, r, rfl⟩
  have hm : x ∈ ls := List.mem_of_mem_drop (List.mem_of_mem_take (by rw [hx]; simp))
  have h1 := (h x hm).1
  have h2 : 0 < x.length := List.length_pos_iff.2 h1
  rw [hx, pathL_cons]
  simp only [List.length_cons, List.length_append]
  omega

/-! Where the slashes of a path stand. -/
theorem slash_at : ∀ (ls : List (List UInt8)), (∀ x ∈ ls, OkName x) → ∀ k, (pathL ls)[k]? = some 47 → ∃ j, j < ls.length ∧ (pathL ls).take k = pathL (ls.take j)
  | [], _, k, h => by simp [pathL] at h
  | x :: r, hn, k, h => by
    rw [pathL_cons] at h ⊢
    cases k with
    | zero => exact ⟨0, by simp, rfl⟩
    | succ k =>
      simp only [List.getElem?_cons_succ, List.take_succ_cons] at h ⊢
      by_cases hk : k < x.length
      · exfalso
        rw [List.getElem?_append_left hk] at h
        exact (hn x (by simp)).2.2.2.1 (List.mem_of_getElem? h)
      · rw [List.getElem?_append_right (by omega)] at h
        obtain ⟨j, hj, he⟩ := slash_at r (fun y hy => hn y (List.mem_cons_of_mem _ hy)) _ h
        refine ⟨j + 1, by simpa using hj, ?_⟩
        rw [List.take_append, List.take_of_length_le (by omega), he, List.take_succ_cons, pathL_cons]

/-- The directories on the way to a path, from above. -/
def waysL (pre : List UInt8) : List UInt8 → List (List UInt8)
  | [] => []
  | c :: r => if c = 47 ∧ pre ≠ [] then pre :: waysL (pre ++ [c]) r else waysL (pre ++ [c]) r
theorem waysL_skip : ∀ (x pre rest : List UInt8), 47 ∉ x → waysL pre (x ++ rest) = waysL (pre ++ x) rest
  | [], pre, rest, _ => by simp
  | c :: x, pre, rest, h => by
    rw [List.cons_append, waysL, if_neg (fun e => h (by rw [e.1]; simp)), waysL_skip x _ rest (fun e => h (List.mem_cons_of_mem _ e))]
    simp
theorem waysL_path : ∀ (r a : List (List UInt8)), (∀ x ∈ r, OkName x) → a ≠ [] → waysL (pathL a) (pathL r) = (List.range r.length).map fun j => pathL (a ++ r.take j)
  | [], a, _, _ => rfl
  | x :: r, a, hn, ha => by
    have hne : pathL a ≠ [] := by
      cases a with
      | nil => exact absurd rfl ha
      | cons y b => rw [pathL_cons]; simp
    rw [pathL_cons, waysL, if_pos ⟨rfl, hne⟩, waysL_skip x _ _ (hn x (by simp)).2.2.2.1]
    have e : pathL a ++ [47] ++ x = pathL (a ++ [x]) := by rw [pathL_append]; simp [pathL]
    rw [e, waysL_path r (a ++ [x]) (fun y hy => hn y (List.mem_cons_of_mem _ hy)) (by simp)]
    rw [List.length_cons, List.range_succ_eq_map, List.map_cons, List.map_map]
    simp only [List.take_zero, List.append_nil, List.cons.injEq, true_and]
    apply List.map_congr_left
    intro j _
    simp
theorem waysL_all (x : List UInt8) (r : List (List UInt8)) (hn : ∀ y ∈ x :: r, OkName y) : waysL [] (pathL (x :: r)) = (List.range r.length).map fun j => pathL ((x :: r).take (j + 1)) := by
  rw [pathL_cons, waysL, if_neg (by simp), waysL_skip x _ _ (hn x (by simp)).2.2.2.1]
  have e : [] ++ [47] ++ x = pathL [x] := by simp [pathL]
  rw [e, waysL_path r [x] (fun y hy => hn y (List.mem_cons_of_mem _ hy)) (by simp)]
  apply List.map_congr_left
  intro j _
  simp

/-! Pieces of a path. -/
theorem indexByte_none : ∀ {l : List UInt8} {c : UInt8}, c ∉ l → Lib.indexByte l c = -1
  | [], _, _ => rfl
  | b :: l, c, h => by
    have hb : (b == c) = false := beq_eq_false_iff_ne.2 (fun e => h (by rw [e]; simp))
    rw [Lib.indexByte, hb, indexByte_none (fun e => h (List.mem_cons_of_mem _ e))]
    rfl
theorem indexByte_some : ∀ {l : List UInt8} {c : UInt8}, c ∈ l → 0 ≤ Lib.indexByte l c
  | [], _, h => by cases h
  | b :: l, c, h => by
    rw [Lib.indexByte]
    by_cases hb : (b == c) = true
    · rw [if_pos hb]; exact Int.le_refl _
    · rw [if_neg hb]
      have hm : c ∈ l := by
        rcases List.mem_cons.1 h with rfl | h
        · simp at hb
        · exact h
      have := indexByte_some hm
      split
      · rename_i e
        have := beq_iff_eq.1 e
        omega
      · omega
theorem indexByte_mid : ∀ (a b : List UInt8) (c : UInt8), c ∉ a → Lib.indexByte (a ++ c :: b) c = a.length
  | [], b, c, _ => by rw [List.nil_append, Lib.indexByte, if_pos (by simp)]; rfl
  | x :: a, b, c, h => by
    have hx : (x == c) = false := beq_eq_false_iff_ne.2 (fun e => h (by rw [e]; simp))
    have ih := indexByte_mid a b c (fun e => h (List.mem_cons_of_mem _ e))
    rw [List.cons_append, Lib.indexByte, hx, ih]
    have : ((a.length : Int) == -1) = false := by rw [beq_eq_false_iff_ne]; omega
    rw [this]
    simp
def spl (s : List UInt8) : List (List UInt8) := Lib.splitK [47] 0 (Lib.count s [47]) s
theorem spl_cons (a b : List UInt8) (h : 47 ∉ a) : spl (a ++ 47 :: b) = a :: spl b := by
  have hi : Lib.index (a ++ 47 :: b) [47] = (a.length : Nat) := by rw [Lib.index_one, indexByte_mid a b 47 h]
  have hc := Lib.count_hit (s := a ++ 47 :: b) (sub := [47]) (by simp) hi
  have hd : (a ++ 47 :: b).drop (a.length + [(47 : UInt8)].length) = b := by simp
  unfold spl
  rw [hc, hd, Nat.add_comm, Lib.splitK, hi]
  have hm : (((a.length : Nat) : Int) == -1) = false := by rw [beq_eq_false_iff_ne]; omega
  rw [hm]
  simp only [Bool.false_eq_true, if_false, Int.toNat_natCast]
  rw [hd, Nat.add_zero, List.take_left' rfl]
theorem spl_one (a : List UInt8) (h : 47 ∉ a) : spl a = [a] := by
  unfold spl
  rw [Lib.count_miss (by rw [Lib.index_one]; exact indexByte_none h)]
  rfl
theorem spl_names : ∀ (r : List (List UInt8)) (x : List UInt8), (∀ y ∈ x :: r, OkName y) → spl (x ++ pathL r) = x :: r
  | [], x, h => by rw [pathL_nil, List.append_nil]; exact spl_one x (h x (by simp)).2.2.2.1
  | y :: r, x, h => by
    rw [pathL_cons, spl_cons x _ (h x (by simp)).2.2.2.1, spl_names r y (fun z hz => h z (List.mem_cons_of_mem _ hz))]
theorem spl_path (x : List UInt8) (r : List (List UInt8)) (h : ∀ y ∈ x :: r, OkName y) : spl (pathL (x :: r)) = [] :: x :: r := by
  rw [pathL_cons]
  have := spl_cons [] (x ++ pathL r) (by simp)
  rw [List.nil_append] at this
  rw [this, spl_names r x h]
theorem pieces_data (p : ByteArray) : (pieces p).map (·.data.toList) = spl p.data.toList := Lib.splitB_data ⟨#[47]⟩ 0 _ p
theorem map_B_inj {a : List ByteArray} {l : List (List UInt8)} (h : a.map (·.data.toList) = l) : a = l.map B := by
  subst h
  rw [List.map_map]
  have : ∀ x : ByteArray, (B ∘ fun y : ByteArray => y.data.toList) x = x := fun x => by
    apply ByteArray.ext
    simp [B]
  rw [show (B ∘ fun y : ByteArray => y.data.toList) = id from funext this, List.map_id]
theorem pieces_path (x : List UInt8) (r : List (List UInt8)) (h : ∀ y ∈ x :: r, OkName y) : pieces (B (pathL (x :: r))) = B [] :: (x :: r).map B := by
  have := map_B_inj (pieces_data (B (pathL (x :: r))))
  rw [B_data, spl_path x r h] at this
  exact this
theorem pieces_name (x : List UInt8) (h : OkName x) : pieces (B x) = [B x] := by
  have := map_B_inj (pieces_data (B x))
  rw [B_data, spl_one x h.2.2.2.1] at this
  exact this
theorem clean_ok {x : List UInt8} (h : OkName x) (o : List ByteArray) : cleanStep o (B x) = o ++ [B x] := by
  obtain ⟨h1, _, h3, _⟩ := h
  refine step_more (by rw [B_data]; exact h1) (by rw [B_data]; rintro rfl; exact h3 rfl) (by rw [B_data]; rintro rfl; exact h3 rfl)
theorem fold_ok : ∀ (ls : List (List UInt8)) (o : List ByteArray), (∀ x ∈ ls, OkName x) → (ls.map B).foldl cleanStep o = o ++ ls.map B
  | [], o, _ => by simp
  | x :: r, o, h => by
    rw [List.map_cons, List.foldl_cons, clean_ok (h x (by simp)), fold_ok r _ (fun y hy => h y (List.mem_cons_of_mem _ hy))]
    simp
theorem has0_no {l : List UInt8} (h : 0 ∉ l) : has0 (B l) = false := by
  unfold has0
  rw [B_data, indexByte_none h]
  rfl
theorem pathL_no0 {ls : List (List UInt8)} (h : ∀ x ∈ ls, OkName x) : (0 : UInt8) ∉ pathL ls := by
  intro hm
  obtain ⟨x, hx, hm⟩ := List.mem_flatMap.1 hm
  rcases List.mem_cons.1 hm with h0 | hm
  · cases h0
  · exact (h x hx).2.2.2.2 hm
theorem pathOf_B {ls : List (List UInt8)} (h : ls ≠ []) : pathOf (ls.map B) = pathL ls := by
  unfold pathOf
  rw [List.map_map, pathL_join h]
  congr 2
  conv => rhs; rw [← List.map_id ls]
  apply List.map_congr_left
  intro x _
  exact B_data x
theorem abs_names (cwd p : ByteArray) (ls : List (List UInt8)) (hne : ls ≠ []) (hok : ∀ x ∈ ls, OkName x) (hl : ls.length ≤ 9) (hp : p.data.toList ≠ []) (h0 : has0 cwd = false) (h1 : has0 p = false) (hparts : partsOf cwd p = ls.map B) :
    absOf cwd p = (B (pathL ls), 0) := by
  unfold absOf
  rw [if_neg (by rintro (h | h | h); exact hp h; rw [h0] at h; cases h; rw [h1] at h; cases h), hparts, pathOf_B hne]
  have hlen := pathL_len hok
  rw [if_pos ⟨fun s hs => by
    obtain ⟨x, hx, rfl⟩ := List.mem_map.1 hs
    rw [B_size]
    have := (hok x hx).2.1
    omega, by rw [List.length_map]; omega, by omega⟩]
theorem abs_path (cwd : ByteArray) (h0 : has0 cwd = false) (ls : List (List UInt8)) (hne : ls ≠ []) (hok : ∀ x ∈ ls, OkName x) (hl : ls.length ≤ 9) : absOf cwd (B (pathL ls)) = (B (pathL ls), 0) := by
  obtain ⟨x, r, rfl⟩ : ∃ x r, ls = x :: r := by
    cases ls with
    | nil => exact absurd rfl hne
    | cons x r => exact ⟨x, r, rfl⟩
  refine abs_names cwd _ _ hne hok hl (by rw [B_data, pathL_cons]; simp) h0 (has0_no (pathL_no0 hok)) ?_
  unfold partsOf allPieces
  rw [if_pos (by rw [B_data, pathL_cons]; rfl), pieces_path x r hok, List.foldl_cons, step_same (Or.inl (B_data [])), fold_ok _ _ hok]
  rfl
theorem abs_name (ls : List (List UInt8)) (hne : ls ≠ []) (x : List UInt8) (hok : ∀ y ∈ ls ++ [x], OkName y) (hl : ls.length ≤ 8) : absOf (B (pathL ls)) (B x) = (B (pathL (ls ++ [x])), 0) := by
  have hx : OkName x := hok x (by simp)
  have hls : ∀ y ∈ ls, OkName y := fun y hy => hok y (by simp [hy])
  obtain ⟨y, r, rfl⟩ : ∃ y r, ls = y :: r := by
    cases ls with
    | nil => exact absurd rfl hne
    | cons y r => exact ⟨y, r, rfl⟩
  refine abs_names _ _ _ (by simp) hok (by simp only [List.length_append, List.length_singleton]; omega) (by rw [B_data]; exact hx.1) (has0_no (pathL_no0 hls)) (has0_no hx.2.2.2.2) ?_
  unfold partsOf allPieces
  have hnp : Lib.hasPrefix (B x).data.toList [47] = false := by
    rw [B_data]
    cases hc : x with
    | nil => exact absurd hc hx.1
    | cons c s =>
      show (47 == c && _) = false
      have : (47 == c) = false := by
        rw [beq_eq_false_iff_ne]
        rintro rfl
        exact hx.2.2.2.1 (by rw [hc]; simp)
      rw [this]
      rfl
  rw [if_neg (by rw [hnp]; simp), pieces_path y r hls, pieces_name x hx, List.cons_append, List.foldl_cons, step_same (Or.inl (B_data [])), List.foldl_append, fold_ok _ _ hls]
  simp [clean_ok hx]
end Go.Proofs.YtbhmapcjcnceiaaGreatDoor

namespace Go.Proofs.YtbhmapcjcnceiaaGreatDoor
open Go Go.RowKit

section
variable {α : Type}
theorem look_snoc (k : ByteArray) (p : ByteArray × α) : ∀ l : List (ByteArray × α), look k (l ++ [p]) = match look k l with | some v => some v | none => if k = p.1 then some p.2 else none
  | [] => by simp [look]
  | q :: l => by
    simp only [List.cons_append, look]
    split
    · rfl
    · exact look_snoc k p l
theorem put_none (k : ByteArray) (v : α) : ∀ {l : List (ByteArray × α)}, look k l = none → put k v l = l ++ [(k, v)]
  | [], _ => rfl
  | q :: l, h => by
    simp only [look] at h
    split at h
    · cases h
    · rename_i e
      simp only [put, if_neg e, List.cons_append]
      rw [put_none k v h]
theorem rem_snoc (k : ByteArray) (v : α) : ∀ {l : List (ByteArray × α)}, look k l = none → rem k (l ++ [(k, v)]) = l
  | [], _ => by simp [rem]
  | q :: l, h => by
    simp only [look] at h
    split at h
    · cases h
    · rename_i e
      simp only [List.cons_append, rem, if_neg e]
      rw [rem_snoc k v h]
end
theorem extract_B (l : List UInt8) (k : Nat) : (B l).extract 0 k = B (l.take k) := by
  apply ByteArray.ext
  apply Array.ext'
  rw [B_data, Lib.extract_data, B_data]
  simp
theorem B_inj {a b : List UInt8} (h : B a = B b) : a = b := by
  have := congrArg (fun x : ByteArray => x.data.toList) h
  simpa [B] using this

/-- The i-th path of a chain of names. -/
def pa (ls : List (List UInt8)) (i : Nat) : ByteArray := B (pathL (ls.take i))
/-- The first j of a chain, each with its node. -/
def chain (ls : List (List UInt8)) (nd : Nat → Cn) (j : Nat) : Tree := (List.range j).map fun i => (pa ls (i + 1), nd i)
theorem chain_succ (ls : List (List UInt8)) (nd : Nat → Cn) (j : Nat) : chain ls nd (j + 1) = chain ls nd j ++ [(pa ls (j + 1), nd j)] := by
  unfold chain
  rw [List.range_succ, List.map_append]
  rfl
theorem chain_len (ls : List (List UInt8)) (nd : Nat → Cn) (j : Nat) : (chain ls nd j).length = j := by simp [chain]

section
variable {ls : List (List UInt8)} (hok : ∀ x ∈ ls, OkName x) {nd : Nat → Cn}
include hok
theorem pa_inj {i k : Nat} (hi : i ≤ ls.length) (hk : k ≤ ls.length) (h : pa ls i = pa ls k) : i = k := by
  have hl : (pathL (ls.take i)).length = (pathL (ls.take k)).length := by rw [B_inj h]
  rcases Nat.lt_trichotomy i k with hlt | he | hlt
  · have := pathL_inj_len hok hlt hk; omega
  · exact he
  · have := pathL_inj_len hok hlt hi; omega
theorem look_chain {j : Nat} (hj : j ≤ ls.length) {i : Nat} (hi : i < ls.length) : look (pa ls (i + 1)) (chain ls nd j) = if i < j then some (nd i) else none := by
  induction j with
  | zero => rfl
  | succ j ih =>
    rw [chain_succ, look_snoc, ih (by omega)]
    by_cases h : i < j
    · rw [if_pos h]
      show some (nd i) = _
      rw [if_pos (show i < j + 1 by omega)]
    · rw [if_neg h]
      simp only
      by_cases e : i = j
      · subst e
        rw [if_pos rfl, if_pos (by omega)]
      · rw [if_neg (fun h => e (by have := pa_inj hok (by omega) (by omega) h; omega)), if_neg (by omega)]
theorem put_chain {j : Nat} (hj : j < ls.length) : put (pa ls (j + 1)) (nd j) (chain ls nd j) = chain ls nd (j + 1) := by
  rw [put_none _ _ (by rw [look_chain hok (by omega) hj, if_neg (by omega)]), chain_succ]
theorem rem_chain {j : Nat} (hj : j < ls.length) : rem (pa ls (j + 1)) (chain ls nd (j + 1)) = chain ls nd j := by
  rw [chain_succ, rem_snoc _ _ (by rw [look_chain hok (by omega) hj, if_neg (by omega)])]
theorem pa_len {i : Nat} (hi : i < ls.length) : 2 ≤ (pathL (ls.take (i + 1))).length := by
  have := pathL_inj_len hok (i := 0) (k := i + 1) (by omega) (by omega)
  simp [pathL] at this ⊢
  omega
theorem pa_size {i : Nat} : (pa ls i).size ≤ 21 * ls.length := by
  unfold pa
  rw [B_size]
  have h1 := pathL_len (ls := ls.take i) (fun x hx => hok x (List.mem_of_mem_take hx))
  have h2 : (ls.take i).length ≤ ls.length := by rw [List.length_take]; omega
  have := Nat.mul_le_mul_left 21 h2
  omega
theorem pa_ne {i : Nat} (hi : i < ls.length) : (pa ls (i + 1)).data.toList ≠ [47] := by
  unfold pa
  rw [B_data]
  intro h
  have := pa_len hok hi
  rw [h] at this
  simp at this
theorem kind_chain {j : Nat} (hj : j ≤ ls.length) {i : Nat} (hi : i < ls.length) : kindOf (chain ls nd j) (pa ls (i + 1)) = if i < j then (if (nd i).dir = true then 2 else 1) else 0 := by
  unfold kindOf
  rw [if_neg (pa_ne hok hi), look_chain hok hj hi]
  by_cases h : i < j
  · rw [if_pos h, if_pos h]
  · rw [if_neg h, if_neg h]
omit hok in
theorem wayFrom_zero {t : Tree} {p : ByteArray} (h : ∀ k, p.data.toList[k]? = some 47 → k ≠ 0 → kindOf t (p.extract 0 k) = 2) : ∀ n, wayFrom t p n = 0
  | 0 => rfl
  | n + 1 => by
    simp only [wayFrom]
    split
    · rename_i hc
      rw [h _ hc.1 hc.2]
      simp [wayFrom_zero h n]
    · exact wayFrom_zero h n
theorem way_chain {j : Nat} (hj : j ≤ ls.length) {i : Nat} (hi : i ≤ ls.length) (hij : i ≤ j + 1) (hd : ∀ k, k + 1 < i → (nd k).dir = true) : wayOf (chain ls nd j) (pa ls i) = 0 := by
  refine wayFrom_zero (fun k hk h0 => ?_) _
  unfold pa at hk ⊢
  rw [B_data] at hk
  rw [extract_B]
  obtain ⟨q, hq, he⟩ := slash_at (ls.take i) (fun x hx => hok x (List.mem_of_mem_take hx)) k hk
  rw [List.length_take] at hq
  rw [he, List.take_take, Nat.min_eq_left (by omega)]
  have hkl : k < (pathL (ls.take i)).length := (List.getElem?_eq_some_iff.1 hk).1
  cases q with
  | zero =>
    exfalso
    have := congrArg List.length he
    rw [List.length_take, List.take_zero, pathL_nil, List.length_nil] at this
    omega
  | succ q =>
    have := kind_chain hok (nd := nd) hj (i := q) (by omega)
    unfold pa at this
    rw [this, if_pos (by omega), if_pos (hd q (by omega))]
omit hok in
theorem has0_root : has0 ⟨#[47]⟩ = false := by kernel_rfl
theorem fsabs_chain (hl : ls.length ≤ 9) {j : Nat} (hj : j ≤ ls.length) {i : Nat} (hi : i < ls.length) (hij : i ≤ j) (hd : ∀ k, k < i → (nd k).dir = true) : fsAbs (chain ls nd j) (pa ls (i + 1)) = (pa ls (i + 1), 0) := by
  have hne : ls.take (i + 1) ≠ [] := by
    intro h
    have := congrArg List.length h
    rw [List.length_take, List.length_nil] at this
    omega
  have ha : absOf ⟨#[47]⟩ (pa ls (i + 1)) = (pa ls (i + 1), 0) := abs_path _ has0_root _ hne (fun x hx => hok x (List.mem_of_mem_take hx)) (by rw [List.length_take]; omega)
  unfold fsAbs
  rw [ha]
  simp only [ne_eq, not_true, if_false]
  rw [way_chain hok hj (by omega) (by omega) (fun k hk => hd k (by omega))]
  simp
theorem fsfound_chain (hl : ls.length ≤ 9) {j : Nat} (hj : j ≤ ls.length) {i : Nat} (hi : i < ls.length) (hij : i ≤ j) (hd : ∀ k, k < i → (nd k).dir = true) : fsFound (chain ls nd j) (pa ls (i + 1)) = (pa ls (i + 1), if i < j then 0 else 6) := by
  unfold fsFound
  rw [fsabs_chain hok hl hj hi hij hd]
  simp only
  rw [kind_chain hok hj hi]
  by_cases h : i < j
  · rw [if_pos h, if_pos h]
    by_cases hdd : (nd i).dir = true
    · rw [if_pos hdd]; simp
    · rw [if_neg hdd]; simp
  · rw [if_neg h, if_neg h]
    simp

/-! What is below. -/
omit hok in
theorem keys_chain (j : Nat) : keysOf (chain ls nd j) = (List.range j).map fun k => pathL (ls.take (k + 1)) := by
  unfold keysOf chain
  rw [List.map_map]
  apply List.map_congr_left
  intro k _
  exact B_data _
omit hok in
theorem take_split {i k : Nat} (hik : i ≤ k) : ls.take k = ls.take i ++ (ls.drop i).take (k - i) := by
  rw [← List.take_append_drop i (ls.take k), List.take_take, List.drop_take, Nat.min_eq_left hik]
theorem front_chain {i : Nat} (hi : i < ls.length) : frontL (pa ls (i + 1)) = pathL (ls.take (i + 1)) ++ [47] := by
  unfold frontL pa
  rw [B_data]
  have hns : Lib.hasSuffix (pathL (ls.take (i + 1))) [47] = false := by
    cases hc : Lib.hasSuffix (pathL (ls.take (i + 1))) [47] with
    | false => rfl
    | true =>
      exfalso
      obtain ⟨z, hz⟩ := List.isSuffixOf_iff_suffix.1 hc
      have hx := hok ls[i] (List.getElem_mem hi)
      rw [List.take_add_one, List.getElem?_eq_getElem hi, pathL_append] at hz
      simp only [Option.toList_some, pathL_cons, pathL_nil, List.append_nil] at hz
      obtain ⟨y, c, hy⟩ : ∃ y c, ls[i] = y ++ [c] := by
        refine ⟨ls[i].dropLast, ls[i].getLast hx.1, ?_⟩
        exact (List.dropLast_concat_getLast hx.1).symm
      rw [hy] at hz
      have h2 : z ++ [47] = (pathL (ls.take i) ++ (47 :: y)) ++ [c] := by rw [hz]; simp
      have h3 := List.append_inj_right' h2 rfl
      simp only [List.cons.injEq, and_true] at h3
      exact hx.2.2.2.1 (by rw [hy, ← h3]; simp)
  unfold Lib.trimSuffix
  rw [hns]
  rfl
theorem prefix_chain {i k : Nat} (hi : i < ls.length) (hk : k < ls.length) : Lib.hasPrefix (pathL (ls.take (k + 1))) (pathL (ls.take (i + 1)) ++ [47]) = decide (i < k) := by
  by_cases h : i < k
  · rw [decide_eq_true h]
    have e := take_split (ls := ls) (i := i + 1) (k := k + 1) (by omega)
    obtain ⟨x, r, hx⟩ : ∃ x r, (ls.drop (i + 1)).take (k + 1 - (i + 1)) = x :: r := by
      cases hc : (ls.drop (i + 1)).take (k + 1 - (i + 1)) with
      | nil =>
        have := congrArg List.length hc
        rw [List.length_take, List.length_drop, List.length_nil] at this
        omega
      | cons x r => exact ⟨x, r, rfl⟩
    rw [e, hx, pathL_append, pathL_cons]
    unfold Lib.hasPrefix
    rw [List.isPrefixOf_iff_prefix]
    exact ⟨x ++ pathL r, by simp⟩
  · rw [decide_eq_false h]
    cases hc : Lib.hasPrefix (pathL (ls.take (k + 1))) (pathL (ls.take (i + 1)) ++ [47]) with
    | false => rfl
    | true =>
      exfalso
      have hp := (List.isPrefixOf_iff_prefix.1 hc).length_le
      rw [List.length_append, List.length_singleton] at hp
      rcases Nat.lt_or_ge k i with hlt | hge
      · have := pathL_inj_len hok (i := k + 1) (k := i + 1) (by omega) (by omega); omega
      · obtain rfl : k = i := by omega
        omega
end
end Go.Proofs.YtbhmapcjcnceiaaGreatDoor

namespace Go.Proofs.YtbhmapcjcnceiaaGreatDoor
open Go Go.RowKit

theorem filter_range (m i : Nat) (h : i ≤ m) : (List.range m).filter (fun k => decide (i ≤ k)) = (List.range (m - i)).map (i + ·) := by
  rw [Go.Deep.range_split h, List.filter_append]
  have h1 : (List.range i).filter (fun k => decide (i ≤ k)) = [] := by
    rw [List.filter_eq_nil_iff]
    intro k hk
    have := List.mem_range.1 hk
    simp
    omega
  have h2 : ((List.range (m - i)).map (i + ·)).filter (fun k => decide (i ≤ k)) = (List.range (m - i)).map (i + ·) := by
    rw [List.filter_eq_self]
    intro k hk
    obtain ⟨j, _, rfl⟩ := List.mem_map.1 hk
    simp
  rw [h1, h2, List.nil_append]
section
variable {ls : List (List UInt8)} (hok : ∀ x ∈ ls, OkName x) {nd : Nat → Cn}
include hok
theorem below_chain {j : Nat} (hj : j ≤ ls.length) {i : Nat} (hi : i < ls.length) : belowL (chain ls nd j) (pa ls (i + 1)) = (List.range (j - (i + 1))).map fun k => pathL (ls.take (i + k + 2)) := by
  unfold belowL
  rw [front_chain hok hi, keys_chain]
  have hf : ((List.range j).map fun k => pathL (ls.take (k + 1))).filter (fun q => Lib.hasPrefix q (pathL (ls.take (i + 1)) ++ [47])) = (List.range (j - (i + 1))).map fun k => pathL (ls.take (i + k + 2)) := by
    rw [List.filter_map]
    have h1 : (List.range j).filter ((fun q => Lib.hasPrefix q (pathL (ls.take (i + 1)) ++ [47])) ∘ fun k => pathL (ls.take (k + 1))) = (List.range j).filter (fun k => decide (i + 1 ≤ k)) := by
      apply List.filter_congr
      intro k hk
      have := List.mem_range.1 hk
      exact prefix_chain hok hi (by omega)
    rw [h1]
    by_cases hij : i + 1 ≤ j
    · rw [filter_range _ _ hij, List.map_map]
      apply List.map_congr_left
      intro k _
      show pathL (ls.take (i + 1 + k + 1)) = _
      rw [show i + 1 + k + 1 = i + k + 2 by omega]
    · have h0 : (List.range j).filter (fun k => decide (i + 1 ≤ k)) = [] := by
        rw [List.filter_eq_nil_iff]
        intro k hk
        have := List.mem_range.1 hk
        simp
        omega
      rw [h0, show j - (i + 1) = 0 by omega]
      rfl
  rw [hf]
  refine List.mergeSort_of_pairwise ?_
  rw [List.pairwise_map]
  refine List.Pairwise.imp ?_ List.pairwise_lt_range
  intro a b hab
  unfold leB
  simp only [decide_eq_true_eq]
  refine List.IsPrefix.le ?_
  rw [take_split (ls := ls) (i := i + a + 2) (k := i + b + 2) (by omega), pathL_append]
  exact List.prefix_append _ _
omit hok in
theorem below_root {j : Nat} (hj : j ≤ ls.length) : (belowL (chain ls nd j) ⟨#[47]⟩).length = j := by
  unfold belowL
  rw [List.length_mergeSort, keys_chain]
  have hf : frontL ⟨#[47]⟩ = [47] := by kernel_rfl
  rw [hf, List.filter_eq_self.2]
  · simp
  · intro q hq
    obtain ⟨k, hk, rfl⟩ := List.mem_map.1 hq
    have hk' := List.mem_range.1 hk
    rw [show ls.take (k + 1) = ls.take 0 ++ (ls.drop 0).take (k + 1) by simp, List.drop_zero]
    cases hc : ls.take (k + 1) with
    | nil =>
      have := congrArg List.length hc
      rw [List.length_take, List.length_nil] at this
      omega
    | cons x r =>
      rw [List.take_zero, List.nil_append, pathL_cons]
      rfl
omit hok in
theorem drop_front {i k : Nat} (hi : i + 1 < ls.length) : (pathL (ls.take (i + k + 2))).drop (pathL (ls.take (i + 1)) ++ [47]).length = ls[i + 1] ++ pathL ((ls.drop (i + 2)).take k) := by
  have e : ls.take (i + k + 2) = ls.take (i + 1) ++ (ls[i + 1] :: (ls.drop (i + 2)).take k) := by
    rw [← List.take_append_drop (i + 1) (ls.take (i + k + 2)), List.take_take, List.drop_take, Nat.min_eq_left (by omega), List.drop_eq_getElem_cons hi, show i + k + 2 - (i + 1) = k + 1 by omega, List.take_succ_cons]
  rw [e, pathL_append, pathL_cons, List.length_append, List.length_singleton, List.drop_append]
  simp
theorem names_chain {j : Nat} (hj : j ≤ ls.length) {i : Nat} (hi : i < ls.length) : namesL (chain ls nd j) (pa ls (i + 1)) = if h : i + 1 < j then [ls[i + 1]] else [] := by
  unfold namesL
  rw [below_chain hok hj hi, front_chain hok hi]
  by_cases h : i + 1 < j
  · rw [dif_pos h]
    obtain ⟨n, hn⟩ : ∃ n, j - (i + 1) = n + 1 := ⟨j - (i + 1) - 1, by omega⟩
    have hx := hok ls[i + 1] (List.getElem_mem (by omega))
    rw [hn, List.range_succ_eq_map, List.map_cons, List.filterMap_cons, List.map_map, List.filterMap_map]
    have h0 : nameOf (pathL (ls.take (i + 1)) ++ [47]).length (pathL (ls.take (i + 0 + 2))) = some ls[i + 1] := by
      unfold nameOf
      rw [drop_front (ls := ls) (i := i) (k := 0) (by omega), List.take_zero, pathL_nil, List.append_nil, if_neg (by rw [indexByte_none hx.2.2.2.1]; decide)]
    rw [h0]
    simp only [List.cons.injEq, true_and]
    rw [List.filterMap_eq_nil_iff]
    intro k hk
    have hk' := List.mem_range.1 hk
    show nameOf _ (pathL (ls.take (i + (k + 1) + 2))) = none
    unfold nameOf
    rw [drop_front (ls := ls) (i := i) (k := k + 1) (by omega)]
    have hs : (47 : UInt8) ∈ ls[i + 1] ++ pathL ((ls.drop (i + 2)).take (k + 1)) := by
      cases hc : (ls.drop (i + 2)).take (k + 1) with
      | nil =>
        have := congrArg List.length hc
        rw [List.length_take, List.length_drop, List.length_nil] at this
        omega
      | cons x r => rw [pathL_cons]; simp
    rw [if_pos (indexByte_some hs)]
  · rw [dif_neg h, show j - (i + 1) = 0 by omega]
    rfl
end
end Go.Proofs.YtbhmapcjcnceiaaGreatDoor
