/- Rows that are read, rows that are owned, and append on them: where the new row lies is told. -/
import Derived.Test.YtbhmapcjcnceiaaGreatDoorA0
import Derived.Maps.AppendAt
import Derived.Laws.AppendOwnNone
namespace Go.Proofs.YtbhmapcjcnceiaaGreatDoor
open Go Go.RowKit

/-- A slice of one-cell elements that can be read: it starts at oa and holds xs, in a block of element type T. -/
def RowAt (w : World) (T : TypeId) (oa : Option Addr) (xs : List Value) : Prop :=
  match oa with
  | none => xs = []
  | some ad => ad.spot = none ∧ ∃ cur fz, w.heap[ad.block]? = some (.cells cur T fz) ∧ ∀ j u, xs[j]? = some u → cur[ad.off + j]? = some u

/-- The bytes of a text as cells. -/
def cellsOf (l : List UInt8) : List Value := l.map fun b => Value.int .u8 b.toNat
theorem cellsOf_length (l : List UInt8) : (cellsOf l).length = l.length := by simp [cellsOf]
theorem cellsOf_append (a b : List UInt8) : cellsOf (a ++ b) = cellsOf a ++ cellsOf b := by simp [cellsOf]
theorem strCells_cellsOf (s : ByteArray) : Lib.strCells s = cellsOf s.data.toList := rfl
theorem cellsOf_inj {a b : List UInt8} (h : cellsOf a = cellsOf b) : a = b := by
  have hf : Function.Injective (fun b : UInt8 => Value.int .u8 (b.toNat : Int)) := by
    intro x y hxy
    simp only [Value.int.injEq, true_and] at hxy
    exact UInt8.toNat_inj.1 (by omega)
  induction a generalizing b with
  | nil => cases b with
    | nil => rfl
    | cons y b => simp [cellsOf] at h
  | cons x a ih => cases b with
    | nil => simp [cellsOf] at h
    | cons y b =>
      simp only [cellsOf, List.map_cons, List.cons.injEq] at h
      rw [hf h.1, ih (by simpa [cellsOf] using h.2)]

section
variable {w w' : World} {T : TypeId} {oa : Option Addr} {xs : List Value}
theorem RowAt.nil (w : World) (T : TypeId) : RowAt w T none [] := rfl
theorem RowAt.keeps {F : Nat → Prop} (h : RowAt w T oa xs) (hk : Keeps F w w') (hn : ∀ ad, oa = some ad → ¬ F ad.block) : RowAt w' T oa xs := by
  cases oa with
  | none => exact h
  | some ad => obtain ⟨h1, cur, fz, hb, hc⟩ := h; exact ⟨h1, cur, fz, hk.at hb (hn ad rfl), hc⟩
theorem RowAt.fresh (h : RowAt w T oa xs) (hk : Fresh w w') : RowAt w' T oa xs := h.keeps hk (fun _ _ x => x)
theorem RowAt.lt (h : RowAt w T oa xs) {ad : Addr} (ha : oa = some ad) : ad.block < w.heap.size := by
  subst ha; obtain ⟨_, cur, fz, hb, _⟩ := h; exact lt_of_block hb
theorem RowAt.cell {b off : Nat} {sp : Option Nat} (h : RowAt w T (some ⟨b, off, sp⟩) xs) {j : Nat} {u : Value} (hu : xs[j]? = some u) : w.cell? ⟨b, off + j, none⟩ = some u := by
  obtain ⟨_, cur, fz, hb, hc⟩ := h; rw [cell_of_block hb]; exact hc j u hu
theorem RowAt.add {ad : Addr} (h : RowAt w T (some ad) xs) : ∀ j u, xs[j]? = some u → w.cell? (ad.add j) = some u := by
  obtain ⟨b, off, sp⟩ := ad
  obtain ⟨h1, cur, fz, hb, hc⟩ := h
  simp only at h1 hb hc
  subst h1
  intro j u hu
  have : (⟨b, off, none⟩ : Addr).add j = ⟨b, off + j, none⟩ := by unfold Addr.add; split <;> simp_all
  rw [this, cell_of_block hb]
  exact hc j u hu
theorem RowAt.spot {ad : Addr} (h : RowAt w T (some ad) xs) : ad.spot = none := h.1
/-- No row's block is one of another element type. -/
theorem RowAt.ne {b : Nat} {c : Array Value} {T' : TypeId} {fz : Nat × Nat} (h : RowAt w T oa xs) (hb : w.heap[b]? = some (.cells c T' fz)) (hT : T' ≠ T) : ∀ ad, oa = some ad → ad.block ≠ b := by
  intro ad ha e
  subst ha
  obtain ⟨_, cur, fz', hb', _⟩ := h
  rw [e, hb] at hb'
  simp only [Option.some.injEq, Obj.cells.injEq] at hb'
  exact hT hb'.2.1
theorem RowAt.drop {b off : Nat} {sp : Option Nat} (h : RowAt w T (some ⟨b, off, sp⟩) xs) (k : Nat) : RowAt w T (some ⟨b, off + k, sp⟩) (xs.drop k) := by
  obtain ⟨h1, cur, fz, hb, hc⟩ := h
  exact ⟨h1, cur, fz, hb, fun j u hu => by rw [List.getElem?_drop] at hu; rw [Nat.add_assoc]; exact hc _ u hu⟩
theorem RowAt.take (h : RowAt w T oa xs) (k : Nat) : RowAt w T oa (xs.take k) := by
  cases oa with
  | none => simp [RowAt] at h ⊢; exact Or.inr h
  | some ad =>
    obtain ⟨h1, cur, fz, hb, hc⟩ := h
    exact ⟨h1, cur, fz, hb, fun j u hu => by rw [List.getElem?_take] at hu; split at hu <;> simp_all⟩
/-- An owned row of one-cell elements can be read. -/
theorem RowAt.of_owns {base n c : Nat} {oa : Option Addr} (h : w.ownsRow base T 1 (.slice oa n c) n xs) : RowAt w T oa xs := by
  rcases h.2 with ⟨hv, hn⟩ | ⟨g, cap, cur, hv, _, hg, hle, _, hs, ht⟩
  · simp only [Value.slice.injEq] at hv
    obtain ⟨rfl, rfl, rfl⟩ := hv
    have := h.1
    simp at this
    exact this
  · simp only [Value.slice.injEq] at hv
    obtain ⟨rfl, _, _⟩ := hv
    refine ⟨rfl, cur, (0, 0), hg, fun j u hu => ?_⟩
    rw [← ht, List.getElem?_take] at hu
    split at hu
    · simpa using hu
    · cases hu
theorem RowAt.of_block {b : Nat} {fz : Nat × Nat} (h : w.heap[b]? = some (.cells xs.toArray T fz)) : RowAt w T (some ⟨b, 0, none⟩) xs :=
  ⟨rfl, _, fz, h, fun j u hu => by simpa using hu⟩
end

theorem ownsRow_pos {w : World} {base n c : Nat} {T : TypeId} {oa : Option Addr} {xs : List Value} (h : w.ownsRow base T 1 (.slice oa n c) n xs) (hn : 0 < n) : ∃ g cur, oa = some ⟨g, 0, none⟩ ∧ base ≤ g ∧ w.heap[g]? = some (.cells cur T (0, 0)) ∧ n ≤ c := by
  rcases h.2 with ⟨_, h0⟩ | ⟨g, cap, cur, hv, hb, hg, hle, _, _, _⟩
  · omega
  · simp only [Value.slice.injEq] at hv
    obtain ⟨rfl, _, rfl⟩ := hv
    exact ⟨g, cur, rfl, hb, hg, hle⟩
/-- A byte buffer of the call's own. -/
def Buf (w : World) (T : TypeId) (base : Nat) (v : Value) (l : List UInt8) : Prop := w.ownsRow base T 1 v l.length (cellsOf l)
section
variable {w w' : World} {T : TypeId} {base : Nat} {v : Value} {l : List UInt8}
theorem Buf.nil (w : World) (T : TypeId) (base : Nat) : Buf w T base (.slice none 0 0) [] := World.ownsRow_nil w base T 1
theorem Buf.shape (h : Buf w T base v l) : ∃ a c, v = .slice a l.length c := ownsRow_shape h
theorem Buf.keeps {F : Nat → Prop} (h : Buf w T base v l) (hk : Keeps F w w') (hn : ∀ g, v.ownBlock = some g → ¬ F g) : Buf w' T base v l := ownsRow_keeps h hk hn
theorem Buf.ne (h : Buf w T base v l) {b : Nat} {c : Array Value} {T' : TypeId} {fz : Nat × Nat} (hb : w.heap[b]? = some (.cells c T' fz)) (hT : T' ≠ T) : v.ownBlock ≠ some b := ownsRow_ne h hb hT
theorem Buf.lt (h : Buf w T base v l) {g : Nat} (hg : v.ownBlock = some g) : g < w.heap.size := ownsRow_lt h hg
theorem Buf.ge (h : Buf w T base v l) {g : Nat} (hg : v.ownBlock = some g) : base ≤ g := (World.ownsRow.lt h g hg).1
theorem Buf.row {oa : Option Addr} {n c : Nat} (h : Buf w T base (.slice oa n c) l) : RowAt w T oa (cellsOf l) := by
  obtain ⟨a', c', hv⟩ := h.shape
  simp only [Value.slice.injEq] at hv
  obtain ⟨rfl, rfl, rfl⟩ := hv
  exact RowAt.of_owns h
end

section
variable {P : Program} {w : World}
/-- Where the row lies behind 'append(b, s...)'. -/
theorem append_string_at (base : Nat) (t u ty e : TypeId) (i : TypeInfo) (ht : P.underlying t = some (.slice e)) (hu : P.underlying u = some .string) (hi : P.info? e = some i) (hz : i.zero = some (.int .u8 0))
    (hsize : i.size = 1) (hby : i.bytes = 1) (v : Value) (l : List UInt8) (hown : Buf w e base v l) (s : ByteArray)
    (hbytes : l.length + s.size ≤ 140737488355328) (hbase : base ≤ w.heap.size) :
    ∃ oa c w', (Builtin.append_ #[t, u] ty #[v, .string s]).run P w = .ok (.slice oa (l.length + s.size) c) w' ∧ Buf w' e base (.slice oa (l.length + s.size) c) (l ++ s.data.toList) ∧ w.grownBy w' v.ownBlock ∧
      ((Value.slice oa (l.length + s.size) c).ownBlock = v.ownBlock ∨ (Value.slice oa (l.length + s.size) c).ownBlock = some w.heap.size) := by
  have h63 : l.length + s.size ≤ maxLen := by unfold maxLen; omega
  obtain ⟨v', w', hr, ho, hg, _⟩ := Lib.run_append_own_string (P := P) w base t u ty e i ht hu hi hz hsize hby v l.length (cellsOf l) hown s h63 hbytes hbase
  obtain ⟨oa, c, hv⟩ := ownsRow_shape ho
  subst hv
  refine ⟨oa, c, w', hr, ?_, hg, ?_⟩
  · unfold Buf
    rw [cellsOf_append, List.length_append, Array.length_toList]
    exact ho
  · rcases hown.2 with ⟨rfl, hn⟩ | ⟨g, cap, cur, rfl, hbg, hgg, hnc, hcm, hcs, htake⟩
    · by_cases hm : s.size = 0
      · have hl : l = [] := List.eq_nil_of_length_eq_zero hn
        subst hl
        have hf := Lib.run_firstCells_string (P := P) w 1 s
        rw [hm] at hf
        simp [Builtin.append_, run_underlying ht, run_underlying hu, sizeOf, typeInfo, hi, hsize, Builtin.lenOf, hm, hf] at hr
        left
        rw [← hr.1.1]
        rfl
      · have hr' := run_append_nil_string (P := P) w t u ty e i (.int .u8 0) ht hu hi hz s (by omega) (by omega) (by rw [hby]; omega)
        rw [hr'] at hr
        simp only [Result.ok.injEq, Value.slice.injEq] at hr
        right
        rw [← hr.1.1]
        rfl
    · have hcs' : cur.size = cap := by simpa using hcs
      have hxl : (cellsOf l).length = l.length := cellsOf_length l
      by_cases hroom : l.length + s.size ≤ cap
      · have hr' := Lib.run_append_room_string (P := P) w t u ty e i ht hu hi hsize g l.length cap cur hgg s hroom (by omega)
        rw [hr'] at hr
        simp only [Result.ok.injEq, Value.slice.injEq] at hr
        left
        rw [← hr.1.1]
        rfl
      · have holds : ∀ j u, (cellsOf l)[j]? = some u → w.cell? ((⟨g, 0, none⟩ : Addr).add j) = some u := World.ownsRow.cells hown (g := g) rfl
        have hr' := Lib.run_append_grow_string (P := P) w t u ty e i (.int .u8 0) ht hu hi hz ⟨g, 0, none⟩ l.length cap (cellsOf l) (by rw [hsize]; simpa using hxl) holds s (by omega) (by omega) (by rw [hby]; exact growslice_fits (by omega) (by omega))
        rw [hr'] at hr
        simp only [Result.ok.injEq, Value.slice.injEq] at hr
        right
        rw [← hr.1.1]
        rfl

/-- 'append(b, s...)' of a text to a buffer of the call's own: the operation. -/
theorem wpo_app_str {o : Oper} {a : Act} {K : Act → World → Prop} {Q : Exit → Act → World → Prop} (sl x : Operand) (t u : TypeId)
    (ho : o.op = .call { callee := .builtin .append, args := #[sl, x], argTypes := #[t, u] })
    (base : Nat) (e : TypeId) (ht : P.underlying t = some (.slice e)) (hu : P.underlying u = some .string) (hi : (P.info? e).map (fun i => (i.zero, i.size, i.bytes)) = some (some (.int .u8 0), 1, 1))
    (v : Value) (l : List UInt8) (hs : a.eval sl = v) (hown : Buf w e base v l) (s : ByteArray) (hx : a.eval x = .string s)
    (hbytes : l.length + s.size ≤ 140737488355328) (hbase : base ≤ w.heap.size)
    (h : ∀ oa c w', Buf w' e base (.slice oa (l.length + s.size) c) (l ++ s.data.toList) → w.grownBy w' v.ownBlock →
      ((Value.slice oa (l.length + s.size) c).ownBlock = v.ownBlock ∨ (Value.slice oa (l.length + s.size) c).ownBlock = some w.heap.size) →
      K (a.put o.dst (.slice oa (l.length + s.size) c)) w') : Oper.wp P o a w K Q := by
  obtain ⟨i0, hi, hz0, hz1, hz2⟩ := info_parts hi
  obtain ⟨oa, c, w', hr, h2, h3, h4⟩ := append_string_at (P := P) (w := w) base t u o.type e i0 ht hu hi hz0 hz1 hz2 v l hown s hbytes hbase
  unfold Oper.wp execOp
  simp only [ho, resolve, invoke, builtin, Sem.run_bind, Sem.run_pure, Result.andThen_ok, List.map_toArray, List.map_cons, List.map_nil, hs, hx, hr]
  exact h oa c w' h2 h3 h4

/-- The same, in a list of operations. -/
theorem wp_app_str {ops : Array Oper} {rest : List Oper} {o : Oper} {a : Act} {Q : Exit → Act → World → Prop} (hgd : o.guard = none) (sl x : Operand) (t u : TypeId)
    (ho : o.op = .call { callee := .builtin .append, args := #[sl, x], argTypes := #[t, u] })
    (base : Nat) (e : TypeId) (ht : P.underlying t = some (.slice e)) (hu : P.underlying u = some .string) (hi : (P.info? e).map (fun i => (i.zero, i.size, i.bytes)) = some (some (.int .u8 0), 1, 1))
    (v : Value) (l : List UInt8) (hs : a.eval sl = v) (hown : Buf w e base v l) (s : ByteArray) (hx : a.eval x = .string s)
    (hbytes : l.length + s.size ≤ 140737488355328) (hbase : base ≤ w.heap.size)
    (h : ∀ oa c w', Buf w' e base (.slice oa (l.length + s.size) c) (l ++ s.data.toList) → w.grownBy w' v.ownBlock →
      ((Value.slice oa (l.length + s.size) c).ownBlock = v.ownBlock ∨ (Value.slice oa (l.length + s.size) c).ownBlock = some w.heap.size) →
      wpList P ops Q rest (a.put o.dst (.slice oa (l.length + s.size) c)) w') : wpList P ops Q (o :: rest) a w :=
  wpList_plain hgd fun _K hK => wpo_app_str sl x t u ho base e ht hu hi v l hs hown s hx hbytes hbase (fun oa c w' h1 h2 h3 => hK _ _ (h oa c w' h1 h2 h3))
/-- The same, in a region that draws its order. -/
theorem st_app_str {ops : Array Oper} {o : Oper} {a : Act} {K : Act → World → Prop} {Q : Exit → Act → World → Prop} {E : Prop} (hgd : o.guard = none) (sl x : Operand) (t u : TypeId)
    (ho : o.op = .call { callee := .builtin .append, args := #[sl, x], argTypes := #[t, u] })
    (base : Nat) (e : TypeId) (ht : P.underlying t = some (.slice e)) (hu : P.underlying u = some .string) (hi : (P.info? e).map (fun i => (i.zero, i.size, i.bytes)) = some (some (.int .u8 0), 1, 1))
    (v : Value) (l : List UInt8) (hs : a.eval sl = v) (hown : Buf w e base v l) (s : ByteArray) (hx : a.eval x = .string s)
    (hbytes : l.length + s.size ≤ 140737488355328) (hbase : base ≤ w.heap.size)
    (h : ∀ oa c w', Buf w' e base (.slice oa (l.length + s.size) c) (l ++ s.data.toList) → w.grownBy w' v.ownBlock →
      ((Value.slice oa (l.length + s.size) c).ownBlock = v.ownBlock ∨ (Value.slice oa (l.length + s.size) c).ownBlock = some w.heap.size) →
      K (a.put o.dst (.slice oa (l.length + s.size) c)) w') : if Region.wanted o (yielded ops a.tmps) = true then Oper.wp P o a w K Q else E := by
  rw [if_pos (by simp [Region.wanted, hgd])]
  exact wpo_app_str sl x t u ho base e ht hu hi v l hs hown s hx hbytes hbase h

/-- 'append(xs, ys...)' of a row that can be read (nil too) to a row of the call's own, elements of one cell: the operation's run. -/
theorem append_row_at (base : Nat) (t ty e : TypeId) (z : Value) (bytes : Nat) (ht : P.underlying t = some (.slice e)) (hi : (P.info? e).map (fun i => (i.zero, i.size, i.bytes)) = some (some z, 1, bytes)) (hzs : z.cells.size = 1)
    (v : Value) (n : Nat) (xs : List Value) (hown : w.ownsRow base e 1 v n xs)
    (xa : Option Addr) (m c : Nat) (news : List Value) (hc0 : xa = none → m = 0 ∧ c = 0) (hl : news.length = m) (hrow : ∀ ad, xa = some ad → ∀ j u, news[j]? = some u → w.cell? (ad.add j) = some u) (h1 : ∀ u ∈ news, u.oneCell' = true)
    (hbytes : (n + m) * bytes ≤ 140737488355328) (hb0 : 0 < bytes) (hbase : base ≤ w.heap.size) :
    ∃ oa c' w', (Builtin.append_ #[t, t] ty #[v, .slice xa m c]).run P w = .ok (.slice oa (n + m) c') w' ∧ w'.ownsRow base e 1 (.slice oa (n + m) c') (n + m) (xs ++ news) ∧ w.grownBy w' v.ownBlock ∧
      ((Value.slice oa (n + m) c').ownBlock = v.ownBlock ∨ (Value.slice oa (n + m) c').ownBlock = some w.heap.size) := by
  obtain ⟨i0, hi, hz0, hz1, hz2⟩ := info_parts hi
  have h63 : n + m ≤ maxLen := by
    have : n + m ≤ (n + m) * bytes := Nat.le_mul_of_pos_right _ hb0
    unfold maxLen; omega
  cases xa with
  | none =>
    obtain ⟨rfl, rfl⟩ := hc0 rfl
    have hn0 : news = [] := List.eq_nil_of_length_eq_zero hl
    subst hn0
    have hrun := run_append_owned_none (P := P) (w := w) base t ty e i0 1 ht hi v n xs hown
    obtain ⟨oa, c', hv⟩ := ownsRow_shape hown
    subst hv
    exact ⟨oa, c', w, hrun, by simpa using hown, ⟨rfl, rfl, rfl, Nat.le_refl _, fun _ _ _ => rfl⟩, Or.inl (by cases oa <;> rfl)⟩
  | some ad =>
    obtain ⟨v', w', hr, h2, h3, _, h5⟩ := run_append_own_at (P := P) w base t ty e i0 z 1 bytes ht hi hz0 hz1 hz2 hzs (by decide) v n xs hown ad m c news (by omega) (hrow ad rfl) h1 h63 hbytes hbase
    obtain ⟨oa, c', hv⟩ := ownsRow_shape h2
    subst hv
    exact ⟨oa, c', w', hr, h2, h3, h5⟩
theorem wpo_app_row {o : Oper} {a : Act} {K : Act → World → Prop} {Q : Exit → Act → World → Prop} (sl x : Operand) (t : TypeId)
    (ho : o.op = .call { callee := .builtin .append, args := #[sl, x], argTypes := #[t, t] })
    (base : Nat) (e : TypeId) (z : Value) (bytes : Nat) (ht : P.underlying t = some (.slice e)) (hi : (P.info? e).map (fun i => (i.zero, i.size, i.bytes)) = some (some z, 1, bytes)) (hzs : z.cells.size = 1)
    (v : Value) (n : Nat) (xs : List Value) (hs : a.eval sl = v) (hown : w.ownsRow base e 1 v n xs)
    (xa : Option Addr) (m c : Nat) (news : List Value) (hx : a.eval x = .slice xa m c) (hc0 : xa = none → m = 0 ∧ c = 0) (hl : news.length = m) (hrow : ∀ ad, xa = some ad → ∀ j u, news[j]? = some u → w.cell? (ad.add j) = some u) (h1 : ∀ u ∈ news, u.oneCell' = true)
    (hbytes : (n + m) * bytes ≤ 140737488355328) (hb0 : 0 < bytes) (hbase : base ≤ w.heap.size)
    (h : ∀ oa c w', w'.ownsRow base e 1 (.slice oa (n + m) c) (n + m) (xs ++ news) → w.grownBy w' v.ownBlock →
      ((Value.slice oa (n + m) c).ownBlock = v.ownBlock ∨ (Value.slice oa (n + m) c).ownBlock = some w.heap.size) →
      K (a.put o.dst (.slice oa (n + m) c)) w') : Oper.wp P o a w K Q := by
  obtain ⟨oa, c', w', hr, h2, h3, h4⟩ := append_row_at (P := P) (w := w) base t o.type e z bytes ht hi hzs v n xs hown xa m c news hc0 hl hrow h1 hbytes hb0 hbase
  unfold Oper.wp execOp
  simp only [ho, resolve, invoke, builtin, Sem.run_bind, Sem.run_pure, Result.andThen_ok, List.map_toArray, List.map_cons, List.map_nil, hs, hx, hr]
  exact h oa c' w' h2 h3 h4
theorem wp_app_row {ops : Array Oper} {rest : List Oper} {o : Oper} {a : Act} {Q : Exit → Act → World → Prop} (hgd : o.guard = none) (sl x : Operand) (t : TypeId)
    (ho : o.op = .call { callee := .builtin .append, args := #[sl, x], argTypes := #[t, t] })
    (base : Nat) (e : TypeId) (z : Value) (bytes : Nat) (ht : P.underlying t = some (.slice e)) (hi : (P.info? e).map (fun i => (i.zero, i.size, i.bytes)) = some (some z, 1, bytes)) (hzs : z.cells.size = 1)
    (v : Value) (n : Nat) (xs : List Value) (hs : a.eval sl = v) (hown : w.ownsRow base e 1 v n xs)
    (xa : Option Addr) (m c : Nat) (news : List Value) (hx : a.eval x = .slice xa m c) (hc0 : xa = none → m = 0 ∧ c = 0) (hl : news.length = m) (hrow : ∀ ad, xa = some ad → ∀ j u, news[j]? = some u → w.cell? (ad.add j) = some u) (h1 : ∀ u ∈ news, u.oneCell' = true)
    (hbytes : (n + m) * bytes ≤ 140737488355328) (hb0 : 0 < bytes) (hbase : base ≤ w.heap.size)
    (h : ∀ oa c w', w'.ownsRow base e 1 (.slice oa (n + m) c) (n + m) (xs ++ news) → w.grownBy w' v.ownBlock →
      ((Value.slice oa (n + m) c).ownBlock = v.ownBlock ∨ (Value.slice oa (n + m) c).ownBlock = some w.heap.size) →
      wpList P ops Q rest (a.put o.dst (.slice oa (n + m) c)) w') : wpList P ops Q (o :: rest) a w :=
  wpList_plain hgd fun _K hK => wpo_app_row sl x t ho base e z bytes ht hi hzs v n xs hs hown xa m c news hx hc0 hl hrow h1 hbytes hb0 hbase (fun oa c w' h1 h2 h3 => hK _ _ (h oa c w' h1 h2 h3))
theorem st_app_row {ops : Array Oper} {o : Oper} {a : Act} {K : Act → World → Prop} {Q : Exit → Act → World → Prop} {E : Prop} (hgd : o.guard = none) (sl x : Operand) (t : TypeId)
    (ho : o.op = .call { callee := .builtin .append, args := #[sl, x], argTypes := #[t, t] })
    (base : Nat) (e : TypeId) (z : Value) (bytes : Nat) (ht : P.underlying t = some (.slice e)) (hi : (P.info? e).map (fun i => (i.zero, i.size, i.bytes)) = some (some z, 1, bytes)) (hzs : z.cells.size = 1)
    (v : Value) (n : Nat) (xs : List Value) (hs : a.eval sl = v) (hown : w.ownsRow base e 1 v n xs)
    (xa : Option Addr) (m c : Nat) (news : List Value) (hx : a.eval x = .slice xa m c) (hc0 : xa = none → m = 0 ∧ c = 0) (hl : news.length = m) (hrow : ∀ ad, xa = some ad → ∀ j u, news[j]? = some u → w.cell? (ad.add j) = some u) (h1 : ∀ u ∈ news, u.oneCell' = true)
    (hbytes : (n + m) * bytes ≤ 140737488355328) (hb0 : 0 < bytes) (hbase : base ≤ w.heap.size)
    (h : ∀ oa c w', w'.ownsRow base e 1 (.slice oa (n + m) c) (n + m) (xs ++ news) → w.grownBy w' v.ownBlock →
      ((Value.slice oa (n + m) c).ownBlock = v.ownBlock ∨ (Value.slice oa (n + m) c).ownBlock = some w.heap.size) →
      K (a.put o.dst (.slice oa (n + m) c)) w') : if Region.wanted o (yielded ops a.tmps) = true then Oper.wp P o a w K Q else E := by
  rw [if_pos (by simp [Region.wanted, hgd])]
  exact wpo_app_row sl x t ho base e z bytes ht hi hzs v n xs hs hown xa m c news hx hc0 hl hrow h1 hbytes hb0 hbase h
end
theorem _root_.Go.World.ownsRow.shape2 {w : World} {base : Nat} {e : TypeId} {size n c : Nat} {a : Option Addr} {xs : List Value} (h : w.ownsRow base e size (.slice a n c) n xs) : n ≤ c ∧ c ≤ 9223372036854775807 ∧ (a = none → c = 0) := by
  rcases h.2 with ⟨h, h0⟩ | ⟨g, cap, cur, h, _, _, h1, h2, _⟩
  · cases h; exact ⟨Nat.le_refl _, by decide, fun _ => rfl⟩
  · cases h; exact ⟨h1, Nat.le_trans h2 (by decide), fun h => by cases h⟩
theorem cells_one (l : List UInt8) : ∀ u ∈ cellsOf l, u.oneCell' = true := by
  intro u hu; simp only [cellsOf, List.mem_map] at hu; obtain ⟨b, _, rfl⟩ := hu; rfl
theorem strs_one (l : List ByteArray) : ∀ u ∈ l.map Value.string, u.oneCell' = true := by
  intro u hu; simp only [List.mem_map] at hu; obtain ⟨b, _, rfl⟩ := hu; rfl
end Go.Proofs.YtbhmapcjcnceiaaGreatDoor
