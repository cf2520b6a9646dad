/- Maps whose keys are texts: what a block of entries tells of a key, and what the operations make of it. Program-free. -/
import Derived.Test.YtbhmapcjcnceiaaGreatDoorA2
import Derived.WideLaws
import Derived.Maps.OwnOps
namespace Go.Proofs.YtbhmapcjcnceiaaGreatDoor
open Go Go.RowKit

theorem ba_beq (a b : ByteArray) : (a == b) = decide (a = b) := by
  obtain ⟨a⟩ := a
  obtain ⟨b⟩ := b
  show (a == b) = _
  by_cases h : a = b
  · subst h; simp
  · rw [decide_eq_false (fun e => h (ByteArray.mk.inj e))]
    exact beq_eq_false_iff_ne.2 h

/-- What stands at a key: the first one counts. -/
def find (k : ByteArray) : List (ByteArray × Value) → Option Value
  | [] => none
  | p :: r => if k = p.1 then some p.2 else find k r
/-- A key is given a value. -/
def upd (k : ByteArray) (v : Value) : List (ByteArray × Value) → List (ByteArray × Value)
  | [] => [(k, v)]
  | p :: r => if k = p.1 then (k, v) :: r else p :: upd k v r
/-- A key is taken away. -/
def del (k : ByteArray) : List (ByteArray × Value) → List (ByteArray × Value)
  | [] => []
  | p :: r => if k = p.1 then r else p :: del k r
/-- The stamps of a map's entries: each of them its own, all from before the clock. -/
def Stamp (es : Array MapEntry) (clk : Nat) : Prop := (∀ e ∈ es.toList, e.born < clk) ∧ (es.toList.map (·.born)).Nodup
theorem Stamp.push {es : Array MapEntry} {clk : Nat} (h : Stamp es clk) (k v : Value) : Stamp (es.push { key := k, val := v, born := clk }) (clk + 1) := by
  refine ⟨fun e he => ?_, ?_⟩
  · simp only [Array.toList_push, List.mem_append, List.mem_singleton] at he
    rcases he with he | rfl
    · exact Nat.lt_succ_of_lt (h.1 e he)
    · exact Nat.lt_succ_self _
  · simp only [Array.toList_push, List.map_append, List.map_cons, List.map_nil]
    refine List.nodup_append.2 ⟨h.2, by simp, ?_⟩
    intro a ha b hb
    obtain ⟨e, he, rfl⟩ := List.mem_map.1 ha
    simp only [List.mem_singleton] at hb
    have := h.1 e he
    omega
theorem Stamp.modify {es : Array MapEntry} {clk : Nat} (h : Stamp es clk) (j : Nat) (k v : Value) : Stamp (es.modify j fun e => { e with key := k, val := v }) clk := by
  have e1 : (es.modify j fun e => { e with key := k, val := v }).toList.map (·.born) = es.toList.map (·.born) := by
    apply List.ext_getElem?
    intro i
    simp only [List.getElem?_map, Array.getElem?_toList, Array.getElem?_modify]
    by_cases hij : j = i
    · subst hij; rw [if_pos rfl]; cases es[j]? <;> rfl
    · rw [if_neg hij]
  refine ⟨fun e he => ?_, by rw [e1]; exact h.2⟩
  have : e.born ∈ es.toList.map (·.born) := by rw [← e1]; exact List.mem_map.2 ⟨e, he, rfl⟩
  obtain ⟨e', he', hb⟩ := List.mem_map.1 this
  rw [← hb]
  exact h.1 e' he'
theorem Stamp.erase {es : Array MapEntry} {clk : Nat} (h : Stamp es clk) (j : Nat) : Stamp (es.eraseIdxIfInBounds j) clk := by
  have hs : (es.eraseIdxIfInBounds j).toList.Sublist es.toList := by rw [Array.toList_eraseIdxIfInBounds]; exact List.eraseIdx_sublist _ _
  exact ⟨fun e he => h.1 e (hs.subset he), h.2.sublist (hs.map _)⟩
/-- Block B is a map of these entries, in the order in which they came. -/
def MapAt (w : World) (B : Nat) (ks : List (ByteArray × Value)) : Prop :=
  ∃ es clk, w.heap[B]? = some (.map es clk) ∧ es.toList.map (fun e => (e.key, e.val)) = ks.map (fun p => (Value.string p.1, p.2)) ∧ Stamp es clk

theorem MapAt.keeps {F : Nat → Prop} {w w' : World} {B : Nat} {ks : List (ByteArray × Value)} (h : MapAt w B ks) (hk : Keeps F w w') (hn : ¬ F B) : MapAt w' B ks := by
  obtain ⟨es, clk, hb, he⟩ := h; exact ⟨es, clk, hk.at hb hn, he⟩
theorem MapAt.lt {w : World} {B : Nat} {ks : List (ByteArray × Value)} (h : MapAt w B ks) : B < w.heap.size := by obtain ⟨es, clk, hb, _⟩ := h; exact lt_of_block hb
theorem MapAt.nil (w : World) : MapAt (w.alloc (.map #[] 0)) w.heap.size [] := ⟨#[], 0, heap_alloc_new w _, rfl, by simp [Stamp]⟩
theorem MapAt.ne {w : World} {B b : Nat} {ks : List (ByteArray × Value)} {c : Array Value} {T : TypeId} {fz : Nat × Nat} (h : MapAt w B ks) (hb : w.heap[b]? = some (.cells c T fz)) : b ≠ B := by
  rintro rfl; obtain ⟨es, clk, hb', _⟩ := h; rw [hb] at hb'; cases hb'

theorem erase_map {α β : Type} (f : α → β) : ∀ (l : List α) (i : Nat), (l.eraseIdx i).map f = (l.map f).eraseIdx i
  | [], _ => rfl
  | _ :: _, 0 => rfl
  | _ :: l, i + 1 => by simp [erase_map f l i]
theorem set_at {h : Array Obj} {B : Nat} (hlt : B < h.size) (o : Obj) : (h.setIfInBounds B o)[B]? = some o := by simp [Array.getElem?_setIfInBounds, hlt]
/-- Where a key stands among the entries. -/
def findIx (k : ByteArray) : List (ByteArray × Value) → Nat → Option (Nat × Value)
  | [], _ => none
  | p :: r, i => if k = p.1 then some (i, p.2) else findIx k r (i + 1)
theorem findNow_str (k : ByteArray) : ∀ (es : List MapEntry) (ks : List (ByteArray × Value)) (i : Nat), es.map (fun e => (e.key, e.val)) = ks.map (fun p => (Value.string p.1, p.2)) → Instr.findNow .string (.string k) es i = some (findIx k ks i)
  | [], [], _, _ => rfl
  | [], p :: r, _, h => by simp at h
  | e :: es, [], _, h => by simp at h
  | e :: es, p :: r, i, h => by
    simp only [List.map_cons, List.cons.injEq, Prod.mk.injEq] at h
    obtain ⟨⟨h1, h2⟩, h3⟩ := h
    simp only [Instr.findNow, h1, Instr.sameNow, ba_beq, findIx]
    by_cases hk : k = p.1
    · simp [hk, h2]
    · simp only [hk, decide_false, if_false]
      exact findNow_str k es r (i + 1) h3
theorem findIx_find (k : ByteArray) : ∀ (ks : List (ByteArray × Value)) (i : Nat), (findIx k ks i).map (·.2) = find k ks
  | [], _ => rfl
  | p :: r, i => by
    simp only [findIx, find]
    by_cases hk : k = p.1
    · simp [hk]
    · simp only [hk, if_false]; exact findIx_find k r (i + 1)
theorem findIx_none (k : ByteArray) (v : Value) : ∀ (ks : List (ByteArray × Value)) (i : Nat), findIx k ks i = none → upd k v ks = ks ++ [(k, v)] ∧ del k ks = ks
  | [], _, _ => ⟨rfl, rfl⟩
  | p :: r, i, h => by
    simp only [findIx] at h
    by_cases hk : k = p.1
    · simp [hk] at h
    · simp only [hk, if_false] at h
      obtain ⟨h1, h2⟩ := findIx_none k v r (i + 1) h
      simp only [upd, del, hk, if_false, h1, h2, List.cons_append]
      trivial
theorem findIx_some (k : ByteArray) (v : Value) : ∀ (ks : List (ByteArray × Value)) (i j : Nat) (u : Value), findIx k ks i = some (j, u) →
    i ≤ j ∧ j - i < ks.length ∧ (ks[j - i]?).map (·.1) = some k ∧ upd k v ks = ks.modify (j - i) (fun _ => (k, v)) ∧ del k ks = ks.eraseIdx (j - i)
  | [], _, _, _, h => by simp [findIx] at h
  | p :: r, i, j, u, h => by
    simp only [findIx] at h
    by_cases hk : k = p.1
    · simp only [hk, if_true, Option.some.injEq, Prod.mk.injEq] at h
      obtain ⟨rfl, rfl⟩ := h
      simp [upd, del, hk]
    · simp only [hk, if_false] at h
      obtain ⟨h1, h2, h3, h4, h5⟩ := findIx_some k v r (i + 1) j u h
      have e : j - i = (j - (i + 1)) + 1 := by omega
      refine ⟨by omega, by simp only [List.length_cons]; omega, ?_, ?_, ?_⟩
      · rw [e, List.getElem?_cons_succ]; exact h3
      · rw [e]; simp only [upd, hk, if_false, List.modify_succ_cons, h4]
      · rw [e]; simp only [del, hk, if_false, List.eraseIdx_cons_succ, h5]

section
variable {P : Program} {w : World} {T K E : TypeId} {B : Nat} {ks : List (ByteArray × Value)}
theorem run_checkKey_str (hK : P.underlying K = some .string) (e : Bool) (k : ByteArray) : (Instr.checkKey e 10000 K (.string k)).run P w = .ok () w := by
  rw [show (10000 : Nat) = 9999 + 1 from rfl, Instr.checkKey]
  simp [run_underlying hK]
theorem run_findKey_str (hK : P.underlying K = some .string) (k : ByteArray) (es : List MapEntry) (he : es.map (fun e => (e.key, e.val)) = ks.map (fun p => (Value.string p.1, p.2))) :
    (Instr.findKey K (.string k) es).run P w = .ok (findIx k ks 0) w := by
  simp [Instr.findKey, run_underlying hK, findNow_str k es ks 0 he]
/-- 'm[k]'. -/
theorem run_lookup_str (hT : P.underlying T = some (.map K E)) (hK : P.underlying K = some .string) (z : Value) (hz : (zeroValue E).run P w = .ok z w) (h : MapAt w B ks) (k : ByteArray) (ok : Bool) :
    (Instr.lookup T (.map (some B)) (.string k) ok).run P w = .ok (if ok then .tuple #[(find k ks).getD z, .bool (find k ks).isSome] else (find k ks).getD z) w := by
  obtain ⟨es, clk, hb, he, hst⟩ := h
  have hf := run_findKey_str (P := P) (w := w) hK k es.toList he
  rw [← findIx_find k ks 0]
  cases hi : findIx k ks 0 with
  | none =>
    rw [hi] at hf
    simp [Instr.lookup, run_underlying hT, run_getObj_map w B es clk hb, run_checkKey_str hK, hf, hz]
  | some p =>
    rw [hi] at hf
    simp [Instr.lookup, run_underlying hT, run_getObj_map w B es clk hb, run_checkKey_str hK, hf]
/-- 'm[k] = v'. -/
theorem run_update_str (hT : P.underlying T = some (.map K E)) (hK : P.underlying K = some .string) (h : MapAt w B ks) (k : ByteArray) (v : Value) :
    ∃ w', (Instr.mapUpdate T (.map (some B)) (.string k) v).run P w = .ok () w' ∧ MapAt w' B (upd k v ks) ∧ Keeps (fun j => j = B) w w' := by
  obtain ⟨es, clk, hb, he, hst⟩ := h
  have hf := run_findKey_str (P := P) (w := w) hK k es.toList he
  have hlt := lt_of_block hb
  have keep : ∀ o, Keeps (fun j => j = B) w { w with heap := w.heap.setIfInBounds B o } := fun o =>
    ⟨rfl, rfl, rfl, by simp, fun j _ hj => by simp [Array.getElem?_setIfInBounds, Ne.symm hj]⟩
  cases hi : findIx k ks 0 with
  | none =>
    rw [hi] at hf
    obtain ⟨hu, _⟩ := findIx_none k v ks 0 hi
    refine ⟨{ w with heap := w.heap.setIfInBounds B (.map (es.push { key := .string k, val := v, born := clk }) (clk + 1)) }, ?_, ?_, keep _⟩
    · simp [Instr.mapUpdate, run_underlying hT, run_getObj_map w B es clk hb, run_checkKey_str hK, hf, setObj, Sem.run, hb]
    · refine ⟨_, _, set_at hlt _, ?_, hst.push _ _⟩
      simp [he, hu]
  | some p =>
    obtain ⟨j, u⟩ := p
    rw [hi] at hf
    obtain ⟨_, hj, hkey, hu, _⟩ := findIx_some k v ks 0 j u hi
    simp only [Nat.sub_zero] at hj hkey hu
    have hel : es.toList.length = ks.length := by have := congrArg List.length he; simpa using this
    have hkey' : ((es[j]?).map (·.key)).getD (.string k) = .string k := by
      have h1 : (es.toList.map (fun e => (e.key, e.val)))[j]? = (ks.map (fun p => (Value.string p.1, p.2)))[j]? := by rw [he]
      rw [List.getElem?_map, List.getElem?_map] at h1
      obtain ⟨q, hq⟩ : ∃ q, ks[j]? = some q := ⟨_, List.getElem?_eq_getElem hj⟩
      rw [hq] at h1 hkey
      simp only [Option.map_some, Option.some.injEq] at hkey
      rw [Array.getElem?_toList] at h1
      cases hes : es[j]? with
      | none => rfl
      | some e =>
        rw [hes] at h1
        simp only [Option.map_some, Option.some.injEq, Prod.mk.injEq] at h1
        simp [h1.1, hkey]
    have hstay : (Instr.keyThatStays (.string k) (.string k)).run P w = .ok (.string k) w := by
      simp [Instr.keyThatStays, Instr.sameBits, ba_beq]
    refine ⟨{ w with heap := w.heap.setIfInBounds B (.map (es.modify j fun e => { e with key := .string k, val := v }) clk) }, ?_, ?_, keep _⟩
    · simp [Instr.mapUpdate, run_underlying hT, run_getObj_map w B es clk hb, run_checkKey_str hK, hf, hkey', hstay, setObj, Sem.run, hb]
    · refine ⟨_, _, set_at hlt _, ?_, hst.modify _ _ _⟩
      rw [hu]
      apply List.ext_getElem?
      intro i
      have h1 : (es.toList.map (fun e => (e.key, e.val)))[i]? = (ks.map (fun p => (Value.string p.1, p.2)))[i]? := by rw [he]
      simp only [List.getElem?_map, Array.getElem?_toList, Array.getElem?_modify, List.getElem?_modify] at h1 ⊢
      by_cases hij : j = i
      · subst hij
        simp only [if_true]
        cases h2 : es[j]? with
        | none =>
          have : es.size ≤ j := Array.getElem?_eq_none_iff.1 h2
          have := hel
          simp at this
          omega
        | some e => rw [List.getElem?_eq_getElem hj]; simp
      · simp only [hij, if_false]
        cases h2 : es[i]? <;> cases h3 : ks[i]? <;> simp_all
/-- 'delete(m, k)'. -/
theorem run_delete_str (hT : P.underlying T = some (.map K E)) (hK : P.underlying K = some .string) (h : MapAt w B ks) (k : ByteArray) (ty : TypeId) :
    ∃ w', (Builtin.delete_ #[T, K] ty #[.map (some B), .string k]).run P w = .ok (.tuple #[]) w' ∧ MapAt w' B (del k ks) ∧ Keeps (fun j => j = B) w w' := by
  obtain ⟨es, clk, hb, he, hst⟩ := h
  have hf := run_findKey_str (P := P) (w := w) hK k es.toList he
  have hlt := lt_of_block hb
  have keep : ∀ o, Keeps (fun j => j = B) w { w with heap := w.heap.setIfInBounds B o } := fun o =>
    ⟨rfl, rfl, rfl, by simp, fun j _ hj => by simp [Array.getElem?_setIfInBounds, Ne.symm hj]⟩
  cases hi : findIx k ks 0 with
  | none =>
    rw [hi] at hf
    obtain ⟨_, hd⟩ := findIx_none k .nilFunc ks 0 hi
    refine ⟨{ w with heap := w.heap.setIfInBounds B (.map es clk) }, ?_, ?_, keep _⟩
    · simp [Builtin.delete_, run_underlying hT, run_getObj_map w B es clk hb, run_checkKey_str hK, hf, setObj, Sem.run, hb]
    · refine ⟨_, _, set_at hlt _, ?_, hst⟩
      rw [he, hd]
  | some p =>
    obtain ⟨j, u⟩ := p
    rw [hi] at hf
    obtain ⟨_, hj, _, _, hd⟩ := findIx_some k .nilFunc ks 0 j u hi
    simp only [Nat.sub_zero] at hj hd
    refine ⟨{ w with heap := w.heap.setIfInBounds B (.map (es.eraseIdxIfInBounds j) clk) }, ?_, ?_, keep _⟩
    · simp [Builtin.delete_, run_underlying hT, run_getObj_map w B es clk hb, run_checkKey_str hK, hf, setObj, Sem.run, hb]
    · refine ⟨_, _, set_at hlt _, ?_, hst.erase _⟩
      rw [hd, Array.toList_eraseIdxIfInBounds, erase_map, he, erase_map]
end

section
variable {P : Program} {ops : Array Oper} {rest : List Oper} {o : Oper} {a : Act} {Q : Exit → Act → World → Prop} {w : World}
/-- 'm[k] = v' at the operation, for the walk: an assignment, or an entry of a literal. -/
theorem wp_update_str (hg : o.guard = none) (m x v : Operand) (T : TypeId) (hop : o.op = Op.mapUpdate T m x v ∨ o.op = Op.insert T m x v) (K E : TypeId) (hT : P.underlying T = some (.map K E)) (hK : P.underlying K = some .string)
    (B : Nat) (ks : List (ByteArray × Value)) (hm : a.eval m = .map (some B)) (k : ByteArray) (hx : a.eval x = .string k) (u : Value) (hv : a.eval v = u) (h : MapAt w B ks)
    (hK' : ∀ w', MapAt w' B (upd k u ks) → Keeps (fun j => j = B) w w' → wpList P ops Q rest (a.put o.dst undef) w') : wpList P ops Q (o :: rest) a w := by
  refine wpList_plain hg fun K0 hK0 => ?_
  obtain ⟨w', hrun, r1, r2⟩ := run_update_str (P := P) hT hK h k u
  unfold Oper.wp
  rcases hop with hop | hop <;>
  · simp [execOp, hop, hm, hx, hv, hrun, Result.andThen]
    exact hK0 _ _ (hK' w' r1 r2)
theorem wp_lookup_str (hg : o.guard = none) (m x : Operand) (T : TypeId) (ok : Bool) (hop : o.op = Op.lookup T m x ok) (K E : TypeId) (hT : P.underlying T = some (.map K E)) (hK : P.underlying K = some .string)
    (z : Value) (hz : (zeroValue E).run P w = .ok z w) (B : Nat) (ks : List (ByteArray × Value)) (hm : a.eval m = .map (some B)) (k : ByteArray) (hx : a.eval x = .string k) (h : MapAt w B ks) (r : Option Value) (hr : find k ks = r)
    (hK' : wpList P ops Q rest (a.put o.dst (if ok then .tuple #[r.getD z, .bool r.isSome] else r.getD z)) w) : wpList P ops Q (o :: rest) a w := by
  refine wpList_plain hg fun K0 hK0 => ?_
  have hrun := run_lookup_str (P := P) hT hK z hz h k ok
  rw [hr] at hrun
  unfold Oper.wp
  simp [execOp, hop, hm, hx, hrun, Result.andThen]
  exact hK0 _ _ hK'
end
end Go.Proofs.YtbhmapcjcnceiaaGreatDoor
