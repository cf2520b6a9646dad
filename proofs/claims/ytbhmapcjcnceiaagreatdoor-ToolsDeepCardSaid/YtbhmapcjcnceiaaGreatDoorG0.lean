/- What cat does with one path: its inner function. -/
import Derived.Test.YtbhmapcjcnceiaaGreatDoorF8
namespace Go.Proofs.YtbhmapcjcnceiaaGreatDoor
open Go Go.RowKit

theorem FsAt.keeps {w w' : World} {F : Nat → Prop} {P M : Nat} {nodes bytes used clock : Int} {t : Tree} (h : FsAt w P M nodes bytes used clock t) (hk : Keeps F w w') (hP : ¬ F P) (hM : ¬ F M) (hd : ∀ x ∈ t, ∀ ad, x.2.oa = some ad → ¬ F ad.block) :
    FsAt w' P M nodes bytes used clock t := ⟨hk.at h.blk hP, h.map.keeps hk hM, fun x hx => ⟨(h.rows x hx).1.keeps hk (hd x hx), (h.rows x hx).2⟩⟩
/-- All of a file system lies below a block number. -/
def FsBelow (base P M : Nat) (t : Tree) : Prop := P < base ∧ M < base ∧ ∀ x ∈ t, ∀ ad, x.2.oa = some ad → ad.block < base
theorem FsAt.below {w : World} {P M : Nat} {nodes bytes used clock : Int} {t : Tree} (h : FsAt w P M nodes bytes used clock t) : FsBelow w.heap.size P M t := ⟨lt_of_block h.blk, h.map.lt, fun x hx ad had => (h.rows x hx).1.lt had⟩
theorem FsAt.ut {w w' : World} {P M : Nat} {nodes bytes used clock : Int} {t : Tree} (h : FsAt w P M nodes bytes used clock t) {b base : Nat} {f : Value} {cwd name : ByteArray} {args inn : Value} {st : Int} {out log : Value} {o l : List UInt8} (hu : Ut w b base f cwd name args inn st out log o l)
    (hB : FsBelow base P M t) (hk : Keeps (utF b out log) w w') : FsAt w' P M nodes bytes used clock t := by
  have hn : ∀ k, k < base → ¬ utF b out log k := by
    rintro k hk (h | h | h)
    · have := hu.ge.2; omega
    · have := hu.bufO.ge h; omega
    · have := hu.bufL.ge h; omega
  exact h.keeps hk (hn _ hB.1) (hn _ hB.2.1) (fun x hx ad had => hn _ (hB.2.2 x hx ad had))

theorem Ut.setSt {w : World} {b base : Nat} {f : Value} {cwd name : ByteArray} {args inn : Value} {st : Int} {out log : Value} {o l : List UInt8} (h : Ut w b base f cwd name args inn st out log o l) (s : Int) :
    Ut (w.setCell ⟨b, 5, none⟩ (.int .i64 s)) b base f cwd name args inn s out log o l := by
  have hone : out.ownBlock ≠ some b := h.bufO.ne h.blk (by decide)
  have hlne : log.ownBlock ≠ some b := h.bufL.ne h.blk (by decide)
  exact ⟨block_setCell h.blk 5 _, h.bufO.keeps (Keeps.set w b 5 _) (fun g hg e => hone (by rw [hg, e])), h.bufL.keeps (Keeps.set w b 5 _) (fun g hg e => hlne (by rw [hg, e])), h.apart, by have := h.hsz; simpa [World.setCell] using this, h.ge⟩
theorem Ut.setArgs {w : World} {b base : Nat} {f : Value} {cwd name : ByteArray} {args inn : Value} {st : Int} {out log : Value} {o l : List UInt8} (h : Ut w b base f cwd name args inn st out log o l) (v : Value) :
    Ut (w.setCell ⟨b, 3, none⟩ v) b base f cwd name v inn st out log o l := by
  have hone : out.ownBlock ≠ some b := h.bufO.ne h.blk (by decide)
  have hlne : log.ownBlock ≠ some b := h.bufL.ne h.blk (by decide)
  exact ⟨block_setCell h.blk 3 _, h.bufO.keeps (Keeps.set w b 3 _) (fun g hg e => hone (by rw [hg, e])), h.bufL.keeps (Keeps.set w b 3 _) (fun g hg e => hlne (by rw [hg, e])), h.apart, by have := h.hsz; simpa [World.setCell] using this, h.ge⟩

theorem uabs_ok {w : World} (hE : Env w) {b base : Nat} {f : Value} {cwd name : ByteArray} {args inn : Value} {st : Int} {out log : Value} {o l : List UInt8} (x : ByteArray)
    (hu : Ut w b base f cwd name args inn st out log o l) (hc : cwd.size < 4294967281) (hx : x.size < 4294967281) (hok : (absOf cwd x).2 = 0) :
    Calls Tryz.prog 158 #[.pointer (some ⟨b, 0, none⟩), .string x] w fun e w' => e = .returned (.tuple #[.string (absOf cwd x).1, .bool true]) ∧ Fresh w w' := by
  have HA := Lib.hid (abs_calls hE cwd x hc hx)
  have c1 := cell_of_block hu.blk 1
  simp at c1
  have HU := Lib.hid hu
  rw [hok] at HA
  clear hu hE hok
  generalize (absOf cwd x).1 = q at HA ⊢
  go_enter Tryz.func158, Tryz.ntmps158
  go_wp2_with fail
  refine HA.out.mono ?_
  rintro _ w1 ⟨rfl, hF1⟩
  have HU1 := Lib.hid (HU.out.fresh hF1)
  have HF1 := Lib.hid hF1
  clear hF1
  go_wp2_with fail
  refine (may_ok _ b x).mono ?_
  rintro _ _ ⟨rfl, rfl⟩
  go_wp2_with fail
  go_ret2
  exact ⟨rfl, HF1.out⟩

theorem absOf_err (cwd p : ByteArray) : ∃ e : Nat, (absOf cwd p).2 = (e : Int) ∧ e < 100 := by
  unfold absOf
  split
  · exact ⟨1, rfl, by decide⟩
  · split
    · exact ⟨0, rfl, by decide⟩
    · exact ⟨3, rfl, by decide⟩
theorem wayFrom_err (t : Tree) (p : ByteArray) : ∀ n, ∃ e : Nat, wayFrom t p n = (e : Int) ∧ e < 100
  | 0 => ⟨0, rfl, by decide⟩
  | n + 1 => by
    simp only [wayFrom]
    split
    · split
      · exact ⟨6, rfl, by decide⟩
      · split
        · exact ⟨11, rfl, by decide⟩
        · exact wayFrom_err t p n
    · exact wayFrom_err t p n
theorem fsAbs_err (t : Tree) (p : ByteArray) : ∃ e : Nat, (fsAbs t p).2 = (e : Int) ∧ e < 100 := by
  unfold fsAbs
  split
  · exact absOf_err _ _
  · split
    · exact wayFrom_err _ _ _
    · exact ⟨0, rfl, by decide⟩
theorem fsFound_err (t : Tree) (p : ByteArray) : ∃ e : Nat, (fsFound t p).2 = (e : Int) ∧ e < 100 := by
  unfold fsFound
  split
  · exact ⟨6, rfl, by decide⟩
  · exact fsAbs_err _ _
theorem fsRead_err (t : Tree) (p : ByteArray) : ∃ e : Nat, (fsRead t p).2 = (e : Int) ∧ e < 100 := by
  unfold fsRead
  split
  · exact fsFound_err _ _
  · split
    · exact ⟨10, rfl, by decide⟩
    · exact ⟨0, rfl, by decide⟩

/-- The status and the log behind an error that is complained of. -/
def catSt (st : Int) (e : Nat) : Int := if e = 0 then st else 1
def catLog (l : List UInt8) (name x : ByteArray) (e : Nat) : List UInt8 := if e = 0 then l else l ++ complaint name x e
theorem may_calls {w : World} {b base : Nat} {f : Value} {cwd name : ByteArray} {args inn : Value} {st : Int} {out log : Value} {o l : List UInt8} (x : ByteArray) (e : Nat) (he : e < 100)
    (hu : Ut w b base f cwd name args inn st out log o l) (hroom : l.length + (complaint name x e).length ≤ 140737488355328) :
    Calls Tryz.prog 114 #[.pointer (some ⟨b, 0, none⟩), .string x, .int .i64 e] w fun r w' => r = .returned (.bool (decide (e = 0))) ∧ ∃ log',
      Ut w' b base f cwd name args inn (catSt st e) out log' o (catLog l name x e) ∧ Keeps (utF b out log) w w' ∧ Old w (utF b out log') (utF b out log) := by
  by_cases h : e = 0
  · subst h
    exact (may_ok w b x).mono fun r w' ⟨hr, hw⟩ => ⟨hr, log, by rw [← hw]; exact hu, by rw [← hw]; exact Keeps.refl _ _, Old.refl _ _⟩
  · refine (may_err x e he (by omega) hu hroom).mono fun r w' ⟨hr, log', h1, h2, h3⟩ => ⟨by rw [decide_eq_false h]; exact hr, log', ?_, h2, h3⟩
    unfold catSt catLog
    rw [if_neg h, if_neg h]
    exact h1
/-- The utility's output has grown by one row, and lies in its variable again. -/
theorem Ut.appended {w w1 : World} {b base : Nat} {f : Value} {cwd name : ByteArray} {args inn : Value} {st : Int} {out log : Value} {o l x : List UInt8} {m : Nat} {oa' : Option Addr} {oc' : Nat} (hu : Ut w b base f cwd name args inn st out log o l) (hm : x.length = m)
    (hown1 : w1.ownsRow base 5 1 (.slice oa' (o.length + m) oc') (o.length + m) (cellsOf o ++ cellsOf x)) (hg1 : w.grownBy w1 out.ownBlock)
    (hat1 : (Value.slice oa' (o.length + m) oc').ownBlock = out.ownBlock ∨ (Value.slice oa' (o.length + m) oc').ownBlock = some w.heap.size) :
    Ut (w1.setCell ⟨b, 6, none⟩ (.slice oa' (o.length + m) oc')) b base f cwd name args inn st (.slice oa' (o.length + m) oc') log (o ++ x) l ∧ Keeps (utF b out log) w (w1.setCell ⟨b, 6, none⟩ (.slice oa' (o.length + m) oc')) ∧
      Old w (utF b (.slice oa' (o.length + m) oc') log) (utF b out log) := by
  subst hm
  have hne0 := hu.bufO.ne hu.blk (by decide)
  have hbl := grown_at hg1 hu.blk hne0
  have hB : Buf w1 5 base (.slice oa' (o.length + x.length) oc') (o ++ x) := by
    unfold Buf
    rw [List.length_append, cellsOf_append]
    exact hown1
  have hne' : (Value.slice oa' (o.length + x.length) oc').ownBlock ≠ some b := hB.ne hbl (by decide)
  have K1 : Keeps (utF b out log) w w1 := (Keeps.refl _ w).grown hg1 (fun k hk _ => Or.inr (Or.inl hk))
  have hlne : log.ownBlock ≠ some b := hu.bufL.ne hu.blk (by decide)
  refine ⟨⟨block_setCell hbl 6 _, ?_, ?_, ?_, ?_, hu.ge⟩, K1.setCell (fun _ => Or.inl rfl) _, ?_⟩
  · exact hB.keeps (Keeps.set w1 b 6 _) (fun g hg e => hne' (by rw [hg, e]))
  · exact (hu.bufL.keeps (Keeps.grew hg1) (fun g hg e => hu.apart g e hg)).keeps (Keeps.set w1 b 6 _) (fun g hg e => hlne (by rw [hg, e]))
  · intro k hk hl
    rcases hat1 with h | h
    · exact hu.apart k (h ▸ hk) hl
    · have := hu.bufL.lt hl
      rw [h] at hk
      simp only [Option.some.injEq] at hk
      omega
  · have := hu.hsz
    have := hg1.size
    simp only [World.setCell, Array.size_modify]
    omega
  · rintro k hk (h | h | h)
    · exact Or.inl h
    · rcases hat1 with h' | h'
      · exact Or.inr (Or.inl (h' ▸ h))
      · rw [h'] at h
        simp only [Option.some.injEq] at h
        omega
    · exact Or.inr (Or.inr h)

set_option maxHeartbeats 800000 in
theorem cat1_calls {w : World} (hE : Env w) {b base bx P M : Nat} {nodes bytes used clock : Int} {t : Tree} {cwd name : ByteArray} {args inn : Value} {st : Int} {out log : Value} {o l : List UInt8} (x p : ByteArray)
    (hu : Ut w b base (.pointer (some ⟨P, 0, none⟩)) cwd name args inn st out log o l) (hf : FsAt w P M nodes bytes used clock t) (hB : FsBelow base P M t) (hbx : w.heap[bx]? = some (.cells #[.pointer (some ⟨b, 0, none⟩)] 63 (0, 0)))
    (hp : p.size < 4294967281) (hb : ∀ x ∈ t, x.2.data.length ≤ 1099511627776) (hl1 : o.length + (fsRead t p).1.length ≤ 1099511627776) (hl2 : l.length + name.size + x.size ≤ 1099511627776) :
    Calls Tryz.prog 113 #[.string x, .string p, .pointer (some ⟨bx, 0, none⟩)] w fun e w' => e = .returned (.tuple #[]) ∧ ∃ (out' log' : Value),
      Ut w' b base (.pointer (some ⟨P, 0, none⟩)) cwd name args inn (catSt st (fsRead t p).2.toNat) out' log' (o ++ (fsRead t p).1) (catLog l name x (fsRead t p).2.toNat) ∧ Keeps (utF b out log) w w' ∧ Old w (utF b out' log') (utF b out log) := by
  obtain ⟨er, her, her1⟩ := fsRead_err t p
  have HR := Lib.hid (read_calls hf hE p hp hb)
  have c0 := cell_of_block hu.blk 0
  have x0 := cell_of_block hbx 0
  simp at c0 x0
  have HU := Lib.hid hu
  have HX := Lib.hid hbx
  have HFs := Lib.hid hf
  rw [her] at HR
  have hto : (fsRead t p).2.toNat = er := by rw [her]; rfl
  rw [hto]
  clear hu hbx hf hto
  generalize (fsRead t p).1 = dt at HR hl1 ⊢
  go_enter Tryz.func113, Tryz.ntmps113
  go_wp2_with fail
  refine HR.out.mono ?_
  rintro _ w1 ⟨ra, rc, rfl, hrow, hF1, hge, hz0⟩
  have HGe := Lib.hid hge
  have HZ0 := Lib.hid hz0
  clear hge hz0
  have HRow := Lib.hid hrow
  have HF1 := Lib.hid hF1
  have x1 := hF1.cell x0 (fun x => x)
  clear hrow hF1
  go_wp2_with fail
  have HU1 := Lib.hid (HU.out.fresh HF1.out)
  have hcl : l.length + (complaint name x er).length ≤ 140737488355328 := by
    have h1 : (Lib.decDigits er).length ≤ 2 := decDigits_len 1 er (by omega)
    have h2 : (complaint name x er).length = name.size + x.size + (Lib.decDigits er).length + 11 := by
      simp only [complaint, List.length_append, List.length_cons, List.length_nil, Array.length_toList]
      show name.size + _ + x.size + _ + _ + _ = _
      omega
    omega
  refine (may_calls x er her1 HU1.out hcl).mono ?_
  rintro _ w2 ⟨rfl, log2, hu2, hk2, ho2⟩
  have hnbx : ¬ utF b out log bx := by
    rintro (h | h | h)
    · have := HU1.out.blk
      rw [← h, HF1.out.at HX.out (fun x => x)] at this
      simp at this
    · exact HU1.out.bufO.ne (HF1.out.at HX.out (fun x => x)) (by decide) h
    · exact HU1.out.bufL.ne (HF1.out.at HX.out (fun x => x)) (by decide) h
  have x2 := hk2.cell x1 hnbx
  have HX2 := Lib.hid (hk2.at (HF1.out.at HX.out (fun x => x)) hnbx)
  have HU2 := Lib.hid hu2
  have HK2 := Lib.hid ((HF1.out.mono (fun _ _ h => h.elim)).trans hk2)
  have HO2 := Lib.hid ho2
  have hrow2 : BytesAt w2 ra dt := HRow.out.keeps hk2 (fun ad had e => by
    have h1 := HGe.out ad had
    rcases e with e | e | e
    · have := lt_of_block HU.out.blk; omega
    · have := HU.out.bufO.lt e; omega
    · have := HU.out.bufL.lt e; omega)
  have HRow2 := Lib.hid hrow2
  clear hu2 hk2 ho2 hrow2 x1 x0 c0 hnbx
  go_wp2_with fail
  have c6 := cell_of_block HU2.out.blk 6
  simp at c6
  obtain ⟨W, hW⟩ : ∃ W, W = w2.drew := ⟨_, rfl⟩
  have hFW : Fresh w2 W := by rw [hW]; exact (Keeps.refl _ w2).drew
  have y0 := hFW.cell x2 (fun x => x)
  have y6 := hFW.cell c6 (fun x => x)
  refine wp_region_ord [0, 1, 2, 3, 4, 5, 6, 7, 8, 9, 10, 11] [7, 8, 9, 10, 11] [11] (fun w => w.cell? ⟨bx, 0, none⟩ = some (.pointer (some ⟨b, 0, none⟩)) ∧ w.cell? ⟨b, 6, none⟩ = some out) (by kernel_rfl) (by kernel_rfl) (by rw [← hW]; exact ⟨y0, y6⟩) ?_
  rw [← hW]
  clear hW
  repeat (refine' wpOrd_take (v := _) rfl rfl rfl (fun _ _ _ h => h) ?_ ?_; rotate_left; (· intro w' hS; (try dsimp only at hS); go_simp; rfl); (try simp only [Act.put, List.setIfInBounds_toArray, List.set_cons_zero, List.set_cons_succ]))
  have HUW := Lib.hid (HU2.out.fresh hFW)
  have HKW := Lib.hid (HK2.out.then hFW (fun _ _ h => h.elim))
  have HOW := Lib.hid (show Old w (utF b out log2) (utF b out log) from (Old.refl w _).trans HF1.out.size HO2.out)
  have HRW := Lib.hid (HRow2.out.fresh hFW)
  have HSz := Lib.hid hFW.size
  have HXW := Lib.hid (hFW.at HX2.out (fun x => x))
  have hdl : (cellsOf dt).length = dt.length := cellsOf_length dt
  have HLen := Lib.hid hdl
  have hz3 : ra = none → dt.length = 0 ∧ rc = 0 := fun h => ⟨by subst h; have : cellsOf dt = [] := HRW.out; rw [← cellsOf_length, this]; rfl, HZ0.out h⟩
  have HZ3 := Lib.hid hz3
  have HAdd := Lib.hid (show ∀ ad, ra = some ad → ∀ j u, (cellsOf dt)[j]? = some u → W.cell? (ad.add j) = some u from fun ad had => by have := HRW.out; subst had; exact this.add)
  clear hdl hz3 hFW x2 c6
  refine wpOrd_eff rfl rfl (fun K hK => ?_)
  refine st_app_row rfl _ _ _ rfl base 5 (.int .u8 0) 1 Tryz.underlying25 info_byte rfl out o.length (cellsOf o) rfl HUW.out.bufO ra dt.length rc (cellsOf dt) rfl HZ3.out HLen.out HAdd.out (cells_one dt) (by omega) (by omega) HUW.out.hsz ?_
  intro oa' oc' w3 hown3 hg3 hat3
  have hap := Ut.appended HUW.out rfl hown3 hg3 hat3
  have HAp := Lib.hid hap
  have hne0 := HUW.out.bufO.ne HUW.out.blk (by decide)
  have hbl3 := grown_at hg3 HUW.out.blk hne0
  have f6 := frozen_of_block hbl3 6
  have z6 := cell_of_block hbl3 6
  simp at z6
  have hxo : out.ownBlock ≠ some bx := fun e => by
    exact HUW.out.bufO.ne HXW.out (by decide) e
  have z0 : w3.cell? ⟨bx, 0, none⟩ = some (.pointer (some ⟨b, 0, none⟩)) := by
    have := (Keeps.grew hg3).cell y0 hxo
    exact this
  clear hap hown3 hg3 hat3 hbl3 hne0 hxo y0 y6
  refine hK _ _ (fun _ => ⟨z0, z6⟩) ?_
  clear hK K
  (try simp only [Act.put, List.setIfInBounds_toArray, List.set_cons_zero, List.set_cons_succ])
  (refine wpOrd_eff rfl rfl (fun K hK => ?_); go_simp; refine hK _ _ (fun _ => ⟨z0, z6⟩) ?_; clear hK K; (try simp only [Act.put, List.setIfInBounds_toArray, List.set_cons_zero, List.set_cons_succ]))
  (refine wpOrd_eff rfl rfl (fun K hK => ?_); go_simp; refine hK _ _ (fun _ => ⟨z0, z6⟩) ?_; clear hK K; (try simp only [Act.put, List.setIfInBounds_toArray, List.set_cons_zero, List.set_cons_succ]))
  (refine wpOrd_eff rfl rfl (fun K hK => ?_); go_simp; refine hK _ _ (fun _ => ⟨z0, z6⟩) ?_; clear hK K; (try simp only [Act.put, List.setIfInBounds_toArray, List.set_cons_zero, List.set_cons_succ]))
  (refine wpOrd_eff rfl rfl (fun K hK => ?_); go_simp; refine hK _ _ (fun h => by cases h) ?_; clear hK K; (try simp only [Act.put, List.setIfInBounds_toArray, List.set_cons_zero, List.set_cons_succ]))
  refine wpOrd_nil ?_
  go_wp2_with fail
  go_end0
  refine ⟨rfl, .slice oa' (o.length + dt.length) oc', log2, ?_, ?_, ?_⟩
  · exact HAp.out.1
  · exact HKW.out.then HAp.out.2.1 (fun i hi h => HOW.out i hi h)
  · exact HOW.out.trans HKW.out.size HAp.out.2.2
/-- vfs.New: a file system of its own, with nothing in it. -/
theorem new_fs (n m : Nat) (w : World) (hn : n ≤ 10000) (hm : m ≤ 1048576) : Calls Tryz.prog 11 #[.int .i64 n, .int .i64 m] w fun e w' => e = .returned (.pointer (some ⟨w.heap.size + 1, 0, none⟩)) ∧
    FsAt w' (w.heap.size + 1) w.heap.size n m 0 0 [] ∧ Fresh w w' ∧ w'.heap.size = w.heap.size + 2 := by
  refine (new_calls n m w hn hm).mono fun e w' ⟨he, hw⟩ => ⟨he, ?_⟩
  subst hw
  have h1 : (w.alloc (.map #[] 0)).heap.size = w.heap.size + 1 := by simp
  refine ⟨⟨?_, ?_, by simp⟩, ((Keeps.refl _ w).alloc _).alloc _, by simp⟩
  · rw [← h1]; exact heap_alloc_new _ _
  · have h0 : MapAt (w.alloc (.map #[] 0)) w.heap.size [] := MapAt.nil w
    exact h0.keeps (F := fun _ => False) ((Keeps.refl _ _).alloc _) (fun x => x)

end Go.Proofs.YtbhmapcjcnceiaaGreatDoor
