/- each over one argument; mkdir of one path, plain. -/
import Derived.Test.YtbhmapcjcnceiaaGreatDoorM0
import Derived.Laws.EntriesVeiled
namespace Go.Proofs.YtbhmapcjcnceiaaGreatDoor
open Go Go.RowKit

set_option maxHeartbeats 800000 in
theorem each_mkdir_c1 {w : World} (hE : Env w) {b base : Nat} {f : Value} {cwd name : ByteArray} {args inn : Value} {st : Int} {out log : Value} {o l : List UInt8} (x : ByteArray) (hu : Ut w b base f cwd name args inn st out log o l)
    {g off c : Nat} (hg : w.cell? ⟨g, off, none⟩ = some (.string x)) (hc : cwd.size < 4294967281) (hx : x.size < 4294967281) (hok : (absOf cwd x).2 = 0) {c0 c1 : Value} {S : World → Prop}
    (hdo : ∀ w', Fresh w w' → Calls Tryz.prog 120 #[.string x, .string (absOf cwd x).1, c0, c1] w' fun e w2 => e = .returned (.tuple #[]) ∧ S w2) :
    Calls Tryz.prog 112 #[.pointer (some ⟨b, 0, none⟩), .slice (some ⟨g, off, none⟩) 1 c, .func (.func 120) #[] #[c0, c1]] w fun e w' => e = .returned (.tuple #[]) ∧ S w' := by
  have HA := Lib.hid (uabs_ok hE x hu hc hx hok)
  have HDo := Lib.hid hdo
  generalize (absOf cwd x).1 = q at HA HDo
  clear hdo hu hE hok
  go_enter Tryz.func112, Tryz.ntmps112
  go_wp2_with fail
  refine wp_loop_rounds 2 ?_
  rw [rounds_succ]
  go_wp2_with fail
  refine HA.out.mono ?_
  rintro _ w1 ⟨rfl, hF1⟩
  have HC1 := Lib.hid (HDo.out w1 hF1)
  clear hF1 HDo HA
  go_wp2_with fail
  refine HC1.out.mono ?_
  rintro _ w2 ⟨rfl, hs2⟩
  have HS2 := Lib.hid hs2
  clear hs2
  go_wp2_with fail
  rw [rounds_succ]
  go_wp2_with fail
  go_end0
  exact ⟨rfl, HS2.out⟩

set_option maxHeartbeats 800000 in
theorem each_rm_c1 {w : World} (hE : Env w) {b base : Nat} {f : Value} {cwd name : ByteArray} {args inn : Value} {st : Int} {out log : Value} {o l : List UInt8} (x : ByteArray) (hu : Ut w b base f cwd name args inn st out log o l)
    {g off c : Nat} (hg : w.cell? ⟨g, off, none⟩ = some (.string x)) (hc : cwd.size < 4294967281) (hx : x.size < 4294967281) (hok : (absOf cwd x).2 = 0) {c0 c1 c2 : Value} {S : World → Prop}
    (hdo : ∀ w', Fresh w w' → Calls Tryz.prog 117 #[.string x, .string (absOf cwd x).1, c0, c1, c2] w' fun e w2 => e = .returned (.tuple #[]) ∧ S w2) :
    Calls Tryz.prog 112 #[.pointer (some ⟨b, 0, none⟩), .slice (some ⟨g, off, none⟩) 1 c, .func (.func 117) #[] #[c0, c1, c2]] w fun e w' => e = .returned (.tuple #[]) ∧ S w' := by
  have HA := Lib.hid (uabs_ok hE x hu hc hx hok)
  have HDo := Lib.hid hdo
  generalize (absOf cwd x).1 = q at HA HDo
  clear hdo hu hE hok
  go_enter Tryz.func112, Tryz.ntmps112
  go_wp2_with fail
  refine wp_loop_rounds 2 ?_
  rw [rounds_succ]
  go_wp2_with fail
  refine HA.out.mono ?_
  rintro _ w1 ⟨rfl, hF1⟩
  have HC1 := Lib.hid (HDo.out w1 hF1)
  clear hF1 HDo HA
  go_wp2_with fail
  refine HC1.out.mono ?_
  rintro _ w2 ⟨rfl, hs2⟩
  have HS2 := Lib.hid hs2
  clear hs2
  go_wp2_with fail
  rw [rounds_succ]
  go_wp2_with fail
  go_end0
  exact ⟨rfl, HS2.out⟩

end Go.Proofs.YtbhmapcjcnceiaaGreatDoor

namespace Go.Proofs.YtbhmapcjcnceiaaGreatDoor
open Go Go.RowKit

theorem Ut.apart_of {w : World} {b base : Nat} {f : Value} {cwd name : ByteArray} {args inn : Value} {st : Int} {out log : Value} {o l : List UInt8} (h : Ut w b base f cwd name args inn st out log o l) {k : Nat} {c : Array Value} {T : TypeId} {fz : Nat × Nat}
    (hb : w.heap[k]? = some (.cells c T fz)) (h1 : T ≠ 65) (h2 : T ≠ 5) : ¬ utF b out log k := by
  rintro (e | e | e)
  · have := h.blk
    rw [← e, hb] at this
    simp only [Option.some.injEq, Obj.cells.injEq] at this
    exact h1 this.2.1
  · exact h.bufO.ne hb h2 e
  · exact h.bufL.ne hb h2 e
/-- One directory made: the tree, the clock, the error. -/
def mkOne (nodes bytes used : Int) (t : Tree) (clock : Int) (p : ByteArray) : Tree × Int × Int :=
  if mkErr nodes bytes used t p = 0 then (put (fsAbs t p).1 ⟨true, none, 0, [], clock + 1⟩ t, clock + 1, 0) else (t, clock, mkErr nodes bytes used t p)
theorem mkOne_calls {w : World} {P M : Nat} {nodes bytes used clock : Int} {t : Tree} (h : FsAt w P M nodes bytes used clock t) (hE : Env w) (p : ByteArray) (hp : p.size < 4294967281) (ht : t.length ≤ 1000000) (hu : 0 ≤ used ∧ used ≤ 100000000) (hck : 0 ≤ clock ∧ clock ≤ 1099511627776) :
    Calls Tryz.prog 35 #[.pointer (some ⟨P, 0, none⟩), .string p] w fun e w' => e = .returned (.int .i64 (mkOne nodes bytes used t clock p).2.2) ∧ Keeps (fun k => k = P ∨ k = M) w w' ∧
      FsAt w' P M nodes bytes used (mkOne nodes bytes used t clock p).2.1 (mkOne nodes bytes used t clock p).1 := by
  refine (mkdir_calls h hE p hp ht hu hck).mono fun e w' ⟨he, hk, hc⟩ => ?_
  unfold mkOne
  rcases hc with ⟨h1, h2⟩ | ⟨h1, h2⟩
  · rw [if_neg h1]; exact ⟨he, hk, h2⟩
  · rw [if_pos h1]; exact ⟨by rw [he, h1], hk, h2⟩
theorem compl_len (name x : ByteArray) (e : Nat) (he : e < 100) : (complaint name x e).length ≤ name.size + x.size + 13 := by
  have h1 : (Lib.decDigits e).length ≤ 2 := decDigits_len 1 e (by omega)
  simp only [complaint, List.length_append, List.length_cons, List.length_nil, Array.length_toList]
  show name.size + _ + x.size + _ + _ + _ ≤ _
  omega

set_option maxHeartbeats 800000 in
theorem mkdir1_plain {w : World} {b base bx hx P M : Nat} {nodes bytes used clock : Int} {t : Tree} {cwd name : ByteArray} {args inn : Value} {st : Int} {out log : Value} {o l : List UInt8} (x p : ByteArray) (T : Tree × Int × Int) (er : Nat) (her : T.2.2 = (er : Int)) (her1 : er < 100)
    (hu : Ut w b base (.pointer (some ⟨P, 0, none⟩)) cwd name args inn st out log o l) (hf : FsAt w P M nodes bytes used clock t) (hBT : FsBelow base P M T.1)
    (hbx : w.heap[bx]? = some (.cells #[.pointer (some ⟨b, 0, none⟩)] 63 (0, 0))) (hhx : w.heap[hx]? = some (.cells #[.func (.func 35) #[.pointer (some ⟨P, 0, none⟩)] #[]] 86 (0, 0)))
    (hl2 : l.length + name.size + x.size ≤ 1099511627776)
    (hdo : ∀ W, Fresh w W → Calls Tryz.prog 35 #[.pointer (some ⟨P, 0, none⟩), .string p] W fun e w' => e = .returned (.int .i64 T.2.2) ∧ Keeps (fun k => k = P ∨ k = M) W w' ∧ FsAt w' P M nodes bytes used T.2.1 T.1) :
    Calls Tryz.prog 120 #[.string x, .string p, .pointer (some ⟨bx, 0, none⟩), .pointer (some ⟨hx, 0, none⟩)] w fun e w' => e = .returned (.tuple #[]) ∧ ∃ log' : Value,
      Ut w' b base (.pointer (some ⟨P, 0, none⟩)) cwd name args inn (catSt st er) out log' o (catLog l name x er) ∧ FsAt w' P M nodes bytes used T.2.1 T.1 ∧ Keeps (fun k => (k = P ∨ k = M) ∨ utF b out log k) w w' ∧ Old w (utF b out log') (utF b out log) := by
  have x0 := cell_of_block hbx 0
  have h0 := cell_of_block hhx 0
  simp at x0 h0
  have hP := hBT.1
  have hM := hBT.2.1
  have HU := Lib.hid hu
  have HDo := Lib.hid hdo
  have HBx := Lib.hid hbx
  have HHx := Lib.hid hhx
  have bP : bx ≠ P := fun e => by subst e; have := hbx.symm.trans hf.blk; simp at this
  have bM : bx ≠ M := hf.map.ne hbx
  have hxP : hx ≠ P := fun e => by subst e; have := hhx.symm.trans hf.blk; simp at this
  have hxM : hx ≠ M := hf.map.ne hhx
  have hcl := compl_len name x er her1
  obtain ⟨W, hW⟩ : ∃ W, W = w.drew := ⟨_, rfl⟩
  have hFW : Fresh w W := by rw [hW]; exact (Keeps.refl _ w).drew
  have y0 := hFW.cell x0 (fun x => x)
  have y1 := hFW.cell h0 (fun x => x)
  rw [her] at HDo
  clear hu hf hdo hbx hhx x0 h0
  go_enter Tryz.func120, Tryz.ntmps120
  go_wp2_with fail
  refine wp_region_ord [0, 1, 2, 3, 4, 5] [4, 5] [] (fun w' => w'.cell? ⟨bx, 0, none⟩ = some (.pointer (some ⟨b, 0, none⟩)) ∧ w'.cell? ⟨hx, 0, none⟩ = some (.func (.func 35) #[.pointer (some ⟨P, 0, none⟩)] #[])) (by kernel_rfl) (by kernel_rfl) (by rw [← hW]; exact ⟨y0, y1⟩) ?_
  rw [← hW]
  clear hW
  repeat (refine' wpOrd_take (v := _) rfl rfl rfl (fun _ _ _ h => h) ?_ ?_; rotate_left; (· intro w' hS; (try dsimp only at hS); go_simp; rfl); (try simp only [Act.put, List.setIfInBounds_toArray, List.set_cons_zero, List.set_cons_succ]))
  refine wpOrd_eff rfl rfl (fun K hK => ?_)
  go_simp
  refine (HDo.out W hFW).mono ?_
  rintro _ w2 ⟨rfl, hk2, hf2⟩
  have z0 := hk2.cell y0 (by rintro (e | e); exact bP e; exact bM e)
  have z1 := hk2.cell y1 (by rintro (e | e); exact hxP e; exact hxM e)
  refine hK _ _ (fun _ => ⟨z0, z1⟩) ?_
  clear hK K y0 y1
  (try simp only [Act.put, List.setIfInBounds_toArray, List.set_cons_zero, List.set_cons_succ])
  have HU2 := Lib.hid ((HU.out.fresh hFW).fsKeeps hP hM hk2)
  have HK2 := Lib.hid ((hFW.mono (G := fun k => k = P ∨ k = M) (fun _ _ h => h.elim)).trans hk2)
  have HF2 := Lib.hid hf2
  refine wpOrd_eff rfl rfl (fun K hK => ?_)
  go_simp
  refine (may_calls x er her1 HU2.out (by omega)).mono ?_
  rintro _ w3 ⟨rfl, log3, hu3, hk3, ho3⟩
  have nb := HU2.out.apart_of (hk2.at (hFW.at HBx.out (fun x => x)) (by rintro (e | e); exact bP e; exact bM e)) (by decide) (by decide)
  have nh := HU2.out.apart_of (hk2.at (hFW.at HHx.out (fun x => x)) (by rintro (e | e); exact hxP e; exact hxM e)) (by decide) (by decide)
  refine hK _ _ (fun _ => ⟨hk3.cell z0 nb, hk3.cell z1 nh⟩) ?_
  clear hK K z0 z1 nb nh
  (try simp only [Act.put, List.setIfInBounds_toArray, List.set_cons_zero, List.set_cons_succ])
  refine wpOrd_nil ?_
  have HU3 := Lib.hid hu3
  have HK3 := Lib.hid hk3
  have HO3 := Lib.hid ho3
  clear hu3 hk3 ho3 hk2 hf2 hFW
  go_wp2_with fail
  go_end0
  exact ⟨rfl, log3, HU3.out, HF2.out.ut HU2.out hBT HK3.out, (HK2.out.mono (fun _ _ h => Or.inl h)).trans (HK3.out.mono (fun _ _ h => Or.inr h)), (Old.refl w _).trans HK2.out.size HO3.out⟩

set_option maxHeartbeats 800000 in
theorem mkdir1_above {w : World} {b base bx hx P M : Nat} {nodes bytes used clock : Int} {t : Tree} {cwd name : ByteArray} {args inn : Value} {st : Int} {out log : Value} {o l : List UInt8} (x p : ByteArray) (T : Tree × Int × Int) (er : Nat) (her : T.2.2 = (er : Int)) (her1 : er < 100)
    (hu : Ut w b base (.pointer (some ⟨P, 0, none⟩)) cwd name args inn st out log o l) (hf : FsAt w P M nodes bytes used clock t) (hBT : FsBelow base P M T.1)
    (hbx : w.heap[bx]? = some (.cells #[.pointer (some ⟨b, 0, none⟩)] 63 (0, 0))) (hhx : w.heap[hx]? = some (.cells #[.func (.func 119) #[.pointer (some ⟨b, 0, none⟩)] #[]] 86 (0, 0)))
    (hl2 : l.length + name.size + x.size ≤ 1099511627776)
    (hdo : ∀ W, Fresh w W → Calls Tryz.prog 119 #[.pointer (some ⟨b, 0, none⟩), .string p] W fun e w' => e = .returned (.int .i64 T.2.2) ∧ Keeps (fun k => k = P ∨ k = M) W w' ∧ FsAt w' P M nodes bytes used T.2.1 T.1) :
    Calls Tryz.prog 120 #[.string x, .string p, .pointer (some ⟨bx, 0, none⟩), .pointer (some ⟨hx, 0, none⟩)] w fun e w' => e = .returned (.tuple #[]) ∧ ∃ log' : Value,
      Ut w' b base (.pointer (some ⟨P, 0, none⟩)) cwd name args inn (catSt st er) out log' o (catLog l name x er) ∧ FsAt w' P M nodes bytes used T.2.1 T.1 ∧ Keeps (fun k => (k = P ∨ k = M) ∨ utF b out log k) w w' ∧ Old w (utF b out log') (utF b out log) := by
  have x0 := cell_of_block hbx 0
  have h0 := cell_of_block hhx 0
  simp at x0 h0
  have hP := hBT.1
  have hM := hBT.2.1
  have HU := Lib.hid hu
  have HDo := Lib.hid hdo
  have HBx := Lib.hid hbx
  have HHx := Lib.hid hhx
  have bP : bx ≠ P := fun e => by subst e; have := hbx.symm.trans hf.blk; simp at this
  have bM : bx ≠ M := hf.map.ne hbx
  have hxP : hx ≠ P := fun e => by subst e; have := hhx.symm.trans hf.blk; simp at this
  have hxM : hx ≠ M := hf.map.ne hhx
  have hcl := compl_len name x er her1
  obtain ⟨W, hW⟩ : ∃ W, W = w.drew := ⟨_, rfl⟩
  have hFW : Fresh w W := by rw [hW]; exact (Keeps.refl _ w).drew
  have y0 := hFW.cell x0 (fun x => x)
  have y1 := hFW.cell h0 (fun x => x)
  rw [her] at HDo
  clear hu hf hdo hbx hhx x0 h0
  go_enter Tryz.func120, Tryz.ntmps120
  go_wp2_with fail
  refine wp_region_ord [0, 1, 2, 3, 4, 5] [4, 5] [] (fun w' => w'.cell? ⟨bx, 0, none⟩ = some (.pointer (some ⟨b, 0, none⟩)) ∧ w'.cell? ⟨hx, 0, none⟩ = some (.func (.func 119) #[.pointer (some ⟨b, 0, none⟩)] #[])) (by kernel_rfl) (by kernel_rfl) (by rw [← hW]; exact ⟨y0, y1⟩) ?_
  rw [← hW]
  clear hW
  repeat (refine' wpOrd_take (v := _) rfl rfl rfl (fun _ _ _ h => h) ?_ ?_; rotate_left; (· intro w' hS; (try dsimp only at hS); go_simp; rfl); (try simp only [Act.put, List.setIfInBounds_toArray, List.set_cons_zero, List.set_cons_succ]))
  refine wpOrd_eff rfl rfl (fun K hK => ?_)
  go_simp
  refine (HDo.out W hFW).mono ?_
  rintro _ w2 ⟨rfl, hk2, hf2⟩
  have z0 := hk2.cell y0 (by rintro (e | e); exact bP e; exact bM e)
  have z1 := hk2.cell y1 (by rintro (e | e); exact hxP e; exact hxM e)
  refine hK _ _ (fun _ => ⟨z0, z1⟩) ?_
  clear hK K y0 y1
  (try simp only [Act.put, List.setIfInBounds_toArray, List.set_cons_zero, List.set_cons_succ])
  have HU2 := Lib.hid ((HU.out.fresh hFW).fsKeeps hP hM hk2)
  have HK2 := Lib.hid ((hFW.mono (G := fun k => k = P ∨ k = M) (fun _ _ h => h.elim)).trans hk2)
  have HF2 := Lib.hid hf2
  refine wpOrd_eff rfl rfl (fun K hK => ?_)
  go_simp
  refine (may_calls x er her1 HU2.out (by omega)).mono ?_
  rintro _ w3 ⟨rfl, log3, hu3, hk3, ho3⟩
  have nb := HU2.out.apart_of (hk2.at (hFW.at HBx.out (fun x => x)) (by rintro (e | e); exact bP e; exact bM e)) (by decide) (by decide)
  have nh := HU2.out.apart_of (hk2.at (hFW.at HHx.out (fun x => x)) (by rintro (e | e); exact hxP e; exact hxM e)) (by decide) (by decide)
  refine hK _ _ (fun _ => ⟨hk3.cell z0 nb, hk3.cell z1 nh⟩) ?_
  clear hK K z0 z1 nb nh
  (try simp only [Act.put, List.setIfInBounds_toArray, List.set_cons_zero, List.set_cons_succ])
  refine wpOrd_nil ?_
  have HU3 := Lib.hid hu3
  have HK3 := Lib.hid hk3
  have HO3 := Lib.hid ho3
  clear hu3 hk3 ho3 hk2 hf2 hFW
  go_wp2_with fail
  go_end0
  exact ⟨rfl, log3, HU3.out, HF2.out.ut HU2.out hBT HK3.out, (HK2.out.mono (fun _ _ h => Or.inl h)).trans (HK3.out.mono (fun _ _ h => Or.inr h)), (Old.refl w _).trans HK2.out.size HO3.out⟩
end Go.Proofs.YtbhmapcjcnceiaaGreatDoor

namespace Go.Proofs.YtbhmapcjcnceiaaGreatDoor
open Go Go.RowKit

theorem strs_some' {w : World} {oa : Option Addr} {c : Nat} {a : ByteArray} {r : List ByteArray} (hs : Strs w oa c (a :: r)) : ∃ g off, oa = some ⟨g, off, none⟩ ∧ ∀ (j : Nat) x, (a :: r)[j]? = some x → w.cell? ⟨g, off + j, none⟩ = some (.string x) := by
  obtain ⟨h1, h2, h3, h4⟩ := hs
  cases oa with
  | none => simp [RowAt] at h4
  | some ad =>
    obtain ⟨g, off, sp⟩ := ad
    obtain rfl : sp = none := h4.spot
    exact ⟨g, off, rfl, fun j x hj => h4.cell (by rw [List.getElem?_map, hj]; rfl)⟩

set_option maxRecDepth 10000 in
set_option maxHeartbeats 1600000 in
theorem mkdir_plain {w : World} (hE : Env w) {b base P M : Nat} {nodes bytes used clock : Int} {t : Tree} {cwd name : ByteArray} {oa : Option Addr} {c : Nat} {inn : Value} {st : Int} {out log : Value} {o l : List UInt8} (x : ByteArray) (hx0 : x.data.toList ≠ [45, 112])
    (hu : Ut w b base (.pointer (some ⟨P, 0, none⟩)) cwd name (.slice oa 1 c) inn st out log o l) (hs : Strs w oa c [x]) (hf : FsAt w P M nodes bytes used clock t) (hB : FsBelow base P M t) (hBT : FsBelow base P M (mkOne nodes bytes used t clock (absOf cwd x).1).1)
    (hc : cwd.size < 4294967281) (hx : x.size < 4294967281) (hok : (absOf cwd x).2 = 0) (ht : t.length ≤ 1000000) (hus : 0 ≤ used ∧ used ≤ 100000000) (hck : 0 ≤ clock ∧ clock ≤ 1099511627776)
    (er : Nat) (her : (mkOne nodes bytes used t clock (absOf cwd x).1).2.2 = (er : Int)) (her1 : er < 100) (hl2 : l.length + name.size + x.size ≤ 1099511627776) :
    Calls Tryz.prog 71 #[.pointer (some ⟨b, 0, none⟩)] w fun e w' => e = .returned (.tuple #[]) ∧ ∃ (args' log' : Value),
      Ut w' b base (.pointer (some ⟨P, 0, none⟩)) cwd name args' inn (catSt st er) out log' o (catLog l name x er) ∧ FsAt w' P M nodes bytes used (mkOne nodes bytes used t clock (absOf cwd x).1).2.1 (mkOne nodes bytes used t clock (absOf cwd x).1).1 ∧
      Keeps (fun k => (k = P ∨ k = M) ∨ utF b out log k) w w' ∧ Old w (utF b out log') (utF b out log) := by
  have hmf : ∀ (fn : Fn) (first cap : Array Value) (w : World), (Instr.makeFunc fn first cap).run Tryz.prog w = .ok (.func fn first cap) w := fun _ _ _ _ => rfl
  obtain ⟨g, off, rfl, hcell⟩ := strs_some' hs
  have g0 := hcell 0 x rfl
  rw [Nat.add_zero] at g0
  have c0 := cell_of_block hu.blk 0
  have c3 := cell_of_block hu.blk 3
  simp at c0 c3
  have hbl := lt_of_block hu.blk
  have hgl : g < w.heap.size := World.block_lt_of_cell? w _ g0
  have HU := Lib.hid hu
  have HFs := Lib.hid hf
  have HE := Lib.hid hE
  have HS := Lib.hid hs
  have t0 := eqb_not hx0
  clear hu hf hE hs hcell
  go_enter Tryz.func71, Tryz.ntmps71
  go_wp2_with fail
  obtain ⟨w0, hw0⟩ : ∃ w0, w0 = (w.alloc (.cells #[.pointer (some ⟨b, 0, none⟩)] 63)).alloc (.cells #[.func (.func 35) #[.pointer (some ⟨P, 0, none⟩)] #[]] 86) := ⟨_, rfl⟩
  have hF0 : Fresh w w0 := by rw [hw0]; exact ((Keeps.refl _ w).alloc _).alloc _
  have hbx : w0.heap[w.heap.size]? = some (.cells #[.pointer (some ⟨b, 0, none⟩)] 63 (0, 0)) := by
    rw [hw0]; exact block_alloc (heap_alloc_new w _)
  have hhx : w0.heap[w.heap.size + 1]? = some (.cells #[.func (.func 35) #[.pointer (some ⟨P, 0, none⟩)] #[]] 86 (0, 0)) := by
    have h1 : (w.alloc (.cells #[.pointer (some ⟨b, 0, none⟩)] 63)).heap.size = w.heap.size + 1 := by simp
    rw [hw0, ← h1]; exact heap_alloc_new _ _
  rw [← hw0]
  clear hw0
  obtain ⟨W, hW⟩ : ∃ W, W = w0.drew := ⟨_, rfl⟩
  have hFW : Fresh w W := by rw [hW]; exact hF0.drew
  have hbW : W.heap[w.heap.size]? = some (.cells #[.pointer (some ⟨b, 0, none⟩)] 63 (0, 0)) := by rw [hW]; exact hbx
  have hhW : W.heap[w.heap.size + 1]? = some (.cells #[.func (.func 35) #[.pointer (some ⟨P, 0, none⟩)] #[]] 86 (0, 0)) := by rw [hW]; exact hhx
  have y0 := cell_of_block hbW 0
  simp at y0
  have y3 := hFW.cell c3 (fun x => x)
  have yg := hFW.cell g0 (fun x => x)
  refine wp_region_ord [0, 1, 2, 3, 4, 5, 6] [6] [] (fun w' => w'.cell? ⟨w.heap.size, 0, none⟩ = some (.pointer (some ⟨b, 0, none⟩)) ∧ w'.cell? ⟨b, 3, none⟩ = some (.slice (some ⟨g, off, none⟩) 1 c)) (by kernel_rfl) (by kernel_rfl) (by rw [← hW]; exact ⟨y0, y3⟩) ?_
  rw [← hW]
  clear hW
  repeat (refine' wpOrd_take (v := _) rfl rfl rfl (fun _ _ _ h => h) ?_ ?_; rotate_left; (· intro w' hS; (try dsimp only at hS); go_simp; rfl); (try simp only [Act.put, List.setIfInBounds_toArray, List.set_cons_zero, List.set_cons_succ]))
  refine wpOrd_eff rfl rfl (fun K hK => ?_)
  go_simp
  have hq := absOf_size cwd x
  have HUW := Lib.hid (HU.out.fresh hFW)
  have HFsW := Lib.hid (HFs.out.fresh hFW)
  have HEW := Lib.hid (HE.out.fresh hFW)
  have he := each_mkdir_c1 HEW.out x HUW.out yg hc hx hok (c := c) (c0 := .pointer (some ⟨w.heap.size, 0, none⟩)) (c1 := .pointer (some ⟨w.heap.size + 1, 0, none⟩))
    (S := fun w2 => ∃ log' : Value, Ut w2 b base (.pointer (some ⟨P, 0, none⟩)) cwd name (.slice (some ⟨g, off, none⟩) 1 c) inn (catSt st er) out log' o (catLog l name x er) ∧ FsAt w2 P M nodes bytes used (mkOne nodes bytes used t clock (absOf cwd x).1).2.1 (mkOne nodes bytes used t clock (absOf cwd x).1).1 ∧
      Keeps (fun k => (k = P ∨ k = M) ∨ utF b out log k) W w2 ∧ Old W (utF b out log') (utF b out log))
    (fun w' hFw => (mkdir1_plain x (absOf cwd x).1 (mkOne nodes bytes used t clock (absOf cwd x).1) er her her1 (HUW.out.fresh hFw) (HFsW.out.fresh hFw) hBT (hFw.at hbW (fun x => x)) (hFw.at hhW (fun x => x)) hl2
      (fun W' hFW' => mkOne_calls ((HFsW.out.fresh hFw).fresh hFW') ((HEW.out.fresh hFw).fresh hFW') (absOf cwd x).1 (by omega) ht hus hck)).mono fun e w2 ⟨h1, log', h2, h3, h4, h5⟩ =>
        ⟨h1, log', h2, h3, (hFw.mono (fun _ _ h => h.elim)).trans h4, (Old.refl W _).trans hFw.size h5⟩)
  refine he.mono ?_
  rintro _ w2 ⟨rfl, log2, hu2, hf2, hk2, ho2⟩
  have nb : ¬ ((w.heap.size = P ∨ w.heap.size = M) ∨ utF b out log w.heap.size) := by
    rintro ((e | e) | e)
    · have := lt_of_block HFs.out.blk; omega
    · have := HFs.out.map.lt; omega
    · exact HUW.out.apart_of hbW (by decide) (by decide) e
  have v0 := hk2.cell y0 nb
  have v3 := cell_of_block hu2.blk 3
  simp at v3
  refine hK _ _ (fun _ => ⟨v0, v3⟩) ?_
  clear hK K y0 y3 v0 v3 nb he
  (try simp only [Act.put, List.setIfInBounds_toArray, List.set_cons_zero, List.set_cons_succ])
  refine wpOrd_nil ?_
  go_wp2_with fail
  go_end0
  exact ⟨rfl, _, log2, hu2, hf2, (hFW.mono (fun _ _ h => h.elim)).trans hk2, (Old.refl w _).trans hFW.size ho2⟩
end Go.Proofs.YtbhmapcjcnceiaaGreatDoor
