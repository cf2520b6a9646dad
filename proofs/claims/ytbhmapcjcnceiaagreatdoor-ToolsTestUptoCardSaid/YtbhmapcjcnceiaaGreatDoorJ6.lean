/- The utilities test and [. -/
import Derived.Test.YtbhmapcjcnceiaaGreatDoorJ5
import Derived.Test.YtbhmapcjcnceiaaGreatDoorG0
namespace Go.Proofs.YtbhmapcjcnceiaaGreatDoor
open Go Go.RowKit

theorem Ut.setSt {w : World} {b base : Nat} {f : Value} {cwd name : ByteArray} {args inn : Value} {st : Int} {out log : Value} {o l : List UInt8} (h : Ut w b base f cwd name args inn st out log o l) (s : Int) :
    Ut (w.setCell ⟨b, 5, none⟩ (.int .i64 s)) b base f cwd name args inn s out log o l := by
  have hone : out.ownBlock ≠ some b := h.bufO.ne h.blk (by decide)
  have hlne : log.ownBlock ≠ some b := h.bufL.ne h.blk (by decide)
  exact ⟨block_setCell h.blk 5 _, h.bufO.keeps (Keeps.set w b 5 _) (fun g hg e => hone (by rw [hg, e])), h.bufL.keeps (Keeps.set w b 5 _) (fun g hg e => hlne (by rw [hg, e])), h.apart, by have := h.hsz; simpa [World.setCell] using this, h.ge⟩
theorem Ut.setArgs {w : World} {b base : Nat} {f : Value} {cwd name : ByteArray} {args inn : Value} {st : Int} {out log : Value} {o l : List UInt8} (h : Ut w b base f cwd name args inn st out log o l) (v : Value) :
    Ut (w.setCell ⟨b, 3, none⟩ v) b base f cwd name v inn st out log o l := by
  have hone : out.ownBlock ≠ some b := h.bufO.ne h.blk (by decide)
  have hlne : log.ownBlock ≠ some b := h.bufL.ne h.blk (by decide)
  exact ⟨block_setCell h.blk 3 _, h.bufO.keeps (Keeps.set w b 3 _) (fun g hg e => hone (by rw [hg, e])), h.bufL.keeps (Keeps.set w b 3 _) (fun g hg e => hlne (by rw [hg, e])), h.apart, by have := h.hsz; simpa [World.setCell] using this, h.ge⟩

theorem truth_calls {w : World} {b base : Nat} {f : Value} {cwd name : ByteArray} {args inn : Value} {st : Int} {out log : Value} {o l : List UInt8} (ok : Bool) (hu : Ut w b base f cwd name args inn st out log o l) :
    Calls Tryz.prog 124 #[.pointer (some ⟨b, 0, none⟩), .bool ok] w fun e w' => e = .returned (.tuple #[]) ∧ Ut w' b base f cwd name args inn (if ok = true then st else 1) out log o l ∧ Keeps (fun k => k = b) w w' := by
  have HU := Lib.hid hu
  have c5 := cell_of_block hu.blk 5
  have f5 := frozen_of_block hu.blk 5
  simp at c5
  clear hu
  cases ok with
  | true =>
    go_enter Tryz.func124, Tryz.ntmps124
    go_wp2_with fail
    go_end0
    exact ⟨rfl, HU.out, Keeps.refl _ _⟩
  | false =>
    go_enter Tryz.func124, Tryz.ntmps124
    go_wp2_with fail
    go_end0
    exact ⟨rfl, HU.out.setSt 1, Keeps.set w b 5 _⟩

theorem bad_calls {w : World} {b base : Nat} {f : Value} {cwd name : ByteArray} {args inn : Value} {st : Int} {out log : Value} {o l : List UInt8} (x : ByteArray) (e : Nat) (he : e < 100)
    (hu : Ut w b base f cwd name args inn st out log o l) (hroom : l.length + (complaint name x e).length ≤ 140737488355328) :
    Calls Tryz.prog 125 #[.pointer (some ⟨b, 0, none⟩), .string x, .int .i64 e] w fun r w' => r = .returned (.tuple #[]) ∧ ∃ log',
      Ut w' b base f cwd name args inn 2 out log' o (l ++ complaint name x e) ∧ Keeps (utF b out log) w w' ∧ Old w (utF b out log') (utF b out log) := by
  have HC := Lib.hid (complain_calls x e he hu hroom)
  clear hu hroom
  go_enter Tryz.func125, Tryz.ntmps125
  go_wp2_with fail
  refine HC.out.mono ?_
  rintro _ w1 ⟨rfl, log1, hu1, hk1, ho1⟩
  have HU := Lib.hid hu1
  have HK := Lib.hid hk1
  have HO := Lib.hid ho1
  have c5 := cell_of_block hu1.blk 5
  have f5 := frozen_of_block hu1.blk 5
  simp at c5
  clear hu1 hk1 ho1
  go_wp2_with fail
  go_end0
  exact ⟨rfl, log1, HU.out.setSt 2, HK.out.setCell (p := ⟨b, 5, none⟩) (fun _ => Or.inl rfl) _, HO.out⟩

theorem testOf_err (t : Tree) (cwd : ByteArray) (l : List ByteArray) : ∃ e : Nat, (testOf t cwd l).2 = (e : Int) ∧ (e = 0 ∨ e = 2) := by
  have none2 : ∀ a b, ∃ e : Nat, (oneOf t cwd a b).2 = (e : Int) ∧ (e = 0 ∨ e = 2) := by
    intro a b
    unfold oneOf
    repeat' split
    all_goals first | exact ⟨0, rfl, Or.inl rfl⟩ | exact ⟨2, rfl, Or.inr rfl⟩
  have ntwo : ∀ a b c, ∃ e : Nat, (twoOf t cwd a b c).2.1 = (e : Int) ∧ (e = 0 ∨ e = 2) := by
    intro a b c
    unfold twoOf
    repeat' split
    all_goals first | exact ⟨0, rfl, Or.inl rfl⟩ | exact ⟨2, rfl, Or.inr rfl⟩
  have n2 : ∀ a b, ∃ e : Nat, (test2 t cwd a b).2 = (e : Int) ∧ (e = 0 ∨ e = 2) := by
    intro a b
    unfold test2
    split
    · exact ⟨0, rfl, Or.inl rfl⟩
    · exact none2 a b
  have n3 : ∀ a b c, ∃ e : Nat, (test3 t cwd a b c).2 = (e : Int) ∧ (e = 0 ∨ e = 2) := by
    intro a b c
    unfold test3
    split
    · exact ntwo a b c
    · split
      · exact n2 b c
      · exact ⟨2, rfl, Or.inr rfl⟩
  match l with
  | [] => exact ⟨0, rfl, Or.inl rfl⟩
  | [a] => exact ⟨0, rfl, Or.inl rfl⟩
  | [a, b] => exact n2 a b
  | [a, b, c] => exact n3 a b c
  | [a, b, c, d] =>
    show ∃ e : Nat, (test4 t cwd a b c d).2 = (e : Int) ∧ (e = 0 ∨ e = 2)
    unfold test4
    split
    · exact n3 b c d
    · exact ⟨2, rfl, Or.inr rfl⟩
  | a :: b :: c :: d :: e :: r => exact ⟨2, rfl, Or.inr rfl⟩

/-- The status and the log behind test. -/
def tstSt (st : Int) (R : Bool × Int) : Int := if R.2 = 0 then (if R.1 = true then st else 1) else 2
def tstLog (l : List UInt8) (name : ByteArray) (R : Bool × Int) : List UInt8 := if R.2 = 0 then l else l ++ complaint name ⟨#[]⟩ 2

set_option maxHeartbeats 1600000 in
theorem utest_calls {w : World} (hE : Env w) {b base P M : Nat} {nodes bytes used clock : Int} {t : Tree} {cwd name : ByteArray} {oa : Option Addr} {c : Nat} {inn : Value} {st : Int} {out log : Value} {o l : List UInt8} (args : List ByteArray)
    (hu : Ut w b base (.pointer (some ⟨P, 0, none⟩)) cwd name (.slice oa args.length c) inn st out log o l) (hs : Strs w oa c args) (hf : FsAt w P M nodes bytes used clock t) (hc : cwd.size < 4294967281) (hx : ∀ x ∈ args, x.size < 4294967281)
    (hb : ∀ x ∈ t, x.2.data.length ≤ 1099511627776) (hroom : l.length + (complaint name ⟨#[]⟩ 2).length ≤ 140737488355328) :
    Calls Tryz.prog 74 #[.pointer (some ⟨b, 0, none⟩)] w fun e w' => e = .returned (.tuple #[]) ∧ ∃ log',
      Ut w' b base (.pointer (some ⟨P, 0, none⟩)) cwd name (.slice oa args.length c) inn (tstSt st (testOf t cwd args)) out log' o (tstLog l name (testOf t cwd args)) ∧ Keeps (utF b out log) w w' ∧ Old w (utF b out log') (utF b out log) := by
  obtain ⟨er, her, her2⟩ := testOf_err t cwd args
  obtain ⟨W, hW⟩ : ∃ W, W = w.drew := ⟨_, rfl⟩
  have hFW : Fresh w W := by rw [hW]; exact (Keeps.refl _ w).drew
  have ht := ctest_calls hc hb args hx (hf.fresh hFW) (hE.fresh hFW) (oa := oa) (c := c) ⟨hs.1, hs.2.1, hs.2.2.1, hs.2.2.2.fresh hFW⟩
  obtain ⟨⟨ok, er'⟩, hq⟩ : ∃ q, testOf t cwd args = q := ⟨_, rfl⟩
  rw [hq] at ht her ⊢
  simp only at her ht
  subst her
  have HT := Lib.hid ht
  have HU := Lib.hid hu
  have HUW := Lib.hid (hu.fresh hFW)
  have HFW := Lib.hid hFW
  have HWd := Lib.hid hW
  have Hr := Lib.hid hroom
  have c0 := cell_of_block hu.blk 0
  have c1 := cell_of_block hu.blk 1
  have c3 := cell_of_block hu.blk 3
  simp at c0 c1 c3
  have y0 := hFW.cell c0 (fun x => x)
  have y1 := hFW.cell c1 (fun x => x)
  have y3 := hFW.cell c3 (fun x => x)
  clear hu hs hf hx hE ht hq hFW hW hroom hb
  go_enter Tryz.func74, Tryz.ntmps74
  go_wp2_with fail
  refine wp_region_ord [0, 1, 2, 3, 4, 5, 6, 7, 8, 9, 10, 11, 12, 13, 14, 15, 16, 17] [12] [] (fun w' => w'.cell? ⟨b, 0, none⟩ = some (.pointer (some ⟨P, 0, none⟩)) ∧ w'.cell? ⟨b, 1, none⟩ = some (.string cwd) ∧ w'.cell? ⟨b, 3, none⟩ = some (.slice oa args.length c)) (by kernel_rfl) (by kernel_rfl) (by rw [← HWd.out]; exact ⟨y0, y1, y3⟩) ?_
  rw [← HWd.out]
  clear c0 c1 c3
  repeat (refine' wpOrd_take (v := _) rfl rfl rfl (fun _ _ _ h => h) ?_ ?_; rotate_left; (· intro w' hS; (try dsimp only at hS); go_simp; rfl); (try simp only [Act.put, List.setIfInBounds_toArray, List.set_cons_zero, List.set_cons_succ]))
  refine wpOrd_eff rfl rfl (fun K hK => ?_)
  go_simp
  refine HT.out.mono ?_
  rintro _ w3 ⟨rfl, hF3⟩
  have HF3 := Lib.hid (HFW.out.trans hF3)
  refine hK _ _ (fun _ => ⟨hF3.cell y0 (fun x => x), hF3.cell y1 (fun x => x), hF3.cell y3 (fun x => x)⟩) ?_
  clear hK K hF3 y0 y1 y3 HT HWd
  (try simp only [Act.put, List.setIfInBounds_toArray, List.set_cons_zero, List.set_cons_succ])
  repeat (refine' wpOrd_take (v := _) rfl rfl rfl (fun _ _ _ h => h) ?_ ?_; rotate_left; (· intro w' hS; (try dsimp only at hS); go_simp; rfl); (try simp only [Act.put, List.setIfInBounds_toArray, List.set_cons_zero, List.set_cons_succ]))
  refine wpOrd_nil ?_
  go_wp2_with fail
  refine (truth_calls ok (HU.out.fresh HF3.out)).mono ?_
  rintro _ w4 ⟨rfl, hu4, hk4⟩
  have HU4 := Lib.hid hu4
  have HK4 := Lib.hid ((HF3.out.mono (G := utF b out log) (fun _ _ h => h.elim)).trans (hk4.mono (fun _ _ h => Or.inl h)))
  clear hu4 hk4
  rcases her2 with rfl | rfl
  · go_wp2_with fail
    go_end0
    exact ⟨rfl, log, HU4.out, HK4.out, Old.refl _ _⟩
  · have HB := Lib.hid (bad_calls ⟨#[]⟩ 2 (by decide) HU4.out Hr.out)
    go_wp2_with fail
    refine HB.out.mono ?_
    rintro _ w5 ⟨rfl, log5, hu5, hk5, ho5⟩
    have HU5 := Lib.hid hu5
    have HK5 := Lib.hid (HK4.out.trans hk5)
    have HO5 := Lib.hid (show Old w (utF b out log5) (utF b out log) from (Old.refl w _).trans HK4.out.size ho5)
    clear hu5 hk5 ho5
    go_wp2_with fail
    go_end0
    exact ⟨rfl, log5, HU5.out, HK5.out, HO5.out⟩

set_option maxHeartbeats 1600000 in
theorem bracket_calls {w : World} (hE : Env w) {b base P M : Nat} {nodes bytes used clock : Int} {t : Tree} {cwd name : ByteArray} {oa : Option Addr} {c : Nat} {inn : Value} {st : Int} {out log : Value} {o l : List UInt8} (args : List ByteArray) (x : ByteArray)
    (hu : Ut w b base (.pointer (some ⟨P, 0, none⟩)) cwd name (.slice oa (args.length + 1) c) inn st out log o l) (hs : Strs w oa c (args ++ [x])) (hf : FsAt w P M nodes bytes used clock t) (hB : FsBelow base P M t) (hc : cwd.size < 4294967281) (hx : ∀ x ∈ args, x.size < 4294967281)
    (hb : ∀ x ∈ t, x.2.data.length ≤ 1099511627776) (hroom : l.length + (complaint name ⟨#[]⟩ 2).length ≤ 140737488355328) (hn : args.length ≤ 1000000) :
    Calls Tryz.prog 75 #[.pointer (some ⟨b, 0, none⟩)] w fun e w' => e = .returned (.tuple #[]) ∧ ∃ args' log',
      Ut w' b base (.pointer (some ⟨P, 0, none⟩)) cwd name args' inn (tstSt st (if x.data.toList = [93] then testOf t cwd args else (false, 2))) out log' o (tstLog l name (if x.data.toList = [93] then testOf t cwd args else (false, 2))) ∧ Keeps (utF b out log) w w' ∧ Old w (utF b out log') (utF b out log) := by
  have hlen := hs.1
  simp only [List.length_append, List.length_cons, List.length_nil] at hlen
  cases oa with
  | none =>
    exfalso
    have : (args ++ [x]).map Value.string = [] := hs.2.2.2
    simp at this
  | some ad =>
  obtain ⟨g, off, sp⟩ := ad
  obtain rfl : sp = none := hs.2.2.2.spot
  have g0 : w.cell? ⟨g, off + args.length, none⟩ = some (.string x) := hs.2.2.2.cell (j := args.length) (by simp)
  have c3 := cell_of_block hu.blk 3
  have f3 := frozen_of_block hu.blk 3
  simp at c3
  have z0 : ¬ ((args.length : Int) < 0) := by omega
  have HU := Lib.hid hu
  have HS := Lib.hid hs
  have HFs := Lib.hid hf
  have HE := Lib.hid hE
  have HX := Lib.hid hx
  have HBt := Lib.hid hb
  have Hr := Lib.hid hroom
  clear hu hs hf hE hx hb hroom
  by_cases e0 : x.data.toList = [93]
  · have t0 := eqb_is e0
    rw [if_pos e0]
    go_enter Tryz.func75, Tryz.ntmps75
    go_wp2_with fail
    have K1 : Keeps (utF b out log) w (w.setCell ⟨b, 3, none⟩ (.slice (some ⟨g, off, none⟩) args.length c)) := (Keeps.refl _ w).setCell (p := ⟨b, 3, none⟩) (fun _ => Or.inl rfl) _
    have hr1 : RowAt (w.setCell ⟨b, 3, none⟩ (.slice (some ⟨g, off, none⟩) args.length c)) 9 (some ⟨g, off, none⟩) (args.map Value.string) := by
      have h1 := HU.out.row_keeps K1 HS.out.2.2.2
      have h2 := h1.take args.length
      rwa [List.map_append, List.take_left' (by simp)] at h2
    have hu1 := HU.out.setArgs (.slice (some ⟨g, off, none⟩) args.length c)
    have hf1 := HFs.out.ut HU.out hB K1
    have hE1 := HE.out.keeps K1 HU.out.ge9
    refine (utest_calls hE1 args hu1 ⟨by omega, HS.out.2.1, fun h => (by cases h), hr1⟩ hf1 hc HX.out HBt.out Hr.out).mono ?_
    rintro _ w4 ⟨rfl, log4, hu4, hk4, ho4⟩
    have HU4 := Lib.hid hu4
    have HK4 := Lib.hid (K1.trans hk4)
    have HO4 := Lib.hid (show Old w (utF b out log4) (utF b out log) from (Old.refl w _).trans K1.size ho4)
    clear hu4 hk4 ho4 hu1 hf1 hE1 hr1 K1
    go_wp2_with fail
    go_end0
    exact ⟨rfl, _, log4, HU4.out, HK4.out, HO4.out⟩
  · have t0 := eqb_not e0
    rw [if_neg e0]
    have HB := Lib.hid (bad_calls ⟨#[]⟩ 2 (by decide) HU.out Hr.out)
    go_enter Tryz.func75, Tryz.ntmps75
    go_wp2_with fail
    refine HB.out.mono ?_
    rintro _ w5 ⟨rfl, log5, hu5, hk5, ho5⟩
    have HU5 := Lib.hid hu5
    have HK5 := Lib.hid hk5
    have HO5 := Lib.hid ho5
    clear hu5 hk5 ho5
    go_wp2_with fail
    (try simp only [Exit.inBlock, Exit.then])
    refine bodyPost_ret (results_none rfl _ _ _) rfl ?_
    exact ⟨rfl, _, log5, HU5.out, HK5.out, HO5.out⟩

theorem compl2 (name : ByteArray) (hn : name.size ≤ 1000) : (complaint name ⟨#[]⟩ 2).length ≤ 2000 := by
  have h1 : (Lib.decDigits 2).length ≤ 1 := decDigits_len 0 2 (by decide)
  simp only [complaint, List.length_append, List.length_cons, List.length_nil, Array.length_toList]
  show name.size + _ + 0 + _ + _ + _ ≤ _
  omega
theorem does_test {w : World} {P M : Nat} {nodes bytes used clock : Int} {t : Tree} {cwd name : ByteArray} {inn : Value} (args : List ByteArray)
    (hf : FsAt w P M nodes bytes used clock t) (hc : cwd.size < 4294967281) (hx : ∀ x ∈ args, x.size < 4294967281) (hn : name.size ≤ 1000) (hb : ∀ x ∈ t, x.2.data.length ≤ 1099511627776) :
    Does 74 w (.pointer (some ⟨P, 0, none⟩)) cwd name args inn (fun _ => False) (tstSt 0 (testOf t cwd args)) [] (tstLog [] name (testOf t cwd args)) (fun _ _ => True) := by
  intro w1 b oa c hF hbb hu hs hE
  refine (utest_calls hE args hu hs (hf.fresh hF) hc hx hb (by have := compl2 name hn; simp only [List.length_nil]; omega)).mono ?_
  rintro _ w2 ⟨rfl, log', hu2, hk2, -⟩
  refine ⟨rfl, _, _, log', hu2, hk2.mono (fun k hk h => ?_), trivial⟩
  rcases h with h | h | h
  · exact Or.inl h
  · cases h
  · cases h
theorem does_bracket {w : World} {P M : Nat} {nodes bytes used clock : Int} {t : Tree} {cwd name : ByteArray} {inn : Value} (args : List ByteArray) (x : ByteArray)
    (hf : FsAt w P M nodes bytes used clock t) (hc : cwd.size < 4294967281) (hx : ∀ x ∈ args, x.size < 4294967281) (hn : name.size ≤ 1000) (hb : ∀ x ∈ t, x.2.data.length ≤ 1099511627776) (hal : args.length ≤ 1000000) :
    Does 75 w (.pointer (some ⟨P, 0, none⟩)) cwd name (args ++ [x]) inn (fun _ => False) (tstSt 0 (if x.data.toList = [93] then testOf t cwd args else (false, 2))) [] (tstLog [] name (if x.data.toList = [93] then testOf t cwd args else (false, 2))) (fun _ _ => True) := by
  intro w1 b oa c hF hbb hu hs hE
  have e : (args ++ [x]).length = args.length + 1 := by simp
  rw [e] at hu
  have hb0 := hf.below
  refine (bracket_calls hE args x hu hs (hf.fresh hF) hb0 hc hx hb (by have := compl2 name hn; simp only [List.length_nil]; omega) hal).mono ?_
  rintro _ w2 ⟨rfl, args', log', hu2, hk2, -⟩
  refine ⟨rfl, args', _, log', hu2, hk2.mono (fun k hk h => ?_), trivial⟩
  rcases h with h | h | h
  · exact Or.inl h
  · cases h
  · cases h
end Go.Proofs.YtbhmapcjcnceiaaGreatDoor
