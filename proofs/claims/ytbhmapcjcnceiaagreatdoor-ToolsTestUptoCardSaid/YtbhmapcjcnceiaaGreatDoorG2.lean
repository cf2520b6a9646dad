/- What cat does: its arguments' files one behind the other. -/
import Derived.Test.YtbhmapcjcnceiaaGreatDoorG1
namespace Go.Proofs.YtbhmapcjcnceiaaGreatDoor
open Go Go.RowKit

/-- One argument more of cat: status, output, log. -/
def catStep (t : Tree) (cwd name : ByteArray) (inn : List UInt8) (s : Int × List UInt8 × List UInt8) (x : ByteArray) : Int × List UInt8 × List UInt8 :=
  if x.data.toList = [45] then (s.1, s.2.1 ++ inn, s.2.2)
  else (catSt s.1 (fsRead t (absOf cwd x).1).2.toNat, s.2.1 ++ (fsRead t (absOf cwd x).1).1, catLog s.2.2 name x (fsRead t (absOf cwd x).1).2.toNat)
/-- Behind k arguments. -/
def catAt (t : Tree) (cwd name : ByteArray) (inn : List UInt8) (s : Int × List UInt8 × List UInt8) (l : List ByteArray) (k : Nat) : Int × List UInt8 × List UInt8 := (l.take k).foldl (catStep t cwd name inn) s
theorem catAt_next {t : Tree} {cwd name : ByteArray} {inn : List UInt8} {s : Int × List UInt8 × List UInt8} {l : List ByteArray} {k : Nat} (h : k < l.length) : catAt t cwd name inn s l (k + 1) = catStep t cwd name inn (catAt t cwd name inn s l k) l[k] := by
  unfold catAt
  rw [List.take_add_one, List.getElem?_eq_getElem h, List.foldl_append]
  rfl

set_option maxHeartbeats 1600000 in
theorem cat_calls {w : World} (hE : Env w) {b base P M : Nat} {nodes bytes used clock : Int} {t : Tree} {cwd name : ByteArray} {oa : Option Addr} {c : Nat} {ia : Option Addr} {ic : Nat} {st : Int} {out log : Value} {o l : List UInt8} (args : List ByteArray) (inn : List UInt8)
    (hu : Ut w b base (.pointer (some ⟨P, 0, none⟩)) cwd name (.slice oa args.length c) (.slice ia inn.length ic) st out log o l) (hs : Strs w oa c args) (hpos : 0 < args.length) (hf : FsAt w P M nodes bytes used clock t) (hB : FsBelow base P M t)
    (hin : ReadB w ia ic inn) (hib : ∀ ad, ia = some ad → 0 < inn.length → ad.block < base) (hc : cwd.size < 4294967281) (hx : ∀ x ∈ args, x.size < 1000000 ∧ (x.data.toList = [45] ∨ (absOf cwd x).2 = 0)) (hn : name.size ≤ 1000) (hal : args.length ≤ 1000)
    (hb : ∀ x ∈ t, x.2.data.length ≤ 1099511627776) (hl : ∀ k, k ≤ args.length → (catAt t cwd name inn (st, o, l) args k).2.1.length ≤ 1099511627776 ∧ (catAt t cwd name inn (st, o, l) args k).2.2.length ≤ 109951162777) :
    Calls Tryz.prog 67 #[.pointer (some ⟨b, 0, none⟩)] w fun e w' => e = .returned (.tuple #[]) ∧ ∃ (out' log' : Value),
      Ut w' b base (.pointer (some ⟨P, 0, none⟩)) cwd name (.slice oa args.length c) (.slice ia inn.length ic) (catAt t cwd name inn (st, o, l) args args.length).1 out' log' (catAt t cwd name inn (st, o, l) args args.length).2.1 (catAt t cwd name inn (st, o, l) args args.length).2.2 ∧
      Keeps (utF b out log) w w' ∧ Old w (utF b out' log') (utF b out log) := by
  have hmf : ∀ (fn : Fn) (first cap : Array Value) (w : World), (Instr.makeFunc fn first cap).run Tryz.prog w = .ok (.func fn first cap) w := fun _ _ _ _ => rfl
  cases oa with
  | none =>
    exfalso
    have : args.map Value.string = [] := hs.2.2.2
    simp at this
    subst this
    simp at hpos
  | some ad =>
  obtain ⟨ga, off, sp⟩ := ad
  obtain rfl : sp = none := hs.2.2.2.spot
  have c3 := cell_of_block hu.blk 3
  simp at c3
  have hbl := lt_of_block hu.blk
  have z0 : ((args.length : Int) == 0) = false := by rw [beq_eq_false_iff_ne]; omega
  have HU := Lib.hid hu
  have HS := Lib.hid hs
  have HFs := Lib.hid hf
  have HIn := Lib.hid hin
  have HX := Lib.hid hx
  have HL := Lib.hid hl
  have HE := Lib.hid hE
  clear hu hs hf hin hx hl hE
  go_enter Tryz.func67, Tryz.ntmps67
  go_wp2_with fail
  have hF0 : Fresh w (w.alloc (.cells #[.pointer (some ⟨b, 0, none⟩)] 63)) := (Keeps.refl _ w).alloc _
  have hx0 : (w.alloc (.cells #[.pointer (some ⟨b, 0, none⟩)] 63)).heap[w.heap.size]? = some (.cells #[.pointer (some ⟨b, 0, none⟩)] 63 (0, 0)) := heap_alloc_new w _
  obtain ⟨W, hW⟩ : ∃ W, W = w.alloc (.cells #[.pointer (some ⟨b, 0, none⟩)] 63) := ⟨_, rfl⟩
  obtain ⟨bx, hbx⟩ : ∃ bx, bx = w.heap.size := ⟨_, rfl⟩
  rw [← hW] at hF0 hx0 ⊢
  rw [← hbx] at hx0 ⊢
  have HF0 := Lib.hid hF0
  have HX0 := Lib.hid hx0
  clear hF0 hx0 hW hbl c3 z0 hbx
  go_loopw [19] (fun i wr => ∃ (k : Nat) (out' log' : Value), k ≤ args.length ∧ i = .int .i64 k ∧
    Ut wr b base (.pointer (some ⟨P, 0, none⟩)) cwd name (.slice (some ⟨ga, off, none⟩) args.length c) (.slice ia inn.length ic) (catAt t cwd name inn (st, o, l) args k).1 out' log' (catAt t cwd name inn (st, o, l) args k).2.1 (catAt t cwd name inn (st, o, l) args k).2.2 ∧
    Keeps (utF b out log) w wr ∧ Old w (utF b out' log') (utF b out log) ∧ wr.heap[bx]? = some (.cells #[.pointer (some ⟨b, 0, none⟩)] 63 (0, 0))) (fun i _ => args.length - (intOf i).toNat)
  case atStart => exact ⟨0, out, log, by omega, rfl, HU.out.fresh HF0.out, HF0.out.mono (fun _ _ h => h.elim), Old.refl _ _, HX0.out⟩
  case round =>
    obtain ⟨k, out', log', hk, rfl, hu, hkp, hod, hxw⟩ := hrel
    rename_i wr
    have HU1 := Lib.hid hu
    have HK1 := Lib.hid hkp
    have HO1 := Lib.hid hod
    have HX1 := Lib.hid hxw
    have x0 := cell_of_block hxw 0
    simp at x0
    clear hu hkp hod hxw
    by_cases hlt : k < args.length
    · have hmem := HX.out args[k] (List.getElem_mem hlt)
      have hnext := catAt_next (t := t) (cwd := cwd) (name := name) (inn := inn) (s := (st, o, l)) hlt
      have hgu : ¬ utF b out log ga := by
        obtain ⟨_, cur, fz, hgb, _⟩ := HS.out.2.2.2
        rintro (h | h | h)
        · exact HS.out.2.2.2.ne HU.out.blk (by decide) _ rfl h
        · exact HU.out.bufO.ne hgb (by decide) h
        · exact HU.out.bufL.ne hgb (by decide) h
      have hcell : wr.cell? ⟨ga, off + k, none⟩ = some (.string args[k]) := HK1.out.cell (HS.out.2.2.2.cell (j := k) (u := .string args[k]) (by simp [hlt])) hgu
      have hbound := HL.out (k + 1) hlt
      have hbound0 := HL.out k (by omega)
      rw [hnext] at hbound
      have HNext := Lib.hid hnext
      have HF1 := Lib.hid (HFs.out.ut HU.out hB HK1.out)
      have hE1 : Env wr := HE.out.keeps HK1.out HU.out.ge9
      have HE1 := Lib.hid hE1
      clear hnext hgu hE1
      generalize args[k] = x at hcell hmem hbound HNext
      obtain ⟨⟨st1, o1, l1⟩, hs1⟩ : ∃ s1, catAt t cwd name inn (st, o, l) args k = s1 := ⟨_, rfl⟩
      rw [hs1] at HU1 HNext hbound hbound0
      clear hs1
      by_cases e0 : x.data.toList = [45]
      · have t0 := eqb_is e0
        have hst : catStep t cwd name inn (st1, o1, l1) x = (st1, o1 ++ inn, l1) := by unfold catStep; rw [if_pos e0]
        rw [hst] at HNext hbound
        simp only [List.length_append] at hbound
        have c4 := cell_of_block HU1.out.blk 4
        have c6 := cell_of_block HU1.out.blk 6
        simp at c4 c6
        go_wp2_with fail
        obtain ⟨W1, hW1⟩ : ∃ W1, W1 = wr.drew := ⟨_, rfl⟩
        have hFW : Fresh wr W1 := by rw [hW1]; exact (Keeps.refl _ wr).drew
        have y0 := hFW.cell x0 (fun x => x)
        have y4 := hFW.cell c4 (fun x => x)
        have y6 := hFW.cell c6 (fun x => x)
        refine wp_region_ord [0, 1, 2, 3, 4, 5, 6, 7, 8, 9, 10, 11, 12, 13, 14] [10, 11, 12, 13, 14] [14] (fun w => w.cell? ⟨bx, 0, none⟩ = some (.pointer (some ⟨b, 0, none⟩)) ∧ w.cell? ⟨b, 4, none⟩ = some (.slice ia inn.length ic) ∧ w.cell? ⟨b, 6, none⟩ = some out') (by kernel_rfl) (by kernel_rfl) (by rw [← hW1]; exact ⟨y0, y4, y6⟩) ?_
        rw [← hW1]
        clear hW1 x0 c4 c6 hcell
        repeat (refine' wpOrd_take (v := _) rfl rfl rfl (fun _ _ _ h => h) ?_ ?_; rotate_left; (· intro w' hS; (try dsimp only at hS); go_simp; rfl); (try simp only [Act.put, List.setIfInBounds_toArray, List.set_cons_zero, List.set_cons_succ]))
        have HUW := Lib.hid (HU1.out.fresh hFW)
        have HXW := Lib.hid (hFW.at HX1.out (fun x => x))
        have hinw : ReadB W1 ia ic inn := (HIn.out.keeps HK1.out (fun ad had h0 e => by
          have h1 := hib ad had h0
          rcases e with e | e | e
          · have := HU.out.ge.2; omega
          · have := HU.out.bufO.ge e; omega
          · have := HU.out.bufL.ge e; omega)).fresh hFW
        have HLen := Lib.hid (cellsOf_length inn)
        have HZ3 := Lib.hid hinw.1
        have HAdd := Lib.hid hinw.2
        have HFW := Lib.hid hFW
        clear hinw hFW
        refine wpOrd_eff rfl rfl (fun K hK => ?_)
        refine st_app_row rfl _ _ _ rfl base 5 (.int .u8 0) 1 Tryz.underlying25 info_byte rfl out' o1.length (cellsOf o1) rfl HUW.out.bufO ia inn.length ic (cellsOf inn) rfl HZ3.out HLen.out HAdd.out (cells_one inn) (by omega) (by omega) HUW.out.hsz ?_
        intro oa' oc' w3 hown3 hg3 hat3
        have hap := Ut.appended HUW.out rfl hown3 hg3 hat3
        have HAp := Lib.hid hap
        have hne0 := HUW.out.bufO.ne HUW.out.blk (by decide)
        have hbl3 := grown_at hg3 HUW.out.blk hne0
        have f6 := frozen_of_block hbl3 6
        have z4 := cell_of_block hbl3 4
        have z6 := cell_of_block hbl3 6
        simp at z4 z6
        have hxo : out'.ownBlock ≠ some bx := fun e => HUW.out.bufO.ne HXW.out (by decide) e
        have HX3 := Lib.hid (grown_at hg3 HXW.out hxo)
        have z0 : w3.cell? ⟨bx, 0, none⟩ = some (.pointer (some ⟨b, 0, none⟩)) := (Keeps.grew hg3).cell y0 hxo
        clear hap hown3 hg3 hat3 hbl3 hne0 hxo y0 y4 y6
        refine hK _ _ (fun _ => ⟨z0, z4, z6⟩) ?_
        clear hK K
        (try simp only [Act.put, List.setIfInBounds_toArray, List.set_cons_zero, List.set_cons_succ])
        (refine wpOrd_eff rfl rfl (fun K hK => ?_); go_simp; refine hK _ _ (fun _ => ⟨z0, z4, z6⟩) ?_; clear hK K; (try simp only [Act.put, List.setIfInBounds_toArray, List.set_cons_zero, List.set_cons_succ]))
        (refine wpOrd_eff rfl rfl (fun K hK => ?_); go_simp; refine hK _ _ (fun _ => ⟨z0, z4, z6⟩) ?_; clear hK K; (try simp only [Act.put, List.setIfInBounds_toArray, List.set_cons_zero, List.set_cons_succ]))
        (refine wpOrd_eff rfl rfl (fun K hK => ?_); go_simp; refine hK _ _ (fun _ => ⟨z0, z4, z6⟩) ?_; clear hK K; (try simp only [Act.put, List.setIfInBounds_toArray, List.set_cons_zero, List.set_cons_succ]))
        (refine wpOrd_eff rfl rfl (fun K hK => ?_); go_simp; refine hK _ _ (fun h => by cases h) ?_; clear hK K; (try simp only [Act.put, List.setIfInBounds_toArray, List.set_cons_zero, List.set_cons_succ]))
        refine wpOrd_nil ?_
        have HX4 := Lib.hid (show (w3.setCell ⟨b, 6, none⟩ (.slice oa' (o1.length + inn.length) oc')).heap[bx]? = some (.cells #[.pointer (some ⟨b, 0, none⟩)] 63 (0, 0)) by
          rw [block_setCell_ne (by
            intro e
            have h2 := HUW.out.blk
            have e' : bx = b := e
            rw [← e', HXW.out] at h2
            simp at h2)]
          exact HX3.out)
        go_wp2_with fail
        exact ⟨⟨k + 1, .slice oa' (o1.length + inn.length) oc', log', by omega, by go_num, by rw [HNext.out]; exact HAp.out.1, HK1.out.then ((HFW.out.mono (G := utF b out' log') (fun _ _ h => h.elim)).trans HAp.out.2.1) (fun i hi h => HO1.out i hi h), HO1.out.trans HK1.out.size ((Old.refl wr _).trans HFW.out.size HAp.out.2.2), HX4.out⟩, by simp [intOf]; omega⟩
      · have t0 := eqb_not e0
        have hok : (absOf cwd x).2 = 0 := hmem.2.resolve_left e0
        have hst : catStep t cwd name inn (st1, o1, l1) x = (catSt st1 (fsRead t (absOf cwd x).1).2.toNat, o1 ++ (fsRead t (absOf cwd x).1).1, catLog l1 name x (fsRead t (absOf cwd x).1).2.toNat) := by unfold catStep; rw [if_neg e0]
        rw [hst] at HNext hbound
        simp only [List.length_append] at hbound hbound0
        have hfa : Fresh wr (wr.alloc (.cells #[.string x] 9)) := (Keeps.refl _ wr).alloc _
        have hnb : (wr.alloc (.cells #[.string x] 9)).heap[wr.heap.size]? = some (.cells #[.string x] 9 (0, 0)) := heap_alloc_new wr _
        have hg0 := cell_of_block hnb 0
        simp only [List.getElem?_toArray, List.getElem?_cons_zero] at hg0
        have HEach := Lib.hid (each_cat_calls (g := wr.heap.size) (HE1.out.fresh hfa) x (HU1.out.fresh hfa) (HF1.out.fresh hfa) hB (hfa.at HX1.out (fun x => x)) hg0 hc (by omega) hok hb hbound.1 (show l1.length + name.size + x.size ≤ 1099511627776 by omega))
        have HFa := Lib.hid hfa
        clear hfa hnb hg0 hst
        go_wp2_with fail
        refine HEach.out.mono ?_
        rintro _ w5 ⟨rfl, out5, log5, hu5, hk5, ho5⟩
        have hx5 := hk5.at (HFa.out.at HX1.out (fun x => x)) (by
          rintro (h | h | h)
          · have := HU1.out.blk
            rw [← h, HX1.out] at this
            simp at this
          · exact HU1.out.bufO.ne HX1.out (by decide) h
          · exact HU1.out.bufL.ne HX1.out (by decide) h)
        have HU5 := Lib.hid hu5
        have HK5 := Lib.hid (HK1.out.then ((HFa.out.mono (G := utF b out' log') (fun _ _ h => h.elim)).trans hk5) (fun i hi h => HO1.out i hi h))
        have HO5 := Lib.hid (HO1.out.trans HK1.out.size ((Old.refl wr _).trans HFa.out.size ho5))
        have HX5 := Lib.hid hx5
        clear hu5 hk5 ho5 hx5
        go_wp2_with fail
        exact ⟨⟨k + 1, out5, log5, by omega, by go_num, by rw [HNext.out]; exact HU5.out, HK5.out, HO5.out, HX5.out⟩, by simp [intOf]; omega⟩
    · obtain rfl : k = args.length := by omega
      go_wp2_with fail
      go_end0
      exact ⟨rfl, out', log', HU1.out, HK1.out, HO1.out⟩
end Go.Proofs.YtbhmapcjcnceiaaGreatDoor
