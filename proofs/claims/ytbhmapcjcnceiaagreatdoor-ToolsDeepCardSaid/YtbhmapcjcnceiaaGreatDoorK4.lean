/- The file system in memory: All (how many it tells). -/
import Derived.Test.YtbhmapcjcnceiaaGreatDoorK3
namespace Go.Proofs.YtbhmapcjcnceiaaGreatDoor
open Go Go.RowKit

section
variable {P : Program} {ops : Array Oper} {o : Oper} {a : Act} {w : World} {K : Act → World → Prop} {Q : Exit → Act → World → Prop} {E : Prop}
/-- 'append(b, x...)' onto a row that is owned, whatever its elements' size. -/
theorem st_app_own (hgd : o.guard = none) (sl x : Operand) (t : TypeId) (ho : o.op = .call { callee := .builtin .append, args := #[sl, x], argTypes := #[t, t] })
    (base : Nat) (e : TypeId) (z : Value) (size bytes : Nat) (ht : P.underlying t = some (.slice e)) (hi : (P.info? e).map (fun i => (i.zero, i.size, i.bytes)) = some (some z, size, bytes)) (hzs : z.cells.size = size) (hsz : 0 < size)
    (v : Value) (n : Nat) (xs : List Value) (hs : a.eval sl = v) (hown : w.ownsRow base e size v n xs)
    (ad : Addr) (m c : Nat) (news : List Value) (hx : a.eval x = .slice (some ad) m c) (hl : news.length = m * size) (hrow : ∀ j u, news[j]? = some u → w.cell? (ad.add j) = some u) (h1 : ∀ u ∈ news, u.oneCell' = true)
    (h63 : n + m ≤ maxLen) (hbytes : (n + m) * bytes ≤ 140737488355328) (hbase : base ≤ w.heap.size)
    (h : ∀ oa c' w', w'.ownsRow base e size (.slice oa (n + m) c') (n + m) (xs ++ news) → w.grownBy w' v.ownBlock → K (a.put o.dst (.slice oa (n + m) c')) w') : if Region.wanted o (yielded ops a.tmps) = true then Oper.wp P o a w K Q else E := by
  rw [if_pos (by simp [Region.wanted, hgd])]
  obtain ⟨i, hi', hz, hs1, hby⟩ : ∃ i, P.info? e = some i ∧ i.zero = some z ∧ i.size = size ∧ i.bytes = bytes := by
    cases hh : P.info? e with
    | none => rw [hh] at hi; simp at hi
    | some i => rw [hh] at hi; simp at hi; exact ⟨i, rfl, hi⟩
  obtain ⟨v', w', hr, h2, h3, h4, h5⟩ := run_append_own_at (P := P) w base t o.type e i z size bytes ht hi' hz hs1 hby hzs hsz v n xs hown ad m c news hl hrow h1 h63 hbytes hbase
  obtain ⟨oa, c', rfl⟩ := ownsRow_shape h2
  unfold Oper.wp execOp
  simp only [ho, resolve, invoke, builtin, Sem.run_bind, Sem.run_pure, Result.andThen_ok, List.map_toArray, List.map_cons, List.map_nil, hs, hx, hr]
  exact h oa c' w' h2 h3
end
theorem info_entry : (Tryz.prog.info? 80).map (fun i => (i.zero, i.size, i.bytes)) = some (some (.agg #[.string ⟨#[]⟩, .bool false, .slice none 0 0, .int .i64 0]), 4, 56) := by kernel_rfl
set_option maxRecDepth 10000 in
set_option maxHeartbeats 1600000 in
theorem fsall_calls {w : World} {P M : Nat} {nodes bytes used clock : Int} {t : Tree} (h : FsAt w P M nodes bytes used clock t) (ht : t.length ≤ 1000000) (hd : ∀ x ∈ t, x.2.data.length ≤ 1099511627776) :
    Calls Tryz.prog 15 #[.pointer (some ⟨P, 0, none⟩)] w fun e w' => ∃ oa c, e = .returned (.slice oa (belowL t ⟨#[47]⟩).length c) ∧ Fresh w w' := by
  have hz : ∀ w, (zeroValue 74).run Tryz.prog w = .ok (.agg #[.bool false, .slice none 0 0, .int .i64 0]) w := fun _ => by kernel_rfl
  have Hz := Lib.hid hz
  have H := Lib.hid h
  have HBl := Lib.hid (below_calls h ⟨#[47]⟩ (by decide) ht)
  have hbl := below_len t ⟨#[47]⟩
  have HD := Lib.hid hd
  generalize belowL t ⟨#[47]⟩ = bl at HBl hbl ⊢
  clear h hz hd
  go_enter Tryz.func15, Tryz.ntmps15
  go_wp2_with fail
  refine HBl.out.mono ?_
  rintro _ w1 ⟨ba, bc, rfl, hown1, hF1⟩
  have HOwn1 := Lib.hid hown1
  have HF1 := Lib.hid hF1
  have H1 := Lib.hid (H.out.fresh hF1)
  clear hown1 hF1 HBl
  go_wp2_with fail
  go_loopw [3, 10] (fun out i wr => ∃ (oa : Option Addr) (c : Nat) (k : Nat) (xs : List Value), k ≤ bl.length ∧ i = .int .i64 k ∧ out = .slice oa k c ∧
    wr.ownsRow w1.heap.size 80 4 (.slice oa k c) k xs ∧ Fresh w1 wr) (fun _ i _ => bl.length - (intOf i).toNat)
  case atStart => exact ⟨none, 0, 0, [], by omega, rfl, rfl, World.ownsRow_nil _ _ _ _, Fresh.refl _⟩
  case round =>
    obtain ⟨oa, c, k, xs, hk, rfl, rfl, hown, hF⟩ := hrel
    rename_i wr
    have HOwn := Lib.hid hown
    have HF := Lib.hid hF
    clear hown hF
    by_cases hlt : k < bl.length
    · obtain ⟨ad, rfl⟩ : ∃ ad, ba = some ad := by
        cases ba with
        | none => exact absurd HOwn1.out.2 (by
            rintro (⟨_, h0⟩ | ⟨g, cap, cur, h, _⟩)
            · omega
            · cases h)
        | some ad => exact ⟨ad, rfl⟩
      obtain ⟨g, off, sp⟩ := ad
      have hrow : RowAt w1 9 (some ⟨g, off, sp⟩) (bl.map encStr) := RowAt.of_owns HOwn1.out
      obtain rfl : sp = none := hrow.spot
      have hcell : wr.cell? ⟨g, off + k, none⟩ = some (.string (B bl[k])) := HF.out.cell (hrow.cell (j := k) (by simp [hlt, B])) (fun x => x)
      obtain ⟨q, hq⟩ : ∃ q, B bl[k] = q := ⟨_, rfl⟩
      rw [hq] at hcell
      have H2 := Lib.hid (H1.out.fresh HF.out)
      obtain ⟨d0, oa0, c0, x0, hnode, hrow0, hc0⟩ := look_node H2.out q
      have hdl : (dataOf t q).length ≤ 1099511627776 := by
        unfold dataOf
        cases hlk : look q t with
        | none => simp
        | some n => simpa using HD.out _ (look_mem hlk)
      obtain ⟨dt, hdt⟩ : ∃ dt, dataOf t q = dt := ⟨_, rfl⟩
      rw [hdt] at hnode hrow0 hdl
      obtain ⟨rn, hrn⟩ : ∃ rn, find q (t.map fun p => (p.1, p.2.val)) = rn := ⟨_, rfl⟩
      rw [hrn] at hnode
      have HFd := Lib.hid hrn
      have HM := Lib.hid H2.out.map
      have hc := cell_of_block H2.out.blk 0
      simp at hc
      have HRow0 := Lib.hid hrow0
      clear hq hrow hdt hrn hrow0 hc0
      go_wp2_with (refine wp_lookup_str rfl _ _ _ _ rfl 9 74 Tryz.underlying67 Tryz.underlying9 (.agg #[.bool false, .slice none 0 0, .int .i64 0]) (Hz.out _) M _ rfl q rfl HM.out rn HFd.out ?_)
      have hfa : Fresh wr (wr.alloc (.cells #[.bool d0, .slice oa0 dt.length c0, .int .i64 x0] 74)) := (Keeps.refl _ wr).alloc _
      have hnb : (wr.alloc (.cells #[.bool d0, .slice oa0 dt.length c0, .int .i64 x0] 74)).heap[wr.heap.size]? = some (.cells #[.bool d0, .slice oa0 dt.length c0, .int .i64 x0] 74 (0, 0)) := heap_alloc_new wr _
      obtain ⟨W, hW⟩ : ∃ W, W = (wr.alloc (.cells #[.bool d0, .slice oa0 dt.length c0, .int .i64 x0] 74)).drew := ⟨_, rfl⟩
      have hFW : Fresh wr W := by rw [hW]; exact hfa.drew
      have hnW : W.heap[wr.heap.size]? = some (.cells #[.bool d0, .slice oa0 dt.length c0, .int .i64 x0] 74 (0, 0)) := by rw [hW]; exact hnb
      have y0 := cell_of_block hnW 0
      have y1 := cell_of_block hnW 1
      have y2 := cell_of_block hnW 2
      simp at y0 y1 y2
      refine wp_region_ord [0, 1, 2, 3, 4, 5, 7, 8, 6, 9, 10, 11, 12] [6, 10, 11, 12] [] (fun w' => w'.cell? ⟨wr.heap.size, 0, none⟩ = some (.bool d0) ∧ w'.cell? ⟨wr.heap.size, 1, none⟩ = some (.slice oa0 dt.length c0) ∧ w'.cell? ⟨wr.heap.size, 2, none⟩ = some (.int .i64 x0)) (by kernel_rfl) (by kernel_rfl) (by rw [← hW]; exact ⟨y0, y1, y2⟩) ?_
      rw [← hW]
      have HFW := Lib.hid hFW
      have HNW := Lib.hid hnW
      have HOW := Lib.hid (ownsRow_keeps HOwn.out hFW (fun _ _ x => x))
      clear hW hfa hnb hFW hnode hc hcell hnW
      repeat (refine' wpOrd_take (v := _) rfl rfl rfl (fun _ _ _ h => h) ?_ ?_; rotate_left; (· intro w' hS; (try dsimp only at hS); go_simp; rfl); (try simp only [Act.put, List.setIfInBounds_toArray, List.set_cons_zero, List.set_cons_succ]))
      refine wpOrd_eff rfl rfl (fun K hK => ?_)
      go_simp
      refine (clone_calls oa0 dt.length c0 dt rfl (HRow0.out.fresh HFW.out) hdl).mono ?_
      rintro _ w3 ⟨ca, cc, rfl, -, hF3, -⟩
      have z0 := hF3.cell y0 (fun x => x)
      have z1 := hF3.cell y1 (fun x => x)
      have z2 := hF3.cell y2 (fun x => x)
      have HF3 := Lib.hid (HFW.out.trans hF3)
      have HN3 := Lib.hid (hF3.at HNW.out (fun x => x))
      have HO3 := Lib.hid (ownsRow_keeps HOW.out hF3 (fun _ _ x => x))
      refine hK _ _ (fun _ => ⟨z0, z1, z2⟩) ?_
      clear hK K hF3 y0 y1 y2
      (try simp only [Act.put, List.setIfInBounds_toArray, List.set_cons_zero, List.set_cons_succ])
      repeat (refine' wpOrd_take (v := _) rfl rfl rfl (fun _ _ _ h => h) ?_ ?_; rotate_left; (· intro w' hS; (try dsimp only at hS); go_simp; rfl); (try simp only [Act.put, List.setIfInBounds_toArray, List.set_cons_zero, List.set_cons_succ]))
      have hfb : Fresh w3 (w3.alloc (.cells #[.string q, .bool d0, .slice ca dt.length cc, .int .i64 x0] 80)) := (Keeps.refl _ w3).alloc _
      refine wpOrd_eff rfl rfl (fun K hK => ?_)
      go_simp
      refine hK _ _ (fun _ => ⟨hfb.cell z0 (fun x => x), hfb.cell z1 (fun x => x), hfb.cell z2 (fun x => x)⟩) ?_
      clear hK K
      (try simp only [Act.put, List.setIfInBounds_toArray, List.set_cons_zero, List.set_cons_succ])
      have HOb := Lib.hid (ownsRow_keeps HO3.out hfb (fun _ _ x => x))
      have HNb := Lib.hid (hfb.at HN3.out (fun x => x))
      have hnb2 : (w3.alloc (.cells #[.string q, .bool d0, .slice ca dt.length cc, .int .i64 x0] 80)).heap[w3.heap.size]? = some (.cells #[.string q, .bool d0, .slice ca dt.length cc, .int .i64 x0] 80 (0, 0)) := heap_alloc_new w3 _
      have hcells : ∀ j u, [Value.string q, .bool d0, .slice ca dt.length cc, .int .i64 x0][j]? = some u → (w3.alloc (.cells #[.string q, .bool d0, .slice ca dt.length cc, .int .i64 x0] 80)).cell? ((⟨w3.heap.size, 0, none⟩ : Addr).add j) = some u := fun j u hu => (RowAt.of_block (xs := [Value.string q, .bool d0, .slice ca dt.length cc, .int .i64 x0]) hnb2).add j u hu
      have hsz5 : w1.heap.size ≤ (w3.alloc (.cells #[.string q, .bool d0, .slice ca dt.length cc, .int .i64 x0] 80)).heap.size := Nat.le_trans (Nat.le_trans HF.out.size HF3.out.size) hfb.size
      have HFb := Lib.hid ((HF.out.trans HF3.out).trans hfb)
      refine wpOrd_eff rfl rfl (fun K hK => ?_)
      refine st_app_own rfl _ _ _ rfl w1.heap.size 80 (.agg #[.string ⟨#[]⟩, .bool false, .slice none 0 0, .int .i64 0]) 4 56 Tryz.underlying39 info_entry rfl (by decide) (.slice oa k c) k xs rfl HOb.out ⟨w3.heap.size, 0, none⟩ 1 1 [.string q, .bool d0, .slice ca dt.length cc, .int .i64 x0] rfl rfl hcells (by intro u hu; simp at hu; rcases hu with rfl | rfl | rfl | rfl <;> rfl) (by unfold maxLen; omega) (by omega) hsz5 ?_
      intro ao ac w5 hown5 hg5
      have hN5 := grown_at hg5 HNb.out (ownsRow_ne HOb.out HNb.out (by decide))
      have u0 := cell_of_block hN5 0
      have u1 := cell_of_block hN5 1
      have u2 := cell_of_block hN5 2
      simp at u0 u1 u2
      refine hK _ _ (fun _ => ⟨u0, u1, u2⟩) ?_
      clear hK K
      (try simp only [Act.put, List.setIfInBounds_toArray, List.set_cons_zero, List.set_cons_succ])
      refine wpOrd_eff rfl rfl (fun K hK => ?_)
      go_simp
      refine hK _ _ (fun _ => ⟨u0, u1, u2⟩) ?_
      clear hK K
      (try simp only [Act.put, List.setIfInBounds_toArray, List.set_cons_zero, List.set_cons_succ])
      refine wpOrd_nil ?_
      have hF5 : Fresh w1 w5 := HFb.out.grown hg5 (fun i hi hlt => by
        have := (World.ownsRow.lt HOb.out i hi).1
        omega)
      have HF5 := Lib.hid hF5
      have HOwn5 := Lib.hid hown5
      clear hF5 hown5 hg5 hN5 u0 u1 u2 z0 z1 z2 hfb hnb2 hcells hsz5
      go_wp2_with fail
      exact ⟨⟨ao, ac, k + 1, _, by omega, by go_num, rfl, HOwn5.out, HF5.out⟩, by simp [intOf]; omega⟩
    · obtain rfl : k = bl.length := by omega
      go_wp2_with fail
      go_ret
      exact ⟨oa, c, rfl, HF1.out.trans HF.out⟩
end Go.Proofs.YtbhmapcjcnceiaaGreatDoor
