/- The walk of the law ToolsCat. -/
import Derived.Test.YtbhmapcjcnceiaaGreatDoorH0
namespace Go.Proofs.YtbhmapcjcnceiaaGreatDoor
open Go Go.RowKit

/-- vfs.New: a file system of its own, with nothing in it. -/
theorem new_fs (n m : Nat) (w : World) (hn : n ≤ 10000) (hm : m ≤ 1048576) : Calls Tryz.prog 11 #[.int .i64 n, .int .i64 m] w fun e w' => e = .returned (.pointer (some ⟨w.heap.size + 1, 0, none⟩)) ∧
    FsAt w' (w.heap.size + 1) w.heap.size n m 0 0 [] ∧ Fresh w w' ∧ w'.heap.size = w.heap.size + 2 := by
  refine (new_calls n m w hn hm).mono fun e w' ⟨he, hw⟩ => ⟨he, ?_⟩
  subst hw
  have h1 : (w.alloc (.map #[] 0)).heap.size = w.heap.size + 1 := by simp
  refine ⟨⟨?_, ?_, by simp⟩, ((Keeps.refl _ w).alloc _).alloc _, by simp⟩
  · rw [← h1]; exact heap_alloc_new _ _
  · have h0 : MapAt (w.alloc (.map #[] 0)) w.heap.size [] := MapAt.nil w
    exact h0.keeps (F := fun _ => False) ((Keeps.refl _ _).alloc _) (fun x => x)

/-- The file system stands while a row of texts grows. -/
theorem FsAt.app {w w' : World} {P M : Nat} {nodes bytes used clock : Int} {t : Tree} (h : FsAt w P M nodes bytes used clock t) {base n : Nat} {v : Value} {xs : List Value} (hown : w.ownsRow base 9 1 v n xs) (hP : P < base) (hM : M < base)
    (hg : w.grownBy w' v.ownBlock) : FsAt w' P M nodes bytes used clock t := by
  refine h.keeps (F := fun k => v.ownBlock = some k) (Keeps.grew hg) (fun e => ?_) (fun e => ?_) (fun x hx ad had e => ?_)
  · have := (World.ownsRow.lt hown P e).1; omega
  · have := (World.ownsRow.lt hown M e).1; omega
  · have hr := (h.rows x hx).1
    rw [had] at hr
    obtain ⟨_, cur, fz, hb, _⟩ := hr
    exact ownsRow_ne hown hb (by decide) e

/-- A row of bytes as it lies: address, capacity, bytes. -/
abbrev Bx := Option Addr × Nat × List UInt8
def Bx.val (x : Bx) : Value := .slice x.1 x.2.2.length x.2.1

theorem string_of_read {w : World} {oa : Option Addr} {c : Nat} {l : List UInt8} (h : ReadB w oa c l) : (convert 25 9 (.slice oa l.length c)).run Tryz.prog w = .ok (.string (B l)) w := by
  cases oa with
  | none =>
    have h0 := (h.1 rfl).1
    have : l = [] := List.eq_nil_of_length_eq_zero h0
    subst this
    exact run_convert_bytes_nil w 25 5 Tryz.underlying25 Tryz.underlying5 _ c 9 Tryz.underlying9
  | some ad =>
    refine run_convert_bytes_back w 25 9 5 ad c l Tryz.underlying25 Tryz.underlying5 Tryz.underlying9 (fun j hj => ?_)
    exact h.2 ad rfl j _ (by simp [cellsOf, hj])
theorem want_len' {L : List (List UInt8)} {G : List Bool} : ∀ {k : Nat}, (∀ i, i < k → ((L[i]?).getD []).length ≤ 200) → (wantOf L G k).length ≤ 200 * k
  | 0, _ => by simp [wantOf]
  | k + 1, h => by
    have h1 := want_len' (L := L) (G := G) (k := k) (fun i hi => h i (by omega))
    have h2 := h k (by omega)
    unfold wantOf
    split
    · rw [List.length_append]; omega
    · omega
theorem B_log (l : List UInt8) (i : Nat) : B l ++ ⟨#[99, 97, 116, 58, 32]⟩ ++ nm i ++ ⟨#[58, 32, 101, 114, 114, 111, 114, 32, 54, 10]⟩ = B (l ++ lg i) := by
  apply ByteArray.ext
  apply Array.ext'
  simp [B, nm, lg, ByteArray.data_append]

set_option maxRecDepth 10000 in
set_option maxHeartbeats 1600000 in
theorem cat_law_calls {w : World} (hE : Env w) (la : Option Addr) (lc : Nat) (X : List Bx) (ga : Option Addr) (gc : Nat) (G : List Bool) (ia : Option Addr) (ic : Nat) (inn : List UInt8)
    (hl : ReadRow w la lc (X.map Bx.val)) (hx : ∀ x ∈ X, ReadB w x.1 x.2.1 x.2.2) (hg : ReadRow w ga gc (G.map Value.bool)) (hin : ReadB w ia ic inn) :
    Calls Tryz.prog 4 #[.slice la X.length lc, .slice ga G.length gc, .slice ia inn.length ic] w fun e w' => e = .returned (.bool true) ∧ Fresh w w' := by
  have HE := Lib.hid hE
  have HL := Lib.hid hl
  have HX := Lib.hid hx
  have HG := Lib.hid hg
  have HIn := Lib.hid hin
  clear hE hl hx hg hin
  go_enter Tryz.func4, Tryz.ntmps4
  go_wp2_with fail
  refine (alive_calls HE.out).mono ?_
  rintro _ w1 ⟨rfl, hF1⟩
  have HF1 := Lib.hid hF1
  clear hF1
  go_wp2_with fail
  any_goals (go_ret; exact ⟨rfl, HF1.out⟩)
  have hX10 : X.length ≤ 10 := by omega
  have hI200 : inn.length ≤ 200 := by omega
  refine (new_fs 20 5000 w1 (by decide) (by decide)).mono ?_
  rintro _ w2 ⟨rfl, hfs2, hF2, hsz2⟩
  obtain ⟨P, hP⟩ : ∃ P, P = w1.heap.size + 1 := ⟨_, rfl⟩
  obtain ⟨M, hM⟩ : ∃ M, M = w1.heap.size := ⟨_, rfl⟩
  rw [← hP, ← hM] at hfs2
  rw [← hP]
  have hw1 := HF1.out.size
  have HF2 := Lib.hid (HF1.out.trans hF2)
  have HFs2 := Lib.hid hfs2
  have HB := Lib.hid (show w.heap.size ≤ P ∧ w.heap.size ≤ M ∧ P < w2.heap.size ∧ M < w2.heap.size from ⟨by omega, by omega, by omega, by omega⟩)
  have HE2 := Lib.hid (HE.out.fresh HF2.out)
  clear hP hM hw1 hsz2 hfs2 hF2 HF1
  obtain ⟨L, hL⟩ : ∃ L, L = X.map (fun x => x.2.2) := ⟨_, rfl⟩
  have HLx := Lib.hid hL
  have h0 : logOf G 0 = [] := rfl
  have HWE := Lib.hid HE
  clear hL
  go_wp2_with fail
  go_loopw [9, 10, 11, 12] (fun a wt lg i wr => ∃ (k : Nat) (oa : Option Addr) (c : Nat) (t : Tree) (used clock : Int), k ≤ X.length ∧ a = .slice oa k c ∧ wt = .string (B (wantOf L G k)) ∧ lg = .string (B (logOf G k)) ∧ i = .int .i64 k ∧
    wr.ownsRow w2.heap.size 9 1 (.slice oa k c) k (((List.range k).map nm).map Value.string) ∧ FsAt wr P M 20 5000 used clock t ∧ CatTree L G k t ∧ (0 ≤ used ∧ used ≤ 200 * k) ∧ (0 ≤ clock ∧ clock ≤ k) ∧ Fresh w wr ∧ w2.heap.size ≤ wr.heap.size ∧ ∀ i, i < k → ((L[i]?).getD []).length ≤ 200) (fun _ _ _ i _ => X.length - (intOf i).toNat)
  case atStart => exact ⟨0, none, 0, [], 0, 0, by omega, rfl, rfl, rfl, rfl, World.ownsRow_nil _ _ _ _, HFs2.out, CatTree.nil L G, by decide, by decide, HF2.out, Nat.le_refl _, fun i h => by omega⟩
  case round =>
    obtain ⟨k, oa, c, t, used, clock, hk, rfl, rfl, rfl, rfl, hown, hfs, hct, hu, hc, hF, hsz, hLk⟩ := hrel
    rename_i wr
    have HOwn := Lib.hid hown
    have HFs := Lib.hid hfs
    have HCt := Lib.hid hct
    have HU := Lib.hid hu
    have HC := Lib.hid hc
    have HF := Lib.hid hF
    have HSz := Lib.hid hsz
    have HLk := Lib.hid hLk
    have HE1 := Lib.hid (HE.out.fresh hF)
    clear hown hfs hct hu hc hF hsz hLk
    by_cases hlt : k < X.length
    · have hk10 : k < 10 := by omega
      have hmem : X[k] ∈ X := List.getElem_mem hlt
      have hLk' : (L[k]?).getD [] = (X[k]).2.2 := by rw [HLx.out]; simp [hlt]
      cases la with
      | none => exact absurd (HL.out.1 rfl).1 (by rw [List.length_map]; omega)
      | some ad =>
        have hcw : w.cell? (ad.add k) = some (X[k]).val := HL.out.2 ad rfl k _ (by simp [hlt])
        have hcell := HF.out.cell hcw (fun x => x)
        have HCw := Lib.hid hcw
        have hrow := HX.out _ hmem
        have HRow := Lib.hid hrow
        have HLk' := Lib.hid hLk'
        clear hmem hrow hLk' hcw
        obtain ⟨⟨xa, xc, xb⟩, hxk⟩ : ∃ x, X[k] = x := ⟨_, rfl⟩
        rw [hxk] at hcell HRow HLk' HCw
        have hcell' : wr.cell? (ad.add k) = some (.slice xa xb.length xc) := hcell
        clear hxk hcell
        go_wp2_with fail
        · go_ret
          exact ⟨rfl, HF.out⟩
        have hxl : xb.length ≤ 200 := by omega
        have hkG : k < G.length := by omega
        refine (digits_ref k (by omega) _).mono ?_
        rintro _ _ ⟨rfl, rfl⟩
        obtain ⟨d, hd⟩ : ∃ d, d = B (Lib.decDigits k) := ⟨_, rfl⟩
        obtain ⟨p, hp⟩ : ∃ p, p = nm k := ⟨_, rfl⟩
        rw [← hd]
        have hdp : ({ data := #[102] } : ByteArray) ++ d = p := by rw [hd, hp, Lib.decDigits, dif_pos hk10]; rfl
        have hds : d.size = 1 := by rw [hd, B_size, Lib.decDigits, dif_pos hk10]; rfl
        have hps : p.size = 2 := by rw [hp]; rfl
        have HPn := Lib.hid hp
        clear hd hp
        have hfa : Fresh wr (wr.alloc (.cells #[.string p] 9)) := (Keeps.refl _ wr).alloc _
        have hnb : (wr.alloc (.cells #[.string p] 9)).heap[wr.heap.size]? = some (.cells #[.string p] 9 (0, 0)) := heap_alloc_new wr _
        have Hown0 := Lib.hid (ownsRow_keeps HOwn.out hfa (fun _ _ x => x))
        have Hsz0 := Lib.hid (Nat.le_trans HSz.out hfa.size)
        have Q2 := Lib.hid (show ∀ ad, some (⟨wr.heap.size, 0, none⟩ : Addr) = some ad → ∀ j u, [Value.string p][j]? = some u → (wr.alloc (.cells #[.string p] 9)).cell? (ad.add j) = some u from fun ad had j u hu => by
          cases had
          exact (RowAt.of_block (xs := [Value.string p]) hnb).add j u hu)
        cases ga with
        | none => exact absurd (HG.out.1 rfl).1 (by rw [List.length_map]; omega)
        | some gd =>
          have hgc : w.cell? (gd.add k) = some (.bool G[k]) := HG.out.2 gd rfl k _ (by simp [hkG])
          have hgi : isIn G k = !G[k] := by simp [isIn, hkG]
          have HGc := Lib.hid hgc
          have HGi := Lib.hid hgi
          generalize G[k] = gb at HGc HGi
          clear hgc hgi hnb
          have hll : (B (logOf G k)).size ≤ 170 := by rw [B_size]; have := log_len G k; omega
          have hwl : (B (wantOf L G k)).size ≤ 2000 := by rw [B_size]; have := want_len' (G := G) HLk.out; omega
          have z1 : ¬ 9223372036854775807 < (B (logOf G k)).size + 5 := by omega
          have z2 : ¬ 9223372036854775807 < (B (logOf G k)).size + 5 + 2 := by omega
          have z3 : ¬ 9223372036854775807 < (B (logOf G k)).size + 5 + 2 + 10 := by omega
          have HK3 := Lib.hid (show ∀ w3, (wr.alloc (.cells #[.string p] 9)).grownBy w3 (Value.slice oa k c).ownBlock → Fresh w w3 ∧ FsAt w3 P M 20 5000 used clock t ∧ w2.heap.size ≤ w3.heap.size from fun w3 hg3 =>
            ⟨(HF.out.trans hfa).grown hg3 (fun i hi hlt => by
              have h1 := (World.ownsRow.lt HOwn.out i hi).1
              have h2 := HF2.out.size
              omega),
            (HFs.out.fresh hfa).app Hown0.out HB.out.2.2.1 HB.out.2.2.2 hg3, Nat.le_trans Hsz0.out hg3.size⟩)
          have hLn : ∀ i, i < k + 1 → ((L[i]?).getD []).length ≤ 200 := fun i hi => by
            by_cases e : i = k
            · subst e; rw [HLk'.out]; exact hxl
            · exact HLk.out i (by omega)
          have HLn := Lib.hid hLn
          clear hLn hfa
          cases gb with
          | true =>
            go_wp2_with (at_builtin; go_must (refine wp_app_row rfl _ _ _ rfl w2.heap.size 9 (.string ⟨#[]⟩) 16 Tryz.underlying22 info_str rfl (.slice oa k c) k _ rfl Hown0.out (some ⟨wr.heap.size, 0, none⟩) 1 1 [.string p] rfl (fun h => by cases h) rfl Q2.out (strs_one [p]) (by omega) (by decide) Hsz0.out ?_); intro ao ac w3 hown3 hg3 hat3; have hgc3 : w3.cell? (gd.add k) = some (.bool true) := (HK3.out w3 hg3).1.cell HGc.out (fun x => x))
            obtain ⟨q1, q2, q3⟩ := HK3.out w3 hg3
            exact ⟨⟨k + 1, ao, ac, t, used, clock, by omega, rfl, by rw [wantOf, if_neg (by rw [HGi.out]; decide)], by rw [logOf, if_neg (by rw [HGi.out]; decide), ← B_log]; rw [HPn.out], by go_num, by rw [List.range_succ, List.map_append, List.map_append, List.map_singleton, List.map_singleton, ← HPn.out]; exact hown3, q2, HCt.out.gone (by rw [HGi.out]; rfl), ⟨HU.out.1, by have := HU.out.2; omega⟩, ⟨HC.out.1, by have := HC.out.2; omega⟩, q1, q3, HLn.out⟩, by simp [intOf]; omega⟩
          | false =>
            go_wp2_with (at_builtin; go_must (refine wp_app_row rfl _ _ _ rfl w2.heap.size 9 (.string ⟨#[]⟩) 16 Tryz.underlying22 info_str rfl (.slice oa k c) k _ rfl Hown0.out (some ⟨wr.heap.size, 0, none⟩) 1 1 [.string p] rfl (fun h => by cases h) rfl Q2.out (strs_one [p]) (by omega) (by decide) Hsz0.out ?_); intro ao ac w3 hown3 hg3 hat3; have hgc3 : w3.cell? (gd.add k) = some (.bool false) := (HK3.out w3 hg3).1.cell HGc.out (fun x => x); have hxc3 : w3.cell? (ad.add k) = some (.slice xa xb.length xc) := (HK3.out w3 hg3).1.cell HCw.out (fun x => x))
            have hpp : ({ data := #[47] } : ByteArray) ++ p = pth k := by rw [HPn.out]; rfl
            have hpsz : (pth k).size = 3 := rfl
            obtain ⟨q1, q2, q3⟩ := HK3.out w3 hg3
            obtain ⟨e1, e2⟩ := cat_write HCt.out hk10 used HU.out.2 xb hxl
            have hlen := HCt.out.len
            have hbase := HB.out
            have h9 := HE.out.len
            have hwh := HRow.out.lt
            rw [hpp]
            refine (write0_calls q2 (HE.out.fresh q1) ⟨by omega, by omega⟩ (pth k) (by rw [hpsz]; decide) xa xc xb (HRow.out.fresh q1) (fun ad' had h0 e => by have := hwh ad' had h0; omega) (by omega) (by omega) (fun q => by have := HCt.out.dataOf q; omega) ⟨HU.out.1, by have := HU.out.2; omega⟩ ⟨HC.out.1, by have := HC.out.2; omega⟩).mono ?_
            rintro _ w4 ⟨rfl, hk4, h4⟩
            rw [e1] at h4 ⊢
            rcases h4 with ⟨h, _⟩ | ⟨_, oa', c', hfs4, _⟩
            · exact absurd rfl h
            rw [e2, pth_fsabs t k hk10] at hfs4
            have hF4 : Fresh w w4 := q1.then hk4 (fun i hi e => by rcases e with e | e <;> omega)
            have hown4 := ownsRow_keeps hown3 hk4 (fun g hg e => by
              have := (World.ownsRow.lt hown3 g hg).1
              rcases e with e | e <;> omega)
            have hxc4 : w4.cell? (ad.add k) = some (.slice xa xb.length xc) := hF4.cell HCw.out (fun x => x)
            have hcv : (convert 25 9 (.slice xa xb.length xc)).run Tryz.prog w4 = .ok (.string (B xb)) w4 := string_of_read (HRow.out.fresh hF4)
            have hbs : (B xb).size ≤ 200 := by rw [B_size]; exact hxl
            have z4 : ¬ 9223372036854775807 < (B (wantOf L G k)).size + (B xb).size := by omega
            have HFs4 := Lib.hid hfs4
            have HF4 := Lib.hid hF4
            have HOwn4 := Lib.hid hown4
            have HS4 := Lib.hid (Nat.le_trans q3 hk4.size)
            clear q1 q2 q3 e1 e2 hk4 hfs4 hF4 hown4 hown3 hg3 hat3 hgc3 hxc3 hwh hbase
            go_wp2_with fail
            have hin' := HCt.out.in hk10 (by rw [HGi.out]; rfl) oa' c' (clock + 1) (by rw [HLk'.out]; exact hxl)
            rw [HLk'.out] at hin'
            exact ⟨⟨k + 1, ao, ac, put (pth k) ⟨false, oa', c', xb, clock + 1⟩ t, used + xb.length, clock + 1, by omega, rfl, by rw [wantOf, if_pos (by rw [HGi.out]; rfl), HLk'.out, B_append], by rw [logOf, if_pos (by rw [HGi.out]; rfl)], by go_num,
              by rw [List.range_succ, List.map_append, List.map_append, List.map_singleton, List.map_singleton, ← HPn.out]; exact HOwn4.out, HFs4.out, hin', ⟨by have := HU.out.1; omega, by have := HU.out.2; omega⟩, ⟨by have := HC.out.1; omega, by have := HC.out.2; omega⟩, HF4.out, HS4.out, HLn.out⟩, by simp [intOf]; omega⟩
    · obtain rfl : k = X.length := by omega
      obtain ⟨n, hn⟩ : ∃ n, X.length = n := ⟨_, rfl⟩
      rw [hn] at HOwn HCt HU HC HLk hX10 ⊢
      clear hlt hk
      have hfa : Fresh wr (wr.alloc (.cells #[.string dash] 9)) := (Keeps.refl _ wr).alloc _
      have hnb : (wr.alloc (.cells #[.string dash] 9)).heap[wr.heap.size]? = some (.cells #[.string dash] 9 (0, 0)) := heap_alloc_new wr _
      have Hown0 := Lib.hid (ownsRow_keeps HOwn.out hfa (fun _ _ x => x))
      have Hsz0 := Lib.hid (Nat.le_trans HSz.out hfa.size)
      have Q2 := Lib.hid (show ∀ ad, some (⟨wr.heap.size, 0, none⟩ : Addr) = some ad → ∀ j u, [Value.string dash][j]? = some u → (wr.alloc (.cells #[.string dash] 9)).cell? (ad.add j) = some u from fun ad had j u hu => by
        cases had
        exact (RowAt.of_block (xs := [Value.string dash]) hnb).add j u hu)
      have hll : (B (logOf G n)).size ≤ 170 := by rw [B_size]; have := log_len G n; omega
      have hwl : (B (wantOf L G n)).size ≤ 2000 := by rw [B_size]; have := want_len' (G := G) HLk.out; omega
      have hil : (B inn).size ≤ 200 := by rw [B_size]; exact hI200
      have z1 : ¬ 9223372036854775807 < (B (wantOf L G n)).size + (B inn).size := by omega
      have HK3 := Lib.hid (show ∀ w3, (wr.alloc (.cells #[.string dash] 9)).grownBy w3 (Value.slice oa n c).ownBlock → Fresh w w3 ∧ FsAt w3 P M 20 5000 used clock t from fun w3 hg3 =>
        ⟨(HF.out.trans hfa).grown hg3 (fun i hi hlt => by
          have h1 := (World.ownsRow.lt HOwn.out i hi).1
          have h2 := HF2.out.size
          omega),
        (HFs.out.fresh hfa).app Hown0.out HB.out.2.2.1 HB.out.2.2.2 hg3⟩)
      have HRd := Lib.hid (show ∀ w3, Fresh w w3 → (convert 25 9 (.slice ia inn.length ic)).run Tryz.prog w3 = .ok (.string (B inn)) w3 from fun w3 hf => string_of_read (HIn.out.fresh hf))
      clear hfa hnb
      go_wp2_with (at_builtin; go_must (refine wp_app_row rfl _ _ _ rfl w2.heap.size 9 (.string ⟨#[]⟩) 16 Tryz.underlying22 info_str rfl (.slice oa n c) n _ rfl Hown0.out (some ⟨wr.heap.size, 0, none⟩) 1 1 [.string dash] rfl (fun h => by cases h) rfl Q2.out (strs_one [dash]) (by omega) (by decide) Hsz0.out ?_); intro ao ac w3 hown3 hg3 hat3; have hcv : (convert 25 9 (.slice ia inn.length ic)).run Tryz.prog w3 = .ok (.string (B inn)) w3 := HRd.out w3 (HK3.out w3 hg3).1)
      obtain ⟨q1, q2⟩ := HK3.out w3 hg3
      obtain ⟨AL, hAL⟩ : ∃ AL, AL = (List.range n).map nm ++ [dash] := ⟨_, rfl⟩
      have hlen : n + 1 = AL.length := by rw [hAL]; simp
      have hsh := hown3.shape2
      have hrow : RowAt w3 9 ao (AL.map Value.string) := by rw [hAL, List.map_append, List.map_singleton]; exact RowAt.of_owns hown3
      have hdo := does_cat (cwd := root) (name := catN) ((List.range n).map nm ++ [dash]) inn (by simp) q2 (HIn.out.fresh q1) (fun ad had h0 => Nat.lt_of_lt_of_le (HIn.out.lt ad had h0) q1.size) (by decide) (fun x hx => by
        rcases List.mem_append.1 hx with hx | hx
        · obtain ⟨i, hi, rfl⟩ := List.mem_map.1 hx
          have := List.mem_range.1 hi
          exact ⟨by show (2 : Nat) < _; decide, Or.inr (by rw [nm_abs i (by omega)])⟩
        · obtain rfl := List.mem_singleton.1 hx
          exact ⟨by decide, Or.inl rfl⟩) (by decide) (by simp; omega) (fun x hx => by have := HCt.out.data x hx; omega) (fun k hk => by
        have hwn := want_len' (G := G) HLk.out
        have hln := log_len G n
        by_cases hkn : k ≤ n
        · rw [cat_law HCt.out hX10 inn k hkn]
          have h1 := want_len' (L := L) (G := G) (k := k) (fun i hi => HLk.out i (by omega))
          have h2 := log_len G k
          exact ⟨by show (wantOf L G k).length ≤ _; omega, by show (logOf G k).length ≤ _; omega⟩
        · have hk2 : k = ((List.range n).map nm ++ [dash]).length := by simp at hk ⊢; omega
          rw [hk2, cat_law_end HCt.out hX10 inn]
          exact ⟨by show (wantOf L G n ++ inn).length ≤ _; rw [List.length_append]; omega, by show (logOf G n).length ≤ _; omega⟩)
      rw [cat_law_end HCt.out hX10 inn, ← hAL] at hdo
      have HDo := Lib.hid hdo
      have HQ1 := Lib.hid q1
      have HRow := Lib.hid hrow
      have HSh := Lib.hid hsh
      have hwil : (wantOf L G n ++ inn).length ≤ 2200 := by
        rw [List.length_append]
        rw [B_size] at hwl
        omega
      rw [hlen] at HSh ⊢
      clear hdo q1 q2 hrow hsh hAL hcv hat3 hg3 hown3
      refine (run_calls (w := w3) (K := 67) (args := AL) (F := fun _ => False) (st := stOf (logOf G n)) (o := wantOf L G n ++ inn) (l := logOf G n) (Q := fun _ _ => True) ao ac
        (fun _ _ => by kernel_rfl) (by rfl) (HE.out.fresh HQ1.out) ⟨HSh.out.1, HSh.out.2.1, HSh.out.2.2, HRow.out⟩ (by omega) (fun _ h => h.elim) (by omega) (by have := log_len G n; omega) HDo.out).mono ?_
      rintro _ w4 ⟨oo, oc, lo, lg, _, _, rfl, ho, hlg, -, -, -, hk⟩
      rw [List.take_of_length_le (by omega)] at ho
      have HF4 := Lib.hid (HQ1.out.trans hk)
      have HO := Lib.hid ho
      have HG4 := Lib.hid hlg
      have hmin : min (wantOf L G n ++ inn).length 65536 = (wantOf L G n ++ inn).length := by omega
      rw [hmin]
      clear hk ho hlg HDo HRow HSh hmin
      rw [B_append]
      obtain ⟨T, hT⟩ : ∃ T, T = B (wantOf L G n ++ inn) := ⟨_, rfl⟩
      obtain ⟨S, hS⟩ : ∃ S, S = B (logOf G n) := ⟨_, rfl⟩
      obtain ⟨st, hst⟩ : ∃ st, st = stOf (logOf G n) := ⟨_, rfl⟩
      obtain ⟨m, hm⟩ : ∃ m, m = (wantOf L G n ++ inn).length := ⟨_, rfl⟩
      obtain ⟨ml, hml⟩ : ∃ ml, ml = (logOf G n).length := ⟨_, rfl⟩
      have hcv1 : (convert 25 9 (.slice oo m oc)).run Tryz.prog (w4.alloc (.cells #[.int .i64 st, .slice oo m oc, .slice lo ml lg] 27)) = .ok (.string T) (w4.alloc (.cells #[.int .i64 st, .slice oo m oc, .slice lo ml lg] 27)) := by
        rw [hT]; exact string_of hm.symm (HO.out.fresh ((Keeps.refl _ w4).alloc _))
      have hcv2 : (convert 25 9 (.slice lo ml lg)).run Tryz.prog (w4.alloc (.cells #[.int .i64 st, .slice oo m oc, .slice lo ml lg] 27)) = .ok (.string S) (w4.alloc (.cells #[.int .i64 st, .slice oo m oc, .slice lo ml lg] 27)) := by
        rw [hS]; exact string_of hml.symm (HG4.out.fresh ((Keeps.refl _ w4).alloc _))
      have HFin := Lib.hid (HF4.out.alloc (.cells #[.int .i64 st, .slice oo m oc, .slice lo ml lg] 27))
      have hcase : (S.toList.isEmpty = true ∧ st = 0) ∨ (S.toList.isEmpty = false ∧ st = 1) := by
        rw [hS, hst]
        unfold stOf
        by_cases hlog : logOf G n = []
        · exact Or.inl ⟨by rw [hlog, ByteArray.toList_eq, B_data]; rfl, if_pos hlog⟩
        · exact Or.inr ⟨by rw [ByteArray.toList_eq, B_data]; simpa using hlog, if_neg hlog⟩
      rw [← hT, ← hS, ← hst, ← hm, ← hml]
      clear hT hS hst hm hml hwil hll hwl HO HG4
      rcases hcase with ⟨t0, rfl⟩ | ⟨t0, rfl⟩
      · go_wp2_with fail
        go_ret
        exact ⟨rfl, HFin.out⟩
      · go_wp2_with fail
        go_ret
        exact ⟨rfl, HFin.out⟩
end Go.Proofs.YtbhmapcjcnceiaaGreatDoor
