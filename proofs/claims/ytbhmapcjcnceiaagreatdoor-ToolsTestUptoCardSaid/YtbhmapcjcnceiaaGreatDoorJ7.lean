/- The walk of the law ToolsTest. -/
import Derived.Test.YtbhmapcjcnceiaaGreatDoorJ6
import Derived.Test.YtbhmapcjcnceiaaGreatDoorH1
import Derived.Lib.SlBytesConst
namespace Go.Proofs.YtbhmapcjcnceiaaGreatDoor
open Go Go.RowKit

theorem tst_cases (name : ByteArray) (R : Bool × Int) : (tstSt 0 R = 2 ∧ 0 < (tstLog [] name R).length) ∨ (tstSt 0 R ≠ 2 ∧ (tstLog [] name R).length = 0) := by
  unfold tstSt tstLog
  by_cases h : R.2 = 0
  · rw [if_pos h, if_pos h]
    refine Or.inr ⟨?_, rfl⟩
    split <;> decide
  · rw [if_neg h, if_neg h]
    refine Or.inl ⟨rfl, ?_⟩
    simp [complaint]
    omega
theorem brk_log : tstLog [] ⟨#[91]⟩ (false, 2) = [91, 58, 32, 58, 32, 101, 114, 114, 111, 114, 32, 50, 10] := by
  unfold tstLog complaint
  rw [if_neg (by decide), Lib.decDigits, dif_pos (by decide)]
  rfl

def tn : ByteArray := ⟨#[116, 101, 115, 116]⟩
def bn : ByteArray := ⟨#[91]⟩
theorem brk_log' : tstLog [] bn (false, 2) = [91, 58, 32, 58, 32, 101, 114, 114, 111, 114, 32, 50, 10] := brk_log
def rb : ByteArray := ⟨#[93]⟩
def xx : ByteArray := ⟨#[120]⟩
theorem text_cell (w : World) (s : ByteArray) : ∀ ad, some (⟨w.heap.size, 0, none⟩ : Addr) = some ad → ∀ j u, [Value.string s][j]? = some u → (w.alloc (.cells #[.string s] 9)).cell? (ad.add j) = some u := by
  intro ad had j u hu
  cases had
  exact (RowAt.of_block (xs := [Value.string s]) (heap_alloc_new w _)).add j u hu
theorem tst_len (name : ByteArray) (hn : name.size ≤ 1000) (R : Bool × Int) : (tstLog [] name R).length ≤ 2000 := by
  unfold tstLog
  split
  · decide
  · rw [List.nil_append]; exact compl2 name hn

set_option maxRecDepth 10000 in
set_option maxHeartbeats 3200000 in
theorem test_law_calls {w : World} (hE : Env w) (oa : Option Addr) (c : Nat) (L : List ByteArray) (hl : ReadRow w oa c (L.map Value.string)) (hsz : ∀ x ∈ L, x.size ≤ 1048576) :
    Calls Tryz.prog 5 #[.slice oa L.length c] w fun e w' => e = .returned (.bool true) ∧ Fresh w w' := by
  have HE := Lib.hid hE
  have HL := Lib.hid hl
  have HSz := Lib.hid (show ∀ x ∈ L, x.size < 4294967281 from fun x hx => by have := hsz x hx; omega)
  clear hE hl hsz
  go_enter Tryz.func5, Tryz.ntmps5
  go_wp2_with fail
  refine (alive_calls HE.out).mono ?_
  rintro _ w1 ⟨rfl, hF1⟩
  have HF1 := Lib.hid hF1
  clear hF1
  go_wp2_with fail
  any_goals (go_ret; exact ⟨rfl, HF1.out⟩)
  have h6 : L.length ≤ 6 := by omega
  refine (new_fs 3 10 w1 (by decide) (by decide)).mono ?_
  rintro _ w2 ⟨rfl, hfs2, hF2, hsz2⟩
  obtain ⟨P, hP⟩ : ∃ P, P = w1.heap.size + 1 := ⟨_, rfl⟩
  obtain ⟨M, hM⟩ : ∃ M, M = w1.heap.size := ⟨_, rfl⟩
  rw [← hP, ← hM] at hfs2
  rw [← hP]
  have hw1 := HF1.out.size
  have HF2 := Lib.hid (HF1.out.trans hF2)
  have HFs2 := Lib.hid hfs2
  have HB := Lib.hid (show w.heap.size ≤ P ∧ w.heap.size ≤ M ∧ P < w2.heap.size ∧ M < w2.heap.size from ⟨by omega, by omega, by omega, by omega⟩)
  clear hP hM hw1 hsz2 hfs2 hF2 HF1
  have kc := Lib.run_convert_bytes_const (P := Tryz.prog) w2 25 5 #[.int .u8 120] 1 1 Tryz.underlying25 Tryz.underlying5
  go_wp2_with fail
  have hfa : Fresh w2 (w2.alloc (.cells #[.int .u8 120] 5 (1, 2))) := (Keeps.refl _ w2).alloc _
  have hnb : (w2.alloc (.cells #[.int .u8 120] 5 (1, 2))).heap[w2.heap.size]? = some (.cells #[.int .u8 120] 5 (1, 2)) := heap_alloc_new w2 _
  have hrb : ReadB (w2.alloc (.cells #[.int .u8 120] 5 (1, 2))) (some ⟨w2.heap.size, 0, none⟩) 1 [120] := ReadB.of (RowAt.of_block (xs := cellsOf [120]) hnb) (fun h => by cases h)
  have hbase := HB.out
  have h9 := HE.out.len
  have hE2 := (HE.out.fresh HF2.out).fresh hfa
  refine (write0_calls (HFs2.out.fresh hfa) hE2 ⟨by omega, by omega⟩ ⟨#[47, 97]⟩ (by decide) (some ⟨w2.heap.size, 0, none⟩) 1 [120] hrb (fun ad had h0 e => by cases had; have h1 : w2.heap.size = P := e; omega) (by decide) (by decide) (fun q => by simp [dataOf, look]) (by decide) (by decide)).mono ?_
  rintro _ w4 ⟨rfl, hk4, h4⟩
  have hfs4 : ∃ t u k, FsAt w4 P M 3 10 u k t ∧ ∀ x ∈ t, x.2.data.length ≤ 1099511627776 := by
    rcases h4 with ⟨_, h⟩ | ⟨_, oa', c', h, _⟩
    · exact ⟨_, _, _, h, by simp⟩
    · exact ⟨_, _, _, h, put_rows (by simp) (fun _ => by show ([120] : List UInt8).length ≤ _; decide)⟩
  obtain ⟨t, us, ck, hfs4, hdt⟩ := hfs4
  have hF4 : Fresh w w4 := (HF2.out.trans hfa).then hk4 (fun i hi e => by rcases e with e | e <;> omega)
  have HFs4 := Lib.hid hfs4
  have HF4 := Lib.hid hF4
  have HD := Lib.hid hdt
  generalize wrErr 3 10 0 [] ⟨#[47, 97]⟩ [120] false = we
  clear h4 hk4 hF4 hfs4 hdt hrb hnb hE2 kc hfa HFs2 HF2
  go_wp2_with fail
  have Q1 := Lib.hid (show oa = none → L.length = 0 ∧ c = 0 from fun h => by have := HL.out.1 h; rwa [List.length_map] at this)
  have Q3 := Lib.hid (show (L.map Value.string).length = L.length by rw [List.length_map])
  obtain ⟨S, hS⟩ : ∃ S, S = tstSt 0 (testOf t root L) := ⟨_, rfl⟩
  obtain ⟨lgA, hlgA⟩ : ∃ l, l = tstLog [] tn (testOf t root L) := ⟨_, rfl⟩
  have HCase := Lib.hid (show (S = 2 ∧ 0 < lgA.length) ∨ (S ≠ 2 ∧ lgA.length = 0) by rw [hS, hlgA]; exact tst_cases tn _)
  have hlb : lgA.length ≤ 2000 := by rw [hlgA]; exact tst_len tn (by decide) _
  have HS := Lib.hid hS
  have hdo := does_test (name := tn) (inn := .slice none 0 0) L HFs4.out (show root.size < _ by decide) HSz.out (by decide) HD.out
  rw [← hS, ← hlgA] at hdo
  refine (run_calls_read (w := w4) (K := 74) (name := tn) (args := L) (F := fun _ => False) (st := S) (o := []) (l := lgA) (Q := fun _ _ => True) oa c
    (fun _ _ => by kernel_rfl) (by rfl) (HE.out.fresh HF4.out) (HL.out.fresh HF4.out) (by omega) (fun _ h => h.elim) (by decide) (by omega) hdo).mono ?_
  rintro _ w5 ⟨oo, oc, lo, lc, _, _, rfl, -, -, -, -, -, hk⟩
  rw [show min ([] : List UInt8).length 65536 = 0 from rfl]
  have hk' : Fresh w4 w5 := hk
  obtain ⟨ml, hml⟩ : ∃ ml, ml = lgA.length := ⟨_, rfl⟩
  rw [← hml] at HCase ⊢
  have hFA : Fresh w5 (w5.alloc (.cells #[.int .i64 S, .slice oo 0 oc, .slice lo ml lc] 27)) := (Keeps.refl _ w5).alloc _
  have HBA := Lib.hid (show (w5.alloc (.cells #[.int .i64 S, .slice oo 0 oc, .slice lo ml lc] 27)).heap[w5.heap.size]? = some (.cells #[.int .i64 S, .slice oo 0 oc, .slice lo ml lc] 27 (0, 0)) from heap_alloc_new w5 _)
  have HFsA := Lib.hid ((HFs4.out.fresh hk').fresh hFA)
  have HFA := Lib.hid ((HF4.out.trans hk').trans hFA)
  clear hdo hk hk' hFA hlb hml hS hlgA
  have HNew1 := Lib.hid (fun w => text_cell w rb)
  go_wp2_with (first
    | (at_builtin; (refine wp_app_row rfl _ _ _ rfl (w5.alloc (.cells #[.int .i64 S, .slice oo 0 oc, .slice lo ml lc] 27)).heap.size 9 (.string ⟨#[]⟩) 16 Tryz.underlying22 info_str rfl (.slice ao1 L.length ac1) L.length (L.map Value.string) rfl (ownsRow_keeps hown1 ((Keeps.refl (fun _ => False) wa1).alloc (.cells #[.string rb] 9)) (fun _ _ x => x)) (some ⟨wa1.heap.size, 0, none⟩) 1 1 [.string rb] rfl (fun h => by cases h) rfl (HNew1.out wa1) (strs_one [rb]) (by omega) (by decide) (Nat.le_trans hg1.size ((Keeps.refl (fun _ => False) wa1).alloc (.cells #[.string rb] 9)).size) ?_); intro bo1 bc1 wb1 hownb1 hgb1 hatb1)
    | (at_builtin; go_must (refine wp_app_row rfl _ _ _ rfl (w5.alloc (.cells #[.int .i64 S, .slice oo 0 oc, .slice lo ml lc] 27)).heap.size 9 (.string ⟨#[]⟩) 16 Tryz.underlying22 info_str rfl (.slice none 0 0) 0 [] rfl (World.ownsRow_nil _ _ _ _) oa L.length c (L.map Value.string) rfl Q1.out Q3.out (HL.out.fresh HFA.out).2 (strs_one _) (by omega) (by decide) (Nat.le_refl _) ?_); intro ao1 ac1 wa1 hown1 hg1 hat1; rw [Nat.zero_add, List.nil_append] at hown1))
  have hFb1 : Fresh (w5.alloc (.cells #[.int .i64 S, .slice oo 0 oc, .slice lo ml lc] 27)) wb1 := by
    have h1 : Fresh (w5.alloc (.cells #[.int .i64 S, .slice oo 0 oc, .slice lo ml lc] 27)) wa1 := (Keeps.refl _ _).grown hg1 (fun i hi _ => by cases hi)
    refine (h1.trans ((Keeps.refl (fun _ => False) wa1).alloc (.cells #[.string rb] 9))).grown hgb1 (fun i hi hlt => ?_)
    have h2 := (World.ownsRow.lt hown1 i hi).1
    omega
  have hstr1 : Strs wb1 bo1 bc1 (L ++ [rb]) := by
    have hsh := hownb1.shape2
    refine ⟨by rw [List.length_append]; exact hsh.1, hsh.2.1, hsh.2.2, ?_⟩
    rw [List.map_append, List.map_singleton]
    exact RowAt.of_owns hownb1
  have HStr1 := Lib.hid hstr1
  have HFb1 := Lib.hid hFb1
  clear hstr1 hFb1 hown1 hg1 hat1 hownb1 hgb1 hatb1 HNew1
  rw [show L.length + 1 = (L ++ [rb]).length by simp]
  have hdo := does_bracket (name := bn) (inn := .slice none 0 0) L rb (HFsA.out.fresh HFb1.out) (show root.size < _ by decide) HSz.out (by decide) HD.out (by omega)
  rw [if_pos (show rb.data.toList = [93] by decide)] at hdo
  refine (run_calls (w := wb1) (K := 75) (name := bn) (args := L ++ [rb]) (F := fun _ => False) (st := tstSt 0 (testOf t root L)) (o := []) (l := tstLog [] bn (testOf t root L)) (Q := fun _ _ => True) bo1 bc1
    (fun _ _ => by kernel_rfl) (by rfl) (HE.out.fresh (HFA.out.trans HFb1.out)) HStr1.out (by rw [List.length_append]; simp only [List.length_singleton]; omega) (fun _ h => h.elim) (by decide) (Nat.le_trans (tst_len bn (by decide) _) (by decide)) hdo).mono ?_
  rintro _ w6 ⟨po, pc, qo, qc, _, _, rfl, -, -, -, -, -, hk⟩
  rw [show min ([] : List UInt8).length 65536 = 0 from rfl, ← HS.out]
  generalize (tstLog [] bn (testOf t root L)).length = mb
  have hk' : Fresh wb1 w6 := hk
  have hFT : Fresh w6 (w6.alloc (.cells #[.int .i64 S, .slice po 0 pc, .slice qo mb qc] 27)) := (Keeps.refl _ w6).alloc _
  have hBB := HFb1.out.trans (hk'.trans hFT)
  have HBB := Lib.hid (show (w6.alloc (.cells #[.int .i64 S, .slice po 0 pc, .slice qo mb qc] 27)).heap[w6.heap.size]? = some (.cells #[.int .i64 S, .slice po 0 pc, .slice qo mb qc] 27 (0, 0)) from heap_alloc_new w6 _)
  have HBA2 := Lib.hid (hBB.at HBA.out (fun x => x))
  have HFsB := Lib.hid (HFsA.out.fresh hBB)
  have HFB := Lib.hid (HFA.out.trans hBB)
  clear hdo hk hk' hFT hBB HBA HFsA HFA HFb1 HStr1
  have HNew2 := Lib.hid (fun w => text_cell w xx)
  go_wp2_with (first
    | (at_builtin; (refine wp_app_row rfl _ _ _ rfl (w6.alloc (.cells #[.int .i64 S, .slice po 0 pc, .slice qo mb qc] 27)).heap.size 9 (.string ⟨#[]⟩) 16 Tryz.underlying22 info_str rfl (.slice ao2 L.length ac2) L.length (L.map Value.string) rfl (ownsRow_keeps hown2 ((Keeps.refl (fun _ => False) wa2).alloc (.cells #[.string xx] 9)) (fun _ _ x => x)) (some ⟨wa2.heap.size, 0, none⟩) 1 1 [.string xx] rfl (fun h => by cases h) rfl (HNew2.out wa2) (strs_one [xx]) (by omega) (by decide) (Nat.le_trans hg2.size ((Keeps.refl (fun _ => False) wa2).alloc (.cells #[.string xx] 9)).size) ?_); intro bo2 bc2 wb2 hownb2 hgb2 hatb2)
    | (at_builtin; go_must (refine wp_app_row rfl _ _ _ rfl (w6.alloc (.cells #[.int .i64 S, .slice po 0 pc, .slice qo mb qc] 27)).heap.size 9 (.string ⟨#[]⟩) 16 Tryz.underlying22 info_str rfl (.slice none 0 0) 0 [] rfl (World.ownsRow_nil _ _ _ _) oa L.length c (L.map Value.string) rfl Q1.out Q3.out (HL.out.fresh HFB.out).2 (strs_one _) (by omega) (by decide) (Nat.le_refl _) ?_); intro ao2 ac2 wa2 hown2 hg2 hat2; rw [Nat.zero_add, List.nil_append] at hown2))
  have hFb2 : Fresh (w6.alloc (.cells #[.int .i64 S, .slice po 0 pc, .slice qo mb qc] 27)) wb2 := by
    have h1 : Fresh (w6.alloc (.cells #[.int .i64 S, .slice po 0 pc, .slice qo mb qc] 27)) wa2 := (Keeps.refl _ _).grown hg2 (fun i hi _ => by cases hi)
    refine (h1.trans ((Keeps.refl (fun _ => False) wa2).alloc (.cells #[.string xx] 9))).grown hgb2 (fun i hi hlt => ?_)
    have h2 := (World.ownsRow.lt hown2 i hi).1
    omega
  have hstr2 : Strs wb2 bo2 bc2 (L ++ [xx]) := by
    have hsh := hownb2.shape2
    refine ⟨by rw [List.length_append]; exact hsh.1, hsh.2.1, hsh.2.2, ?_⟩
    rw [List.map_append, List.map_singleton]
    exact RowAt.of_owns hownb2
  have HStr2 := Lib.hid hstr2
  have HFb2 := Lib.hid hFb2
  clear hstr2 hFb2 hown2 hg2 hat2 hownb2 hgb2 hatb2 HNew2
  rw [show L.length + 1 = (L ++ [xx]).length by simp]
  have hdo := does_bracket (name := bn) (inn := .slice none 0 0) L xx (HFsB.out.fresh HFb2.out) (show root.size < _ by decide) HSz.out (by decide) HD.out (by omega)
  rw [if_neg (show ¬ xx.data.toList = [93] by decide), brk_log'] at hdo
  refine (run_calls (w := wb2) (K := 75) (name := bn) (args := L ++ [xx]) (F := fun _ => False) (st := tstSt 0 (false, 2)) (o := []) (l := [91, 58, 32, 58, 32, 101, 114, 114, 111, 114, 32, 50, 10]) (Q := fun _ _ => True) bo2 bc2
    (fun _ _ => by kernel_rfl) (by rfl) (HE.out.fresh (HFB.out.trans HFb2.out)) HStr2.out (by rw [List.length_append]; simp only [List.length_singleton]; omega) (fun _ h => h.elim) (by decide) (by decide) hdo).mono ?_
  rintro _ w7 ⟨ro, rc, so, sc, _, _, rfl, -, hlg, -, -, -, hk⟩
  rw [show min ([] : List UInt8).length 65536 = 0 from rfl, show tstSt 0 (false, 2) = 2 from rfl, show ([91, 58, 32, 58, 32, 101, 114, 114, 111, 114, 32, 50, 10] : List UInt8).length = 13 from rfl]
  have hk' : Fresh wb2 w7 := hk
  have hFT : Fresh w7 (w7.alloc (.cells #[.int .i64 2, .slice ro 0 rc, .slice so 13 sc] 27)) := (Keeps.refl _ w7).alloc _
  have hCC := HFb2.out.trans (hk'.trans hFT)
  have HFin := Lib.hid (HFB.out.trans hCC)
  have hA := hCC.at HBA2.out (fun x => x)
  have hB := hCC.at HBB.out (fun x => x)
  have hC : (w7.alloc (.cells #[.int .i64 2, .slice ro 0 rc, .slice so 13 sc] 27)).heap[w7.heap.size]? = some (.cells #[.int .i64 2, .slice ro 0 rc, .slice so 13 sc] 27 (0, 0)) := heap_alloc_new w7 _
  have hcv : (convert 25 9 (.slice so 13 sc)).run Tryz.prog (w7.alloc (.cells #[.int .i64 2, .slice ro 0 rc, .slice so 13 sc] 27)) = .ok (.string ⟨#[91, 58, 32, 58, 32, 101, 114, 114, 111, 114, 32, 50, 10]⟩) (w7.alloc (.cells #[.int .i64 2, .slice ro 0 rc, .slice so 13 sc] 27)) := string_of (l := [91, 58, 32, 58, 32, 101, 114, 114, 111, 114, 32, 50, 10]) rfl (hlg.fresh hFT)
  have a0 := cell_of_block hA 0
  have a1 := cell_of_block hA 1
  have a2 := cell_of_block hA 2
  have b0 := cell_of_block hB 0
  have b1 := cell_of_block hB 1
  simp at a0 a1 a2 b0 b1
  clear hdo hk hk' hFT hCC hA hB hC HBA2 HBB HFsB HFb2 HStr2 HFB hlg
  rcases HCase.out with ⟨rfl, hml⟩ | ⟨hS, rfl⟩
  · have z1 : ((ml : Int) == 0) = false := by rw [beq_eq_false_iff_ne]; omega
    go_wp2_with fail
    go_ret
    exact ⟨rfl, HFin.out⟩
  · have z1 : (S == 2) = false := by rw [beq_eq_false_iff_ne]; exact hS
    have z2 : (S != 2) = true := by simpa using hS
    go_wp2_with fail
    go_ret
    exact ⟨rfl, HFin.out⟩
end Go.Proofs.YtbhmapcjcnceiaaGreatDoor
