/- printf: a format, piece by piece. -/
import Derived.Test.YtbhmapcjcnceiaaGreatDoorD0
namespace Go.Proofs.YtbhmapcjcnceiaaGreatDoor
open Go Go.RowKit

/-- What a format writes with these arguments: no argument is wrong. -/
inductive PfS : List UInt8 → List ByteArray → List UInt8 → Prop
  | nil (a) : PfS [] a []
  | other (c r a o) : (c :: r).take 2 ∉ six → PfS r a o → PfS (c :: r) a (c :: o)
  | str (r s a o) : PfS r a o → PfS (37 :: 115 :: r) (s :: a) (s.data.toList ++ o)
  | num (r n a o) : -9223372036854775808 ≤ n → n ≤ 9223372036854775807 → PfS r a o → PfS (37 :: 100 :: r) (B (Lib.itoa n) :: a) (Lib.itoa n ++ o)
  | pct (r a o) : PfS r a o → PfS (37 :: 37 :: r) a (37 :: o)
  | nl (r a o) : PfS r a o → PfS (92 :: 110 :: r) a (10 :: o)
  | tab (r a o) : PfS r a o → PfS (92 :: 116 :: r) a (9 :: o)

def strOf : Value → ByteArray | .string s => s | _ => ⟨#[]⟩
/-- What holds at the head of each round. -/
def PrRel (w0 : World) (b base : Nat) (f : Value) (cwd name : ByteArray) (inn : Value) (st : Int) (out0 log : Value) (o l res : List UInt8) (s : Value) (wr : World) : Prop :=
  ∃ (t : ByteArray) (args : List ByteArray) (oa : Option Addr) (c : Nat) (out : Value) (done rest : List UInt8), s = .string t ∧ PfS t.data.toList args rest ∧ done ++ rest = res ∧ Strs wr oa c args ∧
    Ut wr b base f cwd name (.slice oa args.length c) inn st out log (o ++ done) l ∧ Keeps (utF b out0 log) w0 wr ∧ Old w0 (utF b out log) (utF b out0 log) ∧ Env wr

theorem ext2 (t : ByteArray) : (t.extract 0 (min 2 (t.size : Int)).toNat).data.toList = t.data.toList.take 2 := by
  rw [Lib.extract_data]
  have : t.size = t.data.toList.length := rfl
  rw [this, List.drop_zero, Nat.sub_zero, List.take_eq_take_iff]
  omega
theorem tail_data (t : ByteArray) (k : Nat) : (t.extract k t.size).data.toList = t.data.toList.drop k := Lib.extract_to_end t k
theorem head_data (t : ByteArray) : (t.extract 0 1).data.toList = t.data.toList.take 1 := by rw [Lib.extract_data, List.drop_zero]
/-- The end of a round in which a piece of two bytes was written. -/
theorem PrRel.next {w0 : World} {b base : Nat} {f : Value} {cwd name : ByteArray} {inn : Value} {st : Int} {out0 log : Value} {o l res : List UInt8} {wr w2 : World} (t t' p : ByteArray) {args : List ByteArray} {oa : Option Addr} {c : Nat} {out out' : Value} {done rest : List UInt8} (k : Nat)
    (hP : PfS (t.data.toList.drop k) args rest) (ht' : t'.data.toList = t.data.toList.drop k) (hd : done ++ (p.data.toList ++ rest) = res) (hS : Strs wr oa c args)
    (hU : Ut wr b base f cwd name (.slice oa args.length c) inn st out log (o ++ done) l) (hK : Keeps (utF b out0 log) w0 wr) (hO : Old w0 (utF b out log) (utF b out0 log)) (hE : Env wr)
    (hU2 : Ut w2 b base f cwd name (.slice oa args.length c) inn st out' log (o ++ done ++ p.data.toList) l) (hK2 : Keeps (utF b out log) wr w2) (hO2 : Old wr (utF b out' log) (utF b out log)) :
    PrRel w0 b base f cwd name inn st out0 log o l res (.string t') w2 := by
  refine ⟨t', args, oa, c, out', done ++ p.data.toList, rest, rfl, by rw [ht']; exact hP, by rw [← hd, List.append_assoc], ?_, by rw [← List.append_assoc]; exact hU2, hK.then hK2 (fun i hi h => hO i hi h), hO.trans hK.size hO2, hE.keeps hK2 (fun k hk => hU.ge9 k hk)⟩
  obtain ⟨g1, g2, g3, g4⟩ := hS
  exact ⟨g1, g2, g3, hU.row_keeps hK2 g4⟩
theorem size_of_cons {t : ByteArray} {x : UInt8} {r : List UInt8} (h : t.data.toList = x :: r) : t.size = r.length + 1 := by
  have : t.size = t.data.toList.length := rfl
  rw [this, h]; rfl
set_option maxHeartbeats 4000000 in
theorem printf_calls {w : World} {b base : Nat} {f : Value} {cwd name : ByteArray} {inn : Value} {st : Int} {out log : Value} {o l : List UInt8} (fmt : ByteArray) (args : List ByteArray) (res : List UInt8) (oa : Option Addr) (c : Nat)
    (hP : PfS fmt.data.toList args res) (hu : Ut w b base f cwd name (.slice oa (args.length + 1) c) inn st out log o l) (hs : Strs w oa c (fmt :: args)) (hE : Env w) (hroom : o.length + res.length ≤ 1099511627776) :
    Calls Tryz.prog 66 #[.pointer (some ⟨b, 0, none⟩)] w fun e w' => e = .returned (.tuple #[]) ∧ ∃ (args' : Value) (out' : Value),
      Ut w' b base f cwd name args' inn st out' log (o ++ res) l ∧ Keeps (utF b out log) w w' ∧ Old w (utF b out' log) (utF b out log) := by
  have c3 := cell_of_block hu.blk 3
  simp at c3
  have hge := hu.ge
  have HN := Lib.hid (next_some oa c fmt args hu hs)
  have HP := Lib.hid hP
  have HE := Lib.hid hE
  have HR := Lib.hid hroom
  have z0 : (((args.length : Int) + 1) == 0) = false := by simp; omega
  clear hP hu hs hE hroom
  go_enter Tryz.func66, Tryz.ntmps66
  go_wp2_with fail
  refine HN.out.mono ?_
  rintro _ w1 ⟨rfl, oa1, c1, hs1, hu1, hk1⟩
  have hk1' : Keeps (utF b out log) w w1 := hk1.mono (fun k _ h => Or.inl h)
  have HREL := Lib.hid (show PrRel w b base f cwd name inn st out log o l res (.string fmt) w1 from ⟨fmt, args, oa1, c1, out, [], res, rfl, HP.out, rfl, hs1, by simpa using hu1, hk1', Old.refl _ _, HE.out.keeps hk1 (fun k hk => by omega)⟩)
  clear hs1 hu1 hk1 hk1' HN HP HE c3
  go_wp2_with fail
  go_loopw [2] (fun s wr => PrRel w b base f cwd name inn st out log o l res s wr) (fun s _ => (strOf s).size)
  case atStart => exact HREL.out
  case round =>
    clear HREL
    have hrel' := hrel
    obtain ⟨t, args', oa', c', out', done, rest, rfl, hP, hd, hS, hU, hK, hO, hE⟩ := hrel'
    clear hrel
    rename_i wr
    have HS := Lib.hid hS
    have HU := Lib.hid hU
    have HK := Lib.hid hK
    have HO := Lib.hid hO
    have HE := Lib.hid hE
    have HD := Lib.hid hd
    clear hS hU hK hO hE hd
    cases hPt : t.data.toList with
    | nil =>
      have t0 : t.toList.isEmpty = true := by rw [ByteArray.toList_eq, hPt]; rfl
      have HT := Lib.hid hPt
      have HPP := Lib.hid hP
      clear hP hPt
      go_wp2_with fail
      go_end0
      refine ⟨rfl, .slice oa' args'.length c', out', ?_, HK.out, HO.out⟩
      have hP := HPP.out
      rw [HT.out] at hP
      cases hP
      have hd := HD.out
      rw [List.append_nil] at hd
      rw [← hd]
      exact HU.out
    | cons ch r =>
      have t0 : t.toList.isEmpty = false := by rw [ByteArray.toList_eq, hPt]; rfl
      have HT := Lib.hid hPt
      have hP2 := hP
      rw [hPt] at hP2
      clear hP
      have hsz := size_of_cons hPt
      have hroom : (o ++ done).length + rest.length ≤ 1099511627776 := by
        have := HR.out
        rw [← HD.out] at this
        simp only [List.length_append] at this ⊢
        omega
      have hdrop : ∀ k, t.data.toList.drop k = (ch :: r).drop k := fun k => by rw [hPt]
      have Hdrop := Lib.hid hdrop
      clear hPt hdrop
      cases hP2 with
      | other _ _ _ o1 hne hPo =>
        have hz : (1 : Int) ≤ (t.size : Int) := by omega
        have HZ := Lib.hid hsz
        have HPO := Lib.hid hPo
        have HRM := Lib.hid hroom
        have HNE := Lib.hid hne
        clear hsz hPo hroom hne
        go_wp2_with fail
        refine (piece_other _ _ _ (by rw [ext2, HT.out]; exact HNE.out)).mono ?_
        rintro _ _ ⟨rfl, rfl⟩
        have HP1 := Lib.hid (show (t.extract 0 1).data.toList = [ch] by rw [head_data, HT.out]; rfl)
        have hs1 : (t.extract 0 1).size = 1 := by
          have : (t.extract 0 1).size = (t.extract 0 1).data.toList.length := rfl
          rw [this, HP1.out]; rfl
        have Hs1 := Lib.hid hs1
        clear hs1
        go_wp2_with fail
        refine (say_calls (t.extract 0 1) HU.out (by have := HRM.out; rw [Hs1.out]; simp only [List.length_append, List.length_cons] at this ⊢; omega)).mono ?_
        rintro _ w2 ⟨rfl, out2, hu2, hk2, ho2⟩
        have hfin : PrRel w b base f cwd name inn st out log o l res (.string (t.extract 1 t.size)) w2 :=
          PrRel.next (wr := wr) t _ (t.extract 0 1) 1 (by rw [Hdrop.out]; exact HPO.out) (tail_data t 1) (by rw [← HD.out, HP1.out]; rfl) HS.out HU.out HK.out HO.out HE.out (by exact hu2) hk2 (by exact ho2)
        have HF := Lib.hid hfin
        clear hfin hu2 hk2 ho2
        go_wp2_with fail
        refine ⟨HF.out, ?_⟩
        simp only [strOf, ByteArray.size_extract]
        omega
      | str r2 s a o1 hPo =>
        have hz : (2 : Int) ≤ (t.size : Int) := by simp only [List.length_cons] at hsz; omega
        have HZ := Lib.hid hsz
        have HPO := Lib.hid hPo
        have HRM := Lib.hid hroom
        clear hsz hPo hroom
        go_wp2_with fail
        refine (piece_str _ (by rw [ext2, HT.out]; rfl) oa' c' s a HU.out HS.out).mono ?_
        rintro _ W1 ⟨rfl, oa2, c2, hs1, hu1, hk1⟩
        have hk1' : Keeps (utF b out' log) wr W1 := hk1.mono (fun k _ h => Or.inl h)
        have HU1 := Lib.hid hu1
        have HS1 := Lib.hid hs1
        have HK1 := Lib.hid (HK.out.then hk1' (fun i hi h => HO.out i hi h))
        have HE1 := Lib.hid (HE.out.keeps hk1 (fun k hk => by omega))
        clear hs1 hu1 hk1 hk1' HU HS HK HE
        go_wp2_with fail
        refine (say_calls s HU1.out (by have := HRM.out; have e1 : s.size = s.data.toList.length := rfl; simp only [List.length_append] at this ⊢; omega)).mono ?_
        rintro _ w2 ⟨rfl, out2, hu2, hk2, ho2⟩
        have hfin : PrRel w b base f cwd name inn st out log o l res (.string (t.extract 2 t.size)) w2 :=
          PrRel.next (wr := W1) t _ s 2 (by rw [Hdrop.out]; exact HPO.out) (tail_data t 2) (by rw [← HD.out]) HS1.out HU1.out HK1.out HO.out HE1.out (by exact hu2) hk2 (by exact ho2)
        have HF := Lib.hid hfin
        clear hfin hu2 hk2 ho2
        go_wp2_with fail
        refine ⟨HF.out, ?_⟩
        simp only [strOf, ByteArray.size_extract]
        omega
      | num r2 n a o1 hn1 hn2 hPo =>
        have hz : (2 : Int) ≤ (t.size : Int) := by simp only [List.length_cons] at hsz; omega
        have HZ := Lib.hid hsz
        have HPO := Lib.hid hPo
        have HRM := Lib.hid hroom
        clear hsz hPo hroom
        go_wp2_with fail
        refine (piece_num _ (by rw [ext2, HT.out]; rfl) n hn1 hn2 oa' c' a HE.out HU.out HS.out).mono ?_
        rintro _ W1 ⟨rfl, oa2, c2, hs1, hu1, hk1⟩
        have hk1' : Keeps (utF b out' log) wr W1 := hk1.mono (fun k _ h => Or.inl h)
        have HU1 := Lib.hid hu1
        have HS1 := Lib.hid hs1
        have HK1 := Lib.hid (HK.out.then hk1' (fun i hi h => HO.out i hi h))
        have HE1 := Lib.hid (HE.out.keeps hk1 (fun k hk => by omega))
        clear hs1 hu1 hk1 hk1' HU HS HK HE
        go_wp2_with fail
        refine (say_calls (B (Lib.itoa n)) HU1.out (by have := HRM.out; rw [B_size]; simp only [List.length_append] at this ⊢; omega)).mono ?_
        rintro _ w2 ⟨rfl, out2, hu2, hk2, ho2⟩
        have hfin : PrRel w b base f cwd name inn st out log o l res (.string (t.extract 2 t.size)) w2 :=
          PrRel.next (wr := W1) t _ (B (Lib.itoa n)) 2 (by rw [Hdrop.out]; exact HPO.out) (tail_data t 2) (by rw [← HD.out, B_data]) HS1.out HU1.out HK1.out HO.out HE1.out (by exact hu2) hk2 (by exact ho2)
        have HF := Lib.hid hfin
        clear hfin hu2 hk2 ho2
        go_wp2_with fail
        refine ⟨HF.out, ?_⟩
        simp only [strOf, ByteArray.size_extract]
        omega
      | pct r2 _ o1 hPo =>
        have hz : (2 : Int) ≤ (t.size : Int) := by simp only [List.length_cons] at hsz; omega
        have HZ := Lib.hid hsz
        have HPO := Lib.hid hPo
        have HRM := Lib.hid hroom
        clear hsz hPo hroom
        go_wp2_with fail
        refine (piece_pct _ _ _ (by rw [ext2, HT.out]; rfl)).mono ?_
        rintro _ w1 ⟨rfl, rfl⟩
        obtain ⟨W1, hW1⟩ : ∃ W1, W1 = wr := ⟨_, rfl⟩
        have HU1 := Lib.hid (show Ut W1 b base f cwd name (.slice oa' args'.length c') inn st out' log (o ++ done) l by rw [hW1]; exact HU.out)
        have HS1 := Lib.hid (show Strs W1 oa' c' args' by rw [hW1]; exact HS.out)
        have HK1 := Lib.hid (show Keeps (utF b out log) w W1 by rw [hW1]; exact HK.out)
        have HE1 := Lib.hid (show Env W1 by rw [hW1]; exact HE.out)
        rw [← hW1]
        clear hW1 HU HS HK HE
        go_wp2_with fail
        refine (say_calls ⟨#[37]⟩ HU1.out (by have := HRM.out; have e1 : (⟨#[37]⟩ : ByteArray).size = 1 := rfl; rw [e1]; simp only [List.length_append, List.length_cons] at this ⊢; omega)).mono ?_
        rintro _ w2 ⟨rfl, out2, hu2, hk2, ho2⟩
        have hfin : PrRel w b base f cwd name inn st out log o l res (.string (t.extract 2 t.size)) w2 :=
          PrRel.next (wr := W1) t _ ⟨#[37]⟩ 2 (by rw [Hdrop.out]; exact HPO.out) (tail_data t 2) (by rw [← HD.out]; rfl) HS1.out HU1.out HK1.out HO.out HE1.out (by exact hu2) hk2 (by exact ho2)
        have HF := Lib.hid hfin
        clear hfin hu2 hk2 ho2
        go_wp2_with fail
        refine ⟨HF.out, ?_⟩
        simp only [strOf, ByteArray.size_extract]
        omega
      | nl r2 _ o1 hPo =>
        have hz : (2 : Int) ≤ (t.size : Int) := by simp only [List.length_cons] at hsz; omega
        have HZ := Lib.hid hsz
        have HPO := Lib.hid hPo
        have HRM := Lib.hid hroom
        clear hsz hPo hroom
        go_wp2_with fail
        refine (piece_nl _ _ _ (by rw [ext2, HT.out]; rfl)).mono ?_
        rintro _ w1 ⟨rfl, rfl⟩
        obtain ⟨W1, hW1⟩ : ∃ W1, W1 = wr := ⟨_, rfl⟩
        have HU1 := Lib.hid (show Ut W1 b base f cwd name (.slice oa' args'.length c') inn st out' log (o ++ done) l by rw [hW1]; exact HU.out)
        have HS1 := Lib.hid (show Strs W1 oa' c' args' by rw [hW1]; exact HS.out)
        have HK1 := Lib.hid (show Keeps (utF b out log) w W1 by rw [hW1]; exact HK.out)
        have HE1 := Lib.hid (show Env W1 by rw [hW1]; exact HE.out)
        rw [← hW1]
        clear hW1 HU HS HK HE
        go_wp2_with fail
        refine (say_calls ⟨#[10]⟩ HU1.out (by have := HRM.out; have e1 : (⟨#[10]⟩ : ByteArray).size = 1 := rfl; rw [e1]; simp only [List.length_append, List.length_cons] at this ⊢; omega)).mono ?_
        rintro _ w2 ⟨rfl, out2, hu2, hk2, ho2⟩
        have hfin : PrRel w b base f cwd name inn st out log o l res (.string (t.extract 2 t.size)) w2 :=
          PrRel.next (wr := W1) t _ ⟨#[10]⟩ 2 (by rw [Hdrop.out]; exact HPO.out) (tail_data t 2) (by rw [← HD.out]; rfl) HS1.out HU1.out HK1.out HO.out HE1.out (by exact hu2) hk2 (by exact ho2)
        have HF := Lib.hid hfin
        clear hfin hu2 hk2 ho2
        go_wp2_with fail
        refine ⟨HF.out, ?_⟩
        simp only [strOf, ByteArray.size_extract]
        omega
      | tab r2 _ o1 hPo =>
        have hz : (2 : Int) ≤ (t.size : Int) := by simp only [List.length_cons] at hsz; omega
        have HZ := Lib.hid hsz
        have HPO := Lib.hid hPo
        have HRM := Lib.hid hroom
        clear hsz hPo hroom
        go_wp2_with fail
        refine (piece_tab _ _ _ (by rw [ext2, HT.out]; rfl)).mono ?_
        rintro _ w1 ⟨rfl, rfl⟩
        obtain ⟨W1, hW1⟩ : ∃ W1, W1 = wr := ⟨_, rfl⟩
        have HU1 := Lib.hid (show Ut W1 b base f cwd name (.slice oa' args'.length c') inn st out' log (o ++ done) l by rw [hW1]; exact HU.out)
        have HS1 := Lib.hid (show Strs W1 oa' c' args' by rw [hW1]; exact HS.out)
        have HK1 := Lib.hid (show Keeps (utF b out log) w W1 by rw [hW1]; exact HK.out)
        have HE1 := Lib.hid (show Env W1 by rw [hW1]; exact HE.out)
        rw [← hW1]
        clear hW1 HU HS HK HE
        go_wp2_with fail
        refine (say_calls ⟨#[9]⟩ HU1.out (by have := HRM.out; have e1 : (⟨#[9]⟩ : ByteArray).size = 1 := rfl; rw [e1]; simp only [List.length_append, List.length_cons] at this ⊢; omega)).mono ?_
        rintro _ w2 ⟨rfl, out2, hu2, hk2, ho2⟩
        have hfin : PrRel w b base f cwd name inn st out log o l res (.string (t.extract 2 t.size)) w2 :=
          PrRel.next (wr := W1) t _ ⟨#[9]⟩ 2 (by rw [Hdrop.out]; exact HPO.out) (tail_data t 2) (by rw [← HD.out]; rfl) HS1.out HU1.out HK1.out HO.out HE1.out (by exact hu2) hk2 (by exact ho2)
        have HF := Lib.hid hfin
        clear hfin hu2 hk2 ho2
        go_wp2_with fail
        refine ⟨HF.out, ?_⟩
        simp only [strOf, ByteArray.size_extract]
        omega
end Go.Proofs.YtbhmapcjcnceiaaGreatDoor
