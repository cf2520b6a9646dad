/- What cat does with one argument: each, over its inner function. -/
import Derived.Test.YtbhmapcjcnceiaaGreatDoorG0
namespace Go.Proofs.YtbhmapcjcnceiaaGreatDoor
open Go Go.RowKit

set_option maxHeartbeats 800000 in
theorem each_cat_calls {w : World} (hE : Env w) {b base bx g P M : Nat} {nodes bytes used clock : Int} {t : Tree} {cwd name : ByteArray} {args inn : Value} {st : Int} {out log : Value} {o l : List UInt8} (x : ByteArray)
    (hu : Ut w b base (.pointer (some ⟨P, 0, none⟩)) cwd name args inn st out log o l) (hf : FsAt w P M nodes bytes used clock t) (hB : FsBelow base P M t) (hbx : w.heap[bx]? = some (.cells #[.pointer (some ⟨b, 0, none⟩)] 63 (0, 0)))
    (hg : w.cell? ⟨g, 0, none⟩ = some (.string x)) (hc : cwd.size < 4294967281) (hx : x.size < 4294967281) (hok : (absOf cwd x).2 = 0)
    (hb : ∀ x ∈ t, x.2.data.length ≤ 1099511627776) (hl1 : o.length + (fsRead t (absOf cwd x).1).1.length ≤ 1099511627776) (hl2 : l.length + name.size + x.size ≤ 1099511627776) :
    Calls Tryz.prog 112 #[.pointer (some ⟨b, 0, none⟩), .slice (some ⟨g, 0, none⟩) 1 1, .func (.func 113) #[] #[.pointer (some ⟨bx, 0, none⟩)]] w fun e w' => e = .returned (.tuple #[]) ∧ ∃ (out' log' : Value),
      Ut w' b base (.pointer (some ⟨P, 0, none⟩)) cwd name args inn (catSt st (fsRead t (absOf cwd x).1).2.toNat) out' log' (o ++ (fsRead t (absOf cwd x).1).1) (catLog l name x (fsRead t (absOf cwd x).1).2.toNat) ∧ Keeps (utF b out log) w w' ∧ Old w (utF b out' log') (utF b out log) := by
  have HA := Lib.hid (uabs_ok hE x hu hc hx hok)
  have hqs := absOf_size cwd x
  generalize (absOf cwd x).1 = q at HA hl1 hqs ⊢
  have hcat := fun (w1 : World) (hF : Fresh w w1) => cat1_calls (hE.fresh hF) x q (hu.fresh hF) (hf.fresh hF) hB (hF.at hbx (fun x => x)) (by omega) hb hl1 hl2
  have HCat := Lib.hid hcat
  clear hcat hu hf hbx hE hok
  go_enter Tryz.func112, Tryz.ntmps112
  go_wp2_with fail
  refine wp_loop_rounds 2 ?_
  rw [rounds_succ]
  go_wp2_with fail
  refine HA.out.mono ?_
  rintro _ w1 ⟨rfl, hF1⟩
  have HF1 := Lib.hid hF1
  have HC1 := Lib.hid (HCat.out w1 hF1)
  clear hF1 HCat HA
  go_wp2_with fail
  refine HC1.out.mono ?_
  rintro _ w2 ⟨rfl, out2, log2, hu2, hk2, ho2⟩
  have HU2 := Lib.hid hu2
  have HK2 := Lib.hid ((HF1.out.mono (fun _ _ h => h.elim)).trans hk2)
  have HO2 := Lib.hid ((Old.refl w (utF b out log)).trans HF1.out.size ho2)
  clear hu2 hk2 ho2
  go_wp2_with fail
  rw [rounds_succ]
  go_wp2_with fail
  go_end0
  exact ⟨rfl, out2, log2, HU2.out, HK2.out, HO2.out⟩
end Go.Proofs.YtbhmapcjcnceiaaGreatDoor
