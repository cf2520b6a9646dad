/- What cat does within Run. -/
import Derived.Test.YtbhmapcjcnceiaaGreatDoorG2
namespace Go.Proofs.YtbhmapcjcnceiaaGreatDoor
open Go Go.RowKit

theorem does_cat {w : World} {P M : Nat} {nodes bytes used clock : Int} {t : Tree} {cwd name : ByteArray} {ia : Option Addr} {ic : Nat} (args : List ByteArray) (inn : List UInt8)
    (hpos : 0 < args.length) (hf : FsAt w P M nodes bytes used clock t) (hin : ReadB w ia ic inn) (hib : ∀ ad, ia = some ad → 0 < inn.length → ad.block < w.heap.size) (hc : cwd.size < 4294967281) (hx : ∀ x ∈ args, x.size < 1000000 ∧ (x.data.toList = [45] ∨ (absOf cwd x).2 = 0)) (hn : name.size ≤ 1000) (hal : args.length ≤ 1000)
    (hb : ∀ x ∈ t, x.2.data.length ≤ 1099511627776) (hl : ∀ k, k ≤ args.length → (catAt t cwd name inn (0, [], []) args k).2.1.length ≤ 1099511627776 ∧ (catAt t cwd name inn (0, [], []) args k).2.2.length ≤ 109951162777) :
    Does 67 w (.pointer (some ⟨P, 0, none⟩)) cwd name args (.slice ia inn.length ic) (fun _ => False) (catAt t cwd name inn (0, [], []) args args.length).1 (catAt t cwd name inn (0, [], []) args args.length).2.1 (catAt t cwd name inn (0, [], []) args args.length).2.2 (fun _ _ => True) := by
  intro w1 b oa c hF hbb hu hs hE
  refine (cat_calls hE args inn hu hs hpos (hf.fresh hF) hf.below (hin.fresh hF) hib hc hx hn hal hb hl).mono ?_
  rintro _ w2 ⟨rfl, out', log', hu2, hk2, -⟩
  refine ⟨rfl, _, out', log', hu2, hk2.mono (fun k hk h => ?_), trivial⟩
  rcases h with h | h | h
  · exact Or.inl h
  · cases h
  · cases h
end Go.Proofs.YtbhmapcjcnceiaaGreatDoor
