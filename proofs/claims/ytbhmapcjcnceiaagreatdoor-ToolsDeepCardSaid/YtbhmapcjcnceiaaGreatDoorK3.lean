/- The file system in memory: Mkdir, All. -/
import Derived.Test.YtbhmapcjcnceiaaGreatDoorK2
namespace Go.Proofs.YtbhmapcjcnceiaaGreatDoor
open Go Go.RowKit

def mkErr (nodes bytes used : Int) (t : Tree) (p : ByteArray) : Int :=
  if (fsAbs t p).2 ≠ 0 then (fsAbs t p).2 else if kindOf t (fsAbs t p).1 ≠ 0 then 12 else if roomOf nodes bytes used t 1 0 = true then 0 else 13
set_option maxRecDepth 10000 in
set_option maxHeartbeats 1600000 in
theorem mkdir_calls {w : World} {P M : Nat} {nodes bytes used clock : Int} {t : Tree} (h : FsAt w P M nodes bytes used clock t) (hE : Env w) (p : ByteArray) (hp : p.size < 4294967281) (ht : t.length ≤ 1000000) (hu : 0 ≤ used ∧ used ≤ 100000000) (hck : 0 ≤ clock ∧ clock ≤ 1099511627776) :
    Calls Tryz.prog 35 #[.pointer (some ⟨P, 0, none⟩), .string p] w fun e w' => e = .returned (.int .i64 (mkErr nodes bytes used t p)) ∧ Keeps (fun k => k = P ∨ k = M) w w' ∧
      ((mkErr nodes bytes used t p ≠ 0 ∧ FsAt w' P M nodes bytes used clock t) ∨ (mkErr nodes bytes used t p = 0 ∧ FsAt w' P M nodes bytes used (clock + 1) (put (fsAbs t p).1 ⟨true, none, 0, [], clock + 1⟩ t))) := by
  have HA := Lib.hid (fsabs_calls h hE p hp)
  have H := Lib.hid h
  have hr : mkErr nodes bytes used t p = if (fsAbs t p).2 ≠ 0 then (fsAbs t p).2 else if kindOf t (fsAbs t p).1 ≠ 0 then 12 else if roomOf nodes bytes used t 1 0 = true then 0 else 13 := rfl
  generalize mkErr nodes bytes used t p = R at hr ⊢
  have HR := Lib.hid hr
  clear h hE hr
  obtain ⟨Q, hQ⟩ : ∃ Q, fsAbs t p = Q := ⟨_, rfl⟩
  rw [hQ] at HA HR ⊢
  clear hQ
  obtain ⟨q, er⟩ := Q
  go_enter Tryz.func35, Tryz.ntmps35
  go_wp2_with fail
  refine HA.out.mono ?_
  rintro _ w1 ⟨rfl, hF1⟩
  have HF1 := Lib.hid hF1
  clear hF1 HA
  by_cases e0 : er = 0
  · subst e0
    rw [if_neg (fun h => h rfl)] at HR
    go_wp2_with fail
    refine (kind_calls (H.out.fresh HF1.out) q).mono ?_
    rintro _ w2 ⟨rfl, hF2⟩
    have HF2 := Lib.hid (HF1.out.trans hF2)
    have H2 := Lib.hid (H.out.fresh HF2.out)
    clear hF2
    by_cases e1 : kindOf t q = 0
    · rw [if_neg (fun h => h e1)] at HR
      rw [e1]
      go_wp2_with fail
      refine (room_calls H2.out 1 0 ⟨by omega, by omega⟩ ht ⟨by omega, by omega⟩ ⟨hu.1, by omega⟩).mono ?_
      rintro _ w3 ⟨rfl, hF3⟩
      have HF3 := Lib.hid (HF2.out.trans hF3)
      have H3 := Lib.hid (H.out.fresh HF3.out)
      clear hF3
      have HR' := Lib.hid (show R = if roomOf nodes bytes used t 1 0 = true then 0 else 13 from HR.out)
      clear HR
      generalize roomOf nodes bytes used t 1 0 = rm at HR' ⊢
      cases rm
      · have Hr := Lib.hid (show R = 13 from HR'.out)
        go_wp2_with fail
        go_ret
        exact ⟨by rw [Hr.out]; rfl, HF3.out.mono (fun _ _ h => h.elim), Or.inl ⟨by rw [Hr.out]; decide, H3.out⟩⟩
      · have Hr := Lib.hid (show R = 0 from HR'.out)
        go_wp2_with fail
        refine (put_calls H3.out q true none 0 [] 0 (RowAt.nil _ _) (fun _ => rfl) hck).mono ?_
        rintro _ w4 ⟨rfl, hf4, hk4⟩
        have HF4 := Lib.hid hf4
        have HK4 := Lib.hid ((HF3.out.mono (G := fun k => k = P ∨ k = M) (fun _ _ h => h.elim)).trans hk4)
        clear hf4 hk4
        go_wp2_with fail
        go_ret
        exact ⟨by rw [Hr.out]; rfl, HK4.out, Or.inr ⟨Hr.out, HF4.out⟩⟩
    · have t1 : (kindOf t q == 0) = false := by rw [beq_eq_false_iff_ne]; exact e1
      rw [if_pos e1] at HR
      have Hr := Lib.hid (show R = 12 from HR.out)
      generalize kindOf t q = kd at t1 ⊢
      go_wp2_with fail
      go_ret
      exact ⟨by rw [Hr.out]; rfl, HF2.out.mono (fun _ _ h => h.elim), Or.inl ⟨by rw [Hr.out]; decide, H2.out⟩⟩
  · have t1 : (er == 0) = false := by rw [beq_eq_false_iff_ne]; exact e0
    have Hr := Lib.hid (show R = er by have := HR.out; rw [if_pos e0] at this; exact this)
    have E0 := Lib.hid e0
    clear e0
    go_wp2_with fail
    go_ret
    exact ⟨by rw [Hr.out]; rfl, HF1.out.mono (fun _ _ h => h.elim), Or.inl ⟨by rw [Hr.out]; exact E0.out, H.out.fresh HF1.out⟩⟩
end Go.Proofs.YtbhmapcjcnceiaaGreatDoor
