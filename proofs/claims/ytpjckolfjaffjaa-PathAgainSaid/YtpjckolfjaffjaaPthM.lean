/- PathAgain: the walk. -/
import Derived.Test.YtpjckolfjaffjaaPthL
namespace Go.Proofs.Ytpjckolfjaffjaa
open Go.RowKit
set_option linter.unusedSimpArgs false
set_option linter.unusedVariables false

set_option maxRecDepth 100000 in
set_option maxHeartbeats 1600000 in
theorem again_any (A A2 : Option Addr) (m c l c2 : Nat) (poly : Nat → Poly) (ord : Nat → Int) (w : World) (hq : PolysIn w A m poly) (hp : Row w w.heap.size 1 A2 l (fun i _ => .int .i64 (ord i))) :
    Calls Try.prog 9 #[.slice A m c, .slice A2 l c2] w fun e w' => e = .returned (.bool true) ∧ Below w.heap.size w w' := by
  have HQ := Lib.hid hq
  have HP := Lib.hid hp
  clear hq hp
  by_cases h6 : 6 < m
  · have h6' : (6 : Int) < m := by omega
    go_enter Try.func9, Try.ntmps9
    go_wp2_with fail
    refine (light_any A m c poly _ HQ.out.1).mono ?_
    rintro e w1 ⟨hb1, rfl | ⟨rfl, hm, hs⟩⟩
    all_goals
      go_wp2_with fail
      refine (alive_any _).mono ?_
      rintro e w2 ⟨rfl, hb2⟩
      go_wp2_with fail
      go_ret
      exact ⟨rfl, below_up hb1 hb2⟩
  have h6' : ¬ (6 : Int) < m := by omega
  by_cases hl : 100 < l
  · have hl' : (100 : Int) < l := by omega
    go_enter Try.func9, Try.ntmps9
    go_wp2_with fail
    refine (light_any A m c poly _ HQ.out.1).mono ?_
    rintro e w1 ⟨hb1, rfl | ⟨rfl, hm, hs⟩⟩
    all_goals
      go_wp2_with fail
      refine (alive_any _).mono ?_
      rintro e w2 ⟨rfl, hb2⟩
      go_wp2_with fail
      go_ret
      exact ⟨rfl, below_up hb1 hb2⟩
  have hl' : ¬ (100 : Int) < l := by omega
  go_enter Try.func9, Try.ntmps9
  go_wp2_with fail
  refine (light_any A m c poly _ HQ.out.1).mono ?_
  rintro e w1 ⟨hb1, rfl | ⟨rfl, hm, hs⟩⟩
  · go_wp2_with fail
    refine (alive_any _).mono ?_
    rintro e w2 ⟨rfl, hb2⟩
    go_wp2_with fail
    go_ret
    exact ⟨rfl, below_up hb1 hb2⟩
  have HQ1 := Lib.hid ((HQ.out.light hs).later hb1)
  have HP1 := Lib.hid (HP.out.later hb1)
  clear HQ HP hs
  go_wp2_with fail
  refine (Improve_any _ _ m _ l _ poly ord _ (by omega) HQ1.out HP1.out).mono ?_
  intro e w2 hpost
  obtain ⟨hb2, AI, cI, rfl, rI⟩ := hpost.list
  have HQ2 := Lib.hid (HQ1.out.later hb2)
  have bb2 := below_up hb1 hb2
  clear HQ1 HP1 hb1 hb2 hpost
  by_cases hE : bothErr m poly l ord = 0
  rotate_left
  · have hne : (bothErr m poly l ord != 0) = true := bne_iff_ne.2 hE
    rw [lenF_no _ hE]
    clear hE rI
    go_wp2_with fail
    refine (alive_any _).mono ?_
    rintro e wz ⟨rfl, hbz⟩
    go_wp2_with fail
    go_ret
    exact ⟨rfl, below_up bb2 hbz⟩
  rw [lenF_ok _ hE] at rI
  rw [lenF_ok _ hE, hE]
  obtain ⟨hchk, hord⟩ := both_zero hE
  have hlm : l = m := hord.1
  subst hlm
  have HA := Lib.hid (imp_again (s := startF poly) hord (by omega))
  have HE2 := Lib.hid (both_ord (poly := poly) hchk (decide_eq_true (imp_order (s := startF poly) hord 1000)))
  have RI := Lib.hid rI
  clear hE hchk hord rI
  go_wp2_with fail
  refine (Improve_any _ _ l _ l _ poly (impF (startF poly) l ord 1000) _ (by omega) HQ2.out RI.out).mono ?_
  intro e w3 hpost
  obtain ⟨hb3, AJ, cJ, rfl, rJ⟩ := hpost.list
  rw [HE2.out, lenF_ok _ rfl] at rJ
  rw [HE2.out, lenF_ok _ rfl]
  rw [HA.out] at rJ
  have RI3 := Lib.hid (RI.out.later hb3)
  have RJ := Lib.hid rJ
  have bb3 := below_up bb2 hb3
  clear RI rJ hb3 bb2 hpost HQ2
  generalize impF (startF poly) l ord 1000 = o at *
  go_wp2_with fail
  refine (sameInts_any _ _ l l _ _ _ _ _ (by omega) (by omega) RI3.out RJ.out).mono ?_
  rintro e w4 ⟨rfl, hb4⟩
  rw [same_ints_self]
  have bb4 := below_up bb3 hb4
  go_wp2_with fail
  refine (alive_any _).mono ?_
  rintro e wz ⟨rfl, hbz⟩
  go_wp2_with fail
  go_ret
  exact ⟨rfl, below_up bb4 hbz⟩

end Go.Proofs.Ytpjckolfjaffjaa
