/- LayplanOptimal. -/
import Derived.Test.YtkdpkaidbmjcaaaLayZ
namespace Go.Proofs.Ytkdpkaidbmjcaaa
open Go.RowKit
set_option linter.unusedSimpArgs false
set_option linter.unusedVariables false

section
variable {n m l : Nat} {ord : Nat → Int} {mx : Nat → MixM} {over most x : Int} {r f : Plan}
/-- No plan fits where none was found. -/
theorem opt_none (h : SolveOut n ord m mx over most x r) (hx : x = 18) : ¬ FitsP n ord over most m mx l f := by
  rcases h with ⟨_, _, h3⟩ | ⟨_, _, h3⟩ | ⟨_, h2, _⟩
  · exact absurd hx h3
  · exact fun hh => h3 f hh.2.2 trivial
  · rw [hx] at h2; exact absurd h2 (by decide)
/-- The plan that was found fits. -/
theorem opt_fits (h : SolveOut n ord m mx over most 0 r) : FitsP n ord over most m mx m r := by
  have hp := (solve_plan h).1
  rcases h with ⟨_, h2, _⟩ | ⟨_, h2, _⟩ | ⟨h1, _, h3⟩
  · exact absurd rfl h2
  · exact absurd h2 (by decide)
  · exact ⟨hp, (ask_zero h1).2.1.symm, h3.1⟩
/-- No other one is better. -/
theorem opt_best (h : SolveOut n ord m mx over most 0 r) (hf : FitsP n ord over most m mx l f) : l = m ∧ costP l f m mx = costF (lenM mx) f m ∧ costF (lenM mx) r m ≤ costF (lenM mx) f m ∧ (costF (lenM mx) r m < costF (lenM mx) f m ∨ ¬ BeforeP m f r) := by
  rcases h with ⟨_, h2, _⟩ | ⟨_, h2, _⟩ | ⟨h1, _, h3⟩
  · exact absurd rfl h2
  · exact absurd h2 (by decide)
  · have g := h3.2.2 f hf.2.2 trivial
    dsimp only at g
    refine ⟨(plan_ok hf.1).2.1, by unfold costP; rw [if_pos hf.1], by omega, ?_⟩
    rcases g with g | ⟨g1, g2⟩
    · exact .inl g
    · exact .inr (fun ⟨j, hj, a, b⟩ => g2 ⟨j, hj, a, b⟩)
end

set_option maxRecDepth 100000 in
set_option maxHeartbeats 6400000 in
theorem optimal_any (Ao A A2 : Option Addr) (n co m c l c2 : Nat) (ord : Nat → Int) (over most : Int) (mx : Nat → MixM) (f : Nat → Int) (w : World) (hp : Ints w Ao n ord) (hq : Mixes w w.heap.size A m mx) (hf : Ints w A2 l f) :
    Calls Try.prog 7 #[.agg #[.slice Ao n co, .int .i64 over, .int .i64 most], .slice A m c, .slice A2 l c2] w fun e w' => e = .returned (.bool true) ∧ Below w.heap.size w w' := by
  have HQ := Lib.hid hq
  have HP := Lib.hid hp
  have HF := Lib.hid hf
  clear hq hp hf
  go_enter Try.func7, Try.ntmps7
  go_upto_region 1 with (fail)
  have k0 := Blk.new w 36 #[.slice Ao n co, .int .i64 over, .int .i64 most]
  have b0 := below_a1 w (.cells #[.slice Ao n co, .int .i64 over, .int .i64 most] 36)
  obtain ⟨g, hg⟩ : ∃ g, g = w.heap.size := ⟨_, rfl⟩
  rw [← hg] at k0
  rw [← hg]
  generalize hW : World.alloc _ _ = W at k0 b0 ⊢
  clear hW hg
  have c0 := k0.cell 0
  have c1 := k0.cell 1
  have c2' := k0.cell 2
  simp at c0 c1 c2'
  go_wp2_with fail
  refine (usual_any Ao A n co m c ord over most mx W (HP.out.later b0) (HQ.out.later b0)).mono ?_
  rintro e w1 ⟨⟨b, rfl, hus⟩, hb1⟩
  have k1 := k0.later hb1
  have b1 := below_up b0 hb1
  clear c0 c1 c2' k0 b0 hb1
  cases b
  · go_wp2_with fail
    refine (alive_any w1).mono ?_
    rintro e w2 ⟨rfl, hb2⟩
    have b2 := below_up b1 hb2
    go_wp2_with fail
    go_ret
    exact ⟨rfl, b2⟩
  obtain ⟨hm20, hn30, hob, hlb⟩ := hus rfl
  have HOB := Lib.hid hob
  have HLB := Lib.hid hlb
  clear hus hob hlb
  by_cases hl : (30 : Int) < l
  · go_wp2_with fail
    refine (alive_any w1).mono ?_
    rintro e w2 ⟨rfl, hb2⟩
    have b2 := below_up b1 hb2
    go_wp2_with fail
    go_ret
    exact ⟨rfl, b2⟩
  have c0 := k1.cell 0
  have c1 := k1.cell 1
  have c2' := k1.cell 2
  simp at c0 c1 c2'
  go_wp2_with fail
  refine (Solve_any A Ao n co m c mx ord over most w1 (HP.out.later b1) (HQ.out.later b1) (by omega)).mono ?_
  rintro e w2 ⟨v2, x2, r2, rfl, hS2, hO2, hb2⟩
  obtain ⟨N2, hN2⟩ : ∃ N, N = (if x2 = 0 then m else 0) := ⟨_, rfl⟩
  rw [← hN2] at hO2
  have HN2 := Lib.hid hN2
  obtain ⟨A3, c3, rfl, -, -, r3⟩ := hO2.form
  have R3 := Lib.hid r3
  have HS := Lib.hid hS2
  have k2 := k1.later hb2
  have b2 := below_up b1 hb2
  clear hN2 hO2 r3 hS2 hb2 k1 b1 c0 c1 c2'
  go_wp2_with fail
  refine (Produced_any A A2 l c2 m c f mx w2 (HF.out.later b2) (HQ.out.later b2)).mono ?_
  rintro e w3 ⟨v3, rfl, hO3, hb3⟩
  obtain ⟨A4, c4, rfl, -, -, -⟩ := hO3.form
  have R33 := Lib.hid (R3.out.later hb3)
  have k3 := k2.later hb3
  have b3 := below_up b2 hb3
  have c0 := k3.cell 0
  have c1 := k3.cell 1
  have c2' := k3.cell 2
  simp at c0 c1 c2'
  clear hO3 hb3 k2 b2 R3
  go_upto_region 5 with (fail)
  go_cut [10, 11] from 16 to 112 (fun t s wq => t = .int .i64 (planErr l f m mx) ∧ (∃ b : Bool, s = .bool b ∧ Hid (b = true ↔ FitsP n ord over most m mx l f)) ∧ Below w3.heap.size w3 wq)
  case first =>
    by_cases he : planErr l f m mx = 0
    · rw [he]
      have HEE := Lib.hid he
      clear he
      go_wp2_with fail
      refine (fits_any Ao A A2 n co m c l c2 ord over most mx f w3 HOB.out HLB.out (HP.out.later b3) (HF.out.later b3) (HQ.out.later b3)).mono ?_
      rintro e w4 ⟨⟨b, rfl, hbb⟩, hb4⟩
      have HBB := Lib.hid hbb
      clear hbb
      go_wp2_with fail
      go_meet
      case rel => exact ⟨by rw [HEE.out], ⟨b, rfl, HBB⟩, hb4⟩
    · have hne : (planErr l f m mx == 0) = false := by simp [he]
      have HBB := Lib.hid (show (false = true ↔ FitsP n ord over most m mx l f) from ⟨fun h => (by cases h), fun h => absurd h.1 he⟩)
      clear he
      go_wp2_with fail
      go_meet
      case rel => exact ⟨rfl, ⟨false, rfl, HBB⟩, Below.refl _ _⟩
  case rest =>
    obtain ⟨rfl, ⟨is, rfl, HIS⟩, hb4⟩ := hcut
    have R34 := Lib.hid (R33.out.later hb4)
    have k4 := k3.later hb4
    have b4 := below_up b3 hb4
    clear c0 c1 c2' k3 b3 hb4 R33
    by_cases hx : x2 = 0
    rotate_left
    · obtain rfl : N2 = 0 := by rw [HN2.out, if_neg hx]
      have hne : (x2 != 0) = true := bne_iff_ne.2 hx
      have HX18 := Lib.hid (fun (h : is = true) => show x2 ≠ 18 from fun e => opt_none HS.out e (HIS.out.1 h))
      clear hx HN2
      cases is
      · go_wp2_with fail
        refine (alive_any _).mono ?_
        rintro e w5 ⟨rfl, hb5⟩
        have b5 := below_up b4 hb5
        go_wp2_with fail
        go_ret
        exact ⟨rfl, b5⟩
      · have h18 : (x2 != 18) = true := bne_iff_ne.2 (HX18.out rfl)
        go_wp2_with fail
        refine (alive_any _).mono ?_
        rintro e w5 ⟨rfl, hb5⟩
        have b5 := below_up b4 hb5
        go_wp2_with fail
        go_ret
        exact ⟨rfl, b5⟩
    subst hx
    obtain rfl : N2 = m := by rw [HN2.out, if_pos rfl]
    clear HN2
    have c0 := k4.cell 0
    have c1 := k4.cell 1
    have c2' := k4.cell 2
    simp at c0 c1 c2'
    go_wp2_with fail
    refine (fits_any Ao A A3 n co N2 c N2 c3 ord over most mx r2 _ HOB.out HLB.out (HP.out.later b4) R34.out (HQ.out.later b4)).mono ?_
    rintro e w5 ⟨⟨b, rfl, hbb⟩, hb5⟩
    obtain rfl : b = true := hbb.2 (opt_fits HS.out)
    have R35 := Lib.hid (R34.out.later hb5)
    have b5 := below_up b4 hb5
    clear hbb hb5 b4 c0 c1 c2' k4 R34
    go_wp2_with fail
    refine (Cost_any A A3 N2 c3 N2 c r2 mx w5 R35.out (HQ.out.later b5)).mono ?_
    rintro e w6 ⟨rfl, hb6⟩
    rw [(solve_plan HS.out).1, (solve_plan HS.out).2]
    have R36 := Lib.hid (R35.out.later hb6)
    have b6 := below_up b5 hb6
    clear hb6 b5 R35
    go_wp2_with fail
    refine (Cost_any A A2 l c2 N2 c f mx w6 (HF.out.later b6) (HQ.out.later b6)).mono ?_
    rintro e w7 ⟨rfl, hb7⟩
    have R37 := Lib.hid (R36.out.later hb7)
    have b7 := below_up b6 hb7
    clear hb7 b6 R36
    cases is
    · go_wp2_with fail
      refine (alive_any w7).mono ?_
      rintro e w8 ⟨rfl, hb8⟩
      have b8 := below_up b7 hb8
      go_wp2_with fail
      go_ret
      exact ⟨rfl, b8⟩
    · have hfit := HIS.out.1 rfl
      obtain ⟨o1, o2, o3, o4⟩ := opt_best HS.out hfit
      have HO4 := Lib.hid o4
      rw [hfit.1, o2]
      subst o1
      clear o2 o4 hfit
      generalize costF (lenM mx) r2 l = C1 at o3 HO4 ⊢
      generalize costF (lenM mx) f l = C2 at o3 HO4 ⊢
      by_cases hlt : C1 < C2
      · go_wp2_with fail
        refine (alive_any w7).mono ?_
        rintro e w8 ⟨rfl, hb8⟩
        have b8 := below_up b7 hb8
        go_wp2_with fail
        go_ret
        exact ⟨rfl, b8⟩
      · have HNB := Lib.hid (HO4.out.resolve_left hlt)
        go_wp2_with fail
        refine (before_any A2 A3 l c2 c3 f r2 w7 (by omega) (HF.out.later b7) R37.out).mono ?_
        rintro e w8 ⟨rfl, hb8⟩
        rw [decide_eq_false HNB.out]
        have b8 := below_up b7 hb8
        clear hb8 b7
        go_wp2_with fail
        refine (alive_any w8).mono ?_
        rintro e w9 ⟨rfl, hb9⟩
        have b9 := below_up b8 hb9
        go_wp2_with fail
        go_ret
        exact ⟨rfl, b9⟩

end Go.Proofs.Ytkdpkaidbmjcaaa
