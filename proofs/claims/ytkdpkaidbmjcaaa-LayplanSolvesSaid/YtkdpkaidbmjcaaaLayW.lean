/- usual; LayplanMore. -/
import Derived.Test.YtkdpkaidbmjcaaaLayV
namespace Go.Proofs.Ytkdpkaidbmjcaaa
open Go.RowKit
set_option linter.unusedSimpArgs false
set_option linter.unusedVariables false

/-- What usual says. -/
def UsualOut (n : Nat) (ord : Nat → Int) (over most : Int) (m : Nat) (e : Ending) : Prop := ∃ b : Bool, e = .returned (.bool b) ∧ (b = true → m ≤ 20 ∧ n ≤ 30 ∧ ¬ OrdBad n ord ∧ ¬ LimBad over most)

theorem usual_no {n : Nat} {ord : Nat → Int} {over most : Int} {m : Nat} {w w' : World} (hb : Below w.heap.size w w') : UsualOut n ord over most m (.returned (.bool false)) ∧ Below w.heap.size w w' := ⟨⟨false, rfl, fun h => by cases h⟩, hb⟩

set_option maxRecDepth 100000 in
set_option maxHeartbeats 3200000 in
theorem usual_any (Ao A : Option Addr) (n co m c : Nat) (ord : Nat → Int) (over most : Int) (mx : Nat → MixM) (w : World) (hp : Ints w Ao n ord) (hq : Mixes w w.heap.size A m mx) :
    Calls Try.prog 17 #[.agg #[.slice Ao n co, .int .i64 over, .int .i64 most], .slice A m c] w fun e w' => UsualOut n ord over most m e ∧ Below w.heap.size w w' := by
  have HQ := Lib.hid hq
  have HP := Lib.hid hp
  clear hq hp
  go_enter Try.func17, Try.ntmps17
  go_upto_region 1 with (fail)
  have k0 := Blk.new w 36 #[.slice Ao n co, .int .i64 over, .int .i64 most]
  have b0 := below_a1 w (.cells #[.slice Ao n co, .int .i64 over, .int .i64 most] 36)
  obtain ⟨g, hg⟩ : ∃ g, g = w.heap.size := ⟨_, rfl⟩
  rw [← hg] at k0
  rw [← hg]
  generalize hW : World.alloc _ _ = W at k0 b0 ⊢
  clear hW hg
  go_wp2_with fail
  refine (light_any A m c mx W (HQ.out.later b0)).mono ?_
  rintro e w1 ⟨⟨b, rfl, hb20⟩, hb1⟩
  have k1 := k0.later hb1
  have b1 := below_up b0 hb1
  have c0 := k1.cell 0
  have c1 := k1.cell 1
  have c2 := k1.cell 2
  simp at c0 c1 c2
  clear k0 b0 hb1
  cases b
  · go_wp2_with fail
    go_ret
    exact usual_no b1
  have hm20 := hb20 rfl
  clear hb20
  by_cases hn : (30 : Int) < n
  · go_wp2_with fail
    go_ret
    exact usual_no b1
  go_wp2_with fail
  refine (few_any A m c most w1 hm20).mono ?_
  rintro e w2 ⟨⟨b, rfl⟩, hb2⟩
  have k2 := k1.later hb2
  have b2 := below_up b1 hb2
  clear c0 c1 c2 k1 b1 hb2
  have c0 := k2.cell 0
  have c1 := k2.cell 1
  have c2 := k2.cell 2
  simp at c0 c1 c2
  cases b
  · go_wp2_with fail
    go_ret
    exact usual_no b2
  by_cases h1 : over < 0
  · go_wp2_with fail
    go_ret
    exact usual_no b2
  by_cases h2 : 1000 < over
  · go_wp2_with fail
    go_ret
    exact usual_no b2
  by_cases h3 : most < 0
  · go_wp2_with fail
    go_ret
    exact usual_no b2
  by_cases h4 : 40 < most
  · go_wp2_with fail
    go_ret
    exact usual_no b2
  have HL := Lib.hid (show ¬ LimBad over most from fun h => by unfold LimBad at h; omega)
  go_wp2_with fail
  go_loopw [5] (fun t wr => ∃ k : Nat, k ≤ n ∧ t = .int .i64 k ∧ Hid (∀ i, i < k → 0 ≤ ord i ∧ ord i ≤ 1000) ∧ wr = w2) (fun t _ => n - (intOf t).toNat)
  case atStart => exact ⟨0, Nat.zero_le _, rfl, Lib.hid (fun i hi => absurd hi (by omega)), rfl⟩
  case round =>
    obtain ⟨k, hk, rfl, hno, rfl⟩ := hrel
    by_cases hlt : k < n
    · obtain ⟨bb, o, rfl, hB⟩ := HP.out.addr (by omega)
      have f0 := (b2.cell (p := ⟨_, _, none⟩) hB).trans (HP.out.at1 hlt)
      have hlt' : (k : Int) < n := by omega
      have hk0 : (0 : Int) ≤ k := by omega
      by_cases g1 : ord k < 0
      · go_wp2_with fail
        go_ret
        exact usual_no b2
      by_cases g2 : 1000 < ord k
      · go_wp2_with fail
        go_ret
        exact usual_no b2
      go_wp2_with fail
      go_roundw
      case rel => exact ⟨k + 1, by omega, by go_num, Lib.hid (fun i hi => by rcases Nat.lt_succ_iff_lt_or_eq.1 hi with h' | rfl; exact hno.out i h'; omega), trivial⟩
      case measure => simp [intOf]; omega
    · have hlt' : ¬ (k : Int) < n := by omega
      have HOK := Lib.hid (show ¬ OrdBad n ord from fun ⟨i, hi, h⟩ => by have := hno.out i (by omega); omega)
      go_wp2_with fail
      go_ret
      exact ⟨⟨true, rfl, fun _ => ⟨hm20, by omega, HOK.out, HL.out⟩⟩, b2⟩

section
variable {n m : Nat} {ord : Nat → Int} {mx : Nat → MixM} {over most over' most' x x' : Int} {r r' : Plan}
theorem feas_wider (h : FeasP m n (cntM mx) ord over most r) (h1 : over ≤ over') (h2 : most ≤ most') : FeasP m n (cntM mx) ord over' most' r :=
  ⟨fun i hi => ⟨(h.1 i hi).1, by have := (h.1 i hi).2; omega⟩, fun s hs => ⟨(h.2 s hs).1, by have := (h.2 s hs).2; omega⟩⟩

theorem ask_zero (h : askErr n ord m mx over most = 0) : mixErr m mx = 0 ∧ n = sizesF m mx ∧ ¬ OrdBad n ord ∧ ¬ LimBad over most := by
  unfold askErr at h
  split at h
  · rename_i h1; exact absurd h h1
  · rename_i h1
    split at h
    · exact absurd h (by decide)
    · rename_i h2
      split at h
      · exact absurd h (by decide)
      · rename_i h3
        split at h
        · exact absurd h (by decide)
        · rename_i h4
          exact ⟨Decidable.not_not.1 h1, Decidable.not_not.1 h2, h3, h4⟩

/-- A plan that was found has no error. -/
theorem solve_plan (h : SolveOut n ord m mx over most 0 r) : planErr m r m mx = 0 ∧ costP m r m mx = costF (lenM mx) r m := by
  rcases h with ⟨_, h2, _⟩ | ⟨_, h2, _⟩ | ⟨h1, _, h3⟩
  · exact absurd rfl h2
  · exact absurd h2 (by decide)
  · obtain ⟨a, b, c, d⟩ := ask_zero h1
    have e : planErr m r m mx = 0 := planErr_ok a rfl (fun ⟨i, hi, hh⟩ => by have := h3.1.1 i hi; unfold LimBad at d; omega)
    exact ⟨e, by unfold costP; rw [if_pos e]⟩

/-- With wider limits a plan is found that costs no more. -/
theorem solve_wider (h : SolveOut n ord m mx over most 0 r) (h' : SolveOut n ord m mx over' most' x' r') (hl : ¬ LimBad over' most') (h1 : over ≤ over') (h2 : most ≤ most') : x' = 0 ∧ costF (lenM mx) r' m ≤ costF (lenM mx) r m := by
  rcases h with ⟨_, g2, _⟩ | ⟨_, g2, _⟩ | ⟨g1, _, g3⟩
  · exact absurd rfl g2
  · exact absurd g2 (by decide)
  · obtain ⟨a, b, c, _⟩ := ask_zero g1
    have hask : askErr n ord m mx over' most' = 0 := ask_ok a b c hl
    have hf := feas_wider (over' := over') (most' := most') g3.1 h1 h2
    rcases h' with ⟨k1, k2, _⟩ | ⟨_, _, k3⟩ | ⟨_, k2, k3⟩
    · rw [hask] at k1; exact absurd k1 k2
    · exact absurd trivial (k3 r hf)
    · have := k3.2.2 r hf trivial
      dsimp only at this
      exact ⟨k2, by omega⟩
end

set_option maxRecDepth 100000 in
set_option maxHeartbeats 6400000 in
theorem more_any (Ao A : Option Addr) (n co m c : Nat) (ord : Nat → Int) (over most : Int) (mx : Nat → MixM) (w : World) (hp : Ints w Ao n ord) (hq : Mixes w w.heap.size A m mx) :
    Calls Try.prog 9 #[.agg #[.slice Ao n co, .int .i64 over, .int .i64 most], .slice A m c] w fun e w' => e = .returned (.bool true) ∧ Below w.heap.size w w' := by
  have HQ := Lib.hid hq
  have HP := Lib.hid hp
  clear hq hp
  go_enter Try.func9, Try.ntmps9
  go_upto_region 1 with (fail)
  have k0 := Blk.new w 36 #[.slice Ao n co, .int .i64 over, .int .i64 most]
  have b0 := below_a1 w (.cells #[.slice Ao n co, .int .i64 over, .int .i64 most] 36)
  obtain ⟨g, hg⟩ : ∃ g, g = w.heap.size := ⟨_, rfl⟩
  rw [← hg] at k0
  rw [← hg]
  generalize hW : World.alloc _ _ = W at k0 b0 ⊢
  clear hW hg
  have c0 := k0.cell 0
  have c1 := k0.cell 1
  have c2 := k0.cell 2
  simp at c0 c1 c2
  go_wp2_with fail
  refine (usual_any Ao A n co m c ord over most mx W (HP.out.later b0) (HQ.out.later b0)).mono ?_
  rintro e w1 ⟨⟨b, rfl, hus⟩, hb1⟩
  have k1 := k0.later hb1
  have b1 := below_up b0 hb1
  clear c0 c1 c2 k0 b0 hb1
  cases b
  · go_wp2_with fail
    refine (alive_any w1).mono ?_
    rintro e w2 ⟨rfl, hb2⟩
    have b2 := below_up b1 hb2
    go_wp2_with fail
    go_ret
    exact ⟨rfl, b2⟩
  obtain ⟨hm20, hn30, hob, hlb⟩ := hus rfl
  have HLB := Lib.hid hlb
  have hl0 : 0 ≤ over ∧ over ≤ 1000 ∧ 0 ≤ most ∧ most ≤ 40 := by unfold LimBad at hlb; omega
  obtain ⟨l0, l1, l2, l3⟩ := hl0
  clear hus hob hlb
  have c0 := k1.cell 0
  have c1 := k1.cell 1
  have c2 := k1.cell 2
  simp at c0 c1 c2
  go_wp2_with fail
  refine (few_any A m c (most + 1) w1 hm20).mono ?_
  rintro e w2 ⟨⟨b, rfl⟩, hb2⟩
  have k2 := k1.later hb2
  have b2 := below_up b1 hb2
  clear c0 c1 c2 k1 b1 hb2
  have c0 := k2.cell 0
  have c1 := k2.cell 1
  have c2 := k2.cell 2
  simp at c0 c1 c2
  cases b
  · go_wp2_with fail
    refine (alive_any w2).mono ?_
    rintro e w3 ⟨rfl, hb3⟩
    have b3 := below_up b2 hb3
    go_wp2_with fail
    go_ret
    exact ⟨rfl, b3⟩
  by_cases ho : over = 1000
  · subst ho
    go_wp2_with fail
    refine (alive_any w2).mono ?_
    rintro e w3 ⟨rfl, hb3⟩
    have b3 := below_up b2 hb3
    go_wp2_with fail
    go_ret
    exact ⟨rfl, b3⟩
  by_cases hm : most = 40
  · subst hm
    have ho' : (over == 1000) = false := by simp; omega
    go_wp2_with fail
    refine (alive_any w2).mono ?_
    rintro e w3 ⟨rfl, hb3⟩
    have b3 := below_up b2 hb3
    go_wp2_with fail
    go_ret
    exact ⟨rfl, b3⟩
  have ho' : (over == 1000) = false := by simp; omega
  have hm' : (most == 40) = false := by simp; omega
  have HW1 := Lib.hid (show ¬ LimBad (over + 1) most from fun h => by unfold LimBad at h; omega)
  have HW2 := Lib.hid (show ¬ LimBad over (most + 1) from fun h => by unfold LimBad at h; omega)
  clear ho hm
  go_wp2_with fail
  refine (Solve_any A Ao n co m c mx ord over most w2 (HP.out.later b2) (HQ.out.later b2) (by omega)).mono ?_
  rintro e w3 ⟨v3, x3, r3, rfl, hS3, hO3, hb3⟩
  have k3 := k2.later hb3
  have b3 := below_up b2 hb3
  clear c0 c1 c2 k2 b2
  by_cases hx : x3 = 0
  rotate_left
  · rw [if_neg hx] at hO3
    obtain ⟨A3, c3, rfl, -, -, -⟩ := hO3.form
    have hne : (x3 != 0) = true := bne_iff_ne.2 hx
    clear hx hO3 hS3 hb3
    go_wp2_with fail
    refine (alive_any w3).mono ?_
    rintro e w4 ⟨rfl, hb4⟩
    have b4 := below_up b3 hb4
    go_wp2_with fail
    go_ret
    exact ⟨rfl, b4⟩
  subst hx
  rw [if_pos rfl] at hO3
  obtain ⟨A3, c3, rfl, -, -, r3'⟩ := hO3.form
  have HS3 := Lib.hid hS3
  have R3 := Lib.hid r3'
  have c0 := k3.cell 0
  have c1 := k3.cell 1
  have c2 := k3.cell 2
  simp at c0 c1 c2
  clear hO3 hS3 hb3 r3'
  go_wp2_with fail
  refine (Solve_any A Ao n co m c mx ord (over + 1) most w3 (HP.out.later b3) (HQ.out.later b3) (by omega)).mono ?_
  rintro e w4 ⟨v4, x4, r4, rfl, hS4, hO4, hb4⟩
  obtain ⟨rfl, g4⟩ := solve_wider HS3.out hS4 HW1.out (by omega) (by omega)
  rw [if_pos rfl] at hO4
  obtain ⟨A4, c4, rfl, -, -, r4'⟩ := hO4.form
  have HG4 := Lib.hid g4
  have HS4 := Lib.hid hS4
  have R4 := Lib.hid r4'
  have R34 := Lib.hid (R3.out.later hb4)
  have k4 := k3.later hb4
  have b4 := below_up b3 hb4
  clear hO4 hS4 hb4 r4' g4 c0 c1 c2 k3 b3 R3
  have c0 := k4.cell 0
  have c1 := k4.cell 1
  have c2 := k4.cell 2
  simp at c0 c1 c2
  go_wp2_with fail
  refine (Solve_any A Ao n co m c mx ord over (most + 1) w4 (HP.out.later b4) (HQ.out.later b4) (by omega)).mono ?_
  rintro e w5 ⟨v5, x5, r5, rfl, hS5, hO5, hb5⟩
  obtain ⟨rfl, g5⟩ := solve_wider HS3.out hS5 HW2.out (by omega) (by omega)
  rw [if_pos rfl] at hO5
  obtain ⟨A5, c5, rfl, -, -, r5'⟩ := hO5.form
  have HG5 := Lib.hid g5
  have HS5 := Lib.hid hS5
  have R5 := Lib.hid r5'
  have R35 := Lib.hid (R34.out.later hb5)
  have R45 := Lib.hid (R4.out.later hb5)
  have b5 := below_up b4 hb5
  clear hO5 hS5 hb5 r5' g5 c0 c1 c2 k4 b4 R34 R4
  go_wp2_with fail
  refine (Cost_any A A3 m c3 m c r3 mx w5 R35.out (HQ.out.later b5)).mono ?_
  rintro e w6 ⟨rfl, hb6⟩
  rw [(solve_plan HS3.out).1, (solve_plan HS3.out).2]
  have R46 := Lib.hid (R45.out.later hb6)
  have R56 := Lib.hid (R5.out.later hb6)
  have b6 := below_up b5 hb6
  clear b5 hb6 R35 R45 R5
  go_wp2_with fail
  refine (Cost_any A A4 m c4 m c r4 mx w6 R46.out (HQ.out.later b6)).mono ?_
  rintro e w7 ⟨rfl, hb7⟩
  rw [(solve_plan HS4.out).1, (solve_plan HS4.out).2]
  have R57 := Lib.hid (R56.out.later hb7)
  have b7 := below_up b6 hb7
  clear b6 hb7 R46 R56
  go_wp2_with fail
  refine (Cost_any A A5 m c5 m c r5 mx w7 R57.out (HQ.out.later b7)).mono ?_
  rintro e w8 ⟨rfl, hb8⟩
  rw [(solve_plan HS5.out).1, (solve_plan HS5.out).2]
  have b8 := below_up b7 hb8
  have g4 := HG4.out
  have g5 := HG5.out
  clear b7 hb8 R57
  generalize costF (lenM mx) r3 m = C3 at g4 g5 ⊢
  generalize costF (lenM mx) r4 m = C4 at g4 ⊢
  generalize costF (lenM mx) r5 m = C5 at g5 ⊢
  go_wp2_with fail
  refine (alive_any w8).mono ?_
  rintro e w9 ⟨rfl, hb9⟩
  have b9 := below_up b8 hb9
  go_wp2_with fail
  go_ret
  exact ⟨rfl, b9⟩

end Go.Proofs.Ytkdpkaidbmjcaaa
