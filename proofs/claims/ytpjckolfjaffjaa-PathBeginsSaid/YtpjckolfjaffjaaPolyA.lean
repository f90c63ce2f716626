/- The small functions on spots: cross, on, parted, meet, folded, outside of package polygon, and their twins of the reference. -/
import Derived.Test.YtpjckolfjaffjaaProg
import Derived.Test.YtpjckolfjaffjaaBase
import Derived.Test.YtpjckolfjaffjaaGeo
namespace Go.Proofs.Ytpjckolfjaffjaa
open Go.RowKit
set_option linter.unusedSimpArgs false
set_option linter.unusedVariables false

theorem wrap_in (n : Int) (h1 : -9223372036854775808 ≤ n) (h2 : n ≤ 9223372036854775807) : wrap64 n = n := IntWalk.wrap64_in n ⟨h1, h2⟩

theorem cross_wrap {a b c : Spot} (ha : a.ok) (hb : b.ok) (hc : c.ok) :
    wrap64 (wrap64 ((b.x - a.x) * (c.y - a.y)) - wrap64 ((b.y - a.y) * (c.x - a.x))) = crossF a b c := by
  have h := cross_bd ha hb hc
  obtain ⟨a1, a2, a3, a4⟩ := ha
  obtain ⟨b1, b2, b3, b4⟩ := hb
  obtain ⟨c1, c2, c3, c4⟩ := hc
  have p := prod_bd (a := b.x - a.x) (b := c.y - a.y) (by omega) (by omega) (by omega) (by omega)
  have q := prod_bd (a := b.y - a.y) (b := c.x - a.x) (by omega) (by omega) (by omega) (by omega)
  rw [wrap_in ((b.x - a.x) * (c.y - a.y)) (by omega) (by omega), wrap_in ((b.y - a.y) * (c.x - a.x)) (by omega) (by omega)]
  unfold crossF at *
  rw [wrap_in _ (by omega) (by omega)]

theorem dot_wrap {a b c : Spot} (ha : a.ok) (hb : b.ok) (hc : c.ok) :
    wrap64 (wrap64 ((a.x - b.x) * (c.x - b.x)) + wrap64 ((a.y - b.y) * (c.y - b.y))) = dotF a b c := by
  have h := dot_bd ha hb hc
  obtain ⟨a1, a2, a3, a4⟩ := ha
  obtain ⟨b1, b2, b3, b4⟩ := hb
  obtain ⟨c1, c2, c3, c4⟩ := hc
  have p := prod_bd (a := a.x - b.x) (b := c.x - b.x) (by omega) (by omega) (by omega) (by omega)
  have q := prod_bd (a := a.y - b.y) (b := c.y - b.y) (by omega) (by omega) (by omega) (by omega)
  rw [wrap_in ((a.x - b.x) * (c.x - b.x)) (by omega) (by omega), wrap_in ((a.y - b.y) * (c.y - b.y)) (by omega) (by omega)]
  unfold dotF at *
  rw [wrap_in _ (by omega) (by omega)]

set_option maxHeartbeats 400000 in
theorem cross_any (ax ay bx bY cx cy : Int) (w : World) (ha : Spot.ok ⟨ax, ay⟩) (hb : Spot.ok ⟨bx, bY⟩) (hc : Spot.ok ⟨cx, cy⟩) :
    Calls Try.prog 49 #[.agg #[.int .i64 ax, .int .i64 ay], .agg #[.int .i64 bx, .int .i64 bY], .agg #[.int .i64 cx, .int .i64 cy]] w
      fun e w' => e = .returned (.int .i64 (crossF ⟨ax, ay⟩ ⟨bx, bY⟩ ⟨cx, cy⟩)) ∧ Below w.heap.size w w' := by
  have hw := Lib.hid (cross_wrap ha hb hc)
  simp only [Spot.ok] at ha hb hc
  obtain ⟨a1, a2, a3, a4⟩ := ha
  obtain ⟨b1, b2, b3, b4⟩ := hb
  obtain ⟨c1, c2, c3, c4⟩ := hc
  go_enter Try.func49, Try.ntmps49
  go_wp2
  go_ret
  exact ⟨ret_int hw.out, below_a3 _ _ _ _⟩

set_option maxHeartbeats 400000 in
theorem rcross_any (ax ay bx bY cx cy : Int) (w : World) (ha : Spot.ok ⟨ax, ay⟩) (hb : Spot.ok ⟨bx, bY⟩) (hc : Spot.ok ⟨cx, cy⟩) :
    Calls Try.prog 55 #[.agg #[.int .i64 ax, .int .i64 ay], .agg #[.int .i64 bx, .int .i64 bY], .agg #[.int .i64 cx, .int .i64 cy]] w
      fun e w' => e = .returned (.int .i64 (crossF ⟨ax, ay⟩ ⟨bx, bY⟩ ⟨cx, cy⟩)) ∧ Below w.heap.size w w' := by
  have hw := Lib.hid (cross_wrap ha hb hc)
  simp only [Spot.ok] at ha hb hc
  obtain ⟨a1, a2, a3, a4⟩ := ha
  obtain ⟨b1, b2, b3, b4⟩ := hb
  obtain ⟨c1, c2, c3, c4⟩ := hc
  go_enter Try.func55, Try.ntmps55
  go_wp2
  go_ret
  exact ⟨ret_int hw.out, below_a3 _ _ _ _⟩

set_option maxHeartbeats 800000 in
theorem on_any (ax ay bx bY cx cy : Int) (w : World) (ha : Spot.ok ⟨ax, ay⟩) (hb : Spot.ok ⟨bx, bY⟩) (hc : Spot.ok ⟨cx, cy⟩) :
    Calls Try.prog 50 #[.agg #[.int .i64 ax, .int .i64 ay], .agg #[.int .i64 bx, .int .i64 bY], .agg #[.int .i64 cx, .int .i64 cy]] w
      fun e w' => e = .returned (.bool (onF ⟨ax, ay⟩ ⟨bx, bY⟩ ⟨cx, cy⟩)) ∧ Below w.heap.size w w' := by
  go_enter Try.func50, Try.ntmps50
  go_wp2_with fail
  refine (cross_any _ _ _ _ _ _ _ ha hb hc).mono ?_
  rintro e w1 ⟨rfl, hb1⟩
  obtain ⟨hc1, hf1⟩ := kept hb1
  have hbw := below_up (below_a3 _ _ _ _) hb1
  go_wp2_with fail
  all_goals
    go_ret
    refine ⟨ret_bool ?_, hbw⟩
    simp only [onF]
    clear hb1 hc1 hf1
    rw [Bool.eq_iff_iff]
    simp only [decide_eq_true_eq, Bool.false_eq_true, false_iff, true_iff]
    omega

set_option maxHeartbeats 800000 in
theorem between_any (ax ay bx bY cx cy : Int) (w : World) (ha : Spot.ok ⟨ax, ay⟩) (hb : Spot.ok ⟨bx, bY⟩) (hc : Spot.ok ⟨cx, cy⟩) :
    Calls Try.prog 52 #[.agg #[.int .i64 ax, .int .i64 ay], .agg #[.int .i64 bx, .int .i64 bY], .agg #[.int .i64 cx, .int .i64 cy]] w
      fun e w' => e = .returned (.bool (onF ⟨ax, ay⟩ ⟨bx, bY⟩ ⟨cx, cy⟩)) ∧ Below w.heap.size w w' := by
  go_enter Try.func52, Try.ntmps52
  go_wp2_with fail
  refine (rcross_any _ _ _ _ _ _ _ ha hb hc).mono ?_
  rintro e w1 ⟨rfl, hb1⟩
  obtain ⟨hc1, hf1⟩ := kept hb1
  have hbw := below_up (below_a3 _ _ _ _) hb1
  go_wp2_with fail
  all_goals
    go_ret
    refine ⟨ret_bool ?_, hbw⟩
    simp only [onF]
    clear hb1 hc1 hf1
    rw [Bool.eq_iff_iff]
    simp only [decide_eq_true_eq, Bool.false_eq_true, false_iff, true_iff]
    omega

set_option maxHeartbeats 400000 in
theorem folded_any (ax ay bx bY cx cy : Int) (w : World) (ha : Spot.ok ⟨ax, ay⟩) (hb : Spot.ok ⟨bx, bY⟩) (hc : Spot.ok ⟨cx, cy⟩) :
    Calls Try.prog 44 #[.agg #[.int .i64 ax, .int .i64 ay], .agg #[.int .i64 bx, .int .i64 bY], .agg #[.int .i64 cx, .int .i64 cy]] w
      fun e w' => e = .returned (.bool (foldedF ⟨ax, ay⟩ ⟨bx, bY⟩ ⟨cx, cy⟩)) ∧ Below w.heap.size w w' := by
  have hw := Lib.hid (dot_wrap ha hb hc)
  have ka := ha
  have kb := hb
  have kc := hc
  simp only [Spot.ok] at ka kb kc
  obtain ⟨a1, a2, a3, a4⟩ := ka
  obtain ⟨b1, b2, b3, b4⟩ := kb
  obtain ⟨c1, c2, c3, c4⟩ := kc
  go_enter Try.func44, Try.ntmps44
  go_wp2_with fail
  refine (cross_any _ _ _ _ _ _ _ ha hb hc).mono ?_
  rintro e w1 ⟨rfl, hb1⟩
  obtain ⟨hc1, hf1⟩ := kept hb1
  have hbw := below_up (below_a3 _ _ _ _) hb1
  go_wp2_with fail
  all_goals
    go_ret
    refine ⟨ret_bool ?_, hbw⟩
    simp only [foldedF]
    clear hb1 hc1 hf1
    try rw [hw.out]
    rw [Bool.eq_iff_iff]
    simp only [decide_eq_true_eq, Bool.false_eq_true, false_iff, true_iff]
    omega

theorem outside_any (x y : Int) (w : World) :
    Calls Try.prog 35 #[.agg #[.int .i64 x, .int .i64 y]] w
      fun e w' => e = .returned (.bool (outsideF ⟨x, y⟩)) ∧ Below w.heap.size w w' := by
  go_enter Try.func35, Try.ntmps35
  go_wp2_with fail
  all_goals
    go_ret
    refine ⟨ret_bool ?_, below_a1 _ _⟩
    simp only [outsideF]
    rw [Bool.eq_iff_iff]
    simp only [decide_eq_true_eq, Bool.false_eq_true, false_iff, true_iff, Bool.or_eq_true]
    omega

theorem within_any (x y : Int) (w : World) :
    Calls Try.prog 46 #[.agg #[.int .i64 x, .int .i64 y], .int .i64 1048576] w
      fun e w' => e = .returned (.bool (!outsideF ⟨x, y⟩)) ∧ Below w.heap.size w w' := by
  go_enter Try.func46, Try.ntmps46
  go_wp2_with fail
  all_goals
    go_ret
    refine ⟨ret_bool ?_, below_a1 _ _⟩
    simp only [outsideF]
    rw [Bool.eq_iff_iff]
    simp only [decide_eq_true_eq, Bool.false_eq_true, false_iff, true_iff, Bool.not_eq_true', decide_eq_false_iff_not]
    omega

theorem isNaN_any (x : Int) (w : World) :
    Calls Try.prog 57 #[.int .i64 x] w fun e w' => e = .returned (.bool false) ∧ w = w' := by
  have hx : (x != x) = false := by simp
  go_enter Try.func57, Try.ntmps57
  go_wp2_with fail
  go_ret
  exact ⟨rfl, rfl⟩

def cmpF (x y : Int) : Int := if x < y then -1 else if y < x then 1 else 0

theorem cmp_sgn (x : Int) : cmpF x 0 = sgnF x := by
  unfold cmpF sgnF
  split <;> split <;> first | rfl | omega

theorem compare_any (x y : Int) (w : World) :
    Calls Try.prog 54 #[.int .i64 x, .int .i64 y] w fun e w' => e = .returned (.int .i64 (cmpF x y)) ∧ w = w' := by
  go_enter Try.func54, Try.ntmps54
  go_wp2_with (go_at_call 57; refine (isNaN_any _ _).mono ?_; rintro e w' ⟨rfl, rfl⟩)
  all_goals
    go_ret
    refine ⟨ret_int ?_, rfl⟩
    simp only [cmpF]
    split <;> (try split) <;> first | rfl | omega

theorem sign_any (x : Int) (w : World) :
    Calls Try.prog 56 #[.int .i64 x] w fun e w' => e = .returned (.int .i64 (sgnF x)) ∧ w = w' := by
  go_enter Try.func56, Try.ntmps56
  go_wp2_with fail
  all_goals
    go_ret
    refine ⟨ret_int ?_, rfl⟩
    simp only [sgnF]
    split <;> (try split) <;> first | rfl | omega

end Go.Proofs.Ytpjckolfjaffjaa
