/- SpliceBacks, SpliceBests: the walks. -/
import Derived.Test.YtcalchlfipbpkaaSplE
namespace Go.Proofs.Ytcalchlfipbpkaa
open Go.RowKit
set_option linter.unusedSimpArgs false
set_option linter.unusedVariables false

theorem PolysIn.few {w : World} {A : Option Addr} {m : Nat} {poly : Nat → Poly} (h : PolysIn w A m poly) (hb : ∀ i, i < m → (poly i).pn ≤ 50) : Polys w w.heap.size A m poly :=
  ⟨h.1, fun i hi => ⟨(h.2 i hi).1, (h.2 i hi).2, by have := hb i hi; omega⟩⟩

set_option maxHeartbeats 1600000 in
theorem backs_any (len : Int) (A : Option Addr) (m c : Nat) (poly : Nat → Poly) (hi : Int) (w : World) (hq : PolysIn w A m poly) :
    Calls Try.prog 3 #[.int .i64 len, .slice A m c, .int .i64 hi] w fun e w' => e = .returned (.bool true) ∧ Below w.heap.size w w' := by
  have HQ := Lib.hid hq
  clear hq
  go_enter Try.func3, Try.ntmps3
  go_wp2_with fail
  refine (few_any A m c 70 poly _ (by omega) HQ.out.1).mono ?_
  rintro e w1 ⟨hb1, rfl | ⟨rfl, hm, hs⟩⟩
  · go_wp2_with fail
    refine (awake_any _).mono ?_
    rintro e w2 ⟨rfl, hb2⟩
    go_wp2_with fail
    go_ret
    exact ⟨rfl, below_up hb1 hb2⟩
  have HQ1 := Lib.hid ((HQ.out.few hs).later hb1)
  clear HQ hs
  go_wp2_with fail
  refine (Back_any len A m c poly hi _ HQ1.out).mono ?_
  rintro e w2 ⟨rfl, hb2⟩
  have HQ2 := Lib.hid (HQ1.out.later hb2)
  have hb3 := below_up hb1 hb2
  clear HQ1 hb1 hb2
  go_wp2_with fail
  refine (rBack_any len A m c poly hi _ HQ2.out).mono ?_
  rintro e w3 ⟨rfl, hb4⟩
  have hb5 := below_up hb3 hb4
  clear hb3 hb4 HQ2
  generalize backV len m poly hi = x
  generalize backErr len m poly hi = y
  have hx : (x == x) = true := by simp
  have hy : (y == y) = true := by simp
  go_wp2_with fail
  refine (awake_any _).mono ?_
  rintro e w4 ⟨rfl, hb6⟩
  go_wp2_with fail
  go_ret
  exact ⟨rfl, below_up hb5 hb6⟩

theorem same_zone_self (z : Zone) : sameZoneF z z = true := decide_eq_true ⟨rfl, rfl⟩

set_option maxHeartbeats 1600000 in
theorem bests_any (len : Int) (A : Option Addr) (m c : Nat) (poly : Nat → Poly) (lo hi : Int) (w : World) (hq : PolysIn w A m poly) :
    Calls Try.prog 4 #[.int .i64 len, .slice A m c, .int .i64 lo, .int .i64 hi] w fun e w' => e = .returned (.bool true) ∧ Below w.heap.size w w' := by
  have HQ := Lib.hid hq
  clear hq
  by_cases hbad : 3000 < hi ∧ hi ≤ 1048576
  · obtain ⟨hb1, hb2⟩ := hbad
    go_enter Try.func4, Try.ntmps4
    go_wp2_with fail
    refine (few_any A m c 70 poly _ (by omega) HQ.out.1).mono ?_
    rintro e w1 ⟨hb1, rfl | ⟨rfl, hm, hs⟩⟩
    all_goals
      go_wp2_with fail
      refine (awake_any _).mono ?_
      rintro e w2 ⟨rfl, hb2⟩
      go_wp2_with fail
      go_ret
      exact ⟨rfl, below_up hb1 hb2⟩
  go_enter Try.func4, Try.ntmps4
  go_wp2_with fail
  refine (few_any A m c 70 poly _ (by omega) HQ.out.1).mono ?_
  rintro e w1 ⟨hb1, rfl | ⟨rfl, hm, hs⟩⟩
  · go_wp2_with fail
    refine (awake_any _).mono ?_
    rintro e w2 ⟨rfl, hb2⟩
    go_wp2_with fail
    go_ret
    exact ⟨rfl, below_up hb1 hb2⟩
  have HQ1 := Lib.hid ((HQ.out.few hs).later hb1)
  have hq1 := zone_eql
  have hq2 := zone_guard
  clear HQ hs
  rcases Int.lt_or_le 3000 hi with hh | hh
  rotate_left
  rotate_left
  have hh2 : 1048576 < hi := by omega
  rotate_left
  all_goals
    clear hbad
    go_wp2_with fail
    refine (Best_any len A m c poly lo hi _ HQ1.out).mono ?_
    rintro e w2 ⟨rfl, hb2⟩
    have HQ2 := Lib.hid (HQ1.out.later hb2)
    have hb3 := below_up hb1 hb2
    clear HQ1 hb1 hb2
    generalize hz : bestZ len m poly lo hi = z
    generalize hy : bestCode len m poly lo hi = y
    have HZ := Lib.hid hz
    have HY := Lib.hid hy
    clear hz hy
    simp only [zoneV]
    go_upto_region 4 with (fail)
    have k1 := Blk.new w2 30 #[.int .i64 z.lo, .int .i64 z.hi]
    have HQ3 := Lib.hid (HQ2.out.later (below_a1 w2 (.cells #[.int .i64 z.lo, .int .i64 z.hi] 30)))
    have hb4 := below_up hb3 (below_a1 w2 (.cells #[.int .i64 z.lo, .int .i64 z.hi] 30))
    obtain ⟨g1, hg1⟩ : ∃ g1, g1 = w2.heap.size := ⟨_, rfl⟩
    rw [← hg1] at k1
    rw [← hg1]
    generalize hW : w2.alloc _ = W2 at k1 HQ3 hb4 ⊢
    clear hW hg1 hb3 HQ2
    go_wp2_with fail
    refine (rBest_any len A m c poly lo hi _ HQ3.out).mono ?_
    rintro e w3 ⟨rfl, hb5⟩
    rw [HZ.out, HY.out]
    simp only [zoneV]
    have k2 := k1.later hb5
    have hb6 := below_up hb4 hb5
    clear hb4 hb5 k1 HQ3
    go_upto_region 5 with (fail)
    have k3 := k2.alloc (.cells #[.int .i64 z.lo, .int .i64 z.hi] 30)
    have k4 := Blk.new w3 30 #[.int .i64 z.lo, .int .i64 z.hi]
    have hb7 := below_up hb6 (below_a1 w3 (.cells #[.int .i64 z.lo, .int .i64 z.hi] 30))
    obtain ⟨g2, hg2⟩ : ∃ g2, g2 = w3.heap.size := ⟨_, rfl⟩
    rw [← hg2] at k4
    rw [← hg2]
    generalize hW : w3.alloc _ = W3 at k3 k4 hb7 ⊢
    clear hW hg2 hb6 k2
    have c0 := k3.cell 0
    have c1 := k3.cell 1
    have c2 := k4.cell 0
    have c3 := k4.cell 1
    simp at c0 c1 c2 c3
    have hsz := same_zone_self z
    have hyy : (y == y) = true := by simp
    go_wp2_with fail
    refine (awake_any _).mono ?_
    rintro e w4 ⟨rfl, hb8⟩
    go_wp2_with fail
    go_ret
    exact ⟨rfl, below_up hb7 hb8⟩

end Go.Proofs.Ytcalchlfipbpkaa
