/- SpliceLeast: the walk. -/
import Derived.Test.YtcalchlfipbpkaaSplG
namespace Go.Proofs.Ytcalchlfipbpkaa
open Go.RowKit
set_option linter.unusedSimpArgs false
set_option linter.unusedVariables false

theorem firstErr_mem (q : Nat → Int) (n : Nat) : firstErr q n = 0 ∨ ∃ i, i < n ∧ firstErr q n = q i := by
  unfold firstErr
  rcases firstF_spec (fun i => q i != 0) n with ⟨e, _⟩ | ⟨k, hk, e, _, _⟩
  · rw [e]; exact .inl rfl
  · rw [e, if_neg (by omega)]
    exact .inr ⟨k, hk, by simp⟩

theorem check_vals (n : Nat) (p : Nat → Spot) : checkF n p = 0 ∨ checkF n p = 3 ∨ checkF n p = 5 ∨ checkF n p = 11 := by
  unfold checkF
  split
  · omega
  · split
    · omega
    · split
      · omega
      · split <;> omega

theorem ext_not18 (len : Int) (m : Nat) (poly : Nat → Poly) : extErr len m poly ≠ 18 := by
  unfold extErr
  split
  · decide
  · split
    · decide
    · rcases firstErr_mem (fun i => polyErr len (poly i)) m with e | ⟨i, _, e⟩
      · rw [e]; decide
      · rw [e]
        unfold polyErr
        have := check_vals (poly i).pn (poly i).spot
        split
        · omega
        · split <;> decide

theorem bestErr_not18 (len : Int) (m : Nat) (poly : Nat → Poly) (lo hi : Int) : bestErr len m poly lo hi ≠ 18 := by
  unfold bestErr
  split
  · exact ext_not18 _ _ _
  · split <;> decide

theorem bestErr_zero {len : Int} {m : Nat} {poly : Nat → Poly} {lo hi : Int} (he : bestErr len m poly lo hi = 0) : extErr len m poly = 0 ∧ 0 ≤ lo ∧ lo ≤ hi ∧ hi ≤ len := by
  unfold bestErr at he
  by_cases h1 : extErr len m poly = 0
  · rw [if_neg (fun hh => hh h1)] at he
    by_cases h2 : lo < 0 ∨ hi < lo ∨ len < hi
    · rw [if_pos h2] at he; exact absurd he (by decide)
    · exact ⟨h1, by omega, by omega, by omega⟩
  · rw [if_pos h1] at he; exact absurd he h1

/-- Three ways that Best ends. -/
theorem best_ways (len : Int) (m : Nat) (poly : Nat → Poly) (lo hi : Int) :
    (bestZ len m poly lo hi = ⟨0, 0⟩ ∧ bestCode len m poly lo hi ≠ 0 ∧ bestCode len m poly lo hi ≠ 18) ∨
    (extErr len m poly = 0 ∧ 0 ≤ lo ∧ lo ≤ hi ∧ hi ≤ len ∧ bestCode len m poly lo hi = 18 ∧ bestZ len m poly lo hi = ⟨0, 0⟩ ∧ ∀ h, 0 ≤ h → h ≤ hi → backF (zoneAt poly) h m ≤ lo) ∨
    (extErr len m poly = 0 ∧ 0 ≤ lo ∧ lo ≤ hi ∧ hi ≤ len ∧ bestCode len m poly lo hi = 0 ∧ ∃ x, 0 ≤ x ∧ x ≤ hi ∧ bestZ len m poly lo hi = ⟨backF (zoneAt poly) x m, x⟩ ∧ lo < backF (zoneAt poly) x m ∧
      ∀ h, 0 ≤ h → h ≤ hi → lo < backF (zoneAt poly) h m → x - backF (zoneAt poly) x m < h - backF (zoneAt poly) h m ∨ (x - backF (zoneAt poly) x m = h - backF (zoneAt poly) h m ∧ h ≤ x)) := by
  by_cases hE : bestErr len m poly lo hi = 0
  · obtain ⟨h1, h2, h3, h4⟩ := bestErr_zero hE
    right
    unfold bestZ bestCode bestO
    rw [if_pos hE, if_neg (fun h => h hE)]
    rcases bestR_spec (fun h => backF (zoneAt poly) h m) lo (hi + 1).toNat with ⟨e, hn⟩ | ⟨x, e, hs, hb⟩
    · rw [e]
      exact .inl ⟨h1, h2, h3, h4, rfl, rfl, fun h a b => by
        have := hn h
        have e1 : (((hi + 1).toNat : Nat) : Int) = hi + 1 := by omega
        rw [e1] at this
        rcases Int.lt_or_le lo (backF (zoneAt poly) h m) with hl | hl
        · exact absurd ⟨a, by omega, hl⟩ this
        · exact hl⟩
    · rw [e]
      have e1 : (((hi + 1).toNat : Nat) : Int) = hi + 1 := by omega
      rw [e1] at hs hb
      exact .inr ⟨h1, h2, h3, h4, rfl, x, hs.1, by omega, rfl, hs.2.2, fun h a b hl => hb h ⟨a, by omega, hl⟩⟩
  · refine .inl ⟨?_, ?_, ?_⟩
    · unfold bestZ bestO; rw [if_neg hE]; rfl
    · unfold bestCode; rw [if_pos hE]; exact hE
    · unfold bestCode; rw [if_pos hE]; exact bestErr_not18 _ _ _ _ _

set_option maxRecDepth 100000 in
set_option maxHeartbeats 3200000 in
theorem least_any (len : Int) (A : Option Addr) (m c : Nat) (poly : Nat → Poly) (lo hi : Int) (w : World) (hq : PolysIn w A m poly) :
    Calls Try.prog 6 #[.int .i64 len, .slice A m c, .int .i64 lo, .int .i64 hi] w fun e w' => e = .returned (.bool true) ∧ Below w.heap.size w w' := by
  have HQ := Lib.hid hq
  clear hq
  by_cases hbig : 120 < hi
  · go_enter Try.func6, Try.ntmps6
    go_wp2_with fail
    refine (few_any A m c 20 poly _ (by omega) HQ.out.1).mono ?_
    rintro e w1 ⟨hb1, rfl | ⟨rfl, hm, hs⟩⟩
    all_goals
      go_wp2_with fail
      refine (awake_any _).mono ?_
      rintro e w2 ⟨rfl, hb2⟩
      go_wp2_with fail
      go_ret
      exact ⟨rfl, below_up hb1 hb2⟩
  go_enter Try.func6, Try.ntmps6
  go_wp2_with fail
  refine (few_any A m c 20 poly _ (by omega) HQ.out.1).mono ?_
  rintro e w1 ⟨hb1, rfl | ⟨rfl, hm, hs⟩⟩
  · go_wp2_with fail
    refine (awake_any _).mono ?_
    rintro e w2 ⟨rfl, hb2⟩
    go_wp2_with fail
    go_ret
    exact ⟨rfl, below_up hb1 hb2⟩
  have HQ1 := Lib.hid ((HQ.out.few hs).later hb1)
  clear HQ hs
  go_wp2_with fail
  refine (Best_any len A m c poly lo hi _ HQ1.out).mono ?_
  rintro e w2 ⟨rfl, hb2⟩
  have HQ2 := Lib.hid (HQ1.out.later hb2)
  have hb3 := below_up hb1 hb2
  have HWAYS := Lib.hid (best_ways len m poly lo hi)
  clear HQ1 hb1 hb2
  generalize bestZ len m poly lo hi = z at *
  generalize bestCode len m poly lo hi = y at *
  simp only [zoneV]
  go_upto_region 4 with (fail)
  have k1 := Blk.new w2 30 #[.int .i64 z.lo, .int .i64 z.hi]
  have HQ3 := Lib.hid (HQ2.out.later (below_a1 w2 (.cells #[.int .i64 z.lo, .int .i64 z.hi] 30)))
  have hb4 := below_up hb3 (below_a1 w2 (.cells #[.int .i64 z.lo, .int .i64 z.hi] 30))
  obtain ⟨g1, hg1⟩ : ∃ g1, g1 = w2.heap.size := ⟨_, rfl⟩
  rw [← hg1] at k1
  rw [← hg1]
  generalize hW : w2.alloc _ = W2 at k1 HQ3 hb4 ⊢
  clear hW hg1 hb3 HQ2
  have c0 := k1.cell 0
  have c1 := k1.cell 1
  simp at c0 c1
  rcases HWAYS.out with ⟨rfl, hy0, hy18⟩ | ⟨hX, h0, h1, h2, rfl, rfl, hnone⟩ | ⟨hX, h0, h1, h2, rfl, x, hx0, hx1, rfl, hxl, hbest⟩
  · have b1 : (y != 0) = true := bne_iff_ne.2 hy0
    have b2 : (y != 18) = true := bne_iff_ne.2 hy18
    have hq1 := zone_eql
    have hq2 := zone_guard
    have hss := same_zone_self ⟨0, 0⟩
    simp only [] at c0 c1
    clear HWAYS hy0 hy18
    go_wp2_with fail
    refine (awake_any _).mono ?_
    rintro e w4 ⟨rfl, hb6⟩
    go_wp2_with fail
    go_ret
    exact ⟨rfl, below_up hb4 hb6⟩
  · have HN := Lib.hid hnone
    have HX := Lib.hid hX
    clear HWAYS hnone hX
    simp only [] at c0 c1
    go_wp2_with fail
    go_loopw [11] (fun t wr => ∃ n : Nat, (n : Int) ≤ hi + 1 ∧ t = .int .i64 n ∧ Below W2.heap.size W2 wr) (fun t _ => (hi + 1 - intOf t).toNat)
    case atStart => exact ⟨0, by omega, rfl, Below.refl _ _⟩
    case round =>
      obtain ⟨n, hn, rfl, hwr⟩ := hrel
      by_cases hlt : (n : Int) ≤ hi
      · have hn0 : (0 : Int) ≤ n := by omega
        have hBE := backErr_ok HX.out hn0 (by omega)
        have hle := HN.out n hn0 hlt
        go_wp2_with fail
        refine (Back_any len A m c poly n _ (HQ3.out.later hwr)).mono ?_
        rintro e w4 ⟨rfl, hb5⟩
        rw [show backV len m poly n = backF (zoneAt poly) n m by unfold backV; rw [if_pos hBE], hBE]
        clear hBE
        generalize backF (zoneAt poly) n m = b at *
        have hnl : ¬ lo < b := by omega
        have hwr2 := below_up hwr hb5
        go_wp2_with fail
        go_roundw
        case rel => exact ⟨n + 1, by omega, by go_num, hwr2⟩
        case measure => simp [intOf]; omega
      · go_wp2_with fail
        refine (awake_any _).mono ?_
        rintro e w4 ⟨rfl, hb6⟩
        go_wp2_with fail
        go_ret
        exact ⟨rfl, below_up (below_up hb4 hwr) hb6⟩
  · have HN := Lib.hid hbest
    have HX := Lib.hid hX
    have HV := Lib.hid (fun i hi => ((ext_valid hX).2.2.2 i hi).1)
    have x1 := back_le (zoneAt poly) x m
    have x2 := back_zero (z := zoneAt poly) (m := m) (x := x) (fun i hi => ((ext_valid hX).2.2.2 i hi).2.1) hx0
    have HB0 := Lib.hid (fun h h0 => back_zero (z := zoneAt poly) (m := m) (x := h) (fun i hi => ((ext_valid hX).2.2.2 i hi).2.1) h0)
    have HW1 := Lib.hid (whole_back (zoneAt poly) m x)
    clear HWAYS hbest hX
    simp only [] at c0 c1
    have HNB := Lib.hid HN.out
    generalize backF (zoneAt poly) x m = bx at *
    go_wp2_with fail
    refine (whole_any A m c poly bx x _ (by omega) HQ3.out HV.out).mono ?_
    rintro e w4 ⟨rfl, hb5⟩
    rw [HW1.out]
    have HQ4 := Lib.hid (HQ3.out.later hb5)
    have k2 := k1.later hb5
    have hb6 := below_up hb4 hb5
    clear HQ3 k1 hb4 hb5 c0 c1
    go_wp2_with fail
    go_loopw [11] (fun t wr => ∃ n : Nat, (n : Int) ≤ hi + 1 ∧ t = .int .i64 n ∧ Below w4.heap.size w4 wr) (fun t _ => (hi + 1 - intOf t).toNat)
    case atStart => exact ⟨0, by omega, rfl, Below.refl _ _⟩
    case round =>
      obtain ⟨n, hn, rfl, hwr⟩ := hrel
      by_cases hlt : (n : Int) ≤ hi
      · have hn0 : (0 : Int) ≤ n := by omega
        have hBE := backErr_ok HX.out hn0 (by omega)
        have hle := Lib.hid (HN.out n hn0 hlt)
        have y1 := back_le (zoneAt poly) n m
        have y2 := HB0.out n hn0
        go_wp2_with fail
        refine (Back_any len A m c poly n _ (HQ4.out.later hwr)).mono ?_
        rintro e w5 ⟨rfl, hb7⟩
        rw [show backV len m poly n = backF (zoneAt poly) n m by unfold backV; rw [if_pos hBE], hBE]
        clear hBE
        generalize backF (zoneAt poly) n m = b at *
        have hwr2 := below_up hwr hb7
        have k3 := k2.later hwr2
        have d0 := k3.cell 0
        have d1 := k3.cell 1
        simp at d0 d1
        by_cases hl : lo < b
        · have hor := hle.out hl
          have hnl1 : ¬ (n : Int) - b < x - bx := by omega
          by_cases heq : (n : Int) - b = x - bx
          · have e1 : ((n : Int) - b == x - bx) = true := beq_iff_eq.2 heq
            have hnl2 : ¬ x < (n : Int) := by omega
            clear hor heq
            go_wp2_with fail
            go_roundw
            case rel => exact ⟨n + 1, by omega, by go_num, hwr2⟩
            case measure => simp [intOf]; omega
          · have e1 : ((n : Int) - b == x - bx) = false := beq_eq_false_iff_ne.2 heq
            clear hor heq
            go_wp2_with fail
            go_roundw
            case rel => exact ⟨n + 1, by omega, by go_num, hwr2⟩
            case measure => simp [intOf]; omega
        · go_wp2_with fail
          go_roundw
          case rel => exact ⟨n + 1, by omega, by go_num, hwr2⟩
          case measure => simp [intOf]; omega
      · go_wp2_with fail
        refine (awake_any _).mono ?_
        rintro e w5 ⟨rfl, hb7⟩
        go_wp2_with fail
        go_ret
        exact ⟨rfl, below_up (below_up hb6 hwr) hb7⟩

end Go.Proofs.Ytcalchlfipbpkaa
