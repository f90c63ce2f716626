/- garmentlaw37.whole; SpliceWhole: the walk. -/
import Derived.Test.YtcalchlfipbpkaaSplF
namespace Go.Proofs.Ytcalchlfipbpkaa
open Go.RowKit
set_option linter.unusedSimpArgs false
set_option linter.unusedVariables false

/-- No polygon is divided. -/
def wholeF (z : Nat → Zone) (m : Nat) (lo hi : Int) : Bool := decide (∀ i, i < m → ¬ (hi < (z i).hi ∧ (z i).lo < lo))

theorem whole_true {z : Nat → Zone} {m : Nat} {lo hi : Int} (h : ∀ i, i < m → ¬ (hi < (z i).hi ∧ (z i).lo < lo)) : wholeF z m lo hi = true := decide_eq_true h
theorem whole_false {z : Nat → Zone} {m : Nat} {lo hi : Int} {k : Nat} (hk : k < m) (h1 : hi < (z k).hi) (h2 : (z k).lo < lo) : wholeF z m lo hi = false := decide_eq_false fun h => h k hk ⟨h1, h2⟩

set_option maxHeartbeats 1600000 in
theorem whole_any (A : Option Addr) (m c : Nat) (poly : Nat → Poly) (lo hi : Int) (w : World) (hm : m ≤ 60) (hq : Polys w w.heap.size A m poly) (hv : ∀ i, i < m → checkF (poly i).pn (poly i).spot = 0) :
    Calls Try.prog 15 #[.slice A m c, .int .i64 lo, .int .i64 hi] w fun e w' => e = .returned (.bool (wholeF (zoneAt poly) m lo hi)) ∧ Below w.heap.size w w' := by
  have HQ := Lib.hid hq
  have HV := Lib.hid hv
  clear hq hv
  go_enter Try.func15, Try.ntmps15
  go_wp2_with fail
  go_loopw [7] (fun t wr => ∃ k : Nat, k ≤ m ∧ t = .int .i64 k ∧ Hid (∀ i, i < k → ¬ (hi < (zoneAt poly i).hi ∧ (zoneAt poly i).lo < lo)) ∧ Below w.heap.size w wr) (fun t _ => m - (intOf t).toNat)
  case atStart => exact ⟨0, Nat.zero_le _, rfl, Lib.hid (fun i hi => absurd hi (by omega)), Below.refl _ _⟩
  case round =>
    obtain ⟨k, hk, rfl, hno, hwr⟩ := hrel
    by_cases hlt : k < m
    · obtain ⟨hsp, hpc, hpn⟩ := HQ.out.2 k hlt
      obtain ⟨bp, op, rfl, hBp⟩ := HQ.out.1.addr (by omega)
      have f0 := (hwr.cell (p := ⟨_, _, none⟩) hBp).trans (HQ.out.1.at1 hlt)
      have HSP := Lib.hid (hsp.later hwr)
      clear hsp
      have hlt' : (k : Int) < m := by omega
      have hk0 : (0 : Int) ≤ k := by omega
      go_wp2_with fail
      obtain ⟨z1, z2, z3, z4⟩ := zone_bd (HV.out k hlt)
      refine (box_ok _ _ _ _ _ hpn hpc HSP.out (HV.out k hlt)).mono ?_
      rintro r w2 ⟨rfl, hb2⟩
      have rb := below_up hwr hb2
      have HZ1 := Lib.hid (show (zoneAt poly k).lo = minTo (spotX (poly k).spot) (poly k).pn from rfl)
      have HZ2 := Lib.hid (show (zoneAt poly k).hi = minTo (spotX (poly k).spot) (poly k).pn + (maxTo (spotX (poly k).spot) (poly k).pn - minTo (spotX (poly k).spot) (poly k).pn) from rfl)
      clear f0 hb2 HSP
      simp only [boxV]
      generalize minTo (spotX (poly k).spot) (poly k).pn = a at *
      generalize maxTo (spotX (poly k).spot) (poly k).pn = b at *
      generalize minTo (spotY (poly k).spot) (poly k).pn = a' at *
      generalize maxTo (spotY (poly k).spot) (poly k).pn = b' at *
      go_upto_region 5 with (fail)
      have sB := Blk.new w2 36 #[.int .i64 a, .int .i64 a', .int .i64 (b - a), .int .i64 (b' - a')]
      have sb := rb.alloc rb.size (.cells #[.int .i64 a, .int .i64 a', .int .i64 (b - a), .int .i64 (b' - a')] 36)
      generalize hW : w2.alloc _ = W at sB sb ⊢
      clear hW rb
      have g0 := sB.cell 0
      have g2 := sB.cell 2
      simp at g0 g2
      by_cases h1 : hi < a + (b - a)
      · by_cases h2 : a < lo
        · have HF := Lib.hid (whole_false (z := zoneAt poly) (lo := lo) (hi := hi) hlt (by rw [HZ2.out]; exact h1) (by rw [HZ1.out]; exact h2))
          go_wp2_with fail
          go_ret
          exact ⟨ret_bool HF.out.symm, sb⟩
        · go_wp2_with fail
          go_roundw
          case rel =>
            refine ⟨k + 1, by omega, by go_num, Lib.hid (fun i hi' => ?_), sb⟩
            rcases Nat.lt_succ_iff_lt_or_eq.1 hi' with h' | rfl
            · exact hno.out i h'
            · exact fun hh => h2 (by rw [← HZ1.out]; exact hh.2)
          case measure => simp [intOf]; omega
      · go_wp2_with fail
        go_roundw
        case rel =>
          refine ⟨k + 1, by omega, by go_num, Lib.hid (fun i hi' => ?_), sb⟩
          rcases Nat.lt_succ_iff_lt_or_eq.1 hi' with h' | rfl
          · exact hno.out i h'
          · exact fun hh => h1 (by rw [← HZ2.out]; exact hh.1)
        case measure => simp [intOf]; omega
    · obtain rfl : k = m := by omega
      have HF := Lib.hid (whole_true hno.out)
      go_wp2_with fail
      go_ret
      exact ⟨ret_bool HF.out.symm, hwr⟩

theorem backErr_zero {len : Int} {m : Nat} {poly : Nat → Poly} {h : Int} (he : backErr len m poly h = 0) : extErr len m poly = 0 ∧ 0 ≤ h ∧ h ≤ len := by
  unfold backErr at he
  by_cases h1 : extErr len m poly = 0
  · rw [if_neg (fun hh => hh h1)] at he
    by_cases h2 : h < 0 ∨ len < h
    · rw [if_pos h2] at he; exact absurd he (by decide)
    · exact ⟨h1, by omega, by omega⟩
  · rw [if_pos h1] at he; exact absurd he h1

theorem backErr_ok {len : Int} {m : Nat} {poly : Nat → Poly} {h : Int} (h1 : extErr len m poly = 0) (h2 : 0 ≤ h) (h3 : h ≤ len) : backErr len m poly h = 0 := by
  unfold backErr
  rw [if_neg (fun hh => hh h1), if_neg (by omega)]

theorem whole_back (z : Nat → Zone) (m : Nat) (h : Int) : wholeF z m (backF z h m) h = true := whole_true fun i hi hh => by
  have := back_zone (z := z) hi hh.1
  omega

theorem whole_later {z : Nat → Zone} {m : Nat} {h lo : Int} (h1 : backF z h m < lo) (h2 : lo ≤ h) : wholeF z m lo h = false := by
  rcases back_cases z h m with e | ⟨i, hi, hz, e⟩
  · omega
  · exact whole_false hi hz (by omega)

set_option maxRecDepth 100000 in
set_option maxHeartbeats 1600000 in
theorem wholelaw_any (len : Int) (A : Option Addr) (m c : Nat) (poly : Nat → Poly) (hi lo : Int) (w : World) (hq : PolysIn w A m poly) :
    Calls Try.prog 5 #[.int .i64 len, .slice A m c, .int .i64 hi, .int .i64 lo] w fun e w' => e = .returned (.bool true) ∧ Below w.heap.size w w' := by
  have HQ := Lib.hid hq
  clear hq
  go_enter Try.func5, Try.ntmps5
  go_wp2_with fail
  refine (few_any A m c 60 poly _ (by omega) HQ.out.1).mono ?_
  rintro e w1 ⟨hb1, rfl | ⟨rfl, hm, hs⟩⟩
  · go_wp2_with fail
    refine (awake_any _).mono ?_
    rintro e w2 ⟨rfl, hb2⟩
    go_wp2_with fail
    go_ret
    exact ⟨rfl, below_up hb1 hb2⟩
  have HQ1 := Lib.hid ((HQ.out.few hs).later hb1)
  clear HQ hs
  go_wp2_with fail
  refine (Back_any len A m c poly hi _ HQ1.out).mono ?_
  rintro e w2 ⟨rfl, hb2⟩
  have HQ2 := Lib.hid (HQ1.out.later hb2)
  have hb3 := below_up hb1 hb2
  clear HQ1 hb1 hb2
  by_cases hE : backErr len m poly hi = 0
  rotate_left
  · have hne : (backErr len m poly hi != 0) = true := bne_iff_ne.2 hE
    rw [show backV len m poly hi = 0 by unfold backV; rw [if_neg hE]]
    clear hE
    go_wp2_with fail
    refine (awake_any _).mono ?_
    rintro e w4 ⟨rfl, hb6⟩
    go_wp2_with fail
    go_ret
    exact ⟨rfl, below_up hb3 hb6⟩
  rw [show backV len m poly hi = backF (zoneAt poly) hi m by unfold backV; rw [if_pos hE], hE]
  obtain ⟨hX, h0, hl⟩ := backErr_zero hE
  have HV := Lib.hid (fun i hi => ((ext_valid hX).2.2.2 i hi).1)
  have x1 := back_le (zoneAt poly) hi m
  have x2 := back_zero (z := zoneAt poly) (m := m) (x := hi) (fun i hi => ((ext_valid hX).2.2.2 i hi).2.1) h0
  have HW1 := Lib.hid (whole_back (zoneAt poly) m hi)
  have HW2 := Lib.hid (fun h1 h2 => whole_later (z := zoneAt poly) (m := m) (h := hi) (lo := lo) h1 h2)
  clear hE hX
  generalize backF (zoneAt poly) hi m = b at *
  go_wp2_with fail
  refine (whole_any A m c poly b hi _ hm HQ2.out HV.out).mono ?_
  rintro e w4 ⟨rfl, hb4⟩
  rw [HW1.out]
  have HQ3 := Lib.hid (HQ2.out.later hb4)
  have hb5 := below_up hb3 hb4
  clear hb3 hb4 HQ2
  by_cases h1 : lo ≤ b
  · go_wp2_with fail
    refine (awake_any _).mono ?_
    rintro e w4 ⟨rfl, hb6⟩
    go_wp2_with fail
    go_ret
    exact ⟨rfl, below_up hb5 hb6⟩
  by_cases h2 : hi < lo
  · go_wp2_with fail
    refine (awake_any _).mono ?_
    rintro e w4 ⟨rfl, hb6⟩
    go_wp2_with fail
    go_ret
    exact ⟨rfl, below_up hb5 hb6⟩
  have HW3 := Lib.hid (HW2.out (by omega) (by omega))
  go_wp2_with fail
  refine (whole_any A m c poly lo hi _ hm HQ3.out HV.out).mono ?_
  rintro e w5 ⟨rfl, hb6⟩
  rw [HW3.out]
  have hb7 := below_up hb5 hb6
  go_wp2_with fail
  refine (awake_any _).mono ?_
  rintro e w6 ⟨rfl, hb8⟩
  go_wp2_with fail
  go_ret
  exact ⟨rfl, below_up hb7 hb8⟩

end Go.Proofs.Ytcalchlfipbpkaa
