/- SpliceRises: the walk. -/
import Derived.Test.YtcalchlfipbpkaaSplG
namespace Go.Proofs.Ytcalchlfipbpkaa
open Go.RowKit
set_option linter.unusedSimpArgs false
set_option linter.unusedVariables false

theorem Row.shift1 {w : World} {B n b off : Nat} {f : Nat → Nat → Value} (h : Row w B 1 (some ⟨b, off, none⟩) (n + 1) f) : Row w B 1 (some ⟨b, off + 1, none⟩) n (fun i => f (i + 1)) := by
  intro h0
  obtain ⟨b', off', hA, hb, hc⟩ := h (by omega)
  injection hA with hA
  injection hA with h1 h2
  subst h1; subst h2
  refine ⟨b, off + 1, rfl, hb, fun i j hi hj => ?_⟩
  have := hc (i + 1) j (by omega) hj
  rwa [show off + (i + 1) * 1 + j = off + 1 + i * 1 + j by omega] at this

theorem Polys.shift {w : World} {B m b off : Nat} {poly : Nat → Poly} (h : Polys w B (some ⟨b, off, none⟩) (m + 1) poly) : Polys w B (some ⟨b, off + 1, none⟩) m (fun i => poly (i + 1)) :=
  ⟨h.1.shift1, fun i hi => h.2 (i + 1) (by omega)⟩

theorem Polys.nothing {w : World} {B : Nat} {A : Option Addr} {poly : Nat → Poly} : Polys w B A 0 poly := ⟨fun h => absurd h (by omega), fun i hi => absurd hi (by omega)⟩

theorem ext_tail {len : Int} {m : Nat} {poly : Nat → Poly} (h : extErr len (m + 1) poly = 0) : extErr len m (fun i => poly (i + 1)) = 0 := by
  obtain ⟨h1, h2, h3, _⟩ := ext_valid h
  unfold extErr at h ⊢
  rw [if_neg (by omega), if_neg (by omega)] at h ⊢
  exact firstErr_none fun i hi => firstErr_zero h (i + 1) (by omega)

theorem back_tail (z : Nat → Zone) (m : Nat) (h : Int) : backF z h (m + 1) ≤ backF (fun i => z (i + 1)) h m := by
  rcases back_cases (fun i => z (i + 1)) h m with e | ⟨i, hi, hz, e⟩
  · rw [e]; exact back_le _ _ _
  · rw [e]; exact back_zone (z := z) (i := i + 1) (by omega) hz

theorem ext_tail1 {len : Int} {m : Nat} {poly : Nat → Poly} (h : extErr len m poly = 0) (hm : 0 < m) : extErr len (m - 1) (fun i => poly (i + 1)) = 0 :=
  ext_tail (m := m - 1) (by rw [show m - 1 + 1 = m by omega]; exact h)
theorem back_tail1 (z : Nat → Zone) (h : Int) {m : Nat} (hm : 0 < m) : backF z h m ≤ backF (fun i => z (i + 1)) h (m - 1) := by
  have := back_tail z (m - 1) h
  rwa [show m - 1 + 1 = m by omega] at this
theorem Polys.shift1 {w : World} {B m b off : Nat} {poly : Nat → Poly} (h : Polys w B (some ⟨b, off, none⟩) m poly) (hm : 0 < m) : Polys w B (some ⟨b, off + 1, none⟩) (m - 1) (fun i => poly (i + 1)) :=
  Polys.shift (m := m - 1) (by rw [show m - 1 + 1 = m by omega]; exact h)

set_option maxRecDepth 100000 in
set_option maxHeartbeats 3200000 in
theorem rises_any (len : Int) (A : Option Addr) (m c : Nat) (poly : Nat → Poly) (a b : Int) (w : World) (hmc : m ≤ c) (hcm : c ≤ maxLen) (hq : PolysIn w A m poly) :
    Calls Try.prog 7 #[.int .i64 len, .slice A m c, .int .i64 a, .int .i64 b] w fun e w' => e = .returned (.bool true) ∧ Below w.heap.size w w' := by
  unfold maxLen at hcm
  have HQ := Lib.hid hq
  clear hq
  have hbad : m = 0 ∨ b < a ∨ 0 < m ∧ a ≤ b := by omega
  rcases hbad with rfl | hba | ⟨hm1, hab⟩
  · go_enter Try.func7, Try.ntmps7
    go_wp2_with fail
    refine (few_any A 0 c 30 poly _ (by omega) HQ.out.1).mono ?_
    rintro e w1 ⟨hb1, rfl | ⟨rfl, hm, hs⟩⟩
    all_goals
      go_wp2_with fail
      refine (awake_any _).mono ?_
      rintro e w2 ⟨rfl, hb2⟩
      go_wp2_with fail
      go_ret
      exact ⟨rfl, below_up hb1 hb2⟩
  · by_cases hm0 : (m : Int) == 0
    all_goals
      go_enter Try.func7, Try.ntmps7
      go_wp2_with fail
      refine (few_any A m c 30 poly _ (by omega) HQ.out.1).mono ?_
      rintro e w1 ⟨hb1, rfl | ⟨rfl, hm, hs⟩⟩
      all_goals
        go_wp2_with fail
        refine (awake_any _).mono ?_
        rintro e w2 ⟨rfl, hb2⟩
        go_wp2_with fail
        go_ret
        exact ⟨rfl, below_up hb1 hb2⟩
  have hm0 : ((m : Int) == 0) = false := beq_eq_false_iff_ne.2 (by omega)
  have hab' : ¬ b < a := by omega
  obtain ⟨bp, op, rfl, hBp⟩ := HQ.out.1.addr (by omega)
  go_enter Try.func7, Try.ntmps7
  go_wp2_with fail
  refine (few_any _ m c 30 poly _ (by omega) HQ.out.1).mono ?_
  rintro e w1 ⟨hb1, rfl | ⟨rfl, hm, hs⟩⟩
  · go_wp2_with fail
    refine (awake_any _).mono ?_
    rintro e w2 ⟨rfl, hb2⟩
    go_wp2_with fail
    go_ret
    exact ⟨rfl, below_up hb1 hb2⟩
  have HQ1 := Lib.hid ((HQ.out.few hs).later hb1)
  clear HQ hs
  go_wp2_with fail
  refine (Back_any len _ m c poly a _ HQ1.out).mono ?_
  rintro e w2 ⟨rfl, hb2⟩
  have HQ2 := Lib.hid (HQ1.out.later hb2)
  have hb3 := below_up hb1 hb2
  clear HQ1 hb1 hb2
  go_wp2_with fail
  refine (Back_any len _ m c poly b _ HQ2.out).mono ?_
  rintro e w3 ⟨rfl, hb4⟩
  have HQ3 := Lib.hid (HQ2.out.later hb4)
  have hb5 := below_up hb3 hb4
  clear HQ2 hb3 hb4
  by_cases hE1 : backErr len m poly a = 0
  rotate_left
  · have hne : (backErr len m poly a != 0) = true := bne_iff_ne.2 hE1
    clear hE1
    go_wp2_with fail
    refine (awake_any _).mono ?_
    rintro e w4 ⟨rfl, hb6⟩
    go_wp2_with fail
    go_ret
    exact ⟨rfl, below_up hb5 hb6⟩
  by_cases hE2 : backErr len m poly b = 0
  rotate_left
  · have hne : (backErr len m poly b != 0) = true := bne_iff_ne.2 hE2
    rw [hE1]
    clear hE1 hE2
    go_wp2_with fail
    refine (awake_any _).mono ?_
    rintro e w4 ⟨rfl, hb6⟩
    go_wp2_with fail
    go_ret
    exact ⟨rfl, below_up hb5 hb6⟩
  rw [show backV len m poly a = backF (zoneAt poly) a m by unfold backV; rw [if_pos hE1], show backV len m poly b = backF (zoneAt poly) b m by unfold backV; rw [if_pos hE2], hE1, hE2]
  obtain ⟨hX, ha0, hal⟩ := backErr_zero hE1
  obtain ⟨_, hb0, hbl⟩ := backErr_zero hE2
  have hlen := (ext_valid hX).1
  have E3 := Lib.hid (backErr_ok (ext_tail1 hX hm1) ha0 hal)
  have E4 := Lib.hid (backErr_ok hX (Int.le_refl 0) (by omega))
  have E5 := Lib.hid (backErr_ok hX (h := len) (by omega) (Int.le_refl _))
  have l1 := back_mono (z := zoneAt poly) hab m
  have l2 : backF (zoneAt poly) a m ≤ backF (zoneAt (fun i => poly (i + 1))) a (m - 1) := back_tail1 (zoneAt poly) a hm1
  have L3 := Lib.hid (show backF (zoneAt poly) 0 m = 0 by
    have u1 := back_le (zoneAt poly) 0 m
    have u2 := back_zero (z := zoneAt poly) (m := m) (x := 0) (fun i hi => ((ext_valid hX).2.2.2 i hi).2.1) (Int.le_refl _)
    omega)
  have L4 := Lib.hid (back_full (z := zoneAt poly) (m := m) (len := len) (fun i hi => ((ext_valid hX).2.2.2 i hi).2.2))
  clear hE1 hE2 hX
  generalize backF (zoneAt poly) a m = x at *
  generalize backF (zoneAt poly) b m = y at *
  by_cases hc1 : c = 1
  · obtain rfl : m = 1 := by omega
    subst hc1
    have E3' : Hid (backErr len 0 (fun i => poly (i + 1)) a = 0) := Lib.hid E3.out
    have l2' : x ≤ backF (zoneAt (fun i => poly (i + 1))) a 0 := l2
    clear E3 l2
    go_wp2_with fail
    refine (Back_any len _ 0 _ (fun i => poly (i + 1)) a _ Polys.nothing).mono ?_
    rintro e w4 ⟨rfl, hb6⟩
    rw [show backV len 0 (fun i => poly (i + 1)) a = backF (zoneAt (fun i => poly (i + 1))) a 0 by unfold backV; rw [if_pos E3'.out], E3'.out]
    generalize backF (zoneAt (fun i => poly (i + 1))) a 0 = z at *
    have HQ4 := Lib.hid (HQ3.out.later hb6)
    have hb7 := below_up hb5 hb6
    clear HQ3 hb5 hb6
    go_wp2_with fail
    refine (Back_any len _ 1 _ poly 0 _ HQ4.out).mono ?_
    rintro e w5 ⟨rfl, hb8⟩
    rw [show backV len 1 poly 0 = 0 by unfold backV; rw [if_pos E4.out]; exact L3.out, E4.out]
    have HQ5 := Lib.hid (HQ4.out.later hb8)
    have hb9 := below_up hb7 hb8
    clear HQ4 hb7 hb8
    go_wp2_with fail
    refine (Back_any len _ 1 _ poly len _ HQ5.out).mono ?_
    rintro e w6 ⟨rfl, hb10⟩
    rw [show backV len 1 poly len = len by unfold backV; rw [if_pos E5.out]; exact L4.out, E5.out]
    have hb11 := below_up hb9 hb10
    clear HQ5 hb9 hb10
    have hll : (len == len) = true := by simp
    go_wp2_with fail
    refine (awake_any _).mono ?_
    rintro e w7 ⟨rfl, hb12⟩
    go_wp2_with fail
    go_ret
    exact ⟨rfl, below_up hb11 hb12⟩
  · have hc2 : (1 : Int) < c := by omega
    have hm2 : (1 : Int) ≤ m := by omega
    have HQS := Lib.hid (HQ3.out.shift1 hm1)
    have E3' : Hid (backErr len (m - 1) (fun i => poly (i + 1)) a = 0) := Lib.hid E3.out
    have l2' : x ≤ backF (zoneAt (fun i => poly (i + 1))) a (m - 1) := l2
    clear E3 l2
    go_wp2_with fail
    refine (Back_any len _ (m - 1) _ (fun i => poly (i + 1)) a _ HQS.out).mono ?_
    rintro e w4 ⟨rfl, hb6⟩
    rw [show backV len (m - 1) (fun i => poly (i + 1)) a = backF (zoneAt (fun i => poly (i + 1))) a (m - 1) by unfold backV; rw [if_pos E3'.out], E3'.out]
    generalize backF (zoneAt (fun i => poly (i + 1))) a (m - 1) = z at *
    have HQ4 := Lib.hid (HQ3.out.later hb6)
    have hb7 := below_up hb5 hb6
    clear HQ3 hb5 hb6
    go_wp2_with fail
    refine (Back_any len _ m _ poly 0 _ HQ4.out).mono ?_
    rintro e w5 ⟨rfl, hb8⟩
    rw [show backV len m poly 0 = 0 by unfold backV; rw [if_pos E4.out]; exact L3.out, E4.out]
    have HQ5 := Lib.hid (HQ4.out.later hb8)
    have hb9 := below_up hb7 hb8
    clear HQ4 hb7 hb8
    go_wp2_with fail
    refine (Back_any len _ m _ poly len _ HQ5.out).mono ?_
    rintro e w6 ⟨rfl, hb10⟩
    rw [show backV len m poly len = len by unfold backV; rw [if_pos E5.out]; exact L4.out, E5.out]
    have hb11 := below_up hb9 hb10
    clear HQ5 hb9 hb10
    have hll : (len == len) = true := by simp
    go_wp2_with fail
    refine (awake_any _).mono ?_
    rintro e w7 ⟨rfl, hb12⟩
    go_wp2_with fail
    go_ret
    exact ⟨rfl, below_up hb11 hb12⟩

end Go.Proofs.Ytcalchlfipbpkaa
