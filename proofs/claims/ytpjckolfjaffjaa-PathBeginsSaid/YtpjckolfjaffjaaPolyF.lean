/- polygon.Check and the reference's Check: both return checkF. -/
import Derived.Test.YtpjckolfjaffjaaPolyE
import Derived.Test.YtpjckolfjaffjaaGeoEq
namespace Go.Proofs.Ytpjckolfjaffjaa
open Go.RowKit
set_option linter.unusedSimpArgs false
set_option linter.unusedVariables false

theorem check_long {n : Nat} {p : Nat → Spot} (h : 40 < n) : checkF n p = 5 := by unfold checkF; rw [if_pos h]
theorem check_short {n : Nat} {p : Nat → Spot} (h : n < 3) : checkF n p = 11 := by unfold checkF; rw [if_neg (by omega), if_pos h]
theorem check_out {n : Nat} {p : Nat → Spot} (h1 : ¬ 40 < n) (h2 : ¬ n < 3) (h : ∃ i, i < n ∧ outsideF (p i) = true) : checkF n p = 3 := by
  unfold checkF; rw [if_neg h1, if_neg h2, if_pos (by simpa using h)]
theorem check_in {n : Nat} {p : Nat → Spot} (h1 : ¬ 40 < n) (h2 : ¬ n < 3) (h : ∀ i, i < n → outsideF (p i) = false) : checkF n p = if simpleF n p then 0 else 11 := by
  unfold checkF; rw [if_neg h1, if_neg h2, if_neg]
  simp only [decide_eq_true_eq]
  rintro ⟨i, hi, hx⟩
  rw [h i hi] at hx
  cases hx

theorem check_any (A : Option Addr) (n c : Nat) (p : Nat → Spot) (w : World) (hn : n ≤ 100) (hnc : n ≤ c) (hp : Spots w w.heap.size A n p) :
    Calls Try.prog 22 #[.slice A n c] w fun e w' => e = .returned (.int .i64 (checkF n p)) ∧ Below w.heap.size w w' := by
  have HP := Lib.hid hp
  clear hp
  by_cases h1 : 40 < n
  · have h1' : (40 : Int) < n := by omega
    have hr := Lib.hid (check_long (p := p) h1)
    go_enter Try.func22, Try.ntmps22
    go_wp2_with fail
    go_ret
    exact ⟨ret_int hr.out.symm, Below.refl _ _⟩
  by_cases h2 : n < 3
  · have h2' : (n : Int) < 3 := by omega
    have h1' : ¬ (40 : Int) < n := by omega
    have hr := Lib.hid (check_short (p := p) h2)
    go_enter Try.func22, Try.ntmps22
    go_wp2_with fail
    go_ret
    exact ⟨ret_int hr.out.symm, Below.refl _ _⟩
  have h1' : ¬ (40 : Int) < n := by omega
  have h2' : ¬ (n : Int) < 3 := by omega
  go_enter Try.func22, Try.ntmps22
  go_wp2_with fail
  refine (containsOut_any A n c p _ hn HP.out).mono ?_
  rintro e w1 ⟨rfl, hb1⟩
  cases hv : decide (0 ≤ firstF (fun i => outsideF (p i)) n 0)
  · have hall := first_neg hv
    have hr := Lib.hid (check_in h1 h2 hall)
    have hok := Lib.hid (fun i hi => outside_ok.1 (hall i hi))
    clear hv hall
    go_wp2_with fail
    refine (simple_any A n c p _ (by omega) hn hnc hok (HP.out.later hb1)).mono ?_
    rintro e w2 ⟨rfl, hb2⟩
    cases hs : simpleF n p
    · have hS := Lib.hid hs
      clear hs
      go_wp2_with fail
      go_ret
      exact ⟨ret_int (by rw [hr.out, hS.out]; rfl), below_up hb1 hb2⟩
    · have hS := Lib.hid hs
      clear hs
      go_wp2_with fail
      go_ret
      exact ⟨ret_int (by rw [hr.out, hS.out]; rfl), below_up hb1 hb2⟩
  · have hr := Lib.hid (check_out h1 h2 (first_pos hv))
    clear hv
    go_wp2_with fail
    go_ret
    exact ⟨ret_int hr.out.symm, hb1⟩

set_option maxHeartbeats 800000 in
theorem rcheck_any (A : Option Addr) (n c : Nat) (p : Nat → Spot) (w : World) (hn : n ≤ 100) (hp : Spots w w.heap.size A n p) :
    Calls Try.prog 39 #[.slice A n c] w fun e w' => e = .returned (.int .i64 (checkF n p)) ∧ Below w.heap.size w w' := by
  have HP := Lib.hid hp
  clear hp
  by_cases h1 : 40 < n
  · have h1' : (40 : Int) < n := by omega
    have hr := Lib.hid (check_long (p := p) h1)
    go_enter Try.func39, Try.ntmps39
    go_wp2_with fail
    go_ret
    exact ⟨ret_int hr.out.symm, Below.refl _ _⟩
  by_cases h2 : n < 3
  · have h2' : (n : Int) < 3 := by omega
    have h1' : ¬ (40 : Int) < n := by omega
    have hr := Lib.hid (check_short (p := p) h2)
    go_enter Try.func39, Try.ntmps39
    go_wp2_with fail
    go_ret
    exact ⟨ret_int hr.out.symm, Below.refl _ _⟩
  have h1' : ¬ (40 : Int) < n := by omega
  have h2' : ¬ (n : Int) < 3 := by omega
  go_enter Try.func39, Try.ntmps39
  go_wp2_with fail
  go_loopw [3] (fun t wr => ∃ k : Nat, k ≤ n ∧ t = .int .i64 k ∧ Hid (∀ j, j < k → outsideF (p j) = false) ∧ Below w.heap.size w wr) (fun t _ => n - (intOf t).toNat)
  case atStart => exact ⟨0, Nat.zero_le _, rfl, Lib.hid (fun j hj => absurd hj (by omega)), Below.refl _ _⟩
  case round =>
    obtain ⟨k, hk, rfl, hno, hwr⟩ := hrel
    have hs1 : w.heap.size ≤ wr.heap.size := hwr.size
    by_cases hlt : k < n
    · obtain ⟨b, off, rfl, hB, hcell⟩ := HP.out (by omega)
      obtain ⟨e0, e1⟩ := hcell k hlt
      have x2 := fun z : Ext w.heap.size wr => z.cell (b := b) (by omega) ((hwr.cell (p := ⟨_, _, none⟩) (by simp only []; omega)).trans e0)
      have x3 := fun z : Ext w.heap.size wr => z.cell (b := b) (by omega) ((hwr.cell (p := ⟨_, _, none⟩) (by simp only []; omega)).trans e1)
      clear hcell e0 e1
      have hlt' : (k : Int) < n := by omega
      go_upto_region 8 with (fail)
      refine plain_ext w.heap.size ?_
      repeat (go_big_quiet_step (first | (go_at_call 46; exact calls_ext (by omega) (within_any _ _ _))))
      refine wpQuiet_nil ?_
      rintro _ ⟨z, rfl⟩
      obtain ⟨wq, hq⟩ := z
      dsimp only
      clear x2 x3
      have hwq : Below w.heap.size w wq := hwr.trans hq
      cases hv : outsideF ⟨(p k).x, (p k).y⟩
      · have hV := Lib.hid hv
        clear hv
        go_wp2_with fail
        go_roundw
        case rel => exact ⟨k + 1, by omega, by go_num, Lib.hid (fun j hj => by rcases Nat.lt_succ_iff_lt_or_eq.1 hj with h' | rfl; exact hno.out j h'; exact hV.out), hwq⟩
        case measure => simp [intOf]; omega
      · have hr := Lib.hid (check_out (p := p) h1 h2 ⟨k, hlt, hv⟩)
        clear hv
        go_wp2_with fail
        go_ret
        exact ⟨ret_int hr.out.symm, hwq⟩
    · have hall : ∀ i, i < n → outsideF (p i) = false := fun i hi => hno.out i (by omega)
      have hr := Lib.hid (check_in h1 h2 hall)
      have hok := Lib.hid (fun i hi => outside_ok.1 (hall i hi))
      have hse := Lib.hid (simple_eq (n := n) p (by omega))
      clear hall
      go_wp2_with fail
      refine (rsimple_any A n c p _ (by omega) hn hok (HP.out.later hwr)).mono ?_
      rintro e w2 ⟨rfl, hb2⟩
      cases hs : rsimpleF n p
      · have hS := Lib.hid hs
        clear hs
        go_wp2_with fail
        go_ret
        exact ⟨ret_int (by rw [hr.out, hse.out, hS.out]; rfl), below_up hwr hb2⟩
      · have hS := Lib.hid hs
        clear hs
        go_wp2_with fail
        go_ret
        exact ⟨ret_int (by rw [hr.out, hse.out, hS.out]; rfl), below_up hwr hb2⟩

end Go.Proofs.Ytpjckolfjaffjaa
