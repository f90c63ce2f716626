/- polygon.simple. -/
import Derived.Test.YtpjckolfjaffjaaPolyC
namespace Go.Proofs.Ytpjckolfjaffjaa
open Go.RowKit
set_option linter.unusedSimpArgs false
set_option linter.unusedVariables false

theorem first_neg {q : Nat → Bool} {n : Nat} (h : decide (0 ≤ firstF q n 0) = false) : ∀ j, j < n → q j = false := by
  rcases firstF_spec q n with ⟨_, h2⟩ | ⟨k, _, h2, _, _⟩
  · exact h2
  · rw [h2] at h
    simp at h

theorem first_pos {q : Nat → Bool} {n : Nat} (h : decide (0 ≤ firstF q n 0) = true) : ∃ j, j < n ∧ q j = true := by
  rcases firstF_spec q n with ⟨h1, _⟩ | ⟨k, h1, h2, h3, _⟩
  · rw [h1] at h
    simp at h
  · exact ⟨k, h1, h3⟩

set_option maxHeartbeats 1600000 in
theorem simple_any (A : Option Addr) (n c : Nat) (p : Nat → Spot) (w : World) (h3 : 3 ≤ n) (hn : n ≤ 100) (hnc : n ≤ c) (hok : Hid (∀ i, i < n → (p i).ok)) (hp : Spots w w.heap.size A n p) :
    Calls Try.prog 36 #[.slice A n c] w
      fun e w' => e = .returned (.bool (simpleF n p)) ∧ Below w.heap.size w w' := by
  obtain ⟨b, off, rfl, hB, hcell⟩ := hp (by omega)
  have HC := Lib.hid hcell
  have HP := Lib.hid hp
  clear hcell hp
  go_enter Try.func36, Try.ntmps36
  go_wp2_with fail
  go_loopw [14] (fun t wr => ∃ k : Nat, k ≤ n ∧ t = .int .i64 k ∧ Hid (∀ i, i < k → ∀ j, j < i → sameF (p i) (p j) = false) ∧ Below w.heap.size w wr) (fun t _ => n - (intOf t).toNat)
  case atStart => exact ⟨0, Nat.zero_le _, rfl, Lib.hid (fun j hj => absurd hj (by omega)), Below.refl _ _⟩
  case round =>
    obtain ⟨k, hk, rfl, hno, hwr⟩ := hrel
    have hs1 : w.heap.size ≤ wr.heap.size := hwr.size
    by_cases hlt : k < n
    · obtain ⟨e0, e1⟩ := HC.out k hlt
      have f0 := (hwr.cell (p := ⟨_, _, none⟩) hB).trans e0
      have f1 := (hwr.cell (p := ⟨_, _, none⟩) hB).trans e1
      clear e0 e1
      have hlt' : (k : Int) < n := by omega
      go_upto_region 5 with (fail)
      generalize hW : wr.alloc _ = W
      obtain ⟨hs, hbW, c0, c1⟩ := one_box _ _ _ _ _ hW
      clear hW f0 f1
      have hwW : Below w.heap.size w W := below_up hwr hbW
      have x0 := fun z : Ext W.heap.size W => z.cell (by omega) c0
      have x1 := fun z : Ext W.heap.size W => z.cell (by omega) c1
      have HS := Lib.hid (fun z : Ext W.heap.size W => ((HP.out.take hk).later hwW).later z.below)
      clear c0 c1
      refine region_ext W.heap.size (by kernel_rfl) (by kernel_rfl) ?_
      repeat (go_big_quiet_step (first | (go_at_call 43; exact calls_ext (by omega) (contains_any _ k _ p _ _ _ (by omega) (HS.out _)))))
      refine wpQuiet_nil ?_
      rintro _ ⟨z, rfl⟩
      obtain ⟨wq, hq⟩ := z
      dsimp only
      clear x0 x1 HS
      have hwq : Below w.heap.size w wq := hwW.trans (hq.mono hwW.size)
      cases hv : decide (0 ≤ firstF (fun i => sameF ⟨(p k).x, (p k).y⟩ (p i)) k 0)
      · have hV := Lib.hid (first_neg hv)
        clear hv
        go_wp2_with fail
        go_roundw
        case rel => exact ⟨k + 1, by omega, by go_num, Lib.hid (fun i hi => by rcases Nat.lt_succ_iff_lt_or_eq.1 hi with h' | rfl; exact hno.out i h'; exact hV.out), hwq⟩
        case measure => simp [intOf]; omega
      · have hV := Lib.hid (first_pos hv)
        clear hv
        go_wp2_with fail
        go_ret
        refine ⟨ret_bool ?_, hwq⟩
        obtain ⟨j, hj, hj2⟩ := hV.out
        refine (decide_eq_false fun hS => ?_).symm
        have := hS.1 k hlt j hj
        exact Bool.noConfusion (hj2.symm.trans this)
    · obtain rfl : n = k := by omega
      have HA := Lib.hid (hno.out)
      clear hno hlt hk
      go_wp2_with fail
      obtain ⟨w0, hw0, hs0⟩ : ∃ w0, w0 = wr ∧ Below w.heap.size w w0 := ⟨wr, rfl, hwr⟩
      rw [← hw0]
      clear hw0 hwr hs1 wr
      go_loopw [27] (fun t wr => ∃ i : Nat, i ≤ n ∧ t = .int .i64 i ∧ Hid (∀ i', i' < i → foldedF (p i') (p ((i' + 1) % n)) (p ((i' + 2) % n)) = false ∧
        ∀ k, k < n → i' + 2 ≤ k → (k + 1) % n ≠ i' → meetF (p i') (p ((i' + 1) % n)) (p k) (p ((k + 1) % n)) = false) ∧ Below w.heap.size w wr) (fun t _ => n - (intOf t).toNat)
      case atStart => exact ⟨0, Nat.zero_le _, rfl, Lib.hid (fun j hj => absurd hj (by omega)), hs0⟩
      case round =>
        obtain ⟨i, hi, rfl, hno, hwr⟩ := hrel
        have hs1 : w.heap.size ≤ wr.heap.size := hwr.size
        by_cases hlt : i < n
        · have hm1 : (i + 1) % n < n := Nat.mod_lt _ (by omega)
          have hm2 : (i + 2) % n < n := Nat.mod_lt _ (by omega)
          obtain ⟨e0, e1⟩ := HC.out i hlt
          obtain ⟨e2, e3⟩ := HC.out _ hm1
          have f0 := (hwr.cell (p := ⟨_, _, none⟩) hB).trans e0
          have f1 := (hwr.cell (p := ⟨_, _, none⟩) hB).trans e1
          have f2 := (hwr.cell (p := ⟨_, _, none⟩) hB).trans e2
          have f3 := (hwr.cell (p := ⟨_, _, none⟩) hB).trans e3
          clear e0 e1 e2 e3
          have hlt' : (i : Int) < n := by omega
          have hBr : b < wr.heap.size := by omega
          have g1 : (0 : Int) ≤ ((i : Int) + 1) % n := Int.emod_nonneg _ (by omega)
          have g2 : ((i : Int) + 1) % n < n := Int.emod_lt_of_pos _ (by omega)
          go_upto_region 12 with (fail)
          generalize hW : (wr.alloc _).alloc _ = W
          obtain ⟨hs, hbW, c0, c1, c2, c3⟩ := two_boxes _ _ _ _ _ _ _ hW
          clear hW f0 f1 f2 f3
          have hwW : Below w.heap.size w W := below_up hwr hbW
          obtain ⟨e4, e5⟩ := HC.out _ hm2
          have x0 := fun z : Ext W.heap.size W => z.cell (by omega) c0
          have x1 := fun z : Ext W.heap.size W => z.cell (by omega) c1
          have x2 := fun z : Ext W.heap.size W => z.cell (by omega) c2
          have x3 := fun z : Ext W.heap.size W => z.cell (by omega) c3
          have x4 := fun z : Ext W.heap.size W => z.cell (b := b) (by omega) ((hwW.cell (p := ⟨_, _, none⟩) hB).trans e4)
          have x5 := fun z : Ext W.heap.size W => z.cell (b := b) (by omega) ((hwW.cell (p := ⟨_, _, none⟩) hB).trans e5)
          clear e4 e5
          have g3 : (0 : Int) ≤ ((i : Int) + 2) % n := Int.emod_nonneg _ (by omega)
          have g4 : ((i : Int) + 2) % n < n := Int.emod_lt_of_pos _ (by omega)
          refine region_ext W.heap.size (by kernel_rfl) (by kernel_rfl) ?_
          repeat (go_big_quiet_step (first | (go_at_call 44; exact calls_ext (by omega) (folded_any _ _ _ _ _ _ _ (hok.out i hlt) (hok.out _ hm1) (hok.out _ hm2)))))
          refine wpQuiet_nil ?_
          rintro _ ⟨z, rfl⟩
          obtain ⟨wq, hq⟩ := z
          dsimp only
          clear x0 x1 x2 x3 x4 x5 g1 g2 g3 g4
          have hwq : Below w.heap.size w wq := hwW.trans (hq.mono hwW.size)
          have hz : W.heap.size ≤ wq.heap.size := hq.size
          cases hv : foldedF ⟨(p i).x, (p i).y⟩ ⟨(p ((i + 1) % n)).x, (p ((i + 1) % n)).y⟩ ⟨(p ((i + 2) % n)).x, (p ((i + 2) % n)).y⟩
          · have hV := Lib.hid hv
            clear hv
            go_wp2_with fail
            obtain ⟨wo, rfl⟩ : ∃ wo, wo = wr := ⟨_, rfl⟩
            go_loopw [9] (fun t wr => ∃ k : Nat, i + 2 ≤ k ∧ k ≤ n + 1 ∧ t = .int .i64 k ∧ Hid (∀ k', k' < k → i + 2 ≤ k' → (k' + 1) % n ≠ i → meetF (p i) (p ((i + 1) % n)) (p k') (p ((k' + 1) % n)) = false) ∧ Below W.heap.size W wr) (fun t _ => n + 1 - (intOf t).toNat)
            case atStart => exact ⟨i + 2, by omega, by omega, by go_num, Lib.hid (fun k' h1 h2 => absurd h1 (by omega)), hq⟩
            case round =>
              obtain ⟨k, hk1, hk2, rfl, hin, hwr2⟩ := hrel
              have hs2 : W.heap.size ≤ wr.heap.size := hwr2.size
              have hwz : Below w.heap.size w wr := hwW.trans (hwr2.mono hwW.size)
              by_cases hkn : k < n
              · have hm3 : (k + 1) % n < n := Nat.mod_lt _ (by omega)
                have hkn' : (k : Int) < n := by omega
                have g1 : (0 : Int) ≤ ((k : Int) + 1) % n := Int.emod_nonneg _ (by omega)
                have g2 : ((k : Int) + 1) % n < n := Int.emod_lt_of_pos _ (by omega)
                by_cases hne : (k + 1) % n = i
                · have hb : ((((k : Int) + 1) % n) != (i : Int)) = false := by rw [cast_mod1, hne]; simp
                  go_wp2_with fail
                  go_roundw
                  case rel =>
                    refine ⟨i + 1, by omega, by go_num, Lib.hid (fun i' hi' => ?_), hwz⟩
                    rcases Nat.lt_succ_iff_lt_or_eq.1 hi' with h' | rfl
                    · exact hno.out i' h'
                    · refine ⟨hV.out, fun k' h1 h2 h3 => ?_⟩
                      by_cases hkk : k' < k
                      · exact hin.out k' hkk h2 h3
                      · exfalso
                        have hk1n : k + 1 = n := by
                          rcases Nat.lt_or_ge (k + 1) n with hx | hx
                          · rw [Nat.mod_eq_of_lt hx] at hne; omega
                          · omega
                        have : k' = k := by omega
                        subst this
                        exact h3 hne
                  case measure => simp [intOf]; omega
                · have hb : ((((k : Int) + 1) % n) != (i : Int)) = true := by rw [cast_mod1]; exact bne_iff_ne.2 (fun h => hne (Int.ofNat_inj.1 h))
                  obtain ⟨e0, e1⟩ := HC.out k hkn
                  obtain ⟨e2, e3⟩ := HC.out _ hm3
                  have x0 := fun z : Ext W.heap.size wr => z.cell (by omega) ((hwr2.cell (p := ⟨_, _, none⟩) (by simp only []; omega)).trans c0)
                  have x1 := fun z : Ext W.heap.size wr => z.cell (by omega) ((hwr2.cell (p := ⟨_, _, none⟩) (by simp only []; omega)).trans c1)
                  have x2 := fun z : Ext W.heap.size wr => z.cell (by omega) ((hwr2.cell (p := ⟨_, _, none⟩) (by simp only []; omega)).trans c2)
                  have x3 := fun z : Ext W.heap.size wr => z.cell (by omega) ((hwr2.cell (p := ⟨_, _, none⟩) (by simp only []; omega)).trans c3)
                  have x4 := fun z : Ext W.heap.size wr => z.cell (b := b) (by omega) ((hwz.cell (p := ⟨_, _, none⟩) hB).trans e0)
                  have x5 := fun z : Ext W.heap.size wr => z.cell (b := b) (by omega) ((hwz.cell (p := ⟨_, _, none⟩) hB).trans e1)
                  have x6 := fun z : Ext W.heap.size wr => z.cell (b := b) (by omega) ((hwz.cell (p := ⟨_, _, none⟩) hB).trans e2)
                  have x7 := fun z : Ext W.heap.size wr => z.cell (b := b) (by omega) ((hwz.cell (p := ⟨_, _, none⟩) hB).trans e3)
                  clear e0 e1 e2 e3
                  go_upto_region 17 with (fail)
                  refine region_ext W.heap.size (by kernel_rfl) (by kernel_rfl) ?_
                  repeat (go_big_quiet_step (first | (go_at_call 45; exact calls_ext (by omega) (meet_any _ _ _ _ _ _ _ _ _ (hok.out i hlt) (hok.out _ hm1) (hok.out k hkn) (hok.out _ hm3)))))
                  refine wpQuiet_nil ?_
                  rintro _ ⟨z, rfl⟩
                  obtain ⟨wy, hy⟩ := z
                  dsimp only
                  clear x0 x1 x2 x3 x4 x5 x6 x7 g1 g2
                  have hWy : Below W.heap.size W wy := hwr2.trans hy
                  cases hu : meetF ⟨(p i).x, (p i).y⟩ ⟨(p ((i + 1) % n)).x, (p ((i + 1) % n)).y⟩ ⟨(p k).x, (p k).y⟩ ⟨(p ((k + 1) % n)).x, (p ((k + 1) % n)).y⟩
                  · have hU := Lib.hid hu
                    clear hu
                    go_wp2_with fail
                    go_roundw
                    case rel => exact ⟨k + 1, by omega, by omega, by go_num, Lib.hid (fun k' h1 h2 h3 => by rcases Nat.lt_succ_iff_lt_or_eq.1 h1 with h' | rfl; exact hin.out k' h' h2 h3; exact hU.out), hWy⟩
                    case measure => simp [intOf]; omega
                  · have hU := Lib.hid hu
                    clear hu
                    go_wp2_with fail
                    go_ret
                    refine ⟨ret_bool (decide_eq_false fun hS => ?_).symm, hwW.trans (hWy.mono hwW.size)⟩
                    exact Bool.noConfusion (hU.out.symm.trans ((hS.2 i hlt).2 k hkn hk1 hne))
              · go_wp2_with fail
                go_roundw
                case rel =>
                  refine ⟨i + 1, by omega, by go_num, Lib.hid (fun i' hi' => ?_), hwz⟩
                  rcases Nat.lt_succ_iff_lt_or_eq.1 hi' with h' | rfl
                  · exact hno.out i' h'
                  · exact ⟨hV.out, fun k' h1 h2 h3 => hin.out k' (by omega) h2 h3⟩
                case measure => simp [intOf]; omega
          · have hV := Lib.hid hv
            clear hv
            go_wp2_with fail
            go_ret
            refine ⟨ret_bool (decide_eq_false fun hS => ?_).symm, hwq⟩
            exact Bool.noConfusion (hV.out.symm.trans (hS.2 i hlt).1)
        · go_wp2_with fail
          go_ret
          refine ⟨ret_bool (decide_eq_true ⟨HA.out, fun i' hi' => ?_⟩).symm, hwr⟩
          exact hno.out i' (by omega)

end Go.Proofs.Ytpjckolfjaffjaa
