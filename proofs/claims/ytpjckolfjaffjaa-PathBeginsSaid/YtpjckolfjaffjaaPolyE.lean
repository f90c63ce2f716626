/- The reference's simple. -/
import Derived.Test.YtpjckolfjaffjaaPolyD
namespace Go.Proofs.Ytpjckolfjaffjaa
open Go.RowKit
set_option linter.unusedSimpArgs false
set_option linter.unusedVariables false

/-- Two variables of two cells each, made since w. -/
def TwoVars (w : World) (a0 a1 b0 b1 : Value) (v u : Value) (wx : World) : Prop :=
  ∃ ba bb : Nat, v = .pointer (some ⟨ba, 0, none⟩) ∧ u = .pointer (some ⟨bb, 0, none⟩) ∧ ba < wx.heap.size ∧ bb < wx.heap.size ∧ Below w.heap.size w wx ∧
    wx.cell? ⟨ba, 0, none⟩ = some a0 ∧ wx.cell? ⟨ba, 1, none⟩ = some a1 ∧ wx.cell? ⟨bb, 0, none⟩ = some b0 ∧ wx.cell? ⟨bb, 1, none⟩ = some b1

theorem twoVars_ab (w : World) (t : TypeId) (a0 a1 b0 b1 : Value) :
    TwoVars w a0 a1 b0 b1 (.pointer (some ⟨w.heap.size, 0, none⟩)) (.pointer (some ⟨w.heap.size + 1, 0, none⟩)) ((w.alloc (.cells #[a0, a1] t)).alloc (.cells #[b0, b1] t)).drew := by
  obtain ⟨h1, h2, c0, c1, c2, c3⟩ := two_boxes w t a0 a1 b0 b1 _ rfl
  exact ⟨_, _, rfl, rfl, by show _ < ((w.alloc _).alloc _).heap.size; omega, by show _ < ((w.alloc _).alloc _).heap.size; omega, h2.drew, c0, c1, c2, c3⟩

theorem twoVars_ba (w : World) (t : TypeId) (a0 a1 b0 b1 : Value) :
    TwoVars w a0 a1 b0 b1 (.pointer (some ⟨w.heap.size + 1, 0, none⟩)) (.pointer (some ⟨w.heap.size, 0, none⟩)) ((w.alloc (.cells #[b0, b1] t)).alloc (.cells #[a0, a1] t)).drew := by
  obtain ⟨h1, h2, c0, c1, c2, c3⟩ := two_boxes w t b0 b1 a0 a1 _ rfl
  exact ⟨_, _, rfl, rfl, by show _ < ((w.alloc _).alloc _).heap.size; omega, by show _ < ((w.alloc _).alloc _).heap.size; omega, h2.drew, c2, c3, c0, c1⟩

set_option maxHeartbeats 1600000 in
theorem rsimple_any (A : Option Addr) (n c : Nat) (p : Nat → Spot) (w : World) (h3 : 3 ≤ n) (hn : n ≤ 100) (hok : Hid (∀ i, i < n → (p i).ok)) (hp : Spots w w.heap.size A n p) :
    Calls Try.prog 47 #[.slice A n c] w
      fun e w' => e = .returned (.bool (rsimpleF n p)) ∧ Below w.heap.size w w' := by
  obtain ⟨b, off, rfl, hB, hcell⟩ := hp (by omega)
  have HC := Lib.hid hcell
  clear hcell hp
  have hq1 := spot_eql
  have hq2 := spot_guard
  go_enter Try.func47, Try.ntmps47
  go_wp2_with fail
  go_loopw [4] (fun t wr => ∃ i : Nat, i ≤ n ∧ t = .int .i64 i ∧ Hid (∀ i', i' < i → sameF (p i') (p ((i' + 1) % n)) = false ∧ onF (p i') (p ((i' + 1) % n)) (p ((i' + 2) % n)) = false ∧ onF (p ((i' + 1) % n)) (p ((i' + 2) % n)) (p i') = false ∧
    ∀ k, k < n → i' + 2 ≤ k → (k + 1) % n ≠ i' → meetF (p i') (p ((i' + 1) % n)) (p k) (p ((k + 1) % n)) = false) ∧ Below w.heap.size w wr) (fun t _ => n - (intOf t).toNat)
  case atStart => exact ⟨0, Nat.zero_le _, rfl, Lib.hid (fun j hj => absurd hj (by omega)), Below.refl _ _⟩
  case round =>
    obtain ⟨i, hi, rfl, hno, hwr⟩ := hrel
    have hs1 : w.heap.size ≤ wr.heap.size := hwr.size
    by_cases hlt : i < n
    · obtain ⟨m1, hM1⟩ : ∃ m, (i + 1) % n = m := ⟨_, rfl⟩
      obtain ⟨m2, hM2⟩ : ∃ m, (i + 2) % n = m := ⟨_, rfl⟩
      have hm1 : m1 < n := by rw [← hM1]; exact Nat.mod_lt _ (by omega)
      have hm2 : m2 < n := by rw [← hM2]; exact Nat.mod_lt _ (by omega)
      obtain ⟨e0, e1⟩ := HC.out i hlt
      obtain ⟨e2, e3⟩ := HC.out m1 hm1
      have f0 := (hwr.cell (p := ⟨_, _, none⟩) hB).trans e0
      have f1 := (hwr.cell (p := ⟨_, _, none⟩) hB).trans e1
      have f2 := (hwr.cell (p := ⟨_, _, none⟩) hB).trans e2
      have f3 := (hwr.cell (p := ⟨_, _, none⟩) hB).trans e3
      clear e0 e1 e2 e3
      have hlt' : (i : Int) < n := by omega
      have hBr : b < wr.heap.size := by omega
      have hm1' : (m1 : Int) < n := by omega
      have hm1n : (0 : Int) ≤ m1 := by omega
      have hn0 : ¬ n = 0 := by omega
      go_upto_region 5 with (fail)
      go_cut [5, 6] (fun v u wx => TwoVars wr (.int .i64 (p i).x) (.int .i64 (p i).y) (.int .i64 (p m1).x) (.int .i64 (p m1).y) v u wx)
      case first =>
        have r1 : IntKind.i64.wrap ((i : Int) + 1) = (i : Int) + 1 := wrap_cast (by omega) (by omega)
        have r2 : Int.tmod ((i : Int) + 1) n = (m1 : Int) := tmod_cast (j := 1) hM1
        have r3 : IntKind.i64.wrap (m1 : Int) = m1 := wrap_cast (by omega) (by omega)
        have q1 : (0 : Int) ≤ i := by omega
        have HM1 := Lib.hid hM1
        have HM2 := Lib.hid hM2
        clear hM1 hM2
        go_region_held3 (fun w' => w'.cell? ⟨b, off + i * 2, none⟩ = some (.int .i64 (p i).x) ∧ w'.cell? ⟨b, off + i * 2 + 1, none⟩ = some (.int .i64 (p i).y) ∧ w'.cell? ⟨b, off + m1 * 2, none⟩ = some (.int .i64 (p m1).x) ∧ w'.cell? ⟨b, off + m1 * 2 + 1, none⟩ = some (.int .i64 (p m1).y)) (go_keep) (fail)
        all_goals (go_wp2_with fail; go_meet; first | exact twoVars_ab _ _ _ _ _ _ | exact twoVars_ba _ _ _ _ _ _)
      case rest =>
        obtain ⟨ba, bb, rfl, rfl, hba, hbb, hwc, c0, c1, c2, c3⟩ := hcut
        have hwC : Below w.heap.size w wc := hwr.trans (hwc.mono hs1)
        clear f0 f1 f2 f3
        obtain ⟨e0, e1⟩ := HC.out m2 hm2
        have f0 := (hwC.cell (p := ⟨_, _, none⟩) hB).trans e0
        have f1 := (hwC.cell (p := ⟨_, _, none⟩) hB).trans e1
        clear e0 e1
        have hzc : wr.heap.size ≤ wc.heap.size := hwc.size
        have hBc : b < wc.heap.size := by omega
        have hm2' : (m2 : Int) < n := by omega
        have hm2n : (0 : Int) ≤ m2 := by omega
        have r2 : ((i : Int) + 2) % n = (m2 : Int) := emod_cast (j := 2) hM2
        have HM1 := Lib.hid hM1
        have HM2 := Lib.hid hM2
        clear hM1 hM2
        go_upto_region 7 with (fail)
        clear r2
        generalize hW : wc.alloc _ = W
        obtain ⟨hs, hbW, c4, c5⟩ := one_box _ _ _ _ _ hW
        clear hW f0 f1
        have hwW : Below w.heap.size w W := below_up hwC hbW
        have x0 := fun z : Ext W.heap.size W => z.cell (by omega) ((hbW.cell (p := ⟨_, _, none⟩) hba).trans c0)
        have x1 := fun z : Ext W.heap.size W => z.cell (by omega) ((hbW.cell (p := ⟨_, _, none⟩) hba).trans c1)
        have x2 := fun z : Ext W.heap.size W => z.cell (by omega) ((hbW.cell (p := ⟨_, _, none⟩) hbb).trans c2)
        have x3 := fun z : Ext W.heap.size W => z.cell (by omega) ((hbW.cell (p := ⟨_, _, none⟩) hbb).trans c3)
        have x4 := fun z : Ext W.heap.size W => z.cell (by omega) c4
        have x5 := fun z : Ext W.heap.size W => z.cell (by omega) c5
        clear c4 c5
        refine plain_ext W.heap.size ?_
        repeat (go_big_quiet_step (fail))
        cases hu1 : sameF ⟨(p i).x, (p i).y⟩ ⟨(p m1).x, (p m1).y⟩
        rotate_left
        · have U1 := Lib.hid hu1
          clear hu1
          repeat (go_big_quiet_step (fail))
          refine wpQuiet_nil ?_
          rintro _ ⟨z, rfl⟩
          obtain ⟨wq, hq⟩ := z
          dsimp only
          go_wp2_with fail
          go_ret
          refine ⟨ret_bool (decide_eq_false fun hS => ?_).symm, hwW.trans (hq.mono hwW.size)⟩
          have hS1 := hS i hlt
          rw [HM1.out, HM2.out] at hS1
          exact Bool.noConfusion (U1.out.symm.trans hS1.1)
        have U1 := Lib.hid hu1
        clear hu1
        repeat (go_big_quiet_step (first | (go_at_call 52; exact calls_ext (by omega) (between_any _ _ _ _ _ _ _ (hok.out i hlt) (hok.out m1 hm1) (hok.out m2 hm2)))))
        cases hu2 : onF ⟨(p i).x, (p i).y⟩ ⟨(p m1).x, (p m1).y⟩ ⟨(p m2).x, (p m2).y⟩
        rotate_left
        · have U2 := Lib.hid hu2
          clear hu2
          repeat (go_big_quiet_step (fail))
          refine wpQuiet_nil ?_
          rintro _ ⟨z, rfl⟩
          obtain ⟨wq, hq⟩ := z
          dsimp only
          go_wp2_with fail
          go_ret
          refine ⟨ret_bool (decide_eq_false fun hS => ?_).symm, hwW.trans (hq.mono hwW.size)⟩
          have hS1 := hS i hlt
          rw [HM1.out, HM2.out] at hS1
          exact Bool.noConfusion (U2.out.symm.trans hS1.2.1)
        have U2 := Lib.hid hu2
        clear hu2
        repeat (go_big_quiet_step (first | (go_at_call 52; exact calls_ext (by omega) (between_any _ _ _ _ _ _ _ (hok.out m1 hm1) (hok.out m2 hm2) (hok.out i hlt)))))
        refine wpQuiet_nil ?_
        rintro _ ⟨z, rfl⟩
        obtain ⟨wq, hq⟩ := z
        dsimp only
        cases hu3 : onF ⟨(p m1).x, (p m1).y⟩ ⟨(p m2).x, (p m2).y⟩ ⟨(p i).x, (p i).y⟩
        rotate_left
        · have U3 := Lib.hid hu3
          clear hu3
          go_wp2_with fail
          go_ret
          refine ⟨ret_bool (decide_eq_false fun hS => ?_).symm, hwW.trans (hq.mono hwW.size)⟩
          have hS1 := hS i hlt
          rw [HM1.out, HM2.out] at hS1
          exact Bool.noConfusion (U3.out.symm.trans hS1.2.2.1)
        have U3 := Lib.hid hu3
        clear hu3
        clear x0 x1 x2 x3 x4 x5
        have d0 := (hbW.cell (p := ⟨_, _, none⟩) hba).trans c0
        have d1 := (hbW.cell (p := ⟨_, _, none⟩) hba).trans c1
        have d2 := (hbW.cell (p := ⟨_, _, none⟩) hbb).trans c2
        have d3 := (hbW.cell (p := ⟨_, _, none⟩) hbb).trans c3
        clear c0 c1 c2 c3
        go_wp2_with fail
        obtain ⟨wo, rfl⟩ : ∃ wo, wo = wr := ⟨_, rfl⟩
        go_loopw [8] (fun t wr => ∃ k : Nat, i + 2 ≤ k ∧ k ≤ n + 1 ∧ t = .int .i64 k ∧ Hid (∀ k', k' < k → k' < n → i + 2 ≤ k' → (k' + 1) % n ≠ i → meetF (p i) (p m1) (p k') (p ((k' + 1) % n)) = false) ∧ Below W.heap.size W wr) (fun t _ => n + 1 - (intOf t).toNat)
        case atStart => exact ⟨i + 2, by omega, by omega, by go_num, Lib.hid (fun k' h1 h2 h3 => absurd h1 (by omega)), hq⟩
        case round =>
          obtain ⟨k, hk1, hk2, rfl, hin, hwr2⟩ := hrel
          have hs2 : W.heap.size ≤ wr.heap.size := hwr2.size
          have hwz : Below w.heap.size w wr := hwW.trans (hwr2.mono hwW.size)
          by_cases hkn : k < n
          · obtain ⟨m3, hM3⟩ : ∃ m, (k + 1) % n = m := ⟨_, rfl⟩
            have hm3 : m3 < n := by rw [← hM3]; exact Nat.mod_lt _ (by omega)
            have hkn' : (k : Int) < n := by omega
            have hm3' : (m3 : Int) < n := by omega
            have hm3n : (0 : Int) ≤ m3 := by omega
            have r2 : ((k : Int) + 1) % n = (m3 : Int) := emod_cast (j := 1) hM3
            have HM3 := Lib.hid hM3
            clear hM3
            by_cases hne : m3 = i
            · have hb1 : ((m3 : Int) != (i : Int)) = false := by rw [hne]; simp
              have HNE := Lib.hid hne
              clear hne
              go_upto_region 12 with (fail)
              refine region_ext W.heap.size (by kernel_rfl) (by kernel_rfl) ?_
              repeat (go_big_quiet_step (fail))
              refine wpQuiet_nil ?_
              rintro _ ⟨z, rfl⟩
              obtain ⟨wy, hy⟩ := z
              dsimp only
              have hWy : Below W.heap.size W wy := hwr2.trans hy
              clear r2
              go_wp2_with fail
              go_roundw
              case rel =>
                refine ⟨k + 1, by omega, by omega, by go_num, Lib.hid (fun k' h1 h2 h3 h4 => ?_), hWy⟩
                rcases Nat.lt_succ_iff_lt_or_eq.1 h1 with h' | rfl
                · exact hin.out k' h' h2 h3 h4
                · exact absurd (HM3.out.trans HNE.out) h4
              case measure => simp [intOf]; omega
            · have hb1 : ((m3 : Int) != (i : Int)) = true := bne_iff_ne.2 (fun h => hne (Int.ofNat_inj.1 h))
              obtain ⟨e0, e1⟩ := HC.out k hkn
              obtain ⟨e2, e3⟩ := HC.out m3 hm3
              have x0 := fun z : Ext W.heap.size wr => z.cell (by omega) ((hwr2.cell (p := ⟨_, _, none⟩) (by simp only []; omega)).trans d0)
              have x1 := fun z : Ext W.heap.size wr => z.cell (by omega) ((hwr2.cell (p := ⟨_, _, none⟩) (by simp only []; omega)).trans d1)
              have x2 := fun z : Ext W.heap.size wr => z.cell (by omega) ((hwr2.cell (p := ⟨_, _, none⟩) (by simp only []; omega)).trans d2)
              have x3 := fun z : Ext W.heap.size wr => z.cell (by omega) ((hwr2.cell (p := ⟨_, _, none⟩) (by simp only []; omega)).trans d3)
              have x4 := fun z : Ext W.heap.size wr => z.cell (b := b) (by omega) ((hwz.cell (p := ⟨_, _, none⟩) hB).trans e0)
              have x5 := fun z : Ext W.heap.size wr => z.cell (b := b) (by omega) ((hwz.cell (p := ⟨_, _, none⟩) hB).trans e1)
              have x6 := fun z : Ext W.heap.size wr => z.cell (b := b) (by omega) ((hwz.cell (p := ⟨_, _, none⟩) hB).trans e2)
              have x7 := fun z : Ext W.heap.size wr => z.cell (b := b) (by omega) ((hwz.cell (p := ⟨_, _, none⟩) hB).trans e3)
              clear e0 e1 e2 e3
              have HNE := Lib.hid hne
              clear hne
              go_upto_region 12 with (fail)
              refine region_ext W.heap.size (by kernel_rfl) (by kernel_rfl) ?_
              repeat (go_big_quiet_step (first | (go_at_call 53; exact calls_ext (by omega) (rmeet_any _ _ _ _ _ _ _ _ _ (hok.out i hlt) (hok.out m1 hm1) (hok.out k hkn) (hok.out m3 hm3)))))
              refine wpQuiet_nil ?_
              rintro _ ⟨z, rfl⟩
              obtain ⟨wy, hy⟩ := z
              dsimp only
              clear x0 x1 x2 x3 x4 x5 x6 x7 r2
              have hWy : Below W.heap.size W wy := hwr2.trans hy
              cases hu : meetF ⟨(p i).x, (p i).y⟩ ⟨(p m1).x, (p m1).y⟩ ⟨(p k).x, (p k).y⟩ ⟨(p m3).x, (p m3).y⟩
              · have hU := Lib.hid hu
                clear hu
                go_wp2_with fail
                go_roundw
                case rel =>
                  refine ⟨k + 1, by omega, by omega, by go_num, Lib.hid (fun k' h1 h2 h3 h4 => ?_), hWy⟩
                  rcases Nat.lt_succ_iff_lt_or_eq.1 h1 with h' | rfl
                  · exact hin.out k' h' h2 h3 h4
                  · rw [HM3.out]; exact hU.out
                case measure => simp [intOf]; omega
              · have hU := Lib.hid hu
                clear hu
                go_wp2_with fail
                go_ret
                refine ⟨ret_bool (decide_eq_false fun hS => ?_).symm, hwW.trans (hWy.mono hwW.size)⟩
                have hS1 := (hS i hlt).2.2.2 k hkn hk1 (by rw [HM3.out]; exact HNE.out)
                rw [HM1.out, HM3.out] at hS1
                exact Bool.noConfusion (hU.out.symm.trans hS1)
          · go_wp2_with fail
            go_roundw
            case rel =>
              refine ⟨i + 1, by omega, by go_num, Lib.hid (fun i' hi' => ?_), hwz⟩
              rcases Nat.lt_succ_iff_lt_or_eq.1 hi' with h' | rfl
              · exact hno.out i' h'
              · rw [HM1.out, HM2.out]
                exact ⟨U1.out, U2.out, U3.out, fun k' h1 h2 h3 => hin.out k' (by omega) h1 h2 h3⟩
            case measure => simp [intOf]; omega
    · go_wp2_with fail
      go_ret
      exact ⟨ret_bool (decide_eq_true fun i' hi' => hno.out i' (by omega)).symm, hwr⟩

end Go.Proofs.Ytpjckolfjaffjaa
