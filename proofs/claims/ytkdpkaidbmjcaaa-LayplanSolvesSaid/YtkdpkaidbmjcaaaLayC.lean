/- checkMixes and mixed: the error of the mixes. -/
import Derived.Test.YtkdpkaidbmjcaaaLayB
namespace Go.Proofs.Ytkdpkaidbmjcaaa
open Go.RowKit
set_option linter.unusedSimpArgs false
set_option linter.unusedVariables false

set_option maxHeartbeats 1600000 in
theorem mixed_any (A : Option Addr) (m c : Nat) (mx : Nat → MixM) (w : World) (hq : Mixes w w.heap.size A m mx) :
    Calls Try.prog 41 #[.slice A m c] w fun e w' => e = .returned (.int .i64 (mixErr m mx)) ∧ Below w.heap.size w w' := by
  have HQ := Lib.hid hq
  clear hq
  go_enter Try.func41, Try.ntmps41
  go_wp2_with fail
  refine (long_any A m c mx w HQ.out).mono ?_
  rintro r w1 ⟨rfl, hb1⟩
  by_cases hl : TooLongM m mx
  · have hd : decide (TooLongM m mx) = true := decide_eq_true hl
    have HE := Lib.hid (mixErr_long hl)
    rw [hd]
    clear hd hl
    go_wp2_with fail
    go_ret
    exact ⟨ret_int HE.out.symm, hb1⟩
  have hd : decide (TooLongM m mx) = false := decide_eq_false hl
  have HL := Lib.hid hl
  rw [hd]
  clear hd hl
  have hm6 : m ≤ 6 := by have := HL.out; unfold TooLongM at this; omega
  go_wp2_with fail
  go_loopw [3] (fun t wr => ∃ k : Nat, k ≤ m ∧ t = .int .i64 k ∧ Hid (∀ i, i < k → (mx i).cn = (mx 0).cn ∧ validF (mx i) = true) ∧ Below w.heap.size w wr) (fun t _ => m - (intOf t).toNat)
  case atStart => exact ⟨0, Nat.zero_le _, rfl, Lib.hid (fun i hi => absurd hi (by omega)), hb1⟩
  case round =>
    obtain ⟨k, hk, rfl, hno, hwr⟩ := hrel
    have hs1 : w.heap.size ≤ wr.heap.size := hwr.size
    by_cases hlt : k < m
    · obtain ⟨b, o, rfl, hB⟩ := HQ.out.1.addr (by omega)
      have HQ2 := Lib.hid (HQ.out.keep hwr)
      obtain ⟨e0, e1⟩ := HQ2.out.at hlt
      obtain ⟨e2, _⟩ := HQ2.out.at (i := 0) (by omega)
      rw [Nat.zero_mul, Nat.add_zero] at e2
      have x0 := fun z : Ext w.heap.size wr => z.cell (b := b) hB e0
      have x1 := fun z : Ext w.heap.size wr => z.cell (b := b) hB e1
      have x2 := fun z : Ext w.heap.size wr => z.cell (b := b) hB e2
      have hcn : (mx k).cn ≤ 12 := by have := HL.out; unfold TooLongM at this; have h3 : ¬ 12 < (mx k).cn := fun h => this (.inr ⟨k, hlt, h⟩); omega
      have HCN := Lib.hid (show (mx k).cn ≤ 100 by omega)
      have HRK := Lib.hid (fun z : Ext w.heap.size wr => show Row z.wx z.wx.heap.size 1 (mx k).ca (mx k).cn (fun j _ => .int .i64 ((mx k).cnt j)) from ((HQ2.out.2 k hlt).keep z.below).more (Nat.le_trans hs1 z.below.size))
      have hlt' : (k : Int) < m := by omega
      have hk0 : (0 : Int) ≤ k := by omega
      have hm0 : (0 : Int) < m := by omega
      clear e0 e1 e2 hcn
      by_cases hc : (mx k).cn = (mx 0).cn
      · have hc' : (((mx k).cn : Int) != ((mx 0).cn : Int)) = false := by rw [hc]; simp
        have HC := Lib.hid hc
        clear hc
        go_upto_region 6 with (fail)
        refine region_ext w.heap.size (by kernel_rfl) (by kernel_rfl) ?_
        repeat (go_big_quiet_step (first | (go_at_call 47; exact calls_ext hs1 (rvalid_any (mx k) _ HCN.out (HRK.out _)))))
        refine wpQuiet_nil ?_
        rintro _ ⟨z, rfl⟩
        obtain ⟨wq, hq⟩ := z
        dsimp only
        have hwq : Below w.heap.size w wq := hwr.trans hq
        clear x0 x1 x2 HRK
        cases hv : validF (mx k)
        · have HE := Lib.hid (mixErr_bad HL.out ⟨k, hlt, .inr hv⟩)
          go_wp2_with fail
          go_ret
          exact ⟨ret_int HE.out.symm, hwq⟩
        · have HV := Lib.hid hv
          clear hv
          go_wp2_with fail
          go_roundw
          case rel => exact ⟨k + 1, by omega, by go_num, Lib.hid (fun i hi => by rcases Nat.lt_succ_iff_lt_or_eq.1 hi with h' | rfl; exact hno.out i h'; exact ⟨HC.out, HV.out⟩), hwq⟩
          case measure => simp [intOf]; omega
      · have hc' : (((mx k).cn : Int) != ((mx 0).cn : Int)) = true := bne_iff_ne.2 (by omega)
        have HE := Lib.hid (mixErr_bad HL.out ⟨k, hlt, .inl hc⟩)
        clear hc
        go_upto_region 6 with (fail)
        refine region_ext w.heap.size (by kernel_rfl) (by kernel_rfl) ?_
        repeat (go_big_quiet_step (fail))
        refine wpQuiet_nil ?_
        rintro _ ⟨z, rfl⟩
        obtain ⟨wq, hq⟩ := z
        dsimp only
        have hwq : Below w.heap.size w wq := hwr.trans hq
        clear x0 x1 x2 HRK
        go_wp2_with fail
        go_ret
        exact ⟨ret_int HE.out.symm, hwq⟩
    · obtain rfl : k = m := by omega
      have HE := Lib.hid (mixErr_ok HL.out (fun ⟨i, hi, h⟩ => by
        have h2 := hno.out i hi
        rcases h with h | h
        · exact h h2.1
        · rw [h2.2] at h; cases h))
      go_wp2_with fail
      go_ret
      exact ⟨ret_int HE.out.symm, hwr⟩

/-- The number of sizes, if there is no error. -/
def sizesOk (m : Nat) (mx : Nat → MixM) : Nat := if mixErr m mx = 0 then sizesF m mx else 0

theorem ret_two {a b a' b' : Int} (h1 : a = a') (h2 : b = b') : Ending.returned (.tuple #[.int .i64 a, .int .i64 b]) = .returned (.tuple #[.int .i64 a', .int .i64 b']) := by rw [h1, h2]

set_option maxHeartbeats 1600000 in
theorem checkMixes_any (A : Option Addr) (m c : Nat) (mx : Nat → MixM) (w : World) (hq : Mixes w w.heap.size A m mx) :
    Calls Try.prog 25 #[.slice A m c] w fun e w' => e = .returned (.tuple #[.int .i64 (sizesOk m mx), .int .i64 (mixErr m mx)]) ∧ Below w.heap.size w w' := by
  have HQ := Lib.hid hq
  clear hq
  have HF := Lib.hid (fun (x : Int) (h0 : x ≠ 0) (h : mixErr m mx = x) => show Ending.returned (.tuple #[.int .i64 0, .int .i64 x]) = .returned (.tuple #[.int .i64 (sizesOk m mx), .int .i64 (mixErr m mx)]) from
    ret_two (by unfold sizesOk; rw [if_neg (by rw [h]; exact h0)]; rfl) h.symm)
  by_cases h6 : 6 < m
  · have h6' : (6 : Int) < m := by omega
    have HE := Lib.hid (mixErr_long (m := m) (mx := mx) (.inl h6))
    go_enter Try.func25, Try.ntmps25
    go_wp2_with fail
    go_ret2
    exact ⟨HF.out 5 (by decide) HE.out, Below.refl _ _⟩
  have h6' : ¬ (6 : Int) < m := by omega
  go_enter Try.func25, Try.ntmps25
  go_wp2_with fail
  go_loopw [13] (fun t wr => ∃ k : Nat, k ≤ m ∧ t = .int .i64 k ∧ Hid (∀ i, i < k → (mx i).cn ≤ 12) ∧ Below w.heap.size w wr) (fun t _ => m - (intOf t).toNat)
  case atStart => exact ⟨0, Nat.zero_le _, rfl, Lib.hid (fun i hi => absurd hi (by omega)), Below.refl _ _⟩
  case round =>
    obtain ⟨k, hk, rfl, hno, hwr⟩ := hrel
    have hs1 : w.heap.size ≤ wr.heap.size := hwr.size
    by_cases hlt : k < m
    · obtain ⟨b, o, rfl, hB⟩ := HQ.out.1.addr (by omega)
      obtain ⟨f0, f1⟩ := (HQ.out.keep hwr).at hlt
      have hlt' : (k : Int) < m := by omega
      have hk0 : (0 : Int) ≤ k := by omega
      go_upto_region 6 with (fail)
      have qN := Blk.new wr 39 #[.slice (mx k).ca (mx k).cn (mx k).cc, .int .i64 (mx k).len]
      have qb := hwr.alloc hs1 (.cells #[.slice (mx k).ca (mx k).cn (mx k).cc, .int .i64 (mx k).len] 39)
      generalize hW : wr.alloc _ = W at qN qb ⊢
      clear hW f0 f1
      have c0 := qN.cell 0
      simp at c0
      by_cases h1 : 12 < (mx k).cn
      · have h1' : (12 : Int) < (mx k).cn := by omega
        have HE := Lib.hid (mixErr_long (m := m) (mx := mx) (.inr ⟨k, hlt, h1⟩))
        go_wp2_with fail
        go_ret2
        exact ⟨HF.out 5 (by decide) HE.out, qb⟩
      · have h1' : ¬ (12 : Int) < (mx k).cn := by omega
        go_wp2_with fail
        go_roundw
        case rel => exact ⟨k + 1, by omega, by go_num, Lib.hid (fun i hi => by rcases Nat.lt_succ_iff_lt_or_eq.1 hi with h' | rfl; exact hno.out i h'; omega), qb⟩
        case measure => simp [intOf]; omega
    · obtain rfl : k = m := by omega
      have HL := Lib.hid (show ¬ TooLongM k mx from (fun h => by
        rcases h with h | ⟨i, hi, h⟩
        · exact h6 h
        · have := hno.out i hi; omega))
      clear hk hlt
      go_wp2_with fail
      clear hno
      go_loopw [24] (fun t wr => ∃ i : Nat, i ≤ k ∧ t = .int .i64 i ∧ Hid (∀ j, j < i → (mx j).cn = (mx 0).cn ∧ validF (mx j) = true) ∧ Below w.heap.size w wr) (fun t _ => k - (intOf t).toNat)
      case atStart => exact ⟨0, Nat.zero_le _, rfl, Lib.hid (fun i hi => absurd hi (by omega)), hwr⟩
      case round =>
        rename_i W0 _
        clear hwr hs1
        obtain ⟨i, hi, rfl, hno, hwr⟩ := hrel
        have hs1 : w.heap.size ≤ wr.heap.size := hwr.size
        by_cases hlt : i < k
        · obtain ⟨b, o, rfl, hB⟩ := HQ.out.1.addr (by omega)
          have HQ2 := Lib.hid (HQ.out.keep hwr)
          obtain ⟨e0, e1⟩ := HQ2.out.at hlt
          obtain ⟨e2, _⟩ := HQ2.out.at (i := 0) (by omega)
          rw [Nat.zero_mul, Nat.add_zero] at e2
          have hlt' : (i : Int) < k := by omega
          have hk0 : (0 : Int) ≤ i := by omega
          have hm0 : (0 : Int) < k := by omega
          go_upto_region 12 with (fail)
          have qN := Blk.new wr 39 #[.slice (mx i).ca (mx i).cn (mx i).cc, .int .i64 (mx i).len]
          have qb0 := below_a1 wr (.cells #[.slice (mx i).ca (mx i).cn (mx i).cc, .int .i64 (mx i).len] 39)
          have qb := below_up hwr qb0
          obtain ⟨g, hg⟩ : ∃ g, g = wr.heap.size := ⟨_, rfl⟩
          have e2' := (qb0.cell (p := ⟨b, o, none⟩) (by simp only []; omega)).trans e2
          rw [← hg] at qN
          rw [← hg]
          generalize hW : wr.alloc _ = W at qN qb qb0 e2' ⊢
          have hgW := qN.lt
          have c0 := qN.cell 0
          have c1 := qN.cell 1
          simp at c0 c1
          clear hW
          have hbW : b < W.heap.size := by omega
          have x0 := fun z : Ext W.heap.size W => z.cell (b := g) hgW c0
          have x1 := fun z : Ext W.heap.size W => z.cell (b := g) hgW c1
          have x2 := fun z : Ext W.heap.size W => z.cell (b := b) hbW e2'
          have hcn : (mx i).cn ≤ 12 := by have := HL.out; unfold TooLongM at this; have h3 : ¬ 12 < (mx i).cn := fun h => this (.inr ⟨i, hlt, h⟩); omega
          have HCN := Lib.hid (show (mx i).cn ≤ 100 by omega)
          have HRK := Lib.hid (fun z : Ext W.heap.size W => show Row z.wx z.wx.heap.size 1 (mx i).ca (mx i).cn (fun j _ => .int .i64 ((mx i).cnt j)) from (((HQ.out.2 i hlt).keep qb).more qb.size).later z.below)
          clear e0 e1 e2 hcn hg c0 c1 e2' HQ2 qN
          by_cases hc : (mx i).cn = (mx 0).cn
          · have hc' : (((mx i).cn : Int) != ((mx 0).cn : Int)) = false := by rw [hc]; simp
            have HC := Lib.hid hc
            clear hc
            refine region_ext W.heap.size (by kernel_rfl) (by kernel_rfl) ?_
            repeat (go_big_quiet_step (first | (go_at_call 33; exact calls_ext (by omega) (valid_any (mx i) _ HCN.out (HRK.out _)))))
            refine wpQuiet_nil ?_
            rintro _ ⟨z, rfl⟩
            obtain ⟨wq, hq⟩ := z
            dsimp only
            have hwq : Below w.heap.size w wq := below_up qb hq
            clear x0 x1 x2 HRK
            cases hv : validF (mx i)
            · have HE := Lib.hid (mixErr_bad HL.out ⟨i, hlt, .inr hv⟩)
              go_wp2_with fail
              go_ret2
              exact ⟨HF.out 1 (by decide) HE.out, hwq⟩
            · have HV := Lib.hid hv
              clear hv
              go_wp2_with fail
              go_roundw
              case rel => exact ⟨i + 1, by omega, by go_num, Lib.hid (fun j hj => by rcases Nat.lt_succ_iff_lt_or_eq.1 hj with h' | rfl; exact hno.out j h'; exact ⟨HC.out, HV.out⟩), hwq⟩
              case measure => simp [intOf]; omega
          · have hc' : (((mx i).cn : Int) != ((mx 0).cn : Int)) = true := bne_iff_ne.2 (by omega)
            have HE := Lib.hid (mixErr_bad HL.out ⟨i, hlt, .inl hc⟩)
            clear hc
            refine region_ext W.heap.size (by kernel_rfl) (by kernel_rfl) ?_
            repeat (go_big_quiet_step (fail))
            refine wpQuiet_nil ?_
            rintro _ ⟨z, rfl⟩
            obtain ⟨wq, hq⟩ := z
            dsimp only
            have hwq : Below w.heap.size w wq := below_up qb hq
            clear x0 x1 x2 HRK
            go_wp2_with fail
            go_ret2
            exact ⟨HF.out 1 (by decide) HE.out, hwq⟩
        · obtain rfl : i = k := by omega
          have HE := Lib.hid (mixErr_ok HL.out (fun ⟨j, hj, h⟩ => by
            have h2 := hno.out j hj
            rcases h with h | h
            · exact h h2.1
            · rw [h2.2] at h; cases h))
          by_cases h0 : i = 0
          · subst h0
            go_wp2_with fail
            go_ret2
            exact ⟨ret_two (by unfold sizesOk sizesF; rw [if_pos HE.out]; rfl) HE.out.symm, hwr⟩
          · obtain ⟨b, o, rfl, hB⟩ := HQ.out.1.addr (by omega)
            obtain ⟨e2, _⟩ := (HQ.out.keep hwr).at (i := 0) (by omega)
            rw [Nat.zero_mul, Nat.add_zero] at e2
            have hi0 : ¬ (i : Int) = 0 := by omega
            have hi1 : (0 : Int) < i := by omega
            have hi2 : ((i : Int) == 0) = false := by simp; omega
            go_wp2_with fail
            go_ret2
            exact ⟨ret_two (by unfold sizesOk sizesF; rw [if_pos HE.out, if_neg h0]) HE.out.symm, hwr⟩

end Go.Proofs.Ytkdpkaidbmjcaaa
