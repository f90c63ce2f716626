/- The reference's valid and long; checkMixes, mixed: the error of the mixes. -/
import Derived.Test.YtkdpkaidbmjcaaaLayA
namespace Go.Proofs.Ytkdpkaidbmjcaaa
open Go.RowKit
set_option linter.unusedSimpArgs false
set_option linter.unusedVariables false

/-- m mixes in memory. -/
def Mixes (w : World) (B : Nat) (A : Option Addr) (m : Nat) (mx : Nat → MixM) : Prop :=
  Row w B 2 A m (fun i => (mx i).c) ∧ ∀ i, i < m → Row w B 1 (mx i).ca (mx i).cn (fun j _ => .int .i64 ((mx i).cnt j))

section
variable {w w' : World} {B m : Nat} {A : Option Addr} {mx : Nat → MixM}
theorem Mixes.keep (h : Mixes w B A m mx) (hb : Below B w w') : Mixes w' B A m mx := ⟨h.1.keep hb, fun i hi => (h.2 i hi).keep hb⟩
theorem Mixes.later (h : Mixes w w.heap.size A m mx) (hb : Below w.heap.size w w') : Mixes w' w'.heap.size A m mx := ⟨h.1.later hb, fun i hi => (h.2 i hi).later hb⟩
/-- The cells of mix i. -/
theorem Mixes.at {b off : Nat} (h : Mixes w B (some ⟨b, off, none⟩) m mx) {i : Nat} (hi : i < m) : w.cell? ⟨b, off + i * 2, none⟩ = some (.slice (mx i).ca (mx i).cn (mx i).cc) ∧ w.cell? ⟨b, off + i * 2 + 1, none⟩ = some (.int .i64 (mx i).len) := h.1.at2 hi
end

/-- The error of the mixes. -/
def TooLongM (m : Nat) (mx : Nat → MixM) : Prop := 6 < m ∨ ∃ i, i < m ∧ 12 < (mx i).cn
def BadM (m : Nat) (mx : Nat → MixM) : Prop := ∃ i, i < m ∧ ((mx i).cn ≠ (mx 0).cn ∨ validF (mx i) = false)
instance (m : Nat) (mx : Nat → MixM) : Decidable (TooLongM m mx) := by unfold TooLongM; exact inferInstance
instance (m : Nat) (mx : Nat → MixM) : Decidable (BadM m mx) := by unfold BadM; exact inferInstance
def mixErr (m : Nat) (mx : Nat → MixM) : Int := if TooLongM m mx then 5 else if BadM m mx then 1 else 0
def sizesF (m : Nat) (mx : Nat → MixM) : Nat := if m = 0 then 0 else (mx 0).cn

theorem mixErr_long {m : Nat} {mx : Nat → MixM} (h : TooLongM m mx) : mixErr m mx = 5 := if_pos h
theorem mixErr_bad {m : Nat} {mx : Nat → MixM} (h : ¬ TooLongM m mx) (h2 : BadM m mx) : mixErr m mx = 1 := by unfold mixErr; rw [if_neg h, if_pos h2]
theorem mixErr_ok {m : Nat} {mx : Nat → MixM} (h : ¬ TooLongM m mx) (h2 : ¬ BadM m mx) : mixErr m mx = 0 := by unfold mixErr; rw [if_neg h, if_neg h2]

/-- What valid mixes are. -/
structure GoodM (m : Nat) (mx : Nat → MixM) : Prop where
  m6 : m ≤ 6
  cn : ∀ i, i < m → (mx i).cn = sizesF m mx
  s12 : sizesF m mx ≤ 12
  cnt : ∀ i j, i < m → j < sizesF m mx → 0 ≤ (mx i).cnt j ∧ (mx i).cnt j ≤ 6
  len : ∀ i, i < m → 1 ≤ (mx i).len ∧ (mx i).len ≤ 1048576

theorem good_of {m : Nat} {mx : Nat → MixM} (h : mixErr m mx = 0) : GoodM m mx := by
  unfold mixErr at h
  split at h
  · exact absurd h (by decide)
  · rename_i h1
    split at h
    · exact absurd h (by decide)
    · rename_i h2
      have hcn : ∀ i, i < m → (mx i).cn = (mx 0).cn ∧ validF (mx i) = true := fun i hi => by
        refine ⟨Classical.byContradiction fun hh => h2 ⟨i, hi, .inl hh⟩, ?_⟩
        cases hv : validF (mx i) with
        | true => rfl
        | false => exact absurd ⟨i, hi, .inr hv⟩ h2
      have hs : ∀ i, i < m → sizesF m mx = (mx 0).cn := fun i hi => by unfold sizesF; rw [if_neg (by omega)]
      refine ⟨by unfold TooLongM at h1; omega, fun i hi => by rw [hs i hi]; exact (hcn i hi).1, ?_, fun i j hi hj => ?_, fun i hi => ?_⟩
      · unfold sizesF
        split
        · omega
        · have : ¬ 12 < (mx 0).cn := fun hh => h1 (.inr ⟨0, by omega, hh⟩)
          omega
      · have := of_decide_eq_true (hcn i hi).2
        exact this.1 j (by rw [(hcn i hi).1, ← hs i hi]; exact hj)
      · exact (of_decide_eq_true (hcn i hi).2).2.2

set_option maxHeartbeats 1600000 in
theorem rvalid_any (x : MixM) (w : World) (hn : x.cn ≤ 100) (hr : Row w w.heap.size 1 x.ca x.cn (fun j _ => .int .i64 (x.cnt j))) :
    Calls Try.prog 47 #[.agg #[.slice x.ca x.cn x.cc, .int .i64 x.len]] w fun e w' => e = .returned (.bool (validF x)) ∧ Below w.heap.size w w' := by
  obtain ⟨ca, cn, cc, cnt, len⟩ := x
  simp only [] at hn hr ⊢
  go_enter Try.func47, Try.ntmps47
  go_upto_region 1 with (fail)
  have k1 := Blk.new w 39 #[.slice ca cn cc, .int .i64 len]
  have hb := below_a1 w (.cells #[.slice ca cn cc, .int .i64 len] 39)
  have HR := Lib.hid (hr.keep hb)
  obtain ⟨g, hg⟩ : ∃ g, g = w.heap.size := ⟨_, rfl⟩
  rw [← hg] at k1 HR
  rw [← hg]
  have HG := Lib.hid hg.symm
  rw [← hg] at hb
  generalize hW : w.alloc _ = W at k1 hb HR ⊢
  clear hW hg hr
  have c0 := k1.cell 0
  have c1 := k1.cell 1
  simp at c0 c1
  go_wp2_with fail
  go_loopw [3, 4] (fun s t wr => ∃ k : Nat, k ≤ cn ∧ t = .int .i64 k ∧ s = .bool (decide (∃ j, j < k ∧ 0 < cnt j)) ∧ Hid (∀ i, i < k → 0 ≤ cnt i ∧ cnt i ≤ 6) ∧ wr = W) (fun _ t _ => cn - (intOf t).toNat)
  case atStart => exact ⟨0, Nat.zero_le _, rfl, rfl, Lib.hid (fun i hi => absurd hi (by omega)), rfl⟩
  case round =>
    obtain ⟨k, hk, rfl, rfl, hno, rfl⟩ := hrel
    by_cases hlt : k < cn
    · obtain ⟨b, o, rfl, hB⟩ := HR.out.addr (by omega)
      have f0 := HR.out.at1 hlt
      have hlt' : (k : Int) < cn := by omega
      have hk0 : (0 : Int) ≤ k := by omega
      by_cases h1 : cnt k < 0
      · have HV := Lib.hid (valid_bad (x := ⟨some ⟨b, o, none⟩, cn, cc, cnt, len⟩) hlt (.inl h1))
        generalize decide (∃ j, j < k ∧ 0 < cnt j) = s at *
        go_wp2_with fail
        go_ret
        exact ⟨ret_bool HV.out.symm, by rw [HG.out]; exact hb⟩
      by_cases h2 : 6 < cnt k
      · have HV := Lib.hid (valid_bad (x := ⟨some ⟨b, o, none⟩, cn, cc, cnt, len⟩) hlt (.inr h2))
        generalize decide (∃ j, j < k ∧ 0 < cnt j) = s at *
        go_wp2_with fail
        go_ret
        exact ⟨ret_bool HV.out.symm, by rw [HG.out]; exact hb⟩
      have HS := Lib.hid (show decide (∃ j, j < k + 1 ∧ 0 < cnt j) = (decide (∃ j, j < k ∧ 0 < cnt j) || decide (0 < cnt k)) from by
        rw [← Bool.decide_or]
        congr 1
        refine propext ⟨fun ⟨j, hj, hp⟩ => ?_, fun h => ?_⟩
        · rcases Nat.lt_succ_iff_lt_or_eq.1 hj with h' | rfl
          · exact .inl ⟨j, h', hp⟩
          · exact .inr hp
        · rcases h with ⟨j, hj, hp⟩ | hp
          · exact ⟨j, by omega, hp⟩
          · exact ⟨k, by omega, hp⟩)
      generalize decide (∃ j, j < k ∧ 0 < cnt j) = s at *
      cases s
      · by_cases h3 : 0 < cnt k
        · go_wp2_with fail
          go_roundw
          case rel => exact ⟨k + 1, by omega, by go_num, by rw [HS.out]; simp [h3], Lib.hid (fun i hi => by rcases Nat.lt_succ_iff_lt_or_eq.1 hi with h' | rfl; exact hno.out i h'; omega), trivial⟩
          case measure => simp [intOf]; omega
        · go_wp2_with fail
          go_roundw
          case rel => exact ⟨k + 1, by omega, by go_num, by rw [HS.out]; simp [h3], Lib.hid (fun i hi => by rcases Nat.lt_succ_iff_lt_or_eq.1 hi with h' | rfl; exact hno.out i h'; omega), trivial⟩
          case measure => simp [intOf]; omega
      · go_wp2_with fail
        go_roundw
        case rel => exact ⟨k + 1, by omega, by go_num, by rw [HS.out]; simp, Lib.hid (fun i hi => by rcases Nat.lt_succ_iff_lt_or_eq.1 hi with h' | rfl; exact hno.out i h'; omega), trivial⟩
        case measure => simp [intOf]; omega
    · obtain rfl : k = cn := by omega
      have HV := Lib.hid (show validF ⟨ca, k, cc, cnt, len⟩ = (decide (∃ j, j < k ∧ 0 < cnt j) && decide (1 ≤ len) && decide (len ≤ 1048576)) from by
        unfold validF
        rw [← Bool.decide_and, ← Bool.decide_and]
        congr 1
        refine propext ⟨fun h => ⟨⟨h.2.1, h.2.2.1⟩, h.2.2.2⟩, fun h => ⟨hno.out, h.1.1, h.1.2, h.2⟩⟩)
      generalize decide (∃ j, j < k ∧ 0 < cnt j) = s at *
      cases s
      · go_wp2_with fail
        go_ret
        exact ⟨ret_bool (by rw [HV.out]; rfl), by rw [HG.out]; exact hb⟩
      · by_cases h2 : 1 ≤ len
        · by_cases h3 : len ≤ 1048576
          · have HT := Lib.hid (HV.out.trans (by simp [h2, h3] : _ = true))
            go_wp2_with fail
            go_ret
            exact ⟨ret_bool HT.out.symm, by rw [HG.out]; exact hb⟩
          · have HT := Lib.hid (HV.out.trans (by simp [h3] : _ = false))
            go_wp2_with fail
            go_ret
            exact ⟨ret_bool HT.out.symm, by rw [HG.out]; exact hb⟩
        · have HT := Lib.hid (HV.out.trans (by simp [h2] : _ = false))
          go_wp2_with fail
          go_ret
          exact ⟨ret_bool HT.out.symm, by rw [HG.out]; exact hb⟩

set_option maxHeartbeats 800000 in
theorem long_any (A : Option Addr) (m c : Nat) (mx : Nat → MixM) (w : World) (hq : Mixes w w.heap.size A m mx) :
    Calls Try.prog 46 #[.slice A m c] w fun e w' => e = .returned (.bool (decide (TooLongM m mx))) ∧ Below w.heap.size w w' := by
  have HQ := Lib.hid hq
  clear hq
  by_cases h6 : 6 < m
  · have h6' : (6 : Int) < m := by omega
    have HR := Lib.hid (show decide (TooLongM m mx) = true from decide_eq_true (.inl h6))
    go_enter Try.func46, Try.ntmps46
    go_wp2_with fail
    go_ret
    exact ⟨ret_bool HR.out.symm, Below.refl _ _⟩
  have h6' : ¬ (6 : Int) < m := by omega
  go_enter Try.func46, Try.ntmps46
  go_wp2_with fail
  go_loopw [3] (fun t wr => ∃ k : Nat, k ≤ m ∧ t = .int .i64 k ∧ Hid (∀ i, i < k → (mx i).cn ≤ 12) ∧ wr = w) (fun t _ => m - (intOf t).toNat)
  case atStart => exact ⟨0, Nat.zero_le _, rfl, Lib.hid (fun i hi => absurd hi (by omega)), rfl⟩
  case round =>
    obtain ⟨k, hk, rfl, hno, rfl⟩ := hrel
    by_cases hlt : k < m
    · obtain ⟨b, o, rfl, hB⟩ := HQ.out.1.addr (by omega)
      obtain ⟨f0, _⟩ := HQ.out.at hlt
      have hlt' : (k : Int) < m := by omega
      have hk0 : (0 : Int) ≤ k := by omega
      by_cases h1 : 12 < (mx k).cn
      · have h1' : (12 : Int) < (mx k).cn := by omega
        have HR := Lib.hid (show decide (TooLongM m mx) = true from decide_eq_true (.inr ⟨k, hlt, h1⟩))
        go_wp2_with fail
        go_ret
        exact ⟨ret_bool HR.out.symm, Below.refl _ _⟩
      · have h1' : ¬ (12 : Int) < (mx k).cn := by omega
        go_wp2_with fail
        go_roundw
        case rel => exact ⟨k + 1, by omega, by go_num, Lib.hid (fun i hi => by rcases Nat.lt_succ_iff_lt_or_eq.1 hi with h' | rfl; exact hno.out i h'; omega), trivial⟩
        case measure => simp [intOf]; omega
    · obtain rfl : k = m := by omega
      have HR := Lib.hid (show decide (TooLongM k mx) = false from decide_eq_false (fun h => by
        rcases h with h | ⟨i, hi, h⟩
        · exact h6 h
        · have := hno.out i hi; omega))
      go_wp2_with fail
      go_ret
      exact ⟨ret_bool HR.out.symm, Below.refl _ _⟩

end Go.Proofs.Ytkdpkaidbmjcaaa
