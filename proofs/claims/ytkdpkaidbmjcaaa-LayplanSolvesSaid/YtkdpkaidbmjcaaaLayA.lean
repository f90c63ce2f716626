/- Mixes in memory; valid of both. -/
import Derived.Test.YtkdpkaidbmjcaaaRowAt
import Derived.Test.YtkdpkaidbmjcaaaLayFeas
import Derived.Test.YtkdpkaidbmjcaaaProg
import Derived.Lib.MinMax
namespace Go.Proofs.Ytkdpkaidbmjcaaa
open Go.RowKit
set_option linter.unusedSimpArgs false
set_option linter.unusedVariables false

/-- A mix in memory: its counts lie at ca, cn of them. -/
structure MixM where
  ca : Option Addr
  cn : Nat
  cc : Nat
  cnt : Nat → Int
  len : Int

def MixM.c (x : MixM) : Nat → Value
  | 0 => .slice x.ca x.cn x.cc
  | _ => .int .i64 x.len

/-- What valid answers. -/
def ValidM (x : MixM) : Prop := (∀ j, j < x.cn → 0 ≤ x.cnt j ∧ x.cnt j ≤ 6) ∧ (∃ j, j < x.cn ∧ 0 < x.cnt j) ∧ 1 ≤ x.len ∧ x.len ≤ 1048576
instance (x : MixM) : Decidable (ValidM x) := by unfold ValidM; exact inferInstance
def validF (x : MixM) : Bool := decide (ValidM x)

theorem sum_pos {f : Nat → Int} {n : Nat} (h : ∀ i, i < n → 0 ≤ f i) : 0 < sumN f n ↔ ∃ j, j < n ∧ 0 < f j := by
  induction n with
  | zero => exact ⟨fun h => absurd h (by show ¬ (0 : Int) < 0; omega), fun ⟨j, hj, _⟩ => absurd hj (by omega)⟩
  | succ n ih =>
    have ih' := ih (fun i hi => h i (by omega))
    have h1 := sumN_nonneg (f := f) (n := n) (fun i hi => h i (by omega))
    have h2 := h n (by omega)
    show 0 < sumN f n + f n ↔ _
    constructor
    · intro hs
      by_cases h3 : 0 < f n
      · exact ⟨n, by omega, h3⟩
      · obtain ⟨j, hj, hp⟩ := ih'.1 (by omega)
        exact ⟨j, by omega, hp⟩
    · rintro ⟨j, hj, hp⟩
      rcases Nat.lt_succ_iff_lt_or_eq.1 hj with h' | rfl
      · have := ih'.2 ⟨j, h', hp⟩; omega
      · omega

theorem sum_six {f : Nat → Int} {n : Nat} (h : ∀ i, i < n → 0 ≤ f i ∧ f i ≤ 6) : 0 ≤ sumN f n ∧ sumN f n ≤ (n : Int) * 6 := by
  induction n with
  | zero => exact ⟨Int.le_refl _, by simp [sumN]⟩
  | succ n ih =>
    have h1 := ih (fun i hi => h i (by omega))
    have h2 := h n (by omega)
    show 0 ≤ sumN f n + f n ∧ sumN f n + f n ≤ _
    omega

theorem valid_bad {x : MixM} {k : Nat} (hk : k < x.cn) (h : x.cnt k < 0 ∨ 6 < x.cnt k) : validF x = false := decide_eq_false fun hh => by have := hh.1 k hk; omega

set_option maxHeartbeats 1600000 in
theorem valid_any (x : MixM) (w : World) (hn : x.cn ≤ 100) (hr : Row w w.heap.size 1 x.ca x.cn (fun j _ => .int .i64 (x.cnt j))) :
    Calls Try.prog 33 #[.agg #[.slice x.ca x.cn x.cc, .int .i64 x.len]] w fun e w' => e = .returned (.bool (validF x)) ∧ Below w.heap.size w w' := by
  obtain ⟨ca, cn, cc, cnt, len⟩ := x
  simp only [] at hn hr ⊢
  go_enter Try.func33, Try.ntmps33
  go_upto_region 1 with (fail)
  have k1 := Blk.new w 39 #[.slice ca cn cc, .int .i64 len]
  have hb := below_a1 w (.cells #[.slice ca cn cc, .int .i64 len] 39)
  have HR := Lib.hid (hr.keep hb)
  obtain ⟨g, hg⟩ : ∃ g, g = w.heap.size := ⟨_, rfl⟩
  rw [← hg] at k1 HR
  rw [← hg]
  have HG := Lib.hid hg.symm
  rw [← hg] at hb
  generalize hW : w.alloc _ = W at k1 hb HR ⊢
  clear hW hg hr
  have c0 := k1.cell 0
  have c1 := k1.cell 1
  simp at c0 c1
  go_wp2_with fail
  go_loopw [3, 9] (fun s t wr => ∃ k : Nat, k ≤ cn ∧ t = .int .i64 k ∧ s = .int .i64 (sumN cnt k) ∧ Hid (∀ i, i < k → 0 ≤ cnt i ∧ cnt i ≤ 6) ∧ wr = W) (fun _ t _ => cn - (intOf t).toNat)
  case atStart => exact ⟨0, Nat.zero_le _, rfl, rfl, Lib.hid (fun i hi => absurd hi (by omega)), rfl⟩
  case round =>
    obtain ⟨k, hk, rfl, rfl, hno, rfl⟩ := hrel
    obtain ⟨s1, s2⟩ := sum_six hno.out
    by_cases hlt : k < cn
    · obtain ⟨b, o, rfl, hB⟩ := HR.out.addr (by omega)
      have f0 := HR.out.at1 hlt
      have hlt' : (k : Int) < cn := by omega
      have hk0 : (0 : Int) ≤ k := by omega
      by_cases h1 : cnt k < 0
      · have HV := Lib.hid (valid_bad (x := ⟨some ⟨b, o, none⟩, cn, cc, cnt, len⟩) hlt (.inl h1))
        go_wp2_with fail
        go_ret
        exact ⟨ret_bool HV.out.symm, by rw [HG.out]; exact hb⟩
      by_cases h2 : 6 < cnt k
      · have HV := Lib.hid (valid_bad (x := ⟨some ⟨b, o, none⟩, cn, cc, cnt, len⟩) hlt (.inr h2))
        go_wp2_with fail
        go_ret
        exact ⟨ret_bool HV.out.symm, by rw [HG.out]; exact hb⟩
      have HS := Lib.hid (show sumN cnt (k + 1) = sumN cnt k + cnt k from rfl)
      generalize sumN cnt k = s at *
      have hs6 : s ≤ 600 := by omega
      go_wp2_with fail
      go_roundw
      case rel => exact ⟨k + 1, by omega, by go_num, by rw [HS.out], Lib.hid (fun i hi => by rcases Nat.lt_succ_iff_lt_or_eq.1 hi with h' | rfl; exact hno.out i h'; omega), trivial⟩
      case measure => simp [intOf]; omega
    · obtain rfl : k = cn := by omega
      have hp := sum_pos (f := cnt) (n := k) (fun i hi => (hno.out i hi).1)
      have HV := Lib.hid (show validF ⟨ca, k, cc, cnt, len⟩ = decide (0 < sumN cnt k ∧ 1 ≤ len ∧ len ≤ 1048576) from by
        unfold validF
        congr 1
        refine propext ⟨fun h => ⟨hp.2 h.2.1, h.2.2⟩, fun h => ⟨hno.out, hp.1 h.1, h.2⟩⟩)
      generalize sumN cnt k = s at *
      clear hp
      by_cases h1 : 0 < s
      · by_cases h2 : 1 ≤ len
        · by_cases h3 : len ≤ 1048576
          · have HT := Lib.hid (HV.out.trans (decide_eq_true ⟨h1, h2, h3⟩))
            go_wp2_with fail
            go_ret
            exact ⟨ret_bool HT.out.symm, by rw [HG.out]; exact hb⟩
          · have HT := Lib.hid (HV.out.trans (decide_eq_false fun h => h3 h.2.2))
            go_wp2_with fail
            go_ret
            exact ⟨ret_bool HT.out.symm, by rw [HG.out]; exact hb⟩
        · have HT := Lib.hid (HV.out.trans (decide_eq_false fun h => h2 h.2.1))
          go_wp2_with fail
          go_ret
          exact ⟨ret_bool HT.out.symm, by rw [HG.out]; exact hb⟩
      · have HT := Lib.hid (HV.out.trans (decide_eq_false fun h => h1 h.1))
        go_wp2_with fail
        go_ret
        exact ⟨ret_bool HT.out.symm, by rw [HG.out]; exact hb⟩

end Go.Proofs.Ytkdpkaidbmjcaaa
