/- The reference's Few. -/
import Derived.Test.YtmjfalabjlbdeaaRecE
import Derived.Test.YtmjfalabjlbdeaaRecD
namespace Go.Proofs.Ytmjfalabjlbdeaa
open Go.RowKit
set_option linter.unusedSimpArgs false
set_option linter.unusedVariables false

/-- Few answers; if it says yes, the lists are short. -/
def FewPost (w : World) (n m : Nat) (cut : Nat → Cut) (poly : Nat → Poly) (e : Ending) (w' : World) : Prop :=
  Below w.heap.size w w' ∧ (e = .returned (.bool false) ∨ (e = .returned (.bool true) ∧ n ≤ 60 ∧ m ≤ 10 ∧ (∀ i, i < n → (cut i).rn ≤ 5) ∧ ∀ i, i < m → (poly i).pn ≤ 12))

set_option maxRecDepth 100000 in
set_option maxHeartbeats 1600000 in
theorem few_any (A A2 : Option Addr) (n c m c2 : Nat) (cut : Nat → Cut) (poly : Nat → Poly) (w : World)
    (hp : Row w w.heap.size 6 A n (fun i => (cut i).c)) (hq : Row w w.heap.size 1 A2 m (fun i _ => .slice (poly i).pa (poly i).pn (poly i).pc)) :
    Calls Try.prog 11 #[.slice A n c, .slice A2 m c2] w (FewPost w n m cut poly) := by
  by_cases hn : 60 < n
  · have hn' : (60 : Int) < n := by omega
    go_enter Try.func11, Try.ntmps11
    go_wp2_with fail
    go_ret
    exact ⟨Below.refl _ _, .inl rfl⟩
  have hn' : ¬ (60 : Int) < n := by omega
  by_cases hm : 10 < m
  · have hm' : (10 : Int) < m := by omega
    go_enter Try.func11, Try.ntmps11
    go_wp2_with fail
    go_ret
    exact ⟨Below.refl _ _, .inl rfl⟩
  have hm' : ¬ (10 : Int) < m := by omega
  have HP := Lib.hid hp
  have HQ := Lib.hid hq
  clear hp hq
  go_enter Try.func11, Try.ntmps11
  go_wp2_with fail
  go_loopw [5] (fun t wr => ∃ k : Nat, k ≤ n ∧ t = .int .i64 k ∧ Hid (∀ i, i < k → (cut i).rn ≤ 5) ∧ Below w.heap.size w wr) (fun t _ => n - (intOf t).toNat)
  case atStart => exact ⟨0, Nat.zero_le _, rfl, Lib.hid (fun i hi => absurd hi (by omega)), Below.refl _ _⟩
  case round =>
    obtain ⟨k, hk, rfl, hno, hwr⟩ := hrel
    by_cases hlt : k < n
    · obtain ⟨b, off, rfl, hB⟩ := HP.out.addr (by omega)
      obtain ⟨e0, e1, e2, e3, e4, e5⟩ := HP.out.at6 hlt
      simp only [Cut.c] at e0 e1 e2 e3 e4 e5
      have f4 := (hwr.cell (p := ⟨_, _, none⟩) hB).trans e4
      clear e0 e1 e2 e3 e4 e5
      have hlt' : (k : Int) < n := by omega
      have hk0 : (0 : Int) ≤ k := by omega
      by_cases hr : 5 < (cut k).rn
      · have hr' : (5 : Int) < (cut k).rn := by omega
        go_wp2_with fail
        go_ret
        exact ⟨hwr, .inl rfl⟩
      · have hr' : ¬ (5 : Int) < (cut k).rn := by omega
        go_wp2_with fail
        go_roundw
        case rel => exact ⟨k + 1, by omega, by go_num, Lib.hid (fun i hi => by rcases Nat.lt_succ_iff_lt_or_eq.1 hi with h' | rfl; exact hno.out i h'; omega), hwr⟩
        case measure => simp [intOf]; omega
    · obtain rfl : k = n := by omega
      go_wp2_with fail
      generalize wr = V at *
      go_loopw [6] (fun t wr => ∃ j : Nat, j ≤ m ∧ t = .int .i64 j ∧ Hid (∀ i, i < j → (poly i).pn ≤ 12) ∧ Below w.heap.size w wr) (fun t _ => m - (intOf t).toNat)
      case atStart => exact ⟨0, Nat.zero_le _, rfl, Lib.hid (fun i hi => absurd hi (by omega)), hwr⟩
      case round =>
        obtain ⟨j, hj, rfl, hyes, hwq⟩ := hrel
        by_cases hlt : j < m
        · obtain ⟨b, off, rfl, hB⟩ := HQ.out.addr (by omega)
          have e0 := HQ.out.at1 hlt
          have f0 := (hwq.cell (p := ⟨_, _, none⟩) hB).trans e0
          clear e0
          have hlt' : (j : Int) < m := by omega
          have hk0 : (0 : Int) ≤ j := by omega
          by_cases hr : 12 < (poly j).pn
          · have hr' : (12 : Int) < (poly j).pn := by omega
            go_wp2_with fail
            go_ret
            exact ⟨hwq, .inl rfl⟩
          · have hr' : ¬ (12 : Int) < (poly j).pn := by omega
            go_wp2_with fail
            go_roundw
            case rel => exact ⟨j + 1, by omega, by go_num, Lib.hid (fun i hi => by rcases Nat.lt_succ_iff_lt_or_eq.1 hi with h' | rfl; exact hyes.out i h'; omega), hwq⟩
            case measure => simp [intOf]; omega
        · obtain rfl : j = m := by omega
          go_wp2_with fail
          go_ret
          exact ⟨hwq, .inr ⟨rfl, by omega, by omega, hno.out, hyes.out⟩⟩

end Go.Proofs.Ytmjfalabjlbdeaa
