/- Light; LayplanCounts. -/
import Derived.Test.YtkdpkaidbmjcaaaLayT
namespace Go.Proofs.Ytkdpkaidbmjcaaa
open Go.RowKit
set_option linter.unusedSimpArgs false
set_option linter.unusedVariables false

def LightOut (m : Nat) (e : Ending) : Prop := ∃ b : Bool, e = .returned (.bool b) ∧ (b = true → m ≤ 20)

set_option maxHeartbeats 800000 in
theorem light_any (A : Option Addr) (m c : Nat) (mx : Nat → MixM) (w : World) (hq : Mixes w w.heap.size A m mx) :
    Calls Try.prog 10 #[.slice A m c] w fun e w' => LightOut m e ∧ Below w.heap.size w w' := by
  have HQ := Lib.hid hq
  clear hq
  go_enter Try.func10, Try.ntmps10
  go_wp2_with fail
  go_loopw [3] (fun t wr => ∃ k : Nat, k ≤ m ∧ k ≤ 20 ∧ t = .int .i64 k ∧ wr = w) (fun t _ => m - (intOf t).toNat)
  case atStart => exact ⟨0, Nat.zero_le _, by omega, rfl, rfl⟩
  case round =>
    obtain ⟨k, hk, hk20, rfl, rfl⟩ := hrel
    by_cases hlt : k < m ∧ k < 20
    · obtain ⟨h1, h2⟩ := hlt
      obtain ⟨b, o, rfl, hB⟩ := HQ.out.1.addr (by omega)
      obtain ⟨f0, _⟩ := HQ.out.at h1
      have h1' : (k : Int) < m := by omega
      have h2' : (k : Int) < 20 := by omega
      have hk0 : (0 : Int) ≤ k := by omega
      by_cases h3 : 20 < (mx k).cn
      · have h3' : (20 : Int) < (mx k).cn := by omega
        go_wp2_with fail
        go_ret
        exact ⟨⟨_, rfl, fun h => by cases h⟩, Below.refl _ _⟩
      · have h3' : ¬ (20 : Int) < (mx k).cn := by omega
        go_wp2_with fail
        go_roundw
        case rel => exact ⟨k + 1, by omega, by omega, by go_num, trivial⟩
        case measure => simp [intOf]; omega
    · by_cases h1 : k < m
      · have h1' : (k : Int) < m := by omega
        have h2' : ¬ (k : Int) < 20 := by omega
        have hm : ¬ (m : Int) ≤ 20 := by omega
        have hd : decide ((m : Int) ≤ 20) = false := decide_eq_false hm
        go_wp2_with fail
        go_ret
        exact ⟨⟨false, rfl, fun h => by cases h⟩, Below.refl _ _⟩
      · have h1' : ¬ (k : Int) < m := by omega
        have hm : (m : Int) ≤ 20 := by omega
        go_wp2_with fail
        go_ret
        exact ⟨⟨_, rfl, fun _ => by omega⟩, Below.refl _ _⟩

theorem sizesP_le (n : Nat) (f : Nat → Int) (m : Nat) (mx : Nat → MixM) : sizesP n f m mx ≤ 12 := by
  unfold sizesP
  split
  · rename_i h
    exact (good_of (plan_ok h).1).s12
  · omega

theorem same_self (n : Nat) (f : Nat → Int) : sameListF n n (fun i => decide (f i = f i)) = true := sameList_true (fun i _ => decide_eq_true rfl)

set_option maxRecDepth 100000 in
set_option maxHeartbeats 3200000 in
theorem counts_any (A2 A : Option Addr) (n c2 m c : Nat) (f : Nat → Int) (mx : Nat → MixM) (w : World) (hp : Ints w A2 n f) (hq : Mixes w w.heap.size A m mx) :
    Calls Try.prog 5 #[.slice A2 n c2, .slice A m c] w fun e w' => e = .returned (.bool true) ∧ Below w.heap.size w w' := by
  have HQ := Lib.hid hq
  have HP := Lib.hid hp
  clear hq hp
  go_enter Try.func5, Try.ntmps5
  go_wp2_with fail
  refine (light_any A m c mx w HQ.out).mono ?_
  rintro e w1 ⟨⟨b, rfl, -⟩, b1⟩
  by_cases hsk : b = false ∨ 30 < n
  · have HSK := Lib.hid hsk
    cases b
    · go_wp2_with fail
      refine (alive_any w1).mono ?_
      rintro e w2 ⟨rfl, hb2⟩
      have b2 := below_up b1 hb2
      go_wp2_with fail
      go_ret
      exact ⟨rfl, b2⟩
    · have hn : (30 : Int) < n := by have := HSK.out.resolve_left (by decide); omega
      go_wp2_with fail
      refine (alive_any w1).mono ?_
      rintro e w2 ⟨rfl, hb2⟩
      have b2 := below_up b1 hb2
      go_wp2_with fail
      go_ret
      exact ⟨rfl, b2⟩
  have hb : b = true := by cases b with | true => rfl | false => exact absurd (.inl rfl) hsk
  have hn : ¬ (30 : Int) < n := by omega
  subst hb
  clear hsk
  go_wp2_with fail
  refine (Produced_any A A2 n c2 m c f mx w1 (HP.out.later b1) (HQ.out.later b1)).mono ?_
  rintro e w2 ⟨v2, rfl, hO2, hb2⟩
  obtain ⟨A3, c3, rfl, -, -, r2⟩ := hO2.form
  have R2 := Lib.hid r2
  have b2 := below_up b1 hb2
  clear hO2 r2 b1 hb2
  go_wp2_with fail
  refine (rProduced_any A A2 n c2 m c f mx w2 (HP.out.later b2) (HQ.out.later b2)).mono ?_
  rintro e w3 ⟨v3, rfl, hO3, hb3⟩
  obtain ⟨A4, c4, rfl, -, -, r3⟩ := hO3.form
  have R3 := Lib.hid r3
  have R23 := Lib.hid (R2.out.later hb3)
  have b3 := below_up b2 hb3
  clear hO3 r3 b2 hb3 R2
  go_wp2_with fail
  refine (Cost_any A A2 n c2 m c f mx w3 (HP.out.later b3) (HQ.out.later b3)).mono ?_
  rintro e w4 ⟨rfl, hb4⟩
  have R34 := Lib.hid (R3.out.later hb4)
  have R24 := Lib.hid (R23.out.later hb4)
  have b4 := below_up b3 hb4
  clear b3 hb4 R23 R3
  go_wp2_with fail
  refine (rCost_any A A2 n c2 m c f mx w4 (HP.out.later b4) (HQ.out.later b4)).mono ?_
  rintro e w5 ⟨rfl, hb5⟩
  have R35 := Lib.hid (R34.out.later hb5)
  have R25 := Lib.hid (R24.out.later hb5)
  have b5 := below_up b4 hb5
  clear b4 hb5 R24 R34
  have hs12 := sizesP_le n f m mx
  go_wp2_with fail
  refine (same_any A3 A4 _ _ _ _ (fun s => madeF (cntM mx) f s m) (fun s => madeF (cntM mx) f s m) w5 (by omega) (by omega) R25.out R35.out).mono ?_
  rintro e w6 ⟨rfl, hb6⟩
  rw [same_self]
  have b6 := below_up b5 hb6
  clear b5 hb6 R25 R35
  go_wp2_with fail
  refine (alive_any w6).mono ?_
  rintro e w7 ⟨rfl, hb7⟩
  have b7 := below_up b6 hb7
  go_wp2_with fail
  go_ret
  exact ⟨rfl, b7⟩

end Go.Proofs.Ytkdpkaidbmjcaaa
