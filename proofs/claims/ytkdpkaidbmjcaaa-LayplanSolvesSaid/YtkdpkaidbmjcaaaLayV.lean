/- Few; LayplanBack. -/
import Derived.Test.YtkdpkaidbmjcaaaLayU
namespace Go.Proofs.Ytkdpkaidbmjcaaa
open Go.RowKit
set_option linter.unusedSimpArgs false
set_option linter.unusedVariables false

def BoolOut (e : Ending) : Prop := ∃ b : Bool, e = .returned (.bool b)
def FewAt (a : Value) : Prop := ∃ x : Int, a = .int .i64 x ∧ 0 ≤ x ∧ x ≤ 20000000

set_option maxHeartbeats 1600000 in
theorem few_any (A : Option Addr) (m c : Nat) (most : Int) (w : World) (hm : m ≤ 20) :
    Calls Try.prog 11 #[.slice A m c, .int .i64 most] w fun e w' => BoolOut e ∧ Below w.heap.size w w' := by
  go_enter Try.func11, Try.ntmps11
  go_wp2_with fail
  go_loopw [5, 6] (fun a t wr => ∃ k : Nat, k ≤ m ∧ t = .int .i64 k ∧ FewAt a ∧ wr = w) (fun _ t _ => m - (intOf t).toNat)
  case atStart => exact ⟨0, Nat.zero_le _, rfl, ⟨1, rfl, by omega, by omega⟩, rfl⟩
  case round =>
    obtain ⟨k, hk, rfl, ⟨x, rfl, h0, h1⟩, rfl⟩ := hrel
    by_cases hlt : k < m
    · have hlt' : (k : Int) < m := by omega
      by_cases h3 : x ≤ 3000
      · have q0 : 0 ≤ min (max most 0) 4000 + 1 := by omega
        have q1 : min (max most 0) 4000 + 1 ≤ 4001 := by omega
        obtain ⟨v1, v2⟩ := mul_bd h0 h3 q0 q1
        have wz0 : IntKind.i64.wrap (min (max most 0) 4000 + 1) = min (max most 0) 4000 + 1 := wrap_in (by omega) (by omega)
        have wz1 : IntKind.i64.wrap (x * (min (max most 0) 4000 + 1)) = x * (min (max most 0) 4000 + 1) := wrap_in (by omega) (by omega)
        have HV := Lib.hid (And.intro v1 v2)
        clear v1 v2 q0 q1 h1
        go_wp2_with fail
        go_roundw
        case rel => exact ⟨k + 1, by omega, by go_num, ⟨_, rfl, HV.out.1, by have := HV.out.2; omega⟩, trivial⟩
        case measure => simp [intOf]; omega
      · have hd : decide (x ≤ 3000) = false := decide_eq_false h3
        go_wp2_with fail
        go_ret
        exact ⟨⟨_, rfl⟩, Below.refl _ _⟩
    · have hlt' : ¬ (k : Int) < m := by omega
      go_wp2_with fail
      go_ret
      exact ⟨⟨_, rfl⟩, Below.refl _ _⟩

/-- What the best plan for exactly what f produces is. -/
theorem back_law {m : Nat} {mx : Nat → MixM} {f : Nat → Int} {most x : Int} {r : Plan} (hg : mixErr m mx = 0) (hf : ∀ i, i < m → 0 ≤ f i ∧ f i ≤ most) (h0 : 0 ≤ most) (h1 : most ≤ 40)
    (ho : ∀ s, s < sizesF m mx → madeF (cntM mx) f s m ≤ 1000) (h : SolveOut (sizesF m mx) (fun s => madeF (cntM mx) f s m) m mx 0 most x r) :
    x = 0 ∧ planErr m r m mx = 0 ∧ costF (lenM mx) r m ≤ costF (lenM mx) f m ∧ ∀ s, s < sizesF m mx → madeF (cntM mx) r s m = madeF (cntM mx) f s m := by
  have hgm := good_of hg
  have hmb : ∀ s, s < sizesF m mx → 0 ≤ madeF (cntM mx) f s m := fun s hs => (made_bd hgm (fun i hi => ⟨(hf i hi).1, by have := (hf i hi).2; omega⟩) hs m (Nat.le_refl _) (Nat.le_refl _)).1
  have hask : askErr (sizesF m mx) (fun s => madeF (cntM mx) f s m) m mx 0 most = 0 := ask_ok hg rfl (fun ⟨s, hs, hh⟩ => by have a := hmb s hs; have b := ho s hs; dsimp only at hh; omega) (fun hh => by unfold LimBad at hh; omega)
  have hfe : FeasP m (sizesF m mx) (cntM mx) (fun s => madeF (cntM mx) f s m) 0 most f := ⟨hf, fun s hs => ⟨Int.le_refl _, by dsimp only; omega⟩⟩
  rcases h with ⟨h1, h2, _⟩ | ⟨_, _, h3⟩ | ⟨_, h2, h3⟩
  · rw [hask] at h1; exact absurd h1 h2
  · exact absurd trivial (h3 f hfe)
  · refine ⟨h2, planErr_ok hg rfl (fun ⟨i, hi, hh⟩ => by have := h3.1.1 i hi; omega), ?_, fun s hs => ?_⟩
    · have := h3.2.2 f hfe trivial
      dsimp only at this
      omega
    · have := h3.1.2 s hs
      dsimp only at this
      omega

set_option maxRecDepth 100000 in
set_option maxHeartbeats 6400000 in
theorem back_any (A2 A : Option Addr) (n c2 m c : Nat) (f : Nat → Int) (mx : Nat → MixM) (most : Int) (w : World) (hp : Ints w A2 n f) (hq : Mixes w w.heap.size A m mx) :
    Calls Try.prog 3 #[.slice A2 n c2, .slice A m c, .int .i64 most] w fun e w' => e = .returned (.bool true) ∧ Below w.heap.size w w' := by
  have HQ := Lib.hid hq
  have HP := Lib.hid hp
  clear hq hp
  go_enter Try.func3, Try.ntmps3
  go_wp2_with fail
  refine (light_any A m c mx w HQ.out).mono ?_
  rintro e w1 ⟨⟨b, rfl, hb20⟩, b1⟩
  by_cases hsk : b = false ∨ 30 < n ∨ most < 0 ∨ 40 < most
  · have HSK := Lib.hid hsk
    cases b
    · go_wp2_with fail
      refine (alive_any w1).mono ?_
      rintro e w2 ⟨rfl, hb2⟩
      have b2 := below_up b1 hb2
      go_wp2_with fail
      go_ret
      exact ⟨rfl, b2⟩
    · by_cases hn : (30 : Int) < n
      · go_wp2_with fail
        refine (alive_any w1).mono ?_
        rintro e w2 ⟨rfl, hb2⟩
        have b2 := below_up b1 hb2
        go_wp2_with fail
        go_ret
        exact ⟨rfl, b2⟩
      · by_cases h0 : most < 0
        · go_wp2_with fail
          refine (alive_any w1).mono ?_
          rintro e w2 ⟨rfl, hb2⟩
          have b2 := below_up b1 hb2
          go_wp2_with fail
          go_ret
          exact ⟨rfl, b2⟩
        · have h1 : 40 < most := by have := HSK.out.resolve_left (by decide); omega
          go_wp2_with fail
          refine (alive_any w1).mono ?_
          rintro e w2 ⟨rfl, hb2⟩
          have b2 := below_up b1 hb2
          go_wp2_with fail
          go_ret
          exact ⟨rfl, b2⟩
  have hb : b = true := by cases b with | true => rfl | false => exact absurd (.inl rfl) hsk
  have hn : ¬ (30 : Int) < n := by omega
  have h0 : ¬ most < 0 := by omega
  have h1 : ¬ 40 < most := by omega
  subst hb
  have hm20 := hb20 rfl
  clear hsk hb20
  go_wp2_with fail
  refine (few_any A m c most w1 hm20).mono ?_
  rintro e w2 ⟨⟨b, rfl⟩, hb2⟩
  have b2 := below_up b1 hb2
  clear b1 hb2
  cases b
  · go_wp2_with fail
    refine (alive_any w2).mono ?_
    rintro e w3 ⟨rfl, hb3⟩
    have b3 := below_up b2 hb3
    go_wp2_with fail
    go_ret
    exact ⟨rfl, b3⟩
  go_wp2_with fail
  refine (Produced_any A A2 n c2 m c f mx w2 (HP.out.later b2) (HQ.out.later b2)).mono ?_
  rintro e w3 ⟨v3, rfl, hO3, hb3⟩
  obtain ⟨A3, c3, rfl, -, -, r3⟩ := hO3.form
  have R3 := Lib.hid r3
  have b3 := below_up b2 hb3
  have hs12 := sizesP_le n f m mx
  have HS0 := Lib.hid (fun (h : ¬ planErr n f m mx = 0) => show sizesP n f m mx = 0 by unfold sizesP; rw [if_neg h])
  have HS1 := Lib.hid (fun (h : planErr n f m mx = 0) => show sizesP n f m mx = sizesF m mx by unfold sizesP; rw [if_pos h])
  clear hO3 r3 b2 hb3
  generalize sizesP n f m mx = S at *
  go_wp2_with fail
  go_loopw [9] (fun t wr => ∃ k : Nat, k ≤ n ∧ t = .int .i64 k ∧ Hid (∀ i, i < k → f i ≤ most) ∧ wr = w3) (fun t _ => n - (intOf t).toNat)
  case atStart => exact ⟨0, Nat.zero_le _, rfl, Lib.hid (fun i hi => absurd hi (by omega)), rfl⟩
  case round =>
    obtain ⟨k, hk, rfl, hno, rfl⟩ := hrel
    by_cases hlt : k < n
    · obtain ⟨bb, o, rfl, hB⟩ := HP.out.addr (by omega)
      have f0 := (b3.cell (p := ⟨_, _, none⟩) hB).trans (HP.out.at1 hlt)
      have hlt' : (k : Int) < n := by omega
      have hk0 : (0 : Int) ≤ k := by omega
      by_cases h2 : most < f k
      · go_wp2_with fail
        refine (alive_any wr).mono ?_
        rintro e w4 ⟨rfl, hb4⟩
        have b4 := below_up b3 hb4
        clear f0
        go_wp2_with fail
        go_ret
        exact ⟨rfl, b4⟩
      · go_wp2_with fail
        go_roundw
        case rel => exact ⟨k + 1, by omega, by go_num, Lib.hid (fun i hi => by rcases Nat.lt_succ_iff_lt_or_eq.1 hi with h' | rfl; exact hno.out i h'; omega), trivial⟩
        case measure => simp [intOf]; omega
    · obtain rfl : k = n := by omega
      have hlt' : ¬ (k : Int) < k := by omega
      by_cases he : planErr k f m mx = 0
      rotate_left
      · have hne : (planErr k f m mx != 0) = true := bne_iff_ne.2 he
        obtain rfl := HS0.out he
        clear he
        go_wp2_with fail
        refine (alive_any wr).mono ?_
        rintro e w4 ⟨rfl, hb4⟩
        have b4 := below_up b3 hb4
        go_wp2_with fail
        go_ret
        exact ⟨rfl, b4⟩
      obtain ⟨hmx, hkm, hfb⟩ := plan_ok he
      have HME := Lib.hid hmx
      have HFB := Lib.hid hfb
      have HSS := Lib.hid (HS1.out he)
      have HPE := Lib.hid he
      have HKM := Lib.hid hkm
      rw [he]
      clear he hmx hkm hfb
      go_wp2_with fail
      go_loopw [10] (fun t wx => ∃ s : Nat, s ≤ S ∧ t = .int .i64 s ∧ Hid (∀ i, i < s → madeF (cntM mx) f i m ≤ 1000) ∧ wx = wr) (fun t _ => S - (intOf t).toNat)
      case atStart => exact ⟨0, Nat.zero_le _, rfl, Lib.hid (fun i hi => absurd hi (by omega)), rfl⟩
      case round =>
        obtain ⟨s, hs, rfl, hmo, rfl⟩ := hrel
        by_cases hls : s < S
        · obtain ⟨bb, o, rfl, hB⟩ := R3.out.addr (by omega)
          have f0 := R3.out.at1 hls
          have hls' : (s : Int) < S := by omega
          have hs0 : (0 : Int) ≤ s := by omega
          by_cases h2 : 1000 < madeF (cntM mx) f s m
          · generalize madeF (cntM mx) f s m = T at *
            go_wp2_with fail
            refine (alive_any _).mono ?_
            rintro e w4 ⟨rfl, hb4⟩
            have b4 := below_up b3 hb4
            clear f0
            go_wp2_with fail
            go_ret
            exact ⟨rfl, b4⟩
          · have HMO := Lib.hid (show ∀ i, i < s + 1 → madeF (cntM mx) f i m ≤ 1000 from fun i hi => by rcases Nat.lt_succ_iff_lt_or_eq.1 hi with h' | rfl; exact hmo.out i h'; omega)
            generalize madeF (cntM mx) f s m = T at f0 h2
            go_wp2_with fail
            go_roundw
            case rel => exact ⟨s + 1, by omega, by go_num, Lib.hid HMO.out, trivial⟩
            case measure => simp [intOf]; omega
        · have hsS : s = S := by omega
          have hls' : ¬ (s : Int) < S := by omega
          have HMO := Lib.hid (show ∀ i, i < sizesF m mx → madeF (cntM mx) f i m ≤ 1000 from fun i hi => hmo.out i (by rw [hsS, HSS.out]; exact hi))
          clear hsS
          go_wp2_with fail
          refine (Solve_any A A3 S c3 m c mx (fun s => madeF (cntM mx) f s m) 0 most _ R3.out (HQ.out.later b3) (by omega)).mono ?_
          rintro e w4 ⟨v4, x4, r4, rfl, hS4, hO4, hb4⟩
          rw [HSS.out] at hS4
          obtain ⟨rfl, g1, g2, g3⟩ := back_law HME.out (fun i hi => ⟨(HFB.out i (by rw [HKM.out]; exact hi)).1, hno.out i (by rw [HKM.out]; exact hi)⟩) (by omega) (by omega) HMO.out hS4
          rw [if_pos rfl] at hO4
          obtain ⟨A4, c4, rfl, -, -, r4'⟩ := hO4.form
          have HG1 := Lib.hid g1
          have HG2 := Lib.hid g2
          have HG3 := Lib.hid g3
          have R4 := Lib.hid r4'
          have R34 := Lib.hid (R3.out.later hb4)
          have b4 := below_up b3 hb4
          clear hS4 hO4 r4' g1 g2 g3 hb4
          go_wp2_with fail
          refine (Cost_any A A4 m c4 m c r4 mx w4 R4.out (HQ.out.later b4)).mono ?_
          rintro e w5 ⟨rfl, hb5⟩
          rw [HG1.out, show costP m r4 m mx = costF (lenM mx) r4 m by unfold costP; rw [if_pos HG1.out]]
          have R45 := Lib.hid (R4.out.later hb5)
          have R35 := Lib.hid (R34.out.later hb5)
          have b5 := below_up b4 hb5
          clear b4 hb5 R4 R34
          go_wp2_with fail
          refine (Cost_any A A2 k c2 m c f mx w5 (HP.out.later b5) (HQ.out.later b5)).mono ?_
          rintro e w6 ⟨rfl, hb6⟩
          rw [HPE.out, show costP k f m mx = costF (lenM mx) f m by unfold costP; rw [if_pos HPE.out]]
          have R46 := Lib.hid (R45.out.later hb6)
          have R36 := Lib.hid (R35.out.later hb6)
          have b6 := below_up b5 hb6
          clear b5 hb6 R45 R35
          go_wp2_with fail
          refine (Produced_any A A4 m c4 m c r4 mx w6 R46.out (HQ.out.later b6)).mono ?_
          rintro e w7 ⟨v7, rfl, hO7, hb7⟩
          rw [HG1.out]
          rw [show sizesP m r4 m mx = S by unfold sizesP; rw [if_pos HG1.out, HSS.out]] at hO7
          obtain ⟨A7, c7, rfl, -, -, r7⟩ := hO7.form
          have R7 := Lib.hid r7
          have R37 := Lib.hid (R36.out.later hb7)
          have b7 := below_up b6 hb7
          have hle := HG2.out
          clear hO7 r7 b6 hb7 R46 R36
          generalize costF (lenM mx) r4 m = C1 at hle ⊢
          generalize costF (lenM mx) f m = C2 at hle ⊢
          go_wp2_with fail
          refine (same_any A7 A3 S S _ _ (fun s => madeF (cntM mx) r4 s m) (fun s => madeF (cntM mx) f s m) w7 (by omega) (by omega) R7.out R37.out).mono ?_
          rintro e w8 ⟨rfl, hb8⟩
          rw [show sameListF S S (fun i => decide (madeF (cntM mx) r4 i m = madeF (cntM mx) f i m)) = true from sameList_true (fun i hi => decide_eq_true (HG3.out i (by rw [← HSS.out]; exact hi)))]
          have b8 := below_up b7 hb8
          clear b7 hb8 R7 R37
          go_wp2_with fail
          refine (alive_any w8).mono ?_
          rintro e w9 ⟨rfl, hb9⟩
          have b9 := below_up b8 hb9
          go_wp2_with fail
          go_ret
          exact ⟨rfl, b9⟩

end Go.Proofs.Ytkdpkaidbmjcaaa
