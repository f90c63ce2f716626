/- garmentlaw41.once; PathImproves: the walk. -/
import Derived.Test.YtpjckolfjaffjaaPthL
namespace Go.Proofs.Ytpjckolfjaffjaa
open Go.RowKit
set_option linter.unusedSimpArgs false
set_option linter.unusedVariables false

theorem order_same {l n : Nat} {ord : Nat → Int} {k j : Nat} (hk : k < n) (hj : j < k) (h : ord j = ord k) : orderF l n ord = false :=
  decide_eq_false fun ⟨_, hh⟩ => (hh k hk).2 j hj h

set_option maxHeartbeats 1600000 in
theorem once_any (A : Option Addr) (l c n : Nat) (ord : Nat → Int) (w : World) (hl : l ≤ 1000) (hn : n ≤ 1000) (hp : Row w w.heap.size 1 A l (fun i _ => .int .i64 (ord i))) :
    Calls Try.prog 19 #[.slice A l c, .int .i64 n] w fun e w' => e = .returned (.bool (orderF l n ord)) ∧ Below w.heap.size w w' := by
  have HP := Lib.hid hp
  clear hp
  by_cases hln : l = n
  rotate_left
  · have HR := Lib.hid (order_len (ord := ord) hln)
    have hb : ((l : Int) != (n : Int)) = true := bne_iff_ne.2 (by omega)
    go_enter Try.func19, Try.ntmps19
    go_wp2_with fail
    go_ret
    exact ⟨ret_bool HR.out.symm, Below.refl _ _⟩
  subst hln
  have hb : ((l : Int) != (l : Int)) = false := by simp
  go_enter Try.func19, Try.ntmps19
  go_wp2_with fail
  go_loopw [5] (fun t wr => ∃ k : Nat, k ≤ l ∧ t = .int .i64 k ∧ Hid (GoodTo l ord k) ∧ Below w.heap.size w wr) (fun t _ => l - (intOf t).toNat)
  case atStart => exact ⟨0, Nat.zero_le _, rfl, Lib.hid (fun i hi => absurd hi (by omega)), Below.refl _ _⟩
  case round =>
    obtain ⟨k, hk, rfl, hno, hwr⟩ := hrel
    by_cases hlt : k < l
    · obtain ⟨b, off, rfl, hB⟩ := HP.out.addr (by omega)
      have f0 := (hwr.cell (p := ⟨_, _, none⟩) hB).trans (HP.out.at1 hlt)
      have hlt' : (k : Int) < l := by omega
      have hk0 : (0 : Int) ≤ k := by omega
      by_cases h1 : ord k < 0
      · have HR := Lib.hid (order_bad (l := l) hlt (.inl h1))
        go_wp2_with fail
        go_ret
        exact ⟨ret_bool HR.out.symm, hwr⟩
      by_cases h2 : (l : Int) ≤ ord k
      · have HR := Lib.hid (order_bad (l := l) hlt (.inr (.inl h2)))
        go_wp2_with fail
        go_ret
        exact ⟨ret_bool HR.out.symm, hwr⟩
      go_wp2_with fail
      obtain ⟨wo, hwo⟩ : ∃ wo, wo = wr := ⟨_, rfl⟩
      rw [← hwo] at hwr
      rw [← hwo]
      clear hwo f0
      go_loopw [6] (fun t wr => ∃ j : Nat, j ≤ k ∧ t = .int .i64 j ∧ Hid (∀ a, a < j → ord a ≠ ord k) ∧ Below w.heap.size w wr) (fun t _ => k - (intOf t).toNat)
      case atStart => exact ⟨0, Nat.zero_le _, rfl, Lib.hid (fun a ha => absurd ha (by omega)), hwr⟩
      case round =>
        obtain ⟨j, hj, rfl, hnj, hwj⟩ := hrel
        by_cases hjk : j < k
        · have hjk' : (j : Int) < k := by omega
          have hjl' : (j : Int) < l := by omega
          have hj0 : (0 : Int) ≤ j := by omega
          have f1 := (hwj.cell (p := ⟨b, off + k, none⟩) hB).trans (HP.out.at1 hlt)
          have f2 := (hwj.cell (p := ⟨b, off + j, none⟩) hB).trans (HP.out.at1 (show j < l by omega))
          by_cases he : ord j = ord k
          · have HR := Lib.hid (order_same (l := l) hlt hjk he)
            have b1 : (ord j == ord k) = true := beq_iff_eq.2 he
            clear he
            go_wp2_with fail
            go_quiet (fail)
            go_wp2_with fail
            go_ret
            exact ⟨ret_bool HR.out.symm, below_drewN hwj _⟩
          · have HNE := Lib.hid he
            have b1 : (ord j == ord k) = false := beq_eq_false_iff_ne.2 he
            clear he
            go_wp2_with fail
            go_quiet (fail)
            go_wp2_with fail
            go_roundw
            case rel =>
              refine ⟨j + 1, by omega, by go_num, Lib.hid (fun a ha => ?_), below_drewN hwj _⟩
              rcases Nat.lt_succ_iff_lt_or_eq.1 ha with h' | rfl
              · exact hnj.out a h'
              · exact HNE.out
            case measure => simp [intOf]; omega
        · obtain rfl : j = k := by omega
          go_wp2_with fail
          go_roundw
          case rel =>
            refine ⟨j + 1, by omega, by go_num, Lib.hid (fun a ha => ?_), hwj⟩
            rcases Nat.lt_succ_iff_lt_or_eq.1 ha with h' | rfl
            · exact hno.out a h'
            · exact ⟨by omega, hnj.out⟩
          case measure => simp [intOf]; omega
    · obtain rfl : k = l := by omega
      have HR := Lib.hid (order_good hno.out)
      go_wp2_with fail
      go_ret
      exact ⟨ret_bool HR.out.symm, hwr⟩

set_option maxRecDepth 100000 in
set_option maxHeartbeats 3200000 in
theorem improves_any (A A2 : Option Addr) (m c l c2 : Nat) (poly : Nat → Poly) (ord : Nat → Int) (w : World) (hq : PolysIn w A m poly) (hp : Row w w.heap.size 1 A2 l (fun i _ => .int .i64 (ord i))) :
    Calls Try.prog 5 #[.slice A m c, .slice A2 l c2] w fun e w' => e = .returned (.bool true) ∧ Below w.heap.size w w' := by
  have HQ := Lib.hid hq
  have HP := Lib.hid hp
  clear hq hp
  by_cases h6 : 6 < m
  · have h6' : (6 : Int) < m := by omega
    go_enter Try.func5, Try.ntmps5
    go_wp2_with fail
    refine (light_any A m c poly _ HQ.out.1).mono ?_
    rintro e w1 ⟨hb1, rfl | ⟨rfl, hm, hs⟩⟩
    all_goals
      go_wp2_with fail
      refine (alive_any _).mono ?_
      rintro e w2 ⟨rfl, hb2⟩
      go_wp2_with fail
      go_ret
      exact ⟨rfl, below_up hb1 hb2⟩
  have h6' : ¬ (6 : Int) < m := by omega
  by_cases hl : 100 < l
  · have hl' : (100 : Int) < l := by omega
    go_enter Try.func5, Try.ntmps5
    go_wp2_with fail
    refine (light_any A m c poly _ HQ.out.1).mono ?_
    rintro e w1 ⟨hb1, rfl | ⟨rfl, hm, hs⟩⟩
    all_goals
      go_wp2_with fail
      refine (alive_any _).mono ?_
      rintro e w2 ⟨rfl, hb2⟩
      go_wp2_with fail
      go_ret
      exact ⟨rfl, below_up hb1 hb2⟩
  have hl' : ¬ (100 : Int) < l := by omega
  go_enter Try.func5, Try.ntmps5
  go_wp2_with fail
  refine (light_any A m c poly _ HQ.out.1).mono ?_
  rintro e w1 ⟨hb1, rfl | ⟨rfl, hm, hs⟩⟩
  · go_wp2_with fail
    refine (alive_any _).mono ?_
    rintro e w2 ⟨rfl, hb2⟩
    go_wp2_with fail
    go_ret
    exact ⟨rfl, below_up hb1 hb2⟩
  have HQ1 := Lib.hid ((HQ.out.light hs).later hb1)
  have HP1 := Lib.hid (HP.out.later hb1)
  clear HQ HP hs
  go_wp2_with fail
  refine (Travel_any _ _ m _ l _ poly ord _ (by omega) HQ1.out HP1.out).mono ?_
  rintro e w2 ⟨rfl, hb2⟩
  have HQ2 := Lib.hid (HQ1.out.later hb2)
  have HP2 := Lib.hid (HP1.out.later hb2)
  have bb2 := below_up hb1 hb2
  clear HQ1 HP1 hb1 hb2
  go_wp2_with fail
  refine (Improve_any _ _ m _ l _ poly ord _ (by omega) HQ2.out HP2.out).mono ?_
  intro e w3 hpost
  obtain ⟨hb3, AI, cI, rfl, rI⟩ := hpost.list
  have HQ3 := Lib.hid (HQ2.out.later hb3)
  have bb3 := below_up bb2 hb3
  clear HQ2 HP2 bb2 hb3 hpost
  by_cases hE : bothErr m poly l ord = 0
  rotate_left
  · have hne : (bothErr m poly l ord != 0) = true := bne_iff_ne.2 hE
    rw [lenF_no _ hE]
    clear hE rI
    generalize bothErr m poly l ord = y at *
    generalize travV m poly l ord = x at *
    have hyy : (y == y) = true := by simp
    have hyn : (y != y) = false := by simp
    go_wp2_with fail
    refine (alive_any _).mono ?_
    rintro e wz ⟨rfl, hbz⟩
    go_wp2_with fail
    go_ret
    exact ⟨rfl, below_up bb3 hbz⟩
  rw [lenF_ok _ hE] at rI
  rw [lenF_ok _ hE, hE, show travV m poly l ord = travelF (startF poly) ord l by unfold travV; rw [if_pos hE]]
  obtain ⟨hchk, hord⟩ := both_zero hE
  have hlm : l = m := hord.1
  subst hlm
  have hio := imp_order (s := startF poly) hord 1000
  have HO := Lib.hid (show orderF l l (impF (startF poly) l ord 1000) = true from decide_eq_true hio)
  have HIO := Lib.hid hio
  have HE2 := Lib.hid (both_ord (poly := poly) hchk (decide_eq_true hio))
  have HC := Lib.hid hchk
  have hle := imp_travel_le (startF poly) l ord 1000
  have HB := Lib.hid (fun i k hik hk => imp_best (s := startF poly) hord (by omega) (i := i) (k := k) hik hk)
  have RI := Lib.hid rI
  clear hE hchk hord rI hio
  generalize impF (startF poly) l ord 1000 = o at *
  generalize travelF (startF poly) ord l = T0 at *
  go_wp2_with fail
  refine (once_any _ l _ l o _ (by omega) (by omega) RI.out).mono ?_
  rintro e w4 ⟨rfl, hb4⟩
  rw [HO.out]
  have HQ4 := Lib.hid (HQ3.out.later hb4)
  have RI4 := Lib.hid (RI.out.later hb4)
  have bb4 := below_up bb3 hb4
  clear HQ3 RI bb3 hb4
  go_wp2_with fail
  refine (Travel_any _ _ l _ l _ poly o _ (by omega) HQ4.out RI4.out).mono ?_
  rintro e w5 ⟨rfl, hb5⟩
  rw [HE2.out, show travV l poly l o = travelF (startF poly) o l by unfold travV; rw [if_pos HE2.out]]
  have HQ5 := Lib.hid (HQ4.out.later hb5)
  have RI5 := Lib.hid (RI4.out.later hb5)
  have bb5 := below_up bb4 hb5
  clear HQ4 RI4 bb4 hb5
  generalize travelF (startF poly) o l = T at *
  have hnl : ¬ T0 < T := by omega
  go_wp2_with fail
  go_loopw [11] (fun t wr => ∃ i : Nat, i ≤ l ∧ t = .int .i64 i ∧ Below w5.heap.size w5 wr) (fun t _ => l - (intOf t).toNat)
  case atStart => exact ⟨0, Nat.zero_le _, rfl, Below.refl _ _⟩
  case round =>
    obtain ⟨i, hi, rfl, hwr⟩ := hrel
    by_cases hli : i < l
    · have hli' : (i : Int) < l := by omega
      have hi0 : (0 : Int) ≤ i := by omega
      go_wp2_with fail
      obtain ⟨wo, hwo⟩ : ∃ wo, wo = wr := ⟨_, rfl⟩
      rw [← hwo] at hwr
      rw [← hwo]
      clear hwo
      go_loopw [12] (fun t wr => ∃ k : Nat, i < k ∧ k ≤ l ∧ t = .int .i64 k ∧ Below w5.heap.size w5 wr) (fun t _ => l - (intOf t).toNat)
      case atStart => exact ⟨i + 1, by omega, by omega, by go_num, hwr⟩
      case round =>
        obtain ⟨k, hik, hk, rfl, hwk⟩ := hrel
        by_cases hlk : k < l
        · have hlk' : (k : Int) < l := by omega
          have hk0 : (0 : Int) ≤ k := by omega
          go_wp2_with fail
          refine (turned_any _ l _ i k o _ (by omega) hik hlk (RI5.out.later hwk)).mono ?_
          rintro e w6 ⟨v, rfl, hO6, hb6⟩
          obtain ⟨AT, cT, rfl, _, _, rT⟩ := hO6.form
          have hw6 := below_up hwk hb6
          have HE6 := Lib.hid (both_ord (poly := poly) HC.out (decide_eq_true (turn_order HIO.out hik hlk)))
          have RT := Lib.hid rT
          clear hO6 rT hb6
          go_wp2_with fail
          refine (Travel_any _ _ l _ l _ poly (turnF o i k) _ (by omega) (HQ5.out.later hw6) RT.out).mono ?_
          rintro e w7 ⟨rfl, hb7⟩
          rw [HE6.out, show travV l poly l (turnF o i k) = travelF (startF poly) (turnF o i k) l by unfold travV; rw [if_pos HE6.out]]
          have hw7 := below_up hw6 hb7
          have hge := HB.out i k hik hlk
          generalize travelF (startF poly) (turnF o i k) l = X at *
          have hnx : ¬ X < T := by omega
          clear hb7 hge
          go_wp2_with fail
          go_roundw
          case rel => exact ⟨k + 1, by omega, by omega, by go_num, hw7⟩
          case measure => simp [intOf]; omega
        · go_wp2_with fail
          go_roundw
          case rel => exact ⟨i + 1, by omega, by go_num, hwk⟩
          case measure => simp [intOf]; omega
    · go_wp2_with fail
      refine (alive_any _).mono ?_
      rintro e wz ⟨rfl, hbz⟩
      go_wp2_with fail
      go_ret
      exact ⟨rfl, below_up (below_up bb5 hwr) hbz⟩

end Go.Proofs.Ytpjckolfjaffjaa
