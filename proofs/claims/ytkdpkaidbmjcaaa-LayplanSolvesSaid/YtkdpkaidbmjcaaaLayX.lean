/- LayplanTurned. -/
import Derived.Test.YtkdpkaidbmjcaaaLayW
namespace Go.Proofs.Ytkdpkaidbmjcaaa
open Go.RowKit
set_option linter.unusedSimpArgs false
set_option linter.unusedVariables false

/-- The mixes, turned. -/
def turnM (m : Nat) (mx : Nat → MixM) : Nat → MixM := fun i => mx (m - 1 - i)
def turnP (m : Nat) (q : Plan) : Plan := fun i => q (m - 1 - i)

theorem sumN_head (g : Nat → Int) : ∀ n, sumN g (n + 1) = g 0 + sumN (fun i => g (i + 1)) n
  | 0 => by show (0 : Int) + g 0 = g 0 + 0; omega
  | n + 1 => by
    show sumN g (n + 1) + g (n + 1) = g 0 + (sumN (fun i => g (i + 1)) n + g (n + 1))
    rw [sumN_head g n]
    omega

theorem sumN_rev (g : Nat → Int) : ∀ n, sumN (fun i => g (n - 1 - i)) n = sumN g n
  | 0 => rfl
  | n + 1 => by
    rw [sumN_head]
    show g (n + 1 - 1 - 0) + sumN (fun i => g (n + 1 - 1 - (i + 1))) n = sumN g n + g n
    have e : sumN (fun i => g (n + 1 - 1 - (i + 1))) n = sumN (fun i => g (n - 1 - i)) n := sumN_congr fun i hi => by rw [show n + 1 - 1 - (i + 1) = n - 1 - i by omega]
    rw [e, sumN_rev g n, show n + 1 - 1 - 0 = n by omega]
    omega

section
variable {n m : Nat} {ord : Nat → Int} {mx : Nat → MixM} {over most x x' : Int} {r r' : Plan}

theorem made_turn1 (q : Plan) (s : Nat) : madeF (cntM mx) (turnP m q) s m = madeF (cntM (turnM m mx)) q s m := by
  unfold madeF
  rw [← sumN_rev (fun i => q i * cntM (turnM m mx) i s) m]
  refine sumN_congr fun i hi => ?_
  show q (m - 1 - i) * (mx i).cnt s = q (m - 1 - i) * (mx (m - 1 - (m - 1 - i))).cnt s
  rw [show m - 1 - (m - 1 - i) = i by omega]
theorem made_turn2 (q : Plan) (s : Nat) : madeF (cntM (turnM m mx)) (turnP m q) s m = madeF (cntM mx) q s m := by
  unfold madeF
  rw [← sumN_rev (fun i => q i * cntM mx i s) m]
  rfl
theorem cost_turn1 (q : Plan) : costF (lenM mx) (turnP m q) m = costF (lenM (turnM m mx)) q m := by
  unfold costF
  rw [← sumN_rev (fun i => q i * lenM (turnM m mx) i) m]
  refine sumN_congr fun i hi => ?_
  show q (m - 1 - i) * (mx i).len = q (m - 1 - i) * (mx (m - 1 - (m - 1 - i))).len
  rw [show m - 1 - (m - 1 - i) = i by omega]
theorem cost_turn2 (q : Plan) : costF (lenM (turnM m mx)) (turnP m q) m = costF (lenM mx) q m := by
  unfold costF
  rw [← sumN_rev (fun i => q i * lenM mx i) m]
  rfl

theorem feas_turn1 (h : FeasP m n (cntM (turnM m mx)) ord over most r) : FeasP m n (cntM mx) ord over most (turnP m r) :=
  ⟨fun i hi => h.1 (m - 1 - i) (by omega), fun s hs => by rw [made_turn1]; exact h.2 s hs⟩
theorem feas_turn2 (h : FeasP m n (cntM mx) ord over most r) : FeasP m n (cntM (turnM m mx)) ord over most (turnP m r) :=
  ⟨fun i hi => h.1 (m - 1 - i) (by omega), fun s hs => by rw [made_turn2]; exact h.2 s hs⟩

theorem long_turn : TooLongM m (turnM m mx) ↔ TooLongM m mx := by
  unfold TooLongM turnM
  constructor
  · rintro (h | ⟨i, hi, h⟩)
    · exact .inl h
    · exact .inr ⟨m - 1 - i, by omega, h⟩
  · rintro (h | ⟨i, hi, h⟩)
    · exact .inl h
    · exact .inr ⟨m - 1 - i, by omega, by rw [show m - 1 - (m - 1 - i) = i by omega]; exact h⟩

theorem bad_iff : BadM m mx ↔ ∃ i j, i < m ∧ j < m ∧ ((mx i).cn ≠ (mx j).cn ∨ validF (mx i) = false) := by
  constructor
  · rintro ⟨i, hi, h⟩
    exact ⟨i, 0, hi, by omega, h⟩
  · rintro ⟨i, j, hi, hj, h⟩
    rcases h with h | h
    · by_cases h1 : (mx i).cn = (mx 0).cn
      · exact ⟨j, hj, .inl (fun e => h (h1.trans e.symm))⟩
      · exact ⟨i, hi, .inl h1⟩
    · exact ⟨i, hi, .inr h⟩

theorem bad_turn : BadM m (turnM m mx) ↔ BadM m mx := by
  rw [bad_iff, bad_iff]
  unfold turnM
  constructor
  · rintro ⟨i, j, hi, hj, h⟩
    exact ⟨m - 1 - i, m - 1 - j, by omega, by omega, h⟩
  · rintro ⟨i, j, hi, hj, h⟩
    exact ⟨m - 1 - i, m - 1 - j, by omega, by omega, by rw [show m - 1 - (m - 1 - i) = i by omega, show m - 1 - (m - 1 - j) = j by omega]; exact h⟩

theorem mixErr_turn : mixErr m (turnM m mx) = mixErr m mx := by
  unfold mixErr
  by_cases h1 : TooLongM m mx
  · rw [if_pos h1, if_pos (long_turn.2 h1)]
  · rw [if_neg h1, if_neg (fun h => h1 (long_turn.1 h))]
    by_cases h2 : BadM m mx
    · rw [if_pos h2, if_pos (bad_turn.2 h2)]
    · rw [if_neg h2, if_neg (fun h => h2 (bad_turn.1 h))]

theorem ask_turn : askErr n ord m (turnM m mx) over most = askErr n ord m mx over most := by
  unfold askErr
  rw [mixErr_turn]
  by_cases h : mixErr m mx ≠ 0
  · rw [if_pos h, if_pos h]
  · rw [if_neg h, if_neg h]
    have e : sizesF m (turnM m mx) = sizesF m mx := by
      unfold sizesF
      by_cases h0 : m = 0
      · rw [if_pos h0, if_pos h0]
      · rw [if_neg h0, if_neg h0]
        have hg := good_of (Decidable.not_not.1 h)
        show (mx (m - 1 - 0)).cn = (mx 0).cn
        rw [hg.cn (m - 1 - 0) (by omega), hg.cn 0 (by omega)]
    rw [e]

theorem turned_law (h : SolveOut n ord m mx over most x r) (h' : SolveOut n ord m (turnM m mx) over most x' r') : x = x' ∧ (x = 0 → costF (lenM mx) r m = costF (lenM (turnM m mx)) r' m) := by
  unfold SolveOut at h'
  rw [ask_turn] at h'
  rcases h with ⟨a1, a2, _⟩ | ⟨a1, a2, a3⟩ | ⟨a1, a2, a3⟩
  · rcases h' with ⟨b1, _, _⟩ | ⟨b1, _, _⟩ | ⟨b1, _, _⟩
    · exact ⟨a1.trans b1.symm, fun e => absurd e a2⟩
    · rw [b1] at a1; exact absurd a1 a2
    · rw [b1] at a1; exact absurd a1 a2
  · rcases h' with ⟨b1, b2, _⟩ | ⟨b1, b2, _⟩ | ⟨b1, b2, b3⟩
    · rw [a1] at b1; exact absurd b1 b2
    · exact ⟨a2.trans b2.symm, fun e => by rw [a2] at e; exact absurd e (by decide)⟩
    · exact absurd trivial (a3 _ (feas_turn1 b3.1))
  · rcases h' with ⟨b1, b2, _⟩ | ⟨b1, b2, b3⟩ | ⟨b1, b2, b3⟩
    · rw [a1] at b1; exact absurd b1 b2
    · exact absurd trivial (b3 _ (feas_turn2 a3.1))
    · refine ⟨a2.trans b2.symm, fun _ => ?_⟩
      have g1 := a3.2.2 _ (feas_turn1 b3.1) trivial
      have g2 := b3.2.2 _ (feas_turn2 a3.1) trivial
      dsimp only at g1 g2
      rw [cost_turn1] at g1
      rw [cost_turn2] at g2
      omega
end

theorem mix_info : (Try.prog.info? 39).map (fun i => (i.zero, i.size, i.bytes)) = some (some (.agg #[.slice none 0 0, .int .i64 0]), 2, 32) := by kernel_rfl

set_option maxRecDepth 100000 in
set_option maxHeartbeats 6400000 in
theorem turned_any (Ao A : Option Addr) (n co m c : Nat) (ord : Nat → Int) (over most : Int) (mx : Nat → MixM) (w : World) (hp : Ints w Ao n ord) (hq : Mixes w w.heap.size A m mx) :
    Calls Try.prog 4 #[.agg #[.slice Ao n co, .int .i64 over, .int .i64 most], .slice A m c] w fun e w' => e = .returned (.bool true) ∧ Below w.heap.size w w' := by
  have HQ := Lib.hid hq
  have HP := Lib.hid hp
  clear hq hp
  obtain ⟨i0, hi0, hz0, hz1, hz2⟩ := info_parts mix_info
  have HI0 := Lib.hid hi0
  have HZ := Lib.hid (And.intro hz0 (And.intro hz1 hz2))
  clear hi0 hz0 hz1 hz2
  go_enter Try.func4, Try.ntmps4
  go_upto_region 1 with (fail)
  have k0 := Blk.new w 36 #[.slice Ao n co, .int .i64 over, .int .i64 most]
  have b0 := below_a1 w (.cells #[.slice Ao n co, .int .i64 over, .int .i64 most] 36)
  obtain ⟨g, hg⟩ : ∃ g, g = w.heap.size := ⟨_, rfl⟩
  rw [← hg] at k0
  rw [← hg]
  generalize hW : World.alloc _ _ = W at k0 b0 ⊢
  clear hW hg
  have c0 := k0.cell 0
  have c1 := k0.cell 1
  have c2 := k0.cell 2
  simp at c0 c1 c2
  go_wp2_with fail
  refine (usual_any Ao A n co m c ord over most mx W (HP.out.later b0) (HQ.out.later b0)).mono ?_
  rintro e w1 ⟨⟨b, rfl, hus⟩, hb1⟩
  have k1 := k0.later hb1
  have b1 := below_up b0 hb1
  clear c0 c1 c2 k0 b0 hb1
  cases b
  · go_wp2_with fail
    refine (alive_any w1).mono ?_
    rintro e w2 ⟨rfl, hb2⟩
    have b2 := below_up b1 hb2
    go_wp2_with fail
    go_ret
    exact ⟨rfl, b2⟩
  obtain ⟨hm20, hn30, -, -⟩ := hus rfl
  clear hus
  go_wp2_with fail
  have hg1 : g < w1.heap.size := k1.lt
  go_loopw [5, 6] (fun v t wr => ∃ k : Nat, k ≤ m ∧ t = .int .i64 ((k : Int) - 1) ∧ Owned wr w1.heap.size 39 2 v (m - k) (fun j => (turnM m mx j).c) ∧ Below w1.heap.size w1 wr) (fun _ t _ => (intOf t + 1).toNat)
  case atStart => exact ⟨m, Nat.le_refl _, rfl, by rw [Nat.sub_self]; exact Owned.nil _ _ _ _ _, Below.refl _ _⟩
  case round =>
    obtain ⟨k, hk, rfl, kO, hwr⟩ := hrel
    have hsr := hwr.size
    cases k with
    | succ i =>
      rw [show (((i + 1 : Nat) : Int) - 1) = (i : Int) by omega]
      have hi0 : (0 : Int) ≤ i := by omega
      have him : (i : Int) < m := by omega
      obtain ⟨bm, om, rfl, hBm⟩ := HQ.out.1.addr (by omega)
      obtain ⟨e0, e1⟩ := (HQ.out.keep (below_up b1 hwr)).at (i := i) (by omega)
      go_wp2_with (at_builtin; refine wpList_append_row _ rfl _ _ _ rfl w1.heap.size 39 i0 _ 2 32 Try.underlying23 HI0.out HZ.out.1 HZ.out.2.1 HZ.out.2.2 rfl (by omega) _ (m - (i + 1)) _ rfl (kO.alloc _) _ _ 1 1 (fun _ => (mx i).c) rfl (Row.lit wr #[.slice (mx i).ca (mx i).cn (mx i).cc, .int .i64 (mx i).len] 1 39 2 _ (by simp only [maxLen]; omega) rfl) (fun i' j _ hj => by match j, hj with | 0, _ => rfl | 1, _ => rfl) (by simp only [maxLen]; omega) (by omega) (by simp; omega) ?_; intro v' w4 hown hgr hbk)
      have ub := (kO.alloc (.cells #[.slice (mx i).ca (mx i).cn (mx i).cc, .int .i64 (mx i).len] 39)).below_grown (hwr.alloc hsr _) (Nat.le_refl _) (by simp; omega) hgr
      rw [show m - (i + 1) + 1 = m - i by omega] at hown
      have uO := hown.congr (g := fun j => (turnM m mx j).c) (fun l j hl hj => by
        unfold glue
        by_cases h1 : l < m - (i + 1)
        · rw [if_pos h1]
        · rw [if_neg h1]
          show (mx i).c j = (mx (m - 1 - l)).c j
          rw [show m - 1 - l = i by omega])
      clear hown hgr hbk kO e0 e1
      go_roundw
      case rel => exact ⟨i, by omega, by go_num, uO, ub⟩
      case measure => simp [intOf]
    | zero =>
      rw [Nat.sub_zero] at kO
      obtain ⟨A5, c5, rfl, -, -, r5⟩ := kO.form
      have k2 := k1.later hwr
      have b2 := below_up b1 hwr
      have HM := Lib.hid (show Mixes wr wr.heap.size A5 m (turnM m mx) from ⟨r5, fun i hi => (HQ.out.later b2).2 (m - 1 - i) (by omega)⟩)
      clear kO r5 hwr hsr
      have c0 := k2.cell 0
      have c1 := k2.cell 1
      have c2 := k2.cell 2
      simp at c0 c1 c2
      go_wp2_with fail
      refine (Solve_any A Ao n co m c mx ord over most wr (HP.out.later b2) (HQ.out.later b2) (by omega)).mono ?_
      rintro e w3 ⟨v3, x3, r3, rfl, hS3, hO3, hb3⟩
      obtain ⟨N3, hN3⟩ : ∃ N, N = (if x3 = 0 then m else 0) := ⟨_, rfl⟩
      rw [← hN3] at hO3
      have HN3 := Lib.hid hN3
      clear hN3
      obtain ⟨A3, c3, rfl, -, -, r3'⟩ := hO3.form
      have R3 := Lib.hid r3'
      have HS3 := Lib.hid hS3
      have HM3 := Lib.hid (HM.out.later hb3)
      have k3 := k2.later hb3
      have b3 := below_up b2 hb3
      clear c0 c1 c2 hS3 hO3 r3' hb3 k2 b2 HM
      have c0 := k3.cell 0
      have c1 := k3.cell 1
      have c2 := k3.cell 2
      simp at c0 c1 c2
      go_wp2_with fail
      refine (Solve_any A5 Ao n co m c5 (turnM m mx) ord over most w3 (HP.out.later b3) HM3.out (by omega)).mono ?_
      rintro e w4 ⟨v4, x4, r4, rfl, hS4, hO4, hb4⟩
      obtain ⟨hxx, hcc⟩ := turned_law HS3.out hS4
      subst hxx
      rw [← HN3.out] at hO4
      obtain ⟨A4, c4, rfl, -, -, r4'⟩ := hO4.form
      have R4 := Lib.hid r4'
      have R34 := Lib.hid (R3.out.later hb4)
      have HS4 := Lib.hid hS4
      have HM4 := Lib.hid (HM3.out.later hb4)
      have HCC := Lib.hid hcc
      have b4 := below_up b3 hb4
      clear c0 c1 c2 hS4 hO4 r4' hb4 k3 b3 HM3 R3 hcc
      by_cases hx : x3 = 0
      · have hNm : N3 = m := by rw [HN3.out, if_pos hx]
        have HC0 := Lib.hid (HCC.out hx)
        subst hx
        clear HN3 HCC
        subst hNm
        go_wp2_with fail
        refine (Cost_any A A3 N3 c3 N3 c r3 mx w4 R34.out (HQ.out.later b4)).mono ?_
        rintro e w5 ⟨rfl, hb5⟩
        rw [(solve_plan HS3.out).1, (solve_plan HS3.out).2]
        have R45 := Lib.hid (R4.out.later hb5)
        have HM5 := Lib.hid (HM4.out.later hb5)
        have b5 := below_up b4 hb5
        clear b4 hb5 R34 R4 HM4
        go_wp2_with fail
        refine (Cost_any A5 A4 N3 c4 N3 c5 r4 (turnM N3 mx) w5 R45.out HM5.out).mono ?_
        rintro e w6 ⟨rfl, hb6⟩
        rw [(solve_plan HS4.out).1, (solve_plan HS4.out).2, ← HC0.out]
        have b6 := below_up b5 hb6
        clear b5 hb6 R45 HM5
        generalize costF (lenM mx) r3 N3 = C3
        go_wp2_with fail
        refine (alive_any w6).mono ?_
        rintro e w7 ⟨rfl, hb7⟩
        have b7 := below_up b6 hb7
        go_wp2_with fail
        go_ret
        exact ⟨rfl, b7⟩
      · have hne : (x3 != 0) = true := bne_iff_ne.2 hx
        clear hx HN3 HCC
        go_wp2_with fail
        refine (Cost_any A A3 N3 c3 m c r3 mx w4 R34.out (HQ.out.later b4)).mono ?_
        rintro e w5 ⟨rfl, hb5⟩
        have R45 := Lib.hid (R4.out.later hb5)
        have HM5 := Lib.hid (HM4.out.later hb5)
        have b5 := below_up b4 hb5
        clear b4 hb5 R34 R4 HM4
        go_wp2_with fail
        refine (Cost_any A5 A4 N3 c4 m c5 r4 (turnM m mx) w5 R45.out HM5.out).mono ?_
        rintro e w6 ⟨rfl, hb6⟩
        have b6 := below_up b5 hb6
        clear b5 hb6 R45 HM5
        go_wp2_with fail
        refine (alive_any w6).mono ?_
        rintro e w7 ⟨rfl, hb7⟩
        have b7 := below_up b6 hb7
        go_wp2_with fail
        go_ret
        exact ⟨rfl, b7⟩

end Go.Proofs.Ytkdpkaidbmjcaaa
