/- LayplanLinear. -/
import Derived.Test.YtkdpkaidbmjcaaaLayAA
namespace Go.Proofs.Ytkdpkaidbmjcaaa
open Go.RowKit
set_option linter.unusedSimpArgs false
set_option linter.unusedVariables false

theorem sum_made (cnt : Nat → Nat → Int) (p q : Nat → Int) (s k : Nat) : madeF cnt (fun i => p i + q i) s k = madeF cnt p s k + madeF cnt q s k := by
  unfold madeF
  rw [← sumN_add]
  exact sumN_congr fun i _ => Int.add_mul ..
theorem sum_cost (len : Nat → Int) (p q : Nat → Int) (k : Nat) : costF len (fun i => p i + q i) k = costF len p k + costF len q k := by
  unfold costF
  rw [← sumN_add]
  exact sumN_congr fun i _ => Int.add_mul ..

/-- The sum's error is none, or the range. -/
theorem sum_err {m : Nat} {mx : Nat → MixM} {p : Nat → Int} (h : mixErr m mx = 0) : planErr m p m mx = 0 ∨ planErr m p m mx = 3 := by
  by_cases hb : PliesBad m p
  · exact .inr (planErr_bad h rfl hb)
  · exact .inl (planErr_ok h rfl hb)

/-- An element appended to a row of one cell each. -/
theorem own_push {w' : World} {base e k : Nat} {v u : Value} {f g : Nat → Nat → Value} (h : w'.ownsRow base e 1 v (k + 1) (cellsOf 1 k f ++ [u])) (hf : ∀ i, i < k → f i 0 = g i 0) (hu : u = g k 0) : Owned w' base e 1 v (k + 1) g := by
  unfold Owned
  have e1 : [u] = cellsOf 1 1 (fun _ _ => u) := rfl
  rw [e1, cellsOf_append] at h
  rwa [cellsOf_congr (g := g) (fun i j hi hj => by
    obtain rfl : j = 0 := by omega
    unfold glue
    by_cases h1 : i < k
    · rw [if_pos h1]; exact hf i h1
    · rw [if_neg h1, hu, show i = k by omega])] at h

set_option maxRecDepth 100000 in
set_option maxHeartbeats 6400000 in
theorem linear_any (A1 A2 A : Option Addr) (n1 d1 n2 d2 m c : Nat) (p q : Nat → Int) (mx : Nat → MixM) (w : World) (hp : Ints w A1 n1 p) (hr : Ints w A2 n2 q) (hq : Mixes w w.heap.size A m mx) :
    Calls Try.prog 8 #[.slice A1 n1 d1, .slice A2 n2 d2, .slice A m c] w fun e w' => e = .returned (.bool true) ∧ Below w.heap.size w w' := by
  have HQ := Lib.hid hq
  have HP := Lib.hid hp
  have HR := Lib.hid hr
  clear hq hp hr
  go_enter Try.func8, Try.ntmps8
  go_wp2_with fail
  refine (light_any A m c mx w HQ.out).mono ?_
  rintro e w1 ⟨⟨b, rfl, -⟩, b1⟩
  cases b
  · go_wp2_with fail
    refine (alive_any w1).mono ?_
    rintro e w2 ⟨rfl, hb2⟩
    have b2 := below_up b1 hb2
    go_wp2_with fail
    go_ret
    exact ⟨rfl, b2⟩
  by_cases hl : (30 : Int) < n1
  · go_wp2_with fail
    refine (alive_any w1).mono ?_
    rintro e w2 ⟨rfl, hb2⟩
    have b2 := below_up b1 hb2
    go_wp2_with fail
    go_ret
    exact ⟨rfl, b2⟩
  by_cases hnn : n2 = n1
  rotate_left
  · have hb : ((n2 : Int) != (n1 : Int)) = true := bne_iff_ne.2 (by omega)
    clear hnn
    go_wp2_with fail
    refine (alive_any w1).mono ?_
    rintro e w2 ⟨rfl, hb2⟩
    have b2 := below_up b1 hb2
    go_wp2_with fail
    go_ret
    exact ⟨rfl, b2⟩
  subst hnn
  have hb : ((n2 : Int) != (n2 : Int)) = false := by simp
  go_wp2_with fail
  refine (Produced_any A A1 n2 d1 m c p mx w1 (HP.out.later b1) (HQ.out.later b1)).mono ?_
  rintro e w2 ⟨v2, rfl, hO2, hb2⟩
  obtain ⟨B1, e1, rfl, -, -, r2⟩ := hO2.form
  have R2 := Lib.hid r2
  have b2 := below_up b1 hb2
  clear hO2 r2 hb2 b1
  go_wp2_with fail
  refine (Produced_any A A2 n2 d2 m c q mx w2 (HR.out.later b2) (HQ.out.later b2)).mono ?_
  rintro e w3 ⟨v3, rfl, hO3, hb3⟩
  obtain ⟨B2, e2, rfl, -, -, r3⟩ := hO3.form
  have R3 := Lib.hid r3
  have R23 := Lib.hid (R2.out.later hb3)
  have b3 := below_up b2 hb3
  clear hO3 r3 hb3 b2 R2
  go_wp2_with fail
  refine (Cost_any A A1 n2 d1 m c p mx w3 (HP.out.later b3) (HQ.out.later b3)).mono ?_
  rintro e w4 ⟨rfl, hb4⟩
  have R24 := Lib.hid (R23.out.later hb4)
  have R34 := Lib.hid (R3.out.later hb4)
  have b4 := below_up b3 hb4
  clear hb4 b3 R23 R3
  go_wp2_with fail
  refine (Cost_any A A2 n2 d2 m c q mx w4 (HR.out.later b4) (HQ.out.later b4)).mono ?_
  rintro e w5 ⟨rfl, hb5⟩
  have R25 := Lib.hid (R24.out.later hb5)
  have R35 := Lib.hid (R34.out.later hb5)
  have b5 := below_up b4 hb5
  clear hb5 b4 R24 R34
  by_cases he : planErr n2 p m mx = 0
  rotate_left
  · have f1 : (planErr n2 p m mx != planErr n2 p m mx) = false := by simp
    have f2 : (planErr n2 q m mx != planErr n2 q m mx) = false := by simp
    have f3 : (planErr n2 p m mx == planErr n2 p m mx) = true := by simp
    have f4 : (planErr n2 q m mx == planErr n2 q m mx) = true := by simp
    have f5 : (planErr n2 p m mx != 0) = true := bne_iff_ne.2 he
    clear he
    generalize planErr n2 p m mx = x1 at *
    generalize planErr n2 q m mx = x2 at *
    go_wp2_with fail
    refine (alive_any w5).mono ?_
    rintro e w6 ⟨rfl, hb6⟩
    have b6 := below_up b5 hb6
    go_wp2_with fail
    go_ret
    exact ⟨rfl, b6⟩
  by_cases he2 : planErr n2 q m mx = 0
  rotate_left
  · have f2 : (planErr n2 q m mx != planErr n2 q m mx) = false := by simp
    have f4 : (planErr n2 q m mx == planErr n2 q m mx) = true := by simp
    have f5 : (planErr n2 q m mx != 0) = true := bne_iff_ne.2 he2
    rw [he]
    clear he he2
    generalize planErr n2 q m mx = x2 at *
    go_wp2_with fail
    refine (alive_any w5).mono ?_
    rintro e w6 ⟨rfl, hb6⟩
    have b6 := below_up b5 hb6
    go_wp2_with fail
    go_ret
    exact ⟨rfl, b6⟩
  obtain ⟨hmx, hnm, hpb⟩ := plan_ok he
  obtain ⟨-, -, hqb⟩ := plan_ok he2
  have HME := Lib.hid hmx
  have HPB := Lib.hid hpb
  have HQB := Lib.hid hqb
  have HE1 := Lib.hid he
  have HE2 := Lib.hid he2
  have hm6 := (good_of hmx).m6
  have hs12 := (good_of hmx).s12
  have HSP1 := Lib.hid (show sizesP n2 p m mx = sizesF m mx by unfold sizesP; rw [if_pos he])
  have HSP2 := Lib.hid (show sizesP n2 q m mx = sizesF m mx by unfold sizesP; rw [if_pos he2])
  have HC1 := Lib.hid (show costP n2 p m mx = costF (lenM mx) p m by unfold costP; rw [if_pos he])
  have HC2 := Lib.hid (show costP n2 q m mx = costF (lenM mx) q m by unfold costP; rw [if_pos he2])
  rw [he, he2, HC1.out, HC2.out]
  rw [HSP1.out] at R25 ⊢
  rw [HSP2.out] at R35 ⊢
  clear he he2 hmx hpb hqb HSP1 HSP2 HC1 HC2
  subst hnm
  obtain ⟨i0, hi0, hz0, hz1, hz2⟩ := info_parts int_info
  have HI0 := Lib.hid (And.intro hi0 (And.intro hz0 (And.intro hz1 hz2)))
  clear hi0 hz0 hz1 hz2
  go_wp2_with fail
  go_loopw [15, 16] (fun v t wr => ∃ k : Nat, k ≤ n2 ∧ t = .int .i64 (k : Int) ∧ Owned wr w5.heap.size 3 1 v k (fun j _ => .int .i64 (p j + q j)) ∧ Below w5.heap.size w5 wr) (fun _ t _ => n2 - (intOf t).toNat)
  case atStart => exact ⟨0, Nat.zero_le _, rfl, Owned.nil _ _ _ _ _, Below.refl _ _⟩
  case round =>
    obtain ⟨k, hk, rfl, kO, hwr⟩ := hrel
    by_cases hlt : k < n2
    · obtain ⟨bp, op, rfl, hBp⟩ := HP.out.addr (by omega)
      obtain ⟨bq, oq, rfl, hBq⟩ := HR.out.addr (by omega)
      have bw := below_up b5 hwr
      have e0 := (bw.cell (p := ⟨_, _, none⟩) hBp).trans (HP.out.at1 hlt)
      have e1' := (bw.cell (p := ⟨_, _, none⟩) hBq).trans (HR.out.at1 hlt)
      obtain ⟨p1, p2⟩ := HPB.out k hlt
      obtain ⟨q1, q2⟩ := HQB.out k hlt
      obtain ⟨V, cV, rfl, -, -, -⟩ := kO.form
      have hlt' : (k : Int) < n2 := by omega
      have hk0 : (0 : Int) ≤ k := by omega
      have hs5 := b5.size
      have hsr := hwr.size
      have hbp : bp < wr.heap.size := by omega
      have hbq : bq < wr.heap.size := by omega
      have hbp1 : bp < wr.heap.size + 1 := by omega
      have hbq1 : bq < wr.heap.size + 1 := by omega
      have HAX := Lib.hid (show (Value.slice V k cV).ownBlock ≠ some bp ∧ (Value.slice V k cV).ownBlock ≠ some bq from ⟨fun e => by have := (kO.lt bp e).1; omega, fun e => by have := (kO.lt bq e).1; omega⟩)
      have KO := Lib.hid kO
      have HCC := Lib.hid (show (wr.alloc (.cells #[.int .i64 (p k + q k)] 3)).drew.cell? ⟨bp, op + k, none⟩ = some (.int .i64 (p k)) ∧ (wr.alloc (.cells #[.int .i64 (p k + q k)] 3)).drew.cell? ⟨bq, oq + k, none⟩ = some (.int .i64 (q k)) from ⟨(cell_lt wr _ bp _ hbp).trans e0, (cell_lt wr _ bq _ hbq).trans e1'⟩)
      have hwp : IntKind.i64.wrap (p k + q k) = p k + q k := wrap_cast (by omega) (by omega)
      clear kO
      go_upto_region 13 with (fail)
      go_region_held3 (fun w' => w'.cell? ⟨bp, op + k, none⟩ = some (.int .i64 (p k)) ∧ w'.cell? ⟨bq, oq + k, none⟩ = some (.int .i64 (q k))) (go_keep) ((refine step_append_lies _ (by rfl) _ _ _ (by rfl) w5.heap.size 3 i0 _ 1 8 Try.underlying22 HI0.out.1 HI0.out.2.1 HI0.out.2.2.1 HI0.out.2.2.2 rfl (by omega) (.slice V k cV) k (cellsOf 1 k (fun j _ => .int .i64 (p j + q j))) (by rfl) ((KO.out.alloc _).drew) ⟨wr.heap.size, 0, none⟩ 1 1 [.int .i64 (p k + q k)] (by rfl) (by rfl) (World.news_of_block (cs := #[.int .i64 (p k + q k)]) (t := 3) (fr := (0, 0)) (heap_alloc_new wr _)) (by simp [Value.oneCell']) (by omega) (by simp only [maxLen]; omega) (by omega) (by simp; omega) (wr.heap.size + 1) (by simp) ?_; intro gg cap w6 hown1 hgrow hat hlt1; have f1 := (World.cell?_of_block (a := ⟨bp, op + k, none⟩) (hgrow.block bp (by simp; omega) (Ne.symm HAX.out.1))).trans HCC.out.1; have s1 := (World.cell?_of_block (a := ⟨bq, oq + k, none⟩) (hgrow.block bq (by simp; omega) (Ne.symm HAX.out.2))).trans HCC.out.2))
      have uO := own_push (g := fun j _ => .int .i64 (p j + q j)) hown1 (fun _ _ => rfl) rfl
      have ub := (KO.out.alloc (.cells #[.int .i64 (p k + q k)] 3)).drew.below_grown ((hwr.alloc hsr _).drew) (Nat.le_refl _) (by simp; omega) hgrow
      rename_i hHeld
      clear hHeld hown1 hgrow hat hlt1 f1 s1 KO HCC HAX e0 e1' hwr
      go_wp2_with fail
      go_roundw
      case rel => exact ⟨k + 1, by omega, by go_num, uO, ub⟩
      case measure => simp [intOf]; omega
    · obtain rfl : k = n2 := by omega
      obtain ⟨A5, c5, rfl, -, -, r5⟩ := kO.form
      have R5 := Lib.hid r5
      have bw := below_up b5 hwr
      have R26 := Lib.hid (R25.out.later hwr)
      have R36 := Lib.hid (R35.out.later hwr)
      clear kO r5 hwr R25 R35 b5
      go_wp2_with fail
      refine (Produced_any A A5 k c5 k c (fun j => p j + q j) mx wr R5.out (HQ.out.later bw)).mono ?_
      rintro e w6 ⟨v6, rfl, hO6, hb6⟩
      obtain ⟨B6, e6, rfl, -, -, r6⟩ := hO6.form
      have R6 := Lib.hid r6
      have R27 := Lib.hid (R26.out.later hb6)
      have R37 := Lib.hid (R36.out.later hb6)
      have R57 := Lib.hid (R5.out.later hb6)
      have b6 := below_up bw hb6
      clear hO6 r6 hb6 bw R26 R36 R5
      go_wp2_with fail
      refine (Cost_any A A5 k c5 k c (fun j => p j + q j) mx w6 R57.out (HQ.out.later b6)).mono ?_
      rintro e w7 ⟨rfl, hb7⟩
      have R28 := Lib.hid (R27.out.later hb7)
      have R38 := Lib.hid (R37.out.later hb7)
      have R68 := Lib.hid (R6.out.later hb7)
      have b7 := below_up b6 hb7
      clear hb7 b6 R27 R37 R6 R57
      rcases sum_err (p := fun j => p j + q j) HME.out with hs | hs
      rotate_left
      · rw [hs]
        clear hs
        go_wp2_with fail
        refine (alive_any w7).mono ?_
        rintro e w8 ⟨rfl, hb8⟩
        have b8 := below_up b7 hb8
        go_wp2_with fail
        go_ret
        exact ⟨rfl, b8⟩
      have HSP := Lib.hid (show sizesP k (fun j => p j + q j) k mx = sizesF k mx by unfold sizesP; rw [if_pos hs])
      have HC := Lib.hid (show costP k (fun j => p j + q j) k mx = costF (lenM mx) p k + costF (lenM mx) q k by unfold costP; rw [if_pos hs, sum_cost])
      rw [hs, HC.out]
      rw [HSP.out] at R68 ⊢
      have hc1 := cost_bd (good_of HME.out) HPB.out k (Nat.le_refl _) (Nat.le_refl _)
      have hc2 := cost_bd (good_of HME.out) HQB.out k (Nat.le_refl _) (Nat.le_refl _)
      clear hs HSP HC
      generalize costF (lenM mx) p k = C1 at hc1 ⊢
      generalize costF (lenM mx) q k = C2 at hc2 ⊢
      have hwc : IntKind.i64.wrap (C1 + C2) = C1 + C2 := wrap_cast (by omega) (by omega)
      have hsz := Lib.hid (show ∀ s, s < sizesF k mx → (0 ≤ madeF (cntM mx) p s k ∧ madeF (cntM mx) p s k ≤ 240 * (k : Int)) ∧ (0 ≤ madeF (cntM mx) q s k ∧ madeF (cntM mx) q s k ≤ 240 * (k : Int)) from fun s hs => ⟨made_bd (good_of HME.out) HPB.out hs k (Nat.le_refl _) (Nat.le_refl _), made_bd (good_of HME.out) HQB.out hs k (Nat.le_refl _) (Nat.le_refl _)⟩)
      generalize sizesF k mx = S at *
      have hss : ((S : Int) != (S : Int)) = false := by simp
      have hcc : (C1 + C2 != C1 + C2) = false := by simp
      go_wp2_with fail
      go_loopw [21] (fun t wr => ∃ j : Nat, j ≤ S ∧ t = .int .i64 (j : Int) ∧ Below w7.heap.size w7 wr) (fun t _ => S - (intOf t).toNat)
      case atStart => exact ⟨0, Nat.zero_le _, rfl, Below.refl _ _⟩
      case round =>
        obtain ⟨j, hj, rfl, hwr⟩ := hrel
        have hs1 := hwr.size
        by_cases hlt : j < S
        · obtain ⟨x1, y1, rfl, hB1⟩ := R28.out.addr (by omega)
          obtain ⟨x2, y2, rfl, hB2⟩ := R38.out.addr (by omega)
          obtain ⟨x3, y3, rfl, hB3⟩ := R68.out.addr (by omega)
          have e1' := R28.out.at1 hlt
          have e2' := R38.out.at1 hlt
          have e3' := R68.out.at1 hlt
          rw [sum_made] at e3'
          obtain ⟨hM1, hM2⟩ := hsz.out j hlt
          generalize madeF (cntM mx) p j k = M1 at hM1 e1' e3'
          generalize madeF (cntM mx) q j k = M2 at hM2 e2' e3'
          have z1 := fun z : Ext w7.heap.size wr => z.cell (b := x1) hB1 ((hwr.cell (p := ⟨_, _, none⟩) hB1).trans e1')
          have z2 := fun z : Ext w7.heap.size wr => z.cell (b := x2) hB2 ((hwr.cell (p := ⟨_, _, none⟩) hB2).trans e2')
          have z3 := fun z : Ext w7.heap.size wr => z.cell (b := x3) hB3 ((hwr.cell (p := ⟨_, _, none⟩) hB3).trans e3')
          clear e1' e2' e3'
          have hwm : IntKind.i64.wrap (M1 + M2) = M1 + M2 := wrap_cast (by omega) (by omega)
          have hmm : (M1 + M2 != M1 + M2) = false := by simp
          have hlt' : (j : Int) < S := by omega
          have hj0 : (0 : Int) ≤ j := by omega
          go_upto_region 23 with (fail)
          refine region_ext w7.heap.size (by kernel_rfl) (by kernel_rfl) ?_
          repeat (go_big_quiet_step (fail))
          refine wpQuiet_nil ?_
          rintro _ ⟨z, rfl⟩
          obtain ⟨wq, hq⟩ := z
          dsimp only
          clear z1 z2 z3
          have hwq := hwr.trans hq
          clear hwr hq
          go_wp2_with fail
          go_roundw
          case rel => exact ⟨j + 1, by omega, by go_num, hwq⟩
          case measure => simp [intOf]; omega
        · obtain rfl : j = S := by omega
          have b8 := below_up b7 hwr
          clear hwr b7
          go_wp2_with fail
          refine (alive_any _).mono ?_
          rintro e w8 ⟨rfl, hb8⟩
          have b9 := below_up b8 hb8
          go_wp2_with fail
          go_ret
          exact ⟨rfl, b9⟩

end Go.Proofs.Ytkdpkaidbmjcaaa
