/- splice.Best. -/
import Derived.Test.YtcalchlfipbpkaaSplC
namespace Go.Proofs.Ytcalchlfipbpkaa
open Go.RowKit
set_option linter.unusedSimpArgs false
set_option linter.unusedVariables false

/-- The ends that the program looks at. -/
def candF (hi : Int) (z : Nat → Zone) : Nat → Int
  | 0 => hi
  | j + 1 => if j % 2 = 0 then (z (j / 2)).lo else (z (j / 2)).hi

theorem cand_succ (hi : Int) (z : Nat → Zone) (j : Nat) : candF hi z (j + 1) = if j % 2 = 0 then (z (j / 2)).lo else (z (j / 2)).hi := rfl

def bestP (b : Int → Int) (lo hi : Int) (cand : Nat → Int) : Nat → Option Zone
  | 0 => none
  | j + 1 => stepP b lo hi (bestP b lo hi cand j) (cand j)

theorem bestP_spec (b : Int → Int) (lo hi : Int) (cand : Nat → Int) (n : Nat) : BestOf (fun h => (∃ j, j < n ∧ h = cand j) ∧ h ≤ hi ∧ lo < b h) b (bestP b lo hi cand n) := by
  induction n with
  | zero => exact .inl ⟨rfl, fun h hh => by obtain ⟨j, hj, _⟩ := hh.1; omega⟩
  | succ n ih =>
    refine (stepP_spec ih (cand n)).congr fun h => ⟨fun hh => ⟨?_, hh.2⟩, fun hh => ⟨?_, hh.2⟩⟩
    · rcases hh.1 with ⟨j, hj, e⟩ | e
      · exact ⟨j, by omega, e⟩
      · exact ⟨n, by omega, e⟩
    · obtain ⟨j, hj, e⟩ := hh.1
      rcases Nat.lt_succ_iff_lt_or_eq.1 hj with h1 | rfl
      · exact .inl ⟨j, h1, e⟩
      · exact .inr e

theorem bestP_bd {b : Int → Int} {lo hi : Int} {cand : Nat → Int} {n : Nat} {x : Zone} (h : bestP b lo hi cand n = some x) : ∃ k, k < n ∧ x = ⟨b (cand k), cand k⟩ := by
  rcases bestP_spec b lo hi cand n with ⟨e, _⟩ | ⟨k, e, hs, _⟩
  · rw [h] at e; cases e
  · rw [h] at e
    obtain ⟨j, hj, e2⟩ := hs.1
    refine ⟨j, hj, ?_⟩
    rw [← e2]
    exact Option.some.inj e

/-- Both searches find the same. -/
theorem best_same {z : Nat → Zone} {m : Nat} {lo hi : Int} (hlo : ∀ i, i < m → 0 ≤ (z i).lo) (hz : ∀ i, i < m → (z i).lo ≤ (z i).hi) (h0 : 0 ≤ lo) (hh : 0 ≤ hi) :
    bestP (fun h => backF z h m) lo hi (candF hi z) (1 + 2 * m) = bestR (fun h => backF z h m) lo (hi + 1).toNat := by
  refine BestOf.unique (S := fun h => (h = hi ∨ ∃ i, i < m ∧ (h = (z i).lo ∨ h = (z i).hi)) ∧ h ≤ hi ∧ lo < backF z h m) (b := fun h => backF z h m) ?_ ?_
  · refine (bestP_spec _ lo hi (candF hi z) (1 + 2 * m)).congr fun h => ⟨fun hx => ⟨?_, hx.2⟩, fun hx => ⟨?_, hx.2⟩⟩
    · obtain ⟨j, hj, e⟩ := hx.1
      match j with
      | 0 => exact .inl e
      | j + 1 =>
        refine .inr ⟨j / 2, by omega, ?_⟩
        rw [cand_succ] at e
        split at e
        · exact .inl e
        · exact .inr e
    · rcases hx.1 with e | ⟨i, hi', e | e⟩
      · exact ⟨0, by omega, e⟩
      · refine ⟨2 * i + 1, by omega, ?_⟩
        rw [cand_succ]
        rw [if_pos (by omega), show 2 * i / 2 = i by omega]
        exact e
      · refine ⟨2 * i + 1 + 1, by omega, ?_⟩
        rw [cand_succ]
        rw [if_neg (by omega), show (2 * i + 1) / 2 = i by omega]
        exact e
  · refine best_cand hlo hz h0 ((bestR_spec (fun h => backF z h m) lo (hi + 1).toNat).congr fun h => ?_)
    have : (((hi + 1).toNat : Nat) : Int) = hi + 1 := by omega
    rw [this]
    exact ⟨fun hx => ⟨hx.1, by omega, hx.2.2⟩, fun hx => ⟨hx.1, by omega, hx.2.2⟩⟩

theorem int_info : (Try.prog.info? 3).map (fun i => (i.zero, i.size, i.bytes)) = some (some (.int .i64 0), 1, 8) := by kernel_rfl

theorem minmax_le {f : Nat → Int} {n : Nat} (h : 0 < n) : minTo f n ≤ f 0 ∧ f 0 ≤ maxTo f n := by
  induction n with
  | zero => omega
  | succ n ih =>
    rcases Nat.eq_zero_or_pos n with h0 | h0
    · subst h0
      rw [minTo_one, maxTo_one]
      omega
    · have := ih h0
      unfold minTo maxTo
      omega

theorem ext_zones {len : Int} {m : Nat} {poly : Nat → Poly} (h : extErr len m poly = 0) : ∀ i, i < m → 0 ≤ (zoneAt poly i).lo ∧ (zoneAt poly i).lo ≤ (zoneAt poly i).hi ∧ (zoneAt poly i).hi ≤ len := by
  intro i hi
  obtain ⟨h1, h2, h3⟩ := (ext_valid h).2.2.2 i hi
  have h4 := (check_n h1).1
  have h5 := minmax_le (f := spotX (poly i).spot) (n := (poly i).pn) (by omega)
  refine ⟨h2, ?_, h3⟩
  show minTo (spotX (poly i).spot) (poly i).pn ≤ minTo (spotX (poly i).spot) (poly i).pn + (maxTo (spotX (poly i).spot) (poly i).pn - minTo (spotX (poly i).spot) (poly i).pn)
  omega

theorem cand_bd {len hi : Int} {m : Nat} {z : Nat → Zone} (h : ∀ i, i < m → 0 ≤ (z i).lo ∧ (z i).lo ≤ (z i).hi ∧ (z i).hi ≤ len) (h0 : 0 ≤ hi) (h1 : hi ≤ len) {j : Nat} (hj : j < 1 + 2 * m) : 0 ≤ candF hi z j ∧ candF hi z j ≤ len := by
  match j with
  | 0 => exact ⟨h0, h1⟩
  | j + 1 =>
    have := h (j / 2) (by omega)
    rw [cand_succ]
    split <;> omega

set_option maxRecDepth 100000 in
set_option maxHeartbeats 3200000 in
theorem Best_any (len : Int) (A : Option Addr) (m c : Nat) (poly : Nat → Poly) (lo hi : Int) (w : World) (hq : Polys w w.heap.size A m poly) :
    Calls Try.prog 13 #[.int .i64 len, .slice A m c, .int .i64 lo, .int .i64 hi] w (BestPost w len m poly lo hi) := by
  have HQ := Lib.hid (hq.later (below_a1 w (.cells #[.int .i64 0, .int .i64 0] 30)))
  clear hq
  go_enter Try.func13, Try.ntmps13
  go_wp2_with fail
  refine (extents_any len A m c poly _ HQ.out).mono ?_
  rintro e w1 ⟨hb1, hcase⟩
  have k8 := (Blk.new w 30 #[.int .i64 0, .int .i64 0]).later hb1
  have hbw := below_up (below_a1 w (.cells #[.int .i64 0, .int .i64 0] 30)) hb1
  clear HQ hb1
  have q0 := k8.cell 0
  have q1 := k8.cell 1
  have z0 := k8.free 0
  have z1 := k8.free 1
  simp at q0 q1
  rcases hcase with ⟨hE, v, rfl, hN⟩ | ⟨hE, rfl⟩
  rotate_left
  · have hne : (extErr len m poly != 0) = true := bne_iff_ne.2 hE
    have HE := Lib.hid hE
    have HB := Lib.hid (show bestErr len m poly lo hi = extErr len m poly by unfold bestErr; rw [if_pos hE])
    clear hE
    go_wp2_with fail
    have hk1 := put2 k8 (.int .i64 0) (.int .i64 0)
    have hb2 := below_put2 hbw (Nat.le_refl _) (.int .i64 0) (.int .i64 0)
    generalize hW : World.setCell _ _ _ = W at hk1 hb2 ⊢
    clear hW q0 q1 z0 z1
    have q0 := hk1.cell 0
    have q1 := hk1.cell 1
    simp at q0 q1
    exact bodyPost_ret (v := .tuple #[zoneV ⟨0, 0⟩, .int .i64 (extErr len m poly)]) (by simp [results, Try.results13, go_sem, q0, q1, zoneV]) rfl (best_fail HB.out HE.out hb2)
  have HBE := Lib.hid (show bestErr len m poly lo hi = if lo < 0 ∨ hi < lo ∨ len < hi then 3 else 0 by unfold bestErr; rw [if_neg (fun hh => hh hE)])
  obtain ⟨hl1, hl2, hm60, _⟩ := ext_valid hE
  have HV := Lib.hid (ext_zones hE)
  clear hE
  obtain ⟨AN, cN, rfl, _, _, rN⟩ := hN.form
  have HN := Lib.hid rN
  clear hN rN
  by_cases hbad : lo < 0 ∨ hi < lo ∨ len < hi
  · have HB := Lib.hid (HBE.out.trans (if_pos hbad))
    by_cases h1 : lo < 0
    rotate_left
    by_cases h2 : hi < lo
    rotate_left
    have h3 : len < hi := by omega
    all_goals
      clear hbad
      go_wp2_with fail
      have hk1 := put2 k8 (.int .i64 0) (.int .i64 0)
      have hb2 := below_put2 hbw (Nat.le_refl _) (.int .i64 0) (.int .i64 0)
      generalize hW : World.setCell _ _ _ = W at hk1 hb2 ⊢
      clear hW q0 q1 z0 z1
      have q0 := hk1.cell 0
      have q1 := hk1.cell 1
      simp at q0 q1
      exact bodyPost_ret (v := .tuple #[zoneV ⟨0, 0⟩, .int .i64 3]) (by simp [results, Try.results13, go_sem, q0, q1, zoneV]) rfl (best_fail HB.out (by decide) hb2)
  have HOK := Lib.hid (HBE.out.trans (if_neg hbad))
  have h1 : ¬ lo < 0 := by omega
  have h2 : ¬ hi < lo := by omega
  have h3 : ¬ len < hi := by omega
  have HSAME := Lib.hid (best_same (z := zoneAt poly) (m := m) (lo := lo) (hi := hi) (fun i hi => (HV.out i hi).1) (fun i hi => (HV.out i hi).2.1) (by omega) (by omega))
  have HCB := Lib.hid (fun j (hj : j < 1 + 2 * m) => cand_bd HV.out (by omega : 0 ≤ hi) (by omega : hi ≤ len) hj)
  have hb0 := Lib.hid (fun h (h0 : 0 ≤ h) => back_zero (z := zoneAt poly) (m := m) (x := h) (fun i hi => (HV.out i hi).1) h0)
  clear hbad HBE q0 q1 z0 z1
  obtain ⟨i0, hi0, hz0, hz1, hz2⟩ := info_parts int_info
  have HI0 := Lib.hid hi0
  have HZ := Lib.hid (And.intro hz0 (And.intro hz1 hz2))
  clear hi0 hz0 hz1 hz2
  have h81 : w.heap.size < w1.heap.size := k8.lt
  go_upto_region 7 with (fail)
  have o1 := Owned.lit w1 #[.int .i64 hi] 1 3 1 (fun j _ => .int .i64 (candF hi (zoneAt poly) j)) (by simp only [maxLen]; omega) rfl
  have b1 := below_a1 w1 (.cells #[.int .i64 hi] 3)
  obtain ⟨vE, hvE⟩ : ∃ vE : Value, vE = .slice (some ⟨w1.heap.size, 0, none⟩) 1 1 := ⟨_, rfl⟩
  rw [← hvE] at o1
  rw [← hvE]
  generalize hW : w1.alloc _ = W at o1 b1 ⊢
  clear hW hvE
  go_wp2_with fail
  go_loopw [12, 48] (fun v t wr => ∃ k : Nat, k ≤ m ∧ t = .int .i64 k ∧ Owned wr w1.heap.size 3 1 v (1 + 2 * k) (fun j _ => .int .i64 (candF hi (zoneAt poly) j)) ∧ Below w1.heap.size w1 wr) (fun _ t _ => m - (intOf t).toNat)
  case atStart => exact ⟨0, Nat.zero_le _, rfl, o1, b1⟩
  case round =>
    obtain ⟨k, hk, rfl, kE, hwr⟩ := hrel
    have hs1 : w1.heap.size ≤ wr.heap.size := hwr.size
    clear o1 b1
    by_cases hlt : k < m
    · obtain ⟨bp, op, rfl, hBp⟩ := HN.out.addr (by omega)
      obtain ⟨e0, e1⟩ := HN.out.at2 hlt
      simp only [Zone.c] at e0 e1
      have f0 := (hwr.cell (p := ⟨_, _, none⟩) hBp).trans e0
      have f1 := (hwr.cell (p := ⟨_, _, none⟩) hBp).trans e1
      clear e0 e1
      have hlt' : (k : Int) < m := by omega
      have hk0 : (0 : Int) ≤ k := by omega
      go_upto_region 10 with (fail)
      have qN := Blk.new wr 30 #[.int .i64 (zoneAt poly k).lo, .int .i64 (zoneAt poly k).hi]
      have qE := kE.alloc (.cells #[.int .i64 (zoneAt poly k).lo, .int .i64 (zoneAt poly k).hi] 30)
      have qb := hwr.alloc hs1 (.cells #[.int .i64 (zoneAt poly k).lo, .int .i64 (zoneAt poly k).hi] 30)
      generalize hW : wr.alloc _ = W2 at qN qE qb ⊢
      clear hW f0 f1 kE
      have c0 := qN.cell 0
      have c1 := qN.cell 1
      simp at c0 c1
      have hz3 : w1.heap.size ≤ W2.heap.size := qb.size
      go_wp2_with (at_builtin; refine wpList_append_row _ rfl _ _ _ rfl w1.heap.size 3 i0 _ 1 8 Try.underlying47 HI0.out HZ.out.1 HZ.out.2.1 HZ.out.2.2 rfl (by omega) _ (1 + 2 * k) _ rfl (qE.alloc _) _ _ 2 2 (fun i _ => if i = 0 then .int .i64 (zoneAt poly k).lo else .int .i64 (zoneAt poly k).hi) rfl (Row.lit W2 #[.int .i64 (zoneAt poly k).lo, .int .i64 (zoneAt poly k).hi] 2 3 1 _ (by simp only [maxLen]; omega) rfl) (fun i j _ hj => by simp only []; split <;> rfl) (by simp only [maxLen]; omega) (by omega) (by simp; omega) ?_; intro v' w4 hown hgr hbk)
      have ub := (qE.alloc (.cells #[.int .i64 (zoneAt poly k).lo, .int .i64 (zoneAt poly k).hi] 3)).below_grown (qb.alloc hz3 _) (Nat.le_refl _) (by simp; omega) hgr
      go_roundw
      case rel =>
        refine ⟨k + 1, by omega, by go_num, hown.congr (fun i j hi' hj => ?_), ub⟩
        unfold glue
        by_cases hik : i < 1 + 2 * k
        · rw [if_pos hik]
        · rw [if_neg hik]
          by_cases h0 : i - (1 + 2 * k) = 0
          · obtain rfl : i = 2 * k + 1 := by omega
            simp only [h0, if_true]
            rw [cand_succ, if_pos (by omega), show 2 * k / 2 = k by omega]
          · obtain rfl : i = 2 * k + 1 + 1 := by omega
            simp only [h0, if_false]
            rw [cand_succ, if_neg (by omega), show (2 * k + 1) / 2 = k by omega]
      case measure => simp [intOf]; omega
    · obtain rfl : k = m := by omega
      obtain ⟨AE, cE, rfl, _, _, rE⟩ := kE.form
      go_upto_region 13 with (fail)
      have k15 := Blk.new wr 30 #[.int .i64 0, .int .i64 0]
      have hwr3 := hwr.alloc hs1 (.cells #[.int .i64 0, .int .i64 0] 30)
      have HNg := Lib.hid (((HN.out.keep hwr).more hs1).keep (below_a1 wr (.cells #[.int .i64 0, .int .i64 0] 30)))
      have HEg := Lib.hid (rE.keep (below_a1 wr (.cells #[.int .i64 0, .int .i64 0] 30)))
      obtain ⟨g, hg⟩ : ∃ g, g = wr.heap.size := ⟨_, rfl⟩
      rw [← hg] at k15 HNg HEg hs1
      rw [← hg]
      generalize hW : wr.alloc _ = W3 at k15 hwr3 HNg HEg ⊢
      clear hW hg rE kE hwr
      obtain ⟨N, hN1⟩ : ∃ N, N = 1 + 2 * k := ⟨_, rfl⟩
      rw [← hN1] at HEg HSAME HCB
      rw [← hN1]
      have hN2 : N ≤ 200 := by omega
      clear hN1
      have HCB2 := Lib.hid HCB.out
      have HSAME2 := Lib.hid HSAME.out
      generalize candF hi (zoneAt poly) = cand at *
      obtain ⟨b, hb⟩ : ∃ b : Int → Int, b = fun h => backF (zoneAt poly) h k := ⟨_, rfl⟩
      have hbn := Lib.hid (fun h => (congrFun hb h).symm)
      have hbl := Lib.hid (fun h => show b h ≤ h from by rw [hb]; exact back_le _ _ _)
      have hb00 := Lib.hid (fun h (h0 : 0 ≤ h) => show 0 ≤ b h from by rw [hb]; exact hb0.out h h0)
      rw [← hb] at HSAME2
      have HBF := Lib.hid hb
      clear hb hb0 HSAME HCB
      go_wp2_with fail
      go_loopw [16, 62] (fun f t wr => ∃ j : Nat, j ≤ N ∧ t = .int .i64 j ∧ f = .bool (bestP b lo hi cand j).isSome ∧ Blk wr g 30 #[.int .i64 ((bestP b lo hi cand j).getD ⟨0, 0⟩).lo, .int .i64 ((bestP b lo hi cand j).getD ⟨0, 0⟩).hi] ∧ Below g W3 wr) (fun _ t _ => N - (intOf t).toNat)
      case atStart => exact ⟨0, Nat.zero_le _, rfl, rfl, k15, Below.refl _ _⟩
      case round =>
        obtain ⟨j, hj, rfl, rfl, kB, hwj⟩ := hrel
        clear k15
        have hgl := kB.lt
        by_cases hlj : j < N
        · have HNr := Lib.hid ((HNg.out.keep hwj).more (Nat.le_of_lt hgl))
          obtain ⟨be, oe, rfl, hBe⟩ := HEg.out.addr (by omega)
          have f0 := (hwj.cell (p := ⟨_, _, none⟩) hBe).trans (HEg.out.at1 hlj)
          have hj0 : (0 : Int) ≤ j := by omega
          have hlj' : (j : Int) < N := by omega
          obtain ⟨c1, c2⟩ := HCB2.out j hlj
          have x1 := hbl.out (cand j)
          have x2 := hb00.out (cand j) c1
          have HS : Hid (bestP b lo hi cand (j + 1) = stepP b lo hi (bestP b lo hi cand j) (cand j)) := Lib.hid rfl
          have HO := Lib.hid (fun x (hx : bestP b lo hi cand j = some x) => show 0 ≤ x.lo ∧ x.lo ≤ x.hi ∧ x.hi ≤ 1048576 by
            obtain ⟨i, hi', e⟩ := bestP_bd hx
            have y1 := HCB2.out i (by omega)
            have y2 := hbl.out (cand i)
            have y3 := hb00.out (cand i) y1.1
            rw [e]
            simp only []
            omega)
          have hbj := Lib.hid (hbn.out (cand j))
          have HP := Lib.hid (fun (o : Option Zone) (h : o = stepP b lo hi (bestP b lo hi cand j) (cand j)) => HS.out.trans h.symm)
          clear HS
          have HSx := Lib.hid (show ∀ o, stepP b lo hi o (cand j) = if hi < cand j ∨ b (cand j) ≤ lo then o else match o with
            | none => some ⟨b (cand j), cand j⟩
            | some x => if cand j - b (cand j) - (x.hi - x.lo) < 0 ∨ (cand j - b (cand j) - (x.hi - x.lo) = 0 ∧ x.hi < cand j) then some ⟨b (cand j), cand j⟩ else some x from fun _ => rfl)
          generalize cand j = h at *
          generalize b h = bh at *
          have HO2 := Lib.hid (HO.out)
          generalize hoo : bestP b lo hi cand j = o at *
          clear hoo HO
          go_wp2_with fail
          refine (back_any _ k _ (zoneAt poly) h _ (by omega) HNr.out).mono ?_
          rintro e w4 ⟨rfl, hb4⟩
          rw [hbj.out]
          have kB4 := kB.later hb4
          have hw4 := hwj.trans (hb4.mono (Nat.le_of_lt hgl))
          have hg4 : g < w4.heap.size := kB4.lt
          clear kB hb4 HNr f0
          go_upto_region 18 with (fail)
          have k19 := Blk.new w4 30 #[.int .i64 bh, .int .i64 h]
          have kB5 := kB4.alloc (.cells #[.int .i64 bh, .int .i64 h] 30)
          have hw5 := hw4.alloc (Nat.le_of_lt hg4) (.cells #[.int .i64 bh, .int .i64 h] 30)
          obtain ⟨g2, hg2⟩ : ∃ g2, g2 = w4.heap.size := ⟨_, rfl⟩
          rw [← hg2] at k19 hg4
          rw [← hg2]
          generalize hW : w4.alloc _ = V at k19 kB5 hw5 ⊢
          clear hW hg2 hw4 kB4
          have p0 := k19.cell 0
          have p1 := k19.cell 1
          have q0 := kB5.cell 0
          have q1 := kB5.cell 1
          have z0 := kB5.free 0
          have z1 := kB5.free 1
          simp at p0 p1 q0 q1
          by_cases hc : hi < h ∨ bh ≤ lo
          · have HS2 := Lib.hid (HP.out o ((HSx.out o).trans (if_pos hc)).symm)
            by_cases hc1 : hi < h
            rotate_left
            have hc2 : bh ≤ lo := by omega
            all_goals
              clear hc
              go_wp2_with fail
              go_roundw
              case rel => exact ⟨j + 1, by omega, by go_num, by rw [HS2.out], by rw [HS2.out]; exact kB5, hw5⟩
              case measure => simp [intOf]; omega
          have hc1 : ¬ hi < h := by omega
          have hc2 : ¬ bh ≤ lo := by omega
          have HS3 := Lib.hid ((HSx.out o).trans (if_neg hc))
          clear HSx hc
          cases o with
          | none =>
            have HS2 := Lib.hid (HP.out (some ⟨bh, h⟩) HS3.out.symm)
            clear HP HS3 HO2
            simp only [Option.getD_none] at q0 q1
            simp only [Option.isSome_none]
            go_upto_region 21 with (fail)
            go_region
            have kB6 := (put2 kB5 (.int .i64 bh) (.int .i64 h)).drew
            have hw6 := (below_put2 hw5 (Nat.le_refl _) (.int .i64 bh) (.int .i64 h)).drew
            generalize hW : World.drew _ = W6 at kB6 hw6 ⊢
            clear hW q0 q1 z0 z1 p0 p1
            go_wp2_with fail
            go_roundw
            case rel => exact ⟨j + 1, by omega, by go_num, by rw [HS2.out]; rfl, by rw [HS2.out]; exact kB6, hw6⟩
            case measure => simp [intOf]; omega
          | some x =>
            obtain ⟨y1, y2, y3⟩ := HO2.out x rfl
            simp only [] at HS3
            clear HO2
            simp only [Option.getD_some] at q0 q1 kB5
            simp only [Option.isSome_some]
            by_cases hd1 : h - bh - (x.hi - x.lo) < 0
            · have HS2 := Lib.hid (HP.out (some ⟨bh, h⟩) (HS3.out.trans (if_pos (.inl hd1))).symm)
              clear HP HS3
              go_upto_region 21 with (fail)
              go_region
              have kB6 := (put2 kB5 (.int .i64 bh) (.int .i64 h)).drew
              have hw6 := (below_put2 hw5 (Nat.le_refl _) (.int .i64 bh) (.int .i64 h)).drew
              generalize hW : World.drew _ = W6 at kB6 hw6 ⊢
              clear hW q0 q1 z0 z1 p0 p1
              go_wp2_with fail
              go_roundw
              case rel => exact ⟨j + 1, by omega, by go_num, by rw [HS2.out]; rfl, by rw [HS2.out]; exact kB6, hw6⟩
              case measure => simp [intOf]; omega
            by_cases hd2 : h - bh - (x.hi - x.lo) = 0
            · have e2 : ((h - bh - (x.hi - x.lo)) == 0) = true := beq_iff_eq.2 hd2
              by_cases hd3 : x.hi < h
              · have HS2 := Lib.hid (HP.out (some ⟨bh, h⟩) (HS3.out.trans (if_pos (.inr ⟨hd2, hd3⟩))).symm)
                clear HP HS3 hd2
                go_upto_region 21 with (fail)
                go_region
                have kB6 := (put2 kB5 (.int .i64 bh) (.int .i64 h)).drew
                have hw6 := (below_put2 hw5 (Nat.le_refl _) (.int .i64 bh) (.int .i64 h)).drew
                generalize hW : World.drew _ = W6 at kB6 hw6 ⊢
                clear hW q0 q1 z0 z1 p0 p1
                go_wp2_with fail
                go_roundw
                case rel => exact ⟨j + 1, by omega, by go_num, by rw [HS2.out]; rfl, by rw [HS2.out]; exact kB6, hw6⟩
                case measure => simp [intOf]; omega
              · have HS2 := Lib.hid (HP.out (some x) (HS3.out.trans (if_neg (by omega))).symm)
                clear HP HS3 hd2
                go_wp2_with fail
                go_roundw
                case rel => exact ⟨j + 1, by omega, by go_num, by rw [HS2.out]; rfl, by rw [HS2.out]; exact kB5, hw5⟩
                case measure => simp [intOf]; omega
            · have e2 : ((h - bh - (x.hi - x.lo)) == 0) = false := beq_eq_false_iff_ne.2 hd2
              have HS2 := Lib.hid (HP.out (some x) (HS3.out.trans (if_neg (by omega))).symm)
              clear HP HS3
              go_wp2_with fail
              go_roundw
              case rel => exact ⟨j + 1, by omega, by go_num, by rw [HS2.out]; rfl, by rw [HS2.out]; exact kB5, hw5⟩
              case measure => simp [intOf]; omega
        · obtain rfl : j = N := by omega
          have h8g : w.heap.size < g := by omega
          have kR := (k8.keep hwr3 h81).keep hwj h8g
          have hbr := (hbw.trans (hwr3.mono hbw.size)).trans (hwj.mono (Nat.le_of_lt h8g))
          have q0 := kR.cell 0
          have q1 := kR.cell 1
          have z0 := kR.free 0
          have z1 := kR.free 1
          simp at q0 q1
          cases ho : bestP b lo hi cand j with
          | none =>
            have HR := Lib.hid (show bestR (fun h => backF (zoneAt poly) h k) lo (hi + 1).toNat = none by rw [← HBF.out, ← HSAME2.out]; exact ho)
            simp only [Option.isSome_none]
            clear ho
            go_wp2_with fail
            have hk1 := put2 kR (.int .i64 0) (.int .i64 0)
            have hb2 := below_put2 hbr (Nat.le_refl _) (.int .i64 0) (.int .i64 0)
            generalize hW : World.setCell _ _ _ = W6 at hk1 hb2 ⊢
            clear hW q0 q1 z0 z1
            have q0 := hk1.cell 0
            have q1 := hk1.cell 1
            simp at q0 q1
            exact bodyPost_ret (v := .tuple #[zoneV ⟨0, 0⟩, .int .i64 18]) (by simp [results, Try.results13, go_sem, q0, q1, zoneV]) rfl (best_none HOK.out HR.out hb2)
          | some x =>
            have HR := Lib.hid (show bestR (fun h => backF (zoneAt poly) h k) lo (hi + 1).toNat = some x by rw [← HBF.out, ← HSAME2.out]; exact ho)
            rw [ho] at kB
            simp only [Option.getD_some] at kB
            simp only [Option.isSome_some]
            clear ho
            have y0 := kB.cell 0
            have y1 := kB.cell 1
            simp at y0 y1
            go_wp2_with fail
            have hk1 := put2 kR (.int .i64 x.lo) (.int .i64 x.hi)
            have hb2 := below_put2 hbr (Nat.le_refl _) (.int .i64 x.lo) (.int .i64 x.hi)
            generalize hW : World.setCell _ _ _ = W6 at hk1 hb2 ⊢
            clear hW q0 q1 z0 z1 y0 y1
            have q0 := hk1.cell 0
            have q1 := hk1.cell 1
            simp at q0 q1
            exact bodyPost_ret (v := .tuple #[zoneV x, .int .i64 0]) (by simp [results, Try.results13, go_sem, q0, q1, zoneV]) rfl (best_some HOK.out HR.out hb2)

end Go.Proofs.Ytcalchlfipbpkaa
