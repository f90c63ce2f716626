/- SpliceOrder: the walk. -/
import Derived.Test.YtcalchlfipbpkaaSplJ
namespace Go.Proofs.Ytcalchlfipbpkaa
open Go.RowKit
set_option linter.unusedSimpArgs false
set_option linter.unusedVariables false

def rectC (lo hi : Int) : Nat → Nat → Value := fun i j => if j = 0 then .int .i64 (rect lo hi i).x else .int .i64 (rect lo hi i).y

theorem boxown_any (lo hi : Int) (w : World) : Calls Try.prog 17 #[.int .i64 lo, .int .i64 hi] w fun e w' => ∃ A, e = .returned (.slice A 4 4) ∧ Owned w' w.heap.size 50 2 (.slice A 4 4) 4 (rectC lo hi) ∧ Below w.heap.size w w' := by
  have h1 := Owned.lit w #[.int .i64 lo, .int .i64 0, .int .i64 hi, .int .i64 0, .int .i64 hi, .int .i64 5, .int .i64 lo, .int .i64 5] 4 50 2 (rectC lo hi) (by simp only [maxLen]; omega) rfl
  have HS := Lib.hid h1
  clear h1
  go_enter Try.func17, Try.ntmps17
  go_wp2_with fail
  go_ret
  exact ⟨_, rfl, HS.out, below_a1 _ _⟩

theorem spots_info : (Try.prog.info? 39).map (fun i => (i.zero, i.size, i.bytes)) = some (some (.slice none 0 0), 1, 24) := by kernel_rfl

theorem owned_spots {w : World} {base : Nat} {A : Option Addr} {lo hi : Int} (h : Owned w base 50 2 (.slice A 4 4) 4 (rectC lo hi)) : Spots w w.heap.size A 4 (rect lo hi) := by
  obtain ⟨A', c', e, _, _, hr⟩ := h.form
  injection e with e1 _ _
  rw [e1]
  exact spots_of_row hr

set_option maxRecDepth 100000 in
set_option maxHeartbeats 3200000 in
theorem order_any (len : Int) (A : Option Addr) (m c : Nat) (poly : Nat → Poly) (lo hi : Int) (w : World) (hq : PolysIn w A m poly) :
    Calls Try.prog 8 #[.int .i64 len, .slice A m c, .int .i64 lo, .int .i64 hi] w fun e w' => e = .returned (.bool true) ∧ Below w.heap.size w w' := by
  have HQ := Lib.hid hq
  clear hq
  by_cases hbig : 200 < hi
  · go_enter Try.func8, Try.ntmps8
    go_wp2_with fail
    refine (few_any A m c 30 poly _ (by omega) HQ.out.1).mono ?_
    rintro e w1 ⟨hb1, rfl | ⟨rfl, hm, hs⟩⟩
    all_goals
      go_wp2_with fail
      refine (awake_any _).mono ?_
      rintro e w2 ⟨rfl, hb2⟩
      go_wp2_with fail
      go_ret
      exact ⟨rfl, below_up hb1 hb2⟩
  go_enter Try.func8, Try.ntmps8
  go_wp2_with fail
  refine (few_any A m c 30 poly _ (by omega) HQ.out.1).mono ?_
  rintro e w1 ⟨hb1, rfl | ⟨rfl, hm, hs⟩⟩
  · go_wp2_with fail
    refine (awake_any _).mono ?_
    rintro e w2 ⟨rfl, hb2⟩
    go_wp2_with fail
    go_ret
    exact ⟨rfl, below_up hb1 hb2⟩
  have HQ1 := Lib.hid ((HQ.out.few hs).later hb1)
  clear HQ hs
  obtain ⟨i0, hi0, hz0, hz1, hz2⟩ := info_parts spots_info
  have HI0 := Lib.hid hi0
  have HZ := Lib.hid (And.intro hz0 (And.intro hz1 hz2))
  clear hi0 hz0 hz1 hz2
  go_wp2_with fail
  go_loopw [9, 10] (fun v t wr => ∃ (k : Nat) (ad : Nat → Option Addr), k ≤ m ∧ t = .int .i64 ((m : Int) - 1 - k) ∧ Hid (∀ i, i < k → checkF (poly (m - 1 - i)).pn (poly (m - 1 - i)).spot = 0) ∧
      Owned wr w1.heap.size 39 1 v k (fun j _ => .slice (ad j) 4 4) ∧ Hid (∀ j, j < k → Owned wr w1.heap.size 50 2 (.slice (ad j) 4 4) 4 (rectC (zoneAt poly (m - 1 - j)).lo (zoneAt poly (m - 1 - j)).hi)) ∧ Below w1.heap.size w1 wr) (fun _ t _ => (intOf t + 1).toNat)
  case atStart => exact ⟨0, fun _ => none, Nat.zero_le _, by first | rfl | go_num | (congr 1; omega), Lib.hid (fun i hi => absurd hi (by omega)), Owned.nil _ _ _ _ _, Lib.hid (fun i hi => absurd hi (by omega)), Below.refl _ _⟩
  case round =>
    obtain ⟨k, ad, hk, rfl, hno, kN, kS, hwr⟩ := hrel
    have hs1 : w1.heap.size ≤ wr.heap.size := hwr.size
    by_cases hlt : k < m
    · obtain ⟨i, hi', hki⟩ : ∃ i, i < m ∧ k = m - 1 - i := ⟨m - 1 - k, by omega, by omega⟩
      have hmi : m - 1 - k = i := by omega
      obtain ⟨hsp, hpc, hpn⟩ := HQ1.out.2 i hi'
      obtain ⟨bp, op, rfl, hBp⟩ := HQ1.out.1.addr (by omega)
      have f0 := (hwr.cell (p := ⟨_, _, none⟩) hBp).trans (HQ1.out.1.at1 hi')
      have HSP := Lib.hid (hsp.later hwr)
      have hval : (m : Int) - 1 - k = (i : Int) := by omega
      rw [hval]
      have HVAL := Lib.hid hval
      have HMI := Lib.hid hmi
      clear hsp hki hval hmi
      have hlt' : (i : Int) < m := by omega
      have hi0 : (0 : Int) ≤ i := by omega
      go_wp2_with fail
      by_cases hck : checkF (poly i).pn (poly i).spot = 0
      rotate_left
      · refine (box_err _ _ _ _ _ hpn hpc HSP.out _ rfl hck).mono ?_
        rintro r w2 ⟨rfl, hb2⟩
        have hne : (checkF (poly i).pn (poly i).spot != 0) = true := bne_iff_ne.2 hck
        have qb2 := below_up (below_up hb1 hwr) hb2
        clear hck f0
        simp only [zeroV]
        go_wp2_with fail
        refine (awake_any _).mono ?_
        rintro e w4 ⟨rfl, hb6⟩
        go_wp2_with fail
        go_ret
        exact ⟨rfl, below_up (qb2.alloc qb2.size _) hb6⟩
      have HOK := Lib.hid hck
      obtain ⟨z1, z2, z3, z4⟩ := zone_bd hck
      refine (box_ok _ _ _ _ _ hpn hpc HSP.out hck).mono ?_
      rintro r w2 ⟨rfl, hb2⟩
      have rN := kN.later hb2
      have rS := Lib.hid (fun j hj => (kS.out j hj).later hb2)
      have rb := below_up hwr hb2
      have HZ1 := Lib.hid (show (zoneAt poly i).lo = minTo (spotX (poly i).spot) (poly i).pn from rfl)
      have HZ2 := Lib.hid (show (zoneAt poly i).hi = minTo (spotX (poly i).spot) (poly i).pn + (maxTo (spotX (poly i).spot) (poly i).pn - minTo (spotX (poly i).spot) (poly i).pn) from rfl)
      clear hck f0 kN kS hb2 HSP
      simp only [boxV]
      generalize minTo (spotX (poly i).spot) (poly i).pn = a at *
      generalize maxTo (spotX (poly i).spot) (poly i).pn = b at *
      generalize minTo (spotY (poly i).spot) (poly i).pn = a' at *
      generalize maxTo (spotY (poly i).spot) (poly i).pn = b' at *
      go_upto_region 10 with (fail)
      have sB := Blk.new w2 36 #[.int .i64 a, .int .i64 a', .int .i64 (b - a), .int .i64 (b' - a')]
      have sN := rN.alloc (.cells #[.int .i64 a, .int .i64 a', .int .i64 (b - a), .int .i64 (b' - a')] 36)
      have sS := Lib.hid (fun j hj => (rS.out j hj).alloc (.cells #[.int .i64 a, .int .i64 a', .int .i64 (b - a), .int .i64 (b' - a')] 36))
      have sb := rb.alloc rb.size (.cells #[.int .i64 a, .int .i64 a', .int .i64 (b - a), .int .i64 (b' - a')] 36)
      generalize hW : w2.alloc _ = W at sB sN sS sb ⊢
      clear hW rN rS rb
      have g0 := sB.cell 0
      have g2 := sB.cell 2
      simp at g0 g2
      have hz3 : w1.heap.size ≤ W.heap.size := sb.size
      go_wp2_with fail
      refine (boxown_any a (a + (b - a)) _).mono ?_
      rintro r w3 ⟨AB, rfl, oB, hb3⟩
      have oB1 := oB.mono hz3
      have uN := sN.later hb3
      have uS := Lib.hid (fun j hj => (sS.out j hj).later hb3)
      have ub := below_up sb hb3
      have hz4 : w1.heap.size ≤ w3.heap.size := ub.size
      clear sN sS sb sB g0 g2 hb3 oB
      go_wp2_with (at_builtin; refine wpList_append_row _ rfl _ _ _ rfl w1.heap.size 39 i0 _ 1 24 Try.underlying22 HI0.out HZ.out.1 HZ.out.2.1 HZ.out.2.2 rfl (by omega) _ k _ rfl (uN.alloc _) _ _ 1 1 (fun _ _ => .slice AB 4 4) rfl (Row.lit w3 #[.slice AB 4 4] 1 39 1 _ (by simp only [maxLen]; omega) rfl) (fun i j _ hj => rfl) (by simp only [maxLen]; omega) (by omega) (by simp; omega) ?_; intro v' w4 hown hgr hbk)
      have hvb := (uN.alloc (.cells #[.slice AB 4 4] 39)).below_grown (ub.alloc hz4 _) (Nat.le_refl _) (by simp; omega) hgr
      have vS := Lib.hid (fun j hj => ((uS.out j hj).alloc (.cells #[.slice AB 4 4] 39)).grown_other (uN.alloc _) (by decide) hgr)
      have vB := (oB1.alloc (.cells #[.slice AB 4 4] 39)).grown_other (uN.alloc _) (by decide) hgr
      go_roundw
      case rel =>
        refine ⟨k + 1, fun j => if j < k then ad j else AB, by omega, by have := HVAL.out; first | (congr 1; omega) | go_num, Lib.hid (fun j hj => ?_), hown.congr (fun j l hj hl => ?_), Lib.hid (fun j hj => ?_), hvb⟩
        · rcases Nat.lt_succ_iff_lt_or_eq.1 hj with h' | rfl
          · exact hno.out j h'
          · rw [HMI.out]; exact HOK.out
        · unfold glue
          by_cases hjk : j < k
          · simp only [hjk, if_true]
          · simp only [hjk, if_false]
        · by_cases hjk : j < k
          · simp only [hjk, if_true]; exact vS.out j hjk
          · obtain rfl : j = k := by omega
            simp only [hjk, if_false]
            rw [HMI.out, HZ1.out, HZ2.out]
            exact vB
      case measure => simp [intOf]; try omega
    · obtain rfl : k = m := by omega
      obtain ⟨AN, cN, rfl, _, _, rN⟩ := kN.form
      have HV := Lib.hid (show ∀ i, i < k → checkF (poly i).pn (poly i).spot = 0 from fun i hi => by
        have := hno.out (k - 1 - i) (by omega)
        rwa [show k - 1 - (k - 1 - i) = i by omega] at this)
      obtain ⟨pol2, hpol⟩ : ∃ pol2 : Nat → Poly, pol2 = fun j => ⟨ad j, 4, 4, rect (zoneAt poly (k - 1 - j)).lo (zoneAt poly (k - 1 - j)).hi⟩ := ⟨_, rfl⟩
      have HT := Lib.hid (show Turned k poly pol2 from fun j hj => by rw [hpol]; exact ⟨rfl, rfl⟩)
      have HP2 := Lib.hid (show Polys wr wr.heap.size AN k pol2 from ⟨by rw [hpol]; exact rN, fun j hj => by rw [hpol]; exact ⟨owned_spots (kS.out j hj), Nat.le_refl _, by show 4 ≤ 100; omega⟩⟩)
      have HPr := Lib.hid (HQ1.out.later hwr)
      have hbr := below_up hb1 hwr
      clear hpol kN kS rN hno HQ1 hwr hb1
      have hneg : (k : Int) - 1 - k = -1 := by omega
      rw [hneg]
      clear hneg
      go_wp2_with fail
      refine (Back_any len _ k _ poly hi _ HPr.out).mono ?_
      rintro e w2 ⟨rfl, hb2⟩
      have P2 := Lib.hid (HP2.out.later hb2)
      have Pr := Lib.hid (HPr.out.later hb2)
      have bb2 := below_up hbr hb2
      clear HP2 HPr hb2 hbr
      go_wp2_with fail
      refine (Back_any len _ k _ pol2 hi _ P2.out).mono ?_
      rintro e w3 ⟨rfl, hb3⟩
      rw [(turned_Back HT.out HV.out len hi).1, (turned_Back HT.out HV.out len hi).2]
      have P3 := Lib.hid (P2.out.later hb3)
      have Pr3 := Lib.hid (Pr.out.later hb3)
      have bb3 := below_up bb2 hb3
      clear P2 Pr hb3 bb2
      generalize backV len k poly hi = x
      generalize backErr len k poly hi = ex
      go_wp2_with fail
      refine (Best_any len _ k _ poly lo hi _ Pr3.out).mono ?_
      rintro e w4 ⟨rfl, hb4⟩
      have P4 := Lib.hid (P3.out.later hb4)
      have bb4 := below_up bb3 hb4
      clear P3 Pr3 hb4 bb3
      have HB := Lib.hid (turned_Best HT.out HV.out len lo hi)
      generalize bestZ len k poly lo hi = z at *
      generalize bestCode len k poly lo hi = y at *
      simp only [zoneV]
      go_upto_region 14 with (fail)
      have k1 := Blk.new w4 30 #[.int .i64 z.lo, .int .i64 z.hi]
      have P5 := Lib.hid (P4.out.later (below_a1 w4 (.cells #[.int .i64 z.lo, .int .i64 z.hi] 30)))
      have bb5 := below_up bb4 (below_a1 w4 (.cells #[.int .i64 z.lo, .int .i64 z.hi] 30))
      obtain ⟨g1, hg1⟩ : ∃ g1, g1 = w4.heap.size := ⟨_, rfl⟩
      rw [← hg1] at k1
      rw [← hg1]
      generalize hW : w4.alloc _ = W5 at k1 P5 bb5 ⊢
      clear hW hg1 bb4 P4
      go_wp2_with fail
      refine (Best_any len _ k _ pol2 lo hi _ P5.out).mono ?_
      rintro e w6 ⟨rfl, hb6⟩
      rw [HB.out.1, HB.out.2]
      simp only [zoneV]
      have k2 := k1.later hb6
      have bb6 := below_up bb5 hb6
      clear k1 P5 bb5 hb6
      go_upto_region 15 with (fail)
      have k3 := k2.alloc (.cells #[.int .i64 z.lo, .int .i64 z.hi] 30)
      have k4 := Blk.new w6 30 #[.int .i64 z.lo, .int .i64 z.hi]
      have bb7 := below_up bb6 (below_a1 w6 (.cells #[.int .i64 z.lo, .int .i64 z.hi] 30))
      obtain ⟨g2, hg2⟩ : ∃ g2, g2 = w6.heap.size := ⟨_, rfl⟩
      rw [← hg2] at k4
      rw [← hg2]
      generalize hW : w6.alloc _ = W7 at k3 k4 bb7 ⊢
      clear hW hg2 bb6 k2
      have c0 := k3.cell 0
      have c1 := k3.cell 1
      have c2 := k4.cell 0
      have c3 := k4.cell 1
      simp at c0 c1 c2 c3
      have hq1 := zone_eql
      have hq2 := zone_guard
      have hsz := same_zone_self z
      have hxx : (x == x) = true := by simp
      have hee : (ex == ex) = true := by simp
      have hyy : (y == y) = true := by simp
      go_wp2_with fail
      refine (awake_any _).mono ?_
      rintro e w8 ⟨rfl, hb8⟩
      go_wp2_with fail
      go_ret
      exact ⟨rfl, below_up bb7 hb8⟩

end Go.Proofs.Ytcalchlfipbpkaa
