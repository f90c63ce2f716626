/- The reference's Greedy. -/
import Derived.Test.YtpjckolfjaffjaaPthD
namespace Go.Proofs.Ytpjckolfjaffjaa
open Go.RowKit
set_option linter.unusedSimpArgs false
set_option linter.unusedVariables false

/-- The first vertex of polygon x, in memory. -/
theorem first_vertex {W wr : World} {B m bq oq : Nat} {poly : Nat → Poly} (hq : Row W B 1 (some ⟨bq, oq, none⟩) m (fun i _ => .slice (poly i).pa (poly i).pn (poly i).pc)) (hs : ∀ i, i < m → Spots W B (poly i).pa (poly i).pn (poly i).spot)
    (hv : ∀ i, i < m → checkF (poly i).pn (poly i).spot = 0) (hb : Below B W wr) (hB : bq < B) {x : Nat} (hx : x < m) :
    0 < (poly x).pn ∧ ∃ b o, b < B ∧ wr.cell? ⟨bq, oq + x, none⟩ = some (.slice (some ⟨b, o, none⟩) (poly x).pn (poly x).pc) ∧ wr.cell? ⟨b, o, none⟩ = some (.int .i64 (startF poly x).x) ∧ wr.cell? ⟨b, o + 1, none⟩ = some (.int .i64 (startF poly x).y) := by
  have h3 := (check_n (hv x hx)).1
  obtain ⟨b, o, hA, hb', e0, e1⟩ := (hs x hx).at0 (by omega)
  refine ⟨by omega, b, o, hb', ?_, (hb.cell (p := ⟨b, o, none⟩) hb').trans e0, (hb.cell (p := ⟨b, o + 1, none⟩) hb').trans e1⟩
  have := (hb.cell (p := ⟨bq, oq + x, none⟩) hB).trans (hq.at1 hx)
  rw [hA] at this
  exact this

set_option maxRecDepth 100000 in
set_option maxHeartbeats 3200000 in
theorem rGreedy_any (A : Option Addr) (m c : Nat) (poly : Nat → Poly) (w : World) (hq : Polys w w.heap.size A m poly) :
    Calls Try.prog 15 #[.slice A m c] w (GreedyPost w m poly) := by
  have HQ := Lib.hid hq
  clear hq
  by_cases hm : m ≤ 1000
  rotate_left
  · have HE := Lib.hid (show chkErr m poly = 5 by unfold chkErr; rw [if_pos (by omega)])
    go_enter Try.func15, Try.ntmps15
    go_wp2_with fail
    refine (rcheckall_any A m c poly _ HQ.out).mono ?_
    rintro e w1 ⟨rfl, hb1⟩
    rw [HE.out]
    go_wp2_with fail
    go_ret2
    exact greedy_fail HE.out (by decide) hb1
  have hmk := run_make_row' (P := Try.prog) 49 4 (.bool false) 1 Try.underlying49 bool_info rfl .i64 .i64 m (by omega) (by omega)
  go_enter Try.func15, Try.ntmps15
  go_wp2_with fail
  refine (rcheckall_any A m c poly _ HQ.out).mono ?_
  rintro e w1 ⟨rfl, hb1⟩
  by_cases hE : chkErr m poly = 0
  rotate_left
  · have HE := Lib.hid hE
    have hne : (chkErr m poly != 0) = true := bne_iff_ne.2 hE
    clear hE
    go_wp2_with fail
    go_ret2
    exact greedy_fail rfl HE.out hb1
  have HE := Lib.hid hE
  have HV := Lib.hid (chk_valid hE).2
  have HST0 := start_ok (chk_valid hE).2
  have hm60 := (chk_valid hE).1
  rw [hE]
  clear hE
  have HQ1 := Lib.hid (HQ.out.later hb1)
  clear HQ
  obtain ⟨s, hs⟩ : ∃ s, s = startF poly := ⟨_, rfl⟩
  rw [← hs] at HST0
  have HST := Lib.hid HST0
  have HSS := Lib.hid hs
  clear hs HST0
  obtain ⟨i0, hi0, hz0, hz1, hz2⟩ := info_parts int_info
  have HI0 := Lib.hid hi0
  have HZ := Lib.hid (And.intro hz0 (And.intro hz1 hz2))
  clear hi0 hz0 hz1 hz2
  go_upto_region 7 with (fail)
  have hC := ((Owned.made w1 (.bool false) m 4 (by simp only [maxLen]; omega)).congr (g := fun i _ => .bool ((greedyL s m 0).contains i)) (fun i j _ _ => rfl)).alloc (.cells #[.int .i64 0, .int .i64 0] 37)
  have k6 := Blk.new (w1.alloc (.cells (madeCells #[.bool false] m) 4)) 37 #[.int .i64 (lastS s (greedyL s m 0)).x, .int .i64 (lastS s (greedyL s m 0)).y]
  change Blk ((w1.alloc _).alloc (.cells #[.int .i64 0, .int .i64 0] 37)) _ _ _ at k6
  rw [show (w1.alloc (.cells (madeCells #[.bool false] m) 4)).heap.size = w1.heap.size + 1 by simp] at k6
  have hW0 := below_a2 w1 (.cells (madeCells #[.bool false] m) 4) (.cells #[.int .i64 0, .int .i64 0] 37)
  have HNB := Lib.hid (show Row _ w1.heap.size 1 A m (fun i _ => .slice (poly i).pa (poly i).pn (poly i).pc) from HQ1.out.1.keep hW0)
  have HSB := Lib.hid (fun i hi => (HQ1.out.2 i hi).1.keep hW0)
  obtain ⟨B, hBe⟩ : ∃ B, B = w1.heap.size := ⟨_, rfl⟩
  have hBw : w.heap.size ≤ B := by have := hb1.size; omega
  have hb1' : Below w.heap.size w w1 := hb1
  rw [← hBe] at k6 hC HNB HSB hW0
  rw [← hBe]
  obtain ⟨gk, hgk⟩ : ∃ gk, gk = B + 1 := ⟨_, rfl⟩
  rw [← hgk] at k6
  rw [← hgk]
  have hC1 := hC
  have hbc : gk ≠ B := by omega
  have hbc2 : B ≤ gk := by omega
  generalize hW : World.alloc _ _ = W at k6 hC1 HNB HSB hW0 ⊢
  clear hW hBe hgk hC hmk HQ1
  go_wp2_with fail
  go_loopw [5, 8] (fun v t wr => ∃ k : Nat, k ≤ m ∧ t = .int .i64 k ∧ Owned wr B 3 1 v k (fun j _ => .int .i64 (gordF s m k j)) ∧ Owned wr B 4 1 (.slice (some ⟨B, 0, none⟩) m m) m (fun i _ => .bool ((greedyL s m k).contains i)) ∧
      Blk wr gk 37 #[.int .i64 (lastS s (greedyL s m k)).x, .int .i64 (lastS s (greedyL s m k)).y] ∧ Below B W wr) (fun _ t _ => m - (intOf t).toNat)
  case atStart => exact ⟨0, Nat.zero_le _, rfl, Owned.nil _ _ _ _ _, hC1, k6, Below.refl _ _⟩
  case round =>
    obtain ⟨k, hk, rfl, kO, kC, kK, hwr⟩ := hrel
    clear k6 hC1
    have hkl := kK.lt
    have hBl : B < wr.heap.size := kC.cells1.2.1
    by_cases hlt : k < m
    · have hlt' : (k : Int) < m := by omega
      have hk0 : (0 : Int) ≤ k := by omega
      have okL := Lib.hid (last_ok HST.out (Nat.le_of_lt hlt))
      obtain ⟨hxa, hxb⟩ : ∃ K, lastS s (greedyL s m k) = K := ⟨_, rfl⟩
      obtain ⟨bq, oq, rfl, hBq⟩ := HNB.out.addr (by omega)
      obtain ⟨wo, hwo⟩ : ∃ wo, wo = wr := ⟨_, rfl⟩
      have HPK := Lib.hid (pickG_spec s hlt)
      have HPD := Lib.hid (show pickG s m k = nextF (fun i => distF (lastS s (greedyL s m k)) (s i)) (fun i => (greedyL s m k).contains i) m from rfl)
      rw [← hwo] at kO kC kK hwr hBl hkl
      rw [← hwo]
      clear hwo hxb
      go_wp2_with fail
      go_loopw [9, 10] (fun nx t wr => ∃ i : Nat, i ≤ m ∧ t = .int .i64 i ∧ nx = .int .i64 (nextF (fun i => distF (lastS s (greedyL s m k)) (s i)) (fun i => (greedyL s m k).contains i) i) ∧ Below wo.heap.size wo wr) (fun _ t _ => m - (intOf t).toNat)
      case atStart => exact ⟨0, Nat.zero_le _, rfl, rfl, Below.refl _ _⟩
      case round =>
        obtain ⟨i, hi, rfl, rfl, hwi⟩ := hrel
        by_cases hli : i < m
        · have hli' : (i : Int) < m := by omega
          have hi0 : (0 : Int) ≤ i := by omega
          have HNX := Lib.hid (show nextF (fun i => distF (lastS s (greedyL s m k)) (s i)) (fun i => (greedyL s m k).contains i) (i + 1) = if (greedyL s m k).contains i = false ∧ (nextF (fun i => distF (lastS s (greedyL s m k)) (s i)) (fun i => (greedyL s m k).contains i) i < 0 ∨ distF (lastS s (greedyL s m k)) (s i) < distF (lastS s (greedyL s m k)) (s (nextF (fun i => distF (lastS s (greedyL s m k)) (s i)) (fun i => (greedyL s m k).contains i) i).toNat)) then (i : Int) else nextF (fun i => distF (lastS s (greedyL s m k)) (s i)) (fun i => (greedyL s m k).contains i) i from rfl)
          have HNC := Lib.hid (next_cases (fun i => distF (lastS s (greedyL s m k)) (s i)) (fun i => (greedyL s m k).contains i) i)
          obtain ⟨_, hgl, hcell, _⟩ := kC.cells1
          have y0 := (hwi.cell (p := ⟨B, i, none⟩) hgl).trans (hcell i hli)
          have y1 := (hwi.cell (p := ⟨gk, 0, none⟩) hkl).trans (kK.cell 0)
          have y2 := (hwi.cell (p := ⟨gk, 1, none⟩) hkl).trans (kK.cell 1)
          have hwB := hwr.trans (hwi.mono (Nat.le_of_lt hBl))
          have HSP := Lib.hid (fun (x : Nat) (hx : x < m) => first_vertex HNB.out HSB.out HV.out hwB hBq hx)
          rw [← HSS.out] at HSP
          have hki : gk < wr.heap.size := Nat.lt_of_lt_of_le hkl hwi.size
          have hBi : B < wr.heap.size := Nat.lt_of_lt_of_le hBl hwi.size
          simp at y1 y2
          clear hcell
          generalize lastS s (greedyL s m k) = K at *
          generalize hnx : nextF (fun i => distF K (s i)) (fun i => (greedyL s m k).contains i) i = nx at *
          clear hnx
          have x0 := fun z : Ext wr.heap.size wr => z.cell (b := B) hBi y0
          cases hd : (greedyL s m k).contains i
          rotate_left
          · have HN2 := Lib.hid (HNX.out.trans (if_neg (fun h => by rw [hd] at h; cases h.1)))
            rw [hd] at y0
            simp only [hd] at x0
            clear hd
            go_upto_region 14 with (fail)
            refine region_ext wr.heap.size (by kernel_rfl) (by kernel_rfl) ?_
            repeat (go_big_quiet_step (fail))
            refine wpQuiet_nil ?_
            rintro _ ⟨z, rfl⟩
            obtain ⟨wq, hq⟩ := z
            dsimp only
            have hwq := below_up hwi hq
            clear x0 y0 y1 y2
            go_wp2_with fail
            go_roundw
            case rel => exact ⟨i + 1, by omega, by go_num, by rw [HN2.out], hwq⟩
            case measure => simp [intOf]; omega
          have HD := Lib.hid hd
          rw [hd] at y0
          simp only [hd] at x0
          clear hd
          rcases HNC.out with ⟨rfl, _⟩ | ⟨x, hx, rfl, _, _⟩
          · have HN2 := Lib.hid (HNX.out.trans (if_pos ⟨HD.out, .inl (by omega)⟩))
            clear HNX HNC
            go_upto_region 14 with (fail)
            refine region_ext wr.heap.size (by kernel_rfl) (by kernel_rfl) ?_
            repeat (go_big_quiet_step (fail))
            refine wpQuiet_nil ?_
            rintro _ ⟨z, rfl⟩
            obtain ⟨wq, hq⟩ := z
            dsimp only
            have hwq := below_up hwi hq
            clear x0 y0 y1 y2
            go_wp2_with fail
            go_roundw
            case rel => exact ⟨i + 1, by omega, by go_num, by rw [HN2.out], hwq⟩
            case measure => simp [intOf]; omega
          · have hxm : x < m := by omega
            have hxm' : (x : Int) < m := by omega
            have hx0 : (0 : Int) ≤ x := by omega
            have hxn : ¬ (x : Int) < 0 := by omega
            obtain ⟨p1, b1, o1, l1, r1, a0, a1⟩ := HSP.out i hli
            obtain ⟨p2, b2, o2, l2, r2, b0, b1'⟩ := HSP.out x hxm
            have p1' : (0 : Int) < (poly i).pn := by omega
            have p2' : (0 : Int) < (poly x).pn := by omega
            have x1 := fun z : Ext wr.heap.size wr => z.cell (b := gk) hki y1
            have x2 := fun z : Ext wr.heap.size wr => z.cell (b := gk) hki y2
            have x3 := fun z : Ext wr.heap.size wr => z.cell (b := b1) (by omega) a0
            have x4 := fun z : Ext wr.heap.size wr => z.cell (b := b1) (by omega) a1
            have x5 := fun z : Ext wr.heap.size wr => z.cell (b := b2) (by omega) b0
            have x6 := fun z : Ext wr.heap.size wr => z.cell (b := b2) (by omega) b1'
            have x7 := fun z : Ext wr.heap.size wr => z.cell (b := bq) (by omega) r1
            have x8 := fun z : Ext wr.heap.size wr => z.cell (b := bq) (by omega) r2
            have oki := Lib.hid (HST.out i hli)
            have okx := Lib.hid (HST.out x hxm)
            clear HNC y0 y1 y2 a0 a1 b0 b1' r1 r2
            by_cases hc : distF K (s i) < distF K (s x)
            · have HN2 := Lib.hid (HNX.out.trans (if_pos ⟨HD.out, .inr (by rw [Int.toNat_natCast]; exact hc)⟩))
              clear HNX
              go_upto_region 14 with (fail)
              refine region_ext wr.heap.size (by kernel_rfl) (by kernel_rfl) ?_
              repeat (go_big_quiet_step (first | (go_at_call 21; refine calls_ext (by omega) (rdistance_any K _ _ okL.out ?_); first | exact oki.out | exact okx.out)))
              refine wpQuiet_nil ?_
              rintro _ ⟨z, rfl⟩
              obtain ⟨wq, hq⟩ := z
              dsimp only
              have hwq := below_up hwi hq
              clear x0 x1 x2 x3 x4 x5 x6 x7 x8
              go_wp2_with fail
              go_roundw
              case rel => exact ⟨i + 1, by omega, by go_num, by rw [HN2.out], hwq⟩
              case measure => simp [intOf]; omega
            · have HN2 := Lib.hid (HNX.out.trans (if_neg (fun h => by
                rcases h.2 with h' | h'
                · omega
                · rw [Int.toNat_natCast] at h'; exact hc h')))
              clear HNX
              go_upto_region 14 with (fail)
              refine region_ext wr.heap.size (by kernel_rfl) (by kernel_rfl) ?_
              repeat (go_big_quiet_step (first | (go_at_call 21; refine calls_ext (by omega) (rdistance_any K _ _ okL.out ?_); first | exact oki.out | exact okx.out)))
              refine wpQuiet_nil ?_
              rintro _ ⟨z, rfl⟩
              obtain ⟨wq, hq⟩ := z
              dsimp only
              have hwq := below_up hwi hq
              clear x0 x1 x2 x3 x4 x5 x6 x7 x8
              go_wp2_with fail
              go_roundw
              case rel => exact ⟨i + 1, by omega, by go_num, by rw [HN2.out], hwq⟩
              case measure => simp [intOf]; omega
        · obtain rfl : i = m := by omega
          obtain ⟨x, hx, hpx, _, _⟩ := HPK.out
          have hnx := HPD.out.symm.trans hpx
          rw [hnx]
          have HPX := Lib.hid hpx
          clear hnx hpx HPK HPD
          have hx' : (x : Int) < i := by omega
          have hx0 : (0 : Int) ≤ x := by omega
          have rO := kO.later hwi
          have rC := kC.later hwi
          have rK := kK.later hwi
          have rb := hwr.trans (hwi.mono (Nat.le_of_lt hBl))
          have hz3 : B ≤ wr.heap.size := Nat.le_of_lt rC.cells1.2.1
          clear kO kC kK hwi hwr
          go_upto_region 17 with (at_builtin; refine wpList_append_row _ rfl _ _ _ rfl B 3 i0 _ 1 8 Try.underlying23 HI0.out HZ.out.1 HZ.out.2.1 HZ.out.2.2 rfl (by omega) _ k _ rfl (rO.alloc _) _ _ 1 1 (fun _ _ => .int .i64 x) rfl (Row.lit wr #[.int .i64 x] 1 3 1 _ (by simp only [maxLen]; omega) rfl) (fun i j _ hj => rfl) (by simp only [maxLen]; omega) (by omega) (by simp; omega) ?_; intro v' w4 hown hgr hbk)
          have ub0 := (rO.alloc (.cells #[.int .i64 x] 3)).below_grown (rb.alloc hz3 _) (Nat.le_refl _) (by simp; omega) hgr
          have uC0 := (rC.alloc (.cells #[.int .i64 x] 3)).grown_other (rO.alloc _) (by decide) hgr
          have uK0 := (rK.alloc (.cells #[.int .i64 x] 3)).grown hgr ((rK.alloc (.cells #[.int .i64 x] 3)).apart (rO.alloc _) (by decide))
          have uO0 := hown.congr (g := fun j _ => .int .i64 (gordF s i (k + 1) j)) (fun l j hl hj => by
            unfold glue
            rw [gord_succ s i k x HPX.out l (by omega)]
            by_cases hlk : l < k
            · rw [if_pos hlk, if_pos hlk]
            · rw [if_neg hlk, if_neg hlk])
          clear hown hgr hbk rO rC rK rb hz3
          obtain ⟨_, hgl, hcell, hfz⟩ := uC0.cells1
          have y0 := hcell x hx
          have z0 := hfz x
          clear hcell hfz
          go_upto_region 18 with (fail)
          have sC := (uC0.put1 (k := x) (.bool true)).congr (g := fun l _ => .bool ((greedyL s i (k + 1)).contains l)) (fun l j hl hj => by
            unfold upd
            rw [contains_succ s i k x HPX.out]
            by_cases hlx : l = x
            · rw [if_pos hlx, if_pos ⟨hlx, by omega⟩]
            · rw [if_neg hlx, if_neg (fun h => hlx h.1)])
          have sO := uO0.far (p := ⟨B, x, none⟩) (fun e => uC0.sep uO0 (by decide) B rfl e) (.bool true)
          have sK := uK0.far (p := ⟨B, x, none⟩) hbc (.bool true)
          have sb := ub0.setCell (p := ⟨B, x, none⟩) (Nat.le_refl _) (.bool true)
          generalize hW : World.setCell _ _ _ = W2 at sC sO sK sb ⊢
          clear hW y0 z0 uO0 uC0 uK0 ub0 hgl
          obtain ⟨p1, b1, o1, l1, r1, a0, a1⟩ := first_vertex HNB.out HSB.out HV.out sb hBq hx
          rw [← HSS.out] at a0 a1
          have p1' : (0 : Int) < (poly x).pn := by omega
          have c0 := sK.cell 0
          have c1 := sK.cell 1
          have z0 := sK.free 0
          have z1 := sK.free 1
          simp at c0 c1
          go_upto_region 9 with (fail)
          have uK := put2 sK (.int .i64 (s x).x) (.int .i64 (s x).y)
          have uC := (sC.far (p := ⟨gk, 0, none⟩) (by simp [Value.ownBlock]; omega) (.int .i64 (s x).x)).far (p := ⟨gk, 1, none⟩) (by simp [Value.ownBlock]; omega) (.int .i64 (s x).y)
          have hap := sK.apart sO (by decide)
          have uO := (sO.far (p := ⟨gk, 0, none⟩) (Ne.symm hap) (.int .i64 (s x).x)).far (p := ⟨gk, 1, none⟩) (Ne.symm hap) (.int .i64 (s x).y)
          have ub := below_put2 sb hbc2 (.int .i64 (s x).x) (.int .i64 (s x).y)
          generalize hW : World.setCell _ _ _ = W3 at uK uC uO ub ⊢
          clear hW a0 a1 c0 c1 z0 z1 sK sC sO sb hap r1
          rw [← last_succ s i k x HPX.out] at uK
          go_wp2_with fail
          go_roundw
          case rel => exact ⟨k + 1, by omega, by go_num, uO, uC, uK, ub⟩
          case measure => simp [intOf]; omega
    · obtain rfl : k = m := by omega
      have hf : Owned wr w.heap.size 3 1 u5 k (fun j _ => .int .i64 (gordF (startF poly) k k j)) := by
        have := kO.mono hBw
        rw [← HSS.out]
        exact this
      go_wp2_with fail
      go_ret2
      exact ⟨(hb1'.trans (hW0.mono hBw)).trans (hwr.mono hBw), .inl ⟨HE.out, _, rfl, hf⟩⟩

end Go.Proofs.Ytpjckolfjaffjaa
