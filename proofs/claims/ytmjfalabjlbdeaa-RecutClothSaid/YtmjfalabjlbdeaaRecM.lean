/- RecutCloth: the plain law and the walk. -/
import Derived.Test.YtmjfalabjlbdeaaRecL
import Derived.StillTailTactics
namespace Go.Proofs.Ytmjfalabjlbdeaa
open Go.RowKit
set_option linter.unusedSimpArgs false
set_option linter.unusedVariables false

/-- What a need gets is nothing, or a rest of its lot, and then its beginning rises by the need's length and that of no other. -/
theorem cloth_step (n : Nat) (need : Nat → Need) (rest : Nat → Rest) (k : Nat) :
    (gotF n need rest k = -1 ∧ leftF n need rest (k + 1) = leftF n need rest k) ∨
    ∃ j, j < n ∧ gotF n need rest k = (j : Nat) ∧ 1 ≤ (need k).len ∧ (need k).len ≤ 1048576 ∧ (rest j).lot = (need k).lot ∧
      0 ≤ (leftF n need rest k j).frm - (rest j).frm ∧ (leftF n need rest k j).frm - (rest j).frm + (need k).len ≤ 1048576 ∧
      ∀ i, (leftF n need rest (k + 1) i).frm = (leftF n need rest k i).frm + (if i = j then (need k).len else 0) := by
  rcases pick_spec n (leftF n need rest k) (need k) with ⟨hp, _⟩ | ⟨j, hj, hp, hserv, _⟩
  · refine .inl ⟨hp, ?_⟩
    show cutF (leftF n need rest k) (pickF n (leftF n need rest k) (need k)) (need k).len = _
    rw [hp, cut_none]
  · refine .inr ⟨j, hj, hp, ?_⟩
    have hb := serves_bd (d1 := (need k).lot) (d2 := (need k).len) hserv
    have hr := left_rise n need rest 0 k j
    rw [Nat.zero_add] at hr
    obtain ⟨r1, r2, r3, r4⟩ := hr
    have hl : (leftF n need rest k j).lot = (need k).lot := by
      unfold servesF at hserv
      exact (of_decide_eq_true hserv).2.2.1
    have r2' : (leftF n need rest k j).lot = (rest j).lot := r2
    have r4' : (leftF n need rest k j).frm = (rest j).frm ∨ (0 ≤ (rest j).frm ∧ (rest j).frm ≤ (leftF n need rest k j).frm ∧ (leftF n need rest k j).frm ≤ (rest j).til ∧ (rest j).til ≤ 1048576) := r4
    refine ⟨hb.1, hb.2.1, by omega, by omega, by omega, fun i => ?_⟩
    show (cutF (leftF n need rest k) (pickF n (leftF n need rest k) (need k)) (need k).len i).frm = _
    rw [hp]
    unfold cutF
    by_cases hi : i = j
    · rw [if_pos (by omega), if_pos hi]
    · rw [if_neg (by omega), if_neg hi]
      omega

theorem cloth_end (n : Nat) (need : Nat → Need) (rest : Nat → Rest) (m j : Nat) :
    ∃ s : Int, leftF n need rest m j = ⟨(rest j).roll, (rest j).lot, (rest j).frm + s, (rest j).til⟩ ∧ (s = 0 ∨ (0 ≤ s ∧ s ≤ 1048576 ∧ usableF (rest j) = true ∧ (rest j).frm + s ≤ (rest j).til)) := by
  have hr := left_rise n need rest 0 m j
  rw [Nat.zero_add] at hr
  obtain ⟨r1, r2, r3, r4⟩ := hr
  have r1' : (leftF n need rest m j).roll = (rest j).roll := r1
  have r2' : (leftF n need rest m j).lot = (rest j).lot := r2
  have r3' : (leftF n need rest m j).til = (rest j).til := r3
  have r4' : (leftF n need rest m j).frm = (rest j).frm ∨ (0 ≤ (rest j).frm ∧ (rest j).frm ≤ (leftF n need rest m j).frm ∧ (leftF n need rest m j).frm ≤ (rest j).til ∧ (rest j).til ≤ 1048576) := r4
  refine ⟨(leftF n need rest m j).frm - (rest j).frm, ?_, ?_⟩
  · rw [← r1', ← r2', ← r3', show (rest j).frm + ((leftF n need rest m j).frm - (rest j).frm) = (leftF n need rest m j).frm by omega]
  · rcases r4' with h | ⟨h1, h2, h3, h4⟩
    · exact .inl (by omega)
    · exact .inr ⟨by omega, by omega, decide_eq_true (by omega), by omega⟩

theorem cloth_upd {n k j : Nat} {need : Nat → Need} {rest : Nat → Rest} {s : Int} (hst : ∀ i, (leftF n need rest (k + 1) i).frm = (leftF n need rest k i).frm + (if i = j then (need k).len else 0)) (hs : s = (leftF n need rest k j).frm - (rest j).frm) (i l : Nat) (hl : l < 1) :
    upd (fun i _ => Value.int .i64 ((leftF n need rest k i).frm - (rest i).frm)) j 0 (.int .i64 (s + (need k).len)) i l = .int .i64 ((leftF n need rest (k + 1) i).frm - (rest i).frm) := by
  obtain rfl : l = 0 := by omega
  rw [hst i]
  unfold upd
  by_cases hi : i = j
  · subst hi
    rw [if_pos ⟨rfl, rfl⟩, if_pos rfl, hs, show (leftF n need rest k i).frm - (rest i).frm + (need k).len = (leftF n need rest k i).frm + (need k).len - (rest i).frm by omega]
  · rw [if_neg (fun h => hi h.1), if_neg hi, Int.add_zero]

set_option maxRecDepth 100000 in
set_option maxHeartbeats 3200000 in
theorem cloth_any (A A2 : Option Addr) (m c n c2 : Nat) (need : Nat → Need) (rest : Nat → Rest) (w : World)
    (hp : Row w w.heap.size 2 A m (fun i => (need i).c)) (hq : Row w w.heap.size 4 A2 n (fun i => (rest i).c)) :
    Calls Try.prog 7 #[.slice A m c, .slice A2 n c2] w fun e w' => e = .returned (.bool true) ∧ Below w.heap.size w w' := by
  by_cases hm : 60 < m
  · have hm' : (60 : Int) < m := by omega
    go_enter Try.func7, Try.ntmps7
    go_wp2_with fail
    refine (example_any _).mono ?_
    rintro e w1 ⟨rfl, hb1⟩
    go_wp2_with fail
    go_ret
    exact ⟨rfl, hb1⟩
  have hm' : ¬ (60 : Int) < m := by omega
  by_cases hn : 30 < n
  · have hn' : (30 : Int) < n := by omega
    go_enter Try.func7, Try.ntmps7
    go_wp2_with fail
    refine (example_any _).mono ?_
    rintro e w1 ⟨rfl, hb1⟩
    go_wp2_with fail
    go_ret
    exact ⟨rfl, hb1⟩
  have hn' : ¬ (30 : Int) < n := by omega
  have HP := Lib.hid hp
  have HQ := Lib.hid hq
  clear hp hq
  have hbm : ((m : Int) != (m : Int)) = false := by simp
  have hbn : ((n : Int) != (n : Int)) = false := by simp
  have hmk := run_make_row' (P := Try.prog) 27 3 (.int .i64 0) 8 Try.underlying27 cloneInt_any_info rfl .i64 .i64 n (by omega) (by omega)
  go_enter Try.func7, Try.ntmps7
  go_wp2_with fail
  refine (assign_any _ _ m _ n _ need rest _ (by omega) (by omega) HP.out HQ.out).mono ?_
  rintro e w2 ⟨vL, vG, rfl, hL, hG, hb⟩
  have hL := hL.form
  have hG := hG.form
  obtain ⟨AL, cL, rfl, hncL, hcL, rL⟩ := hL
  obtain ⟨AG, cG, rfl, hncG, hcG, rG⟩ := hG
  have HL := Lib.hid rL
  have HG := Lib.hid rG
  have HN := Lib.hid (HP.out.later hb)
  have HR := Lib.hid (HQ.out.later hb)
  clear rL rG HP HQ hL hG
  go_wp2_with fail
  have hI := Owned.made w2 (.int .i64 0) n 3 (by simp only [maxLen]; omega)
  have hW0 : Below w2.heap.size w2 (w2.alloc (.cells (madeCells #[.int .i64 0] n) 3)) := below_a1 _ _
  generalize hW : w2.alloc _ = W0 at hI hW0 ⊢
  obtain ⟨gi, hgi⟩ : ∃ gi, gi = w2.heap.size := ⟨_, rfl⟩
  rw [← hgi] at hI ⊢
  have hgi0 : w2.heap.size ≤ gi := by omega
  clear hW hmk hgi
  go_loopw [45] (fun t wr => ∃ k : Nat, k ≤ m ∧ t = .int .i64 k ∧ Owned wr gi 3 1 (.slice (some ⟨gi, 0, none⟩) n n) n (fun i _ => .int .i64 ((leftF n need rest k i).frm - (rest i).frm)) ∧ Below w2.heap.size w2 wr) (fun t _ => m - (intOf t).toNat)
  case atStart => exact ⟨0, Nat.zero_le _, rfl, hI.congr (fun i j _ _ => by show _ = Value.int .i64 ((rest i).frm - (rest i).frm); rw [Int.sub_self]), hW0⟩
  case round =>
    obtain ⟨k, hk, rfl, kI, hwr⟩ := hrel
    clear hI hW0
    have hs1 : w2.heap.size ≤ wr.heap.size := hwr.size
    by_cases hlt : k < m
    · obtain ⟨b, off, rfl, hB⟩ := HN.out.addr (by omega)
      obtain ⟨e0, e1⟩ := HN.out.at2 hlt
      simp only [Need.c] at e0 e1
      have f0 := (hwr.cell (p := ⟨_, _, none⟩) hB).trans e0
      have f1 := (hwr.cell (p := ⟨_, _, none⟩) hB).trans e1
      clear e0 e1
      have hlt' : (k : Int) < m := by omega
      have hk0 : (0 : Int) ≤ k := by omega
      go_upto_region 10 with (fail)
      have qN := Blk.new wr 47 #[.int .i64 (need k).lot, .int .i64 (need k).len]
      have qI := kI.alloc (.cells #[.int .i64 (need k).lot, .int .i64 (need k).len] 47)
      have qb := hwr.alloc hs1 (.cells #[.int .i64 (need k).lot, .int .i64 (need k).len] 47)
      have hgk : gi < wr.heap.size := (kI.lt gi rfl).2
      generalize hW : wr.alloc _ = W at qN qI qb ⊢
      clear hW f0 f1 kI
      obtain ⟨bg, og, rfl, hBg⟩ := HG.out.addr (by omega)
      have g0 := HG.out.at1 hlt
      have g1 := (qb.cell (p := ⟨_, _, none⟩) hBg).trans g0
      clear g0
      rcases cloth_step n need rest k with ⟨hg, hstep⟩ | ⟨j, hj, hg, l1, l2, hlot, s1, s2, hstep⟩
      · rw [hg] at g1
        have HS := Lib.hid hstep
        clear hg hstep
        go_wp2_with fail
        go_roundw
        case rel => exact ⟨k + 1, by omega, by go_num, by rw [HS.out]; exact qI, qb⟩
        case measure => simp [intOf]; omega
      rw [hg] at g1
      have HS := Lib.hid hstep
      have HLot := Lib.hid hlot
      have HGk := Lib.hid hg
      have hbl : ((rest j).lot != (need k).lot) = false := by rw [hlot]; simp
      clear hg hstep hlot
      have c0 := qN.cell 0
      have c1 := qN.cell 1
      simp at c0 c1
      obtain ⟨br, or, rfl, hBr⟩ := HR.out.addr (by omega)
      obtain ⟨e0, e1, e2, e3⟩ := HR.out.at4 hj
      simp only [Rest.c] at e0 e1 e2 e3
      have f1 := (qb.cell (p := ⟨_, _, none⟩) hBr).trans e1
      clear e0 e1 e2 e3
      have hj0 : (0 : Int) ≤ j := by omega
      have hj1 : (j : Int) < n := by omega
      have hj2 : ¬ (n : Int) ≤ j := by omega
      have hl1 : ¬ (need k).len < 1 := by omega
      have hl2 : ¬ 1048576 < (need k).len := by omega
      go_upto_region 11 with (fail)
      have hsW : w2.heap.size ≤ W.heap.size := qb.size
      have hlW : wr.heap.size < W.heap.size := qN.lt
      have k0 := fun z : Ext W.heap.size W => z.cell (b := wr.heap.size) (by omega) c0
      have k1 := fun z : Ext W.heap.size W => z.cell (b := wr.heap.size) (by omega) c1
      have k2 := fun z : Ext W.heap.size W => z.cell (b := bg) (by omega) g1
      have k3 := fun z : Ext W.heap.size W => z.cell (b := br) (by omega) f1
      clear c0 c1 g1 f1
      refine region_ext W.heap.size (by kernel_rfl) (by kernel_rfl) ?_
      repeat (go_big_quiet_step (fail))
      refine wpQuiet_nil ?_
      rintro _ ⟨z, rfl⟩
      obtain ⟨W4, hq⟩ := z
      dsimp only
      have qN := qN.later hq
      have qI := qI.later hq
      have qb := below_up qb hq
      clear k0 k1 k2 k3 hq
      go_upto_region 13 with (fail)
      have c1 := qN.cell 1
      have g1 := (qb.cell (p := ⟨_, _, none⟩) hBg).trans (HG.out.at1 hlt)
      rw [HGk.out] at g1
      simp at c1
      obtain ⟨gi', cap', hform, _, _, _, _, hcI, hfI⟩ := qI.blk (by omega)
      injection hform with hA1 _ hA2
      injection hA1 with hA1
      injection hA1 with hA1 _
      subst hA1; subst hA2
      have d0 := hcI j 0 hj (by omega)
      have d1 := hfI j
      rw [Nat.mul_one, Nat.add_zero] at d0
      clear hcI hfI
      obtain ⟨s, hs⟩ : ∃ s, s = (leftF n need rest k j).frm - (rest j).frm := ⟨_, rfl⟩
      rw [← hs] at d0 s1 s2
      have r1 : IntKind.i64.wrap (s + (need k).len) = s + (need k).len := wrap_cast (by omega) (by omega)
      have HSs := Lib.hid hs
      clear hs
      go_still_tail 11, (by kernel_rfl)
      go_upto_region 14 with (fail)
      have sI := (qI.put1 (k := j) (.int .i64 (s + (need k).len))).drew
      have sb := (qb.setCell (p := ⟨gi, j, none⟩) hgi0 (.int .i64 (s + (need k).len))).drew
      generalize hW : World.drew _ = W5 at sI sb ⊢
      clear hW d0 d1 c1 g1 r1
      go_wp2_with fail
      go_roundw
      case rel => exact ⟨k + 1, by omega, by go_num, sI.congr (fun i l hi hl => cloth_upd HS.out HSs.out i l hl), sb⟩
      case measure => simp [intOf]; omega
    · obtain rfl : k = m := by omega
      have hgk : gi < wr.heap.size := (kI.lt gi rfl).2
      obtain ⟨AC, cC, hform, _, _, rC⟩ := kI.form
      injection hform with hA1 _ hA2
      subst hA1; subst hA2
      have RC := Lib.hid rC
      have RL := Lib.hid (HL.out.later hwr)
      have RR := Lib.hid (HR.out.later hwr)
      have hbw := below_up hb hwr
      clear rC kI HL HR HN HG hwr hb
      go_wp2_with fail
      generalize wr = V at *
      go_loopw [99] (fun t wr => ∃ j : Nat, j ≤ n ∧ t = .int .i64 j ∧ Below V.heap.size V wr) (fun t _ => n - (intOf t).toNat)
      case atStart => exact ⟨0, Nat.zero_le _, rfl, Below.refl _ _⟩
      case round =>
        obtain ⟨j, hj, rfl, hwr⟩ := hrel
        have hs2 : V.heap.size ≤ wr.heap.size := hwr.size
        by_cases hlj : j < n
        · obtain ⟨bl, ol, rfl, hBl⟩ := RL.out.addr (by omega)
          obtain ⟨br, or, rfl, hBr⟩ := RR.out.addr (by omega)
          obtain ⟨s, hLj, hsj⟩ := cloth_end n need rest k j
          obtain ⟨e0, e1, e2, e3⟩ := RL.out.at4 hlj
          rw [hLj] at e0 e1 e2 e3
          simp only [Rest.c] at e0 e1 e2 e3
          obtain ⟨d0, d1, d2, d3⟩ := RR.out.at4 hlj
          simp only [Rest.c] at d0 d1 d2 d3
          have q0 := RC.out.at1 hlj
          rw [hLj] at q0
          have hss : (rest j).frm + s - (rest j).frm = s := by omega
          simp only [hss] at q0
          clear hLj hss
          have f0 := (hwr.cell (p := ⟨_, _, none⟩) hBr).trans d0
          have f1 := (hwr.cell (p := ⟨_, _, none⟩) hBr).trans d1
          have f2 := (hwr.cell (p := ⟨_, _, none⟩) hBr).trans d2
          have f3 := (hwr.cell (p := ⟨_, _, none⟩) hBr).trans d3
          have hlj' : (j : Int) < n := by omega
          have hj0 : (0 : Int) ≤ j := by omega
          go_upto_region 18 with (fail)
          have qR := Blk.new wr 49 #[.int .i64 (rest j).roll, .int .i64 (rest j).lot, .int .i64 (rest j).frm, .int .i64 (rest j).til]
          have qb := hwr.alloc hs2 (.cells #[.int .i64 (rest j).roll, .int .i64 (rest j).lot, .int .i64 (rest j).frm, .int .i64 (rest j).til] 49)
          obtain ⟨g1, hg1⟩ : ∃ g1, g1 = wr.heap.size := ⟨_, rfl⟩
          rw [← hg1] at qR ⊢
          generalize hW : wr.alloc _ = W at qR qb ⊢
          clear hW f0 f1 f2 f3 d0 d1 d2 d3
          have f0 := (qb.cell (p := ⟨_, _, none⟩) hBl).trans e0
          have f1 := (qb.cell (p := ⟨_, _, none⟩) hBl).trans e1
          have f2 := (qb.cell (p := ⟨_, _, none⟩) hBl).trans e2
          have f3 := (qb.cell (p := ⟨_, _, none⟩) hBl).trans e3
          go_upto_region 19 with (fail)
          have pR := qR.alloc (.cells #[.int .i64 (rest j).roll, .int .i64 (rest j).lot, .int .i64 ((rest j).frm + s), .int .i64 (rest j).til] 49)
          have pY := Blk.new W 49 #[.int .i64 (rest j).roll, .int .i64 (rest j).lot, .int .i64 ((rest j).frm + s), .int .i64 (rest j).til]
          have pb := qb.alloc qb.size (.cells #[.int .i64 (rest j).roll, .int .i64 (rest j).lot, .int .i64 ((rest j).frm + s), .int .i64 (rest j).til] 49)
          obtain ⟨g2, hg2⟩ : ∃ g2, g2 = W.heap.size := ⟨_, rfl⟩
          rw [← hg2] at pY ⊢
          generalize hW : W.alloc _ = W2 at pR pY pb ⊢
          clear hW f0 f1 f2 f3 e0 e1 e2 e3 qR hg1 hg2
          have qc := (pb.cell (p := ⟨_, _, none⟩) hgk).trans q0
          have x0 := pR.cell 0
          have x1 := pR.cell 1
          have x2 := pR.cell 2
          have x3 := pR.cell 3
          have y0 := pY.cell 0
          have y1 := pY.cell 1
          have y2 := pY.cell 2
          have y3 := pY.cell 3
          simp at x0 x1 x2 x3 y0 y1 y2 y3 qc
          have i0 : ((rest j).roll != (rest j).roll) = false := by simp
          have i1 : ((rest j).lot != (rest j).lot) = false := by simp
          have i3 : ((rest j).til != (rest j).til) = false := by simp
          have hsz2 : V.heap.size ≤ W2.heap.size := pb.size
          have hl1 : g1 < W2.heap.size := pR.lt
          have hl2 : g2 < W2.heap.size := pY.lt
          by_cases h0 : s = 0
          · subst h0
            rw [Int.add_zero] at y2
            have i2 : ((rest j).frm != (rest j).frm) = false := by simp
            have hg0 : gi < W2.heap.size := by omega
            go_upto_region 21 with (fail)
            have kc := fun z : Ext W2.heap.size W2 => z.cell (b := gi) hg0 qc
            refine region_ext W2.heap.size (by kernel_rfl) (by kernel_rfl) ?_
            repeat (go_big_quiet_step (fail))
            refine wpQuiet_nil ?_
            rintro _ ⟨z, rfl⟩
            obtain ⟨W4, hq⟩ := z
            dsimp only
            go_wp2_with fail
            go_roundw
            case rel => exact ⟨j + 1, by omega, by go_num, below_up pb hq⟩
            case measure => simp [intOf]; omega
          · have hs4 : 0 ≤ s ∧ s ≤ 1048576 ∧ usableF (rest j) = true ∧ (rest j).frm + s ≤ (rest j).til := hsj.resolve_left h0
            obtain ⟨s1, s2, hus, s3⟩ := hs4
            have hu : 0 ≤ (rest j).frm ∧ (rest j).frm ≤ (rest j).til ∧ (rest j).til ≤ 1048576 := of_decide_eq_true hus
            have hus' : usableF ⟨(rest j).roll, (rest j).lot, (rest j).frm, (rest j).til⟩ = true := hus
            have i4 : (s == 0) = false := beq_eq_false_iff_ne.2 h0
            have i5 : 0 < s := by omega
            have r1 : IntKind.i64.wrap ((rest j).frm + s - (rest j).frm) = s := (wrap_cast (by omega) (by omega)).trans (by omega)
            have i6 : (s != s) = false := by simp
            have i7 : ¬ (rest j).til < (rest j).frm + s := by omega
            clear hsj hus hu h0 s1 s2 s3
            have hg0 : gi < W2.heap.size := by omega
            go_upto_region 21 with (fail)
            have kc := fun z : Ext W2.heap.size W2 => z.cell (b := gi) hg0 qc
            have kx0 := fun z : Ext W2.heap.size W2 => z.cell (b := g1) hl1 x0
            have kx1 := fun z : Ext W2.heap.size W2 => z.cell (b := g1) hl1 x1
            have kx2 := fun z : Ext W2.heap.size W2 => z.cell (b := g1) hl1 x2
            have kx3 := fun z : Ext W2.heap.size W2 => z.cell (b := g1) hl1 x3
            have ky2 := fun z : Ext W2.heap.size W2 => z.cell (b := g2) hl2 y2
            have ky3 := fun z : Ext W2.heap.size W2 => z.cell (b := g2) hl2 y3
            clear x0 x1 x2 x3 y0 y1 y2 y3 qc
            refine region_ext W2.heap.size (by kernel_rfl) (by kernel_rfl) ?_
            repeat (go_big_quiet_step (first | (go_at_call 25; exact calls_ext_bool (Nat.le_refl _) (usable_any _ _ _ _ _) hus')))
            refine wpQuiet_nil ?_
            rintro _ ⟨z, rfl⟩
            obtain ⟨W4, hq⟩ := z
            dsimp only
            clear kc kx0 kx1 kx2 kx3 ky2 ky3
            go_wp2_with fail
            go_roundw
            case rel => exact ⟨j + 1, by omega, by go_num, below_up pb hq⟩
            case measure => simp [intOf]; omega
        · go_wp2_with fail
          refine (example_any _).mono ?_
          rintro e w3 ⟨rfl, hb3⟩
          go_wp2_with fail
          go_ret
          exact ⟨rfl, below_up hbw (below_up hwr hb3)⟩

end Go.Proofs.Ytmjfalabjlbdeaa
