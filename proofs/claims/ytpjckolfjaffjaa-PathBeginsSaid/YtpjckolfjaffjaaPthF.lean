/- path.gain. -/
import Derived.Test.YtpjckolfjaffjaaPthE
namespace Go.Proofs.Ytpjckolfjaffjaa
open Go.RowKit
set_option linter.unusedSimpArgs false
set_option linter.unusedVariables false

set_option maxRecDepth 100000 in
set_option maxHeartbeats 3200000 in
theorem gain_any (AN A2 : Option Addr) (m cN l c2 i k : Nat) (s : Nat → Spot) (ord : Nat → Int) (w : World) (hl : l ≤ 100) (hs : ∀ i, i < m → (s i).ok) (ho : ∀ i, i < l → 0 ≤ ord i ∧ ord i < m)
    (hN : Row w w.heap.size 2 AN m (fun i => spotC (s i))) (hp : Row w w.heap.size 1 A2 l (fun i _ => .int .i64 (ord i))) (hik : i < k) (hkl : k < l) :
    Calls Try.prog 40 #[.slice AN m cN, .slice A2 l c2, .int .i64 i, .int .i64 k] w fun e w' => e = .returned (.int .i64 (gainF s ord l i k)) ∧ Below w.heap.size w w' := by
  have HST := Lib.hid hs
  have HOR := Lib.hid ho
  obtain ⟨bo, oo, rfl, hBo⟩ := hp.addr (by omega)
  have hm0 : 0 < m := by have := ho k hkl; omega
  obtain ⟨bs, os, rfl, hBs⟩ := hN.addr hm0
  have HN := Lib.hid hN
  have HP := Lib.hid hp
  clear hs ho hN hp
  -- the spots by place
  have HPL := Lib.hid (fun (wq : World) (hb : Below w.heap.size w wq) (j : Nat) (hj : j < l) => show ∃ x : Nat, x < m ∧ ord j = (x : Int) ∧ wq.cell? ⟨bo, oo + j, none⟩ = some (.int .i64 x) ∧ wq.cell? ⟨bs, os + x * 2, none⟩ = some (.int .i64 (s (ord j).toNat).x) ∧ wq.cell? ⟨bs, os + x * 2 + 1, none⟩ = some (.int .i64 (s (ord j).toNat).y) ∧ (s (ord j).toNat).ok from by
    obtain ⟨o1, o2⟩ := HOR.out j hj
    obtain ⟨x, hx⟩ := Int.eq_ofNat_of_zero_le o1
    have hxm : x < m := by omega
    have e := (hb.cell (p := ⟨bo, _, none⟩) hBo).trans (HP.out.at1 hj)
    obtain ⟨e0, e1⟩ := HN.out.at2 hxm
    simp only [spotC] at e0 e1
    rw [hx] at e
    refine ⟨x, hxm, hx, e, ?_, ?_, ?_⟩
    · rw [hx]; exact (hb.cell (p := ⟨bs, _, none⟩) hBs).trans e0
    · rw [hx]; exact (hb.cell (p := ⟨bs, _, none⟩) hBs).trans e1
    · rw [hx]; exact HST.out x hxm)
  have hi0 : (0 : Int) ≤ i := by omega
  have hk0 : (0 : Int) ≤ k := by omega
  have hil' : (i : Int) < l := by omega
  have hkl' : (k : Int) < l := by omega
  -- the spot before
  have okK := Lib.hid (knife_ok HST.out HOR.out i (by omega))
  go_enter Try.func40, Try.ntmps40
  go_upto_region 2 with (fail)
  have k9 := Blk.new w 37 #[.int .i64 0, .int .i64 0]
  have hb9 := below_a1 w (.cells #[.int .i64 0, .int .i64 0] 37)
  obtain ⟨g, hg⟩ : ∃ g, g = w.heap.size := ⟨_, rfl⟩
  rw [← hg] at k9
  rw [← hg]
  generalize hW : w.alloc _ = W at k9 hb9 ⊢
  clear hW
  have hgw : w.heap.size ≤ g := by omega
  clear hg
  go_upto_if 15 with (fail)
  go_cut [] (fun wx => Blk wx g 37 #[.int .i64 (knifeF s ord i).x, .int .i64 (knifeF s ord i).y] ∧ Below w.heap.size w wx)
  case first =>
    rcases Nat.eq_zero_or_pos i with h0 | h0
    · subst h0
      go_wp2_with fail
      go_meet
      exact ⟨k9, hb9⟩
    · obtain ⟨x, hxm, hx, e0, e1, e2, _⟩ := HPL.out W hb9 (i - 1) (by omega)
      have hx' : (x : Int) < m := by omega
      have hx0 : (0 : Int) ≤ x := by omega
      have hi1 : (1 : Int) ≤ i := by omega
      have hin : ((i : Int) - 1) = ((i - 1 : Nat) : Int) := by omega
      have HK := Lib.hid (show knifeF s ord i = s (ord (i - 1)).toNat by obtain ⟨j, rfl⟩ : ∃ j, i = j + 1 := ⟨i - 1, by omega⟩; rfl)
      generalize s (ord (i - 1)).toNat = P at *
      have z0 := k9.free 0
      have z1 := k9.free 1
      have c0 := k9.cell 0
      have c1 := k9.cell 1
      simp at c0 c1
      clear hx
      go_wp2_with fail
      go_meet
      exact ⟨by rw [HK.out]; exact put2 k9 _ _, below_put2 hb9 hgw _ _⟩
  case rest =>
    obtain ⟨kK, hbc⟩ := hcut
    clear k9 hb9
    obtain ⟨x, hxm, hx, e0, e1, e2, okP⟩ := HPL.out wc hbc i (by omega)
    obtain ⟨y, hym, hy, e3, e4, e5, okQ⟩ := HPL.out wc hbc k hkl
    have HGE := Lib.hid (show gainF s ord l i k = distF (knifeF s ord i) (s (ord i).toNat) - distF (knifeF s ord i) (s (ord k).toNat) + if k + 1 < l then distF (s (ord k).toNat) (s (ord (k + 1)).toNat) - distF (s (ord i).toNat) (s (ord (k + 1)).toNat) else 0 from rfl)
    have okP' := Lib.hid okP
    have okQ' := Lib.hid okQ
    have d1 := dist_bd okK.out okP
    have d2 := dist_bd okK.out okQ
    generalize knifeF s ord i = K at *
    generalize hP : s (ord i).toNat = P at *
    generalize hQ : s (ord k).toNat = Q at *
    clear hP hQ hx hy okP okQ
    have hx' : (x : Int) < m := by omega
    have hx0 : (0 : Int) ≤ x := by omega
    have hy' : (y : Int) < m := by omega
    have hy0 : (0 : Int) ≤ y := by omega
    have hgc := kK.lt
    have hbs : bs < wc.heap.size := Nat.lt_of_lt_of_le hBs hbc.size
    have hbo : bo < wc.heap.size := Nat.lt_of_lt_of_le hBo hbc.size
    go_upto_region 4 with (fail)
    go_cut [10, 11] (fun v u wx => TwoBlks wc 37 (.int .i64 P.x) (.int .i64 P.y) (.int .i64 Q.x) (.int .i64 Q.y) v u wx)
    case first =>
      go_region_held3 (fun w' => w'.cell? ⟨bo, oo + i, none⟩ = some (.int .i64 x) ∧ w'.cell? ⟨bs, os + x * 2, none⟩ = some (.int .i64 P.x) ∧ w'.cell? ⟨bs, os + x * 2 + 1, none⟩ = some (.int .i64 P.y) ∧ w'.cell? ⟨bo, oo + k, none⟩ = some (.int .i64 y) ∧ w'.cell? ⟨bs, os + y * 2, none⟩ = some (.int .i64 Q.x) ∧ w'.cell? ⟨bs, os + y * 2 + 1, none⟩ = some (.int .i64 Q.y)) (go_keep) (fail)
      all_goals (go_wp2_with fail; go_meet; first | exact twoBlks_ab _ _ _ _ _ _ | exact twoBlks_ba _ _ _ _ _ _)
    case rest =>
      obtain ⟨bP, bQ, rfl, rfl, g1, g2, hne, hbd, kP, kQ⟩ := hcut
      have kK2 := kK.later hbd
      have hbw := below_up hbc hbd
      clear kK hbc e0 e1 e2 e3 e4 e5 hbs hbo hgc hbd
      have hgK := kK2.lt
      have hgP := kP.lt
      have hgQ := kQ.lt
      have x0 := fun z : Ext wc.heap.size wc => z.cell (b := g) hgK (kK2.cell 0)
      have x1 := fun z : Ext wc.heap.size wc => z.cell (b := g) hgK (kK2.cell 1)
      have x2 := fun z : Ext wc.heap.size wc => z.cell (b := bP) hgP (kP.cell 0)
      have x3 := fun z : Ext wc.heap.size wc => z.cell (b := bP) hgP (kP.cell 1)
      have x4 := fun z : Ext wc.heap.size wc => z.cell (b := bQ) hgQ (kQ.cell 0)
      have x5 := fun z : Ext wc.heap.size wc => z.cell (b := bQ) hgQ (kQ.cell 1)
      simp at x0 x1 x2 x3 x4 x5
      obtain ⟨d3, d4⟩ := d1
      obtain ⟨d5, d6⟩ := d2
      have hw0 : IntKind.i64.wrap (distF K P - distF K Q) = distF K P - distF K Q := IntWalk.i64_in _ (by omega)
      go_upto_region 5 with (fail)
      refine region_ext wc.heap.size (by kernel_rfl) (by kernel_rfl) ?_
      repeat (go_big_quiet_step (first | (go_at_call 26; refine calls_ext (by omega) (distance_any K _ _ okK.out ?_); first | exact okP'.out | exact okQ'.out)))
      refine wpQuiet_nil ?_
      rintro _ ⟨z, rfl⟩
      obtain ⟨wq, hq⟩ := z
      dsimp only
      have hbq := below_up hbw hq
      have kP2 := kP.later hq
      have kQ2 := kQ.later hq
      clear x0 x1 x2 x3 x4 x5 hw0 kP kQ kK2 hbw hq hgK hgP hgQ
      by_cases hk1 : k + 1 < l
      rotate_left
      · have hk1' : ¬ (k : Int) + 1 < l := by omega
        have HR := Lib.hid (HGE.out.trans (by rw [if_neg hk1, Int.add_zero]))
        go_wp2_with fail
        go_ret
        exact ⟨ret_int HR.out.symm, hbq⟩
      · have hk1' : (k : Int) + 1 < l := by omega
        obtain ⟨u, hum, hu, e0, e1, e2, okR⟩ := HPL.out wq hbq (k + 1) hk1
        have HR := Lib.hid (HGE.out.trans (by rw [if_pos hk1]))
        have okR' := Lib.hid okR
        have d7 := dist_bd okQ'.out okR
        have d8 := dist_bd okP'.out okR
        generalize s (ord (k + 1)).toNat = R at *
        clear okR hu HGE
        have hu' : (u : Int) < m := by omega
        have hu0 : (0 : Int) ≤ u := by omega
        go_upto_region 8 with (fail)
        have kR := Blk.new wq 37 #[.int .i64 R.x, .int .i64 R.y]
        have kP3 := kP2.alloc (.cells #[.int .i64 R.x, .int .i64 R.y] 37)
        have kQ3 := kQ2.alloc (.cells #[.int .i64 R.x, .int .i64 R.y] 37)
        have hb3 := hbq.alloc hbq.size (.cells #[.int .i64 R.x, .int .i64 R.y] 37)
        obtain ⟨bR, hbR⟩ : ∃ bR, bR = wq.heap.size := ⟨_, rfl⟩
        rw [← hbR] at kR
        rw [← hbR]
        generalize hW : wq.alloc _ = W2 at kR kP3 kQ3 hb3 ⊢
        clear hW hbR kP2 kQ2 hbq e0 e1 e2
        have hgR := kR.lt
        have hgP := kP3.lt
        have hgQ := kQ3.lt
        have x0 := fun z : Ext W2.heap.size W2 => z.cell (b := bR) hgR (kR.cell 0)
        have x1 := fun z : Ext W2.heap.size W2 => z.cell (b := bR) hgR (kR.cell 1)
        have x2 := fun z : Ext W2.heap.size W2 => z.cell (b := bP) hgP (kP3.cell 0)
        have x3 := fun z : Ext W2.heap.size W2 => z.cell (b := bP) hgP (kP3.cell 1)
        have x4 := fun z : Ext W2.heap.size W2 => z.cell (b := bQ) hgQ (kQ3.cell 0)
        have x5 := fun z : Ext W2.heap.size W2 => z.cell (b := bQ) hgQ (kQ3.cell 1)
        simp at x0 x1 x2 x3 x4 x5
        obtain ⟨d9, d10⟩ := d7
        obtain ⟨d11, d12⟩ := d8
        have hw0 : IntKind.i64.wrap (distF Q R - distF P R) = distF Q R - distF P R := IntWalk.i64_in _ (by omega)
        have hw1 : IntKind.i64.wrap (distF K P - distF K Q + (distF Q R - distF P R)) = distF K P - distF K Q + (distF Q R - distF P R) := IntWalk.i64_in _ (by omega)
        refine region_ext W2.heap.size (by kernel_rfl) (by kernel_rfl) ?_
        repeat (go_big_quiet_step (first | (go_at_call 26; refine calls_ext (by omega) (distance_any _ R _ ?_ okR'.out); first | exact okP'.out | exact okQ'.out)))
        refine wpQuiet_nil ?_
        rintro _ ⟨z, rfl⟩
        obtain ⟨wz, hz⟩ := z
        dsimp only
        have hbz := below_up hb3 hz
        clear x0 x1 x2 x3 x4 x5 hw0 hw1
        go_wp2_with fail
        go_ret
        exact ⟨ret_int HR.out.symm, hbz⟩

end Go.Proofs.Ytpjckolfjaffjaa
