/- The reference's Box. -/
import Derived.Test.YtcalchlfipbpkaaPolyG
import Derived.StillTailTactics
namespace Go.Proofs.Ytcalchlfipbpkaa
open Go.RowKit
set_option linter.unusedSimpArgs false
set_option linter.unusedVariables false

theorem rbox_err (A : Option Addr) (n c : Nat) (p : Nat → Spot) (w : World) (hn : n ≤ 100) (hnc : n ≤ c) (hp : Spots w w.heap.size A n p) (e : Int) (he : checkF n p = e) (h0 : e ≠ 0) :
    Calls Try.prog 24 #[.slice A n c] w fun r w' => r = .returned (.tuple #[zeroV, .int .i64 e]) ∧ Below w.heap.size w w' := by
  have hne : (e != 0) = true := bne_iff_ne.2 h0
  have HE := Lib.hid he
  clear he
  go_enter Try.func24, Try.ntmps24
  go_wp2_with fail
  have hp1 := hp.later (below_a1 w (.cells #[.int .i64 0, .int .i64 0, .int .i64 0, .int .i64 0] 36))
  refine (rcheck_any A n c p _ hn hp1).mono ?_
  rintro r w1 ⟨rfl, hb1⟩
  rw [HE.out]
  obtain ⟨hc1, hf1⟩ := kept hb1
  have hk := (Blk.new w 36 #[.int .i64 0, .int .i64 0, .int .i64 0, .int .i64 0]).later hb1
  have hbw := below_up (below_a1 w _) hb1
  go_wp2_with fail
  have hk1 := put4 hk (.int .i64 0) (.int .i64 0) (.int .i64 0) (.int .i64 0)
  have hb2 := below_put4 hbw (.int .i64 0) (.int .i64 0) (.int .i64 0) (.int .i64 0)
  generalize hW : World.setCell _ _ _ = W at hk1 hb2 ⊢
  clear hW hc1 hf1
  have q0 := hk1.cell 0
  have q1 := hk1.cell 1
  have q2 := hk1.cell 2
  have q3 := hk1.cell 3
  simp at q0 q1 q2 q3
  exact bodyPost_ret (v := .tuple #[zeroV, .int .i64 e]) (by simp [results, Try.results24, go_sem, q0, q1, q2, q3, zeroV]) rfl ⟨rfl, hb2⟩

set_option maxHeartbeats 1600000 in
theorem rbox_ok (A : Option Addr) (n c : Nat) (p : Nat → Spot) (w : World) (hn : n ≤ 100) (hnc : n ≤ c) (hp : Spots w w.heap.size A n p) (he : checkF n p = 0) :
    Calls Try.prog 24 #[.slice A n c] w fun r w' => r = .returned (.tuple #[boxV n p, .int .i64 0]) ∧ Below w.heap.size w w' := by
  obtain ⟨hn3, hn40, hok⟩ := check_n he
  have HE := Lib.hid he
  have HK := Lib.hid hok
  obtain ⟨b, off, rfl, hB, hcell⟩ := hp (by omega)
  have HC := Lib.hid hcell
  clear he hok hcell
  go_enter Try.func24, Try.ntmps24
  go_wp2_with fail
  have hp1 := hp.later (below_a1 w (.cells #[.int .i64 0, .int .i64 0, .int .i64 0, .int .i64 0] 36))
  refine (rcheck_any _ n c p _ hn hp1).mono ?_
  rintro r w1 ⟨rfl, hb1⟩
  rw [HE.out]
  have hk := (Blk.new w 36 #[.int .i64 0, .int .i64 0, .int .i64 0, .int .i64 0]).later hb1
  have hbw := below_up (below_a1 w _) hb1
  have hz1 : w.heap.size < w1.heap.size := hk.lt
  clear hb1 hp1 hp
  obtain ⟨e0, e1⟩ := HC.out 0 (by omega)
  simp only [Nat.zero_mul, Nat.add_zero] at e0 e1
  have f0 := (hbw.cell (p := ⟨_, _, none⟩) hB).trans e0
  have f1 := (hbw.cell (p := ⟨_, _, none⟩) hB).trans e1
  clear e0 e1
  have hn0 : (0 : Int) < n := by omega
  have hn0' : 0 < n := by omega
  have hBr : b < w1.heap.size := by omega
  go_upto_region 4 with (fail)
  go_cut [5, 6] (fun v u wx => TwoBlks w1 50 (.int .i64 (p 0).x) (.int .i64 (p 0).y) (.int .i64 (p 0).x) (.int .i64 (p 0).y) v u wx)
  case first =>
    go_region_held3 (fun w' => w'.cell? ⟨b, off, none⟩ = some (.int .i64 (p 0).x) ∧ w'.cell? ⟨b, off + 1, none⟩ = some (.int .i64 (p 0).y)) (go_keep) (fail)
    all_goals (go_wp2_with fail; go_meet; first | exact twoBlks_ab _ _ _ _ _ _ | exact twoBlks_ba _ _ _ _ _ _)
  case rest =>
    obtain ⟨bl, bh, rfl, rfl, h1l, h1h, hlh, hwc, hl, hh⟩ := hcut
    have hkc := hk.keep hwc hz1
    have hbc : Below w.heap.size w wc := hbw.trans (hwc.mono (by omega))
    clear f0 f1 hk
    go_wp2_with fail
    have e1 : minTo (spotX p) 1 = (p 0).x := minTo_one _
    have e2 : minTo (spotY p) 1 = (p 0).y := minTo_one _
    have e3 : maxTo (spotX p) 1 = (p 0).x := maxTo_one _
    have e4 : maxTo (spotY p) 1 = (p 0).y := maxTo_one _
    rw [← e1, ← e2] at hl
    rw [← e3, ← e4] at hh
    clear e1 e2 e3 e4
    go_loopw [7] (fun t wr => ∃ k : Nat, k ≤ n ∧ t = .int .i64 k ∧ Blk wr bl 50 #[.int .i64 (minTo (spotX p) k), .int .i64 (minTo (spotY p) k)] ∧ Blk wr bh 50 #[.int .i64 (maxTo (spotX p) k), .int .i64 (maxTo (spotY p) k)] ∧
        Blk wr w.heap.size 36 #[.int .i64 0, .int .i64 0, .int .i64 0, .int .i64 0] ∧ Below w.heap.size w wr) (fun t _ => n - (intOf t).toNat)
    case atStart => exact ⟨1, by omega, rfl, hl, hh, hkc, hbc⟩
    case round =>
      obtain ⟨k, hk, rfl, kl, kh, kk, hwr⟩ := hrel
      clear hl hh hkc
      have hs1 := kk.lt
      have hsl := kl.lt
      have hsh := kh.lt
      by_cases hlt : k < n
      · obtain ⟨e0, e1⟩ := HC.out k hlt
        have f0 := (hwr.cell (p := ⟨_, _, none⟩) hB).trans e0
        have f1 := (hwr.cell (p := ⟨_, _, none⟩) hB).trans e1
        clear e0 e1
        have hlt' : (k : Int) < n := by omega
        have hk0 : (0 : Int) ≤ k := by omega
        have g2 := kl.cell 0
        have g3 := kl.cell 1
        have g4 := kl.free 0
        have g5 := kl.free 1
        simp at g2 g3
        go_upto_region 8 with (fail)
        go_still_tail 17, (by kernel_rfl)
        go_upto_region 9 with (fail)
        clear g2 g3 g4 g5
        have ql := (put2 kl (.int .i64 (min (minTo (spotX p) k) (p k).x)) (.int .i64 (min (minTo (spotY p) k) (p k).y))).drew
        have qh := (far2 kh (g := bl) (Ne.symm hlh) (.int .i64 (min (minTo (spotX p) k) (p k).x)) (.int .i64 (min (minTo (spotY p) k) (p k).y))).drew
        have qk := (far2 kk (g := bl) (by omega) (.int .i64 (min (minTo (spotX p) k) (p k).x)) (.int .i64 (min (minTo (spotY p) k) (p k).y))).drew
        have qb := (below_put2 hwr (g := bl) (by omega) (.int .i64 (min (minTo (spotX p) k) (p k).x)) (.int .i64 (min (minTo (spotY p) k) (p k).y))).drew
        generalize hW : World.drew _ = W2 at ql qh qk qb ⊢
        clear hW f0 f1
        obtain ⟨e0, e1⟩ := HC.out k hlt
        have f0 := (qb.cell (p := ⟨_, _, none⟩) hB).trans e0
        have f1 := (qb.cell (p := ⟨_, _, none⟩) hB).trans e1
        clear e0 e1
        have g2 := qh.cell 0
        have g3 := qh.cell 1
        have g4 := qh.free 0
        have g5 := qh.free 1
        simp at g2 g3
        go_still_tail 17, (by kernel_rfl)
        go_upto_region 7 with (fail)
        clear g2 g3 g4 g5 f0 f1
        have rl := (far2 ql (g := bh) hlh (.int .i64 (max (maxTo (spotX p) k) (p k).x)) (.int .i64 (max (maxTo (spotY p) k) (p k).y))).drew
        have rh := (put2 qh (.int .i64 (max (maxTo (spotX p) k) (p k).x)) (.int .i64 (max (maxTo (spotY p) k) (p k).y))).drew
        have rk := (far2 qk (g := bh) (by omega) (.int .i64 (max (maxTo (spotX p) k) (p k).x)) (.int .i64 (max (maxTo (spotY p) k) (p k).y))).drew
        have rb := (below_put2 qb (g := bh) (by omega) (.int .i64 (max (maxTo (spotX p) k) (p k).x)) (.int .i64 (max (maxTo (spotY p) k) (p k).y))).drew
        generalize hW : World.drew _ = W3 at rl rh rk rb ⊢
        clear hW
        go_wp2_with fail
        go_roundw
        case rel => exact ⟨k + 1, by omega, by go_num, rl, rh, rk, rb⟩
        case measure => simp [intOf]; omega
      · obtain rfl : k = n := by omega
        have hx : ∀ i, i < k → -1048576 ≤ spotX p i ∧ spotX p i ≤ 1048576 := fun i hi => ⟨(HK.out i hi).1, (HK.out i hi).2.1⟩
        have hy : ∀ i, i < k → -1048576 ≤ spotY p i ∧ spotY p i ≤ 1048576 := fun i hi => ⟨(HK.out i hi).2.2.1, (HK.out i hi).2.2.2⟩
        obtain ⟨b1, b2⟩ := minTo_bd hn0' hx k (Nat.le_refl _)
        obtain ⟨b3, b4⟩ := minTo_bd hn0' hy k (Nat.le_refl _)
        obtain ⟨b5, b6⟩ := maxTo_bd hn0' hx k (Nat.le_refl _)
        obtain ⟨b7, b8⟩ := maxTo_bd hn0' hy k (Nat.le_refl _)
        clear hx hy
        have g0 := kl.cell 0
        have g1 := kl.cell 1
        have g2 := kh.cell 0
        have g3 := kh.cell 1
        have g4 := kk.cell 0
        have g5 := kk.cell 1
        have g6 := kk.cell 2
        have g7 := kk.cell 3
        have z0 := kk.free 0
        have z1 := kk.free 1
        have z2 := kk.free 2
        have z3 := kk.free 3
        simp at g0 g1 g2 g3 g4 g5 g6 g7
        go_wp2_with fail
        have hk1 := put4 kk (.int .i64 (minTo (spotX p) k)) (.int .i64 (minTo (spotY p) k)) (.int .i64 (maxTo (spotX p) k - minTo (spotX p) k)) (.int .i64 (maxTo (spotY p) k - minTo (spotY p) k))
        have hb2 := below_put4 hwr (.int .i64 (minTo (spotX p) k)) (.int .i64 (minTo (spotY p) k)) (.int .i64 (maxTo (spotX p) k - minTo (spotX p) k)) (.int .i64 (maxTo (spotY p) k - minTo (spotY p) k))
        generalize hW : World.setCell _ _ _ = W at hk1 hb2 ⊢
        clear hW g0 g1 g2 g3 g4 g5 g6 g7 z0 z1 z2 z3
        have q0 := hk1.cell 0
        have q1 := hk1.cell 1
        have q2 := hk1.cell 2
        have q3 := hk1.cell 3
        simp at q0 q1 q2 q3
        exact bodyPost_ret (v := .tuple #[boxV k p, .int .i64 0]) (by simp [results, Try.results24, go_sem, q0, q1, q2, q3, boxV]) rfl ⟨rfl, hb2⟩

end Go.Proofs.Ytcalchlfipbpkaa
