/- polygon.Box and the reference's Box. -/
import Derived.Test.YtcalchlfipbpkaaPolyF
import Derived.Lib.MinMax
namespace Go.Proofs.Ytcalchlfipbpkaa
open Go.RowKit
set_option linter.unusedSimpArgs false
set_option linter.unusedVariables false

def spotX (p : Nat → Spot) : Nat → Int := fun i => (p i).x
def spotY (p : Nat → Spot) : Nat → Int := fun i => (p i).y

/-- The value of a Rect: the box of n vertices. -/
def boxV (n : Nat) (p : Nat → Spot) : Value :=
  .agg #[.int .i64 (minTo (spotX p) n), .int .i64 (minTo (spotY p) n), .int .i64 (maxTo (spotX p) n - minTo (spotX p) n), .int .i64 (maxTo (spotY p) n - minTo (spotY p) n)]

def zeroV : Value := .agg #[.int .i64 0, .int .i64 0, .int .i64 0, .int .i64 0]

theorem check_n {n : Nat} {p : Nat → Spot} (h : checkF n p = 0) : 3 ≤ n ∧ n ≤ 40 ∧ ∀ i, i < n → (p i).ok := by
  unfold checkF at h
  split at h
  · cases h
  · split at h
    · cases h
    · split at h
      · cases h
      · rename_i h1 h2 h3
        refine ⟨by omega, by omega, fun i hi => outside_ok.1 ?_⟩
        cases ho : outsideF (p i)
        · rfl
        · exact absurd (decide_eq_true ⟨i, hi, ho⟩) h3

theorem put4 {w : World} {g : Nat} {t : TypeId} {a b c d : Value} (h : Blk w g t #[a, b, c, d]) (x y z u : Value) :
    Blk ((((w.setCell ⟨g, 0, none⟩ x).setCell ⟨g, 1, none⟩ y).setCell ⟨g, 2, none⟩ z).setCell ⟨g, 3, none⟩ u) g t #[x, y, z, u] := (((h.put 0 x).put 1 y).put 2 z).put 3 u

theorem below_put4 {w w1 : World} {g : Nat} (h : Below g w w1) (x y z u : Value) :
    Below g w ((((w1.setCell ⟨g, 0, none⟩ x).setCell ⟨g, 1, none⟩ y).setCell ⟨g, 2, none⟩ z).setCell ⟨g, 3, none⟩ u) :=
  (((h.setCell (p := ⟨g, 0, none⟩) (Nat.le_refl _) x).setCell (p := ⟨g, 1, none⟩) (Nat.le_refl _) y).setCell (p := ⟨g, 2, none⟩) (Nat.le_refl _) z).setCell (p := ⟨g, 3, none⟩) (Nat.le_refl _) u

theorem box_err (A : Option Addr) (n c : Nat) (p : Nat → Spot) (w : World) (hn : n ≤ 100) (hnc : n ≤ c) (hp : Spots w w.heap.size A n p) (e : Int) (he : checkF n p = e) (h0 : e ≠ 0) :
    Calls Try.prog 16 #[.slice A n c] w fun r w' => r = .returned (.tuple #[zeroV, .int .i64 e]) ∧ Below w.heap.size w w' := by
  have hne : (e != 0) = true := bne_iff_ne.2 h0
  have HE := Lib.hid he
  clear he
  go_enter Try.func16, Try.ntmps16
  go_wp2_with fail
  have hp1 := hp.later (below_a1 w (.cells #[.int .i64 0, .int .i64 0, .int .i64 0, .int .i64 0] 36))
  refine (check_any A n c p _ hn hnc hp1).mono ?_
  rintro r w1 ⟨rfl, hb1⟩
  rw [HE.out]
  obtain ⟨hc1, hf1⟩ := kept hb1
  have hk := (Blk.new w 36 #[.int .i64 0, .int .i64 0, .int .i64 0, .int .i64 0]).later hb1
  have hbw := below_up (below_a1 w _) hb1
  go_wp2_with fail
  have hk1 := put4 hk (.int .i64 0) (.int .i64 0) (.int .i64 0) (.int .i64 0)
  have hb2 := below_put4 hbw (.int .i64 0) (.int .i64 0) (.int .i64 0) (.int .i64 0)
  generalize hW : World.setCell _ _ _ = W at hk1 hb2 ⊢
  clear hW hc1 hf1
  have q0 := hk1.cell 0
  have q1 := hk1.cell 1
  have q2 := hk1.cell 2
  have q3 := hk1.cell 3
  simp at q0 q1 q2 q3
  exact bodyPost_ret (v := .tuple #[zeroV, .int .i64 e]) (by simp [results, Try.results16, go_sem, q0, q1, q2, q3, zeroV]) rfl ⟨rfl, hb2⟩

set_option maxHeartbeats 1600000 in
theorem box_ok (A : Option Addr) (n c : Nat) (p : Nat → Spot) (w : World) (hn : n ≤ 100) (hnc : n ≤ c) (hp : Spots w w.heap.size A n p) (he : checkF n p = 0) :
    Calls Try.prog 16 #[.slice A n c] w fun r w' => r = .returned (.tuple #[boxV n p, .int .i64 0]) ∧ Below w.heap.size w w' := by
  obtain ⟨hn3, hn40, hok⟩ := check_n he
  have HE := Lib.hid he
  have HK := Lib.hid hok
  obtain ⟨b, off, rfl, hB, hcell⟩ := hp (by omega)
  have HC := Lib.hid hcell
  clear he hok hcell
  go_enter Try.func16, Try.ntmps16
  go_wp2_with fail
  have hp1 := hp.later (below_a1 w (.cells #[.int .i64 0, .int .i64 0, .int .i64 0, .int .i64 0] 36))
  refine (check_any _ n c p _ hn hnc hp1).mono ?_
  rintro r w1 ⟨rfl, hb1⟩
  rw [HE.out]
  have hk := (Blk.new w 36 #[.int .i64 0, .int .i64 0, .int .i64 0, .int .i64 0]).later hb1
  have hbw := below_up (below_a1 w _) hb1
  have hz1 : w.heap.size < w1.heap.size := hk.lt
  clear hb1 hp1 hp
  obtain ⟨e0, e1⟩ := HC.out 0 (by omega)
  simp only [Nat.zero_mul, Nat.add_zero] at e0 e1
  have f0 := (hbw.cell (p := ⟨_, _, none⟩) hB).trans e0
  have f1 := (hbw.cell (p := ⟨_, _, none⟩) hB).trans e1
  clear e0 e1
  have hn0 : (0 : Int) < n := by omega
  have hn0' : 0 < n := by omega
  have hBr : b < w1.heap.size := by omega
  go_upto_region 4 with (fail)
  go_cut [5, 6] (fun v u wx => TwoBlks w1 50 (.int .i64 (p 0).x) (.int .i64 (p 0).y) (.int .i64 (p 0).x) (.int .i64 (p 0).y) v u wx)
  case first =>
    go_region_held3 (fun w' => w'.cell? ⟨b, off, none⟩ = some (.int .i64 (p 0).x) ∧ w'.cell? ⟨b, off + 1, none⟩ = some (.int .i64 (p 0).y)) (go_keep) (fail)
    all_goals (go_wp2_with fail; go_meet; first | exact twoBlks_ab _ _ _ _ _ _ | exact twoBlks_ba _ _ _ _ _ _)
  case rest =>
    obtain ⟨bl, bh, rfl, rfl, h1l, h1h, hlh, hwc, hl, hh⟩ := hcut
    have hkc := hk.keep hwc hz1
    have hbc : Below w.heap.size w wc := hbw.trans (hwc.mono (by omega))
    clear f0 f1 hk
    go_wp2_with fail
    go_loopw [23] (fun t wr => ∃ k : Nat, k ≤ n ∧ t = .int .i64 k ∧ Blk wr bl 50 #[.int .i64 (minTo (spotX p) k), .int .i64 (minTo (spotY p) k)] ∧ Blk wr bh 50 #[.int .i64 (maxTo (spotX p) k), .int .i64 (maxTo (spotY p) k)] ∧
        Blk wr w.heap.size 36 #[.int .i64 0, .int .i64 0, .int .i64 0, .int .i64 0] ∧ Below w.heap.size w wr) (fun t _ => n - (intOf t).toNat)
    case atStart => exact ⟨0, Nat.zero_le _, rfl, hl, hh, hkc, hbc⟩
    case round =>
      obtain ⟨k, hk, rfl, kl, kh, kk, hwr⟩ := hrel
      clear hl hh hkc
      have hs1 := kk.lt
      have hsl := kl.lt
      have hsh := kh.lt
      by_cases hlt : k < n
      · obtain ⟨e0, e1⟩ := HC.out k hlt
        have f0 := (hwr.cell (p := ⟨_, _, none⟩) hB).trans e0
        have f1 := (hwr.cell (p := ⟨_, _, none⟩) hB).trans e1
        clear e0 e1
        have hlt' : (k : Int) < n := by omega
        go_upto_region 8 with (fail)
        have q0 := Blk.new wr 50 #[.int .i64 (p k).x, .int .i64 (p k).y]
        have ql := kl.alloc (.cells #[.int .i64 (p k).x, .int .i64 (p k).y] 50)
        have qh := kh.alloc (.cells #[.int .i64 (p k).x, .int .i64 (p k).y] 50)
        have qk := kk.alloc (.cells #[.int .i64 (p k).x, .int .i64 (p k).y] 50)
        have qb := hwr.alloc hwr.size (.cells #[.int .i64 (p k).x, .int .i64 (p k).y] 50)
        generalize hW : wr.alloc _ = W at q0 ql qh qk qb ⊢
        clear hW f0 f1 kl kh kk
        have g0 := q0.cell 0
        have g1 := q0.cell 1
        have g2 := ql.cell 0
        have g3 := ql.cell 1
        have g4 := ql.free 0
        have g5 := ql.free 1
        simp at g0 g1 g2 g3
        go_upto_region 9 with (fail)
        clear g0 g1 g2 g3 g4 g5
        have q0 := far2 q0 (g := bl) (by omega) (.int .i64 (min (minTo (spotX p) k) (p k).x)) (.int .i64 (min (minTo (spotY p) k) (p k).y))
        have ql := put2 ql (.int .i64 (min (minTo (spotX p) k) (p k).x)) (.int .i64 (min (minTo (spotY p) k) (p k).y))
        have qh := far2 qh (g := bl) (Ne.symm hlh) (.int .i64 (min (minTo (spotX p) k) (p k).x)) (.int .i64 (min (minTo (spotY p) k) (p k).y))
        have qk := far2 qk (g := bl) (by omega) (.int .i64 (min (minTo (spotX p) k) (p k).x)) (.int .i64 (min (minTo (spotY p) k) (p k).y))
        have qb := below_put2 qb (g := bl) (by omega) (.int .i64 (min (minTo (spotX p) k) (p k).x)) (.int .i64 (min (minTo (spotY p) k) (p k).y))
        generalize hW : World.setCell _ _ _ = W2 at q0 ql qh qk qb ⊢
        clear hW
        have g0 := q0.cell 0
        have g1 := q0.cell 1
        have g2 := qh.cell 0
        have g3 := qh.cell 1
        have g4 := qh.free 0
        have g5 := qh.free 1
        simp at g0 g1 g2 g3
        go_upto_region 10 with (fail)
        clear g0 g1 g2 g3 g4 g5
        have ql := far2 ql (g := bh) hlh (.int .i64 (max (maxTo (spotX p) k) (p k).x)) (.int .i64 (max (maxTo (spotY p) k) (p k).y))
        have qh := put2 qh (.int .i64 (max (maxTo (spotX p) k) (p k).x)) (.int .i64 (max (maxTo (spotY p) k) (p k).y))
        have qk := far2 qk (g := bh) (by omega) (.int .i64 (max (maxTo (spotX p) k) (p k).x)) (.int .i64 (max (maxTo (spotY p) k) (p k).y))
        have qb := below_put2 qb (g := bh) (by omega) (.int .i64 (max (maxTo (spotX p) k) (p k).x)) (.int .i64 (max (maxTo (spotY p) k) (p k).y))
        generalize hW : World.setCell _ _ _ = W3 at ql qh qk qb ⊢
        clear hW
        go_wp2_with fail
        go_roundw
        case rel => exact ⟨k + 1, by omega, by go_num, ql, qh, qk, qb⟩
        case measure => simp [intOf]; omega
      · obtain rfl : k = n := by omega
        have hx : ∀ i, i < k → -1048576 ≤ spotX p i ∧ spotX p i ≤ 1048576 := fun i hi => ⟨(HK.out i hi).1, (HK.out i hi).2.1⟩
        have hy : ∀ i, i < k → -1048576 ≤ spotY p i ∧ spotY p i ≤ 1048576 := fun i hi => ⟨(HK.out i hi).2.2.1, (HK.out i hi).2.2.2⟩
        obtain ⟨b1, b2⟩ := minTo_bd hn0' hx k (Nat.le_refl _)
        obtain ⟨b3, b4⟩ := minTo_bd hn0' hy k (Nat.le_refl _)
        obtain ⟨b5, b6⟩ := maxTo_bd hn0' hx k (Nat.le_refl _)
        obtain ⟨b7, b8⟩ := maxTo_bd hn0' hy k (Nat.le_refl _)
        clear hx hy
        have g0 := kl.cell 0
        have g1 := kl.cell 1
        have g2 := kh.cell 0
        have g3 := kh.cell 1
        have g4 := kk.cell 0
        have g5 := kk.cell 1
        have g6 := kk.cell 2
        have g7 := kk.cell 3
        have z0 := kk.free 0
        have z1 := kk.free 1
        have z2 := kk.free 2
        have z3 := kk.free 3
        simp at g0 g1 g2 g3 g4 g5 g6 g7
        go_wp2_with fail
        have hk1 := put4 kk (.int .i64 (minTo (spotX p) k)) (.int .i64 (minTo (spotY p) k)) (.int .i64 (maxTo (spotX p) k - minTo (spotX p) k)) (.int .i64 (maxTo (spotY p) k - minTo (spotY p) k))
        have hb2 := below_put4 hwr (.int .i64 (minTo (spotX p) k)) (.int .i64 (minTo (spotY p) k)) (.int .i64 (maxTo (spotX p) k - minTo (spotX p) k)) (.int .i64 (maxTo (spotY p) k - minTo (spotY p) k))
        generalize hW : World.setCell _ _ _ = W at hk1 hb2 ⊢
        clear hW g0 g1 g2 g3 g4 g5 g6 g7 z0 z1 z2 z3
        have q0 := hk1.cell 0
        have q1 := hk1.cell 1
        have q2 := hk1.cell 2
        have q3 := hk1.cell 3
        simp at q0 q1 q2 q3
        exact bodyPost_ret (v := .tuple #[boxV k p, .int .i64 0]) (by simp [results, Try.results16, go_sem, q0, q1, q2, q3, boxV]) rfl ⟨rfl, hb2⟩

end Go.Proofs.Ytcalchlfipbpkaa
