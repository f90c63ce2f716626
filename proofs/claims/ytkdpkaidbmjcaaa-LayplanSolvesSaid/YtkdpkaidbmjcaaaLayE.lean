/- The reference's Cost; what a plan produces. -/
import Derived.Test.YtkdpkaidbmjcaaaLayD
namespace Go.Proofs.Ytkdpkaidbmjcaaa
open Go.RowKit
set_option linter.unusedSimpArgs false
set_option linter.unusedVariables false

set_option maxHeartbeats 1600000 in
theorem rCost_any (A A2 : Option Addr) (n c2 m c : Nat) (f : Nat → Int) (mx : Nat → MixM) (w : World) (hp : Ints w A2 n f) (hq : Mixes w w.heap.size A m mx) :
    Calls Try.prog 19 #[.slice A2 n c2, .slice A m c] w fun e w' => e = .returned (.tuple #[.int .i64 (costP n f m mx), .int .i64 (planErr n f m mx)]) ∧ Below w.heap.size w w' := by
  have HQ := Lib.hid hq
  have HP := Lib.hid hp
  clear hq hp
  go_enter Try.func19, Try.ntmps19
  go_wp2_with fail
  refine (check_any A A2 n c2 m c f mx w HP.out HQ.out).mono ?_
  rintro r w1 ⟨rfl, hb1⟩
  by_cases he : planErr n f m mx = 0
  rotate_left
  · have HE0 := Lib.hid (show costP n f m mx = 0 by unfold costP; rw [if_neg he])
    have hne : (planErr n f m mx != 0) = true := bne_iff_ne.2 he
    clear he
    go_wp2_with fail
    go_ret2
    exact ⟨ret_two HE0.out.symm rfl, hb1⟩
  obtain ⟨h1, h2, h3⟩ := plan_ok he
  have HE0 := Lib.hid (show costP n f m mx = costF (lenM mx) f m by unfold costP; rw [if_pos he])
  have HG := Lib.hid (good_of h1)
  have HFB := Lib.hid h3
  rw [he]
  have HE := Lib.hid he
  clear he h1 h3
  subst h2
  go_wp2_with fail
  refine (rcost_any A A2 n c2 n c f mx w1 HG.out (Nat.le_refl _) HFB.out (HP.out.later hb1) (HQ.out.later hb1)).mono ?_
  rintro r w2 ⟨rfl, hb2⟩
  have qb := below_up hb1 hb2
  go_wp2_with fail
  go_ret2
  exact ⟨ret_two HE0.out.symm HE.out.symm, qb⟩
theorem int_info : (Try.prog.info? 3).map (fun i => (i.zero, i.size, i.bytes)) = some (some (.int .i64 0), 1, 8) := by kernel_rfl

set_option maxHeartbeats 1600000 in
/-- The reference's made. -/
theorem rmade_any (A A2 : Option Addr) (n c2 m c : Nat) (f : Nat → Int) (mx : Nat → MixM) (w : World) (hg : GoodM m mx) (hn : n ≤ m) (hf : ∀ i, i < n → 0 ≤ f i ∧ f i ≤ 40) (hp : Ints w A2 n f) (hq : Mixes w w.heap.size A m mx) :
    Calls Try.prog 29 #[.slice A2 n c2, .slice A m c] w fun e w' => ∃ v, e = .returned v ∧ Owned w' w.heap.size 3 1 v (sizesF m mx) (fun s _ => .int .i64 (madeF (cntM mx) f s n)) ∧ Below w.heap.size w w' := by
  have HQ := Lib.hid hq
  have HP := Lib.hid hp
  have HG := Lib.hid hg
  have HFB := Lib.hid hf
  have hm6 := hg.m6
  have hs12 := hg.s12
  clear hq hp hg hf
  obtain ⟨i0, hi0, hz0, hz1, hz2⟩ := info_parts int_info
  have HI0 := Lib.hid hi0
  have HZ := Lib.hid (And.intro hz0 (And.intro hz1 hz2))
  clear hi0 hz0 hz1 hz2
  obtain ⟨S, hS⟩ : ∃ S, S = sizesF m mx := ⟨_, rfl⟩
  have HS0 := Lib.hid (show ¬ m = 0 → (mx 0).cn = S from fun hm0 => by rw [hS]; unfold sizesF; rw [if_neg hm0])
  have HS1 := Lib.hid (show 0 < S → ¬ m = 0 from fun h0 hm0 => by rw [hS, hm0] at h0; unfold sizesF at h0; rw [if_pos rfl] at h0; omega)
  rw [← hS] at hs12 ⊢
  have HSS := Lib.hid hS
  clear hS
  go_enter Try.func29, Try.ntmps29
  go_wp2_with fail
  go_loopw [5, 6] (fun v t wr => ∃ k : Nat, k ≤ S ∧ t = .int .i64 k ∧ Owned wr w.heap.size 3 1 v k (fun s _ => .int .i64 (madeF (cntM mx) f s n)) ∧ Below w.heap.size w wr) (fun _ t _ => S - (intOf t).toNat)
  case atStart => exact ⟨0, Nat.zero_le _, rfl, Owned.nil _ _ _ _ _, Below.refl _ _⟩
  case round =>
    obtain ⟨k, hk, rfl, kO, hwr⟩ := hrel
    have hs1 : w.heap.size ≤ wr.heap.size := hwr.size
    by_cases hlt : k < S
    · have hm0 := HS1.out (by omega)
      have hm0' : (0 : Int) < m := by omega
      obtain ⟨bm, om, rfl, hBm⟩ := HQ.out.1.addr (by omega)
      obtain ⟨e0, _⟩ := (HQ.out.keep hwr).at (i := 0) (by omega)
      rw [Nat.zero_mul, Nat.add_zero, HS0.out hm0] at e0
      have hlt' : (k : Int) < S := by omega
      have hk0 : (0 : Int) ≤ k := by omega
      go_wp2_with fail
      clear e0
      obtain ⟨w1, hw1⟩ : ∃ w1, w1 = wr := ⟨_, rfl⟩
      subst hw1
      go_loopw [7, 8] (fun v t wx => ∃ i : Nat, i ≤ n ∧ t = .int .i64 i ∧ v = .int .i64 (madeF (cntM mx) f k i) ∧ Below w1.heap.size w1 wx) (fun _ t _ => n - (intOf t).toNat)
      case atStart => exact ⟨0, Nat.zero_le _, rfl, rfl, Below.refl _ _⟩
      case round =>
        obtain ⟨wx, hwx'⟩ : ∃ wx, wx = wr := ⟨_, rfl⟩
        subst hwx'
        obtain ⟨i, hi, rfl, rfl, hwx⟩ := hrel
        obtain ⟨b1, b2⟩ := made_bd HG.out HFB.out (by rw [← HSS.out]; exact hlt) i hi (by omega)
        by_cases hli : i < n
        · obtain ⟨b, o, rfl, hB⟩ := HP.out.addr (by omega)
          have hbx := below_up hwr hwx
          have hsx : w.heap.size ≤ wx.heap.size := hbx.size
          have f0 := (hbx.cell (p := ⟨_, _, none⟩) hB).trans (HP.out.at1 hli)
          obtain ⟨f1, _⟩ := (HQ.out.keep hbx).at (i := i) (by omega)
          obtain ⟨bc, oc, hca, hBc⟩ := (HQ.out.2 i (by omega)).addr (by rw [HG.out.cn i (by omega), ← HSS.out]; omega)
          have hrow := ((HQ.out.2 i (by omega)).keep hbx)
          rw [hca] at hrow
          have f2 := hrow.at1 (i := k) (by rw [HG.out.cn i (by omega), ← HSS.out]; omega)
          rw [hca, HG.out.cn i (by omega), ← HSS.out] at f1
          obtain ⟨u1, u2⟩ := HFB.out i hli
          obtain ⟨l1, l2⟩ := HG.out.cnt i k (by omega) (by rw [← HSS.out]; exact hlt)
          obtain ⟨v1, v2⟩ := mul_bd u1 u2 l1 l2
          have HS := Lib.hid (show madeF (cntM mx) f k (i + 1) = madeF (cntM mx) f k i + f i * (mx i).cnt k from rfl)
          clear hrow hca
          generalize madeF (cntM mx) f k i = T at *
          have wz0 : IntKind.i64.wrap (f i * (mx i).cnt k) = f i * (mx i).cnt k := wrap_cast v1 (by omega)
          have wz1 : IntKind.i64.wrap (T + f i * (mx i).cnt k) = T + f i * (mx i).cnt k := wrap_cast (by omega) (by omega)
          have hli' : (i : Int) < n := by omega
          have hi0 : (0 : Int) ≤ i := by omega
          have him : (i : Int) < m := by omega
          have x0 := fun z : Ext w.heap.size wx => z.cell (b := b) hB f0
          have x1 := fun z : Ext w.heap.size wx => z.cell (b := bm) hBm f1
          have x2 := fun z : Ext w.heap.size wx => z.cell (b := bc) hBc f2
          clear f0 f1 f2
          go_upto_region 9 with (fail)
          refine region_ext wx.heap.size (by kernel_rfl) (by kernel_rfl) ?_
          have x0 := fun z : Ext wx.heap.size wx => x0 ⟨z.wx, z.below.mono hsx⟩
          have x1 := fun z : Ext wx.heap.size wx => x1 ⟨z.wx, z.below.mono hsx⟩
          have x2 := fun z : Ext wx.heap.size wx => x2 ⟨z.wx, z.below.mono hsx⟩
          simp only [] at x0 x1 x2
          repeat (go_big_quiet_step (fail))
          refine wpQuiet_nil ?_
          rintro _ ⟨z, rfl⟩
          obtain ⟨wq, hq⟩ := z
          dsimp only
          have hwq : Below w1.heap.size w1 wq := below_up hwx hq
          clear x0 x1 x2 wz0 wz1
          go_wp2_with fail
          go_roundw
          case rel => exact ⟨i + 1, by omega, by go_num, by rw [HS.out], hwq⟩
          case measure => simp [intOf]; omega
        · obtain rfl : i = n := by omega
          have rO := kO.later hwx
          have rb := below_up hwr hwx
          have hz3 : w.heap.size ≤ wx.heap.size := rb.size
          clear kO hwr
          obtain ⟨X, hX⟩ : ∃ X, X = madeF (cntM mx) f k i := ⟨_, rfl⟩
          rw [← hX] at b1 b2 ⊢
          have HX := Lib.hid hX
          clear hX
          go_wp2_with (at_builtin; refine wpList_append_row _ rfl _ _ _ rfl w.heap.size 3 i0 _ 1 8 Try.underlying22 HI0.out HZ.out.1 HZ.out.2.1 HZ.out.2.2 rfl (by omega) _ k _ rfl (rO.alloc _) _ _ 1 1 (fun _ _ => .int .i64 X) rfl (Row.lit wx #[.int .i64 X] 1 3 1 _ (by simp only [maxLen]; omega) rfl) (fun i j _ hj => rfl) (by simp only [maxLen]; omega) (by omega) (by simp; omega) ?_; intro v' w4 hown hgr hbk)
          have ub := (rO.alloc (.cells #[.int .i64 X] 3)).below_grown (rb.alloc hz3 _) (Nat.le_refl _) (by simp; omega) hgr
          have uO := hown.congr (g := fun s _ => .int .i64 (madeF (cntM mx) f s i)) (fun l j hl hj => by
            unfold glue
            by_cases hlk : l < k
            · rw [if_pos hlk]
            · obtain rfl : l = k := by omega
              rw [if_neg hlk, HX.out])
          clear hown hgr hbk
          go_roundw
          case rel => exact ⟨k + 1, by omega, by go_num, uO, ub⟩
          case measure => simp [intOf]; omega
    · obtain rfl : k = S := by omega
      have hlt' : ¬ (k : Int) < k := by omega
      by_cases hm0 : m = 0
      · subst hm0
        go_wp2_with fail
        go_ret
        exact ⟨_, rfl, kO, hwr⟩
      · have hm0' : (0 : Int) < m := by omega
        obtain ⟨bm, om, rfl, hBm⟩ := HQ.out.1.addr (by omega)
        obtain ⟨e0, _⟩ := (HQ.out.keep hwr).at (i := 0) (by omega)
        rw [Nat.zero_mul, Nat.add_zero, HS0.out hm0] at e0
        go_wp2_with fail
        go_ret
        exact ⟨_, rfl, kO, hwr⟩

end Go.Proofs.Ytkdpkaidbmjcaaa
