/- The closure that compares two mixes; the stable sort of at most 6 indices. -/
import Derived.Test.YtkdpkaidbmjcaaaLayO
namespace Go.Proofs.Ytkdpkaidbmjcaaa
open Go.RowKit
set_option linter.unusedSimpArgs false
set_option linter.unusedVariables false

def cmpF (a b : Int) : Int := if a < b then -1 else if b < a then 1 else 0

theorem isNaN_any (x : Int) (w : World) : Calls Try.prog 44 #[.int .i64 x] w fun e w' => e = .returned (.bool false) ∧ w = w' := by
  go_enter Try.func44, Try.ntmps44
  have hne : (x != x) = false := by simp
  go_wp2_with fail
  go_ret
  exact ⟨ret_bool (by simp), rfl⟩

theorem compare_any (a b : Int) (w : World) : Calls Try.prog 36 #[.int .i64 a, .int .i64 b] w fun e w' => e = .returned (.int .i64 (cmpF a b)) ∧ w = w' := by
  go_enter Try.func36, Try.ntmps36
  go_wp2_with fail
  refine (isNaN_any a w).mono ?_
  rintro r w1 ⟨rfl, rfl⟩
  go_wp2_with fail
  refine (isNaN_any b w).mono ?_
  rintro r w1 ⟨rfl, rfl⟩
  by_cases h1 : a < b
  · have HE := Lib.hid (show cmpF a b = -1 from if_pos h1)
    go_wp2_with fail
    go_ret
    exact ⟨ret_int HE.out.symm, rfl⟩
  · by_cases h2 : b < a
    · have HE := Lib.hid (show cmpF a b = 1 from by unfold cmpF; rw [if_neg h1, if_pos h2])
      go_wp2_with fail
      go_ret
      exact ⟨ret_int HE.out.symm, rfl⟩
    · have HE := Lib.hid (show cmpF a b = 0 from by unfold cmpF; rw [if_neg h1, if_neg h2])
      go_wp2_with fail
      go_ret
      exact ⟨ret_int HE.out.symm, rfl⟩

set_option maxHeartbeats 1600000 in
theorem closure_any (A : Option Addr) (m c gx gs s : Nat) (mx : Nat → MixM) (w : World) (i k : Nat) (hi : i < m) (hk : k < m) (hg : GoodM m mx) (hs : s < sizesF m mx) (hq : Mixes w w.heap.size A m mx)
    (hx : w.cell? ⟨gx, 0, none⟩ = some (.slice A m c)) (hy : w.cell? ⟨gs, 0, none⟩ = some (.int .i64 s)) (hx1 : gx < w.heap.size) (hy1 : gs < w.heap.size) :
    Calls Try.prog 35 #[.int .i64 i, .int .i64 k, .pointer (some ⟨gx, 0, none⟩), .pointer (some ⟨gs, 0, none⟩)] w fun e w' => e = .returned (.int .i64 (cmpF ((mx i).len * (mx k).cnt s) ((mx k).len * (mx i).cnt s))) ∧ Below w.heap.size w w' := by
  obtain ⟨l1, l2⟩ := hg.len i hi
  obtain ⟨l3, l4⟩ := hg.len k hk
  obtain ⟨n1, n2⟩ := hg.cnt i s hi hs
  obtain ⟨n3, n4⟩ := hg.cnt k s hk hs
  obtain ⟨v1, v2⟩ := mul_bd (by omega : 0 ≤ (mx i).len) l2 n3 n4
  obtain ⟨v3, v4⟩ := mul_bd (by omega : 0 ≤ (mx k).len) l4 n1 n2
  have wz1 : IntKind.i64.wrap ((mx i).len * (mx k).cnt s) = (mx i).len * (mx k).cnt s := wrap_in (by omega) (by omega)
  have wz2 : IntKind.i64.wrap ((mx k).len * (mx i).cnt s) = (mx k).len * (mx i).cnt s := wrap_in (by omega) (by omega)
  obtain ⟨b, o, rfl, hB⟩ := hq.1.addr (by omega)
  obtain ⟨e0, e1⟩ := hq.at hi
  obtain ⟨e2, e3⟩ := hq.at hk
  obtain ⟨bi, oi, hA1, hB1⟩ := (hq.2 i hi).addr (by rw [hg.cn i hi]; omega)
  obtain ⟨bk, ok', hA2, hB2⟩ := (hq.2 k hk).addr (by rw [hg.cn k hk]; omega)
  have r1 := hq.2 i hi
  have r2 := hq.2 k hk
  rw [hA1] at r1
  rw [hA2] at r2
  have g1 := r1.at1 (i := s) (by rw [hg.cn i hi]; exact hs)
  have g2 := r2.at1 (i := s) (by rw [hg.cn k hk]; exact hs)
  rw [hA1, hg.cn i hi] at e0
  rw [hA2, hg.cn k hk] at e2
  clear r1 r2 hA1 hA2 hg hq l1 l2 l3 l4 n1 n2 n3 n4 v1 v2 v3 v4
  generalize sizesF m mx = S at *
  have xx := fun z : Ext w.heap.size w => z.cell (b := gx) hx1 hx
  have xy := fun z : Ext w.heap.size w => z.cell (b := gs) hy1 hy
  have x0 := fun z : Ext w.heap.size w => z.cell (b := b) hB e0
  have x1 := fun z : Ext w.heap.size w => z.cell (b := b) hB e1
  have x2 := fun z : Ext w.heap.size w => z.cell (b := b) hB e2
  have x3 := fun z : Ext w.heap.size w => z.cell (b := b) hB e3
  have x4 := fun z : Ext w.heap.size w => z.cell (b := bi) hB1 g1
  have x5 := fun z : Ext w.heap.size w => z.cell (b := bk) hB2 g2
  clear e0 e1 e2 e3 g1 g2 hx hy
  have h0 : (0 : Int) ≤ i := by omega
  have h1 : (i : Int) < m := by omega
  have h2 : (0 : Int) ≤ k := by omega
  have h3 : (k : Int) < m := by omega
  have h4 : (0 : Int) ≤ s := by omega
  have h5 : (s : Int) < S := by omega
  go_enter Try.func35, Try.ntmps35
  go_upto_region 1 with (fail)
  refine region_ext w.heap.size (by kernel_rfl) (by kernel_rfl) ?_
  repeat (go_big_quiet_step (first | (go_at_call 36; exact calls_ext_same (compare_any _ _ _))))
  refine wpQuiet_nil ?_
  rintro _ ⟨z, rfl⟩
  obtain ⟨wq, hq⟩ := z
  dsimp only
  clear xx xy x0 x1 x2 x3 x4 x5
  go_wp2_with fail
  go_ret
  exact ⟨rfl, hq⟩

end Go.Proofs.Ytkdpkaidbmjcaaa
