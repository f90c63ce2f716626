/- The error of a plan; what it costs. -/
import Derived.Test.YtkdpkaidbmjcaaaLayC
namespace Go.Proofs.Ytkdpkaidbmjcaaa
open Go.RowKit
set_option linter.unusedSimpArgs false
set_option linter.unusedVariables false

abbrev cntM (mx : Nat → MixM) : Nat → Nat → Int := fun i s => (mx i).cnt s
abbrev lenM (mx : Nat → MixM) : Nat → Int := fun i => (mx i).len
abbrev Ints (w : World) (A : Option Addr) (n : Nat) (f : Nat → Int) : Prop := Row w w.heap.size 1 A n (fun j _ => .int .i64 (f j))

/-- The error of n plies for m mixes. -/
def PliesBad (n : Nat) (f : Nat → Int) : Prop := ∃ i, i < n ∧ (f i < 0 ∨ 40 < f i)
instance (n : Nat) (f : Nat → Int) : Decidable (PliesBad n f) := by unfold PliesBad; exact inferInstance
def planErr (n : Nat) (f : Nat → Int) (m : Nat) (mx : Nat → MixM) : Int := if mixErr m mx ≠ 0 then mixErr m mx else if n ≠ m then 1 else if PliesBad n f then 3 else 0

theorem planErr_mix {n m : Nat} {f : Nat → Int} {mx : Nat → MixM} (h : mixErr m mx ≠ 0) : planErr n f m mx = mixErr m mx := if_pos h
theorem planErr_len {n m : Nat} {f : Nat → Int} {mx : Nat → MixM} (h : mixErr m mx = 0) (h2 : n ≠ m) : planErr n f m mx = 1 := by unfold planErr; rw [if_neg (fun hh => hh h), if_pos h2]
theorem planErr_bad {n m : Nat} {f : Nat → Int} {mx : Nat → MixM} (h : mixErr m mx = 0) (h2 : n = m) (h3 : PliesBad n f) : planErr n f m mx = 3 := by unfold planErr; rw [if_neg (fun hh => hh h), if_neg (fun hh => hh h2), if_pos h3]
theorem planErr_ok {n m : Nat} {f : Nat → Int} {mx : Nat → MixM} (h : mixErr m mx = 0) (h2 : n = m) (h3 : ¬ PliesBad n f) : planErr n f m mx = 0 := by unfold planErr; rw [if_neg (fun hh => hh h), if_neg (fun hh => hh h2), if_neg h3]
theorem plan_ok {n m : Nat} {f : Nat → Int} {mx : Nat → MixM} (h : planErr n f m mx = 0) : mixErr m mx = 0 ∧ n = m ∧ ∀ i, i < n → 0 ≤ f i ∧ f i ≤ 40 := by
  unfold planErr at h
  split at h
  · rename_i h1; exact absurd h h1
  · rename_i h1
    split at h
    · exact absurd h (by decide)
    · rename_i h2
      split at h
      · exact absurd h (by decide)
      · rename_i h3
        refine ⟨Decidable.not_not.1 h1, Decidable.not_not.1 h2, fun i hi => ?_⟩
        have : ¬ (f i < 0 ∨ 40 < f i) := fun hh => h3 ⟨i, hi, hh⟩
        omega

def sizesP (n : Nat) (f : Nat → Int) (m : Nat) (mx : Nat → MixM) : Nat := if planErr n f m mx = 0 then sizesF m mx else 0

set_option maxHeartbeats 1600000 in
theorem checkPlan_any (A A2 : Option Addr) (n c2 m c : Nat) (f : Nat → Int) (mx : Nat → MixM) (w : World) (hp : Ints w A2 n f) (hq : Mixes w w.heap.size A m mx) :
    Calls Try.prog 24 #[.slice A2 n c2, .slice A m c] w fun e w' => e = .returned (.tuple #[.int .i64 (sizesP n f m mx), .int .i64 (planErr n f m mx)]) ∧ Below w.heap.size w w' := by
  have HQ := Lib.hid hq
  have HP := Lib.hid hp
  clear hq hp
  have HF := Lib.hid (fun (x : Int) (h0 : x ≠ 0) (h : planErr n f m mx = x) => show Ending.returned (.tuple #[.int .i64 0, .int .i64 x]) = .returned (.tuple #[.int .i64 (sizesP n f m mx), .int .i64 (planErr n f m mx)]) from
    ret_two (by unfold sizesP; rw [if_neg (by rw [h]; exact h0)]; rfl) h.symm)
  go_enter Try.func24, Try.ntmps24
  go_wp2_with fail
  refine (checkMixes_any A m c mx w HQ.out).mono ?_
  rintro r w1 ⟨rfl, hb1⟩
  by_cases he : mixErr m mx = 0
  rotate_left
  · have HE := Lib.hid (planErr_mix (n := n) (f := f) he)
    have HE0 := Lib.hid he
    have hne : (mixErr m mx != 0) = true := bne_iff_ne.2 he
    clear he
    generalize mixErr m mx = x at *
    go_wp2_with fail
    go_ret2
    exact ⟨HF.out x HE0.out HE.out, hb1⟩
  have HE0 := Lib.hid he
  have HSZ := Lib.hid (show sizesOk m mx = sizesF m mx by unfold sizesOk; rw [if_pos he])
  rw [he]
  clear he
  by_cases hnm : n = m
  rotate_left
  · have hnb : ((n : Int) != (m : Int)) = true := bne_iff_ne.2 (by omega)
    have HE := Lib.hid (planErr_len (f := f) HE0.out hnm)
    clear hnm
    go_wp2_with fail
    go_ret2
    exact ⟨HF.out 1 (by decide) HE.out, hb1⟩
  have hnb : ((n : Int) != (m : Int)) = false := by rw [hnm]; simp
  have HNM := Lib.hid hnm
  have hn6 : n ≤ 6 := by have := (good_of HE0.out).m6; omega
  clear hnm
  go_wp2_with fail
  go_loopw [25] (fun t wr => ∃ k : Nat, k ≤ n ∧ t = .int .i64 k ∧ Hid (∀ i, i < k → 0 ≤ f i ∧ f i ≤ 40) ∧ Below w.heap.size w wr) (fun t _ => n - (intOf t).toNat)
  case atStart => exact ⟨0, Nat.zero_le _, rfl, Lib.hid (fun i hi => absurd hi (by omega)), hb1⟩
  case round =>
    clear hb1
    obtain ⟨k, hk, rfl, hno, hwr⟩ := hrel
    by_cases hlt : k < n
    · obtain ⟨b, o, rfl, hB⟩ := HP.out.addr (by omega)
      have f0 := (hwr.cell (p := ⟨_, _, none⟩) hB).trans (HP.out.at1 hlt)
      have hlt' : (k : Int) < n := by omega
      have hk0 : (0 : Int) ≤ k := by omega
      by_cases h1 : f k < 0
      · have HE := Lib.hid (planErr_bad HE0.out HNM.out ⟨k, hlt, .inl h1⟩)
        go_wp2_with fail
        go_ret2
        exact ⟨HF.out 3 (by decide) HE.out, hwr⟩
      by_cases h2 : 40 < f k
      · have HE := Lib.hid (planErr_bad HE0.out HNM.out ⟨k, hlt, .inr h2⟩)
        go_wp2_with fail
        go_ret2
        exact ⟨HF.out 3 (by decide) HE.out, hwr⟩
      go_wp2_with fail
      go_roundw
      case rel => exact ⟨k + 1, by omega, by go_num, Lib.hid (fun i hi => by rcases Nat.lt_succ_iff_lt_or_eq.1 hi with h' | rfl; exact hno.out i h'; omega), hwr⟩
      case measure => simp [intOf]; omega
    · obtain rfl : k = n := by omega
      have HE := Lib.hid (planErr_ok (f := f) HE0.out HNM.out (fun ⟨i, hi, h⟩ => by have := hno.out i hi; omega))
      go_wp2_with fail
      go_ret2
      exact ⟨ret_two (by unfold sizesP; rw [if_pos HE.out, HSZ.out]) HE.out.symm, hwr⟩

set_option maxHeartbeats 1600000 in
theorem check_any (A A2 : Option Addr) (n c2 m c : Nat) (f : Nat → Int) (mx : Nat → MixM) (w : World) (hp : Ints w A2 n f) (hq : Mixes w w.heap.size A m mx) :
    Calls Try.prog 28 #[.slice A2 n c2, .slice A m c] w fun e w' => e = .returned (.int .i64 (planErr n f m mx)) ∧ Below w.heap.size w w' := by
  have HQ := Lib.hid hq
  have HP := Lib.hid hp
  clear hq hp
  go_enter Try.func28, Try.ntmps28
  go_wp2_with fail
  refine (mixed_any A m c mx w HQ.out).mono ?_
  rintro r w1 ⟨rfl, hb1⟩
  by_cases he : mixErr m mx = 0
  rotate_left
  · have HE := Lib.hid (planErr_mix (n := n) (f := f) he)
    have HE0 := Lib.hid he
    have hne : (mixErr m mx != 0) = true := bne_iff_ne.2 he
    clear he
    generalize mixErr m mx = x at *
    go_wp2_with fail
    go_ret
    exact ⟨ret_int HE.out.symm, hb1⟩
  have HE0 := Lib.hid he
  rw [he]
  clear he
  by_cases hnm : n = m
  rotate_left
  · have hnb : ((n : Int) != (m : Int)) = true := bne_iff_ne.2 (by omega)
    have HE := Lib.hid (planErr_len (f := f) HE0.out hnm)
    clear hnm
    go_wp2_with fail
    go_ret
    exact ⟨ret_int HE.out.symm, hb1⟩
  have hnb : ((n : Int) != (m : Int)) = false := by rw [hnm]; simp
  have HNM := Lib.hid hnm
  have hn6 : n ≤ 6 := by have := (good_of HE0.out).m6; omega
  clear hnm
  go_wp2_with fail
  go_loopw [6] (fun t wr => ∃ k : Nat, k ≤ n ∧ t = .int .i64 k ∧ Hid (∀ i, i < k → 0 ≤ f i ∧ f i ≤ 40) ∧ Below w.heap.size w wr) (fun t _ => n - (intOf t).toNat)
  case atStart => exact ⟨0, Nat.zero_le _, rfl, Lib.hid (fun i hi => absurd hi (by omega)), hb1⟩
  case round =>
    clear hb1
    obtain ⟨k, hk, rfl, hno, hwr⟩ := hrel
    by_cases hlt : k < n
    · obtain ⟨b, o, rfl, hB⟩ := HP.out.addr (by omega)
      have f0 := (hwr.cell (p := ⟨_, _, none⟩) hB).trans (HP.out.at1 hlt)
      have hlt' : (k : Int) < n := by omega
      have hk0 : (0 : Int) ≤ k := by omega
      by_cases h1 : f k < 0
      · have HE := Lib.hid (planErr_bad HE0.out HNM.out ⟨k, hlt, .inl h1⟩)
        go_wp2_with fail
        go_ret
        exact ⟨ret_int HE.out.symm, hwr⟩
      by_cases h2 : 40 < f k
      · have HE := Lib.hid (planErr_bad HE0.out HNM.out ⟨k, hlt, .inr h2⟩)
        go_wp2_with fail
        go_ret
        exact ⟨ret_int HE.out.symm, hwr⟩
      go_wp2_with fail
      go_roundw
      case rel => exact ⟨k + 1, by omega, by go_num, Lib.hid (fun i hi => by rcases Nat.lt_succ_iff_lt_or_eq.1 hi with h' | rfl; exact hno.out i h'; omega), hwr⟩
      case measure => simp [intOf]; omega
    · obtain rfl : k = n := by omega
      have HE := Lib.hid (planErr_ok (f := f) HE0.out HNM.out (fun ⟨i, hi, h⟩ => by have := hno.out i hi; omega))
      go_wp2_with fail
      go_ret
      exact ⟨ret_int HE.out.symm, hwr⟩

theorem mul_bd {x y a b : Int} (h0 : 0 ≤ x) (h1 : x ≤ a) (h2 : 0 ≤ y) (h3 : y ≤ b) : 0 ≤ x * y ∧ x * y ≤ a * b :=
  ⟨Int.mul_nonneg h0 h2, Int.le_trans (Int.mul_le_mul_of_nonneg_right h1 h2) (Int.mul_le_mul_of_nonneg_left h3 (by omega))⟩

theorem made_bd {m n : Nat} {mx : Nat → MixM} {f : Nat → Int} (hg : GoodM m mx) (hf : ∀ i, i < n → 0 ≤ f i ∧ f i ≤ 40) {s : Nat} (hs : s < sizesF m mx) : ∀ k, k ≤ n → k ≤ m → 0 ≤ madeF (cntM mx) f s k ∧ madeF (cntM mx) f s k ≤ 240 * (k : Int) := by
  intro k
  induction k with
  | zero => exact fun _ _ => ⟨Int.le_refl _, Int.le_refl _⟩
  | succ k ih =>
    intro hk hm
    have h1 := ih (by omega) (by omega)
    obtain ⟨c1, c2⟩ := hg.cnt k s (by omega) hs
    obtain ⟨f1, f2⟩ := hf k (by omega)
    obtain ⟨h2, h3⟩ := mul_bd f1 f2 c1 c2
    show 0 ≤ madeF (cntM mx) f s k + f k * (mx k).cnt s ∧ madeF (cntM mx) f s k + f k * (mx k).cnt s ≤ _
    omega

theorem cost_bd {m n : Nat} {mx : Nat → MixM} {f : Nat → Int} (hg : GoodM m mx) (hf : ∀ i, i < n → 0 ≤ f i ∧ f i ≤ 40) : ∀ k, k ≤ n → k ≤ m → 0 ≤ costF (lenM mx) f k ∧ costF (lenM mx) f k ≤ 41943040 * (k : Int) := by
  intro k
  induction k with
  | zero => exact fun _ _ => ⟨Int.le_refl _, Int.le_refl _⟩
  | succ k ih =>
    intro hk hm
    have h1 := ih (by omega) (by omega)
    obtain ⟨c1, c2⟩ := hg.len k (by omega)
    obtain ⟨f1, f2⟩ := hf k (by omega)
    obtain ⟨h2, h3⟩ := mul_bd f1 f2 (by omega : 0 ≤ (mx k).len) c2
    show 0 ≤ costF (lenM mx) f k + f k * (mx k).len ∧ costF (lenM mx) f k + f k * (mx k).len ≤ _
    omega

set_option maxHeartbeats 1600000 in
/-- The reference's cost. -/
theorem rcost_any (A A2 : Option Addr) (n c2 m c : Nat) (f : Nat → Int) (mx : Nat → MixM) (w : World) (hg : GoodM m mx) (hn : n ≤ m) (hf : ∀ i, i < n → 0 ≤ f i ∧ f i ≤ 40) (hp : Ints w A2 n f) (hq : Mixes w w.heap.size A m mx) :
    Calls Try.prog 30 #[.slice A2 n c2, .slice A m c] w fun e w' => e = .returned (.int .i64 (costF (lenM mx) f n)) ∧ Below w.heap.size w w' := by
  have HQ := Lib.hid hq
  have HP := Lib.hid hp
  have HG := Lib.hid hg
  have HFB := Lib.hid hf
  have hm6 := hg.m6
  clear hq hp hg hf
  go_enter Try.func30, Try.ntmps30
  go_wp2_with fail
  go_loopw [5, 6] (fun s t wr => ∃ k : Nat, k ≤ n ∧ t = .int .i64 k ∧ s = .int .i64 (costF (lenM mx) f k) ∧ Below w.heap.size w wr) (fun _ t _ => n - (intOf t).toNat)
  case atStart => exact ⟨0, Nat.zero_le _, rfl, rfl, Below.refl _ _⟩
  case round =>
    obtain ⟨k, hk, rfl, rfl, hwr⟩ := hrel
    obtain ⟨b1, b2⟩ := cost_bd HG.out HFB.out k hk (by omega)
    by_cases hlt : k < n
    · obtain ⟨b, o, rfl, hB⟩ := HP.out.addr (by omega)
      obtain ⟨bm, om, rfl, hBm⟩ := HQ.out.1.addr (by omega)
      have f0 := (hwr.cell (p := ⟨_, _, none⟩) hB).trans (HP.out.at1 hlt)
      obtain ⟨_, f1⟩ := (HQ.out.keep hwr).at (i := k) (by omega)
      obtain ⟨u1, u2⟩ := HFB.out k hlt
      obtain ⟨l1, l2⟩ := HG.out.len k (by omega)
      obtain ⟨v1, v2⟩ := mul_bd u1 u2 (by omega : 0 ≤ (mx k).len) l2
      have HS := Lib.hid (show costF (lenM mx) f (k + 1) = costF (lenM mx) f k + f k * (mx k).len from rfl)
      generalize costF (lenM mx) f k = T at *
      have w0 : IntKind.i64.wrap (f k * (mx k).len) = f k * (mx k).len := wrap_cast v1 (by omega)
      have w1 : IntKind.i64.wrap (T + f k * (mx k).len) = T + f k * (mx k).len := wrap_cast (by omega) (by omega)
      have hlt' : (k : Int) < n := by omega
      have hk0 : (0 : Int) ≤ k := by omega
      have hkm : (k : Int) < m := by omega
      have x0 := fun z : Ext w.heap.size wr => z.cell (b := b) hB f0
      have x1 := fun z : Ext w.heap.size wr => z.cell (b := bm) hBm f1
      clear f0 f1
      go_upto_region 5 with (fail)
      refine region_ext w.heap.size (by kernel_rfl) (by kernel_rfl) ?_
      repeat (go_big_quiet_step (fail))
      refine wpQuiet_nil ?_
      rintro _ ⟨z, rfl⟩
      obtain ⟨wq, hq⟩ := z
      dsimp only
      have hwq : Below w.heap.size w wq := hwr.trans hq
      clear x0 x1 w0 w1
      go_wp2_with fail
      go_roundw
      case rel => exact ⟨k + 1, by omega, by go_num, by rw [HS.out], hwq⟩
      case measure => simp [intOf]; omega
    · obtain rfl : k = n := by omega
      go_wp2_with fail
      go_ret
      exact ⟨rfl, hwr⟩

/-- What Cost returns. -/
def costP (n : Nat) (f : Nat → Int) (m : Nat) (mx : Nat → MixM) : Int := if planErr n f m mx = 0 then costF (lenM mx) f m else 0

set_option maxHeartbeats 1600000 in
theorem Cost_any (A A2 : Option Addr) (n c2 m c : Nat) (f : Nat → Int) (mx : Nat → MixM) (w : World) (hp : Ints w A2 n f) (hq : Mixes w w.heap.size A m mx) :
    Calls Try.prog 15 #[.slice A2 n c2, .slice A m c] w fun e w' => e = .returned (.tuple #[.int .i64 (costP n f m mx), .int .i64 (planErr n f m mx)]) ∧ Below w.heap.size w w' := by
  have HQ := Lib.hid hq
  have HP := Lib.hid hp
  clear hq hp
  go_enter Try.func15, Try.ntmps15
  go_wp2_with fail
  refine (checkPlan_any A A2 n c2 m c f mx w HP.out HQ.out).mono ?_
  rintro r w1 ⟨rfl, hb1⟩
  by_cases he : planErr n f m mx = 0
  rotate_left
  · have HE0 := Lib.hid (show costP n f m mx = 0 by unfold costP; rw [if_neg he])
    have hne : (planErr n f m mx != 0) = true := bne_iff_ne.2 he
    clear he
    go_wp2_with fail
    go_ret2
    exact ⟨ret_two HE0.out.symm rfl, hb1⟩
  obtain ⟨h1, h2, h3⟩ := plan_ok he
  have HE0 := Lib.hid (show costP n f m mx = costF (lenM mx) f m by unfold costP; rw [if_pos he])
  have HG := Lib.hid (good_of h1)
  have HFB := Lib.hid h3
  have hm6 := HG.out.m6
  rw [he]
  have HE := Lib.hid he
  clear he h1 h3
  subst h2
  go_wp2_with fail
  go_loopw [8, 22] (fun s t wr => ∃ k : Nat, k ≤ n ∧ t = .int .i64 k ∧ s = .int .i64 (costF (lenM mx) f k) ∧ Below w.heap.size w wr) (fun _ t _ => n - (intOf t).toNat)
  case atStart => exact ⟨0, Nat.zero_le _, rfl, rfl, hb1⟩
  case round =>
    clear hb1
    obtain ⟨k, hk, rfl, rfl, hwr⟩ := hrel
    have hs1 : w.heap.size ≤ wr.heap.size := hwr.size
    obtain ⟨b1, b2⟩ := cost_bd HG.out HFB.out k hk hk
    by_cases hlt : k < n
    · obtain ⟨b, o, rfl, hB⟩ := HP.out.addr (by omega)
      obtain ⟨bm, om, rfl, hBm⟩ := HQ.out.1.addr (by omega)
      have f0 := (hwr.cell (p := ⟨_, _, none⟩) hB).trans (HP.out.at1 hlt)
      obtain ⟨e0, e1⟩ := (HQ.out.keep hwr).at (i := k) (by omega)
      obtain ⟨u1, u2⟩ := HFB.out k hlt
      obtain ⟨l1, l2⟩ := HG.out.len k (by omega)
      obtain ⟨v1, v2⟩ := mul_bd u1 u2 (by omega : 0 ≤ (mx k).len) l2
      have HS := Lib.hid (show costF (lenM mx) f (k + 1) = costF (lenM mx) f k + f k * (mx k).len from rfl)
      generalize costF (lenM mx) f k = T at *
      have w0 : IntKind.i64.wrap (f k * (mx k).len) = f k * (mx k).len := wrap_cast v1 (by omega)
      have w1 : IntKind.i64.wrap (T + f k * (mx k).len) = T + f k * (mx k).len := wrap_cast (by omega) (by omega)
      have hlt' : (k : Int) < n := by omega
      have hk0 : (0 : Int) ≤ k := by omega
      go_upto_region 8 with (fail)
      have qN := Blk.new wr 39 #[.slice (mx k).ca (mx k).cn (mx k).cc, .int .i64 (mx k).len]
      have qb0 := below_a1 wr (.cells #[.slice (mx k).ca (mx k).cn (mx k).cc, .int .i64 (mx k).len] 39)
      have qb := below_up hwr qb0
      obtain ⟨g, hg⟩ : ∃ g, g = wr.heap.size := ⟨_, rfl⟩
      have f0' := (qb0.cell (p := ⟨b, o + k, none⟩) (by simp only []; omega)).trans f0
      rw [← hg] at qN
      rw [← hg]
      generalize hW : wr.alloc _ = W at qN qb qb0 f0' ⊢
      have hgW := qN.lt
      have c1 := qN.cell 1
      simp at c1
      clear hW f0 e0 e1
      have x0 := fun z : Ext W.heap.size W => z.cell (b := b) (by omega) f0'
      have x1 := fun z : Ext W.heap.size W => z.cell (b := g) hgW c1
      clear f0' c1 hg
      refine region_ext W.heap.size (by kernel_rfl) (by kernel_rfl) ?_
      repeat (go_big_quiet_step (fail))
      refine wpQuiet_nil ?_
      rintro _ ⟨z, rfl⟩
      obtain ⟨wq, hq⟩ := z
      dsimp only
      have hwq : Below w.heap.size w wq := below_up qb hq
      clear x0 x1 w0 w1 qN
      go_wp2_with fail
      go_roundw
      case rel => exact ⟨k + 1, by omega, by go_num, by rw [HS.out], hwq⟩
      case measure => simp [intOf]; omega
    · obtain rfl : k = n := by omega
      go_wp2_with fail
      go_ret2
      exact ⟨ret_two HE0.out.symm HE.out.symm, hwr⟩

end Go.Proofs.Ytkdpkaidbmjcaaa
