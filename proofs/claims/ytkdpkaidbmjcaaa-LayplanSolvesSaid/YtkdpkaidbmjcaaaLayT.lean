/- Same; the example of the chapter; alive. -/
import Derived.Test.YtkdpkaidbmjcaaaLayS
namespace Go.Proofs.Ytkdpkaidbmjcaaa
open Go.RowKit
set_option linter.unusedSimpArgs false
set_option linter.unusedVariables false

set_option maxHeartbeats 1600000 in
theorem same_any (A A2 : Option Addr) (n m c c2 : Nat) (f g : Nat → Int) (w : World) (hn : n ≤ 1000) (hm : m ≤ 1000) (hp : Row w w.heap.size 1 A n (fun i _ => .int .i64 (f i))) (hq : Row w w.heap.size 1 A2 m (fun i _ => .int .i64 (g i))) :
    Calls Try.prog 16 #[.slice A n c, .slice A2 m c2] w
      fun e w' => e = .returned (.bool (sameListF n m (fun i => decide (f i = g i)))) ∧ Below w.heap.size w w' := by
  have HP := Lib.hid hp
  have HQ := Lib.hid hq
  clear hp hq
  by_cases hnm : n = m
  rotate_left
  · have hb : ((n : Int) != (m : Int)) = true := bne_iff_ne.2 (by omega)
    have HR := Lib.hid (sameList_len (q := fun i => decide (f i = g i)) hnm)
    go_enter Try.func16, Try.ntmps16
    go_wp2_with fail
    go_ret
    exact ⟨ret_bool HR.out.symm, Below.refl _ _⟩
  subst hnm
  have hb : ((n : Int) != (n : Int)) = false := by simp
  go_enter Try.func16, Try.ntmps16
  go_wp2_with fail
  go_loopw [5] (fun t wr => ∃ k : Nat, k ≤ n ∧ t = .int .i64 k ∧ Hid (∀ i, i < k → decide (f i = g i) = true) ∧ Below w.heap.size w wr) (fun t _ => n - (intOf t).toNat)
  case atStart => exact ⟨0, Nat.zero_le _, rfl, Lib.hid (fun j hj => absurd hj (by omega)), Below.refl _ _⟩
  case round =>
    obtain ⟨k, hk, rfl, hno, hwr⟩ := hrel
    have hs1 : w.heap.size ≤ wr.heap.size := hwr.size
    by_cases hlt : k < n
    · obtain ⟨bx, ox, rfl, hBx⟩ := HP.out.addr (by omega)
      obtain ⟨bY, oy, rfl, hBy⟩ := HQ.out.addr (by omega)
      have e0 := HP.out.at1 hlt
      have x0 := fun z : Ext w.heap.size wr => z.cell (b := bx) (by omega) ((hwr.cell (p := ⟨_, _, none⟩) (by simp only []; omega)).trans e0)
      clear e0
      have e0 := HQ.out.at1 hlt
      have y0 := fun z : Ext w.heap.size wr => z.cell (b := bY) (by omega) ((hwr.cell (p := ⟨_, _, none⟩) (by simp only []; omega)).trans e0)
      clear e0
      have hlt' : (k : Int) < n := by omega
      have hk0 : (0 : Int) ≤ k := by omega
      go_upto_region 6 with (fail)
      refine region_ext w.heap.size (by kernel_rfl) (by kernel_rfl) ?_
      repeat (go_big_quiet_step (fail))
      refine wpQuiet_nil ?_
      rintro _ ⟨z, rfl⟩
      obtain ⟨wq, hq⟩ := z
      dsimp only
      clear x0 y0
      have hwq : Below w.heap.size w wq := hwr.trans hq
      cases hv : decide (f k = g k)
      · have hV := Lib.hid hv
        have HR := Lib.hid (sameList_at (q := fun i => decide (f i = g i)) hlt hv)
        try simp only [decide_eq_false_iff_not] at hv
        try (have hv2 : (((f k) : Int) != (g k)) = true := bne_iff_ne.2 hv)
        go_wp2_with fail
        go_ret
        exact ⟨ret_bool HR.out.symm, hwq⟩
      · have hV := Lib.hid hv
        try simp only [decide_eq_true_eq] at hv
        try (have hv2 : (((f k) : Int) != (g k)) = false := by rw [hv]; simp)
        try clear hv
        go_wp2_with fail
        go_roundw
        case rel => exact ⟨k + 1, by omega, by go_num, Lib.hid (fun i hi => by rcases Nat.lt_succ_iff_lt_or_eq.1 hi with h' | rfl; exact hno.out i h'; exact hV.out), hwq⟩
        case measure => simp [intOf]; omega
    · have HR := Lib.hid (sameList_true (n := n) (q := fun i => decide (f i = g i)) (fun i hi => hno.out i (by omega)))
      go_wp2_with fail
      go_ret
      exact ⟨ret_bool HR.out.symm, hwr⟩

/-- The mixes of the example. -/
def exM (a1 a2 : Option Addr) : Nat → MixM
  | 0 => ⟨a1, 2, 2, fun _ => 1, 100⟩
  | _ => ⟨a2, 2, 2, fun j => if j = 0 then 2 else 0, 90⟩

set_option maxHeartbeats 1600000 in
theorem two_any (w : World) : Calls Try.prog 23 #[] w fun e w' => ∃ A a1 a2, e = .returned (.slice A 2 2) ∧ Mixes w' w'.heap.size A 2 (exM a1 a2) ∧ Below w.heap.size w w' := by
  have r1 := Row.lit w #[.int .i64 1, .int .i64 1] 2 3 1 (fun j _ => .int .i64 1) (by simp only [maxLen]; omega) rfl
  have b1 := below_a1 w (.cells #[.int .i64 1, .int .i64 1] 3)
  obtain ⟨w1, hw1⟩ : ∃ w1, w1 = w.alloc (.cells #[.int .i64 1, .int .i64 1] 3) := ⟨_, rfl⟩
  rw [← hw1] at r1 b1
  have r2 := Row.lit w1 #[.int .i64 2, .int .i64 0] 2 3 1 (fun j _ => .int .i64 (if j = 0 then 2 else 0)) (by simp only [maxLen]; omega) rfl
  have b2 := below_a1 w1 (.cells #[.int .i64 2, .int .i64 0] 3)
  obtain ⟨w2, hw2⟩ : ∃ w2, w2 = w1.alloc (.cells #[.int .i64 2, .int .i64 0] 3) := ⟨_, rfl⟩
  rw [← hw2] at r2 b2
  have r3 := Row.lit w2 #[.slice (some ⟨w.heap.size, 0, none⟩) 2 2, .int .i64 100, .slice (some ⟨w1.heap.size, 0, none⟩) 2 2, .int .i64 90] 2 39 2 (fun i => (exM (some ⟨w.heap.size, 0, none⟩) (some ⟨w1.heap.size, 0, none⟩) i).c) (by simp only [maxLen]; omega) rfl
  have b3 := below_a1 w2 (.cells #[.slice (some ⟨w.heap.size, 0, none⟩) 2 2, .int .i64 100, .slice (some ⟨w1.heap.size, 0, none⟩) 2 2, .int .i64 90] 39)
  have HM : Hid (Mixes _ _ (some ⟨w2.heap.size, 0, none⟩) 2 (exM (some ⟨w.heap.size, 0, none⟩) (some ⟨w1.heap.size, 0, none⟩))) := Lib.hid ⟨r3, fun i hi => by
    match i, hi with
    | 0, _ => exact (r1.later b2).later b3
    | 1, _ => exact r2.later b3⟩
  have HB := Lib.hid (below_up (below_up b1 b2) b3)
  clear r1 r2 r3 b1 b2 b3
  have hs1 : w1.heap.size = w.heap.size + 1 := by rw [hw1]; simp
  have hs2 : w2.heap.size = w.heap.size + 1 + 1 := by rw [hw2]; simp [hs1]
  rw [hw2, hw1] at HM HB
  rw [hw1] at hs1
  rw [hw2, hw1] at hs2
  rw [hs1, hs2] at HM
  rw [hs1] at HB
  clear hs1 hs2 hw1 hw2 w1 w2
  go_enter Try.func23, Try.ntmps23
  go_wp2_with fail
  go_ret
  exact ⟨_, _, _, rfl, HM.out, HB.out⟩

def ex32 : Nat → Int
  | 0 => 3
  | _ => 2
def ex73 : Nat → Int
  | 0 => 7
  | _ => 3
def ex63 : Nat → Int
  | 0 => 6
  | _ => 3

section
variable (a1 a2 : Option Addr)
theorem exP0 : planErr 2 ex32 2 (exM a1 a2) = 0 := by kernel_rfl
theorem exP1 : sizesP 2 ex32 2 (exM a1 a2) = 2 := by kernel_rfl
theorem exP2 : costP 2 ex32 2 (exM a1 a2) = 480 := by kernel_rfl
theorem exP3 : sameListF 2 2 (fun j => decide (madeF (cntM (exM a1 a2)) ex32 j 2 = ex73 j)) = true := by kernel_rfl
theorem exA1 : askErr 2 ex73 2 (exM a1 a2) 0 10 = 0 := by kernel_rfl
theorem exA2 : askErr 2 ex63 2 (exM a1 a2) 0 10 = 0 := by kernel_rfl
theorem exA3 : askErr 2 ex63 2 (exM a1 a2) 1 10 = 0 := by kernel_rfl
theorem ex_made0 (p : Plan) : madeF (cntM (exM a1 a2)) p 0 2 = p 0 * 1 + p 1 * 2 := by show 0 + p 0 * 1 + p 1 * 2 = _; omega
theorem ex_made1 (p : Plan) : madeF (cntM (exM a1 a2)) p 1 2 = p 0 * 1 + p 1 * 0 := by show 0 + p 0 * 1 + p 1 * 0 = _; omega
theorem ex_cost (p : Plan) : costF (lenM (exM a1 a2)) p 2 = p 0 * 100 + p 1 * 90 := by show 0 + p 0 * 100 + p 1 * 90 = _; omega

theorem ex_feas (ord : Nat → Int) (over : Int) (p : Plan) (h0 : 0 ≤ p 0 ∧ p 0 ≤ 10) (h1 : 0 ≤ p 1 ∧ p 1 ≤ 10) (g0 : ord 0 ≤ p 0 + p 1 * 2 ∧ p 0 + p 1 * 2 ≤ ord 0 + over) (g1 : ord 1 ≤ p 0 ∧ p 0 ≤ ord 1 + over) : FeasP 2 2 (cntM (exM a1 a2)) ord over 10 p := by
  refine ⟨fun i hi => ?_, fun s hs => ?_⟩
  · match i, hi with
    | 0, _ => exact h0
    | 1, _ => exact h1
  · match s, hs with
    | 0, _ => rw [ex_made0]; omega
    | 1, _ => rw [ex_made1]; omega

theorem ex_unfeas {ord : Nat → Int} {over : Int} {p : Plan} (h : FeasP 2 2 (cntM (exM a1 a2)) ord over 10 p) : (0 ≤ p 0 ∧ p 0 ≤ 10) ∧ (0 ≤ p 1 ∧ p 1 ≤ 10) ∧ (ord 0 ≤ p 0 + p 1 * 2 ∧ p 0 + p 1 * 2 ≤ ord 0 + over) ∧ ord 1 ≤ p 0 ∧ p 0 ≤ ord 1 + over := by
  have h0 := h.2 0 (by omega)
  have h1 := h.2 1 (by omega)
  rw [ex_made0] at h0
  rw [ex_made1] at h1
  exact ⟨h.1 0 (by omega), h.1 1 (by omega), by omega, by omega⟩

theorem exS1 {x : Int} {r : Plan} (h : SolveOut 2 ex73 2 (exM a1 a2) 0 10 x r) : x = 0 ∧ r 0 = 3 ∧ r 1 = 2 := by
  rcases h with ⟨h1, h2, _⟩ | ⟨_, _, h3⟩ | ⟨_, h2, h3⟩
  · rw [exA1] at h1; exact absurd h1 h2
  · exact absurd trivial (h3 ex32 (ex_feas a1 a2 ex73 0 ex32 (by decide) (by decide) (by decide) (by decide)))
  · have := ex_unfeas a1 a2 h3.1
    simp only [ex73] at this
    exact ⟨h2, by omega, by omega⟩
theorem exS2 {x : Int} {r : Plan} (h : SolveOut 2 ex63 2 (exM a1 a2) 0 10 x r) : x = 18 := by
  rcases h with ⟨h1, h2, _⟩ | ⟨_, h2, h3⟩ | ⟨_, h2, h3⟩
  · rw [exA2] at h1; exact absurd h1 h2
  · exact h2
  · have := ex_unfeas a1 a2 h3.1
    simp only [ex63] at this
    omega
theorem exS3 {x : Int} {r : Plan} (h : SolveOut 2 ex63 2 (exM a1 a2) 1 10 x r) : x = 0 ∧ r 0 = 3 ∧ r 1 = 2 := by
  rcases h with ⟨h1, h2, _⟩ | ⟨_, _, h3⟩ | ⟨_, h2, h3⟩
  · rw [exA3] at h1; exact absurd h1 h2
  · exact absurd trivial (h3 ex32 (ex_feas a1 a2 ex63 1 ex32 (by decide) (by decide) (by decide) (by decide)))
  · have g1 := ex_unfeas a1 a2 h3.1
    simp only [ex63] at g1
    have g2 := h3.2.2 ex32 (ex_feas a1 a2 ex63 1 ex32 (by decide) (by decide) (by decide) (by decide)) trivial
    dsimp only at g2
    rw [ex_cost, ex_cost] at g2
    simp only [ex32] at g2
    exact ⟨h2, by omega, by omega⟩
end

theorem ex_same {r : Plan} (h0 : r 0 = 3) (h1 : r 1 = 2) : sameListF 2 2 (fun j => decide (r j = ex32 j)) = true := sameList_true (fun i hi => by
  match i, hi with
  | 0, _ => exact decide_eq_true h0
  | 1, _ => exact decide_eq_true h1)

set_option maxRecDepth 100000 in
set_option maxHeartbeats 3200000 in
theorem alive_any (w : World) : Calls Try.prog 12 #[] w fun e w' => e = .returned (.bool true) ∧ Below w.heap.size w w' := by
  have R0 := Lib.hid (fun w : World => Row.lit w #[.int .i64 3, .int .i64 2] 2 3 1 (fun j _ => .int .i64 (ex32 j)) (by simp only [maxLen]; omega) rfl)
  have R1 := Lib.hid (fun w : World => Row.lit w #[.int .i64 7, .int .i64 3] 2 3 1 (fun j _ => .int .i64 (ex73 j)) (by simp only [maxLen]; omega) rfl)
  have R2 := Lib.hid (fun w : World => Row.lit w #[.int .i64 6, .int .i64 3] 2 3 1 (fun j _ => .int .i64 (ex63 j)) (by simp only [maxLen]; omega) rfl)
  go_enter Try.func12, Try.ntmps12
  go_wp2_with fail
  refine (two_any _).mono ?_
  rintro e w1 ⟨A, a1, a2, rfl, p1, hb1⟩
  have r1 := (R0.out w).later hb1
  have b1 := below_up (below_a1 w (.cells #[.int .i64 3, .int .i64 2] 3)) hb1
  have HA := Lib.hid p1
  have HR := Lib.hid r1
  clear p1 r1 hb1
  go_wp2_with fail
  refine (Produced_any _ _ 2 _ 2 _ ex32 (exM a1 a2) _ HR.out HA.out).mono ?_
  rintro e w2 ⟨v, rfl, hO, hb2⟩
  rw [exP0]
  rw [exP1] at hO
  obtain ⟨An, cn, rfl, -, -, rN⟩ := hO.form
  have RN := Lib.hid rN
  have b2 := below_up b1 hb2
  clear hO rN b1 hb2 HA HR
  go_wp2_with fail
  refine (two_any _).mono ?_
  rintro e w3 ⟨A3, c1, c2, rfl, p3, hb3⟩
  have bx := below_a1 w2 (.cells #[.int .i64 3, .int .i64 2] 3)
  have HR3 := Lib.hid ((R0.out w2).later hb3)
  have RN3 := Lib.hid ((RN.out.later bx).later hb3)
  have b3 := below_up (below_up b2 bx) hb3
  have HA3 := Lib.hid p3
  clear p3 hb3 bx b2 RN
  go_wp2_with fail
  refine (Cost_any _ _ 2 _ 2 _ ex32 (exM c1 c2) _ HR3.out HA3.out).mono ?_
  rintro e w4 ⟨rfl, hb4⟩
  rw [exP0, exP2]
  have RN4 := Lib.hid (RN3.out.later hb4)
  have b4 := below_up b3 hb4
  clear hb4 b3 RN3 HR3 HA3
  go_wp2_with fail
  refine (two_any _).mono ?_
  rintro e w5 ⟨A5, d1, d2, rfl, p5, hb5⟩
  have bx := below_a1 w4 (.cells #[.int .i64 7, .int .i64 3] 3)
  have HR5 := Lib.hid ((R1.out w4).later hb5)
  have RN5 := Lib.hid ((RN4.out.later bx).later hb5)
  have b5 := below_up (below_up b4 bx) hb5
  have HA5 := Lib.hid p5
  clear p5 hb5 bx b4 RN4
  go_wp2_with fail
  refine (Solve_any _ _ 2 _ 2 _ (exM d1 d2) ex73 0 10 _ HR5.out HA5.out (by omega)).mono ?_
  rintro e w6 ⟨v6, x6, r6, rfl, hS6, hO6, hb6⟩
  obtain ⟨rfl, g60, g61⟩ := exS1 d1 d2 hS6
  rw [if_pos rfl] at hO6
  obtain ⟨A6, c6, rfl, -, -, rL⟩ := hO6.form
  have HL := Lib.hid (ex_same g60 g61)
  have RL6 := Lib.hid rL
  have RN6 := Lib.hid (RN5.out.later hb6)
  have b6 := below_up b5 hb6
  clear hS6 hO6 hb6 rL b5 RN5 HR5 HA5 g60 g61
  go_wp2_with fail
  refine (two_any _).mono ?_
  rintro e w7 ⟨A7, e1, e2, rfl, p7, hb7⟩
  have bx := below_a1 w6 (.cells #[.int .i64 6, .int .i64 3] 3)
  have HR7 := Lib.hid ((R2.out w6).later hb7)
  have RN7 := Lib.hid ((RN6.out.later bx).later hb7)
  have RL7 := Lib.hid ((RL6.out.later bx).later hb7)
  have b7 := below_up (below_up b6 bx) hb7
  have HA7 := Lib.hid p7
  clear p7 hb7 bx b6 RN6 RL6
  go_wp2_with fail
  refine (Solve_any _ _ 2 _ 2 _ (exM e1 e2) ex63 0 10 _ HR7.out HA7.out (by omega)).mono ?_
  rintro e w8 ⟨v8, x8, r8, rfl, hS8, hO8, hb8⟩
  obtain rfl := exS2 e1 e2 hS8
  obtain ⟨A8, c8, rfl, -, -, -⟩ := hO8.form
  have RN8 := Lib.hid (RN7.out.later hb8)
  have RL8 := Lib.hid (RL7.out.later hb8)
  have b8 := below_up b7 hb8
  clear hS8 hO8 hb8 b7 RN7 RL7 HR7 HA7
  go_wp2_with fail
  refine (two_any _).mono ?_
  rintro e w9 ⟨A9, f1, f2, rfl, p9, hb9⟩
  have bx := below_a1 w8 (.cells #[.int .i64 6, .int .i64 3] 3)
  have HR9 := Lib.hid ((R2.out w8).later hb9)
  have RN9 := Lib.hid ((RN8.out.later bx).later hb9)
  have RL9 := Lib.hid ((RL8.out.later bx).later hb9)
  have b9 := below_up (below_up b8 bx) hb9
  have HA9 := Lib.hid p9
  clear p9 hb9 bx b8 RN8 RL8
  go_wp2_with fail
  refine (Solve_any _ _ 2 _ 2 _ (exM f1 f2) ex63 1 10 _ HR9.out HA9.out (by omega)).mono ?_
  rintro e wA ⟨vA, xA, rA, rfl, hSA, hOA, hbA⟩
  obtain ⟨rfl, gA0, gA1⟩ := exS3 f1 f2 hSA
  rw [if_pos rfl] at hOA
  obtain ⟨AA, cA, rfl, -, -, rM⟩ := hOA.form
  have HMm := Lib.hid (ex_same gA0 gA1)
  have RMA := Lib.hid rM
  have RNA := Lib.hid (RN9.out.later hbA)
  have RLA := Lib.hid (RL9.out.later hbA)
  have bA := below_up b9 hbA
  clear hSA hOA hbA rM b9 RN9 RL9 HR9 HA9 gA0 gA1
  go_wp2_with fail
  have bx := below_a1 wA (.cells #[.int .i64 7, .int .i64 3] 3)
  refine (same_any _ _ 2 2 _ _ (fun s => madeF (cntM (exM a1 a2)) ex32 s 2) ex73 _ (by omega) (by omega) (RNA.out.later bx) (R1.out wA)).mono ?_
  rintro e wB ⟨rfl, hbB⟩
  rw [exP3]
  have RLB := Lib.hid ((RLA.out.later bx).later hbB)
  have RMB := Lib.hid ((RMA.out.later bx).later hbB)
  have bB := below_up (below_up bA bx) hbB
  clear bA bx hbB RLA RMA RNA
  go_wp2_with fail
  have bx := below_a1 wB (.cells #[.int .i64 3, .int .i64 2] 3)
  refine (same_any _ _ 2 2 _ _ r6 ex32 _ (by omega) (by omega) (RLB.out.later bx) (R0.out wB)).mono ?_
  rintro e wC ⟨rfl, hbC⟩
  rw [HL.out]
  have RMC := Lib.hid ((RMB.out.later bx).later hbC)
  have bC := below_up (below_up bB bx) hbC
  clear bB bx hbC RLB RMB
  go_wp2_with fail
  have bx := below_a1 wC (.cells #[.int .i64 3, .int .i64 2] 3)
  refine (same_any _ _ 2 2 _ _ rA ex32 _ (by omega) (by omega) (RMC.out.later bx) (R0.out wC)).mono ?_
  rintro e wD ⟨rfl, hbD⟩
  rw [HMm.out]
  have bD := below_up (below_up bC bx) hbD
  clear bC bx hbD RMC
  go_wp2_with fail
  go_ret
  exact ⟨rfl, bD⟩

end Go.Proofs.Ytkdpkaidbmjcaaa
