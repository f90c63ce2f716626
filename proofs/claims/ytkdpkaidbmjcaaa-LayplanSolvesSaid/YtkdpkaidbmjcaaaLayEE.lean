/- The reference's Solve; LayplanSolves. -/
import Derived.Test.YtkdpkaidbmjcaaaLayDD
namespace Go.Proofs.Ytkdpkaidbmjcaaa
open Go.RowKit
set_option linter.unusedSimpArgs false
set_option linter.unusedVariables false

/-- What the reference's Solve returns. -/
def RSolvePost (n : Nat) (ord : Nat → Int) (m : Nat) (mx : Nat → MixM) (over most : Int) (w : World) (e : Ending) (w' : World) : Prop :=
  ∃ A' c' x r, e = .returned (.tuple #[.slice A' (if x = 0 then m else 0) c', .int .i64 x]) ∧ SolveOut n ord m mx over most x r ∧ Ints w' A' (if x = 0 then m else 0) r ∧ Below w.heap.size w w'

section
variable {n m : Nat} {ord : Nat → Int} {mx : Nat → MixM} {over most x x' : Int} {r r' : Plan} {w w' : World}
theorem ask_ne18 : askErr n ord m mx over most ≠ 18 := by
  unfold askErr
  split
  · rcases mixErr_val m mx with h | h | h <;> rw [h] <;> decide
  · split
    · decide
    · split
      · decide
      · split <;> decide

theorem rsolve_bad (h : SolveOut n ord m mx over most x r) (h0 : x ≠ 0) (hb : Below w.heap.size w w') : RSolvePost n ord m mx over most w (.returned (.tuple #[.slice none 0 0, .int .i64 x])) w' :=
  ⟨none, 0, x, r, by rw [if_neg h0], h, by rw [if_neg h0]; exact row_none _ _ _ _, hb⟩

/-- The answer is one. -/
theorem solve_one (h : SolveOut n ord m mx over most x r) (h' : SolveOut n ord m mx over most x' r') : x = x' ∧ sameListF (if x = 0 then m else 0) (if x = 0 then m else 0) (fun i => decide (r i = r' i)) = true := by
  have key : x = x' ∧ (x = 0 → EqTo m r r') := by
    rcases h with ⟨a1, a2, a3⟩ | ⟨a1, a2, a3⟩ | ⟨a1, a2, a3⟩ <;> rcases h' with ⟨b1, b2, b3⟩ | ⟨b1, b2, b3⟩ | ⟨b1, b2, b3⟩
    · exact ⟨a1.trans b1.symm, fun h => absurd h a2⟩
    · exact absurd (a1.trans b1) a2
    · exact absurd (a1.trans b1) a2
    · exact absurd (b1.trans a1) b2
    · exact ⟨a2.trans b2.symm, fun h => by rw [a2] at h; exact absurd h (by decide)⟩
    · exact absurd trivial (a3 r' b3.1)
    · exact absurd (b1.trans a1) b2
    · exact absurd trivial (b3 r a3.1)
    · exact ⟨a2.trans b2.symm, fun _ => a3.unique b3⟩
  refine ⟨key.1, sameList_true fun i hi => decide_eq_true ?_⟩
  by_cases hx : x = 0
  · rw [if_pos hx] at hi
    exact (key.2 hx i hi).symm
  · rw [if_neg hx] at hi
    omega
end

set_option maxHeartbeats 3200000 in
theorem rSolve_any (A Ao : Option Addr) (n co m cM : Nat) (mx : Nat → MixM) (ord : Nat → Int) (over most : Int) (w : World) (hi : Ints w Ao n ord) (hq : Mixes w w.heap.size A m mx) (hn30 : n ≤ 1000) :
    Calls Try.prog 20 #[.slice Ao n co, .slice A m cM, .int .i64 over, .int .i64 most] w (RSolvePost n ord m mx over most w) := by
  have HQ := Lib.hid hq
  have HI := Lib.hid hi
  clear hq hi
  go_enter Try.func20, Try.ntmps20
  go_wp2_with fail
  refine (asked_any A Ao n co m cM mx ord over most w HI.out HQ.out hn30).mono ?_
  rintro e w1 ⟨rfl, b1⟩
  by_cases he : askErr n ord m mx over most = 0
  rotate_left
  · have HE := Lib.hid (show SolveOut n ord m mx over most (askErr n ord m mx over most) (fun _ => 0) from .inl ⟨rfl, he, ask_ne18⟩)
    have HE0 := Lib.hid he
    have hne : (askErr n ord m mx over most != 0) = true := bne_iff_ne.2 he
    clear he
    generalize askErr n ord m mx over most = x at *
    go_wp2_with fail
    go_ret2
    exact rsolve_bad HE.out HE0.out b1
  obtain ⟨q1, q2, q3, q4⟩ := ask_zero he
  have HE := Lib.hid he
  have HG := Lib.hid (good_of q1)
  have HS := Lib.hid q2
  have HO := Lib.hid (show ∀ i, i < n → 0 ≤ ord i ∧ ord i ≤ 1000 from fun i hi => by
    have : ¬ (ord i < 0 ∨ 1000 < ord i) := fun h => q3 ⟨i, hi, h⟩
    omega)
  have HL := Lib.hid (show (0 ≤ over ∧ over ≤ 1000) ∧ 0 ≤ most ∧ most ≤ 40 by unfold LimBad at q4; omega)
  rw [he]
  clear he q1 q2 q3 q4
  go_wp2_with fail
  refine (best_any A Ao n co m cM mx ord over most HG.out HS.out HO.out HL.out.1 HL.out.2 m 0 (by omega) none 0 (fun _ => 0) w1 (fun i hi => absurd hi (by omega)) (HI.out.later b1) (HQ.out.later b1) (row_none _ _ _ _)).mono ?_
  rintro e w2 ⟨A7, c7, ok, r7, rfl, h7, i7, hb2⟩
  have H7 := Lib.hid (show BestP n ord m mx over most (optB ok r7) from h7.congr fun q _ => ⟨fun _ => trivial, fun _ => fun j hj => absurd hj (by omega)⟩)
  have R7 := Lib.hid i7
  have b2 := below_up b1 hb2
  clear h7 i7 hb2 b1
  cases ok
  · go_wp2_with fail
    go_ret2
    exact rsolve_bad (r := r7) (.inr (.inl ⟨HE.out, rfl, H7.out⟩)) (by decide) b2
  · have e1 : lenB m true = m := rfl
    rw [e1] at R7 ⊢
    clear e1
    go_wp2_with fail
    go_ret2
    exact ⟨A7, c7, 0, r7, rfl, .inr (.inr ⟨HE.out, rfl, H7.out⟩), by rw [if_pos rfl]; exact R7.out, b2⟩

set_option maxRecDepth 100000 in
set_option maxHeartbeats 6400000 in
theorem solves_any (Ao A : Option Addr) (n co m c : Nat) (ord : Nat → Int) (over most : Int) (mx : Nat → MixM) (w : World) (hp : Ints w Ao n ord) (hq : Mixes w w.heap.size A m mx) :
    Calls Try.prog 6 #[.agg #[.slice Ao n co, .int .i64 over, .int .i64 most], .slice A m c] w fun e w' => e = .returned (.bool true) ∧ Below w.heap.size w w' := by
  have HQ := Lib.hid hq
  have HP := Lib.hid hp
  clear hq hp
  go_enter Try.func6, Try.ntmps6
  go_upto_region 1 with (fail)
  have k0 := Blk.new w 36 #[.slice Ao n co, .int .i64 over, .int .i64 most]
  have b0 := below_a1 w (.cells #[.slice Ao n co, .int .i64 over, .int .i64 most] 36)
  obtain ⟨g, hg⟩ : ∃ g, g = w.heap.size := ⟨_, rfl⟩
  rw [← hg] at k0
  rw [← hg]
  generalize hW : World.alloc _ _ = W at k0 b0 ⊢
  clear hW hg
  go_wp2_with fail
  refine (light_any A m c mx W (HQ.out.later b0)).mono ?_
  rintro e w1 ⟨⟨b, rfl, hb20⟩, hb1⟩
  have k1 := k0.later hb1
  have b1 := below_up b0 hb1
  have c0 := k1.cell 0
  have c1 := k1.cell 1
  have c2 := k1.cell 2
  simp at c0 c1 c2
  clear k0 b0 hb1
  cases b
  · clear hb20
    go_wp2_with fail
    refine (alive_any w1).mono ?_
    rintro e w2 ⟨rfl, hb2⟩
    have b2 := below_up b1 hb2
    go_wp2_with fail
    go_ret
    exact ⟨rfl, b2⟩
  have hm20 := hb20 rfl
  clear hb20
  by_cases hn : (30 : Int) < n
  · go_wp2_with fail
    refine (alive_any w1).mono ?_
    rintro e w2 ⟨rfl, hb2⟩
    have b2 := below_up b1 hb2
    go_wp2_with fail
    go_ret
    exact ⟨rfl, b2⟩
  go_wp2_with fail
  refine (few_any A m c most w1 hm20).mono ?_
  rintro e w2 ⟨⟨b, rfl⟩, hb2⟩
  have k2 := k1.later hb2
  have b2 := below_up b1 hb2
  clear c0 c1 c2 k1 b1 hb2
  have c0 := k2.cell 0
  have c1 := k2.cell 1
  have c2 := k2.cell 2
  simp at c0 c1 c2
  cases b
  · go_wp2_with fail
    refine (alive_any w2).mono ?_
    rintro e w3 ⟨rfl, hb3⟩
    have b3 := below_up b2 hb3
    go_wp2_with fail
    go_ret
    exact ⟨rfl, b3⟩
  go_wp2_with fail
  refine (Solve_any A Ao n co m c mx ord over most w2 (HP.out.later b2) (HQ.out.later b2) (by omega)).mono ?_
  rintro e w3 ⟨v3, x3, r3, rfl, hS3, hO3, hb3⟩
  obtain ⟨A3, c3, rfl, -, -, r3'⟩ := hO3.form
  have R3 := Lib.hid r3'
  have HS3 := Lib.hid hS3
  have k3 := k2.later hb3
  have b3 := below_up b2 hb3
  clear c0 c1 c2 hS3 hO3 r3' hb3 k2 b2
  have c0 := k3.cell 0
  have c1 := k3.cell 1
  have c2 := k3.cell 2
  simp at c0 c1 c2
  obtain ⟨N3, hN3⟩ : ∃ N, N = (if x3 = 0 then m else 0) := ⟨_, rfl⟩
  have hN20 : N3 ≤ 20 := by rw [hN3]; split <;> omega
  rw [← hN3] at R3 ⊢
  have HN3 := Lib.hid hN3
  clear hN3
  go_wp2_with fail
  refine (rSolve_any A Ao n co m c mx ord over most w3 (HP.out.later b3) (HQ.out.later b3) (by omega)).mono ?_
  rintro e w4 ⟨A4, c4, x4, r4, rfl, hS4, i4, hb4⟩
  obtain ⟨rfl, hsame⟩ := solve_one HS3.out hS4
  rw [← HN3.out] at hsame i4 ⊢
  have HSM := Lib.hid hsame
  have R4 := Lib.hid i4
  have R34 := Lib.hid (R3.out.later hb4)
  have b4 := below_up b3 hb4
  clear c0 c1 c2 hsame i4 hS4 hb4 k3 b3 R3
  go_wp2_with fail
  refine (same_any A3 A4 N3 N3 c3 c4 r3 r4 w4 (by omega) (by omega) R34.out R4.out).mono ?_
  rintro e w5 ⟨rfl, hb5⟩
  rw [HSM.out]
  have b5 := below_up b4 hb5
  clear b4 hb5 R34 R4
  have hxx : (x3 == x3) = true := by simp
  go_wp2_with fail
  refine (alive_any w5).mono ?_
  rintro e w6 ⟨rfl, hb6⟩
  have b6 := below_up b5 hb6
  go_wp2_with fail
  go_ret
  exact ⟨rfl, b6⟩

end Go.Proofs.Ytkdpkaidbmjcaaa
