/- The program's and the reference's notion of a simple polygon agree. Plain Lean. -/
import Derived.Test.YtpjckolfjaffjaaGeo
namespace Go.Proofs.Ytpjckolfjaffjaa

theorem sq_nonneg (a : Int) : 0 ≤ a * a := by
  rcases Int.le_total 0 a with h | h
  · exact Int.mul_nonneg h h
  · exact Int.mul_nonneg_of_nonpos_of_nonpos h h

theorem dir_pos {ux uy vx vy : Int} (hc : ux * vy = uy * vx) (hd : 0 < ux * vx + uy * vy) (h : 0 < ux) : 0 < vx := by
  have h1 : ux * (ux * vx + uy * vy) = (ux * ux + uy * uy) * vx := by grind
  have h2 : 0 < ux * (ux * vx + uy * vy) := Int.mul_pos h hd
  have h3 : 0 ≤ ux * ux + uy * uy := by
    have := sq_nonneg ux
    have := sq_nonneg uy
    omega
  rcases Int.lt_or_le 0 vx with h | h
  · exact h
  · have := Int.mul_nonneg h3 (by omega : 0 ≤ -vx)
    rw [Int.mul_neg] at this
    omega

/-- v lies between 0 and u. -/
def Bet (u v : Int) : Prop := (0 ≤ v ∧ v ≤ u) ∨ (u ≤ v ∧ v ≤ 0)

theorem Bet.neg {u v : Int} (h : Bet (-u) (-v)) : Bet u v := by
  unfold Bet at *
  omega

theorem bet_second {ux uy vx vy : Int} (hc : ux * vy = uy * vx) (h : 0 < ux) (h2 : 0 < vx) (h3 : vx ≤ ux) : Bet uy vy := by
  unfold Bet
  rcases Int.le_total 0 uy with h4 | h4
  · left
    have e1 : ux * vy ≤ ux * uy := by rw [hc, Int.mul_comm ux uy]; exact Int.mul_le_mul_of_nonneg_left h3 h4
    have e2 : ux * 0 ≤ ux * vy := by rw [hc, Int.mul_zero]; exact Int.mul_nonneg h4 (by omega)
    exact ⟨Int.le_of_mul_le_mul_left e2 h, Int.le_of_mul_le_mul_left e1 h⟩
  · right
    have e1 : ux * uy ≤ ux * vy := by
      have := Int.mul_le_mul_of_nonneg_left h3 (by omega : 0 ≤ -uy)
      rw [Int.neg_mul, Int.neg_mul] at this
      rw [hc, Int.mul_comm ux uy]
      omega
    have e2 : ux * vy ≤ ux * 0 := by
      have := Int.mul_nonneg (by omega : 0 ≤ -uy) (by omega : 0 ≤ vx)
      rw [Int.neg_mul] at this
      rw [hc, Int.mul_zero]
      omega
    exact ⟨Int.le_of_mul_le_mul_left e1 h, Int.le_of_mul_le_mul_left e2 h⟩

theorem seg_pos {ux uy vx vy : Int} (hc : ux * vy = uy * vx) (hd : 0 < ux * vx + uy * vy) (h : 0 < ux) :
    (Bet ux vx ∧ Bet uy vy) ∨ (Bet vx ux ∧ Bet vy uy) := by
  have h2 := dir_pos hc hd h
  rcases Int.le_total vx ux with h3 | h3
  · exact .inl ⟨.inl ⟨by omega, h3⟩, bet_second hc h h2 h3⟩
  · exact .inr ⟨.inl ⟨by omega, h3⟩, bet_second (by rw [Int.mul_comm vx uy, Int.mul_comm vy ux]; exact hc.symm) h2 h h3⟩

theorem seg {ux uy vx vy : Int} (hc : ux * vy = uy * vx) (hd : 0 < ux * vx + uy * vy) :
    (Bet ux vx ∧ Bet uy vy) ∨ (Bet vx ux ∧ Bet vy uy) := by
  rcases Int.lt_trichotomy ux 0 with h | h | h
  · have := seg_pos (ux := -ux) (uy := -uy) (vx := -vx) (vy := -vy) (by grind) (by grind) (by omega)
    rcases this with ⟨h1, h2⟩ | ⟨h1, h2⟩
    · exact .inl ⟨h1.neg, h2.neg⟩
    · exact .inr ⟨h1.neg, h2.neg⟩
  · subst h
    rw [Int.zero_mul] at hc hd
    have hy : uy ≠ 0 := by rintro rfl; rw [Int.zero_mul] at hd; omega
    have hx : vx = 0 := by
      rcases Int.mul_eq_zero.1 hc.symm with h | h
      · exact absurd h hy
      · exact h
    subst hx
    have h0 : Bet 0 0 := .inl ⟨by omega, by omega⟩
    rcases Int.lt_trichotomy uy 0 with h | h | h
    · have hv : vy < 0 := by
        rcases Int.lt_or_le vy 0 with h' | h'
        · exact h'
        · have := Int.mul_nonneg (by omega : 0 ≤ -uy) h'
          rw [Int.neg_mul] at this
          omega
      rcases Int.le_total vy uy with h3 | h3
      · exact .inr ⟨h0, .inr ⟨h3, by omega⟩⟩
      · exact .inl ⟨h0, .inr ⟨h3, by omega⟩⟩
    · exact absurd h hy
    · have hv : 0 < vy := by
        rcases Int.lt_or_le 0 vy with h' | h'
        · exact h'
        · have := Int.mul_nonneg (by omega : 0 ≤ uy) (by omega : 0 ≤ -vy)
          rw [Int.mul_neg] at this
          omega
      rcases Int.le_total vy uy with h3 | h3
      · exact .inl ⟨h0, .inl ⟨by omega, h3⟩⟩
      · exact .inr ⟨h0, .inl ⟨by omega, h3⟩⟩
  · exact seg_pos hc hd h

theorem bet_mul {u v : Int} (h : Bet u v) : 0 ≤ u * v ∧ (v ≠ 0 → 0 < u * v) := by
  rcases h with ⟨h1, h2⟩ | ⟨h1, h2⟩
  · exact ⟨Int.mul_nonneg (by omega) h1, fun h => Int.mul_pos (by omega) (by omega)⟩
  · exact ⟨Int.mul_nonneg_of_nonpos_of_nonpos (by omega) h2, fun h => Int.mul_pos_of_neg_of_neg (by omega) (by omega)⟩

theorem on_iff {a b p : Spot} : onF a b p = true ↔ crossF a b p = 0 ∧ Bet (a.x - b.x) (p.x - b.x) ∧ Bet (a.y - b.y) (p.y - b.y) := by
  unfold onF Bet
  rw [decide_eq_true_eq]
  omega

theorem cross_turn (a b c : Spot) : crossF b c a = crossF a b c := by
  unfold crossF
  grind

theorem cross_uv (a b c : Spot) : (a.x - b.x) * (c.y - b.y) - (a.y - b.y) * (c.x - b.x) = - crossF a b c := by
  unfold crossF
  grind

theorem same_iff {s t : Spot} : sameF s t = true ↔ s.x = t.x ∧ s.y = t.y := by
  unfold sameF; rw [decide_eq_true_eq]

theorem same_symm (s t : Spot) : sameF s t = sameF t s := by
  rw [Bool.eq_iff_iff, same_iff, same_iff]
  omega

theorem same_eq {s t : Spot} (h : sameF s t = true) : s = t := by
  obtain ⟨sx, sy⟩ := s
  obtain ⟨tx, ty⟩ := t
  have := same_iff.1 h
  simp only at this
  obtain ⟨h1, h2⟩ := this
  subst h1; subst h2; rfl

theorem on_self (a b : Spot) : onF a b a = true := by
  rw [on_iff]
  refine ⟨by unfold crossF; grind, ?_, ?_⟩ <;> unfold Bet <;> omega

/-- c on the segment ab, and not b: folded. -/
theorem folded_of_on {a b c : Spot} (h : onF a b c = true) (hn : sameF b c = false) : foldedF a b c = true := by
  obtain ⟨h0, h1, h2⟩ := on_iff.1 h
  unfold foldedF
  rw [decide_eq_true_eq]
  refine ⟨h0, ?_⟩
  obtain ⟨m1, m2⟩ := bet_mul h1
  obtain ⟨k1, k2⟩ := bet_mul h2
  unfold dotF
  by_cases hx : c.x - b.x = 0
  · have hy : c.y - b.y ≠ 0 := by
      intro hy
      have : sameF b c = true := same_iff.2 ⟨by omega, by omega⟩
      rw [this] at hn
      cases hn
    have := k2 hy
    omega
  · have := m2 hx
    omega

theorem dot_symm (a b c : Spot) : dotF c b a = dotF a b c := by unfold dotF; grind

theorem cross_flip (a b c : Spot) : crossF c b a = - crossF a b c := by unfold crossF; grind

theorem folded_symm (a b c : Spot) : foldedF c b a = foldedF a b c := by
  unfold foldedF
  rw [dot_symm, cross_flip, Bool.eq_iff_iff, decide_eq_true_eq, decide_eq_true_eq]
  omega

theorem on_symm (a b p : Spot) : onF a b p = onF b a p := by
  have e : crossF b a p = - crossF a b p := by unfold crossF; grind
  unfold onF
  rw [e, Bool.eq_iff_iff, decide_eq_true_eq, decide_eq_true_eq]
  omega

theorem on_of_folded {a b c : Spot} (h : foldedF a b c = true) : onF a b c = true ∨ onF b c a = true := by
  unfold foldedF at h
  rw [decide_eq_true_eq] at h
  obtain ⟨h0, hd⟩ := h
  have hu := cross_uv a b c
  unfold dotF at hd
  rcases seg (ux := a.x - b.x) (uy := a.y - b.y) (vx := c.x - b.x) (vy := c.y - b.y) (by omega) hd with ⟨h1, h2⟩ | ⟨h1, h2⟩
  · exact .inl (on_iff.2 ⟨h0, h1, h2⟩)
  · right
    rw [on_symm]
    refine on_iff.2 ⟨?_, h1, h2⟩
    have := cross_flip a b c
    omega

theorem meet_of_same {a b c d : Spot} (h : sameF a c = true) : meetF a b c d = true := by
  have := same_eq h
  subst this
  unfold meetF
  rw [on_self]
  simp

theorem simple_iff {n : Nat} {p : Nat → Spot} (h3 : 3 ≤ n) : SimpleP n p ↔ SimpleR n p := by
  have next : ∀ i, i < n → ((i + 1 < n ∧ (i + 1) % n = i + 1) ∨ (i + 1 = n ∧ (i + 1) % n = 0)) := by
    intro i hi
    rcases Nat.lt_or_ge (i + 1) n with h | h
    · exact .inl ⟨h, Nat.mod_eq_of_lt h⟩
    · have : i + 1 = n := by omega
      exact .inr ⟨this, by rw [this]; exact Nat.mod_self n⟩
  have next2 : ∀ i, i < n → (i + 2) % n = ((i + 1) % n + 1) % n := by
    intro i hi
    rw [Nat.mod_add_mod]
  constructor
  · rintro ⟨hdist, hrest⟩ i hi
    have hd : ∀ j k, j < n → k < n → j ≠ k → sameF (p j) (p k) = false := by
      intro j k hj hk hjk
      rcases Nat.lt_or_ge k j with h | h
      · exact hdist j hj k h
      · rw [same_symm]; exact hdist k hk j (by omega)
    have hm1 : (i + 1) % n < n := Nat.mod_lt _ (by omega)
    have hm2 : (i + 2) % n < n := Nat.mod_lt _ (by omega)
    have hne1 : i ≠ (i + 1) % n := by rcases next i hi with ⟨_, h⟩ | ⟨_, h⟩ <;> omega
    have hne2 : (i + 1) % n ≠ (i + 2) % n := by
      rw [next2 i hi]
      rcases next _ hm1 with ⟨_, h⟩ | ⟨_, h⟩ <;> omega
    have hne3 : i ≠ (i + 2) % n := by
      rw [next2 i hi]
      rcases next i hi with ⟨_, h⟩ | ⟨_, h⟩ <;> rcases next _ hm1 with ⟨_, h'⟩ | ⟨_, h'⟩ <;> omega
    obtain ⟨hf, hmeet⟩ := hrest i hi
    refine ⟨hd _ _ hi hm1 hne1, ?_, ?_, hmeet⟩
    · cases h : onF (p i) (p ((i + 1) % n)) (p ((i + 2) % n))
      · rfl
      · rw [folded_of_on h (hd _ _ hm1 hm2 hne2)] at hf
        cases hf
    · cases h : onF (p ((i + 1) % n)) (p ((i + 2) % n)) (p i)
      · rfl
      · rw [on_symm] at h
        rw [← folded_symm, folded_of_on h (hd _ _ hm1 hi (Ne.symm hne1))] at hf
        cases hf
  · intro hR
    refine ⟨?_, ?_⟩
    · intro i hi j hj
      cases h : sameF (p i) (p j)
      · rfl
      · exfalso
        have hjn : j < n := by omega
        by_cases h1 : i = j + 1
        · have := (hR j hjn).1
          rw [Nat.mod_eq_of_lt (by omega : j + 1 < n), ← h1, same_symm, h] at this
          cases this
        · by_cases h2 : (i + 1) % n = j
          · have := (hR i hi).1
            rw [h2, h] at this
            cases this
          · have := (hR j hjn).2.2.2 i hi (by omega) h2
            rw [meet_of_same (by rw [same_symm]; exact h)] at this
            cases this
    · intro i hi
      obtain ⟨h1, h2, h4, h5⟩ := hR i hi
      refine ⟨?_, h5⟩
      cases h : foldedF (p i) (p ((i + 1) % n)) (p ((i + 2) % n))
      · rfl
      · rcases on_of_folded h with h' | h'
        · rw [h'] at h2; cases h2
        · rw [h'] at h4; cases h4

theorem simple_eq {n : Nat} (p : Nat → Spot) (h3 : 3 ≤ n) : simpleF n p = rsimpleF n p := by
  unfold simpleF rsimpleF
  rw [Bool.eq_iff_iff, decide_eq_true_eq, decide_eq_true_eq]
  exact simple_iff h3

/-- The error of a polygon of n vertices. -/
def checkF (n : Nat) (p : Nat → Spot) : Int :=
  if 40 < n then 5 else if n < 3 then 11 else if decide (∃ i, i < n ∧ outsideF (p i) = true) then 3 else if simpleF n p then 0 else 11

end Go.Proofs.Ytpjckolfjaffjaa
