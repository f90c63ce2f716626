/- What span computes, and that it is right. No program in sight. -/
import Derived.Test.YtkdpkaidbmjcaaaLayOpt
namespace Go.Proofs.Ytkdpkaidbmjcaaa
set_option linter.unusedSimpArgs false
set_option linter.unusedVariables false

/-- (a + c - 1) / c, as Go divides. -/
def upDiv (a c : Int) : Int := Int.tdiv (a + c - 1) c

theorem upDiv_le {a c v : Int} (hc : 1 ≤ c) (hv : 0 ≤ v) : upDiv a c ≤ v ↔ a ≤ v * c := by
  unfold upDiv
  rcases Int.lt_or_le (a + c - 1) 0 with hneg | hpos
  · have h1 : Int.tdiv (a + c - 1) c ≤ 0 := by
      have e : a + c - 1 = -(-(a + c - 1)) := by omega
      rw [e, Int.neg_tdiv]
      have := Int.tdiv_nonneg (a := -(a + c - 1)) (b := c) (by omega) (by omega)
      omega
    have h2 : 0 ≤ v * c := Int.mul_nonneg hv (by omega)
    exact ⟨fun _ => by omega, fun _ => by omega⟩
  · rw [Int.tdiv_eq_ediv_of_nonneg hpos]
    constructor
    · intro h
      have h1 := Int.lt_mul_ediv_self_add (x := a + c - 1) (k := c) (by omega)
      have h2 : c * ((a + c - 1) / c) ≤ c * v := Int.mul_le_mul_of_nonneg_left h (by omega)
      rw [Int.mul_comm v c]
      omega
    · intro h
      exact ceil_le hc (by rw [Int.mul_comm c v]; exact h)

theorem le_downDiv {a c v : Int} (hc : 1 ≤ c) (ha : 0 ≤ a) : v ≤ Int.tdiv a c ↔ v * c ≤ a := by
  rw [Int.tdiv_eq_ediv_of_nonneg ha]
  exact Int.le_ediv_iff_mul_le (by omega)

section
variable (ord md rs cnt : Nat → Int) (over most : Int)

/-- The least and the greatest number of plies, as far as the first k sizes go; none if there is none. -/
def spanF : Nat → Option (Int × Int)
  | 0 => some (0, most)
  | k + 1 => match spanF k with
    | none => none
    | some (lo, hi) => if cnt k = 0 then (if 0 < ord k - md k - rs k then none else some (lo, hi))
      else some (max lo (upDiv (ord k - md k - rs k) (cnt k)), min hi (Int.tdiv (ord k + over - md k) (cnt k)))

/-- v plies fit, as far as size s goes. -/
def FitsAt (v : Int) (s : Nat) : Prop := ord s ≤ md s + v * cnt s + rs s ∧ md s + v * cnt s ≤ ord s + over

theorem span_spec (v : Int) (hv : 0 ≤ v) (hm : v ≤ most) (n : Nat) (hc : ∀ s, s < n → 0 ≤ cnt s) (hmd : ∀ s, s < n → md s ≤ ord s + over) :
    (∀ s, s < n → FitsAt ord md rs cnt over v s) ↔ ∃ lo hi, spanF ord md rs cnt over most n = some (lo, hi) ∧ lo ≤ v ∧ v ≤ hi := by
  induction n with
  | zero => exact ⟨fun _ => ⟨0, most, rfl, hv, hm⟩, fun _ s hs => absurd hs (by omega)⟩
  | succ n ih =>
    have e : spanF ord md rs cnt over most (n + 1) = match spanF ord md rs cnt over most n with
      | none => none
      | some (lo, hi) => if cnt n = 0 then (if 0 < ord n - md n - rs n then none else some (lo, hi))
        else some (max lo (upDiv (ord n - md n - rs n) (cnt n)), min hi (Int.tdiv (ord n + over - md n) (cnt n))) := rfl
    rw [e]
    have hsplit : (∀ s, s < n + 1 → FitsAt ord md rs cnt over v s) ↔ (∀ s, s < n → FitsAt ord md rs cnt over v s) ∧ FitsAt ord md rs cnt over v n :=
      ⟨fun h => ⟨fun s hs => h s (by omega), h n (by omega)⟩, fun h s hs => by
        rcases Nat.lt_succ_iff_lt_or_eq.1 hs with h' | rfl
        · exact h.1 s h'
        · exact h.2⟩
    rw [hsplit, ih (fun s hs => hc s (by omega)) (fun s hs => hmd s (by omega))]
    have hmn := hmd n (by omega)
    have hcn := hc n (by omega)
    cases hs : spanF ord md rs cnt over most n with
    | none =>
      constructor
      · rintro ⟨⟨_, _, h', _⟩, _⟩
        cases h'
      · rintro ⟨_, _, h', _⟩
        cases h'
    | some x =>
      obtain ⟨lo, hi⟩ := x
      simp only []
      by_cases hz : cnt n = 0
      · rw [if_pos hz]
        unfold FitsAt
        rw [hz, Int.mul_zero]
        by_cases hd : 0 < ord n - md n - rs n
        · rw [if_pos hd]
          constructor
          · intro h
            have := h.2.1
            omega
          · rintro ⟨_, _, h', _⟩
            cases h'
        · rw [if_neg hd]
          exact ⟨fun h => h.1, fun h => ⟨h, by omega, by omega⟩⟩
      · rw [if_neg hz]
        have h1 := upDiv_le (a := ord n - md n - rs n) (c := cnt n) (v := v) (by omega) hv
        have h2 := le_downDiv (a := ord n + over - md n) (c := cnt n) (v := v) (by omega) (by omega)
        unfold FitsAt
        constructor
        · rintro ⟨⟨lo', hi', he, hlo, hhi⟩, f1, f2⟩
          injection he with he
          injection he with he1 he2
          subst he1; subst he2
          exact ⟨_, _, rfl, by have := h1.2 (by omega); omega, by have := h2.2 (by omega); omega⟩
        · rintro ⟨lo', hi', he, hlo, hhi⟩
          injection he with he
          injection he with he1 he2
          subst he1; subst he2
          have g1 := h1.1 (by omega)
          have g2 := h2.1 (by omega)
          exact ⟨⟨lo, hi, rfl, by omega, by omega⟩, by omega, by omega⟩
end

theorem span_lo_nonneg (ord md rs cnt : Nat → Int) (over most : Int) : ∀ n lo hi, spanF ord md rs cnt over most n = some (lo, hi) → 0 ≤ lo ∧ hi ≤ most := by
  intro n
  induction n with
  | zero => intro lo hi h; injection h with h; injection h with h1 h2; omega
  | succ n ih =>
    intro lo hi h
    unfold spanF at h
    cases hs : spanF ord md rs cnt over most n with
    | none => rw [hs] at h; cases h
    | some x =>
      obtain ⟨lo', hi'⟩ := x
      have hx := ih lo' hi' hs
      rw [hs] at h
      simp only [] at h
      split at h
      · split at h
        · cases h
        · injection h with h; injection h with h1 h2; omega
      · injection h with h; injection h with h1 h2; omega

end Go.Proofs.Ytkdpkaidbmjcaaa
