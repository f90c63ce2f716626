/- SpliceOrder: plain laws: the width of a valid polygon, rectangles, turned lists. -/
import Derived.Test.YtcalchlfipbpkaaSplH
namespace Go.Proofs.Ytcalchlfipbpkaa
open Go.RowKit
set_option linter.unusedSimpArgs false
set_option linter.unusedVariables false

theorem minTo_le {f : Nat → Int} {n i : Nat} (h : i < n) : minTo f n ≤ f i ∧ f i ≤ maxTo f n := by
  induction n with
  | zero => omega
  | succ n ih =>
    unfold minTo maxTo
    rcases Nat.lt_succ_iff_lt_or_eq.1 h with h1 | rfl
    · have := ih h1; omega
    · omega

theorem check_simple {n : Nat} {p : Nat → Spot} (h : checkF n p = 0) : SimpleP n p := by
  obtain ⟨h3, h40, hok⟩ := check_n h
  have e := check_in (p := p) (by omega) (by omega) (fun i hi => outside_ok.2 (hok i hi))
  rw [h] at e
  cases hs : simpleF n p with
  | true => exact of_decide_eq_true hs
  | false => rw [hs] at e; exact absurd e (by decide)

theorem max_exists (y : Nat → Int) {n : Nat} (h : 0 < n) : ∃ M, M < n ∧ ∀ i, i < n → y i ≤ y M := by
  induction n with
  | zero => omega
  | succ n ih =>
    rcases Nat.eq_zero_or_pos n with h0 | h0
    · subst h0
      exact ⟨0, by omega, fun i hi => by rw [show i = 0 by omega]; exact Int.le_refl _⟩
    · obtain ⟨M, hM, hb⟩ := ih h0
      by_cases hc : y M ≤ y n
      · refine ⟨n, by omega, fun i hi => ?_⟩
        rcases Nat.lt_succ_iff_lt_or_eq.1 hi with h1 | rfl
        · have := hb i h1; omega
        · exact Int.le_refl _
      · refine ⟨M, by omega, fun i hi => ?_⟩
        rcases Nat.lt_succ_iff_lt_or_eq.1 hi with h1 | rfl
        · exact hb i h1
        · omega

theorem width_pos {n : Nat} {p : Nat → Spot} (h : checkF n p = 0) : minTo (spotX p) n < maxTo (spotX p) n := by
  apply Classical.byContradiction
  intro hno
  obtain ⟨h3, _, _⟩ := check_n h
  obtain ⟨hdist, hfold⟩ := check_simple h
  have hx : ∀ i, i < n → (p i).x = minTo (spotX p) n := fun i hi => by
    have := minTo_le (f := spotX p) hi
    unfold spotX at this hno ⊢
    omega
  obtain ⟨M, hM, hmax⟩ := max_exists (fun i => (p i).y) (n := n) (by omega)
  obtain ⟨i, hi, hi1, hi2, hiM, hk, hkM⟩ : ∃ i, i < n ∧ (i + 1) % n = M ∧ (i + 2) % n = (M + 1) % n ∧ i ≠ M ∧ (M + 1) % n < n ∧ (M + 1) % n ≠ M := by
    have hk : (M + 1) % n < n := Nat.mod_lt _ (by omega)
    rcases Nat.eq_zero_or_pos M with h0 | h0
    · subst h0
      have e1 : (0 + 1) % n = 1 := Nat.mod_eq_of_lt (by omega)
      refine ⟨n - 1, by omega, ?_, ?_, by omega, hk, by omega⟩
      · rw [show n - 1 + 1 = n by omega, Nat.mod_self]
      · rw [show n - 1 + 2 = 1 + n by omega, Nat.add_mod_right]
    · refine ⟨M - 1, by omega, ?_, ?_, by omega, hk, ?_⟩
      · rw [show M - 1 + 1 = M by omega, Nat.mod_eq_of_lt hM]
      · rw [show M - 1 + 2 = M + 1 by omega]
      · rcases Nat.lt_or_ge (M + 1) n with h1 | h1
        · rw [Nat.mod_eq_of_lt h1]; omega
        · rw [show M + 1 = n by omega, Nat.mod_self]; omega
  have hf := (hfold i hi).1
  rw [hi1, hi2] at hf
  have dist : ∀ a b, a < n → b < n → a ≠ b → (p a).y ≠ (p b).y := by
    intro a b ha hb hab he
    have hxx : (p a).x = (p b).x := (hx a ha).trans (hx b hb).symm
    rcases Nat.lt_or_gt_of_ne hab with h1 | h1
    · have := hdist b hb a h1
      rw [same_symm, same_iff.2 ⟨hxx, he⟩] at this
      cases this
    · have := hdist a ha b h1
      rw [same_iff.2 ⟨hxx, he⟩] at this
      cases this
  have d1 := dist i M hi hM hiM
  have d2 := dist ((M + 1) % n) M hk hM hkM
  have m1 := hmax i hi
  have m2 := hmax _ hk
  have x1 := hx i hi
  have x2 := hx M hM
  have x3 := hx _ hk
  unfold foldedF at hf
  rw [decide_eq_false_iff_not] at hf
  apply hf
  unfold crossF dotF
  rw [x1, x2, x3]
  have hpos : 0 < ((p i).y - (p M).y) * ((p ((M + 1) % n)).y - (p M).y) := Int.mul_pos_of_neg_of_neg (by omega) (by omega)
  simp only [Int.sub_self, Int.zero_mul, Int.mul_zero]
  exact ⟨trivial, by omega⟩

theorem sgn_sq (x : Int) : 0 ≤ sgnF x * sgnF x := by rcases sgn_cases x with h | h | h <;> rw [h] <;> decide

theorem rect_check {lo hi : Int} (h : lo < hi) (h1 : -1048576 ≤ lo) (h2 : hi ≤ 1048576) : checkF 4 (rect lo hi) = 0 := by
  have hout : ∀ i, i < 4 → outsideF (rect lo hi i) = false := by
    intro i hi'
    match i, hi' with
    | 0, _ => exact decide_eq_false (by simp [rect]; omega)
    | 1, _ => exact decide_eq_false (by simp [rect]; omega)
    | 2, _ => exact decide_eq_false (by simp [rect]; omega)
    | 3, _ => exact decide_eq_false (by simp [rect]; omega)
  have hs : SimpleP 4 (rect lo hi) := by
    refine ⟨fun i hi' j hj => ?_, fun i hi' => ⟨?_, fun k hk hik hne => ?_⟩⟩
    · match i, hi', j, hj with
      | 1, _, 0, _ => exact decide_eq_false (by simp [rect]; omega)
      | 2, _, 0, _ => exact decide_eq_false (by simp [rect])
      | 2, _, 1, _ => exact decide_eq_false (by simp [rect])
      | 3, _, 0, _ => exact decide_eq_false (by simp [rect])
      | 3, _, 1, _ => exact decide_eq_false (by simp [rect])
      | 3, _, 2, _ => exact decide_eq_false (by simp [rect]; omega)
    · match i, hi' with
      | 0, _ => exact decide_eq_false (by simp [rect, crossF, dotF])
      | 1, _ => exact decide_eq_false (by simp [rect, crossF, dotF])
      | 2, _ => exact decide_eq_false (by simp [rect, crossF, dotF])
      | 3, _ => exact decide_eq_false (by simp [rect, crossF, dotF])
    · have hc : (i = 0 ∧ k = 2) ∨ (i = 0 ∧ k = 3) ∨ (i = 1 ∧ k = 3) := by omega
      rcases hc with ⟨rfl, rfl⟩ | ⟨rfl, rfl⟩ | ⟨rfl, rfl⟩
      · simp [meetF, onF, partedF, crossF, rect]
        exact fun _ => sgn_sq _
      · exact absurd rfl hne
      · simp [meetF, onF, partedF, crossF, rect]
        exact ⟨⟨by omega, by omega⟩, fun _ => sgn_sq _⟩
  rw [check_in (by omega) (by omega) hout]
  unfold simpleF
  rw [decide_eq_true hs]
  rfl

theorem rect_zone {lo hi : Int} (A : Option Addr) (h : lo ≤ hi) : zoneOf ⟨A, 4, 4, rect lo hi⟩ = ⟨lo, lo + (hi - lo)⟩ := by
  have e1 : minTo (spotX (rect lo hi)) 4 = lo := by simp [minTo, spotX, rect]; omega
  have e2 : maxTo (spotX (rect lo hi)) 4 = hi := by simp [maxTo, spotX, rect]; omega
  unfold zoneOf
  simp only [e1, e2]

theorem firstErr_13 {q : Nat → Int} {n : Nat} (h : ∀ i, i < n → q i = 0 ∨ q i = 13) : firstErr q n = if ∃ i, i < n ∧ q i ≠ 0 then 13 else 0 := by
  by_cases hc : ∃ i, i < n ∧ q i ≠ 0
  · rw [if_pos hc]
    rcases firstErr_mem q n with e | ⟨i, hi, e⟩
    · obtain ⟨i, hi, hne⟩ := hc
      exact absurd (firstErr_zero e i hi) hne
    · rcases h i hi with h0 | h0
      · obtain ⟨k, hk, hne⟩ := hc
        rw [h0] at e
        exact absurd (firstErr_zero e k hk) hne
      · rw [e, h0]
  · rw [if_neg hc]
    refine firstErr_none fun i hi => ?_
    rcases Int.lt_trichotomy (q i) 0 with h0 | h0 | h0
    · exact absurd ⟨i, hi, by omega⟩ hc
    · exact h0
    · exact absurd ⟨i, hi, by omega⟩ hc

/-- The list of the boxes, turned round. -/
def Turned (m : Nat) (poly pol2 : Nat → Poly) : Prop := ∀ j, j < m → (pol2 j).pn = 4 ∧ (pol2 j).spot = rect (zoneAt poly (m - 1 - j)).lo (zoneAt poly (m - 1 - j)).hi

section
variable {m : Nat} {poly pol2 : Nat → Poly}

theorem turned_one (ht : Turned m poly pol2) (hv : ∀ i, i < m → checkF (poly i).pn (poly i).spot = 0) {j : Nat} (hj : j < m) :
    checkF (pol2 j).pn (pol2 j).spot = 0 ∧ zoneAt pol2 j = zoneAt poly (m - 1 - j) := by
  obtain ⟨h1, h2⟩ := ht j hj
  have hc := hv (m - 1 - j) (by omega)
  obtain ⟨z1, z2, z3, z4⟩ := zone_bd hc
  have hw := width_pos hc
  have e1 : (zoneAt poly (m - 1 - j)).lo = minTo (spotX (poly (m - 1 - j)).spot) (poly (m - 1 - j)).pn := rfl
  have e2 : (zoneAt poly (m - 1 - j)).hi = minTo (spotX (poly (m - 1 - j)).spot) (poly (m - 1 - j)).pn + (maxTo (spotX (poly (m - 1 - j)).spot) (poly (m - 1 - j)).pn - minTo (spotX (poly (m - 1 - j)).spot) (poly (m - 1 - j)).pn) := rfl
  constructor
  · rw [h1, h2]
    exact rect_check (by omega) (by omega) (by omega)
  · have e3 : zoneAt pol2 j = zoneOf ⟨none, 4, 4, rect (zoneAt poly (m - 1 - j)).lo (zoneAt poly (m - 1 - j)).hi⟩ := by
      unfold zoneAt zoneOf
      rw [h1, h2]
      rfl
    rw [e3, rect_zone none (by omega)]
    show (⟨_, _⟩ : Zone) = ⟨(zoneAt poly (m - 1 - j)).lo, (zoneAt poly (m - 1 - j)).hi⟩
    congr 1
    omega

theorem turned_ext (ht : Turned m poly pol2) (hv : ∀ i, i < m → checkF (poly i).pn (poly i).spot = 0) (len : Int) : extErr len m pol2 = extErr len m poly := by
  have he : ∀ j, j < m → polyErr len (pol2 j) = polyErr len (poly (m - 1 - j)) := by
    intro j hj
    obtain ⟨c1, c2⟩ := turned_one ht hv hj
    have c3 := hv (m - 1 - j) (by omega)
    have c4 : zoneOf (pol2 j) = zoneOf (poly (m - 1 - j)) := c2
    unfold polyErr
    rw [c1, c3, c4]
  have h13 : ∀ i, i < m → polyErr len (poly i) = 0 ∨ polyErr len (poly i) = 13 := by
    intro i hi
    unfold polyErr
    rw [if_neg (fun h => h (hv i hi))]
    split
    · exact .inr rfl
    · exact .inl rfl
  have h13' : ∀ i, i < m → polyErr len (pol2 i) = 0 ∨ polyErr len (pol2 i) = 13 := fun i hi => by rw [he i hi]; exact h13 _ (by omega)
  unfold extErr
  rw [firstErr_13 h13, firstErr_13 h13']
  have hiff : (∃ i, i < m ∧ polyErr len (pol2 i) ≠ 0) ↔ ∃ i, i < m ∧ polyErr len (poly i) ≠ 0 := by
    constructor
    · rintro ⟨i, hi, h⟩
      exact ⟨m - 1 - i, by omega, by rw [← he i hi]; exact h⟩
    · rintro ⟨i, hi, h⟩
      refine ⟨m - 1 - i, by omega, ?_⟩
      rw [he _ (by omega), show m - 1 - (m - 1 - i) = i by omega]
      exact h
  by_cases hc : ∃ i, i < m ∧ polyErr len (poly i) ≠ 0
  · rw [if_pos hc, if_pos (hiff.2 hc)]
  · rw [if_neg hc, if_neg (fun h => hc (hiff.1 h))]

theorem turned_back (ht : Turned m poly pol2) (hv : ∀ i, i < m → checkF (poly i).pn (poly i).spot = 0) (h : Int) : backF (zoneAt pol2) h m = backF (zoneAt poly) h m := by
  refine back_eq (fun i hi => ⟨m - 1 - i, by omega, ?_⟩) (fun j hj => ⟨m - 1 - j, by omega, ?_⟩)
  · exact (turned_one ht hv hi).2.symm
  · have := (turned_one ht hv (j := m - 1 - j) (by omega)).2
    rw [show m - 1 - (m - 1 - j) = j by omega] at this
    exact this

theorem turned_Back (ht : Turned m poly pol2) (hv : ∀ i, i < m → checkF (poly i).pn (poly i).spot = 0) (len h : Int) : backErr len m pol2 h = backErr len m poly h ∧ backV len m pol2 h = backV len m poly h := by
  have e1 : backErr len m pol2 h = backErr len m poly h := by unfold backErr; rw [turned_ext ht hv]
  refine ⟨e1, ?_⟩
  unfold backV
  rw [e1, turned_back ht hv]

theorem turned_Best (ht : Turned m poly pol2) (hv : ∀ i, i < m → checkF (poly i).pn (poly i).spot = 0) (len lo hi : Int) : bestZ len m pol2 lo hi = bestZ len m poly lo hi ∧ bestCode len m pol2 lo hi = bestCode len m poly lo hi := by
  have e1 : bestErr len m pol2 lo hi = bestErr len m poly lo hi := by unfold bestErr; rw [turned_ext ht hv]
  have e2 : bestO len m pol2 lo hi = bestO len m poly lo hi := by
    unfold bestO
    rw [e1, show (fun h => backF (zoneAt pol2) h m) = fun h => backF (zoneAt poly) h m from funext fun h => turned_back ht hv h]
  unfold bestZ bestCode
  rw [e1, e2]
  exact ⟨rfl, rfl⟩
end

end Go.Proofs.Ytcalchlfipbpkaa
