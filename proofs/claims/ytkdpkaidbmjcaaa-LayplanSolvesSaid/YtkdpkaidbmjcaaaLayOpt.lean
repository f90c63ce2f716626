/- The search for the best plan, as invariants of its steps. No program in sight. -/
import Derived.Test.YtkdpkaidbmjcaaaLayLaw
namespace Go.Proofs.Ytkdpkaidbmjcaaa
set_option linter.unusedSimpArgs false
set_option linter.unusedVariables false

abbrev Plan := Nat → Int

/-- The first k numbers agree. -/
def EqTo (k : Nat) (p q : Plan) : Prop := ∀ j, j < k → q j = p j
/-- The first k numbers of q come before those of p. -/
def LtTo (k : Nat) (q p : Plan) : Prop := ∃ j, j < k ∧ (∀ a, a < j → q a = p a) ∧ q j < p j
def LeTo (k : Nat) (q p : Plan) : Prop := LtTo k q p ∨ EqTo k p q

def setP (p : Plan) (i : Nat) (v : Int) : Plan := fun j => if j = i then v else p j
theorem setP_at (p : Plan) (i : Nat) (v : Int) : setP p i v i = v := by unfold setP; rw [if_pos rfl]
theorem setP_ne (p : Plan) {i j : Nat} (v : Int) (h : j ≠ i) : setP p i v j = p j := by unfold setP; rw [if_neg h]

theorem lt_succ_iff {k : Nat} {q p : Plan} : LtTo (k + 1) q p ↔ LtTo k q p ∨ (EqTo k p q ∧ q k < p k) := by
  constructor
  · rintro ⟨j, hj, he, hl⟩
    rcases Nat.lt_succ_iff_lt_or_eq.1 hj with h | rfl
    · exact .inl ⟨j, h, he, hl⟩
    · exact .inr ⟨he, hl⟩
  · rintro (⟨j, hj, he, hl⟩ | ⟨he, hl⟩)
    · exact ⟨j, by omega, he, hl⟩
    · exact ⟨k, by omega, he, hl⟩

theorem eq_succ_iff {k : Nat} {q p : Plan} : EqTo (k + 1) p q ↔ EqTo k p q ∧ q k = p k := by
  constructor
  · exact fun h => ⟨fun j hj => h j (by omega), h k (by omega)⟩
  · rintro ⟨h1, h2⟩ j hj
    rcases Nat.lt_succ_iff_lt_or_eq.1 hj with h | rfl
    · exact h1 j h
    · exact h2

theorem lt_congr {k : Nat} {q p p' : Plan} (h : ∀ j, j < k → p j = p' j) : LtTo k q p ↔ LtTo k q p' := by
  constructor
  · rintro ⟨j, hj, he, hl⟩
    exact ⟨j, hj, fun a ha => (he a ha).trans (h a (by omega)), by rw [← h j hj]; exact hl⟩
  · rintro ⟨j, hj, he, hl⟩
    exact ⟨j, hj, fun a ha => (he a ha).trans (h a (by omega)).symm, by rw [h j hj]; exact hl⟩

theorem eq_congr {k : Nat} {q p p' : Plan} (h : ∀ j, j < k → p j = p' j) : EqTo k p q ↔ EqTo k p' q :=
  ⟨fun hh j hj => (hh j hj).trans (h j hj), fun hh j hj => (hh j hj).trans (h j hj).symm⟩

theorem lt_asymm {k m : Nat} {q r : Plan} (h1 : LtTo k r q) (h2 : LtTo m q r) : False := by
  obtain ⟨j, hj, he, hl⟩ := h1
  obtain ⟨i, hi, he', hl'⟩ := h2
  rcases Nat.lt_trichotomy i j with h | h | h
  · have := he i h; omega
  · subst h; omega
  · have := he' j h; omega

theorem lt_of_eq {k : Nat} {r p q : Plan} (h : LtTo k r p) (he : EqTo k p q) : LtTo k r q := by
  obtain ⟨j, hj, ha, hl⟩ := h
  exact ⟨j, hj, fun a h => (ha a h).trans (he a (by omega)).symm, by rw [he j hj]; exact hl⟩

section
variable (M : Nat) (Feas : Plan → Prop) (cost : Plan → Int)

/-- b is the first of the cheapest among those of Q. -/
def Opt (Q : Plan → Prop) : Option Plan → Prop
  | none => ∀ q, Feas q → ¬ Q q
  | some r => Feas r ∧ Q r ∧ ∀ q, Feas q → Q q → cost r < cost q ∨ (cost r = cost q ∧ ¬ LtTo M q r)
end

section
variable {M : Nat} {Feas : Plan → Prop} {cost : Plan → Int} {b : Option Plan} {p : Plan} {i k : Nat}

theorem Opt.congr {Q Q' : Plan → Prop} (h : Opt M Feas cost Q b) (he : ∀ q, Feas q → (Q q ↔ Q' q)) : Opt M Feas cost Q' b := by
  cases b with
  | none => exact fun q hf hq => h q hf ((he q hf).2 hq)
  | some r => exact ⟨h.1, (he r h.1).1 h.2.1, fun q hf hq => h.2.2 q hf ((he q hf).2 hq)⟩

/-- Down, and nothing fits. -/
theorem Opt.dead (h : Opt M Feas cost (fun q => LtTo i q p) b) (hd : ∀ q, Feas q → ¬ EqTo i p q) : Opt M Feas cost (fun q => LeTo i q p) b :=
  h.congr fun q hf => ⟨.inl, fun hq => hq.resolve_right (hd q hf)⟩

/-- Down: the least number that fits is laid. -/
theorem Opt.down {lo : Int} (h : Opt M Feas cost (fun q => LtTo i q p) b) (hl : ∀ q, Feas q → EqTo i p q → lo ≤ q i) : Opt M Feas cost (fun q => LtTo (i + 1) q (setP p i lo)) b :=
  h.congr fun q hf => by
    have e : ∀ j, j < i → p j = setP p i lo j := fun j hj => (setP_ne p lo (by omega)).symm
    rw [lt_succ_iff, ← lt_congr e, ← eq_congr e, setP_at]
    exact ⟨.inl, fun hq => hq.elim id (fun ⟨h1, h2⟩ => absurd h2 (by have := hl q hf h1; omega))⟩

/-- Nothing that begins so is cheaper. -/
theorem Opt.hopeless {r : Plan} (h : Opt M Feas cost (fun q => LtTo k q p) (some r)) (hk : k ≤ M) (hc : ∀ q, Feas q → EqTo k p q → cost r ≤ cost q) : Opt M Feas cost (fun q => LeTo k q p) (some r) := by
  obtain ⟨h1, h2, h3⟩ := h
  refine ⟨h1, .inl h2, fun q hf hq => ?_⟩
  rcases hq with hq | hq
  · exact h3 q hf hq
  · have hle := hc q hf hq
    by_cases he : cost r < cost q
    · exact .inl he
    · exact .inr ⟨by omega, fun hlt => lt_asymm (lt_of_eq h2 hq) hlt⟩

/-- A whole plan. -/
theorem Opt.leaf (h : Opt M Feas cost (fun q => LtTo M q p) b) (hp : Feas p) (hc : ∀ q, EqTo M p q → cost q = cost p) :
    Opt M Feas cost (fun q => LeTo M q p) (match b with | none => some p | some r => if cost p < cost r then some p else some r) := by
  have self : EqTo M p p := fun _ _ => rfl
  have irr : ∀ q, EqTo M p q → ¬ LtTo M q p := fun q he ⟨j, hj, _, hl⟩ => by have := he j hj; omega
  cases b with
  | none =>
    refine ⟨hp, .inr self, fun q hf hq => ?_⟩
    rcases hq with hq | hq
    · exact absurd hq (h q hf)
    · exact .inr ⟨(hc q hq).symm, irr q hq⟩
  | some r =>
    obtain ⟨h1, h2, h3⟩ := h
    simp only []
    by_cases hlt : cost p < cost r
    · rw [if_pos hlt]
      refine ⟨hp, .inr self, fun q hf hq => ?_⟩
      rcases hq with hq | hq
      · have := h3 q hf hq; left; omega
      · exact .inr ⟨(hc q hq).symm, irr q hq⟩
    · rw [if_neg hlt]
      refine ⟨h1, .inl h2, fun q hf hq => ?_⟩
      rcases hq with hq | hq
      · exact h3 q hf hq
      · have := hc q hq
        by_cases he : cost r < cost q
        · exact .inl he
        · exact .inr ⟨by omega, fun hlt => lt_asymm (lt_of_eq h2 hq) hlt⟩

/-- Up: one more. -/
theorem Opt.more (h : Opt M Feas cost (fun q => LeTo (i + 1) q p) b) : Opt M Feas cost (fun q => LtTo (i + 1) q (setP p i (p i + 1))) b :=
  h.congr fun q hf => by
    have e : ∀ j, j < i → p j = setP p i (p i + 1) j := fun j hj => (setP_ne p _ (by omega)).symm
    unfold LeTo
    rw [lt_succ_iff, lt_succ_iff, eq_succ_iff, ← lt_congr e, ← eq_congr e, setP_at]
    constructor
    · rintro ((h | ⟨h1, h2⟩) | ⟨h1, h2⟩)
      · exact .inl h
      · exact .inr ⟨h1, by omega⟩
      · exact .inr ⟨h1, by omega⟩
    · rintro (h | ⟨h1, h2⟩)
      · exact .inl (.inl h)
      · by_cases h3 : q i < p i
        · exact .inl (.inr ⟨h1, h3⟩)
        · exact .inr ⟨h1, by omega⟩

/-- Up: no more. -/
theorem Opt.up (h : Opt M Feas cost (fun q => LeTo (i + 1) q p) b) (hh : ∀ q, Feas q → EqTo i p q → q i ≤ p i) : Opt M Feas cost (fun q => LeTo i q p) b :=
  h.congr fun q hf => by
    unfold LeTo
    rw [lt_succ_iff, eq_succ_iff]
    constructor
    · rintro ((h | ⟨h1, h2⟩) | ⟨h1, h2⟩)
      · exact .inl h
      · exact .inr h1
      · exact .inr h1
    · rintro (h | h)
      · exact .inl (.inl h)
      · have := hh q hf h
        by_cases h3 : q i < p i
        · exact .inl (.inr ⟨h, h3⟩)
        · exact .inr ⟨h, by omega⟩

theorem le_congr {q p p' : Plan} (h : ∀ j, j < k → p j = p' j) : LeTo k q p ↔ LeTo k q p' := by
  unfold LeTo
  rw [lt_congr h, eq_congr h]

/-- At the end all plans have been looked at. -/
theorem Opt.all (h : Opt M Feas cost (fun q => LeTo 0 q p) b) : Opt M Feas cost (fun _ => True) b :=
  h.congr fun q _ => ⟨fun _ => trivial, fun _ => .inr fun j hj => absurd hj (by omega)⟩

/-- At the start none. -/
theorem Opt.start : Opt M Feas cost (fun q => LtTo 0 q p) none := fun q _ ⟨j, hj, _⟩ => by omega
end

end Go.Proofs.Ytkdpkaidbmjcaaa
