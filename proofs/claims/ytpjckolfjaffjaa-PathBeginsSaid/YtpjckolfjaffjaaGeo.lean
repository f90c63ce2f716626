/- Plain geometry of polygons with integer vertices: what polygon.Check and the reference's Check compute, and that they agree. No program in sight. -/
namespace Go.Proofs.Ytpjckolfjaffjaa

structure Spot where
  x : Int
  y : Int

/-- Both coordinates are within MaxCoord. -/
def Spot.ok (s : Spot) : Prop := -1048576 ≤ s.x ∧ s.x ≤ 1048576 ∧ -1048576 ≤ s.y ∧ s.y ≤ 1048576

instance (s : Spot) : Decidable s.ok := by unfold Spot.ok; exact inferInstance

def crossF (a b c : Spot) : Int := (b.x - a.x) * (c.y - a.y) - (b.y - a.y) * (c.x - a.x)

def onF (a b p : Spot) : Bool := decide (crossF a b p = 0 ∧ (a.x ≤ p.x ∨ b.x ≤ p.x) ∧ (p.x ≤ a.x ∨ p.x ≤ b.x) ∧ (a.y ≤ p.y ∨ b.y ≤ p.y) ∧ (p.y ≤ a.y ∨ p.y ≤ b.y))

def sgnF (n : Int) : Int := if 0 < n then 1 else if n < 0 then -1 else 0

def partedF (a b c d : Spot) : Bool := decide (sgnF (crossF a b c) * sgnF (crossF a b d) < 0)

def meetF (a b c d : Spot) : Bool := onF a b c || onF a b d || onF c d a || onF c d b || (partedF a b c d && partedF c d a b)

def dotF (a b c : Spot) : Int := (a.x - b.x) * (c.x - b.x) + (a.y - b.y) * (c.y - b.y)

def foldedF (a b c : Spot) : Bool := decide (crossF a b c = 0 ∧ 0 < dotF a b c)

def outsideF (s : Spot) : Bool := decide (s.x < -1048576 ∨ 1048576 < s.x ∨ s.y < -1048576 ∨ 1048576 < s.y)

theorem outside_ok {s : Spot} : outsideF s = false ↔ s.ok := by
  unfold outsideF Spot.ok
  rw [decide_eq_false_iff_not]
  omega

theorem sgn_cases (n : Int) : sgnF n = 1 ∨ sgnF n = 0 ∨ sgnF n = -1 := by
  unfold sgnF; split
  · exact .inl rfl
  · split
    · exact .inr (.inr rfl)
    · exact .inr (.inl rfl)

theorem sgn_bd (n : Int) : -1 ≤ sgnF n ∧ sgnF n ≤ 1 := by rcases sgn_cases n with h | h | h <;> omega

theorem sgn_mul_bd (n m : Int) : -1 ≤ sgnF n * sgnF m ∧ sgnF n * sgnF m ≤ 1 := by
  rcases sgn_cases n with h | h | h <;> rcases sgn_cases m with k | k | k <;> rw [h, k] <;> decide

theorem mul_bd {a b : Int} {A B : Int} (h1 : -A ≤ a) (h2 : a ≤ A) (h3 : -B ≤ b) (h4 : b ≤ B) : -(A * B) ≤ a * b ∧ a * b ≤ A * B := by
  have e1 : 0 ≤ (A - a) * (B + b) := Int.mul_nonneg (by omega) (by omega)
  have e2 : 0 ≤ (A + a) * (B - b) := Int.mul_nonneg (by omega) (by omega)
  have e3 : 0 ≤ (A - a) * (B - b) := Int.mul_nonneg (by omega) (by omega)
  have e4 : 0 ≤ (A + a) * (B + b) := Int.mul_nonneg (by omega) (by omega)
  simp only [Int.sub_mul, Int.add_mul, Int.mul_sub, Int.mul_add] at e1 e2 e3 e4
  generalize a * b = u at *
  generalize a * B = v at *
  generalize A * b = x at *
  generalize A * B = y at *
  constructor <;> omega

theorem prod_bd {a b : Int} (h1 : -2097152 ≤ a) (h2 : a ≤ 2097152) (h3 : -2097152 ≤ b) (h4 : b ≤ 2097152) : -4398046511104 ≤ a * b ∧ a * b ≤ 4398046511104 := by
  have h := mul_bd (A := 2097152) (B := 2097152) h1 h2 h3 h4
  have e : (2097152 : Int) * 2097152 = 4398046511104 := by decide
  rw [e] at h
  exact h

theorem cross_bd {a b c : Spot} (ha : a.ok) (hb : b.ok) (hc : c.ok) : -8796093022208 ≤ crossF a b c ∧ crossF a b c ≤ 8796093022208 := by
  obtain ⟨a1, a2, a3, a4⟩ := ha
  obtain ⟨b1, b2, b3, b4⟩ := hb
  obtain ⟨c1, c2, c3, c4⟩ := hc
  have p := prod_bd (a := b.x - a.x) (b := c.y - a.y) (by omega) (by omega) (by omega) (by omega)
  have q := prod_bd (a := b.y - a.y) (b := c.x - a.x) (by omega) (by omega) (by omega) (by omega)
  unfold crossF
  omega

theorem dot_bd {a b c : Spot} (ha : a.ok) (hb : b.ok) (hc : c.ok) : -8796093022208 ≤ dotF a b c ∧ dotF a b c ≤ 8796093022208 := by
  obtain ⟨a1, a2, a3, a4⟩ := ha
  obtain ⟨b1, b2, b3, b4⟩ := hb
  obtain ⟨c1, c2, c3, c4⟩ := hc
  have p := prod_bd (a := a.x - b.x) (b := c.x - b.x) (by omega) (by omega) (by omega) (by omega)
  have q := prod_bd (a := a.y - b.y) (b := c.y - b.y) (by omega) (by omega) (by omega) (by omega)
  unfold dotF
  omega

def sameF (s t : Spot) : Bool := decide (s.x = t.x ∧ s.y = t.y)

/-- What the program's simple asks of n vertices. -/
def SimpleP (n : Nat) (p : Nat → Spot) : Prop :=
  (∀ i, i < n → ∀ j, j < i → sameF (p i) (p j) = false) ∧
  ∀ i, i < n → foldedF (p i) (p ((i + 1) % n)) (p ((i + 2) % n)) = false ∧
    ∀ k, k < n → i + 2 ≤ k → (k + 1) % n ≠ i → meetF (p i) (p ((i + 1) % n)) (p k) (p ((k + 1) % n)) = false

instance (n : Nat) (p : Nat → Spot) : Decidable (SimpleP n p) := by unfold SimpleP; exact inferInstance

def simpleF (n : Nat) (p : Nat → Spot) : Bool := decide (SimpleP n p)

/-- What the reference's simple asks of n vertices. -/
def SimpleR (n : Nat) (p : Nat → Spot) : Prop :=
  ∀ i, i < n → sameF (p i) (p ((i + 1) % n)) = false ∧ onF (p i) (p ((i + 1) % n)) (p ((i + 2) % n)) = false ∧ onF (p ((i + 1) % n)) (p ((i + 2) % n)) (p i) = false ∧
    ∀ k, k < n → i + 2 ≤ k → (k + 1) % n ≠ i → meetF (p i) (p ((i + 1) % n)) (p k) (p ((k + 1) % n)) = false

instance (n : Nat) (p : Nat → Spot) : Decidable (SimpleR n p) := by unfold SimpleR; exact inferInstance

def rsimpleF (n : Nat) (p : Nat → Spot) : Bool := decide (SimpleR n p)

end Go.Proofs.Ytpjckolfjaffjaa
