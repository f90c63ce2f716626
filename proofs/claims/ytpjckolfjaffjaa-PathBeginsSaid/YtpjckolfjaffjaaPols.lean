/- Polygons in memory; rows by element; first errors. For the chapters 37 and 41. -/
import Derived.Test.YtpjckolfjaffjaaPolyF
import Derived.Test.YtpjckolfjaffjaaRow
namespace Go.Proofs.Ytpjckolfjaffjaa
open Go.RowKit
set_option linter.unusedSimpArgs false
set_option linter.unusedVariables false

theorem Row.at4 {w : World} {B n b off : Nat} {f : Nat → Nat → Value} (h : Row w B 4 (some ⟨b, off, none⟩) n f) {i : Nat} (hi : i < n) :
    w.cell? ⟨b, off + i * 4, none⟩ = some (f i 0) ∧ w.cell? ⟨b, off + i * 4 + 1, none⟩ = some (f i 1) ∧ w.cell? ⟨b, off + i * 4 + 2, none⟩ = some (f i 2) ∧ w.cell? ⟨b, off + i * 4 + 3, none⟩ = some (f i 3) := by
  obtain ⟨b', off', hA, _, hc⟩ := h (by omega)
  injection hA with hA
  injection hA with h1 h2
  subst h1; subst h2
  exact ⟨hc i 0 hi (by omega), hc i 1 hi (by omega), hc i 2 hi (by omega), hc i 3 hi (by omega)⟩

theorem Row.at2 {w : World} {B n b off : Nat} {f : Nat → Nat → Value} (h : Row w B 2 (some ⟨b, off, none⟩) n f) {i : Nat} (hi : i < n) :
    w.cell? ⟨b, off + i * 2, none⟩ = some (f i 0) ∧ w.cell? ⟨b, off + i * 2 + 1, none⟩ = some (f i 1) := by
  obtain ⟨b', off', hA, _, hc⟩ := h (by omega)
  injection hA with hA
  injection hA with h1 h2
  subst h1; subst h2
  exact ⟨hc i 0 hi (by omega), hc i 1 hi (by omega)⟩

/-- The row's address. -/
theorem Row.addr {w : World} {B sz n : Nat} {A : Option Addr} {f : Nat → Nat → Value} (h : Row w B sz A n f) (h0 : 0 < n) : ∃ b off, A = some ⟨b, off, none⟩ ∧ b < B := by
  obtain ⟨b, off, hA, hb, _⟩ := h h0
  exact ⟨b, off, hA, hb⟩

theorem Row.at1 {w : World} {B n b off : Nat} {f : Nat → Nat → Value} (h : Row w B 1 (some ⟨b, off, none⟩) n f) {i : Nat} (hi : i < n) : w.cell? ⟨b, off + i, none⟩ = some (f i 0) := by
  obtain ⟨b', off', hA, _, hc⟩ := h (by omega)
  injection hA with hA
  injection hA with h1 h2
  subst h1; subst h2
  have := hc i 0 hi (by omega)
  rwa [Nat.mul_one, Nat.add_zero] at this

section
variable {w w' : World} {base e1 e2 sz1 sz2 n m : Nat} {v u : Value} {f g : Nat → Nat → Value}
/-- Two rows whose element types differ lie in different blocks. -/
theorem Owned.sep (h1 : Owned w base e1 sz1 v n f) (h2 : Owned w base e2 sz2 u m g) (he : e1 ≠ e2) (k : Nat) (hk : v.ownBlock = some k) : u.ownBlock ≠ some k := by
  intro hu
  rcases h1.2 with ⟨rfl, _⟩ | ⟨g1, c1, k1, rfl, _, hh1, _⟩
  · cases hk
  · rcases h2.2 with ⟨rfl, _⟩ | ⟨g2, c2, k2, rfl, _, hh2, _⟩
    · cases hu
    · have e1' : g1 = k := Option.some.inj hk
      have e2' : g2 = k := Option.some.inj hu
      subst e1'; subst e2'
      rw [hh1] at hh2
      injection hh2 with hh2
      injection hh2 with _ ht
      exact he ht

theorem Owned.grown_other (h2 : Owned w base e2 sz2 u m g) (h1 : Owned w base e1 sz1 v n f) (he : e1 ≠ e2) (hg : w.grownBy w' v.ownBlock) : Owned w' base e2 sz2 u m g := by
  cases hv : v.ownBlock with
  | none => exact h2.grown hg (by cases hu : u.ownBlock with | none => exact .inl rfl | some k => exact .inr (by rw [hv]; simp))
  | some k => exact h2.grown hg (.inr (by rw [hv]; exact h1.sep h2 he k hv))

theorem Owned.below_grown {B : Nat} {a : World} (h1 : Owned w base e1 sz1 v n f) (hb : Below B a w) (hB : B ≤ base) (hs : B ≤ w.heap.size) (hg : w.grownBy w' v.ownBlock) : Below B a w' :=
  hb.grown hg hs (fun k hk => by have := (h1.lt k hk).1; omega)

/-- A literal slice, to be read. -/
theorem Row.lit (w : World) (cs : Array Value) (n : Nat) (e : TypeId) (sz : Nat) (f : Nat → Nat → Value) (hm : n ≤ maxLen) (hs : cs.toList = cellsOf sz n f) :
    Row (w.alloc (.cells cs e)) (w.alloc (.cells cs e)).heap.size sz (some ⟨w.heap.size, 0, none⟩) n f := by
  obtain ⟨A, c, hv, _, _, hr⟩ := (Owned.lit w cs n e sz f hm hs).form
  injection hv with h1 _ _
  rw [h1]
  exact hr
end

/-- A polygon: its vertices lie at pa, pn of them. -/
structure Poly where
  pa : Option Addr
  pn : Nat
  pc : Nat
  spot : Nat → Spot

def Polys (w : World) (B : Nat) (A : Option Addr) (m : Nat) (poly : Nat → Poly) : Prop :=
  Row w B 1 A m (fun i _ => .slice (poly i).pa (poly i).pn (poly i).pc) ∧ ∀ i, i < m → Spots w B (poly i).pa (poly i).pn (poly i).spot ∧ (poly i).pn ≤ (poly i).pc ∧ (poly i).pn ≤ 100

theorem Polys.later {w w' : World} {A : Option Addr} {m : Nat} {poly : Nat → Poly} (h : Polys w w.heap.size A m poly) (hb : Below w.heap.size w w') : Polys w' w'.heap.size A m poly :=
  ⟨h.1.later hb, fun i hi => ⟨(h.2 i hi).1.later hb, (h.2 i hi).2⟩⟩

/-- The first value that is not 0 among the first n, or 0. -/
def firstErr (q : Nat → Int) (n : Nat) : Int := if firstF (fun i => q i != 0) n 0 < 0 then 0 else q (firstF (fun i => q i != 0) n 0).toNat

theorem firstErr_none {q : Nat → Int} {n : Nat} (h : ∀ i, i < n → q i = 0) : firstErr q n = 0 := by
  unfold firstErr
  rw [firstF_none _ _ (fun j hj => by simp [h j hj])]
  rfl

theorem firstErr_at {q : Nat → Int} {n k : Nat} (hk : k < n) (h : ∀ i, i < k → q i = 0) (hq : q k ≠ 0) : firstErr q n = q k := by
  unfold firstErr
  rw [firstF_at _ n k hk (fun j hj => by simp [h j hj]) (by simp [hq])]
  rw [if_neg (by omega)]
  simp

theorem spots_of_row {w : World} {B : Nat} {A : Option Addr} {n : Nat} {p : Nat → Spot} (h : Row w B 2 A n (fun i j => if j = 0 then .int .i64 (p i).x else .int .i64 (p i).y)) : Spots w B A n p := by
  intro h0
  obtain ⟨b, off, hA, hb, hc⟩ := h h0
  exact ⟨b, off, hA, hb, fun i hi => ⟨hc i 0 hi (by omega), hc i 1 hi (by omega)⟩⟩

theorem Polys.take {w : World} {B m k : Nat} {A : Option Addr} {poly : Nat → Poly} (h : Polys w B A m poly) (hk : k ≤ m) : Polys w B A k poly :=
  ⟨h.1.take hk, fun i hi => h.2 i (by omega)⟩

/-- Polygons that came in. -/
def PolysIn (w : World) (A : Option Addr) (m : Nat) (poly : Nat → Poly) : Prop :=
  Row w w.heap.size 1 A m (fun i _ => .slice (poly i).pa (poly i).pn (poly i).pc) ∧ ∀ i, i < m → Spots w w.heap.size (poly i).pa (poly i).pn (poly i).spot ∧ (poly i).pn ≤ (poly i).pc

theorem row_none (w : World) (sz : Nat) (A : Option Addr) (f : Nat → Nat → Value) : Row w w.heap.size sz A 0 f := fun h => absurd h (by omega)

theorem firstErr_zero {q : Nat → Int} {n : Nat} (h : firstErr q n = 0) : ∀ i, i < n → q i = 0 := by
  intro i hi
  rcases firstF_spec (fun i => q i != 0) n with ⟨_, hall⟩ | ⟨k, hk, hf, hq, _⟩
  · have := hall i hi
    simpa using this
  · unfold firstErr at h
    rw [hf, if_neg (by omega)] at h
    simp at h hq
    exact absurd h hq


end Go.Proofs.Ytpjckolfjaffjaa
