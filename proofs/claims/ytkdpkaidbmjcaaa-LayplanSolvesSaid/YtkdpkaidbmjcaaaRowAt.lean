/- Rows by element; rows of the call's own; blocks beside them. For chapter 36. -/
import Derived.Test.YtkdpkaidbmjcaaaRow
namespace Go.Proofs.Ytkdpkaidbmjcaaa
open Go.RowKit
set_option linter.unusedSimpArgs false
set_option linter.unusedVariables false

theorem Row.at4 {w : World} {B n b off : Nat} {f : Nat → Nat → Value} (h : Row w B 4 (some ⟨b, off, none⟩) n f) {i : Nat} (hi : i < n) :
    w.cell? ⟨b, off + i * 4, none⟩ = some (f i 0) ∧ w.cell? ⟨b, off + i * 4 + 1, none⟩ = some (f i 1) ∧ w.cell? ⟨b, off + i * 4 + 2, none⟩ = some (f i 2) ∧ w.cell? ⟨b, off + i * 4 + 3, none⟩ = some (f i 3) := by
  obtain ⟨b', off', hA, _, hc⟩ := h (by omega)
  injection hA with hA
  injection hA with h1 h2
  subst h1; subst h2
  exact ⟨hc i 0 hi (by omega), hc i 1 hi (by omega), hc i 2 hi (by omega), hc i 3 hi (by omega)⟩

theorem Row.at2 {w : World} {B n b off : Nat} {f : Nat → Nat → Value} (h : Row w B 2 (some ⟨b, off, none⟩) n f) {i : Nat} (hi : i < n) :
    w.cell? ⟨b, off + i * 2, none⟩ = some (f i 0) ∧ w.cell? ⟨b, off + i * 2 + 1, none⟩ = some (f i 1) := by
  obtain ⟨b', off', hA, _, hc⟩ := h (by omega)
  injection hA with hA
  injection hA with h1 h2
  subst h1; subst h2
  exact ⟨hc i 0 hi (by omega), hc i 1 hi (by omega)⟩

/-- The row's address. -/
theorem Row.addr {w : World} {B sz n : Nat} {A : Option Addr} {f : Nat → Nat → Value} (h : Row w B sz A n f) (h0 : 0 < n) : ∃ b off, A = some ⟨b, off, none⟩ ∧ b < B := by
  obtain ⟨b, off, hA, hb, _⟩ := h h0
  exact ⟨b, off, hA, hb⟩

theorem Row.at1 {w : World} {B n b off : Nat} {f : Nat → Nat → Value} (h : Row w B 1 (some ⟨b, off, none⟩) n f) {i : Nat} (hi : i < n) : w.cell? ⟨b, off + i, none⟩ = some (f i 0) := by
  obtain ⟨b', off', hA, _, hc⟩ := h (by omega)
  injection hA with hA
  injection hA with h1 h2
  subst h1; subst h2
  have := hc i 0 hi (by omega)
  rwa [Nat.mul_one, Nat.add_zero] at this

section
variable {w w' : World} {base e1 e2 sz1 sz2 n m : Nat} {v u : Value} {f g : Nat → Nat → Value}
/-- Two rows whose element types differ lie in different blocks. -/
theorem Owned.sep (h1 : Owned w base e1 sz1 v n f) (h2 : Owned w base e2 sz2 u m g) (he : e1 ≠ e2) (k : Nat) (hk : v.ownBlock = some k) : u.ownBlock ≠ some k := by
  intro hu
  rcases h1.2 with ⟨rfl, _⟩ | ⟨g1, c1, k1, rfl, _, hh1, _⟩
  · cases hk
  · rcases h2.2 with ⟨rfl, _⟩ | ⟨g2, c2, k2, rfl, _, hh2, _⟩
    · cases hu
    · have e1' : g1 = k := Option.some.inj hk
      have e2' : g2 = k := Option.some.inj hu
      subst e1'; subst e2'
      rw [hh1] at hh2
      injection hh2 with hh2
      injection hh2 with _ ht
      exact he ht

theorem Owned.grown_other (h2 : Owned w base e2 sz2 u m g) (h1 : Owned w base e1 sz1 v n f) (he : e1 ≠ e2) (hg : w.grownBy w' v.ownBlock) : Owned w' base e2 sz2 u m g := by
  cases hv : v.ownBlock with
  | none => exact h2.grown hg (by cases hu : u.ownBlock with | none => exact .inl rfl | some k => exact .inr (by rw [hv]; simp))
  | some k => exact h2.grown hg (.inr (by rw [hv]; exact h1.sep h2 he k hv))

theorem Owned.below_grown {B : Nat} {a : World} (h1 : Owned w base e1 sz1 v n f) (hb : Below B a w) (hB : B ≤ base) (hs : B ≤ w.heap.size) (hg : w.grownBy w' v.ownBlock) : Below B a w' :=
  hb.grown hg hs (fun k hk => by have := (h1.lt k hk).1; omega)

/-- A literal slice, to be read. -/
theorem Row.lit (w : World) (cs : Array Value) (n : Nat) (e : TypeId) (sz : Nat) (f : Nat → Nat → Value) (hm : n ≤ maxLen) (hs : cs.toList = cellsOf sz n f) :
    Row (w.alloc (.cells cs e)) (w.alloc (.cells cs e)).heap.size sz (some ⟨w.heap.size, 0, none⟩) n f := by
  obtain ⟨A, c, hv, _, _, hr⟩ := (Owned.lit w cs n e sz f hm hs).form
  injection hv with h1 _ _
  rw [h1]
  exact hr
end

theorem row_none (w : World) (sz : Nat) (A : Option Addr) (f : Nat → Nat → Value) : Row w w.heap.size sz A 0 f := fun h => absurd h (by omega)

/-- The cells of a row of the call's own. -/
theorem Owned.cells1 {w : World} {base e n g cap : Nat} {f : Nat → Nat → Value} (h : Owned w base e 1 (.slice (some ⟨g, 0, none⟩) n cap) n f) :
    base ≤ g ∧ g < w.heap.size ∧ (∀ i, i < n → w.cell? ⟨g, i, none⟩ = some (f i 0)) ∧ ∀ o, w.frozen? ⟨g, o, none⟩ = false := by
  have hlt := h.lt g rfl
  refine ⟨hlt.1, hlt.2, fun i hi => ?_, fun o => ?_⟩
  · obtain ⟨g', cap', hv, _, _, _, _, hc, _⟩ := h.blk (by omega)
    injection hv with hv1 _ _
    injection hv1 with hv1
    injection hv1 with hv1 _
    subst hv1
    have := hc i 0 hi (by omega)
    rwa [Nat.mul_one, Nat.add_zero] at this
  · obtain ⟨_, h⟩ := h
    rcases h with ⟨h1, _⟩ | ⟨g', cap', cur, hv, _, hh, _⟩
    · cases h1
    · injection hv with hv1 _ _
      injection hv1 with hv1
      injection hv1 with hv1 _
      subst hv1
      simp [World.frozen?, hh]

theorem Blk.apart {w : World} {g base e sz n : Nat} {t : TypeId} {cs : Array Value} {v : Value} {f : Nat → Nat → Value} (hB : Blk w g t cs) (hO : Owned w base e sz v n f) (hne : t ≠ e) : some g ≠ v.ownBlock := by
  intro h
  rcases hO.2 with ⟨rfl, _⟩ | ⟨g1, c1, k1, rfl, _, hh1, _⟩
  · cases h
  · have e1 : g = g1 := Option.some.inj h
    subst e1
    have := hB.symm.trans hh1
    injection this with this
    injection this with _ ht
    exact hne ht

theorem Blk.grown {w w' : World} {g : Nat} {t : TypeId} {cs : Array Value} {row : Option Nat} (hB : Blk w g t cs) (hg : w.grownBy w' row) (hne : some g ≠ row) : Blk w' g t cs := (hg.block g hB.lt hne).trans hB

theorem below_drewN {B : Nat} {w w1 : World} (h : Below B w w1) (n : Nat) : Below B w (w1.drewN n) := by
  have e : ∀ n, Below B w1 (w1.drewN n) := by
    intro n
    induction n with
    | zero => exact Below.refl _ _
    | succ n ih => exact ih.drew
  exact h.trans (e n)


end Go.Proofs.Ytkdpkaidbmjcaaa
