/- Slices that came in, opened: what the walks are told of them. -/
import Derived.Test.YtkdpkaidbmjcaaaRow
import Derived.Test.YtkdpkaidbmjcaaaRows
import Derived.ProofKit
import Derived.OpenShut
import Derived.ShutString
import Derived.ChangeOld
import Derived.Below
import Derived.Deep.Slices
import Derived.Deep.Fields
namespace Go.Proofs.Ytkdpkaidbmjcaaa
open Go.ChangeShapes Go.WideShapes Go.ChangeAt Go.RowKit Go.Deep
set_option linter.unusedSimpArgs false
set_option linter.unusedVariables false

theorem ownKnob0 : ownKnob Try.prog.godebug = none := by kernel_rfl
theorem laidOut0 : laidOutB Try.prog = true := by kernel_rfl

section
variable {H : Type} {enc : TypeId × Value → H} {P : Program} {w : World} {spare : Nat → Bool} {held : Bool}

/-- A slice of structs whose fields are one cell each, opened. -/
theorem open_structs {t e : TypeId} {fs : Array Field} {fuel : Nat} {A : Option Addr} {n c : Nat} {x : DataW H × List MemPlace} (ht : P.underlying t = some (.slice e)) (he : P.underlying e = some (.struct fs)) (hone : oneCellFields P fs = true) (hC : P.cellsOf e = fs.size) (hpos : 0 < fs.size)
    (h : DataW.trod enc P w 0 spare held fuel t [.slice A n c] = some x) :
    n ≤ c ∧ c ≤ maxLen ∧ ∃ (k : Nat) (V : Nat → Nat → Value), Row w w.heap.size fs.size A n V ∧ ∀ i, i < n → ∀ (j : Nat) (f : Field), fs[j]? = some f → ∃ y, DataW.trod enc P w 0 spare held k f.type [V i j] = some y := by
  rcases open_slice ht h with ⟨h0, _⟩ | ⟨a, len, cap, m, k, D, Pl, hcs, _, hl, hm, hmm, _, hx⟩
  · simp at h0
    obtain ⟨rfl, rfl, rfl⟩ := h0
    exact ⟨Nat.le_refl _, by simp [maxLen], 0, fun _ _ => undef, fun h => absurd h (by omega), fun i hi => absurd hi (by omega)⟩
  simp at hcs
  obtain ⟨rfl, rfl, rfl⟩ := hcs
  have hlm : n ≤ m := by rw [hmm]; split <;> omega
  refine ⟨hl, hm, k - 1, ?_⟩
  have each : ∀ i, i < n → ∃ cs' : List Value, cs'.length = fs.size ∧ (∀ j, j < fs.size → w.cell? ((a.add (i * fs.size)).add j) = some (cs'.getD j undef)) ∧ ∀ (j : Nat) (f : Field), fs[j]? = some f → ∃ y, DataW.trod enc P w 0 spare held (k - 1) f.type [cs'.getD j undef] = some y := by
    intro i hi
    obtain ⟨cs', h1, h2⟩ := hx i (by omega)
    rw [hC] at h1
    obtain ⟨_, hlen, hcell⟩ := World.cells?_some h1
    obtain ⟨xs, k', hk, hxy, _, hxl, hf⟩ := DataW.trod_struct he h2
    have hk' : k' = k - 1 := by omega
    subst hk'
    refine ⟨cs', hlen, fun j hj => ?_, fun j f hj => ?_⟩
    · rw [hcell j hj, List.getElem?_eq_getElem (by omega)]
      simp [List.getD, List.getElem?_eq_getElem (show j < cs'.length by omega)]
    · have hlt : j < fs.size := (Array.getElem?_eq_some_iff.1 hj).1
      obtain ⟨ho, hc1⟩ := hone_of hone j f hj
      have g := hf j f hj
      rw [ho, hc1, take1_drop cs' j undef (by omega), List.getElem?_eq_getElem (by omega)] at g
      exact ⟨_, g⟩
  obtain ⟨q, hq⟩ := choose_lt each
  refine ⟨fun i j => (q i).getD j undef, fun hn => ?_, fun i hi j f hj => (hq i hi).2.2 j f hj⟩
  obtain ⟨b, off, spot⟩ := a
  have h0 := (hq 0 hn).2.1 0 hpos
  have hspot : spot = none := by simpa [Addr.add] using World.cell?_spot h0
  subst hspot
  refine ⟨b, off, rfl, ?_, fun i j hi hj => ?_⟩
  · have := World.block_lt_of_cell? w _ h0
    simpa [Addr.add] using this
  · have := (hq i hi).2.1 j hj
    simpa [add_plain, Nat.add_assoc] using this

/-- A slice of structs of integers, opened. -/
theorem open_int_structs {t e : TypeId} {fs : Array Field} {fuel : Nat} {A : Option Addr} {n c : Nat} {x : DataW H × List MemPlace} (ht : P.underlying t = some (.slice e)) (he : P.underlying e = some (.struct fs)) (hone : oneCellFields P fs = true) (hC : P.cellsOf e = fs.size) (hpos : 0 < fs.size)
    (hint : ∀ (j : Nat) (f : Field), fs[j]? = some f → P.underlying f.type = some (.int .i64))
    (h : DataW.trod enc P w 0 spare held fuel t [.slice A n c] = some x) :
    n ≤ c ∧ c ≤ maxLen ∧ ∃ z : Nat → Nat → Int, Row w w.heap.size fs.size A n (fun i j => .int .i64 (z i j)) := by
  obtain ⟨h1, h2, k, V, hr, hV⟩ := open_structs ht he hone hC hpos h
  have each : ∀ i j, i < n → j < fs.size → ∃ u : Int, V i j = .int .i64 u := by
    intro i j hi hj
    obtain ⟨y, hy⟩ := hV i hi j fs[j] (Array.getElem?_eq_getElem hj)
    obtain ⟨u, hu, _⟩ := DataW.trod_int (hint j fs[j] (Array.getElem?_eq_getElem hj)) hy
    exact ⟨u, by simpa using hu⟩
  refine ⟨h1, h2, fun i j => intOf (V i j), hr.congr fun i j hi hj => ?_⟩
  obtain ⟨u, hu⟩ := each i j hi hj
  show V i j = .int .i64 (intOf (V i j))
  rw [hu]
  rfl
end

end Go.Proofs.Ytkdpkaidbmjcaaa
