/- Lists of numbers and of mixes that came in, opened. -/
import Derived.Test.YtkdpkaidbmjcaaaOpen
import Derived.Test.YtkdpkaidbmjcaaaLayB
import Derived.Lib.SmallJoins
namespace Go.Proofs.Ytkdpkaidbmjcaaa
open Go.ChangeShapes Go.WideShapes Go.ChangeAt Go.RowKit Go.Deep
set_option linter.unusedSimpArgs false
set_option linter.unusedVariables false

section
variable {H : Type} {enc : TypeId × Value → H} {P : Program} {w : World} {spare : Nat → Bool} {held : Bool}

theorem slice_form {t e : TypeId} {fuel : Nat} {v : Value} {x : DataW H × List MemPlace} (ht : P.underlying t = some (.slice e)) (h : DataW.trod enc P w 0 spare held fuel t [v] = some x) : ∃ A n c, v = .slice A n c := by
  rcases open_slice ht h with ⟨h0, _⟩ | ⟨a, len, cap, m, k, D, Pl, hcs, _⟩
  · exact ⟨_, _, _, by simpa using h0⟩
  · exact ⟨_, _, _, by simpa using hcs⟩

/-- A slice whose elements are one cell each, opened. -/
theorem open_cells {t e : TypeId} {fuel : Nat} {A : Option Addr} {n c : Nat} {x : DataW H × List MemPlace} (ht : P.underlying t = some (.slice e)) (hC : P.cellsOf e = 1)
    (h : DataW.trod enc P w 0 spare held fuel t [.slice A n c] = some x) :
    n ≤ c ∧ c ≤ maxLen ∧ ∃ (k : Nat) (V : Nat → Value), Row w w.heap.size 1 A n (fun i _ => V i) ∧ ∀ i, i < n → ∃ y, DataW.trod enc P w 0 spare held k e [V i] = some y := by
  rcases open_slice ht h with ⟨h0, _⟩ | ⟨a, len, cap, m, k, D, Pl, hcs, _, hl, hm, hmm, _, hx⟩
  · simp at h0
    obtain ⟨rfl, rfl, rfl⟩ := h0
    exact ⟨Nat.le_refl _, by simp [maxLen], 0, fun _ => undef, fun h => absurd h (by omega), fun i hi => absurd hi (by omega)⟩
  simp at hcs
  obtain ⟨rfl, rfl, rfl⟩ := hcs
  have hlm : n ≤ m := by rw [hmm]; split <;> omega
  refine ⟨hl, hm, k, ?_⟩
  have each : ∀ i, i < n → ∃ v : Value, w.cell? (a.add i) = some v ∧ ∃ y, DataW.trod enc P w 0 spare held k e [v] = some y := by
    intro i hi
    obtain ⟨cs', h1, h2⟩ := hx i (by omega)
    rw [hC, Nat.mul_one] at h1
    obtain ⟨_, hlen, hcell⟩ := World.cells?_some h1
    match cs', hlen with
    | [v], _ =>
      have e0 := hcell 0 (by omega)
      rw [add_add, Nat.add_zero] at e0
      exact ⟨v, by simpa using e0, _, h2⟩
  obtain ⟨q, hq⟩ := choose_lt each
  refine ⟨q, fun hn => ?_, fun i hi => (hq i hi).2⟩
  obtain ⟨b, off, spot⟩ := a
  have h0 := (hq 0 hn).1
  have hspot : spot = none := by simpa [Addr.add] using World.cell?_spot h0
  subst hspot
  refine ⟨b, off, rfl, ?_, fun i j hi hj => ?_⟩
  · have := World.block_lt_of_cell? w _ h0
    simpa [Addr.add] using this
  · have := (hq i hi).1
    obtain rfl : j = 0 := by omega
    simpa [add_plain] using this

theorem open_int_cells {t e : TypeId} {fuel : Nat} {A : Option Addr} {n c : Nat} {x : DataW H × List MemPlace} (ht : P.underlying t = some (.slice e)) (he : P.underlying e = some (.int .i64)) (hC : P.cellsOf e = 1)
    (h : DataW.trod enc P w 0 spare held fuel t [.slice A n c] = some x) :
    n ≤ c ∧ c ≤ maxLen ∧ ∃ z : Nat → Int, Row w w.heap.size 1 A n (fun i _ => .int .i64 (z i)) := by
  obtain ⟨h1, h2, k, V, hr, hV⟩ := open_cells ht hC h
  refine ⟨h1, h2, fun i => intOf (V i), hr.congr fun i j hi hj => ?_⟩
  obtain ⟨y, hy⟩ := hV i hi
  obtain ⟨u, hu, _⟩ := DataW.trod_int he hy
  have hu' : V i = .int .i64 u := by simpa using hu
  show V i = .int .i64 (intOf (V i))
  rw [hu']
  rfl
end

section
variable {H : Type} {enc : TypeId × Value → H} {w : World} {spare : Nat → Bool} {held : Bool}
theorem open_ints {fuel : Nat} {A : Option Addr} {n c : Nat} {x : DataW H × List MemPlace} (h : DataW.trod enc Try.prog w 0 spare held fuel 22 [.slice A n c] = some x) :
    ∃ z : Nat → Int, Row w w.heap.size 1 A n (fun i _ => .int .i64 (z i)) := by
  obtain ⟨_, _, z, hz⟩ := open_int_cells Try.underlying22 Try.underlying3 (by kernel_rfl) h
  exact ⟨z, hz⟩

theorem open_mixes {fuel : Nat} {A : Option Addr} {n c : Nat} {x : DataW H × List MemPlace} (h : DataW.trod enc Try.prog w 0 spare held fuel 23 [.slice A n c] = some x) :
    ∃ mx : Nat → MixM, Mixes w w.heap.size A n mx := by
  obtain ⟨_, _, k, V, hr, hV⟩ := open_structs Try.underlying23 Try.underlying39 (by kernel_rfl) (by kernel_rfl) (by decide) h
  have each : ∀ i, i < n → ∃ q : MixM, (∀ j, j < 2 → V i j = q.c j) ∧ Row w w.heap.size 1 q.ca q.cn (fun j _ => .int .i64 (q.cnt j)) := by
    intro i hi
    obtain ⟨y0, h0⟩ := hV i hi 0 _ rfl
    obtain ⟨y1, h1⟩ := hV i hi 1 _ rfl
    obtain ⟨B, l, d, e0⟩ := slice_form Try.underlying22 h0
    obtain ⟨u1, e1, _⟩ := DataW.trod_int Try.underlying3 h1
    rw [e0] at h0
    obtain ⟨z, hz⟩ := open_ints h0
    refine ⟨⟨B, l, d, z, u1⟩, fun j hj => ?_, hz⟩
    match j, hj with
    | 0, _ => simpa [MixM.c] using e0
    | 1, _ => simpa [MixM.c] using e1
  have : Inhabited MixM := ⟨⟨none, 0, 0, fun _ => 0, 0⟩⟩
  obtain ⟨q, hq⟩ := choose_lt each
  exact ⟨q, hr.congr (fun i j hi hj => (hq i hi).1 j hj), fun i hi => (hq i hi).2⟩
end

end Go.Proofs.Ytkdpkaidbmjcaaa
