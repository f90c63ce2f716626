/- Polygons that came in: the capacity. -/
import Derived.Test.YtcalchlfipbpkaaOpenPol
namespace Go.Proofs.Ytcalchlfipbpkaa
open Go.ChangeShapes Go.WideShapes Go.ChangeAt Go.RowKit Go.Deep
set_option linter.unusedSimpArgs false
set_option linter.unusedVariables false

section
variable {H : Type} {enc : TypeId × Value → H} {w : World} {spare : Nat → Bool} {held : Bool}
theorem open_polys_cap {fuel : Nat} {A : Option Addr} {n c : Nat} {x : DataW H × List MemPlace} (h : DataW.trod enc Try.prog w 0 spare held fuel 22 [.slice A n c] = some x) : n ≤ c ∧ c ≤ maxLen := by
  obtain ⟨h1, h2, _⟩ := open_cells Try.underlying22 (by kernel_rfl) h
  exact ⟨h1, h2⟩
end

end Go.Proofs.Ytcalchlfipbpkaa
