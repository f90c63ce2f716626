/- The chapter's needs, opened with their capacity; small integers. -/
import Derived.Test.YtmjfalabjlbdeaaOpenRec
namespace Go.Proofs.Ytmjfalabjlbdeaa
open Go.ChangeShapes Go.WideShapes Go.ChangeAt Go.RowKit Go.Deep
set_option linter.unusedSimpArgs false
set_option linter.unusedVariables false

theorem u8_nat {n : Int} (h : (Lit.int .u8 n).wf = true) : ∃ m : Nat, n = (m : Int) ∧ m ≤ 255 := by
  have h' : IntKind.u8.min ≤ n ∧ n ≤ IntKind.u8.max := by simpa [Lit.wf] using h
  have e1 : IntKind.u8.min = 0 := by decide
  have e2 : IntKind.u8.max = 255 := by decide
  exact ⟨n.toNat, by omega, by omega⟩

section
variable {H : Type} {enc : TypeId × Value → H} {w : World} {spare : Nat → Bool} {held : Bool}

theorem open_needs_cap {fuel : Nat} {A : Option Addr} {n c : Nat} {x : DataW H × List MemPlace} (h : DataW.trod enc Try.prog w 0 spare held fuel 26 [.slice A n c] = some x) : n ≤ c ∧ c ≤ maxLen := by
  obtain ⟨h1, h2, _⟩ := open_structs Try.underlying26 Try.underlying47 (by kernel_rfl) (by kernel_rfl) (by decide) h
  exact ⟨h1, h2⟩
end

end Go.Proofs.Ytmjfalabjlbdeaa
