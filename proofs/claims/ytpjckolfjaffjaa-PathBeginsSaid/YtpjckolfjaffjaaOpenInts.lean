/- Lists of numbers that came in, opened. -/
import Derived.Test.YtpjckolfjaffjaaOpenPol
namespace Go.Proofs.Ytpjckolfjaffjaa
open Go.ChangeShapes Go.WideShapes Go.ChangeAt Go.RowKit Go.Deep
set_option linter.unusedSimpArgs false
set_option linter.unusedVariables false

theorem u8_nat {n : Int} (h : (Lit.int .u8 n).wf = true) : ∃ m : Nat, n = (m : Int) ∧ m ≤ 255 := by
  have h' : IntKind.u8.min ≤ n ∧ n ≤ IntKind.u8.max := by simpa [Lit.wf] using h
  have e1 : IntKind.u8.min = 0 := by decide
  have e2 : IntKind.u8.max = 255 := by decide
  exact ⟨n.toNat, by omega, by omega⟩

section
variable {H : Type} {enc : TypeId × Value → H} {w : World} {spare : Nat → Bool} {held : Bool}
theorem open_ints {fuel : Nat} {A : Option Addr} {n c : Nat} {x : DataW H × List MemPlace} (h : DataW.trod enc Try.prog w 0 spare held fuel 23 [.slice A n c] = some x) :
    ∃ z : Nat → Int, Row w w.heap.size 1 A n (fun i _ => .int .i64 (z i)) := by
  obtain ⟨_, _, z, hz⟩ := open_int_cells Try.underlying23 Try.underlying3 (by kernel_rfl) h
  exact ⟨z, hz⟩
end

end Go.Proofs.Ytpjckolfjaffjaa
