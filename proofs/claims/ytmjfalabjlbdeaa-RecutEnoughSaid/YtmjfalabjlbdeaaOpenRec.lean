/- The chapter's slices, opened: needs, rests. -/
import Derived.Test.YtmjfalabjlbdeaaOpen
import Derived.Test.YtmjfalabjlbdeaaRecA
namespace Go.Proofs.Ytmjfalabjlbdeaa
open Go.ChangeShapes Go.WideShapes Go.ChangeAt Go.RowKit Go.Deep
set_option linter.unusedSimpArgs false
set_option linter.unusedVariables false

section
variable {H : Type} {enc : TypeId × Value → H} {w : World} {spare : Nat → Bool} {held : Bool}

theorem open_needs {fuel : Nat} {A : Option Addr} {n c : Nat} {x : DataW H × List MemPlace} (h : DataW.trod enc Try.prog w 0 spare held fuel 26 [.slice A n c] = some x) :
    ∃ need : Nat → Need, Row w w.heap.size 2 A n (fun i => (need i).c) := by
  obtain ⟨_, _, z, hz⟩ := open_int_structs Try.underlying26 Try.underlying47 (by kernel_rfl) (by kernel_rfl) (by decide) (by
    intro j f hj
    match j with
    | 0 => injection hj with hj; subst hj; exact Try.underlying3
    | 1 => injection hj with hj; subst hj; exact Try.underlying3
    | j + 2 => simp at hj) h
  refine ⟨fun i => ⟨z i 0, z i 1⟩, Row.congr hz fun i j hi hj => ?_⟩
  match j, hj with
  | 0, _ => rfl
  | 1, _ => rfl

theorem open_rests {fuel : Nat} {A : Option Addr} {n c : Nat} {x : DataW H × List MemPlace} (h : DataW.trod enc Try.prog w 0 spare held fuel 33 [.slice A n c] = some x) :
    ∃ rest : Nat → Rest, Row w w.heap.size 4 A n (fun i => (rest i).c) := by
  obtain ⟨_, _, z, hz⟩ := open_int_structs Try.underlying33 Try.underlying49 (by kernel_rfl) (by kernel_rfl) (by decide) (by
    intro j f hj
    match j with
    | 0 => injection hj with hj; subst hj; exact Try.underlying3
    | 1 => injection hj with hj; subst hj; exact Try.underlying3
    | 2 => injection hj with hj; subst hj; exact Try.underlying3
    | 3 => injection hj with hj; subst hj; exact Try.underlying3
    | j + 4 => simp at hj) h
  refine ⟨fun i => ⟨z i 0, z i 1, z i 2, z i 3⟩, Row.congr hz fun i j hi hj => ?_⟩
  match j, hj with
  | 0, _ => rfl
  | 1, _ => rfl
  | 2, _ => rfl
  | 3, _ => rfl
end

end Go.Proofs.Ytmjfalabjlbdeaa
