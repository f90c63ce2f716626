/- A scope in which the run jumps to two labels, 0 and 1. No program in sight. -/
import Derived.ScopeJumps
import Derived.WalkMore
namespace Go.Proofs.Ytkdpkaidbmjcaaa
set_option linter.unusedVariables false

/-- As Q; by a goto to label 0 or 1: J0 or J1; to no other. -/
def jumps (J0 J1 : Act → World → Prop) (Q : Exit → Act → World → Prop) : Exit → Act → World → Prop
  | .goto l, a, w => (l = 0 ∧ J0 a w) ∨ (l = 1 ∧ J1 a w)
  | e, a, w => Q e a w

/-- What holds at every jump bears a number, which every pass from a label lowers. -/
theorem wp_scope_two {P : Program} {a : Act} {w : World} {Q : Exit → Act → World → Prop} {c r0 r1 : Code} (J0 J1 : Nat → Act → World → Prop)
    (hf0 : findLabel c 0 = some r0) (hf1 : findLabel c 1 = some r1)
    (first : c.wp P (jumps (fun a w => ∃ n, J0 n a w) (fun a w => ∃ n, J1 n a w) Q) a w)
    (pass0 : ∀ n a w, J0 n a w → r0.wp P (jumps (fun a w => ∃ n', n' < n ∧ J0 n' a w) (fun a w => ∃ n', n' < n ∧ J1 n' a w) Q) a w)
    (pass1 : ∀ n a w, J1 n a w → r1.wp P (jumps (fun a w => ∃ n', n' < n ∧ J0 n' a w) (fun a w => ∃ n', n' < n ∧ J1 n' a w) Q) a w) : (Code.scope c).wp P Q a w := by
  intro b k cs
  have g0 : gotoIn 0 (.inScope c :: k) = some (.code r0 :: .inScope c :: k) := by simp [gotoIn, hf0]
  have g1 : gotoIn 1 (.inScope c :: k) = some (.code r1 :: .inScope c :: k) := by simp [gotoIn, hf1]
  -- how a way ends that began inside the scope
  have close : ∀ (s : Machine) (N : Nat) (ih : ∀ n, n < N → (∀ a w, J0 n a w → ∃ e a' w', Q e a' w' ∧ Arrives P (lone (b.at a (.code r0 :: .inScope c :: k)) cs w) b k cs e a' w') ∧ (∀ a w, J1 n a w → ∃ e a' w', Q e a' w' ∧ Arrives P (lone (b.at a (.code r1 :: .inScope c :: k)) cs w) b k cs e a' w')),
      (∃ e a' w', jumps (fun a w => ∃ n', n' < N ∧ J0 n' a w) (fun a w => ∃ n', n' < N ∧ J1 n' a w) Q e a' w' ∧ Arrives P s b (.inScope c :: k) cs e a' w') → ∃ e a' w', Q e a' w' ∧ Arrives P s b k cs e a' w' := by
    rintro s N ih ⟨e, a₁, w₁, hq, harr⟩
    cases e with
    | normal => exact ⟨.normal, a₁, w₁, hq, Steps.trans harr (.one step_inScope)⟩
    | exit id => exact ⟨.exit id, a₁, w₁, hq, fun k' hk => harr k' (by simp [exitTo, hk])⟩
    | goto l =>
      rcases hq with ⟨rfl, n, hn, hJ⟩ | ⟨rfl, n, hn, hJ⟩
      · obtain ⟨e₂, a₂, w₂, hq₂, harr₂⟩ := (ih n hn).1 a₁ w₁ hJ
        exact ⟨e₂, a₂, w₂, hq₂, .of_steps (harr _ g0) harr₂⟩
      · obtain ⟨e₂, a₂, w₂, hq₂, harr₂⟩ := (ih n hn).2 a₁ w₁ hJ
        exact ⟨e₂, a₂, w₂, hq₂, .of_steps (harr _ g1) harr₂⟩
    | ret => exact ⟨_, a₁, w₁, hq, harr⟩
    | panic ch => exact ⟨_, a₁, w₁, hq, harr⟩
    | outgrown => exact ⟨_, a₁, w₁, hq, harr⟩
  have key : ∀ n, (∀ a w, J0 n a w → ∃ e a' w', Q e a' w' ∧ Arrives P (lone (b.at a (.code r0 :: .inScope c :: k)) cs w) b k cs e a' w') ∧ (∀ a w, J1 n a w → ∃ e a' w', Q e a' w' ∧ Arrives P (lone (b.at a (.code r1 :: .inScope c :: k)) cs w) b k cs e a' w') := by
    intro n
    induction n using Nat.strongRecOn with
    | _ n ih => exact ⟨fun a w hJ => close _ n ih (pass0 n a w hJ b (.inScope c :: k) cs), fun a w hJ => close _ n ih (pass1 n a w hJ b (.inScope c :: k) cs)⟩
  obtain ⟨e, a₁, w₁, hq, harr⟩ := first b (.inScope c :: k) cs
  have hq' : ∃ N, jumps (fun a w => ∃ n', n' < N ∧ J0 n' a w) (fun a w => ∃ n', n' < N ∧ J1 n' a w) Q e a₁ w₁ := by
    cases e with
    | goto l =>
      rcases hq with ⟨rfl, n, hJ⟩ | ⟨rfl, n, hJ⟩
      · exact ⟨n + 1, .inl ⟨rfl, n, by omega, hJ⟩⟩
      · exact ⟨n + 1, .inr ⟨rfl, n, by omega, hJ⟩⟩
    | normal => exact ⟨0, hq⟩
    | exit id => exact ⟨0, hq⟩
    | ret => exact ⟨0, hq⟩
    | panic ch => exact ⟨0, hq⟩
    | outgrown => exact ⟨0, hq⟩
  obtain ⟨N, hq'⟩ := hq'
  obtain ⟨e₂, a₂, w₂, hq₂, harr₂⟩ := close _ N (fun n _ => key n) ⟨e, a₁, w₁, hq', harr⟩
  exact ⟨e₂, a₂, w₂, hq₂, .of_steps (.one step_scope) harr₂⟩

end Go.Proofs.Ytkdpkaidbmjcaaa
