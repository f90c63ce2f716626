/- LayplanSolves: for every input, garmentlaw36.LayplanSolves returns true and leaves its arguments as they were. No condition. -/
import Derived.Test.YtkdpkaidbmjcaaaLayEE
import Derived.Test.YtkdpkaidbmjcaaaOpenMix
namespace Go.Proofs.Ytkdpkaidbmjcaaa.layplanSolvesDone
open Go.ChangeShapes Go.WideShapes Go.ChangeAt Go.RowKit Go.Deep
set_option linter.unusedVariables false

set_option maxRecDepth 100000 in
theorem lifted (os : Os) (started : os.Started) (H : Type) (enc : TypeId × Value → H) :
    ReturnsInHanded {} Try.checked os 6 .any (Rows.layplanSolvesSpec.pre6 enc Try.prog Try.f6 Rows.layplanSolvesRow.domain false) (Rows.layplanSolvesSpec.post enc Try.prog Try.f6 false true false false) := by
  refine returnsInHanded_of_change (C := Try.checked) ownKnob0 started (by kernel_rfl) Try.func6
    (ChangeSpec.witness6 (enc := enc) (C := Try.checked) false ⟨#[], #[.agg #[.slice none 0 0, .int .i64 0, .int .i64 0], .slice none 0 0], []⟩ 8 (by kernel_rfl) (by kernel_rfl) (by kernel_rfl) (by kernel_rfl)) ?_
  intro W base args ds gs before hval0 hW hcnd _
  have hval : ∀ (j : Nat) t v, Try.f6.params[j]? = some t → args[j]? = some v → Value.okWide Try.prog W .any base t v := hval0
  have hW' := hW
  obtain ⟨p, q, hA0, hV, rfl, hfz, hnd⟩ := hW
  have hA : DataW.TrodAll enc Try.prog W 0 (fun _ => true) true Try.f6.params.toList args.toList ds p := hA0
  rw [Try.params6] at hA hval
  obtain ⟨v0, vs0, d0, ds0, p0, q0, hargs, rfl, rfl, h0, r0⟩ := trodAll_cons hA
  obtain ⟨v1, vs1, d1, ds1, p1, q1, rfl, rfl, rfl, h1, r1⟩ := trodAll_cons r0
  obtain ⟨rfl, rfl, rfl⟩ := trodAll_nil r1
  obtain rfl : args = #[v0, v1] := by cases args; simp_all
  obtain ⟨rfl, rfl⟩ := trodVars_none hV
  have k0 := h0
  have lt0 : ∀ x ∈ p0, x.block < W.heap.size := by obtain ⟨m, hm⟩ := k0; exact DataW.trod_lt m _ _ _ hm
  obtain ⟨u0a, u0b, u0c, y0a, y0b, y0c, fm0, rfl, rfl, rfl, hy0a, hy0b, hy0c⟩ := Joins.open_agg3 Try.underlying36 (by kernel_rfl) (by kernel_rfl) (hval 0 36 v0 rfl rfl) h0
  obtain ⟨a0, len0, cap0, rfl⟩ := slice_form Try.underlying22 hy0a
  obtain ⟨x0, w0⟩ := open_ints hy0a
  obtain ⟨ov0, eo0, -⟩ := DataW.trod_int Try.underlying3 hy0b
  obtain ⟨mo0, em0, -⟩ := DataW.trod_int Try.underlying3 hy0c
  obtain rfl : u0b = .int .i64 ov0 := by simpa using eo0
  obtain rfl : u0c = .int .i64 mo0 := by simpa using em0
  obtain ⟨a1, len1, cap1, rfl⟩ := okWide_slice Try.underlying23 (hval 1 23 v1 rfl rfl)
  have k1 := h1
  have lt1 : ∀ x ∈ p1, x.block < W.heap.size := by obtain ⟨m, hm⟩ := k1; exact DataW.trod_lt m _ _ _ hm
  obtain ⟨x1, w1⟩ : ∃ mx : Nat → MixM, Mixes W W.heap.size a1 len1 mx := by
    obtain ⟨fuel, hf⟩ := h1
    exact open_mixes hf
  clear hA0 hval0
  refine (solves_any a0 a1 len0 cap0 len1 cap1 x0 ov0 mo0 x1 W w0 w1).mono fun e W' ⟨he, bel⟩ => ?_
  subst he
  exact ⟨_, rfl, _, _, _, [], _, [], hW', trodAll_mk1 (shut_bool Try.underlying4 _), (trodAll_cons_mk (Below.trod laidOut0 (by kernel_rfl) (of_decide_eq_true (by kernel_rfl)) k0 bel lt0) (trodAll_cons_mk (Below.trod laidOut0 (by kernel_rfl) (of_decide_eq_true (by kernel_rfl)) k1 bel lt1) trodAll_mk0)), rfl, bel.frame _, fun h => by cases h⟩

theorem over : Rows.layplanSolvesRow.holds Try.pinned (OpenSpec.ofChange Rows.layplanSolvesSpec) :=
  OpenClaim.holds_of_wide 6 Try.f6 rfl rfl rfl rfl rfl rfl rfl ⟨rfl, rfl, rfl, rfl, rfl⟩ rfl rfl rfl rfl rfl (by kernel_rfl) Try.func6 (by kernel_rfl)
    (of_decide_eq_true (by kernel_rfl)) (by unfold Func.isWrapper; first | (rw [if_pos (by decide +kernel)]; kernel_rfl) | (rw [if_neg (by decide +kernel)]; exact ⟨rfl, rfl⟩))
    (fun os started H enc _ => lifted os started H enc)
end Go.Proofs.Ytkdpkaidbmjcaaa.layplanSolvesDone
namespace Go.Proofs.Ytkdpkaidbmjcaaa
theorem layplanSolvesProved : Rows.LayplanSolvesSaid := layplanSolvesDone.over
#print axioms layplanSolvesProved
end Go.Proofs.Ytkdpkaidbmjcaaa
