/- run. -/
import Derived.Test.YtkdpkaidbmjcaaaLayN
namespace Go.Proofs.Ytkdpkaidbmjcaaa
open Go.RowKit
set_option linter.unusedSimpArgs false
set_option linter.unusedVariables false

/-- What run leaves. -/
def RunPost (E : FEnv) (w : World) (w' : World) : Prop :=
  ∃ b gh p bv ls fd, Opt E.m E.Feas E.cost (fun _ => True) b ∧ Fin E w' p bv ls fd ∧ BestAt E gh w' b bv ls fd ∧ But E.X w w' ∧ w.heap.size ≤ gh

theorem jumps_normal {J0 J1 : Act → World → Prop} {Q : Exit → Act → World → Prop} {a : Act} {w : World} (h : Q .normal a w) : jumps J0 J1 Q .normal a w := h

set_option maxRecDepth 1000000 in
set_option maxHeartbeats 6400000 in
theorem run_any (E : FEnv) (ok : E.Ok) (w : World) (bv : Value) (ls : Int) (h : Fin E w (fun _ => 0) bv ls false) (hb : E.base ≤ w.heap.size) :
    Calls Try.prog 27 #[.pointer (some ⟨E.F, 0, none⟩)] w fun e w' => e = .returned (.tuple #[]) ∧ RunPost E w w' := by
  have HO := Lib.hid ok
  have hm6 := ok.good.m6
  obtain ⟨-, f1, -, -, -, -, -, -, -, -, -, -, -⟩ := h.fields
  have hmk := run_make_row' (P := Try.prog) 22 3 (.int .i64 0) 8 Try.underlying22 int_info rfl .i64 .i64 E.m (by omega) (by omega)
  have HH := Lib.hid h
  clear ok h
  go_enter Try.func27, Try.ntmps27
  go_wp2_with fail
  refine wp_scope_two (fun n a w1 => ∃ (V k : Nat) (x : Int), n = 2 * (41 ^ 6 - V) ∧ x = (k : Int) - 1 ∧ AscW E w w.heap.size V k w1 ∧ FrameAt E w.heap.size x a) (fun n a w1 => ∃ (V k : Nat) (x : Int), n = 2 * (41 ^ 6 - V) + 1 ∧ x = (k : Int) ∧ DescW E w w.heap.size V k w1 ∧ FrameAt E w.heap.size x a) rfl rfl ?_ ?_ ?_
  · go_wp2_with fail
    have hD : DescW E w w.heap.size 0 0 (w.alloc (.cells (madeCells #[.int .i64 0] E.m) 3)) :=
      ⟨fun _ => 0, fun _ => 0, none, bv, ls, false, Desc.start HO.out _, HH.out.alloc HO.out _, rfl, (Owned.made w (.int .i64 0) E.m 3 (by simp only [maxLen]; omega)).mono hb, (But.refl _ w).alloc _, HH.out.fix.size, Nat.le_refl _⟩
    go_step3
    go_step
    go_step
    refine desc_wp E HO.out w w.heap.size 0 0 _ _ 0 rfl hD ⟨_, _, rfl, ?_⟩ _ ?_ ?_ ?_
    · rfl
    · intro i x a w1 hx hA hf
      exact .inl ⟨rfl, _, 0, i, x, rfl, hx, hA, hf⟩
    · intro i x a w1 hx hA hf
      exact .inr ⟨rfl, _, 0 + 1, i, x, rfl, hx, hA, hf⟩
    · rintro a w1 hd ⟨p, hg, b, bv, ls, fd, hA, hM⟩
      refine jumps_normal ?_
      refine bodyPost_end (results_none rfl _ _ _) hd ?_
      refine ⟨rfl, b, w.heap.size, p, bv, ls, fd, hA.all, hM.fin, hM.best, hM.but, Nat.le_refl _⟩
  · rintro n a w1 ⟨V, k, x, rfl, hx, hA, hf⟩
    refine wp_seq (wp_skip ?_)
    refine asc_wp E HO.out w w.heap.size V k _ _ x hx hA hf _ ?_ ?_
    · intro i x a w1 hx hA hf
      have hV : V + 1 < 41 ^ 6 := by
        obtain ⟨_, _, _, _, _, _, hD, _⟩ := hA
        exact hD.lt6 HO.out
      exact .inr ⟨rfl, _, by omega, V + 1, i, x, rfl, hx, hA, hf⟩
    · rintro a w1 hd ⟨p, hg, b, bv, ls, fd, hA, hM⟩
      refine jumps_normal ?_
      refine bodyPost_end (results_none rfl _ _ _) hd ?_
      refine ⟨rfl, b, w.heap.size, p, bv, ls, fd, hA.all, hM.fin, hM.best, hM.but, Nat.le_refl _⟩
  · rintro n a w1 ⟨V, k, x, rfl, hx, hA, hf⟩
    refine wp_seq (wp_skip ?_)
    refine desc_wp E HO.out w w.heap.size V k _ _ x hx hA hf _ ?_ ?_ ?_
    · intro i x a w1 hx hA hf
      exact .inl ⟨rfl, _, by omega, V, i, x, rfl, hx, hA, hf⟩
    · intro i x a w1 hx hA hf
      have hV : V + 1 < 41 ^ 6 := by
        obtain ⟨_, _, _, _, _, _, hD, _⟩ := hA
        exact hD.lt6 HO.out
      exact .inr ⟨rfl, _, by omega, V + 1, i, x, rfl, hx, hA, hf⟩
    · rintro a w1 hd ⟨p, hg, b, bv, ls, fd, hA, hM⟩
      refine jumps_normal ?_
      refine bodyPost_end (results_none rfl _ _ _) hd ?_
      refine ⟨rfl, b, w.heap.size, p, bv, ls, fd, hA.all, hM.fin, hM.best, hM.but, Nat.le_refl _⟩

end Go.Proofs.Ytkdpkaidbmjcaaa
