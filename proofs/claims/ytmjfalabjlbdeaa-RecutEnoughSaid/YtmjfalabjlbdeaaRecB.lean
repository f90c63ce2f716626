/- slices.Clone over rests, cut pieces and ints. -/
import Derived.Test.YtmjfalabjlbdeaaRecA
namespace Go.Proofs.Ytmjfalabjlbdeaa
open Go.RowKit
set_option linter.unusedSimpArgs false
set_option linter.unusedVariables false

theorem cloneRest_any_info : (Try.prog.info? 49).map (fun i => (i.zero, i.size, i.bytes)) = some (some (.agg #[.int .i64 0, .int .i64 0, .int .i64 0, .int .i64 0]), 4, 32) := by kernel_rfl

set_option maxHeartbeats 400000 in
theorem cloneRest_any (A : Option Addr) (n c : Nat) (f : Nat → Nat → Value) (w : World) (hn : n ≤ 1000) (hp : Row w w.heap.size 4 A n f) (h1 : Plain 4 n f) :
    Calls Try.prog 28 #[.slice A n c] w fun e w' => ∃ v, e = .returned v ∧ Owned w' w.heap.size 49 4 v n f ∧ Below w.heap.size w w' := by
  obtain ⟨i0, hi, hz0, hz1, hz2⟩ := info_parts cloneRest_any_info
  rcases A with _ | ad
  · obtain rfl : n = 0 := by
      rcases Nat.eq_zero_or_pos n with h | h
      · exact h
      · obtain ⟨_, _, h', _⟩ := hp h; cases h'
    have hq := fun w => eql_nil (P := Try.prog) Try.underlying33 none 0 c w
    go_enter Try.func28, Try.ntmps28
    go_wp2_with fail
    go_ret
    exact ⟨_, rfl, Owned.nil _ _ _ _ _, Below.refl _ _⟩
  · have hq := fun w => eql_nil (P := Try.prog) Try.underlying33 (some ad) n c w
    have HP := Lib.hid (hp.later (below_a1 w (.cells #[] 49)))
    have H1 := Lib.hid h1
    clear hp h1
    go_enter Try.func28, Try.ntmps28
    go_wp2_with (at_builtin; refine wpList_append_row _ rfl _ _ _ rfl w.heap.size 49 i0 _ 4 32 Try.underlying33 hi hz0 hz1 hz2 rfl (by omega) _ 0 f rfl (Owned.lit w #[] 0 49 4 f (by simp only [maxLen]; omega) (by simp [cellsOf])) _ _ n c f rfl HP.out H1.out (by simp only [maxLen]; omega) (by omega) (by simp) ?_; intro v' w1 hown hgr hbk)
    go_ret
    refine ⟨v', rfl, ?_, (below_a1 w _).grown hgr (by simp) (fun k hk => by have : w.heap.size = k := Option.some.inj hk; omega)⟩
    rw [Nat.zero_add] at hown
    exact hown.congr (fun i j _ _ => by simp [glue])

theorem cloneCut_any_info : (Try.prog.info? 43).map (fun i => (i.zero, i.size, i.bytes)) = some (some (.agg #[.int .i64 0, .int .i64 0, .int .i64 0, .int .i64 0, .slice none 0 0, .bool false]), 6, 64) := by kernel_rfl

set_option maxHeartbeats 400000 in
theorem cloneCut_any (A : Option Addr) (n c : Nat) (f : Nat → Nat → Value) (w : World) (hn : n ≤ 1000) (hp : Row w w.heap.size 6 A n f) (h1 : Plain 6 n f) :
    Calls Try.prog 33 #[.slice A n c] w fun e w' => ∃ v, e = .returned v ∧ Owned w' w.heap.size 43 6 v n f ∧ Below w.heap.size w w' := by
  obtain ⟨i0, hi, hz0, hz1, hz2⟩ := info_parts cloneCut_any_info
  rcases A with _ | ad
  · obtain rfl : n = 0 := by
      rcases Nat.eq_zero_or_pos n with h | h
      · exact h
      · obtain ⟨_, _, h', _⟩ := hp h; cases h'
    have hq := fun w => eql_nil (P := Try.prog) Try.underlying22 none 0 c w
    go_enter Try.func33, Try.ntmps33
    go_wp2_with fail
    go_ret
    exact ⟨_, rfl, Owned.nil _ _ _ _ _, Below.refl _ _⟩
  · have hq := fun w => eql_nil (P := Try.prog) Try.underlying22 (some ad) n c w
    have HP := Lib.hid (hp.later (below_a1 w (.cells #[] 43)))
    have H1 := Lib.hid h1
    clear hp h1
    go_enter Try.func33, Try.ntmps33
    go_wp2_with (at_builtin; refine wpList_append_row _ rfl _ _ _ rfl w.heap.size 43 i0 _ 6 64 Try.underlying22 hi hz0 hz1 hz2 rfl (by omega) _ 0 f rfl (Owned.lit w #[] 0 43 6 f (by simp only [maxLen]; omega) (by simp [cellsOf])) _ _ n c f rfl HP.out H1.out (by simp only [maxLen]; omega) (by omega) (by simp) ?_; intro v' w1 hown hgr hbk)
    go_ret
    refine ⟨v', rfl, ?_, (below_a1 w _).grown hgr (by simp) (fun k hk => by have : w.heap.size = k := Option.some.inj hk; omega)⟩
    rw [Nat.zero_add] at hown
    exact hown.congr (fun i j _ _ => by simp [glue])

theorem cloneInt_any_info : (Try.prog.info? 3).map (fun i => (i.zero, i.size, i.bytes)) = some (some (.int .i64 0), 1, 8) := by kernel_rfl

set_option maxHeartbeats 400000 in
theorem cloneInt_any (A : Option Addr) (n c : Nat) (f : Nat → Nat → Value) (w : World) (hn : n ≤ 1000) (hp : Row w w.heap.size 1 A n f) (h1 : Plain 1 n f) :
    Calls Try.prog 34 #[.slice A n c] w fun e w' => ∃ v, e = .returned v ∧ Owned w' w.heap.size 3 1 v n f ∧ Below w.heap.size w w' := by
  obtain ⟨i0, hi, hz0, hz1, hz2⟩ := info_parts cloneInt_any_info
  rcases A with _ | ad
  · obtain rfl : n = 0 := by
      rcases Nat.eq_zero_or_pos n with h | h
      · exact h
      · obtain ⟨_, _, h', _⟩ := hp h; cases h'
    have hq := fun w => eql_nil (P := Try.prog) Try.underlying27 none 0 c w
    go_enter Try.func34, Try.ntmps34
    go_wp2_with fail
    go_ret
    exact ⟨_, rfl, Owned.nil _ _ _ _ _, Below.refl _ _⟩
  · have hq := fun w => eql_nil (P := Try.prog) Try.underlying27 (some ad) n c w
    have HP := Lib.hid (hp.later (below_a1 w (.cells #[] 3)))
    have H1 := Lib.hid h1
    clear hp h1
    go_enter Try.func34, Try.ntmps34
    go_wp2_with (at_builtin; refine wpList_append_row _ rfl _ _ _ rfl w.heap.size 3 i0 _ 1 8 Try.underlying27 hi hz0 hz1 hz2 rfl (by omega) _ 0 f rfl (Owned.lit w #[] 0 3 1 f (by simp only [maxLen]; omega) (by simp [cellsOf])) _ _ n c f rfl HP.out H1.out (by simp only [maxLen]; omega) (by omega) (by simp) ?_; intro v' w1 hown hgr hbk)
    go_ret
    refine ⟨v', rfl, ?_, (below_a1 w _).grown hgr (by simp) (fun k hk => by have : w.heap.size = k := Option.some.inj hk; omega)⟩
    rw [Nat.zero_add] at hown
    exact hown.congr (fun i j _ _ => by simp [glue])

end Go.Proofs.Ytmjfalabjlbdeaa
