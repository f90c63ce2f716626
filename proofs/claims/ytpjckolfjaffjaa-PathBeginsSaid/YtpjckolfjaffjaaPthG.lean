/- slices.Clone, slices.Reverse over ints. -/
import Derived.Test.YtpjckolfjaffjaaPthF
namespace Go.Proofs.Ytpjckolfjaffjaa
open Go.RowKit
set_option linter.unusedSimpArgs false
set_option linter.unusedVariables false

set_option maxHeartbeats 400000 in
theorem cloneInt_any (A : Option Addr) (n c : Nat) (f : Nat → Nat → Value) (w : World) (hn : n ≤ 1000) (hp : Row w w.heap.size 1 A n f) (h1 : Plain 1 n f) :
    Calls Try.prog 31 #[.slice A n c] w fun e w' => ∃ v, e = .returned v ∧ Owned w' w.heap.size 3 1 v n f ∧ Below w.heap.size w w' := by
  obtain ⟨i0, hi, hz0, hz1, hz2⟩ := info_parts int_info
  rcases A with _ | ad
  · obtain rfl : n = 0 := by
      rcases Nat.eq_zero_or_pos n with h | h
      · exact h
      · obtain ⟨_, _, h', _⟩ := hp h; cases h'
    have hq := fun w => eql_nil (P := Try.prog) Try.underlying23 none 0 c w
    go_enter Try.func31, Try.ntmps31
    go_wp2_with fail
    go_ret
    exact ⟨_, rfl, Owned.nil _ _ _ _ _, Below.refl _ _⟩
  · have hq := fun w => eql_nil (P := Try.prog) Try.underlying23 (some ad) n c w
    have HP := Lib.hid (hp.later (below_a1 w (.cells #[] 3)))
    have H1 := Lib.hid h1
    clear hp h1
    go_enter Try.func31, Try.ntmps31
    go_wp2_with (at_builtin; refine wpList_append_row _ rfl _ _ _ rfl w.heap.size 3 i0 _ 1 8 Try.underlying23 hi hz0 hz1 hz2 rfl (by omega) _ 0 f rfl (Owned.lit w #[] 0 3 1 f (by simp only [maxLen]; omega) (by simp [cellsOf])) _ _ n c f rfl HP.out H1.out (by simp only [maxLen]; omega) (by omega) (by simp) ?_; intro v' w1 hown hgr hbk)
    go_ret
    refine ⟨v', rfl, ?_, (below_a1 w _).grown hgr (by simp) (fun k hk => by have : w.heap.size = k := Option.some.inj hk; omega)⟩
    rw [Nat.zero_add] at hown
    exact hown.congr (fun i j _ _ => by simp [glue])

/-- After t exchanges. -/
def swapF (f : Nat → Int) (i d t : Nat) : Nat → Int := fun j => if i ≤ j ∧ j < i + d ∧ (j < i + t ∨ i + d ≤ j + t) then f (i + (i + d - 1 - j)) else f j

theorem swap_zero (f : Nat → Int) (i d j : Nat) : swapF f i d 0 j = f j := by
  unfold swapF
  rw [if_neg (by omega)]

theorem swap_end {f : Nat → Int} {i d t u : Nat} (h : t + u + 1 = d) (hu : u ≤ t) (j : Nat) : swapF f i d t j = turnF f i (i + d - 1) j := by
  unfold swapF turnF
  by_cases h1 : i ≤ j ∧ j ≤ i + d - 1
  · rw [if_pos h1]
    by_cases h2 : j < i + t ∨ i + d ≤ j + t
    · rw [if_pos ⟨h1.1, by omega, h2⟩, show i + (i + d - 1 - j) = i + (i + d - 1) - j by omega]
    · rw [if_neg (fun h => h2 h.2.2), show i + (i + d - 1) - j = j by omega]
  · rw [if_neg (by omega), if_neg h1]

theorem swap_step {f : Nat → Int} {i d t u : Nat} (h : t + u + 1 = d) (hu : t < u) (j : Nat) :
    swapF f i d (t + 1) j = if j = i + u then swapF f i d t (i + t) else if j = i + t then swapF f i d t (i + u) else swapF f i d t j := by
  have e1 : swapF f i d t (i + t) = f (i + t) := by unfold swapF; rw [if_neg (by omega)]
  have e2 : swapF f i d t (i + u) = f (i + u) := by unfold swapF; rw [if_neg (by omega)]
  rw [e1, e2]
  by_cases h1 : j = i + u
  · rw [if_pos h1]
    unfold swapF
    rw [if_pos (by omega), show i + (i + d - 1 - j) = i + t by omega]
  · rw [if_neg h1]
    by_cases h2 : j = i + t
    · rw [if_pos h2]
      unfold swapF
      rw [if_pos (by omega), show i + (i + d - 1 - j) = i + u by omega]
    · rw [if_neg h2]
      unfold swapF
      by_cases h3 : i ≤ j ∧ j < i + d ∧ (j < i + t ∨ i + d ≤ j + t)
      · rw [if_pos h3, if_pos (by omega)]
      · rw [if_neg h3, if_neg (by omega)]

set_option maxHeartbeats 1600000 in
theorem reverse_any (base g n c i d : Nat) (f : Nat → Int) (w : World) (hn : n ≤ 1000) (hd : 1 ≤ d) (hid : i + d ≤ n) (h : Owned w base 3 1 (.slice (some ⟨g, 0, none⟩) n c) n (fun j _ => .int .i64 (f j))) :
    Calls Try.prog 41 #[.slice (some ⟨g, i, none⟩) d d] w fun e w' => e = .returned (.tuple #[]) ∧ Owned w' base 3 1 (.slice (some ⟨g, 0, none⟩) n c) n (fun j _ => .int .i64 (turnF f i (i + d - 1) j)) ∧ Below base w w' := by
  have hO := h.congr (g := fun j _ => .int .i64 (swapF f i d 0 j)) (fun j _ _ _ => by rw [swap_zero])
  have hd' : (1 : Int) ≤ d := by omega
  clear h
  go_enter Try.func41, Try.ntmps41
  go_wp2_with fail
  go_loopw [2, 3] (fun a b wr => ∃ t u : Nat, t + u + 1 = d ∧ a = .int .i64 t ∧ b = .int .i64 u ∧ Owned wr base 3 1 (.slice (some ⟨g, 0, none⟩) n c) n (fun j _ => .int .i64 (swapF f i d t j)) ∧ Below base w wr) (fun a _ _ => d - (intOf a).toNat)
  case atStart => exact ⟨0, d - 1, by omega, rfl, by go_num, hO, Below.refl _ _⟩
  case round =>
    obtain ⟨t, u, htu, rfl, rfl, kO, hwr⟩ := hrel
    clear hO
    obtain ⟨hgb, hgl, hcell, hfz⟩ := kO.cells1
    by_cases hlt : t < u
    · have hlt' : (t : Int) < u := by omega
      have a0 := hcell (i + t) (by omega)
      have a1 := hcell (i + u) (by omega)
      have z0 := hfz (i + t)
      have z1 := hfz (i + u)
      have hne : i + t ≠ i + u := by omega
      have ht0 : (0 : Int) ≤ t := by omega
      have hu0 : (0 : Int) ≤ u := by omega
      have htd : (t : Int) < d := by omega
      have hud : (u : Int) < d := by omega
      have HS := Lib.hid (fun j => swap_step (f := f) (i := i) htu hlt j)
      generalize swapF f i d t (i + t) = X at *
      generalize swapF f i d t (i + u) = Y at *
      clear hcell hfz
      go_wp2_with fail
      go_region
      have kO2 := (((kO.put1 (k := i + t) (.int .i64 Y)).put1 (k := i + u) (.int .i64 X)).drew).congr (g := fun j _ => .int .i64 (swapF f i d (t + 1) j)) (fun j l hj hl => by
        rw [HS.out]
        unfold upd
        by_cases h1 : j = i + u
        · rw [if_pos ⟨h1, by omega⟩, if_pos h1]
        · rw [if_neg (fun h => h1 h.1), if_neg h1]
          by_cases h2 : j = i + t
          · rw [if_pos ⟨h2, by omega⟩, if_pos h2]
          · rw [if_neg (fun h => h2 h.1), if_neg h2])
      have hw2 := ((hwr.setCell (p := ⟨g, i + t, none⟩) hgb (.int .i64 Y)).setCell (p := ⟨g, i + u, none⟩) hgb (.int .i64 X)).drew
      generalize hW : World.drew _ = W2 at kO2 hw2 ⊢
      clear hW a0 a1 z0 z1 kO hwr
      have hu1 : (1 : Int) ≤ u := by omega
      go_wp2_with fail
      go_roundw
      case rel => exact ⟨t + 1, u - 1, by omega, by go_num, by go_num, kO2, hw2⟩
      case measure => simp [intOf]; omega
    · have hlt' : ¬ (t : Int) < u := by omega
      have kO2 := kO.congr (g := fun j _ => .int .i64 (turnF f i (i + d - 1) j)) (fun j l hj hl => by rw [swap_end htu (by omega)])
      clear hcell hfz
      go_wp2_with fail
      go_end0
      exact ⟨rfl, kO2, hwr⟩

end Go.Proofs.Ytpjckolfjaffjaa
