/- before, fits. -/
import Derived.Test.YtkdpkaidbmjcaaaLayX
namespace Go.Proofs.Ytkdpkaidbmjcaaa
open Go.RowKit
set_option linter.unusedSimpArgs false
set_option linter.unusedVariables false

def BeforeP (m : Nat) (f g : Nat → Int) : Prop := ∃ j, j < m ∧ (∀ a, a < j → f a = g a) ∧ f j < g j
instance (m : Nat) (f g : Nat → Int) : Decidable (BeforeP m f g) := by unfold BeforeP; exact inferInstance

theorem before_at {m k : Nat} {f g : Nat → Int} (hk : k < m) (he : ∀ a, a < k → f a = g a) (hne : f k ≠ g k) : BeforeP m f g ↔ f k < g k := by
  constructor
  · rintro ⟨j, hj, h1, h2⟩
    rcases Nat.lt_trichotomy j k with h | h | h
    · have := he j h; omega
    · subst h; exact h2
    · exact absurd (h1 k h) hne
  · exact fun h => ⟨k, hk, he, h⟩

set_option maxHeartbeats 1600000 in
theorem before_any (A A2 : Option Addr) (m c c2 : Nat) (f g : Nat → Int) (w : World) (hm : m ≤ 1000) (hp : Ints w A m f) (hq : Ints w A2 m g) :
    Calls Try.prog 22 #[.slice A m c, .slice A2 m c2] w fun e w' => e = .returned (.bool (decide (BeforeP m f g))) ∧ Below w.heap.size w w' := by
  have HP := Lib.hid hp
  have HQ := Lib.hid hq
  clear hp hq
  go_enter Try.func22, Try.ntmps22
  go_wp2_with fail
  go_loopw [5] (fun t wr => ∃ k : Nat, k ≤ m ∧ t = .int .i64 k ∧ Hid (∀ i, i < k → f i = g i) ∧ Below w.heap.size w wr) (fun t _ => m - (intOf t).toNat)
  case atStart => exact ⟨0, Nat.zero_le _, rfl, Lib.hid (fun j hj => absurd hj (by omega)), Below.refl _ _⟩
  case round =>
    obtain ⟨k, hk, rfl, hno, hwr⟩ := hrel
    by_cases hlt : k < m
    · obtain ⟨bx, ox, rfl, hBx⟩ := HP.out.addr (by omega)
      obtain ⟨bY, oy, rfl, hBy⟩ := HQ.out.addr (by omega)
      have e0 := HP.out.at1 hlt
      have x0 := fun z : Ext w.heap.size wr => z.cell (b := bx) hBx ((hwr.cell (p := ⟨_, _, none⟩) hBx).trans e0)
      clear e0
      have e0 := HQ.out.at1 hlt
      have y0 := fun z : Ext w.heap.size wr => z.cell (b := bY) hBy ((hwr.cell (p := ⟨_, _, none⟩) hBy).trans e0)
      clear e0
      have hlt' : (k : Int) < m := by omega
      have hk0 : (0 : Int) ≤ k := by omega
      go_upto_region 4 with (fail)
      refine region_ext w.heap.size (by kernel_rfl) (by kernel_rfl) ?_
      repeat (go_big_quiet_step (fail))
      refine wpQuiet_nil ?_
      rintro _ ⟨z, rfl⟩
      obtain ⟨wq, hq⟩ := z
      dsimp only
      have hwq : Below w.heap.size w wq := hwr.trans hq
      have x1 := fun z : Ext w.heap.size wq => x0 ⟨z.wx, hq.trans z.below⟩
      have y1 := fun z : Ext w.heap.size wq => y0 ⟨z.wx, hq.trans z.below⟩
      simp only [] at x1 y1
      clear x0 y0 hq hwr
      by_cases hv : f k = g k
      · have hv2 : ((f k : Int) != (g k)) = false := by rw [hv]; simp
        have HV := Lib.hid hv
        clear hv x1 y1
        go_wp2_with fail
        go_roundw
        case rel => exact ⟨k + 1, by omega, by go_num, Lib.hid (fun i hi => by rcases Nat.lt_succ_iff_lt_or_eq.1 hi with h' | rfl; exact hno.out i h'; exact HV.out), hwq⟩
        case measure => simp [intOf]; omega
      · have hv2 : ((f k : Int) != (g k)) = true := bne_iff_ne.2 hv
        have HR := Lib.hid (show decide (BeforeP m f g) = decide (f k < g k) from decide_eq_decide.2 (before_at hlt hno.out hv))
        clear hv
        go_upto_region 5 with (fail)
        refine region_ext w.heap.size (by kernel_rfl) (by kernel_rfl) ?_
        repeat (go_big_quiet_step (fail))
        refine wpQuiet_nil ?_
        rintro _ ⟨z, rfl⟩
        obtain ⟨wy, hy⟩ := z
        dsimp only
        have hwy : Below w.heap.size w wy := hwq.trans hy
        clear x1 y1 hy hwq
        go_wp2_with fail
        go_ret
        exact ⟨ret_bool HR.out.symm, hwy⟩
    · have hlt' : ¬ (k : Int) < m := by omega
      have HR := Lib.hid (show decide (BeforeP m f g) = false from decide_eq_false (fun ⟨j, hj, _, h2⟩ => by have := hno.out j (by omega); omega))
      go_wp2_with fail
      go_ret
      exact ⟨ret_bool HR.out.symm, hwr⟩

end Go.Proofs.Ytkdpkaidbmjcaaa
