/- The stable sort of at most 6 indices. -/
import Derived.Test.YtkdpkaidbmjcaaaLayP
namespace Go.Proofs.Ytkdpkaidbmjcaaa
open Go.RowKit
set_option linter.unusedSimpArgs false
set_option linter.unusedVariables false

/-- n different numbers, just those of P. -/
structure Arr (P : Nat → Prop) (n : Nat) (g : Nat → Nat) : Prop where
  inj : ∀ a b, a < n → b < n → g a = g b → a = b
  mem : ∀ x, P x ↔ ∃ a, a < n ∧ g a = x

/-- Two neighbours change places. -/
def swapN (g : Nat → Nat) (j : Nat) : Nat → Nat := fun a => if a = j then g (j - 1) else if a = j - 1 then g j else g a

def turnN (j a : Nat) : Nat := if a = j then j - 1 else if a = j - 1 then j else a
theorem swap_turn (g : Nat → Nat) (j a : Nat) : swapN g j a = g (turnN j a) := by
  unfold swapN turnN
  split
  · rfl
  · split <;> rfl
theorem turn_lt {j n a : Nat} (hj : j < n) (ha : a < n) : turnN j a < n := by
  unfold turnN
  split
  · omega
  · split <;> omega
theorem turn_turn {j a : Nat} (hj : 0 < j) : turnN j (turnN j a) = a := by
  unfold turnN
  by_cases h1 : a = j
  · rw [if_pos h1, if_neg (by omega), if_pos rfl]; omega
  · rw [if_neg h1]
    by_cases h2 : a = j - 1
    · rw [if_pos h2, if_pos rfl]; omega
    · rw [if_neg h2, if_neg h1, if_neg h2]

theorem Arr.swap {P : Nat → Prop} {n j : Nat} {g : Nat → Nat} (h : Arr P n g) (h0 : 0 < j) (hj : j < n) : Arr P n (swapN g j) := by
  refine ⟨fun a b ha hb he => ?_, fun x => ?_⟩
  · rw [swap_turn, swap_turn] at he
    have := h.inj _ _ (turn_lt hj ha) (turn_lt hj hb) he
    have e := congrArg (turnN j) this
    rwa [turn_turn h0, turn_turn h0] at e
  · rw [h.mem x]
    constructor
    · rintro ⟨a, ha, rfl⟩
      exact ⟨turnN j a, turn_lt hj ha, by rw [swap_turn, turn_turn h0]⟩
    · rintro ⟨a, ha, rfl⟩
      exact ⟨turnN j a, turn_lt hj ha, by rw [swap_turn]⟩

/-- Sorted, but for number j, up to i. -/
def SortedBut (le : Nat → Nat → Prop) (g : Nat → Nat) (i j : Nat) : Prop := ∀ a b, a < b → b ≤ i → b ≠ j → le (g a) (g b)

theorem sorted_step {le : Nat → Nat → Prop} {g : Nat → Nat} {i j : Nat} (h : SortedBut le g i j) (h0 : 0 < j) (hji : j ≤ i) (hl : le (g j) (g (j - 1))) : SortedBut le (swapN g j) i (j - 1) := by
  intro a b hab hbi hb
  unfold swapN
  by_cases h1 : b = j
  · rw [if_pos h1]
    by_cases h2 : a = j - 1
    · rw [if_neg (by omega), if_pos h2]; exact hl
    · rw [if_neg (by omega), if_neg h2]; exact h a (j - 1) (by omega) (by omega) (by omega)
  · rw [if_neg h1, if_neg hb]
    by_cases h2 : a = j
    · rw [if_pos h2]; exact h (j - 1) b (by omega) hbi h1
    · rw [if_neg h2]
      by_cases h3 : a = j - 1
      · rw [if_pos h3]; exact h j b (by omega) hbi h1
      · rw [if_neg h3]; exact h a b hab hbi h1

theorem sorted_end {le : Nat → Nat → Prop} {g : Nat → Nat} {i j : Nat} (h : SortedBut le g i j) (hji : j ≤ i) (ht : ∀ a b c, a ≤ i → b ≤ i → c ≤ i → le (g a) (g b) → le (g b) (g c) → le (g a) (g c)) (hl : 0 < j → le (g (j - 1)) (g j)) : SortedBut le g (i + 1) (i + 1) := by
  intro a b hab hbi hb
  by_cases h1 : b = j
  · subst h1
    by_cases h2 : a = b - 1
    · rw [h2]; exact hl (by omega)
    · exact ht a (b - 1) b (by omega) (by omega) (by omega) (h a (b - 1) (by omega) (by omega) (by omega)) (hl (by omega))
  · exact h a b hab (by omega) h1

/-- By ascending length for one garment of size s. -/
def leM (mx : Nat → MixM) (s : Nat) (a b : Nat) : Prop := (mx a).len * (mx b).cnt s ≤ (mx b).len * (mx a).cnt s

theorem leM_trans {mx : Nat → MixM} {s a b c : Nat} (hb : 0 < (mx b).cnt s) (ha : 0 < (mx a).cnt s) (hc : 0 < (mx c).cnt s) (h1 : leM mx s a b) (h2 : leM mx s b c) : leM mx s a c := by
  unfold leM at *
  have g1 := Int.mul_le_mul_of_nonneg_right h1 (Int.le_of_lt hc)
  have g2 := Int.mul_le_mul_of_nonneg_right h2 (Int.le_of_lt ha)
  have e1 : (mx a).len * (mx b).cnt s * (mx c).cnt s = (mx b).cnt s * ((mx a).len * (mx c).cnt s) := by grind
  have e2 : (mx b).len * (mx a).cnt s * (mx c).cnt s = (mx b).len * (mx c).cnt s * (mx a).cnt s := by grind
  have e3 : (mx c).len * (mx b).cnt s * (mx a).cnt s = (mx b).cnt s * ((mx c).len * (mx a).cnt s) := by grind
  rw [e1, e2] at g1
  rw [e3] at g2
  exact Int.le_of_mul_le_mul_left (Int.le_trans g1 g2) hb

theorem cmp_lt {a b : Int} : cmpF a b < 0 ↔ a < b := by
  unfold cmpF
  split
  · rename_i h; exact ⟨fun _ => h, fun _ => by decide⟩
  · rename_i h
    split
    · exact ⟨fun h' => absurd h' (by decide), fun h' => absurd h' h⟩
    · exact ⟨fun h' => absurd h' (by decide), fun h' => absurd h' h⟩

/-- What the closure reads. -/
structure CmpEnv (w : World) (A : Option Addr) (m c gx gs s : Nat) (mx : Nat → MixM) (gb : Nat) : Prop where
  mixes : ∀ w', But (fun k => k = gb) w w' → Mixes w' w'.heap.size A m mx
  box : ∀ w', But (fun k => k = gb) w w' → w'.cell? ⟨gx, 0, none⟩ = some (.slice A m c) ∧ w'.cell? ⟨gs, 0, none⟩ = some (.int .i64 s) ∧ gx < w'.heap.size ∧ gs < w'.heap.size

set_option maxRecDepth 100000 in
set_option maxHeartbeats 3200000 in
theorem insertion_any (A : Option Addr) (m c gx gs s : Nat) (mx : Nat → MixM) (hgm : GoodM m mx) (hs : s < sizesF m mx) (w : World) (base gb n cap : Nat) (B : Option Addr) (hB : 0 < n → B = some ⟨gb, 0, none⟩) (hn : n ≤ 6) (g : Nat → Nat)
    (hA : Arr (fun x => x < m ∧ 0 < (mx x).cnt s) n g) (henv : CmpEnv w A m c gx gs s mx gb)
    (h : Owned w base 3 1 (.slice B n cap) n (fun j _ => .int .i64 (g j : Nat))) :
    Calls Try.prog 48 #[.slice B n cap, .int .i64 0, .int .i64 n, .func (.func 35) #[] #[.pointer (some ⟨gx, 0, none⟩), .pointer (some ⟨gs, 0, none⟩)]] w
      fun e w' => e = .returned (.tuple #[]) ∧ (∃ g', Arr (fun x => x < m ∧ 0 < (mx x).cnt s) n g' ∧ SortedBut (leM mx s) g' (n - 1) n ∧ Owned w' base 3 1 (.slice B n cap) n (fun j _ => .int .i64 (g' j : Nat))) ∧ But (fun k => k = gb) w w' := by
  have HG := Lib.hid hgm
  have HS := Lib.hid hs
  have HE := Lib.hid henv
  have HBB := Lib.hid hB
  clear hgm hs henv hB
  go_enter Try.func48, Try.ntmps48
  go_wp2_with fail
  go_loopw [8] (fun t wr => ∃ i : Nat, i ≤ n ∧ t = .int .i64 ((i : Int) + 1) ∧ (∃ g, Hid (Arr (fun x => x < m ∧ 0 < (mx x).cnt s) n g ∧ SortedBut (leM mx s) g i (i + 1)) ∧ Owned wr base 3 1 (.slice B n cap) n (fun j _ => .int .i64 (g j : Nat))) ∧ But (fun k => k = gb) w wr) (fun t _ => n - (intOf t).toNat)
  case atStart => exact ⟨0, Nat.zero_le _, rfl, ⟨g, Lib.hid ⟨hA, fun a b hab hb _ => absurd hab (by omega)⟩, h⟩, But.refl _ _⟩
  case round =>
    clear hA h g
    obtain ⟨i, hi, rfl, ⟨g, hA, kO⟩, hwr⟩ := hrel
    by_cases hlt : i + 1 < n
    · have hlt' : (i : Int) + 1 < n := by omega
      obtain rfl := HBB.out (by omega)
      have hI0 : (0 : Int) ≤ (i : Int) + 1 := by omega
      go_wp2_with fail
      go_loopw [9] (fun t wx => ∃ j : Nat, j ≤ i + 1 ∧ t = .int .i64 (j : Int) ∧ (∃ g, Hid (Arr (fun x => x < m ∧ 0 < (mx x).cnt s) n g ∧ SortedBut (leM mx s) g (i + 1) j) ∧ Owned wx base 3 1 (.slice (some ⟨gb, 0, none⟩) n cap) n (fun j _ => .int .i64 (g j : Nat))) ∧ But (fun k => k = gb) w wx) (fun t _ => (intOf t).toNat)
      case atStart => exact ⟨i + 1, Nat.le_refl _, by go_num, ⟨g, Lib.hid ⟨hA.out.1, fun a b hab hb hne => hA.out.2 a b hab (by omega) hne⟩, kO⟩, hwr⟩
      case round =>
        clear hA kO g hwr
        obtain ⟨wx, hwx'⟩ : ∃ wx, wx = wr := ⟨_, rfl⟩
        subst hwx'
        obtain ⟨j, hj, rfl, ⟨g, hA, kO⟩, hwx⟩ := hrel
        have HST := Lib.hid (fun (hl : 0 < j → leM mx s (g (j - 1)) (g j)) => show SortedBut (leM mx s) g (i + 1) (i + 2) from fun a b hab hb hne => by
          have hp : ∀ a, a ≤ i + 1 → 0 < (mx (g a)).cnt s := fun a ha => ((hA.out.1.mem (g a)).2 ⟨a, by omega, rfl⟩).2
          exact sorted_end hA.out.2 hj (fun a b c ha hb hc => leM_trans (hp b hb) (hp a ha) (hp c hc)) hl a b hab (by omega) hne)
        by_cases hj0 : j = 0
        · subst hj0
          go_upto_region 4 with (fail)
          refine region_ext wx.heap.size (by kernel_rfl) (by kernel_rfl) ?_
          repeat (go_big_quiet_step (fail))
          refine wpQuiet_nil ?_
          rintro _ ⟨z, rfl⟩
          obtain ⟨wq, hq⟩ := z
          dsimp only
          have kO2 := kO.later hq
          have hb2 := hwx.then hq
          clear hq
          go_wp2_with fail
          go_roundw
          case rel => exact ⟨i + 1, by omega, by go_num, ⟨g, Lib.hid ⟨hA.out.1, HST.out (fun h => absurd h (by omega))⟩, kO2⟩, hb2⟩
          case measure => simp [intOf]; omega
        · obtain ⟨hgb, hgl, hcell, hfz⟩ := kO.cells1
          have a0 := hcell j (by omega)
          have a1 := hcell (j - 1) (by omega)
          have z0 := hfz j
          have z1 := hfz (j - 1)
          clear hcell hfz
          have hx := (hA.out.1.mem (g j)).2 ⟨j, by omega, rfl⟩
          have hy := (hA.out.1.mem (g (j - 1))).2 ⟨j - 1, by omega, rfl⟩
          obtain ⟨k, rfl⟩ : ∃ k, j = k + 1 := ⟨j - 1, by omega⟩
          rw [Nat.add_sub_cancel] at a1 z1 hy HST
          have HSW := Lib.hid (fun (hl : leM mx s (g (k + 1)) (g k)) => And.intro (hA.out.1.swap (j := k + 1) (by omega) (by omega)) (sorted_step hA.out.2 (by omega) hj hl))
          have HXY := Lib.hid (And.intro hx hy)
          have HC := Lib.hid (fun z : Ext wx.heap.size wx => closure_any A m c gx gs s mx z.wx (g (k + 1)) (g k) hx.1 hy.1 HG.out HS.out (HE.out.mixes _ (hwx.then z.below)) (HE.out.box _ (hwx.then z.below)).1 (HE.out.box _ (hwx.then z.below)).2.1 (HE.out.box _ (hwx.then z.below)).2.2.1 (HE.out.box _ (hwx.then z.below)).2.2.2)
          clear hx hy
          have hk0 : (0 : Int) ≤ k := by omega
          have hkn : (k : Int) < n := by omega
          have hkn1 : (k : Int) + 1 < n := by omega
          have hne : k + 1 ≠ k := by omega
          have e1 : ((k + 1 : Nat) : Int) = (k : Int) + 1 := by omega
          rw [e1]
          clear e1
          have xa := fun z : Ext wx.heap.size wx => z.cell (b := gb) hgl a0
          have xb := fun z : Ext wx.heap.size wx => z.cell (b := gb) hgl a1
          clear a0 a1 hj0
          by_cases hl : cmpF ((mx (g (k + 1))).len * (mx (g k)).cnt s) ((mx (g k)).len * (mx (g (k + 1))).cnt s) < 0
          · have HL := Lib.hid (HSW.out (by have := cmp_lt.1 hl; unfold leM; omega))
            go_upto_region 4 with (fail)
            refine region_ext wx.heap.size (by kernel_rfl) (by kernel_rfl) ?_
            repeat (go_big_quiet_step (first | (go_at_call 35; exact calls_ext (Nat.le_refl _) (HC.out _))))
            refine wpQuiet_nil ?_
            rintro _ ⟨z, rfl⟩
            obtain ⟨wq, hq⟩ := z
            dsimp only
            have kO2 := kO.later hq
            have hb2 := hwx.then hq
            obtain ⟨_, _, hcell, hfz⟩ := kO2.cells1
            have a0 := hcell (k + 1) (by omega)
            have a1 := hcell k (by omega)
            have z0 := hfz (k + 1)
            have z1 := hfz k
            clear xa xb hq hcell hfz kO hwx HC
            go_wp2_with fail
            go_region
            have kO3 := (((kO2.put1 (k := k + 1) (.int .i64 (g k : Nat))).put1 (k := k) (.int .i64 (g (k + 1) : Nat))).drew).congr (g := fun j _ => .int .i64 (swapN g (k + 1) j : Nat)) (fun j l hj hl => by
              unfold upd swapN
              by_cases h1 : j = k
              · rw [if_pos ⟨h1, by omega⟩, if_neg (by omega), if_pos (by omega)]
              · rw [if_neg (fun h => h1 h.1)]
                by_cases h2 : j = k + 1
                · rw [if_pos ⟨h2, by omega⟩, if_pos h2, Nat.add_sub_cancel]
                · rw [if_neg (fun h => h2 h.1), if_neg h2, if_neg (by omega)])
            have hb3 := ((hb2.setCell (p := ⟨gb, k + 1, none⟩) rfl (.int .i64 (g k : Nat))).setCell (p := ⟨gb, k, none⟩) rfl (.int .i64 (g (k + 1) : Nat))).drew
            generalize hW : World.drew _ = W3 at kO3 hb3 ⊢
            clear hW a0 a1 z0 z1 kO2 hb2
            go_wp2_with fail
            go_roundw
            case rel => exact ⟨k, by omega, by go_num, ⟨swapN g (k + 1), Lib.hid HL.out, kO3⟩, hb3⟩
            case measure => simp [intOf]
          · have HL := Lib.hid (HST.out (fun _ => by have h3 : ¬ _ := fun h => hl (cmp_lt.2 h); unfold leM; omega))
            go_upto_region 4 with (fail)
            refine region_ext wx.heap.size (by kernel_rfl) (by kernel_rfl) ?_
            repeat (go_big_quiet_step (first | (go_at_call 35; exact calls_ext (Nat.le_refl _) (HC.out _))))
            refine wpQuiet_nil ?_
            rintro _ ⟨z, rfl⟩
            obtain ⟨wq, hq⟩ := z
            dsimp only
            have kO2 := kO.later hq
            have hb2 := hwx.then hq
            clear xa xb hq kO hwx HC z0 z1
            go_wp2_with fail
            go_roundw
            case rel => exact ⟨i + 1, by omega, by go_num, ⟨g, Lib.hid ⟨hA.out.1, HL.out⟩, kO2⟩, hb2⟩
            case measure => simp [intOf]; omega
    · have HD := Lib.hid (show SortedBut (leM mx s) g (n - 1) n from fun a b hab hb hne => hA.out.2 a b hab (by omega) (by omega))
      have hlt' : ¬ (i : Int) + 1 < n := by omega
      go_wp2_with fail
      go_end0
      exact ⟨rfl, ⟨g, hA.out.1, HD.out, kO⟩, hwr⟩


/-- What the sort leaves. -/
def SortPost (m s n base gb cap : Nat) (mx : Nat → MixM) (B : Option Addr) (w : World) (e : Ending) (w' : World) : Prop :=
  e = .returned (.tuple #[]) ∧ (∃ g', Arr (fun x => x < m ∧ 0 < (mx x).cnt s) n g' ∧ SortedBut (leM mx s) g' (n - 1) n ∧ Owned w' base 3 1 (.slice B n cap) n (fun j _ => .int .i64 (g' j : Nat))) ∧ But (fun k => k = gb) w w'

set_option maxRecDepth 100000 in
set_option maxHeartbeats 3200000 in
theorem stable_any (A : Option Addr) (m c gx gs s : Nat) (mx : Nat → MixM) (hgm : GoodM m mx) (hs : s < sizesF m mx) (w : World) (base gb n cap : Nat) (B : Option Addr) (hB : 0 < n → B = some ⟨gb, 0, none⟩) (hn : n ≤ 6) (g : Nat → Nat)
    (hA : Arr (fun x => x < m ∧ 0 < (mx x).cnt s) n g) (henv : CmpEnv w A m c gx gs s mx gb)
    (h : Owned w base 3 1 (.slice B n cap) n (fun j _ => .int .i64 (g j : Nat))) :
    Calls Try.prog 43 #[.slice B n cap, .int .i64 n, .func (.func 35) #[] #[.pointer (some ⟨gx, 0, none⟩), .pointer (some ⟨gs, 0, none⟩)]] w (SortPost m s n base gb cap mx B w) := by
  have HC := Lib.hid (insertion_any A m c gx gs s mx hgm hs w base gb n cap B hB hn g hA henv h)
  clear hgm hs hB hA henv h
  have hn0 : (n : Int) ≤ 6 := by omega
  have hn1 : ¬ (20 : Int) ≤ n := by omega
  have hn2 : ¬ (20 : Int) < n := by omega
  go_enter Try.func43, Try.ntmps43
  go_wp2_with fail
  refine wp_loop_rounds 1 ?_
  rw [rounds_succ]
  go_wp2_with fail
  refine HC.out.mono ?_
  rintro e w1 ⟨rfl, h1, h2⟩
  have H1 := Lib.hid h1
  clear h1
  go_wp2_with fail
  refine wp_loop_rounds 1 ?_
  rw [rounds_succ]
  go_wp2_with fail
  go_end0
  exact ⟨rfl, H1.out, h2⟩

theorem sortStable_any (A : Option Addr) (m c gx gs s : Nat) (mx : Nat → MixM) (hgm : GoodM m mx) (hs : s < sizesF m mx) (w : World) (base gb n cap : Nat) (B : Option Addr) (hB : 0 < n → B = some ⟨gb, 0, none⟩) (hn : n ≤ 6) (g : Nat → Nat)
    (hA : Arr (fun x => x < m ∧ 0 < (mx x).cnt s) n g) (henv : CmpEnv w A m c gx gs s mx gb)
    (h : Owned w base 3 1 (.slice B n cap) n (fun j _ => .int .i64 (g j : Nat))) :
    Calls Try.prog 34 #[.slice B n cap, .func (.func 35) #[] #[.pointer (some ⟨gx, 0, none⟩), .pointer (some ⟨gs, 0, none⟩)]] w (SortPost m s n base gb cap mx B w) := by
  have HC := Lib.hid (stable_any A m c gx gs s mx hgm hs w base gb n cap B hB hn g hA henv h)
  clear hgm hs hB hA henv h
  go_enter Try.func34, Try.ntmps34
  go_wp2_with fail
  refine HC.out.mono ?_
  rintro e w1 ⟨rfl, h1, h2⟩
  have H1 := Lib.hid h1
  clear h1
  go_wp2_with fail
  go_end0
  exact ⟨rfl, H1.out, h2⟩

end Go.Proofs.Ytkdpkaidbmjcaaa
