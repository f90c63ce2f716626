/- Searches in lists of spots: slices.Index, Contains, IndexFunc, ContainsFunc. -/
import Derived.Test.YtpjckolfjaffjaaPolyB
namespace Go.Proofs.Ytpjckolfjaffjaa
open Go.RowKit
set_option linter.unusedSimpArgs false
set_option linter.unusedVariables false

/-- The slice at A holds the n spots p, below block B. -/
def Spots (w : World) (B : Nat) (A : Option Addr) (n : Nat) (p : Nat → Spot) : Prop :=
  0 < n → ∃ b off, A = some ⟨b, off, none⟩ ∧ b < B ∧ ∀ i, i < n → w.cell? ⟨b, off + i * 2, none⟩ = some (.int .i64 (p i).x) ∧ w.cell? ⟨b, off + i * 2 + 1, none⟩ = some (.int .i64 (p i).y)

theorem Spots.keep {w w' : World} {B : Nat} {A : Option Addr} {n : Nat} {p : Nat → Spot} (h : Spots w B A n p) (hb : Below B w w') : Spots w' B A n p := by
  intro hn
  obtain ⟨b, off, hA, hB, hc⟩ := h hn
  exact ⟨b, off, hA, hB, fun i hi => ⟨(hb.cell (p := ⟨b, _, none⟩) hB).trans (hc i hi).1, (hb.cell (p := ⟨b, _, none⟩) hB).trans (hc i hi).2⟩⟩

theorem Spots.more {w : World} {B B' : Nat} {A : Option Addr} {n : Nat} {p : Nat → Spot} (h : Spots w B A n p) (hB : B ≤ B') : Spots w B' A n p := by
  intro hn
  obtain ⟨b, off, hA, hb, hc⟩ := h hn
  exact ⟨b, off, hA, by omega, hc⟩

theorem Spots.take {w : World} {B : Nat} {A : Option Addr} {n k : Nat} {p : Nat → Spot} (h : Spots w B A n p) (hk : k ≤ n) : Spots w B A k p := by
  intro hk0
  obtain ⟨b, off, hA, hb, hc⟩ := h (by omega)
  exact ⟨b, off, hA, hb, fun i hi => hc i (by omega)⟩

/-- .. in a world that has grown out of another one that has. -/
theorem Spots.later {w w1 : World} {A : Option Addr} {n : Nat} {p : Nat → Spot} (h : Spots w w.heap.size A n p) (hb : Below w.heap.size w w1) : Spots w1 w1.heap.size A n p :=
  (h.keep hb).more hb.size

theorem spot_guard (x y : Operand) (xs ys : Array Value) (w : World) : (eqGuard .eql 37 x y (.agg xs) (.agg ys)).run Try.prog w = .ok () w := run_eqGuard_agg w _ _ _ _ _ _ (by kernel_rfl)

theorem spot_eql (a b c d : Int) (w : World) : (binOp .eql 37 (.agg #[.int .i64 a, .int .i64 b]) (.agg #[.int .i64 c, .int .i64 d])).run Try.prog w = .ok (.bool (sameF ⟨a, b⟩ ⟨c, d⟩)) w := by
  have h1 : Try.prog.stoodInHeld 37 = false := by kernel_rfl
  have h2 : Try.prog.underlying 37 = some (.struct (Try.prog.fieldsOf 37)) := by kernel_rfl
  have h3 : (Try.prog.fieldsOf 37).toList = [⟨"X", 3, 0, false, "", "", 0⟩, ⟨"Y", 3, 1, false, "", "", 8⟩] := by kernel_rfl
  rw [run_eql_struct, run_equalIn_agg w _ _ _ _ h2 h1, h3]
  clear h1 h2 h3
  by_cases e1 : a = c <;> by_cases e2 : b = d <;> simp [go_sem, sameF, e1, e2]

set_option maxHeartbeats 800000 in
theorem index_any (A : Option Addr) (n c : Nat) (p : Nat → Spot) (x y : Int) (w : World) (hn : n ≤ 100) (hp : Spots w w.heap.size A n p) :
    Calls Try.prog 48 #[.slice A n c, .agg #[.int .i64 x, .int .i64 y]] w
      fun e w' => e = .returned (.int .i64 (firstF (fun i => sameF ⟨x, y⟩ (p i)) n 0)) ∧ Below w.heap.size w w' := by
  have hq1 := spot_eql
  have hq2 := spot_guard
  go_enter Try.func48, Try.ntmps48
  go_wp2_with fail
  generalize hW : w.alloc (.cells #[.int .i64 x, .int .i64 y] 37) = W
  have hs : W.heap.size = w.heap.size + 1 := by rw [← hW]; simp
  have hbw : Below w.heap.size w W := by rw [← hW]; exact below_a1 _ _
  have d0 : W.cell? ⟨w.heap.size, 0, none⟩ = some (.int .i64 x) := by rw [← hW]; exact cell_box _ _ _ _
  have d1 : W.cell? ⟨w.heap.size, 1, none⟩ = some (.int .i64 y) := by rw [← hW]; exact cell_box _ _ _ _
  clear hW
  go_loopw [8] (fun t wr => ∃ k : Nat, k ≤ n ∧ t = .int .i64 k ∧ Hid (∀ j, j < k → sameF ⟨x, y⟩ (p j) = false) ∧ Below (w.heap.size + 1) W wr) (fun t _ => n - (intOf t).toNat)
  case atStart => exact ⟨0, Nat.zero_le _, rfl, Lib.hid (fun j hj => absurd hj (by omega)), Below.refl _ _⟩
  case round =>
    obtain ⟨k, hk, rfl, hno, hwr⟩ := hrel
    have hs1 : w.heap.size + 1 ≤ wr.heap.size := by have := hwr.size; omega
    by_cases hlt : k < n
    · obtain ⟨b, off, rfl, hB, hcell⟩ := hp (by omega)
      obtain ⟨e0, e1⟩ := hcell k hlt
      have x0 := fun z : Ext (w.heap.size + 1) wr => z.cell (b := w.heap.size) (by omega) ((hwr.cell (p := ⟨_, _, none⟩) (by simp only []; omega)).trans d0)
      have x1 := fun z : Ext (w.heap.size + 1) wr => z.cell (b := w.heap.size) (by omega) ((hwr.cell (p := ⟨_, _, none⟩) (by simp only []; omega)).trans d1)
      have x2 := fun z : Ext (w.heap.size + 1) wr => z.cell (b := b) (by omega) ((hwr.cell (p := ⟨_, _, none⟩) (by simp only []; omega)).trans ((hbw.cell (p := ⟨_, _, none⟩) hB).trans e0))
      have x3 := fun z : Ext (w.heap.size + 1) wr => z.cell (b := b) (by omega) ((hwr.cell (p := ⟨_, _, none⟩) (by simp only []; omega)).trans ((hbw.cell (p := ⟨_, _, none⟩) hB).trans e1))
      clear d0 d1 hcell e0 e1 hp
      have hlt' : (k : Int) < n := by omega
      go_upto_region 4 with (fail)
      refine region_ext (w.heap.size + 1) (by kernel_rfl) (by kernel_rfl) ?_
      repeat (go_big_quiet_step (fail))
      refine wpQuiet_nil ?_
      rintro _ ⟨z, rfl⟩
      obtain ⟨wq, hq⟩ := z
      dsimp only
      clear x0 x1 x2 x3
      have hwq : Below (w.heap.size + 1) W wq := hwr.trans hq
      cases hv : sameF ⟨x, y⟩ ⟨(p k).x, (p k).y⟩
      · have hV := Lib.hid hv
        clear hv
        go_wp2_with fail
        go_roundw
        case rel => exact ⟨k + 1, by omega, by go_num, Lib.hid (fun j hj => by rcases Nat.lt_succ_iff_lt_or_eq.1 hj with h' | rfl; exact hno.out j h'; exact hV.out), hwq⟩
        case measure => simp [intOf]; omega
      · have hV := Lib.hid hv
        clear hv
        go_wp2_with fail
        go_ret
        exact ⟨ret_int (firstF_at _ n k hlt hno.out hV.out).symm, hbw.trans (hwq.mono (by omega))⟩
    · go_wp2_with fail
      go_ret
      exact ⟨ret_int (firstF_none _ n (fun j hj => hno.out j (by omega))).symm, hbw.trans (hwr.mono (by omega))⟩

theorem contains_any (A : Option Addr) (n c : Nat) (p : Nat → Spot) (x y : Int) (w : World) (hn : n ≤ 100) (hp : Spots w w.heap.size A n p) :
    Calls Try.prog 43 #[.slice A n c, .agg #[.int .i64 x, .int .i64 y]] w
      fun e w' => e = .returned (.bool (decide (0 ≤ firstF (fun i => sameF ⟨x, y⟩ (p i)) n 0))) ∧ Below w.heap.size w w' := by
  go_enter Try.func43, Try.ntmps43
  go_wp2_with fail
  have hp1 := (hp.keep (below_a1 w (.cells #[.int .i64 x, .int .i64 y] 37))).more (B' := (w.alloc (.cells #[.int .i64 x, .int .i64 y] 37)).heap.size) (by simp)
  refine (index_any A n c p x y _ hn hp1).mono ?_
  rintro e w1 ⟨rfl, hb1⟩
  go_wp2_with fail
  go_ret
  exact ⟨rfl, below_up (below_a1 _ _) hb1⟩

set_option maxHeartbeats 800000 in
theorem indexOut_any (A : Option Addr) (n c : Nat) (p : Nat → Spot) (w : World) (hn : n ≤ 100) (hp : Spots w w.heap.size A n p) :
    Calls Try.prog 42 #[.slice A n c, .func (.func 35) #[] #[]] w
      fun e w' => e = .returned (.int .i64 (firstF (fun i => outsideF (p i)) n 0)) ∧ Below w.heap.size w w' := by
  go_enter Try.func42, Try.ntmps42
  go_wp2_with fail
  go_loopw [8] (fun t wr => ∃ k : Nat, k ≤ n ∧ t = .int .i64 k ∧ Hid (∀ j, j < k → outsideF (p j) = false) ∧ Below w.heap.size w wr) (fun t _ => n - (intOf t).toNat)
  case atStart => exact ⟨0, Nat.zero_le _, rfl, Lib.hid (fun j hj => absurd hj (by omega)), Below.refl _ _⟩
  case round =>
    obtain ⟨k, hk, rfl, hno, hwr⟩ := hrel
    have hs1 : w.heap.size ≤ wr.heap.size := hwr.size
    by_cases hlt : k < n
    · obtain ⟨b, off, rfl, hB, hcell⟩ := hp (by omega)
      obtain ⟨e0, e1⟩ := hcell k hlt
      have x2 := fun z : Ext w.heap.size wr => z.cell (b := b) (by omega) ((hwr.cell (p := ⟨_, _, none⟩) (by simp only []; omega)).trans e0)
      have x3 := fun z : Ext w.heap.size wr => z.cell (b := b) (by omega) ((hwr.cell (p := ⟨_, _, none⟩) (by simp only []; omega)).trans e1)
      clear hcell e0 e1 hp
      have hlt' : (k : Int) < n := by omega
      go_upto_region 4 with (fail)
      refine plain_ext w.heap.size ?_
      repeat (go_big_quiet_step (first | (go_at_call 35; exact calls_ext (by omega) (outside_any _ _ _))))
      refine wpQuiet_nil ?_
      rintro _ ⟨z, rfl⟩
      obtain ⟨wq, hq⟩ := z
      dsimp only
      clear x2 x3
      have hwq : Below w.heap.size w wq := hwr.trans hq
      cases hv : outsideF ⟨(p k).x, (p k).y⟩
      · have hV := Lib.hid hv
        clear hv
        go_wp2_with fail
        go_roundw
        case rel => exact ⟨k + 1, by omega, by go_num, Lib.hid (fun j hj => by rcases Nat.lt_succ_iff_lt_or_eq.1 hj with h' | rfl; exact hno.out j h'; exact hV.out), hwq⟩
        case measure => simp [intOf]; omega
      · have hV := Lib.hid hv
        clear hv
        go_wp2_with fail
        go_ret
        exact ⟨ret_int (firstF_at _ n k hlt hno.out hV.out).symm, hwq⟩
    · go_wp2_with fail
      go_ret
      exact ⟨ret_int (firstF_none _ n (fun j hj => hno.out j (by omega))).symm, hwr⟩

theorem containsOut_any (A : Option Addr) (n c : Nat) (p : Nat → Spot) (w : World) (hn : n ≤ 100) (hp : Spots w w.heap.size A n p) :
    Calls Try.prog 34 #[.slice A n c, .func (.func 35) #[] #[]] w
      fun e w' => e = .returned (.bool (decide (0 ≤ firstF (fun i => outsideF (p i)) n 0))) ∧ Below w.heap.size w w' := by
  go_enter Try.func34, Try.ntmps34
  go_wp2_with fail
  refine (indexOut_any A n c p _ hn hp).mono ?_
  rintro e w1 ⟨rfl, hb1⟩
  go_wp2_with fail
  go_ret
  exact ⟨rfl, hb1⟩

end Go.Proofs.Ytpjckolfjaffjaa
