/- The reference's SameInts, SameNeeds, SameRests. -/
import Derived.Test.YtmjfalabjlbdeaaRecC
namespace Go.Proofs.Ytmjfalabjlbdeaa
open Go.RowKit
set_option linter.unusedSimpArgs false
set_option linter.unusedVariables false

theorem Row.at1 {w : World} {B n b off : Nat} {f : Nat → Nat → Value} (h : Row w B 1 (some ⟨b, off, none⟩) n f) {i : Nat} (hi : i < n) : w.cell? ⟨b, off + i, none⟩ = some (f i 0) := by
  obtain ⟨b', off', hA, _, hc⟩ := h (by omega)
  injection hA with hA
  injection hA with h1 h2
  subst h1; subst h2
  have := hc i 0 hi (by omega)
  rwa [Nat.mul_one, Nat.add_zero] at this

def sameNeedF (s t : Need) : Bool := decide (s.lot = t.lot ∧ s.len = t.len)

theorem sameNeed_guard (x y : Operand) (xs ys : Array Value) (w : World) : (eqGuard .neq 47 x y (.agg xs) (.agg ys)).run Try.prog w = .ok () w := run_eqGuard_agg w _ _ _ _ _ _ (by kernel_rfl)

theorem sameNeed_neq (a0 a1 b0 b1 : Int) (w : World) : (binOp .neq 47 (.agg #[.int .i64 a0, .int .i64 a1]) (.agg #[.int .i64 b0, .int .i64 b1])).run Try.prog w = .ok (.bool (!sameNeedF ⟨a0, a1⟩ ⟨b0, b1⟩)) w := by
  have h1 : Try.prog.stoodInHeld 47 = false := by kernel_rfl
  have h2 : Try.prog.underlying 47 = some (.struct (Try.prog.fieldsOf 47)) := by kernel_rfl
  have h3 : (Try.prog.fieldsOf 47).toList = [⟨"Lot", 3, 0, false, "", "", 0⟩, ⟨"Length", 3, 1, false, "", "", 8⟩] := by kernel_rfl
  rw [run_neq_struct, run_equalIn_agg w _ _ _ _ h2 h1, h3]
  clear h1 h2 h3
  by_cases e0 : a0 = b0 <;> by_cases e1 : a1 = b1 <;> simp [go_sem, sameNeedF, e0, e1]

def sameRestF (s t : Rest) : Bool := decide (s.roll = t.roll ∧ s.lot = t.lot ∧ s.frm = t.frm ∧ s.til = t.til)

theorem sameRest_guard (x y : Operand) (xs ys : Array Value) (w : World) : (eqGuard .neq 49 x y (.agg xs) (.agg ys)).run Try.prog w = .ok () w := run_eqGuard_agg w _ _ _ _ _ _ (by kernel_rfl)

theorem sameRest_neq (a0 a1 a2 a3 b0 b1 b2 b3 : Int) (w : World) : (binOp .neq 49 (.agg #[.int .i64 a0, .int .i64 a1, .int .i64 a2, .int .i64 a3]) (.agg #[.int .i64 b0, .int .i64 b1, .int .i64 b2, .int .i64 b3])).run Try.prog w = .ok (.bool (!sameRestF ⟨a0, a1, a2, a3⟩ ⟨b0, b1, b2, b3⟩)) w := by
  have h1 : Try.prog.stoodInHeld 49 = false := by kernel_rfl
  have h2 : Try.prog.underlying 49 = some (.struct (Try.prog.fieldsOf 49)) := by kernel_rfl
  have h3 : (Try.prog.fieldsOf 49).toList = [⟨"Roll", 3, 0, false, "", "", 0⟩, ⟨"Lot", 3, 1, false, "", "", 8⟩, ⟨"From", 3, 2, false, "", "", 16⟩, ⟨"To", 3, 3, false, "", "", 24⟩] := by kernel_rfl
  rw [run_neq_struct, run_equalIn_agg w _ _ _ _ h2 h1, h3]
  clear h1 h2 h3
  by_cases e0 : a0 = b0 <;> by_cases e1 : a1 = b1 <;> by_cases e2 : a2 = b2 <;> by_cases e3 : a3 = b3 <;> simp [go_sem, sameRestF, e0, e1, e2, e3]

set_option maxHeartbeats 800000 in
theorem sameInts_any (A A2 : Option Addr) (n m c c2 : Nat) (f g : Nat → Int) (w : World) (hn : n ≤ 1000) (hm : m ≤ 1000) (hp : Row w w.heap.size 1 A n (fun i _ => .int .i64 (f i))) (hq : Row w w.heap.size 1 A2 m (fun i _ => .int .i64 (g i))) :
    Calls Try.prog 16 #[.slice A n c, .slice A2 m c2] w
      fun e w' => e = .returned (.bool (sameListF n m (fun i => decide (f i = g i)))) ∧ Below w.heap.size w w' := by
  have HP := Lib.hid hp
  have HQ := Lib.hid hq
  clear hp hq
  by_cases hnm : n = m
  rotate_left
  · have hb : ((n : Int) != (m : Int)) = true := bne_iff_ne.2 (by omega)
    have HR := Lib.hid (sameList_len (q := fun i => decide (f i = g i)) hnm)
    go_enter Try.func16, Try.ntmps16
    go_wp2_with fail
    go_ret
    exact ⟨ret_bool HR.out.symm, Below.refl _ _⟩
  subst hnm
  have hb : ((n : Int) != (n : Int)) = false := by simp
  go_enter Try.func16, Try.ntmps16
  go_wp2_with fail
  go_loopw [5] (fun t wr => ∃ k : Nat, k ≤ n ∧ t = .int .i64 k ∧ Hid (∀ i, i < k → decide (f i = g i) = true) ∧ Below w.heap.size w wr) (fun t _ => n - (intOf t).toNat)
  case atStart => exact ⟨0, Nat.zero_le _, rfl, Lib.hid (fun j hj => absurd hj (by omega)), Below.refl _ _⟩
  case round =>
    obtain ⟨k, hk, rfl, hno, hwr⟩ := hrel
    have hs1 : w.heap.size ≤ wr.heap.size := hwr.size
    by_cases hlt : k < n
    · obtain ⟨bx, ox, rfl, hBx⟩ := HP.out.addr (by omega)
      obtain ⟨bY, oy, rfl, hBy⟩ := HQ.out.addr (by omega)
      have e0 := HP.out.at1 hlt
      have x0 := fun z : Ext w.heap.size wr => z.cell (b := bx) (by omega) ((hwr.cell (p := ⟨_, _, none⟩) (by simp only []; omega)).trans e0)
      clear e0
      have e0 := HQ.out.at1 hlt
      have y0 := fun z : Ext w.heap.size wr => z.cell (b := bY) (by omega) ((hwr.cell (p := ⟨_, _, none⟩) (by simp only []; omega)).trans e0)
      clear e0
      have hlt' : (k : Int) < n := by omega
      have hk0 : (0 : Int) ≤ k := by omega
      go_upto_region 6 with (fail)
      refine region_ext w.heap.size (by kernel_rfl) (by kernel_rfl) ?_
      repeat (go_big_quiet_step (fail))
      refine wpQuiet_nil ?_
      rintro _ ⟨z, rfl⟩
      obtain ⟨wq, hq⟩ := z
      dsimp only
      clear x0 y0
      have hwq : Below w.heap.size w wq := hwr.trans hq
      cases hv : decide (f k = g k)
      · have hV := Lib.hid hv
        have HR := Lib.hid (sameList_at (q := fun i => decide (f i = g i)) hlt hv)
        try simp only [decide_eq_false_iff_not] at hv
        try (have hv2 : (((f k) : Int) != (g k)) = true := bne_iff_ne.2 hv)
        go_wp2_with fail
        go_ret
        exact ⟨ret_bool HR.out.symm, hwq⟩
      · have hV := Lib.hid hv
        try simp only [decide_eq_true_eq] at hv
        try (have hv2 : (((f k) : Int) != (g k)) = false := by rw [hv]; simp)
        try clear hv
        go_wp2_with fail
        go_roundw
        case rel => exact ⟨k + 1, by omega, by go_num, Lib.hid (fun i hi => by rcases Nat.lt_succ_iff_lt_or_eq.1 hi with h' | rfl; exact hno.out i h'; exact hV.out), hwq⟩
        case measure => simp [intOf]; omega
    · have HR := Lib.hid (sameList_true (n := n) (q := fun i => decide (f i = g i)) (fun i hi => hno.out i (by omega)))
      go_wp2_with fail
      go_ret
      exact ⟨ret_bool HR.out.symm, hwr⟩

set_option maxHeartbeats 800000 in
theorem sameNeeds_any (A A2 : Option Addr) (n m c c2 : Nat) (f g : Nat → Need) (w : World) (hn : n ≤ 1000) (hm : m ≤ 1000) (hp : Row w w.heap.size 2 A n (fun i => (f i).c)) (hq : Row w w.heap.size 2 A2 m (fun i => (g i).c)) :
    Calls Try.prog 15 #[.slice A n c, .slice A2 m c2] w
      fun e w' => e = .returned (.bool (sameListF n m (fun i => sameNeedF (f i) (g i)))) ∧ Below w.heap.size w w' := by
  have HP := Lib.hid hp
  have HQ := Lib.hid hq
  clear hp hq
  have hq1 := sameNeed_neq
  have hq2 := sameNeed_guard
  by_cases hnm : n = m
  rotate_left
  · have hb : ((n : Int) != (m : Int)) = true := bne_iff_ne.2 (by omega)
    have HR := Lib.hid (sameList_len (q := fun i => sameNeedF (f i) (g i)) hnm)
    go_enter Try.func15, Try.ntmps15
    go_wp2_with fail
    go_ret
    exact ⟨ret_bool HR.out.symm, Below.refl _ _⟩
  subst hnm
  have hb : ((n : Int) != (n : Int)) = false := by simp
  go_enter Try.func15, Try.ntmps15
  go_wp2_with fail
  go_loopw [5] (fun t wr => ∃ k : Nat, k ≤ n ∧ t = .int .i64 k ∧ Hid (∀ i, i < k → sameNeedF (f i) (g i) = true) ∧ Below w.heap.size w wr) (fun t _ => n - (intOf t).toNat)
  case atStart => exact ⟨0, Nat.zero_le _, rfl, Lib.hid (fun j hj => absurd hj (by omega)), Below.refl _ _⟩
  case round =>
    obtain ⟨k, hk, rfl, hno, hwr⟩ := hrel
    have hs1 : w.heap.size ≤ wr.heap.size := hwr.size
    by_cases hlt : k < n
    · obtain ⟨bx, ox, rfl, hBx⟩ := HP.out.addr (by omega)
      obtain ⟨bY, oy, rfl, hBy⟩ := HQ.out.addr (by omega)
      obtain ⟨e0, e1⟩ := HP.out.at2 hlt
      simp only [Need.c] at e0 e1
      have x0 := fun z : Ext w.heap.size wr => z.cell (b := bx) (by omega) ((hwr.cell (p := ⟨_, _, none⟩) (by simp only []; omega)).trans e0)
      have x1 := fun z : Ext w.heap.size wr => z.cell (b := bx) (by omega) ((hwr.cell (p := ⟨_, _, none⟩) (by simp only []; omega)).trans e1)
      clear e0 e1
      obtain ⟨e0, e1⟩ := HQ.out.at2 hlt
      simp only [Need.c] at e0 e1
      have y0 := fun z : Ext w.heap.size wr => z.cell (b := bY) (by omega) ((hwr.cell (p := ⟨_, _, none⟩) (by simp only []; omega)).trans e0)
      have y1 := fun z : Ext w.heap.size wr => z.cell (b := bY) (by omega) ((hwr.cell (p := ⟨_, _, none⟩) (by simp only []; omega)).trans e1)
      clear e0 e1
      have hlt' : (k : Int) < n := by omega
      have hk0 : (0 : Int) ≤ k := by omega
      go_upto_region 6 with (fail)
      refine region_ext w.heap.size (by kernel_rfl) (by kernel_rfl) ?_
      repeat (go_big_quiet_step (fail))
      refine wpQuiet_nil ?_
      rintro _ ⟨z, rfl⟩
      obtain ⟨wq, hq⟩ := z
      dsimp only
      clear x0 y0 x1 y1
      have hwq : Below w.heap.size w wq := hwr.trans hq
      cases hv : sameNeedF ⟨(f k).lot, (f k).len⟩ ⟨(g k).lot, (g k).len⟩
      · have hV := Lib.hid hv
        have HR := Lib.hid (sameList_at (q := fun i => sameNeedF (f i) (g i)) hlt hv)
        try simp only [decide_eq_false_iff_not] at hv
        try (have hv2 : (((f k) : Int) != (g k)) = true := bne_iff_ne.2 hv)
        go_wp2_with fail
        go_ret
        exact ⟨ret_bool HR.out.symm, hwq⟩
      · have hV := Lib.hid hv
        try simp only [decide_eq_true_eq] at hv
        try (have hv2 : (((f k) : Int) != (g k)) = false := by rw [hv]; simp)
        try clear hv
        go_wp2_with fail
        go_roundw
        case rel => exact ⟨k + 1, by omega, by go_num, Lib.hid (fun i hi => by rcases Nat.lt_succ_iff_lt_or_eq.1 hi with h' | rfl; exact hno.out i h'; exact hV.out), hwq⟩
        case measure => simp [intOf]; omega
    · have HR := Lib.hid (sameList_true (n := n) (q := fun i => sameNeedF (f i) (g i)) (fun i hi => hno.out i (by omega)))
      go_wp2_with fail
      go_ret
      exact ⟨ret_bool HR.out.symm, hwr⟩

set_option maxHeartbeats 800000 in
theorem sameRests_any (A A2 : Option Addr) (n m c c2 : Nat) (f g : Nat → Rest) (w : World) (hn : n ≤ 1000) (hm : m ≤ 1000) (hp : Row w w.heap.size 4 A n (fun i => (f i).c)) (hq : Row w w.heap.size 4 A2 m (fun i => (g i).c)) :
    Calls Try.prog 19 #[.slice A n c, .slice A2 m c2] w
      fun e w' => e = .returned (.bool (sameListF n m (fun i => sameRestF (f i) (g i)))) ∧ Below w.heap.size w w' := by
  have HP := Lib.hid hp
  have HQ := Lib.hid hq
  clear hp hq
  have hq1 := sameRest_neq
  have hq2 := sameRest_guard
  by_cases hnm : n = m
  rotate_left
  · have hb : ((n : Int) != (m : Int)) = true := bne_iff_ne.2 (by omega)
    have HR := Lib.hid (sameList_len (q := fun i => sameRestF (f i) (g i)) hnm)
    go_enter Try.func19, Try.ntmps19
    go_wp2_with fail
    go_ret
    exact ⟨ret_bool HR.out.symm, Below.refl _ _⟩
  subst hnm
  have hb : ((n : Int) != (n : Int)) = false := by simp
  go_enter Try.func19, Try.ntmps19
  go_wp2_with fail
  go_loopw [5] (fun t wr => ∃ k : Nat, k ≤ n ∧ t = .int .i64 k ∧ Hid (∀ i, i < k → sameRestF (f i) (g i) = true) ∧ Below w.heap.size w wr) (fun t _ => n - (intOf t).toNat)
  case atStart => exact ⟨0, Nat.zero_le _, rfl, Lib.hid (fun j hj => absurd hj (by omega)), Below.refl _ _⟩
  case round =>
    obtain ⟨k, hk, rfl, hno, hwr⟩ := hrel
    have hs1 : w.heap.size ≤ wr.heap.size := hwr.size
    by_cases hlt : k < n
    · obtain ⟨bx, ox, rfl, hBx⟩ := HP.out.addr (by omega)
      obtain ⟨bY, oy, rfl, hBy⟩ := HQ.out.addr (by omega)
      obtain ⟨e0, e1, e2, e3⟩ := HP.out.at4 hlt
      simp only [Rest.c] at e0 e1 e2 e3
      have x0 := fun z : Ext w.heap.size wr => z.cell (b := bx) (by omega) ((hwr.cell (p := ⟨_, _, none⟩) (by simp only []; omega)).trans e0)
      have x1 := fun z : Ext w.heap.size wr => z.cell (b := bx) (by omega) ((hwr.cell (p := ⟨_, _, none⟩) (by simp only []; omega)).trans e1)
      have x2 := fun z : Ext w.heap.size wr => z.cell (b := bx) (by omega) ((hwr.cell (p := ⟨_, _, none⟩) (by simp only []; omega)).trans e2)
      have x3 := fun z : Ext w.heap.size wr => z.cell (b := bx) (by omega) ((hwr.cell (p := ⟨_, _, none⟩) (by simp only []; omega)).trans e3)
      clear e0 e1 e2 e3
      obtain ⟨e0, e1, e2, e3⟩ := HQ.out.at4 hlt
      simp only [Rest.c] at e0 e1 e2 e3
      have y0 := fun z : Ext w.heap.size wr => z.cell (b := bY) (by omega) ((hwr.cell (p := ⟨_, _, none⟩) (by simp only []; omega)).trans e0)
      have y1 := fun z : Ext w.heap.size wr => z.cell (b := bY) (by omega) ((hwr.cell (p := ⟨_, _, none⟩) (by simp only []; omega)).trans e1)
      have y2 := fun z : Ext w.heap.size wr => z.cell (b := bY) (by omega) ((hwr.cell (p := ⟨_, _, none⟩) (by simp only []; omega)).trans e2)
      have y3 := fun z : Ext w.heap.size wr => z.cell (b := bY) (by omega) ((hwr.cell (p := ⟨_, _, none⟩) (by simp only []; omega)).trans e3)
      clear e0 e1 e2 e3
      have hlt' : (k : Int) < n := by omega
      have hk0 : (0 : Int) ≤ k := by omega
      go_upto_region 6 with (fail)
      refine region_ext w.heap.size (by kernel_rfl) (by kernel_rfl) ?_
      repeat (go_big_quiet_step (fail))
      refine wpQuiet_nil ?_
      rintro _ ⟨z, rfl⟩
      obtain ⟨wq, hq⟩ := z
      dsimp only
      clear x0 y0 x1 y1 x2 y2 x3 y3
      have hwq : Below w.heap.size w wq := hwr.trans hq
      cases hv : sameRestF ⟨(f k).roll, (f k).lot, (f k).frm, (f k).til⟩ ⟨(g k).roll, (g k).lot, (g k).frm, (g k).til⟩
      · have hV := Lib.hid hv
        have HR := Lib.hid (sameList_at (q := fun i => sameRestF (f i) (g i)) hlt hv)
        try simp only [decide_eq_false_iff_not] at hv
        try (have hv2 : (((f k) : Int) != (g k)) = true := bne_iff_ne.2 hv)
        go_wp2_with fail
        go_ret
        exact ⟨ret_bool HR.out.symm, hwq⟩
      · have hV := Lib.hid hv
        try simp only [decide_eq_true_eq] at hv
        try (have hv2 : (((f k) : Int) != (g k)) = false := by rw [hv]; simp)
        try clear hv
        go_wp2_with fail
        go_roundw
        case rel => exact ⟨k + 1, by omega, by go_num, Lib.hid (fun i hi => by rcases Nat.lt_succ_iff_lt_or_eq.1 hi with h' | rfl; exact hno.out i h'; exact hV.out), hwq⟩
        case measure => simp [intOf]; omega
    · have HR := Lib.hid (sameList_true (n := n) (q := fun i => sameRestF (f i) (g i)) (fun i hi => hno.out i (by omega)))
      go_wp2_with fail
      go_ret
      exact ⟨ret_bool HR.out.symm, hwr⟩

end Go.Proofs.Ytmjfalabjlbdeaa
