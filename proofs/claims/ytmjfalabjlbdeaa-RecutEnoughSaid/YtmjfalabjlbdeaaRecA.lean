/- serves, the closure of Assign, Usable, slices.IndexFunc over rests. -/
import Derived.Test.YtmjfalabjlbdeaaProg
import Derived.Test.YtmjfalabjlbdeaaRow
import Derived.Test.YtmjfalabjlbdeaaRecLaw
namespace Go.Proofs.Ytmjfalabjlbdeaa
open Go.RowKit
set_option linter.unusedSimpArgs false
set_option linter.unusedVariables false

def Rest.c (r : Rest) : Nat → Value
  | 0 => .int .i64 r.roll
  | 1 => .int .i64 r.lot
  | 2 => .int .i64 r.frm
  | _ => .int .i64 r.til

def Need.c (d : Need) : Nat → Value
  | 0 => .int .i64 d.lot
  | _ => .int .i64 d.len

set_option maxHeartbeats 800000 in
theorem serves_any (r1 r2 r3 r4 d1 d2 : Int) (w : World) :
    Calls Try.prog 31 #[.agg #[.int .i64 r1, .int .i64 r2, .int .i64 r3, .int .i64 r4], .agg #[.int .i64 d1, .int .i64 d2]] w
      fun e w' => e = .returned (.bool (servesF ⟨r1, r2, r3, r4⟩ ⟨d1, d2⟩)) ∧ Below w.heap.size w w' := by
  go_enter Try.func31, Try.ntmps31
  go_wp2_with fail
  all_goals
    go_ret
    refine ⟨ret_bool ?_, below_a2 _ _ _⟩
    simp only [servesF]
    rw [Bool.eq_iff_iff]
    simp only [decide_eq_true_eq, Bool.false_eq_true, false_iff, true_iff]
    omega

theorem usable_any (r1 r2 r3 r4 : Int) (w : World) :
    Calls Try.prog 25 #[.agg #[.int .i64 r1, .int .i64 r2, .int .i64 r3, .int .i64 r4]] w
      fun e w' => e = .returned (.bool (usableF ⟨r1, r2, r3, r4⟩)) ∧ Below w.heap.size w w' := by
  go_enter Try.func25, Try.ntmps25
  go_wp2_with fail
  all_goals
    go_ret
    refine ⟨ret_bool ?_, below_a1 _ _⟩
    simp only [usableF]
    rw [Bool.eq_iff_iff]
    simp only [decide_eq_true_eq, Bool.false_eq_true, false_iff, true_iff]
    omega

/-- The closure: its captured need lies in block g. -/
theorem closure_any (r1 r2 r3 r4 d1 d2 : Int) (g : Nat) (w : World) (hg : g < w.heap.size) (h0 : w.cell? ⟨g, 0, none⟩ = some (.int .i64 d1)) (h1 : w.cell? ⟨g, 1, none⟩ = some (.int .i64 d2)) :
    Calls Try.prog 30 #[.agg #[.int .i64 r1, .int .i64 r2, .int .i64 r3, .int .i64 r4], .pointer (some ⟨g, 0, none⟩)] w
      fun e w' => e = .returned (.bool (servesF ⟨r1, r2, r3, r4⟩ ⟨d1, d2⟩)) ∧ Below w.heap.size w w' := by
  go_enter Try.func30, Try.ntmps30
  go_wp2_with fail
  refine (serves_any _ _ _ _ _ _ _).mono ?_
  rintro e w1 ⟨rfl, hb1⟩
  go_wp2_with fail
  go_ret
  exact ⟨rfl, below_up (below_a1 _ _) hb1⟩

theorem Row.at4 {w : World} {B n b off : Nat} {f : Nat → Nat → Value} (h : Row w B 4 (some ⟨b, off, none⟩) n f) {i : Nat} (hi : i < n) :
    w.cell? ⟨b, off + i * 4, none⟩ = some (f i 0) ∧ w.cell? ⟨b, off + i * 4 + 1, none⟩ = some (f i 1) ∧ w.cell? ⟨b, off + i * 4 + 2, none⟩ = some (f i 2) ∧ w.cell? ⟨b, off + i * 4 + 3, none⟩ = some (f i 3) := by
  obtain ⟨b', off', hA, _, hc⟩ := h (by omega)
  injection hA with hA
  injection hA with h1 h2
  subst h1; subst h2
  exact ⟨hc i 0 hi (by omega), hc i 1 hi (by omega), hc i 2 hi (by omega), hc i 3 hi (by omega)⟩

theorem Row.at2 {w : World} {B n b off : Nat} {f : Nat → Nat → Value} (h : Row w B 2 (some ⟨b, off, none⟩) n f) {i : Nat} (hi : i < n) :
    w.cell? ⟨b, off + i * 2, none⟩ = some (f i 0) ∧ w.cell? ⟨b, off + i * 2 + 1, none⟩ = some (f i 1) := by
  obtain ⟨b', off', hA, _, hc⟩ := h (by omega)
  injection hA with hA
  injection hA with h1 h2
  subst h1; subst h2
  exact ⟨hc i 0 hi (by omega), hc i 1 hi (by omega)⟩

/-- The row's address. -/
theorem Row.addr {w : World} {B sz n : Nat} {A : Option Addr} {f : Nat → Nat → Value} (h : Row w B sz A n f) (h0 : 0 < n) : ∃ b off, A = some ⟨b, off, none⟩ ∧ b < B := by
  obtain ⟨b, off, hA, hb, _⟩ := h h0
  exact ⟨b, off, hA, hb⟩

set_option maxHeartbeats 800000 in
theorem pick_any (A : Option Addr) (n c : Nat) (rs : Nat → Rest) (d1 d2 : Int) (g : Nat) (w : World) (hn : n ≤ 1000) (hg : g < w.heap.size) (h0 : w.cell? ⟨g, 0, none⟩ = some (.int .i64 d1)) (h1 : w.cell? ⟨g, 1, none⟩ = some (.int .i64 d2))
    (hp : Row w w.heap.size 4 A n (fun i => (rs i).c)) :
    Calls Try.prog 29 #[.slice A n c, .func (.func 30) #[] #[.pointer (some ⟨g, 0, none⟩)]] w
      fun e w' => e = .returned (.int .i64 (pickF n rs ⟨d1, d2⟩)) ∧ Below w.heap.size w w' := by
  have HP := Lib.hid hp
  clear hp
  go_enter Try.func29, Try.ntmps29
  go_wp2_with fail
  go_loopw [8] (fun t wr => ∃ k : Nat, k ≤ n ∧ t = .int .i64 k ∧ Hid (∀ j, j < k → servesF (rs j) ⟨d1, d2⟩ = false) ∧ Below w.heap.size w wr) (fun t _ => n - (intOf t).toNat)
  case atStart => exact ⟨0, Nat.zero_le _, rfl, Lib.hid (fun j hj => absurd hj (by omega)), Below.refl _ _⟩
  case round =>
    obtain ⟨k, hk, rfl, hno, hwr⟩ := hrel
    have hs1 : w.heap.size ≤ wr.heap.size := hwr.size
    by_cases hlt : k < n
    · obtain ⟨b, off, rfl, hB⟩ := HP.out.addr (by omega)
      obtain ⟨e0, e1, e2, e3⟩ := HP.out.at4 hlt
      simp only [Rest.c] at e0 e1 e2 e3
      have x0 := fun z : Ext w.heap.size wr => z.cell (b := b) (by omega) ((hwr.cell (p := ⟨_, _, none⟩) (by simp only []; omega)).trans e0)
      have x1 := fun z : Ext w.heap.size wr => z.cell (b := b) (by omega) ((hwr.cell (p := ⟨_, _, none⟩) (by simp only []; omega)).trans e1)
      have x2 := fun z : Ext w.heap.size wr => z.cell (b := b) (by omega) ((hwr.cell (p := ⟨_, _, none⟩) (by simp only []; omega)).trans e2)
      have x3 := fun z : Ext w.heap.size wr => z.cell (b := b) (by omega) ((hwr.cell (p := ⟨_, _, none⟩) (by simp only []; omega)).trans e3)
      have X0 := Lib.hid (fun z : Ext w.heap.size wr => z.cell (b := g) (by omega) ((hwr.cell (p := ⟨_, _, none⟩) (by simp only []; omega)).trans h0))
      have X1 := Lib.hid (fun z : Ext w.heap.size wr => z.cell (b := g) (by omega) ((hwr.cell (p := ⟨_, _, none⟩) (by simp only []; omega)).trans h1))
      clear e0 e1 e2 e3
      have hlt' : (k : Int) < n := by omega
      go_upto_region 4 with (fail)
      refine plain_ext w.heap.size ?_
      repeat (go_big_quiet_step (first | (go_at_call 30; exact calls_ext (by omega) (closure_any _ _ _ _ d1 d2 g _ (Nat.lt_of_lt_of_le hg (Nat.le_trans hs1 (Below.size (Ext.below _)))) (X0.out _) (X1.out _)))))
      refine wpQuiet_nil ?_
      rintro _ ⟨z, rfl⟩
      obtain ⟨wq, hq⟩ := z
      dsimp only
      clear x0 x1 x2 x3
      have hwq : Below w.heap.size w wq := hwr.trans hq
      cases hv : servesF ⟨(rs k).roll, (rs k).lot, (rs k).frm, (rs k).til⟩ ⟨d1, d2⟩
      · have hV := Lib.hid hv
        clear hv
        go_wp2_with fail
        go_roundw
        case rel => exact ⟨k + 1, by omega, by go_num, Lib.hid (fun j hj => by rcases Nat.lt_succ_iff_lt_or_eq.1 hj with h' | rfl; exact hno.out j h'; exact hV.out), hwq⟩
        case measure => simp [intOf]; omega
      · have hV := Lib.hid hv
        clear hv
        go_wp2_with fail
        go_ret
        exact ⟨ret_int (firstF_at _ n k hlt hno.out hV.out).symm, hwq⟩
    · go_wp2_with fail
      go_ret
      exact ⟨ret_int (firstF_none _ n (fun j hj => hno.out j (by omega))).symm, hwr⟩

end Go.Proofs.Ytmjfalabjlbdeaa
