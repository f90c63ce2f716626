/- SameCut, SameCuts. -/
import Derived.Test.YtmjfalabjlbdeaaRecH
namespace Go.Proofs.Ytmjfalabjlbdeaa
open Go.RowKit
set_option linter.unusedSimpArgs false
set_option linter.unusedVariables false

def sameRollsF (s t : Piece) : Bool := sameListF s.rn t.rn (fun j => decide (s.roll j = t.roll j))
def sameCutF (s t : Piece) : Bool := decide (s.ply = t.ply ∧ s.place = t.place ∧ s.lot = t.lot ∧ s.size = t.size ∧ s.dmg = t.dmg) && sameRollsF s t

/-- Cut pieces that are read. -/
def Pieces (w : World) (A : Option Addr) (n : Nat) (cut : Nat → Cut) (T : Nat → Piece) : Prop :=
  Row w w.heap.size 6 A n (fun i => (cut i).c) ∧ ∀ i, i < n → IsPiece w (.slice none 0 0) (cut i) (T i)

theorem Pieces.later {w w' : World} {A : Option Addr} {n : Nat} {cut : Nat → Cut} {T : Nat → Piece} (h : Pieces w A n cut T) (hb : Below w.heap.size w w') : Pieces w' A n cut T :=
  ⟨h.1.later hb, fun i hi => (h.2 i hi).later hb⟩

theorem CutsAre.pieces {w : World} {base n : Nat} {v : Value} {T : Nat → Piece} (h : CutsAre w base v n T) : ∃ A c cut, v = .slice A n c ∧ n ≤ c ∧ Pieces w A n cut T := by
  obtain ⟨cut, ho, hi⟩ := h
  obtain ⟨A, c, hv, hnc, _, hr⟩ := ho.form
  refine ⟨A, c, cut, hv, hnc, hr, fun i hin => ?_⟩
  obtain ⟨h1, h2, h3, h4, h5, h6, h7, h8⟩ := hi i hin
  refine ⟨h1, h2, h3, h4, h5, h6, h7, fun h0 => ?_⟩
  obtain ⟨b, off, ha, hlt, hne, hc⟩ := h8 h0
  exact ⟨b, off, ha, hlt, by simp [Value.ownBlock], hc⟩

set_option maxHeartbeats 800000 in
theorem sameCut_any (x y : Cut) (s t : Piece) (w : World) (hx : IsPiece w (.slice none 0 0) x s) (hy : IsPiece w (.slice none 0 0) y t) :
    Calls Try.prog 23 #[.agg #[.int .i64 x.ply, .int .i64 x.place, .int .i64 x.lot, .int .i64 x.size, .slice x.ra x.rn x.rc, .bool x.dmg], .agg #[.int .i64 y.ply, .int .i64 y.place, .int .i64 y.lot, .int .i64 y.size, .slice y.ra y.rn y.rc, .bool y.dmg]] w
      fun e w' => e = .returned (.bool (sameCutF s t)) ∧ Below w.heap.size w w' := by
  have HX := Lib.hid hx.row
  have HY := Lib.hid hy.row
  obtain ⟨x1, x2, x3, x4, x5, x6, x7, _⟩ := hx
  obtain ⟨y1, y2, y3, y4, y5, y6, y7, _⟩ := hy
  have HS := Lib.hid (show sameCutF s t = (decide (x.ply = y.ply ∧ x.place = y.place ∧ x.lot = y.lot ∧ x.size = y.size ∧ x.dmg = y.dmg) && sameListF x.rn y.rn (fun j => decide (s.roll j = t.roll j))) from by
    unfold sameCutF sameRollsF
    rw [x1, x2, x3, x4, x5, x6, y1, y2, y3, y4, y5, y6])
  clear x1 x2 x3 x4 x5 x6 y1 y2 y3 y4 y5 y6
  have hB := below_a2 w (.cells #[.int .i64 x.ply, .int .i64 x.place, .int .i64 x.lot, .int .i64 x.size, .slice x.ra x.rn x.rc, .bool x.dmg] 43) (.cells #[.int .i64 y.ply, .int .i64 y.place, .int .i64 y.lot, .int .i64 y.size, .slice y.ra y.rn y.rc, .bool y.dmg] 43)
  have HX1 := Lib.hid (HX.out.later hB)
  have HY1 := Lib.hid (HY.out.later hB)
  have HB := Lib.hid hB
  clear hB
  by_cases hall : x.ply = y.ply ∧ x.place = y.place ∧ x.lot = y.lot ∧ x.size = y.size ∧ x.dmg = y.dmg
  · obtain ⟨e1, e2, e3, e4, e5⟩ := hall
    have b1 : (x.ply == y.ply) = true := beq_iff_eq.2 e1
    have b2 : (x.place == y.place) = true := beq_iff_eq.2 e2
    have b3 : (x.lot == y.lot) = true := beq_iff_eq.2 e3
    have b4 : (x.size == y.size) = true := beq_iff_eq.2 e4
    have b5 : (x.dmg == y.dmg) = true := beq_iff_eq.2 e5
    have HE := Lib.hid (show decide (x.ply = y.ply ∧ x.place = y.place ∧ x.lot = y.lot ∧ x.size = y.size ∧ x.dmg = y.dmg) = true from decide_eq_true ⟨e1, e2, e3, e4, e5⟩)
    clear e1 e2 e3 e4 e5
    go_enter Try.func23, Try.ntmps23
    go_wp2_with (go_at_call 16; refine (sameInts_any _ _ _ _ _ _ s.roll t.roll _ x7 y7 HX1.out HY1.out).mono ?_; rintro e w1 ⟨rfl, hb1⟩)
    go_ret
    exact ⟨ret_bool (by rw [HS.out, HE.out, Bool.true_and]), below_up HB.out hb1⟩
  · have HE := Lib.hid (show decide (x.ply = y.ply ∧ x.place = y.place ∧ x.lot = y.lot ∧ x.size = y.size ∧ x.dmg = y.dmg) = false from decide_eq_false hall)
    have HA := Lib.hid hall
    clear hall
    by_cases e1 : x.ply = y.ply
    rotate_left
    · have b1 : (x.ply == y.ply) = false := beq_eq_false_iff_ne.2 e1
      clear e1
      go_enter Try.func23, Try.ntmps23
      go_wp2_with fail
      go_ret
      exact ⟨ret_bool (by rw [HS.out, HE.out, Bool.false_and]), HB.out⟩
    have b1 : (x.ply == y.ply) = true := beq_iff_eq.2 e1
    have E1 := Lib.hid e1
    clear e1
    by_cases e2 : x.place = y.place
    rotate_left
    · have b2 : (x.place == y.place) = false := beq_eq_false_iff_ne.2 e2
      clear e2
      go_enter Try.func23, Try.ntmps23
      go_wp2_with fail
      go_ret
      exact ⟨ret_bool (by rw [HS.out, HE.out, Bool.false_and]), HB.out⟩
    have b2 : (x.place == y.place) = true := beq_iff_eq.2 e2
    have E2 := Lib.hid e2
    clear e2
    by_cases e3 : x.lot = y.lot
    rotate_left
    · have b3 : (x.lot == y.lot) = false := beq_eq_false_iff_ne.2 e3
      clear e3
      go_enter Try.func23, Try.ntmps23
      go_wp2_with fail
      go_ret
      exact ⟨ret_bool (by rw [HS.out, HE.out, Bool.false_and]), HB.out⟩
    have b3 : (x.lot == y.lot) = true := beq_iff_eq.2 e3
    have E3 := Lib.hid e3
    clear e3
    by_cases e4 : x.size = y.size
    rotate_left
    · have b4 : (x.size == y.size) = false := beq_eq_false_iff_ne.2 e4
      clear e4
      go_enter Try.func23, Try.ntmps23
      go_wp2_with fail
      go_ret
      exact ⟨ret_bool (by rw [HS.out, HE.out, Bool.false_and]), HB.out⟩
    have b4 : (x.size == y.size) = true := beq_iff_eq.2 e4
    have E4 := Lib.hid e4
    clear e4
    by_cases e5 : x.dmg = y.dmg
    rotate_left
    · have b5 : (x.dmg == y.dmg) = false := beq_eq_false_iff_ne.2 e5
      clear e5
      go_enter Try.func23, Try.ntmps23
      go_wp2_with fail
      go_ret
      exact ⟨ret_bool (by rw [HS.out, HE.out, Bool.false_and]), HB.out⟩
    have b5 : (x.dmg == y.dmg) = true := beq_iff_eq.2 e5
    have E5 := Lib.hid e5
    clear e5
    exact absurd ⟨E1.out, E2.out, E3.out, E4.out, E5.out⟩ HA.out

set_option maxHeartbeats 800000 in
theorem sameCuts_any (A A2 : Option Addr) (n m c c2 : Nat) (f g : Nat → Cut) (S T : Nat → Piece) (w : World) (hn : n ≤ 1000) (hm : m ≤ 1000) (hp : Pieces w A n f S) (hq : Pieces w A2 m g T) :
    Calls Try.prog 22 #[.slice A n c, .slice A2 m c2] w
      fun e w' => e = .returned (.bool (sameListF n m (fun i => sameCutF (S i) (T i)))) ∧ Below w.heap.size w w' := by
  have HP := Lib.hid hp
  have HQ := Lib.hid hq
  clear hp hq
  by_cases hnm : n = m
  rotate_left
  · have hb : ((n : Int) != (m : Int)) = true := bne_iff_ne.2 (by omega)
    have HR := Lib.hid (sameList_len (q := fun i => sameCutF (S i) (T i)) hnm)
    go_enter Try.func22, Try.ntmps22
    go_wp2_with fail
    go_ret
    exact ⟨ret_bool HR.out.symm, Below.refl _ _⟩
  subst hnm
  have hb : ((n : Int) != (n : Int)) = false := by simp
  go_enter Try.func22, Try.ntmps22
  go_wp2_with fail
  go_loopw [5] (fun t wr => ∃ k : Nat, k ≤ n ∧ t = .int .i64 k ∧ Hid (∀ i, i < k → sameCutF (S i) (T i) = true) ∧ Below w.heap.size w wr) (fun t _ => n - (intOf t).toNat)
  case atStart => exact ⟨0, Nat.zero_le _, rfl, Lib.hid (fun j hj => absurd hj (by omega)), Below.refl _ _⟩
  case round =>
    obtain ⟨k, hk, rfl, hno, hwr⟩ := hrel
    have hs1 : w.heap.size ≤ wr.heap.size := hwr.size
    by_cases hlt : k < n
    · obtain ⟨bx, ox, rfl, hBx⟩ := HP.out.1.addr (by omega)
      obtain ⟨bY, oy, rfl, hBy⟩ := HQ.out.1.addr (by omega)
      obtain ⟨e0, e1, e2, e3, e4, e5⟩ := HP.out.1.at6 hlt
      simp only [Cut.c] at e0 e1 e2 e3 e4 e5
      have x0 := fun z : Ext w.heap.size wr => z.cell (b := bx) (by omega) ((hwr.cell (p := ⟨_, _, none⟩) (by simp only []; omega)).trans e0)
      have x1 := fun z : Ext w.heap.size wr => z.cell (b := bx) (by omega) ((hwr.cell (p := ⟨_, _, none⟩) (by simp only []; omega)).trans e1)
      have x2 := fun z : Ext w.heap.size wr => z.cell (b := bx) (by omega) ((hwr.cell (p := ⟨_, _, none⟩) (by simp only []; omega)).trans e2)
      have x3 := fun z : Ext w.heap.size wr => z.cell (b := bx) (by omega) ((hwr.cell (p := ⟨_, _, none⟩) (by simp only []; omega)).trans e3)
      have x4 := fun z : Ext w.heap.size wr => z.cell (b := bx) (by omega) ((hwr.cell (p := ⟨_, _, none⟩) (by simp only []; omega)).trans e4)
      have x5 := fun z : Ext w.heap.size wr => z.cell (b := bx) (by omega) ((hwr.cell (p := ⟨_, _, none⟩) (by simp only []; omega)).trans e5)
      clear e0 e1 e2 e3 e4 e5
      obtain ⟨e0, e1, e2, e3, e4, e5⟩ := HQ.out.1.at6 hlt
      simp only [Cut.c] at e0 e1 e2 e3 e4 e5
      have y0 := fun z : Ext w.heap.size wr => z.cell (b := bY) (by omega) ((hwr.cell (p := ⟨_, _, none⟩) (by simp only []; omega)).trans e0)
      have y1 := fun z : Ext w.heap.size wr => z.cell (b := bY) (by omega) ((hwr.cell (p := ⟨_, _, none⟩) (by simp only []; omega)).trans e1)
      have y2 := fun z : Ext w.heap.size wr => z.cell (b := bY) (by omega) ((hwr.cell (p := ⟨_, _, none⟩) (by simp only []; omega)).trans e2)
      have y3 := fun z : Ext w.heap.size wr => z.cell (b := bY) (by omega) ((hwr.cell (p := ⟨_, _, none⟩) (by simp only []; omega)).trans e3)
      have y4 := fun z : Ext w.heap.size wr => z.cell (b := bY) (by omega) ((hwr.cell (p := ⟨_, _, none⟩) (by simp only []; omega)).trans e4)
      have y5 := fun z : Ext w.heap.size wr => z.cell (b := bY) (by omega) ((hwr.cell (p := ⟨_, _, none⟩) (by simp only []; omega)).trans e5)
      clear e0 e1 e2 e3 e4 e5
      have HX := Lib.hid (fun z : Ext w.heap.size wr => (HP.out.2 k hlt).later (hwr.trans z.below))
      have HY := Lib.hid (fun z : Ext w.heap.size wr => (HQ.out.2 k hlt).later (hwr.trans z.below))
      have hlt' : (k : Int) < n := by omega
      have hk0 : (0 : Int) ≤ k := by omega
      go_upto_region 6 with (fail)
      refine region_ext w.heap.size (by kernel_rfl) (by kernel_rfl) ?_
      repeat (go_big_quiet_step (first | (go_at_call 23; exact calls_ext (by omega) (sameCut_any (f k) (g k) _ _ _ (HX.out _) (HY.out _)))))
      refine wpQuiet_nil ?_
      rintro _ ⟨z, rfl⟩
      obtain ⟨wq, hq⟩ := z
      dsimp only
      clear x0 x1 x2 x3 x4 x5 y0 y1 y2 y3 y4 y5
      have hwq : Below w.heap.size w wq := hwr.trans hq
      cases hv : sameCutF (S k) (T k)
      · have hV := Lib.hid hv
        have HR := Lib.hid (sameList_at (q := fun i => sameCutF (S i) (T i)) hlt hv)
        clear hv
        go_wp2_with fail
        go_ret
        exact ⟨ret_bool HR.out.symm, hwq⟩
      · have hV := Lib.hid hv
        clear hv
        go_wp2_with fail
        go_roundw
        case rel => exact ⟨k + 1, by omega, by go_num, Lib.hid (fun i hi => by rcases Nat.lt_succ_iff_lt_or_eq.1 hi with h' | rfl; exact hno.out i h'; exact hV.out), hwq⟩
        case measure => simp [intOf]; omega
    · have HR := Lib.hid (sameList_true (n := n) (q := fun i => sameCutF (S i) (T i)) (fun i hi => hno.out i (by omega)))
      go_wp2_with fail
      go_ret
      exact ⟨ret_bool HR.out.symm, hwr⟩

end Go.Proofs.Ytmjfalabjlbdeaa
