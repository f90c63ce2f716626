/- exampleHolds returns true. -/
import Derived.Test.YtmjfalabjlbdeaaRecJ
namespace Go.Proofs.Ytmjfalabjlbdeaa
open Go.RowKit
set_option linter.unusedSimpArgs false
set_option linter.unusedVariables false

theorem Polys.take {w : World} {B m k : Nat} {A : Option Addr} {poly : Nat → Poly} (h : Polys w B A m poly) (hk : k ≤ m) : Polys w B A k poly :=
  ⟨h.1.take hk, fun i hi => h.2 i (by omega)⟩

theorem ex_rolls {w : World} {A0 A1 A2 : Addr} (h0 : Row w w.heap.size 1 (some A0) 1 (fun _ _ => .int .i64 0)) (h1 : Row w w.heap.size 1 (some A1) 1 (fun _ _ => .int .i64 0)) (h2 : Row w w.heap.size 1 (some A2) 1 (fun _ _ => .int .i64 0)) :
    ∀ i, i < 3 → (exCut (some A0) (some A1) (some A2) i).rn ≤ 1000 ∧ Row w w.heap.size 1 (exCut (some A0) (some A1) (some A2) i).ra (exCut (some A0) (some A1) (some A2) i).rn (fun j _ => .int .i64 ((fun _ _ => 0 : Nat → Nat → Int) i j)) := by
  intro i hi
  match i, hi with
  | 0, _ => exact ⟨by show 1 ≤ 1000; omega, h0⟩
  | 1, _ => exact ⟨by show 1 ≤ 1000; omega, h1⟩
  | 2, _ => exact ⟨by show 1 ≤ 1000; omega, h2⟩

def exWorld3 (w : World) (A1 A2 : Addr) : World := ((w.alloc (.cells #[.int .i64 7] 3)).alloc (.cells #[.int .i64 0, .int .i64 0, .int .i64 1, .int .i64 0, .slice (some ⟨w.heap.size, 0, none⟩) 1 1, .bool false, .int .i64 0, .int .i64 1, .int .i64 1, .int .i64 2, .slice (some A1) 1 1, .bool true, .int .i64 0, .int .i64 0, .int .i64 1, .int .i64 0, .slice (some A2) 1 1, .bool false] 43)).drew

theorem piece_one {w : World} {x : Cut} {r : Nat → Int} (h : Row w w.heap.size 1 x.ra x.rn (fun j _ => .int .i64 (r j))) (hn : x.rn ≤ 1000) : IsPiece w (.slice none 0 0) x (pieceOf x r) := by
  refine ⟨rfl, rfl, rfl, rfl, rfl, rfl, hn, fun h0 => ?_⟩
  obtain ⟨b, off, hA, hb, hc⟩ := h h0
  exact ⟨b, off, hA, hb, by simp [Value.ownBlock], fun j hj => by have := hc j 0 hj (by omega); simpa [pieceOf] using this⟩

theorem ex_mem3 (w : World) (A1 A2 : Addr) (h1 : Row w w.heap.size 1 (some A1) 1 (fun _ _ => .int .i64 0)) (h2 : Row w w.heap.size 1 (some A2) 1 (fun _ _ => .int .i64 0)) : Below w.heap.size w (exWorld3 w A1 A2) ∧
    Pieces (exWorld3 w A1 A2) (some ⟨w.heap.size + 1, 0, none⟩) 3 (exNew (some ⟨w.heap.size, 0, none⟩) (some A1) (some A2)) (fun i => pieceOf (exNew (some ⟨w.heap.size, 0, none⟩) (some A1) (some A2) i) (exNewRoll i)) := by
  have hb : Below w.heap.size w (exWorld3 w A1 A2) := (below_a2 _ _ _).drew
  have h0 := row_one w 7 3
  have h3 := Row.lit (w.alloc (.cells #[.int .i64 7] 3)) #[.int .i64 0, .int .i64 0, .int .i64 1, .int .i64 0, .slice (some ⟨w.heap.size, 0, none⟩) 1 1, .bool false, .int .i64 0, .int .i64 1, .int .i64 1, .int .i64 2, .slice (some A1) 1 1, .bool true, .int .i64 0, .int .i64 0, .int .i64 1, .int .i64 0, .slice (some A2) 1 1, .bool false] 3 43 6 (fun i => (exNew (some ⟨w.heap.size, 0, none⟩) (some A1) (some A2) i).c) (by simp only [maxLen]; omega) rfl
  have e1 : (w.alloc (.cells #[.int .i64 7] 3)).heap.size = w.heap.size + 1 := by simp
  rw [e1] at h3
  have h0' := h0.later (below_a1 _ (.cells #[.int .i64 0, .int .i64 0, .int .i64 1, .int .i64 0, .slice (some ⟨w.heap.size, 0, none⟩) 1 1, .bool false, .int .i64 0, .int .i64 1, .int .i64 1, .int .i64 2, .slice (some A1) 1 1, .bool true, .int .i64 0, .int .i64 0, .int .i64 1, .int .i64 0, .slice (some A2) 1 1, .bool false] 43)).drew
  refine ⟨hb, h3.later (Below.refl _ _).drew, fun i hi => ?_⟩
  match i, hi with
  | 0, _ => exact piece_one (x := exNew _ _ _ 0) h0' (by show 1 ≤ 1000; omega)
  | 1, _ => exact piece_one (x := exNew _ _ _ 1) (h1.later hb) (by show 1 ≤ 1000; omega)
  | 2, _ => exact piece_one (x := exNew _ _ _ 2) (h2.later hb) (by show 1 ≤ 1000; omega)

set_option maxRecDepth 100000 in
set_option maxHeartbeats 3200000 in
theorem example_any (w : World) : Calls Try.prog 12 #[] w fun e w' => e = .returned (.bool true) ∧ Below w.heap.size w w' := by
  go_enter Try.func12, Try.ntmps12
  go_upto_region 2 with (fail)
  have r1 := Row.lit w #[.int .i64 4, .int .i64 0, .int .i64 0, .int .i64 30, .int .i64 5, .int .i64 0, .int .i64 10, .int .i64 60] 2 49 4 (fun i => (exRest i).c) (by simp only [maxLen]; omega) rfl
  have b1 := below_a1 w (.cells #[.int .i64 4, .int .i64 0, .int .i64 0, .int .i64 30, .int .i64 5, .int .i64 0, .int .i64 10, .int .i64 60] 49)
  generalize hW : w.alloc _ = W1 at r1 b1 ⊢
  clear hW
  have hz1 : w.heap.size ≤ W1.heap.size := b1.size
  go_wp2_with fail
  have n2 := Row.lit W1 #[.int .i64 0, .int .i64 20, .int .i64 0, .int .i64 20, .int .i64 0, .int .i64 10, .int .i64 1, .int .i64 1] 4 47 2 (fun i => (exNeed i).c) (by simp only [maxLen]; omega) rfl
  have r2 := r1.later (below_a1 W1 (.cells #[.int .i64 0, .int .i64 20, .int .i64 0, .int .i64 20, .int .i64 0, .int .i64 10, .int .i64 1, .int .i64 1] 47))
  have b2 := below_up b1 (below_a1 W1 (.cells #[.int .i64 0, .int .i64 20, .int .i64 0, .int .i64 20, .int .i64 0, .int .i64 10, .int .i64 1, .int .i64 1] 47))
  generalize hW : W1.alloc _ = W2 at n2 r2 b2 ⊢
  clear hW r1 b1
  refine (assign_any _ _ 4 _ 2 _ exNeed exRest _ (by omega) (by omega) n2 r2).mono ?_
  rintro e w3 ⟨vL, vG, rfl, hL, hG, hb3⟩
  obtain ⟨AL, cL, rfl, _, _, rL⟩ := hL.form
  obtain ⟨AG, cG, rfl, _, _, rG⟩ := hG.form
  have b3 := below_up b2 hb3
  clear hL hG n2 r2 hb3 b2
  go_wp2_with fail
  have g4 := Row.lit w3 #[.int .i64 0, .int .i64 1, .int .i64 0, .int .i64 (-1)] 4 3 1 (fun i _ => .int .i64 (exGot i)) (by simp only [maxLen]; omega) rfl
  have rG4 := rG.later (below_a1 w3 (.cells #[.int .i64 0, .int .i64 1, .int .i64 0, .int .i64 (-1)] 3))
  have rL4 := rL.later (below_a1 w3 (.cells #[.int .i64 0, .int .i64 1, .int .i64 0, .int .i64 (-1)] 3))
  have b4 := below_up b3 (below_a1 w3 (.cells #[.int .i64 0, .int .i64 1, .int .i64 0, .int .i64 (-1)] 3))
  generalize hW : w3.alloc _ = W4 at g4 rG4 rL4 b4 ⊢
  clear hW rG rL b3
  refine (sameInts_any _ _ 4 4 _ _ _ exGot _ (by omega) (by omega) rG4 g4).mono ?_
  rintro e w5 ⟨rfl, hb5⟩
  rw [ex_got]
  have rL5 := rL4.later hb5
  have b5 := below_up b4 hb5
  clear g4 rG4 rL4 b4 hb5
  go_wp2_with fail
  have l6 := Row.lit w5 #[.int .i64 4, .int .i64 0, .int .i64 30, .int .i64 30, .int .i64 5, .int .i64 0, .int .i64 30, .int .i64 60] 2 49 4 (fun i => (exLeft i).c) (by simp only [maxLen]; omega) rfl
  have rL6 := rL5.later (below_a1 w5 (.cells #[.int .i64 4, .int .i64 0, .int .i64 30, .int .i64 30, .int .i64 5, .int .i64 0, .int .i64 30, .int .i64 60] 49))
  have b6 := below_up b5 (below_a1 w5 (.cells #[.int .i64 4, .int .i64 0, .int .i64 30, .int .i64 30, .int .i64 5, .int .i64 0, .int .i64 30, .int .i64 60] 49))
  generalize hW : w5.alloc _ = W6 at l6 rL6 b6 ⊢
  clear hW rL5 b5
  refine (sameRests_any _ _ 2 2 _ _ _ exLeft _ (by omega) (by omega) rL6 l6).mono ?_
  rintro e w7 ⟨rfl, hb7⟩
  rw [ex_left]
  have b7 := below_up b6 hb7
  clear l6 rL6 b6 hb7
  go_upto_region 6 with (fail)
  obtain ⟨hz8, hb8, m8, ra8, rb8, rc8⟩ := ex_mem w7
  unfold exWorld at hz8 hb8 m8 ra8 rb8 rc8
  have b8 := below_up b7 hb8
  generalize hW : World.alloc _ _ = W8 at hz8 hb8 m8 ra8 rb8 rc8 b8 ⊢
  clear hW b7 hb8 hz8
  go_upto_region 7 with (fail)
  obtain ⟨hb9, p9⟩ := ex_mem2 W8
  unfold exWorld2 at hb9 p9
  have m9 := m8.later hb9
  have ra9 := ra8.later hb9
  have rb9 := rb8.later hb9
  have rc9 := rc8.later hb9
  have b9 := below_up b8 hb9
  generalize hW : World.alloc _ _ = W9 at hb9 p9 m9 ra9 rb9 rc9 b9 ⊢
  clear hW m8 ra8 rb8 rc8 b8 hb9
  generalize hA0 : (⟨w7.heap.size, 0, none⟩ : Addr) = A0 at *
  generalize hA1 : (⟨w7.heap.size + 1, 0, none⟩ : Addr) = A1 at *
  generalize hA2 : (⟨w7.heap.size + 1 + 1, 0, none⟩ : Addr) = A2 at *
  generalize hP0 : (⟨W8.heap.size, 0, none⟩ : Addr) = P0 at *
  generalize hP1 : (⟨W8.heap.size + 1, 0, none⟩ : Addr) = P1 at *
  clear hA0 hA1 hA2 hP0 hP1
  obtain ⟨gc, hgc⟩ : ∃ gc, gc = w7.heap.size + 1 + 1 + 1 := ⟨_, rfl⟩
  obtain ⟨gp, hgp⟩ : ∃ gp, gp = W8.heap.size + 1 + 1 := ⟨_, rfl⟩
  rw [← hgc] at m9
  rw [← hgp] at p9
  rw [← hgc, ← hgp]
  clear hgc hgp
  go_wp2_with fail
  refine (needs_any _ _ 3 _ 2 _ _ _ _ (by omega) (by omega) m9 p9).mono ?_
  rintro e w10 ⟨hb10, ⟨hE, vN, vI, rfl, hN, hI⟩ | ⟨hE, rfl⟩⟩
  rotate_left
  · exact absurd (ex_err _ _ _ _ _) hE
  clear hE
  rw [ex_dmgs] at hN hI
  have rN := hN.form
  have rI := hI.form
  clear hN hI
  obtain ⟨AN, cN, rfl, _, _, rN⟩ := rN
  obtain ⟨AI, cI, rfl, _, _, rI⟩ := rI
  have m10 := m9.later hb10
  have p10 := p9.later hb10
  have ra10 := ra9.later hb10
  have rb10 := rb9.later hb10
  have rc10 := rc9.later hb10
  have b10 := below_up b9 hb10
  clear m9 p9 ra9 rb9 rc9 b9 hb10
  have HN := Lib.hid rN
  have HI := Lib.hid rI
  clear rN rI
  go_wp2_with fail
  have o11 := Row.lit w10 #[.int .i64 7, .int .i64 1, .int .i64 5, .int .i64 55] 1 49 4 (fun i => (exOne i).c) (by simp only [maxLen]; omega) rfl
  have hb11 := below_a1 w10 (.cells #[.int .i64 7, .int .i64 1, .int .i64 5, .int .i64 55] 49)
  have m11 := m10.later hb11
  have p11 := p10.later hb11
  have ra11 := ra10.later hb11
  have rb11 := rb10.later hb11
  have rc11 := rc10.later hb11
  have rN11 := HN.out.later hb11
  have rI11 := HI.out.later hb11
  have b11 := below_up b10 hb11
  generalize hW : w10.alloc _ = W11 at o11 hb11 m11 p11 ra11 rb11 rc11 rN11 rI11 b11 ⊢
  clear hW m10 p10 ra10 rb10 rc10 b10 hb11 HN HI
  refine (recut_any _ _ _ 3 _ 2 _ 1 _ _ _ exOne (fun _ _ => 0) _ (by omega) (by omega) (by omega) m11 p11 o11 (ex_rolls ra11 rb11 rc11)).mono ?_
  rintro e w12 ⟨hb12, ⟨hE, vC, vR, rfl, hC, hR⟩ | ⟨hE, rfl⟩⟩
  rotate_left
  · exact absurd (ex_err _ _ _ _ _) hE
  clear hE
  rw [ex_dmgs, show ([0, 1] : List Nat).length = 2 from rfl] at hC hR
  obtain ⟨AC, cC, cut', rfl, _, hC⟩ := hC.pieces
  obtain ⟨AR, cR, rfl, _, _, hR⟩ := hR.form
  have HC := Lib.hid hC
  have HR := Lib.hid hR
  clear hC hR
  have m12 := m11.later hb12
  have p12 := p11.later hb12
  have ra12 := ra11.later hb12
  have rb12 := rb11.later hb12
  have rc12 := rc11.later hb12
  have rN12 := Lib.hid (rN11.later hb12)
  have rI12 := Lib.hid (rI11.later hb12)
  have b12 := below_up b11 hb12
  clear o11 m11 p11 ra11 rb11 rc11 rN11 rI11 b11 hb12
  go_wp2_with fail
  refine (needs_any _ _ 3 _ 1 _ _ _ _ (by omega) (by omega) m12 (p12.take (by omega))).mono ?_
  rintro e w13 ⟨hb13, ⟨hE, vN, vI, rfl, hN, hI⟩ | ⟨hE, rfl⟩⟩
  · rw [ex_err1] at hE
    cases hE
  clear hE
  rw [ex_err1]
  have m13 := m12.later hb13
  have rb13 := rb12.later hb13
  have rc13 := rc12.later hb13
  have HC13 := Lib.hid (HC.out.later hb13)
  have HR13 := Lib.hid (HR.out.later hb13)
  have rN13 := Lib.hid (rN12.out.later hb13)
  have rI13 := Lib.hid (rI12.out.later hb13)
  have b13 := below_up b12 hb13
  clear m12 p12 ra12 rb12 rc12 HC HR rN12 rI12 b12 hb13
  go_wp2_with fail
  have l14 := Row.lit w13 #[.int .i64 1, .int .i64 40, .int .i64 1, .int .i64 30] 2 47 2 (fun i => (exWant i).c) (by simp only [maxLen]; omega) rfl
  have hb14 := below_a1 w13 (.cells #[.int .i64 1, .int .i64 40, .int .i64 1, .int .i64 30] 47)
  have rN14 := rN13.out.later hb14
  have rI14 := Lib.hid (rI13.out.later hb14)
  have HC14 := Lib.hid (HC13.out.later hb14)
  have HR14 := Lib.hid (HR13.out.later hb14)
  have m14 := m13.later hb14
  have rb14 := rb13.later hb14
  have rc14 := rc13.later hb14
  have b14 := below_up b13 hb14
  generalize hW : w13.alloc _ = W14 at l14 hb14 rN14 rI14 HC14 HR14 m14 rb14 rc14 b14 ⊢
  clear hW rN13 rI13 HC13 HR13 m13 rb13 rc13 b13 hb14
  refine (sameNeeds_any _ _ 2 2 _ _ _ exWant _ (by omega) (by omega) rN14 l14).mono ?_
  rintro e w15 ⟨rfl, hb15⟩
  rw [ex_need]
  have rI15 := Lib.hid (rI14.out.later hb15)
  have HC15 := Lib.hid (HC14.out.later hb15)
  have HR15 := Lib.hid (HR14.out.later hb15)
  have m15 := m14.later hb15
  have rb15 := rb14.later hb15
  have rc15 := rc14.later hb15
  have b15 := below_up b14 hb15
  clear l14 rN14 rI14 HC14 HR14 m14 rb14 rc14 b14 hb15
  go_wp2_with fail
  have l16 := Row.lit w15 #[.int .i64 0, .int .i64 1] 2 3 1 (fun i _ => .int .i64 (exIdx i)) (by simp only [maxLen]; omega) rfl
  have hb16 := below_a1 w15 (.cells #[.int .i64 0, .int .i64 1] 3)
  have rI16 := rI15.out.later hb16
  have HC16 := Lib.hid (HC15.out.later hb16)
  have HR16 := Lib.hid (HR15.out.later hb16)
  have m16 := m15.later hb16
  have rb16 := rb15.later hb16
  have rc16 := rc15.later hb16
  have b16 := below_up b15 hb16
  generalize hW : w15.alloc _ = W16 at l16 hb16 rI16 HC16 HR16 m16 rb16 rc16 b16 ⊢
  clear hW rI15 HC15 HR15 m15 rb15 rc15 b15 hb16
  refine (sameInts_any _ _ 2 2 _ _ _ exIdx _ (by omega) (by omega) rI16 l16).mono ?_
  rintro e w17 ⟨rfl, hb17⟩
  rw [ex_idx]
  have HC17 := Lib.hid (HC16.out.later hb17)
  have HR17 := Lib.hid (HR16.out.later hb17)
  have m17 := m16.later hb17
  have rb17 := rb16.later hb17
  have rc17 := rc16.later hb17
  have b17 := below_up b16 hb17
  clear l16 rI16 HC16 HR16 m16 rb16 rc16 b16 hb17
  go_upto_region 12 with (fail)
  obtain ⟨bg, og, hform, hgc⟩ := m17.addr (by omega)
  injection hform with hform
  injection hform with h1 h2
  subst h1; subst h2
  obtain ⟨e0, e1, e2, e3, e4, e5⟩ := m17.at6 (i := 1) (by omega)
  obtain ⟨d0, d1, d2, d3, d4, d5⟩ := m17.at6 (i := 2) (by omega)
  simp [exCut, Cut.c] at e0 e1 e2 e3 e4 e5 d0 d1 d2 d3 d4 d5
  have hne := World.new_ne w17 ⟨gc, 6, none⟩ e0
  have HB17 := Lib.hid b17
  have Hrb := Lib.hid rb17
  have Hrc := Lib.hid rc17
  clear m17 rb17 rc17 b17
  go_region_held3 (fun w' => w'.cell? ⟨gc, 6, none⟩ = some (.int .i64 0) ∧ w'.cell? ⟨gc, 7, none⟩ = some (.int .i64 1) ∧ w'.cell? ⟨gc, 8, none⟩ = some (.int .i64 1) ∧ w'.cell? ⟨gc, 9, none⟩ = some (.int .i64 2) ∧ w'.cell? ⟨gc, 10, none⟩ = some (.slice (some A1) 1 1) ∧ w'.cell? ⟨gc, 11, none⟩ = some (.bool true) ∧ w'.cell? ⟨gc, 12, none⟩ = some (.int .i64 0) ∧ w'.cell? ⟨gc, 13, none⟩ = some (.int .i64 0) ∧ w'.cell? ⟨gc, 14, none⟩ = some (.int .i64 1) ∧ w'.cell? ⟨gc, 15, none⟩ = some (.int .i64 0) ∧ w'.cell? ⟨gc, 16, none⟩ = some (.slice (some A2) 1 1) ∧ w'.cell? ⟨gc, 17, none⟩ = some (.bool false)) (go_keep) (first
    | ((go_at_call 22; obtain ⟨hb3, hq3⟩ := ex_mem3 w17 A1 A2 Hrb.out Hrc.out; refine (sameCuts_any _ _ 3 3 _ _ _ _ _ _ _ (by omega) (by omega) (HC17.out.later hb3) hq3).mono ?_; rintro e w18 ⟨rfl, hb18⟩; rw [ex_cuts]; have HR18 := Lib.hid (HR17.out.later (below_up hb3 hb18)); have HB18 := Lib.hid (below_up HB17.out (below_up hb3 hb18)); have bl := below_up hb3 hb18; have hsz : w17.heap.size ≤ w18.heap.size := bl.size; have f0 := (bl.cell (p := ⟨gc, 6, none⟩) hgc).trans e0; have f1 := (bl.cell (p := ⟨gc, 7, none⟩) hgc).trans e1; have f2 := (bl.cell (p := ⟨gc, 8, none⟩) hgc).trans e2; have f3 := (bl.cell (p := ⟨gc, 9, none⟩) hgc).trans e3; have f4 := (bl.cell (p := ⟨gc, 10, none⟩) hgc).trans e4; have f5 := (bl.cell (p := ⟨gc, 11, none⟩) hgc).trans e5; have f6 := (bl.cell (p := ⟨gc, 12, none⟩) hgc).trans d0; have f7 := (bl.cell (p := ⟨gc, 13, none⟩) hgc).trans d1; have f8 := (bl.cell (p := ⟨gc, 14, none⟩) hgc).trans d2; have f9 := (bl.cell (p := ⟨gc, 15, none⟩) hgc).trans d3; have f10 := (bl.cell (p := ⟨gc, 16, none⟩) hgc).trans d4; have f11 := (bl.cell (p := ⟨gc, 17, none⟩) hgc).trans d5; clear hb3 hq3 bl hb18))
    | ((go_at_call 19; have o19 := Row.lit w18 #[.int .i64 7, .int .i64 1, .int .i64 45, .int .i64 55] 1 49 4 (fun i => (exOneLeft i).c) (by simp only [maxLen]; omega) rfl; have hb19 := below_a1 w18 (.cells #[.int .i64 7, .int .i64 1, .int .i64 45, .int .i64 55] 49); refine (sameRests_any _ _ 1 1 _ _ _ exOneLeft _ (by omega) (by omega) (HR18.out.later hb19) o19).mono ?_; rintro e w20 ⟨rfl, hb20⟩; rw [ex_rest]; have bk := below_up hb19 hb20; have HB20 := Lib.hid (below_up HB18.out bk); have k0 := (bk.cell (p := ⟨gc, 6, none⟩) (Nat.lt_of_lt_of_le hgc hsz)).trans f0; have k1 := (bk.cell (p := ⟨gc, 7, none⟩) (Nat.lt_of_lt_of_le hgc hsz)).trans f1; have k2 := (bk.cell (p := ⟨gc, 8, none⟩) (Nat.lt_of_lt_of_le hgc hsz)).trans f2; have k3 := (bk.cell (p := ⟨gc, 9, none⟩) (Nat.lt_of_lt_of_le hgc hsz)).trans f3; have k4 := (bk.cell (p := ⟨gc, 10, none⟩) (Nat.lt_of_lt_of_le hgc hsz)).trans f4; have k5 := (bk.cell (p := ⟨gc, 11, none⟩) (Nat.lt_of_lt_of_le hgc hsz)).trans f5; have k6 := (bk.cell (p := ⟨gc, 12, none⟩) (Nat.lt_of_lt_of_le hgc hsz)).trans f6; have k7 := (bk.cell (p := ⟨gc, 13, none⟩) (Nat.lt_of_lt_of_le hgc hsz)).trans f7; have k8 := (bk.cell (p := ⟨gc, 14, none⟩) (Nat.lt_of_lt_of_le hgc hsz)).trans f8; have k9 := (bk.cell (p := ⟨gc, 15, none⟩) (Nat.lt_of_lt_of_le hgc hsz)).trans f9; have k10 := (bk.cell (p := ⟨gc, 16, none⟩) (Nat.lt_of_lt_of_le hgc hsz)).trans f10; have k11 := (bk.cell (p := ⟨gc, 17, none⟩) (Nat.lt_of_lt_of_le hgc hsz)).trans f11; clear o19 hb19 hb20 bk)))
  go_wp2_with fail
  go_ret
  exact ⟨rfl, HB20.out⟩

end Go.Proofs.Ytmjfalabjlbdeaa
