/- garmentlaw41.box, three, alive. -/
import Derived.Test.YtpjckolfjaffjaaPthI
namespace Go.Proofs.Ytpjckolfjaffjaa
open Go.RowKit
set_option linter.unusedSimpArgs false
set_option linter.unusedVariables false

def sqF (x y : Int) : Nat → Spot
  | 0 => ⟨x, y⟩
  | 1 => ⟨x + 1, y⟩
  | 2 => ⟨x + 1, y + 1⟩
  | _ => ⟨x, y + 1⟩

theorem box_any (x y : Int) (w : World) (h1 : -1048576 ≤ x) (h2 : x ≤ 1048576) (h3 : -1048576 ≤ y) (h4 : y ≤ 1048576) :
    Calls Try.prog 23 #[.int .i64 x, .int .i64 y] w fun e w' => ∃ A, e = .returned (.slice A 4 4) ∧ Spots w' w'.heap.size A 4 (sqF x y) ∧ Below w.heap.size w w' := by
  have h1' := Row.lit w #[.int .i64 x, .int .i64 y, .int .i64 (x + 1), .int .i64 y, .int .i64 (x + 1), .int .i64 (y + 1), .int .i64 x, .int .i64 (y + 1)] 4 37 2 (fun i j => if j = 0 then .int .i64 (sqF x y i).x else .int .i64 (sqF x y i).y) (by simp only [maxLen]; omega) rfl
  have HS := Lib.hid (spots_of_row h1')
  clear h1'
  go_enter Try.func23, Try.ntmps23
  go_wp2_with fail
  go_ret
  exact ⟨_, rfl, HS.out, below_a1 _ _⟩

def exT (a1 a2 a3 : Option Addr) : Nat → Poly
  | 0 => ⟨a1, 4, 4, sqF 5 0⟩
  | 1 => ⟨a2, 4, 4, sqF 2 2⟩
  | _ => ⟨a3, 4, 4, sqF 9 0⟩

set_option maxHeartbeats 1600000 in
theorem three_any (w : World) : Calls Try.prog 24 #[] w fun e w' => ∃ A a1 a2 a3, e = .returned (.slice A 3 3) ∧ Polys w' w'.heap.size A 3 (exT a1 a2 a3) ∧ Below w.heap.size w w' := by
  go_enter Try.func24, Try.ntmps24
  go_wp2_with fail
  refine (box_any 5 0 _ (by decide) (by decide) (by decide) (by decide)).mono ?_
  rintro e w1 ⟨A1, rfl, p1, b1⟩
  have P1 := Lib.hid p1
  clear p1
  go_wp2_with fail
  refine (box_any 2 2 _ (by decide) (by decide) (by decide) (by decide)).mono ?_
  rintro e w2 ⟨A2, rfl, p2, b2⟩
  have P2 := Lib.hid p2
  have P12 := Lib.hid (P1.out.later b2)
  have b12 := below_up b1 b2
  clear p2 P1 b1 b2
  go_wp2_with fail
  refine (box_any 9 0 _ (by decide) (by decide) (by decide) (by decide)).mono ?_
  rintro e w3 ⟨A3, rfl, p3, b3⟩
  have hr := Row.lit w3 #[.slice A1 4 4, .slice A2 4 4, .slice A3 4 4] 3 38 1 (fun i _ => .slice (exT A1 A2 A3 i).pa (exT A1 A2 A3 i).pn (exT A1 A2 A3 i).pc) (by simp only [maxLen]; omega) rfl
  have bl := below_a1 w3 (.cells #[.slice A1 4 4, .slice A2 4 4, .slice A3 4 4] 38)
  have PP : Hid (Polys _ _ (some ⟨w3.heap.size, 0, none⟩) 3 (exT A1 A2 A3)) := Lib.hid ⟨hr, fun i hi => by
    match i, hi with
    | 0, _ => exact ⟨(P12.out.later b3).later bl, Nat.le_refl _, by show 4 ≤ 100; omega⟩
    | 1, _ => exact ⟨(P2.out.later b3).later bl, Nat.le_refl _, by show 4 ≤ 100; omega⟩
    | 2, _ => exact ⟨p3.later bl, Nat.le_refl _, by show 4 ≤ 100; omega⟩⟩
  have bb := below_up (below_up b12 b3) bl
  clear hr bl P12 P2 b12 p3 b3
  go_wp2_with fail
  go_ret
  exact ⟨_, A1, A2, A3, rfl, PP.out, bb⟩

def exO1 : Nat → Int
  | 0 => 0
  | 1 => 1
  | _ => 2
def exO2 : Nat → Int
  | 0 => 2
  | 1 => 0
  | _ => 1
def exO3 : Nat → Int
  | 0 => 0
  | 1 => 1
  | _ => 1
def exO4 : Nat → Int
  | 0 => 1
  | 1 => 0
  | _ => 2

section
variable (a1 a2 a3 : Option Addr)
theorem exChk : chkErr 3 (exT a1 a2 a3) = 0 := by kernel_rfl
theorem exE1 : bothErr 3 (exT a1 a2 a3) 3 exO1 = 0 := by kernel_rfl
theorem exV1 : travV 3 (exT a1 a2 a3) 3 exO1 = 19 := by kernel_rfl
theorem exE2 : bothErr 3 (exT a1 a2 a3) 3 exO2 = 0 := by kernel_rfl
theorem exE3 : bothErr 3 (exT a1 a2 a3) 3 exO3 = 1 := by kernel_rfl
theorem exV3 : travV 3 (exT a1 a2 a3) 3 exO3 = 0 := by kernel_rfl
theorem exG : sameListF 3 3 (fun j => decide (gordF (startF (exT a1 a2 a3)) 3 3 j = exO4 j)) = true := by kernel_rfl
theorem exI1 : iF (startF (exT a1 a2 a3)) (impF (startF (exT a1 a2 a3)) 3 exO2 1) 3 = -1 := by kernel_rfl
theorem exI2 : sameListF 3 3 (fun j => decide (impF (startF (exT a1 a2 a3)) 3 exO2 1 j = exO4 j)) = true := by kernel_rfl
theorem exI : sameListF 3 3 (fun j => decide (impF (startF (exT a1 a2 a3)) 3 exO2 1000 j = exO4 j)) = true := by
  have h := imp_still (s := startF (exT a1 a2 a3)) (l := 3) (ord := exO2) (n := 1) (by rw [exI1]; decide) 999
  have h' : impF (startF (exT a1 a2 a3)) 3 exO2 1000 = impF (startF (exT a1 a2 a3)) 3 exO2 1 := h
  rw [h']
  exact exI2 a1 a2 a3
end

set_option maxRecDepth 100000 in
set_option maxHeartbeats 3200000 in
theorem alive_any (w : World) : Calls Try.prog 11 #[] w fun e w' => e = .returned (.bool true) ∧ Below w.heap.size w w' := by
  go_enter Try.func11, Try.ntmps11
  go_wp2_with fail
  refine (three_any _).mono ?_
  rintro e w1 ⟨A, a1, a2, a3, rfl, p1, b1⟩
  have r1 := Row.lit w1 #[.int .i64 0, .int .i64 1, .int .i64 2] 3 3 1 (fun j _ => .int .i64 (exO1 j)) (by simp only [maxLen]; omega) rfl
  have p1' := p1.later (below_a1 w1 (.cells #[.int .i64 0, .int .i64 1, .int .i64 2] 3))
  have b1' := below_up b1 (below_a1 w1 (.cells #[.int .i64 0, .int .i64 1, .int .i64 2] 3))
  have R1 := Lib.hid r1
  have P1 := Lib.hid p1'
  clear r1 p1 p1' b1
  go_wp2_with fail
  refine (Travel_any _ _ 3 _ 3 _ (exT a1 a2 a3) exO1 _ (by omega) P1.out R1.out).mono ?_
  rintro e w2 ⟨rfl, hb2⟩
  rw [exV1, exE1]
  have b2 := below_up b1' hb2
  clear R1 P1 b1' hb2
  go_wp2_with fail
  refine (three_any _).mono ?_
  rintro e w3 ⟨A', a1', a2', a3', rfl, p3, hb3⟩
  have b3 := below_up b2 hb3
  clear b2 hb3
  go_wp2_with fail
  refine (Greedy_any _ 3 _ (exT a1' a2' a3') _ p3).mono ?_
  clear p3
  rintro e w4 ⟨hb4, ⟨hE, v, rfl, hG⟩ | ⟨hE, rfl⟩⟩
  rotate_left
  · exact absurd (exChk _ _ _) hE
  obtain ⟨AG, cG, rfl, _, _, rG⟩ := hG.form
  have RG := Lib.hid rG
  have b4 := below_up b3 hb4
  clear hE hG rG b3 hb4
  go_wp2_with fail
  refine (three_any _).mono ?_
  rintro e w5 ⟨A5, c1, c2, c3, rfl, p5, hb5⟩
  have RG5 := Lib.hid (RG.out.later hb5)
  have b5 := below_up b4 hb5
  have r5 := Row.lit w5 #[.int .i64 2, .int .i64 0, .int .i64 1] 3 3 1 (fun j _ => .int .i64 (exO2 j)) (by simp only [maxLen]; omega) rfl
  have P5 := Lib.hid (p5.later (below_a1 w5 (.cells #[.int .i64 2, .int .i64 0, .int .i64 1] 3)))
  have b5' := below_up b5 (below_a1 w5 (.cells #[.int .i64 2, .int .i64 0, .int .i64 1] 3))
  have RG6 := Lib.hid (RG5.out.later (below_a1 w5 (.cells #[.int .i64 2, .int .i64 0, .int .i64 1] 3)))
  have R5 := Lib.hid r5
  clear r5 p5 b5 hb5 b4 RG RG5
  go_wp2_with fail
  refine (Improve_any _ _ 3 _ 3 _ (exT c1 c2 c3) exO2 _ (by omega) P5.out R5.out).mono ?_
  rintro e w6 ⟨hb6, ⟨hE, v, rfl, hI⟩ | ⟨hE, rfl⟩⟩
  rotate_left
  · exact absurd (exE2 _ _ _) hE
  obtain ⟨AI, cI, rfl, _, _, rI⟩ := hI.form
  have RI := Lib.hid rI
  have RG7 := Lib.hid (RG6.out.later hb6)
  have b6 := below_up b5' hb6
  clear hE hI rI b5' hb6 P5 R5 RG6
  go_wp2_with fail
  refine (three_any _).mono ?_
  rintro e w7 ⟨A7, d1, d2, d3, rfl, p7, hb7⟩
  have r7 := Row.lit w7 #[.int .i64 0, .int .i64 1, .int .i64 1] 3 3 1 (fun j _ => .int .i64 (exO3 j)) (by simp only [maxLen]; omega) rfl
  have hbb := below_up hb7 (below_a1 w7 (.cells #[.int .i64 0, .int .i64 1, .int .i64 1] 3))
  have P7 := Lib.hid (p7.later (below_a1 w7 (.cells #[.int .i64 0, .int .i64 1, .int .i64 1] 3)))
  have R7 := Lib.hid r7
  have RG8 := Lib.hid (RG7.out.later hbb)
  have RI8 := Lib.hid (RI.out.later hbb)
  have b7 := below_up b6 hbb
  clear r7 p7 hb7 hbb b6 RG7 RI
  go_wp2_with fail
  refine (Travel_any _ _ 3 _ 3 _ (exT d1 d2 d3) exO3 _ (by omega) P7.out R7.out).mono ?_
  rintro e w8 ⟨rfl, hb8⟩
  rw [exV3, exE3]
  have RG9 := Lib.hid (RG8.out.later hb8)
  have RI9 := Lib.hid (RI8.out.later hb8)
  have b8 := below_up b7 hb8
  clear P7 R7 RG8 RI8 b7 hb8
  go_wp2_with fail
  have r9 := Row.lit w8 #[.int .i64 1, .int .i64 0, .int .i64 2] 3 3 1 (fun j _ => .int .i64 (exO4 j)) (by simp only [maxLen]; omega) rfl
  have hb9 := below_a1 w8 (.cells #[.int .i64 1, .int .i64 0, .int .i64 2] 3)
  refine (sameInts_any _ _ 3 3 _ _ _ exO4 _ (by omega) (by omega) (RG9.out.later hb9) r9).mono ?_
  rintro e w10 ⟨rfl, hb10⟩
  rw [exG]
  have hbx := below_up hb9 hb10
  have RI10 := Lib.hid (RI9.out.later hbx)
  have b10 := below_up b8 hbx
  clear r9 hb9 hb10 hbx RG9 RI9 b8
  go_wp2_with fail
  have r11 := Row.lit w10 #[.int .i64 1, .int .i64 0, .int .i64 2] 3 3 1 (fun j _ => .int .i64 (exO4 j)) (by simp only [maxLen]; omega) rfl
  have hb11 := below_a1 w10 (.cells #[.int .i64 1, .int .i64 0, .int .i64 2] 3)
  refine (sameInts_any _ _ 3 3 _ _ _ exO4 _ (by omega) (by omega) (RI10.out.later hb11) r11).mono ?_
  rintro e w12 ⟨rfl, hb12⟩
  rw [exI]
  have b12 := below_up b10 (below_up hb11 hb12)
  go_wp2_with fail
  go_ret
  exact ⟨rfl, b12⟩

end Go.Proofs.Ytpjckolfjaffjaa
