/- garmentlaw37.box, awake. -/
import Derived.Test.YtcalchlfipbpkaaSplD
namespace Go.Proofs.Ytcalchlfipbpkaa
open Go.RowKit
set_option linter.unusedSimpArgs false
set_option linter.unusedVariables false

def rect (lo hi : Int) : Nat → Spot
  | 0 => ⟨lo, 0⟩
  | 1 => ⟨hi, 0⟩
  | 2 => ⟨hi, 5⟩
  | _ => ⟨lo, 5⟩

theorem boxlaw_any (lo hi : Int) (w : World) : Calls Try.prog 17 #[.int .i64 lo, .int .i64 hi] w fun e w' => ∃ A, e = .returned (.slice A 4 4) ∧ Spots w' w'.heap.size A 4 (rect lo hi) ∧ Below w.heap.size w w' := by
  have h1 := Row.lit w #[.int .i64 lo, .int .i64 0, .int .i64 hi, .int .i64 0, .int .i64 hi, .int .i64 5, .int .i64 lo, .int .i64 5] 4 50 2 (fun i j => if j = 0 then .int .i64 (rect lo hi i).x else .int .i64 (rect lo hi i).y) (by simp only [maxLen]; omega) rfl
  have HS := Lib.hid (spots_of_row h1)
  clear h1
  go_enter Try.func17, Try.ntmps17
  go_wp2_with fail
  go_ret
  exact ⟨_, rfl, HS.out, below_a1 _ _⟩

def exP (a1 a2 : Option Addr) : Nat → Poly
  | 0 => ⟨a1, 4, 4, rect 0 40⟩
  | _ => ⟨a2, 4, 4, rect 30 60⟩
def exQ : Nat → Poly := fun _ => ⟨none, 0, 0, fun _ => ⟨0, 0⟩⟩

section
variable (a1 a2 : Option Addr)
theorem exB1 : backV 60 2 (exP a1 a2) 50 = 30 := by kernel_rfl
theorem exE1 : backErr 60 2 (exP a1 a2) 50 = 0 := by kernel_rfl
theorem exB2 : backV 60 2 (exP a1 a2) 39 = 0 := by kernel_rfl
theorem exE2 : backErr 60 2 (exP a1 a2) 39 = 0 := by kernel_rfl
theorem exB3 : backV 50 2 (exP a1 a2) 50 = 0 := by kernel_rfl
theorem exE3 : backErr 50 2 (exP a1 a2) 50 = 13 := by kernel_rfl
theorem exZ1 : bestZ 60 2 (exP a1 a2) 0 50 = ⟨30, 40⟩ := by kernel_rfl
theorem exC1 : bestCode 60 2 (exP a1 a2) 0 50 = 0 := by kernel_rfl
theorem exZ2 : bestZ 60 2 (exP a1 a2) 0 60 = ⟨60, 60⟩ := by kernel_rfl
theorem exC2 : bestCode 60 2 (exP a1 a2) 0 60 = 0 := by kernel_rfl
theorem exZ3 : bestZ 60 2 (exP a1 a2) 30 50 = ⟨0, 0⟩ := by kernel_rfl
theorem exC3 : bestCode 60 2 (exP a1 a2) 30 50 = 18 := by kernel_rfl
theorem exZ4 : bestZ 60 0 exQ 7 9 = ⟨9, 9⟩ := by kernel_rfl
theorem exC4 : bestCode 60 0 exQ 7 9 = 0 := by kernel_rfl
theorem exZ5 : bestZ 60 0 exQ 9 9 = ⟨0, 0⟩ := by kernel_rfl
theorem exC5 : bestCode 60 0 exQ 9 9 = 18 := by kernel_rfl
end

def sameZoneF (s t : Zone) : Bool := decide (s.lo = t.lo ∧ s.hi = t.hi)

theorem zone_guard (x y : Operand) (xs ys : Array Value) (w : World) : (eqGuard .eql 30 x y (.agg xs) (.agg ys)).run Try.prog w = .ok () w := run_eqGuard_agg w _ _ _ _ _ _ (by kernel_rfl)

theorem zone_eql (a b c d : Int) (w : World) : (binOp .eql 30 (.agg #[.int .i64 a, .int .i64 b]) (.agg #[.int .i64 c, .int .i64 d])).run Try.prog w = .ok (.bool (sameZoneF ⟨a, b⟩ ⟨c, d⟩)) w := by
  have h1 : Try.prog.stoodInHeld 30 = false := by kernel_rfl
  have h2 : Try.prog.underlying 30 = some (.struct (Try.prog.fieldsOf 30)) := by kernel_rfl
  have h3 : (Try.prog.fieldsOf 30).toList = [⟨"Lo", 3, 0, false, "", "", 0⟩, ⟨"Hi", 3, 1, false, "", "", 8⟩] := by kernel_rfl
  rw [run_eql_struct, run_equalIn_agg w _ _ _ _ h2 h1, h3]
  clear h1 h2 h3
  by_cases e1 : a = c <;> by_cases e2 : b = d <;> simp [go_sem, sameZoneF, e1, e2]

theorem exS1 : sameZoneF ⟨30, 40⟩ ⟨30, 40⟩ = true := by decide
theorem exS2 : sameZoneF ⟨60, 60⟩ ⟨60, 60⟩ = true := by decide
theorem exS3 : sameZoneF ⟨9, 9⟩ ⟨9, 9⟩ = true := by decide

theorem polys_none (w : World) : Polys w w.heap.size none 0 exQ := ⟨row_none _ _ _ _, fun i hi => absurd hi (by omega)⟩

set_option maxRecDepth 100000 in
set_option maxHeartbeats 3200000 in
theorem awake_any (w : World) : Calls Try.prog 10 #[] w fun e w' => e = .returned (.bool true) ∧ Below w.heap.size w w' := by
  have hq1 := zone_eql
  have hq2 := zone_guard
  have hs1 := exS1
  have hs2 := exS2
  have hs3 := exS3
  go_enter Try.func10, Try.ntmps10
  go_wp2_with fail
  refine (boxlaw_any 0 40 _).mono ?_
  rintro e w1 ⟨A1, rfl, p1, b1⟩
  have P1 := Lib.hid p1
  clear p1
  go_wp2_with fail
  refine (boxlaw_any 30 60 _).mono ?_
  rintro e w2 ⟨A2, rfl, p2, b2⟩
  have P2 := Lib.hid p2
  have P12 := Lib.hid (P1.out.later b2)
  have b12 := below_up b1 b2
  clear p2 P1 b1 b2
  go_upto_region 2 with (fail)
  have hr := Row.lit w2 #[.slice A1 4 4, .slice A2 4 4] 2 39 1 (fun i _ => .slice (exP A1 A2 i).pa (exP A1 A2 i).pn (exP A1 A2 i).pc) (by simp only [maxLen]; omega) rfl
  have bl := below_a1 w2 (.cells #[.slice A1 4 4, .slice A2 4 4] 39)
  have P3 : Hid (Polys (w2.alloc (.cells #[.slice A1 4 4, .slice A2 4 4] 39)) (w2.alloc (.cells #[.slice A1 4 4, .slice A2 4 4] 39)).heap.size (some ⟨w2.heap.size, 0, none⟩) 2 (exP A1 A2)) := Lib.hid ⟨hr, fun i hi => by
    match i, hi with
    | 0, _ => exact ⟨P12.out.later bl, Nat.le_refl _, by show 4 ≤ 100; omega⟩
    | 1, _ => exact ⟨P2.out.later bl, Nat.le_refl _, by show 4 ≤ 100; omega⟩⟩
  have bb3 := below_up b12 bl
  clear hr bl P12 P2 b12
  generalize (some (⟨w2.heap.size, 0, none⟩ : Addr)) = AP at P3 ⊢
  generalize hW : w2.alloc _ = W3 at P3 bb3 ⊢
  clear hW
  go_wp2_with fail
  refine (Back_any 60 _ 2 _ (exP A1 A2) 50 _ P3.out).mono ?_
  rintro e w4 ⟨rfl, hb4⟩
  rw [exB1, exE1]
  have P4 := Lib.hid (P3.out.later hb4)
  have bb4 := below_up bb3 hb4
  clear P3 bb3 hb4 
  go_wp2_with fail
  refine (Back_any 60 _ 2 _ (exP A1 A2) 39 _ P4.out).mono ?_
  rintro e w5 ⟨rfl, hb5⟩
  rw [exB2, exE2]
  have P5 := Lib.hid (P4.out.later hb5)
  have bb5 := below_up bb4 hb5
  clear P4 bb4 hb5 
  go_wp2_with fail
  refine (Best_any 60 _ 2 _ (exP A1 A2) 0 50 _ P5.out).mono ?_
  rintro e w6 ⟨rfl, hb6⟩
  rw [exZ1, exC1]
  have P6 := Lib.hid (P5.out.later hb6)
  have bb6 := below_up bb5 hb6
  clear P5 bb5 hb6 
  simp only [zoneV]
  go_upto_region 5 with (fail)
  have Ka := Lib.hid (Blk.new w6 30 #[.int .i64 30, .int .i64 40])
  have P7 := Lib.hid (P6.out.later (below_a1 w6 (.cells #[.int .i64 30, .int .i64 40] 30)))
  have bb7 := below_up bb6 (below_a1 w6 (.cells #[.int .i64 30, .int .i64 40] 30))
  clear P6 bb6 
  obtain ⟨ga, hg⟩ : ∃ g, g = w6.heap.size := ⟨_, rfl⟩
  rw [← hg] at Ka
  rw [← hg]
  generalize hW : w6.alloc _ = W7 at Ka P7 bb7 ⊢
  clear hW hg
  go_wp2_with fail
  refine (Best_any 60 _ 2 _ (exP A1 A2) 0 60 _ P7.out).mono ?_
  rintro e w8 ⟨rfl, hb8⟩
  rw [exZ2, exC2]
  have P8 := Lib.hid (P7.out.later hb8)
  have bb8 := below_up bb7 hb8
  have Kax := Lib.hid (Ka.out.later hb8)
  clear P7 bb7 hb8 Ka
  simp only [zoneV]
  go_upto_region 6 with (fail)
  have Kb := Lib.hid (Blk.new w8 30 #[.int .i64 60, .int .i64 60])
  have P9 := Lib.hid (P8.out.later (below_a1 w8 (.cells #[.int .i64 60, .int .i64 60] 30)))
  have bb9 := below_up bb8 (below_a1 w8 (.cells #[.int .i64 60, .int .i64 60] 30))
  have Kaxx := Lib.hid (Kax.out.alloc (.cells #[.int .i64 60, .int .i64 60] 30))
  clear P8 bb8 Kax
  obtain ⟨gb, hg⟩ : ∃ g, g = w8.heap.size := ⟨_, rfl⟩
  rw [← hg] at Kb
  rw [← hg]
  generalize hW : w8.alloc _ = W9 at Kaxx Kb P9 bb9 ⊢
  clear hW hg
  go_wp2_with fail
  refine (Best_any 60 _ 2 _ (exP A1 A2) 30 50 _ P9.out).mono ?_
  rintro e w10 ⟨rfl, hb10⟩
  rw [exZ3, exC3]
  have P10 := Lib.hid (P9.out.later hb10)
  have bb10 := below_up bb9 hb10
  have Kaxxx := Lib.hid (Kaxx.out.later hb10)
  have Kbx := Lib.hid (Kb.out.later hb10)
  clear P9 bb9 hb10 Kaxx Kb
  simp only [zoneV]
  go_upto_region 7 with (fail)
  have Kc := Lib.hid (Blk.new w10 30 #[.int .i64 0, .int .i64 0])
  have P11 := Lib.hid (P10.out.later (below_a1 w10 (.cells #[.int .i64 0, .int .i64 0] 30)))
  have bb11 := below_up bb10 (below_a1 w10 (.cells #[.int .i64 0, .int .i64 0] 30))
  have Kaxxxx := Lib.hid (Kaxxx.out.alloc (.cells #[.int .i64 0, .int .i64 0] 30))
  have Kbxx := Lib.hid (Kbx.out.alloc (.cells #[.int .i64 0, .int .i64 0] 30))
  clear P10 bb10 Kaxxx Kbx
  obtain ⟨gc, hg⟩ : ∃ g, g = w10.heap.size := ⟨_, rfl⟩
  rw [← hg] at Kc
  rw [← hg]
  generalize hW : w10.alloc _ = W11 at Kaxxxx Kbxx Kc P11 bb11 ⊢
  clear hW hg
  go_wp2_with fail
  refine (Back_any 50 _ 2 _ (exP A1 A2) 50 _ P11.out).mono ?_
  rintro e w12 ⟨rfl, hb12⟩
  rw [exB3, exE3]
  have P12 := Lib.hid (P11.out.later hb12)
  have bb12 := below_up bb11 hb12
  have Kaxxxxx := Lib.hid (Kaxxxx.out.later hb12)
  have Kbxxx := Lib.hid (Kbxx.out.later hb12)
  have Kcx := Lib.hid (Kc.out.later hb12)
  clear P11 bb11 hb12 Kaxxxx Kbxx Kc
  go_wp2_with fail
  refine (Best_any 60 _ 0 _ exQ 7 9 _ (polys_none _)).mono ?_
  rintro e w13 ⟨rfl, hb13⟩
  rw [exZ4, exC4]
  have P13 := Lib.hid (P12.out.later hb13)
  have bb13 := below_up bb12 hb13
  have Kaxxxxxx := Lib.hid (Kaxxxxx.out.later hb13)
  have Kbxxxx := Lib.hid (Kbxxx.out.later hb13)
  have Kcxx := Lib.hid (Kcx.out.later hb13)
  clear P12 bb12 hb13 Kaxxxxx Kbxxx Kcx
  simp only [zoneV]
  go_upto_region 9 with (fail)
  have Kd := Lib.hid (Blk.new w13 30 #[.int .i64 9, .int .i64 9])
  have P14 := Lib.hid (P13.out.later (below_a1 w13 (.cells #[.int .i64 9, .int .i64 9] 30)))
  have bb14 := below_up bb13 (below_a1 w13 (.cells #[.int .i64 9, .int .i64 9] 30))
  have Kaxxxxxxx := Lib.hid (Kaxxxxxx.out.alloc (.cells #[.int .i64 9, .int .i64 9] 30))
  have Kbxxxxx := Lib.hid (Kbxxxx.out.alloc (.cells #[.int .i64 9, .int .i64 9] 30))
  have Kcxxx := Lib.hid (Kcxx.out.alloc (.cells #[.int .i64 9, .int .i64 9] 30))
  clear P13 bb13 Kaxxxxxx Kbxxxx Kcxx
  obtain ⟨gd, hg⟩ : ∃ g, g = w13.heap.size := ⟨_, rfl⟩
  rw [← hg] at Kd
  rw [← hg]
  generalize hW : w13.alloc _ = W14 at Kaxxxxxxx Kbxxxxx Kcxxx Kd P14 bb14 ⊢
  clear hW hg
  go_wp2_with fail
  refine (Best_any 60 _ 0 _ exQ 9 9 _ (polys_none _)).mono ?_
  rintro e w15 ⟨rfl, hb15⟩
  rw [exZ5, exC5]
  have P15 := Lib.hid (P14.out.later hb15)
  have bb15 := below_up bb14 hb15
  have Kaxxxxxxxx := Lib.hid (Kaxxxxxxx.out.later hb15)
  have Kbxxxxxx := Lib.hid (Kbxxxxx.out.later hb15)
  have Kcxxxx := Lib.hid (Kcxxx.out.later hb15)
  have Kdx := Lib.hid (Kd.out.later hb15)
  clear P14 bb14 hb15 Kaxxxxxxx Kbxxxxx Kcxxx Kd
  simp only [zoneV]
  go_upto_region 10 with (fail)
  have Ke := Lib.hid (Blk.new w15 30 #[.int .i64 0, .int .i64 0])
  have P16 := Lib.hid (P15.out.later (below_a1 w15 (.cells #[.int .i64 0, .int .i64 0] 30)))
  have bb16 := below_up bb15 (below_a1 w15 (.cells #[.int .i64 0, .int .i64 0] 30))
  have Kaxxxxxxxxx := Lib.hid (Kaxxxxxxxx.out.alloc (.cells #[.int .i64 0, .int .i64 0] 30))
  have Kbxxxxxxx := Lib.hid (Kbxxxxxx.out.alloc (.cells #[.int .i64 0, .int .i64 0] 30))
  have Kcxxxxx := Lib.hid (Kcxxxx.out.alloc (.cells #[.int .i64 0, .int .i64 0] 30))
  have Kdxx := Lib.hid (Kdx.out.alloc (.cells #[.int .i64 0, .int .i64 0] 30))
  clear P15 bb15 Kaxxxxxxxx Kbxxxxxx Kcxxxx Kdx
  obtain ⟨ge, hg⟩ : ∃ g, g = w15.heap.size := ⟨_, rfl⟩
  rw [← hg] at Ke
  rw [← hg]
  generalize hW : w15.alloc _ = W16 at Kaxxxxxxxxx Kbxxxxxxx Kcxxxxx Kdxx Ke P16 bb16 ⊢
  clear hW hg
  have c00 := Kaxxxxxxxxx.out.cell 0
  have c01 := Kaxxxxxxxxx.out.cell 1
  simp at c00 c01
  have c10 := Kbxxxxxxx.out.cell 0
  have c11 := Kbxxxxxxx.out.cell 1
  simp at c10 c11
  have c30 := Kdxx.out.cell 0
  have c31 := Kdxx.out.cell 1
  simp at c30 c31
  go_wp2_with fail
  go_ret
  exact ⟨rfl, bb16⟩

end Go.Proofs.Ytcalchlfipbpkaa
