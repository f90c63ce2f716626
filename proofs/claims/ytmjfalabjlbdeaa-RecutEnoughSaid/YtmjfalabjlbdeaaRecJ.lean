/- The chapter's examples hold: exampleHolds returns true. -/
import Derived.Test.YtmjfalabjlbdeaaRecI
namespace Go.Proofs.Ytmjfalabjlbdeaa
open Go.RowKit
set_option linter.unusedSimpArgs false
set_option linter.unusedVariables false

def exRest : Nat → Rest
  | 0 => ⟨4, 0, 0, 30⟩
  | _ => ⟨5, 0, 10, 60⟩
def exLeft : Nat → Rest
  | 0 => ⟨4, 0, 30, 30⟩
  | _ => ⟨5, 0, 30, 60⟩
def exNeed : Nat → Need
  | 0 => ⟨0, 20⟩
  | 1 => ⟨0, 20⟩
  | 2 => ⟨0, 10⟩
  | _ => ⟨1, 1⟩
def exGot : Nat → Int
  | 0 => 0
  | 1 => 1
  | 2 => 0
  | _ => -1
def exCut (a0 a1 a2 : Option Addr) : Nat → Cut
  | 0 => ⟨0, 0, 1, 0, a0, 1, 1, true⟩
  | 1 => ⟨0, 1, 1, 2, a1, 1, 1, true⟩
  | _ => ⟨0, 0, 1, 0, a2, 1, 1, false⟩
def exSpot0 : Nat → Spot
  | 0 => ⟨0, 0⟩
  | 1 => ⟨40, 0⟩
  | _ => ⟨0, 9⟩
def exSpot1 : Nat → Spot
  | 0 => ⟨50, 0⟩
  | 1 => ⟨80, 0⟩
  | _ => ⟨60, 9⟩
def exPoly (p0 p1 : Option Addr) : Nat → Poly
  | 0 => ⟨p0, 3, 3, exSpot0⟩
  | _ => ⟨p1, 3, 3, exSpot1⟩
def exOne : Nat → Rest := fun _ => ⟨7, 1, 5, 55⟩
def exOneLeft : Nat → Rest := fun _ => ⟨7, 1, 45, 55⟩
def exWant : Nat → Need
  | 0 => ⟨1, 40⟩
  | _ => ⟨1, 30⟩
def exIdx : Nat → Int
  | 0 => 0
  | _ => 1
def exNew (b0 a1 a2 : Option Addr) : Nat → Cut
  | 0 => ⟨0, 0, 1, 0, b0, 1, 1, false⟩
  | 1 => ⟨0, 1, 1, 2, a1, 1, 1, true⟩
  | _ => ⟨0, 0, 1, 0, a2, 1, 1, false⟩
def exNewRoll : Nat → Nat → Int
  | 0 => fun _ => 7
  | _ => fun _ => 0

theorem ex_got : sameListF 4 4 (fun i => decide (gotF 2 exNeed exRest i = exGot i)) = true := by kernel_rfl
theorem ex_left : sameListF 2 2 (fun i => sameRestF (leftF 2 exNeed exRest 4 i) (exLeft i)) = true := by kernel_rfl

section
variable (a0 a1 a2 p0 p1 b0 : Option Addr)
theorem ex_dmgs : dmgs (exCut a0 a1 a2) 3 = [0, 1] := by kernel_rfl
theorem ex_err : firstErr (fun i => cutErr 2 (exPoly p0 p1) (exCut a0 a1 a2 i)) 3 = 0 := by kernel_rfl
theorem ex_err1 : firstErr (fun i => cutErr 1 (exPoly p0 p1) (exCut a0 a1 a2 i)) 3 = 3 := by kernel_rfl
theorem ex_need : sameListF 2 2 (fun i => sameNeedF (needAt (exCut a0 a1 a2) (exPoly p0 p1) 3 i) (exWant i)) = true := by kernel_rfl
theorem ex_idx : sameListF 2 2 (fun i => decide (idxAt (exCut a0 a1 a2) 3 i = exIdx i)) = true := by kernel_rfl
theorem ex_cuts : sameListF 3 3 (fun i => sameCutF (recutF 3 1 (exCut a0 a1 a2) (exPoly p0 p1) exOne (fun i => pieceOf (exCut a0 a1 a2 i) ((fun _ _ => 0) i)) 2 i) (pieceOf (exNew b0 a1 a2 i) (exNewRoll i))) = true := by kernel_rfl
theorem ex_rest : sameListF 1 1 (fun i => sameRestF (leftF 1 (needAt (exCut a0 a1 a2) (exPoly p0 p1) 3) exOne 2 i) (exOneLeft i)) = true := by kernel_rfl
end

theorem spots_of_row {w : World} {B : Nat} {A : Option Addr} {n : Nat} {p : Nat → Spot} (h : Row w B 2 A n (fun i j => if j = 0 then .int .i64 (p i).x else .int .i64 (p i).y)) : Spots w B A n p := by
  intro h0
  obtain ⟨b, off, hA, hb, hc⟩ := h h0
  exact ⟨b, off, hA, hb, fun i hi => ⟨hc i 0 hi (by omega), hc i 1 hi (by omega)⟩⟩

/-- The example's cut pieces, laid in memory. -/
def exWorld (w : World) : World := (((w.alloc (.cells #[.int .i64 0] 3)).alloc (.cells #[.int .i64 0] 3)).alloc (.cells #[.int .i64 0] 3)).alloc (.cells #[.int .i64 0, .int .i64 0, .int .i64 1, .int .i64 0, .slice (some ⟨w.heap.size, 0, none⟩) 1 1, .bool true, .int .i64 0, .int .i64 1, .int .i64 1, .int .i64 2, .slice (some ⟨w.heap.size + 1, 0, none⟩) 1 1, .bool true, .int .i64 0, .int .i64 0, .int .i64 1, .int .i64 0, .slice (some ⟨w.heap.size + 1 + 1, 0, none⟩) 1 1, .bool false] 43)

theorem row_one (w : World) (x : Int) (t : TypeId) : Row (w.alloc (.cells #[.int .i64 x] t)) (w.alloc (.cells #[.int .i64 x] t)).heap.size 1 (some ⟨w.heap.size, 0, none⟩) 1 (fun _ _ => .int .i64 x) :=
  Row.lit w #[.int .i64 x] 1 t 1 _ (by simp only [maxLen]; omega) rfl

theorem ex_mem (w : World) : (exWorld w).heap.size = w.heap.size + 4 ∧ Below w.heap.size w (exWorld w) ∧
    Row (exWorld w) (exWorld w).heap.size 6 (some ⟨w.heap.size + 1 + 1 + 1, 0, none⟩) 3 (fun i => (exCut (some ⟨w.heap.size, 0, none⟩) (some ⟨w.heap.size + 1, 0, none⟩) (some ⟨w.heap.size + 1 + 1, 0, none⟩) i).c) ∧
    Row (exWorld w) (exWorld w).heap.size 1 (some ⟨w.heap.size, 0, none⟩) 1 (fun _ _ => .int .i64 0) ∧
    Row (exWorld w) (exWorld w).heap.size 1 (some ⟨w.heap.size + 1, 0, none⟩) 1 (fun _ _ => .int .i64 0) ∧
    Row (exWorld w) (exWorld w).heap.size 1 (some ⟨w.heap.size + 1 + 1, 0, none⟩) 1 (fun _ _ => .int .i64 0) := by
  have h1 := row_one w 0 3
  have h2 := row_one (w.alloc (.cells #[.int .i64 0] 3)) 0 3
  have h3 := row_one ((w.alloc (.cells #[.int .i64 0] 3)).alloc (.cells #[.int .i64 0] 3)) 0 3
  have h4 := Row.lit (((w.alloc (.cells #[.int .i64 0] 3)).alloc (.cells #[.int .i64 0] 3)).alloc (.cells #[.int .i64 0] 3)) #[.int .i64 0, .int .i64 0, .int .i64 1, .int .i64 0, .slice (some ⟨w.heap.size, 0, none⟩) 1 1, .bool true, .int .i64 0, .int .i64 1, .int .i64 1, .int .i64 2, .slice (some ⟨w.heap.size + 1, 0, none⟩) 1 1, .bool true, .int .i64 0, .int .i64 0, .int .i64 1, .int .i64 0, .slice (some ⟨w.heap.size + 1 + 1, 0, none⟩) 1 1, .bool false] 3 43 6 (fun i => (exCut (some ⟨w.heap.size, 0, none⟩) (some ⟨w.heap.size + 1, 0, none⟩) (some ⟨w.heap.size + 1 + 1, 0, none⟩) i).c) (by simp only [maxLen]; omega) rfl
  have e1 : (w.alloc (.cells #[.int .i64 0] 3)).heap.size = w.heap.size + 1 := by simp
  have e2 : ((w.alloc (.cells #[.int .i64 0] 3)).alloc (.cells #[.int .i64 0] 3)).heap.size = w.heap.size + 1 + 1 := by simp
  have e3 : (((w.alloc (.cells #[.int .i64 0] 3)).alloc (.cells #[.int .i64 0] 3)).alloc (.cells #[.int .i64 0] 3)).heap.size = w.heap.size + 1 + 1 + 1 := by simp
  rw [e1] at h2
  rw [e2] at h3
  rw [e3] at h4
  exact ⟨by unfold exWorld; simp, below_a4 _ _ _ _ _, h4, ((h1.later (below_a1 _ _)).later (below_a1 _ _)).later (below_a1 _ _), (h2.later (below_a1 _ _)).later (below_a1 _ _), h3.later (below_a1 _ _)⟩

/-- The example's polygons, laid in memory. -/
def exWorld2 (w : World) : World := ((w.alloc (.cells #[.int .i64 0, .int .i64 0, .int .i64 40, .int .i64 0, .int .i64 0, .int .i64 9] 54)).alloc (.cells #[.int .i64 50, .int .i64 0, .int .i64 80, .int .i64 0, .int .i64 60, .int .i64 9] 54)).alloc (.cells #[.slice (some ⟨w.heap.size, 0, none⟩) 3 3, .slice (some ⟨w.heap.size + 1, 0, none⟩) 3 3] 52)

theorem ex_mem2 (w : World) : Below w.heap.size w (exWorld2 w) ∧ Polys (exWorld2 w) (exWorld2 w).heap.size (some ⟨w.heap.size + 1 + 1, 0, none⟩) 2 (exPoly (some ⟨w.heap.size, 0, none⟩) (some ⟨w.heap.size + 1, 0, none⟩)) := by
  have h1 := Row.lit w #[.int .i64 0, .int .i64 0, .int .i64 40, .int .i64 0, .int .i64 0, .int .i64 9] 3 54 2 (fun i j => if j = 0 then .int .i64 (exSpot0 i).x else .int .i64 (exSpot0 i).y) (by simp only [maxLen]; omega) rfl
  have h2 := Row.lit (w.alloc (.cells #[.int .i64 0, .int .i64 0, .int .i64 40, .int .i64 0, .int .i64 0, .int .i64 9] 54)) #[.int .i64 50, .int .i64 0, .int .i64 80, .int .i64 0, .int .i64 60, .int .i64 9] 3 54 2 (fun i j => if j = 0 then .int .i64 (exSpot1 i).x else .int .i64 (exSpot1 i).y) (by simp only [maxLen]; omega) rfl
  have h3 := Row.lit ((w.alloc (.cells #[.int .i64 0, .int .i64 0, .int .i64 40, .int .i64 0, .int .i64 0, .int .i64 9] 54)).alloc (.cells #[.int .i64 50, .int .i64 0, .int .i64 80, .int .i64 0, .int .i64 60, .int .i64 9] 54)) #[.slice (some ⟨w.heap.size, 0, none⟩) 3 3, .slice (some ⟨w.heap.size + 1, 0, none⟩) 3 3] 2 52 1 (fun i _ => .slice (exPoly (some ⟨w.heap.size, 0, none⟩) (some ⟨w.heap.size + 1, 0, none⟩) i).pa (exPoly (some ⟨w.heap.size, 0, none⟩) (some ⟨w.heap.size + 1, 0, none⟩) i).pn (exPoly (some ⟨w.heap.size, 0, none⟩) (some ⟨w.heap.size + 1, 0, none⟩) i).pc) (by simp only [maxLen]; omega) rfl
  have e1 : (w.alloc (.cells #[.int .i64 0, .int .i64 0, .int .i64 40, .int .i64 0, .int .i64 0, .int .i64 9] 54)).heap.size = w.heap.size + 1 := by simp
  have e2 : ((w.alloc (.cells #[.int .i64 0, .int .i64 0, .int .i64 40, .int .i64 0, .int .i64 0, .int .i64 9] 54)).alloc (.cells #[.int .i64 50, .int .i64 0, .int .i64 80, .int .i64 0, .int .i64 60, .int .i64 9] 54)).heap.size = w.heap.size + 1 + 1 := by simp
  rw [e1] at h2
  rw [e2] at h3
  refine ⟨below_a3 _ _ _ _, h3, fun i hi => ?_⟩
  match i, hi with
  | 0, _ => exact ⟨spots_of_row ((h1.later (below_a1 _ _)).later (below_a1 _ _)), Nat.le_refl _, by show 3 ≤ 100; omega⟩
  | 1, _ => exact ⟨spots_of_row (h2.later (below_a1 _ _)), Nat.le_refl _, by show 3 ≤ 100; omega⟩

end Go.Proofs.Ytmjfalabjlbdeaa
