/- parted, meet and the reference's meet. -/
import Derived.Test.YtpjckolfjaffjaaPolyA
namespace Go.Proofs.Ytpjckolfjaffjaa
open Go.RowKit
set_option linter.unusedSimpArgs false
set_option linter.unusedVariables false

set_option maxHeartbeats 800000 in
theorem parted_any (ax ay bx bY cx cy dx dy : Int) (w : World) (ha : Spot.ok ⟨ax, ay⟩) (hb : Spot.ok ⟨bx, bY⟩) (hc : Spot.ok ⟨cx, cy⟩) (hd : Spot.ok ⟨dx, dy⟩) :
    Calls Try.prog 51 #[.agg #[.int .i64 ax, .int .i64 ay], .agg #[.int .i64 bx, .int .i64 bY], .agg #[.int .i64 cx, .int .i64 cy], .agg #[.int .i64 dx, .int .i64 dy]] w
      fun e w' => e = .returned (.bool (partedF ⟨ax, ay⟩ ⟨bx, bY⟩ ⟨cx, cy⟩ ⟨dx, dy⟩)) ∧ Below w.heap.size w w' := by
  have hbd := sgn_mul_bd (crossF ⟨ax, ay⟩ ⟨bx, bY⟩ ⟨cx, cy⟩) (crossF ⟨ax, ay⟩ ⟨bx, bY⟩ ⟨dx, dy⟩)
  go_enter Try.func51, Try.ntmps51
  go_wp2_with fail
  generalize hW : ((((w.alloc _).alloc _).alloc _).alloc _) = W
  obtain ⟨hs, hbw, c0, c1, c2, c3, c4, c5, c6, c7⟩ := four_boxes _ _ _ _ _ _ _ _ _ _ _ hW
  clear hW
  have x0 := fun x : Ext (w.heap.size + 4) W => x.cell (by omega) c0
  have x1 := fun x : Ext (w.heap.size + 4) W => x.cell (by omega) c1
  have x2 := fun x : Ext (w.heap.size + 4) W => x.cell (by omega) c2
  have x3 := fun x : Ext (w.heap.size + 4) W => x.cell (by omega) c3
  have x4 := fun x : Ext (w.heap.size + 4) W => x.cell (by omega) c4
  have x5 := fun x : Ext (w.heap.size + 4) W => x.cell (by omega) c5
  have x6 := fun x : Ext (w.heap.size + 4) W => x.cell (by omega) c6
  have x7 := fun x : Ext (w.heap.size + 4) W => x.cell (by omega) c7
  refine region_ext (w.heap.size + 4) (by kernel_rfl) (by kernel_rfl) ?_
  repeat (go_big_quiet_step (first | (go_at_call 49; exact calls_ext (by omega) (cross_any _ _ _ _ _ _ _ (by assumption) (by assumption) (by assumption))) | (go_at_call 54; exact calls_ext_same (compare_any _ _ _))))
  refine wpQuiet_nil ?_
  rintro _ ⟨x, rfl⟩
  obtain ⟨wq, hq⟩ := x
  dsimp only
  go_wp2_with fail
  go_ret
  refine ⟨ret_bool ?_, hbw.trans (hq.mono (by omega))⟩
  rw [cmp_sgn, cmp_sgn, wrap_in _ (by omega) (by omega)]
  rfl

set_option maxHeartbeats 1600000 in
theorem meet_case (ax ay bx bY cx cy dx dy : Int) (w : World) (ha : Spot.ok ⟨ax, ay⟩) (hb : Spot.ok ⟨bx, bY⟩) (hc : Spot.ok ⟨cx, cy⟩) (hd : Spot.ok ⟨dx, dy⟩) (b1 b2 b3 b4 p1 p2 r : Bool)
    (h1 : onF ⟨ax, ay⟩ ⟨bx, bY⟩ ⟨cx, cy⟩ = b1) (h2 : onF ⟨ax, ay⟩ ⟨bx, bY⟩ ⟨dx, dy⟩ = b2) (h3 : onF ⟨cx, cy⟩ ⟨dx, dy⟩ ⟨ax, ay⟩ = b3) (h4 : onF ⟨cx, cy⟩ ⟨dx, dy⟩ ⟨bx, bY⟩ = b4)
    (k1 : partedF ⟨ax, ay⟩ ⟨bx, bY⟩ ⟨cx, cy⟩ ⟨dx, dy⟩ = p1) (k2 : partedF ⟨cx, cy⟩ ⟨dx, dy⟩ ⟨ax, ay⟩ ⟨bx, bY⟩ = p2) (hr : Hid ((b1 || b2 || b3 || b4 || (p1 && p2)) = r)) :
    Calls Try.prog 45 #[.agg #[.int .i64 ax, .int .i64 ay], .agg #[.int .i64 bx, .int .i64 bY], .agg #[.int .i64 cx, .int .i64 cy], .agg #[.int .i64 dx, .int .i64 dy]] w
      fun e w' => e = .returned (.bool r) ∧ Below w.heap.size w w' := by
  go_enter Try.func45, Try.ntmps45
  go_upto_region 1 with (fail)
  generalize hW : ((((w.alloc _).alloc _).alloc _).alloc _) = W
  obtain ⟨hs, hbw, c0, c1, c2, c3, c4, c5, c6, c7⟩ := four_boxes _ _ _ _ _ _ _ _ _ _ _ hW
  clear hW
  have x0 := fun x : Ext (w.heap.size + 4) W => x.cell (by omega) c0
  have x1 := fun x : Ext (w.heap.size + 4) W => x.cell (by omega) c1
  have x2 := fun x : Ext (w.heap.size + 4) W => x.cell (by omega) c2
  have x3 := fun x : Ext (w.heap.size + 4) W => x.cell (by omega) c3
  have x4 := fun x : Ext (w.heap.size + 4) W => x.cell (by omega) c4
  have x5 := fun x : Ext (w.heap.size + 4) W => x.cell (by omega) c5
  have x6 := fun x : Ext (w.heap.size + 4) W => x.cell (by omega) c6
  have x7 := fun x : Ext (w.heap.size + 4) W => x.cell (by omega) c7
  have H1 := Lib.hid h1
  have H2 := Lib.hid h2
  have H3 := Lib.hid h3
  have H4 := Lib.hid h4
  have K1 := Lib.hid k1
  have K2 := Lib.hid k2
  clear h1 h2 h3 h4 k1 k2
  refine plain_ext (w.heap.size + 4) ?_
  repeat (go_big_quiet_step (first | (go_at_call 50; exact calls_ext_bool (by omega) (on_any _ _ _ _ _ _ _ ha hb hc) H1.out) | (go_at_call 50; exact calls_ext_bool (by omega) (on_any _ _ _ _ _ _ _ ha hb hd) H2.out) | (go_at_call 50; exact calls_ext_bool (by omega) (on_any _ _ _ _ _ _ _ hc hd ha) H3.out) | (go_at_call 50; exact calls_ext_bool (by omega) (on_any _ _ _ _ _ _ _ hc hd hb) H4.out) | (go_at_call 51; exact calls_ext_bool (by omega) (parted_any _ _ _ _ _ _ _ _ _ ha hb hc hd) K1.out) | (go_at_call 51; exact calls_ext_bool (by omega) (parted_any _ _ _ _ _ _ _ _ _ hc hd ha hb) K2.out)))
  rcases b1 with _ | _
  rotate_left
  · repeat (go_big_quiet_step (first | (go_at_call 50; exact calls_ext_bool (by omega) (on_any _ _ _ _ _ _ _ ha hb hc) H1.out) | (go_at_call 50; exact calls_ext_bool (by omega) (on_any _ _ _ _ _ _ _ ha hb hd) H2.out) | (go_at_call 50; exact calls_ext_bool (by omega) (on_any _ _ _ _ _ _ _ hc hd ha) H3.out) | (go_at_call 50; exact calls_ext_bool (by omega) (on_any _ _ _ _ _ _ _ hc hd hb) H4.out) | (go_at_call 51; exact calls_ext_bool (by omega) (parted_any _ _ _ _ _ _ _ _ _ ha hb hc hd) K1.out) | (go_at_call 51; exact calls_ext_bool (by omega) (parted_any _ _ _ _ _ _ _ _ _ hc hd ha hb) K2.out)))
    refine wpQuiet_nil ?_
    rintro _ ⟨x, rfl⟩
    obtain ⟨wq, hq⟩ := x
    dsimp only
    go_wp2_with fail
    go_ret
    exact ⟨ret_bool hr.out, hbw.trans (hq.mono (by omega))⟩
  repeat (go_big_quiet_step (first | (go_at_call 50; exact calls_ext_bool (by omega) (on_any _ _ _ _ _ _ _ ha hb hc) H1.out) | (go_at_call 50; exact calls_ext_bool (by omega) (on_any _ _ _ _ _ _ _ ha hb hd) H2.out) | (go_at_call 50; exact calls_ext_bool (by omega) (on_any _ _ _ _ _ _ _ hc hd ha) H3.out) | (go_at_call 50; exact calls_ext_bool (by omega) (on_any _ _ _ _ _ _ _ hc hd hb) H4.out) | (go_at_call 51; exact calls_ext_bool (by omega) (parted_any _ _ _ _ _ _ _ _ _ ha hb hc hd) K1.out) | (go_at_call 51; exact calls_ext_bool (by omega) (parted_any _ _ _ _ _ _ _ _ _ hc hd ha hb) K2.out)))
  rcases b2 with _ | _
  rotate_left
  · repeat (go_big_quiet_step (first | (go_at_call 50; exact calls_ext_bool (by omega) (on_any _ _ _ _ _ _ _ ha hb hc) H1.out) | (go_at_call 50; exact calls_ext_bool (by omega) (on_any _ _ _ _ _ _ _ ha hb hd) H2.out) | (go_at_call 50; exact calls_ext_bool (by omega) (on_any _ _ _ _ _ _ _ hc hd ha) H3.out) | (go_at_call 50; exact calls_ext_bool (by omega) (on_any _ _ _ _ _ _ _ hc hd hb) H4.out) | (go_at_call 51; exact calls_ext_bool (by omega) (parted_any _ _ _ _ _ _ _ _ _ ha hb hc hd) K1.out) | (go_at_call 51; exact calls_ext_bool (by omega) (parted_any _ _ _ _ _ _ _ _ _ hc hd ha hb) K2.out)))
    refine wpQuiet_nil ?_
    rintro _ ⟨x, rfl⟩
    obtain ⟨wq, hq⟩ := x
    dsimp only
    go_wp2_with fail
    go_ret
    exact ⟨ret_bool hr.out, hbw.trans (hq.mono (by omega))⟩
  repeat (go_big_quiet_step (first | (go_at_call 50; exact calls_ext_bool (by omega) (on_any _ _ _ _ _ _ _ ha hb hc) H1.out) | (go_at_call 50; exact calls_ext_bool (by omega) (on_any _ _ _ _ _ _ _ ha hb hd) H2.out) | (go_at_call 50; exact calls_ext_bool (by omega) (on_any _ _ _ _ _ _ _ hc hd ha) H3.out) | (go_at_call 50; exact calls_ext_bool (by omega) (on_any _ _ _ _ _ _ _ hc hd hb) H4.out) | (go_at_call 51; exact calls_ext_bool (by omega) (parted_any _ _ _ _ _ _ _ _ _ ha hb hc hd) K1.out) | (go_at_call 51; exact calls_ext_bool (by omega) (parted_any _ _ _ _ _ _ _ _ _ hc hd ha hb) K2.out)))
  rcases b3 with _ | _
  rotate_left
  · repeat (go_big_quiet_step (first | (go_at_call 50; exact calls_ext_bool (by omega) (on_any _ _ _ _ _ _ _ ha hb hc) H1.out) | (go_at_call 50; exact calls_ext_bool (by omega) (on_any _ _ _ _ _ _ _ ha hb hd) H2.out) | (go_at_call 50; exact calls_ext_bool (by omega) (on_any _ _ _ _ _ _ _ hc hd ha) H3.out) | (go_at_call 50; exact calls_ext_bool (by omega) (on_any _ _ _ _ _ _ _ hc hd hb) H4.out) | (go_at_call 51; exact calls_ext_bool (by omega) (parted_any _ _ _ _ _ _ _ _ _ ha hb hc hd) K1.out) | (go_at_call 51; exact calls_ext_bool (by omega) (parted_any _ _ _ _ _ _ _ _ _ hc hd ha hb) K2.out)))
    refine wpQuiet_nil ?_
    rintro _ ⟨x, rfl⟩
    obtain ⟨wq, hq⟩ := x
    dsimp only
    go_wp2_with fail
    go_ret
    exact ⟨ret_bool hr.out, hbw.trans (hq.mono (by omega))⟩
  repeat (go_big_quiet_step (first | (go_at_call 50; exact calls_ext_bool (by omega) (on_any _ _ _ _ _ _ _ ha hb hc) H1.out) | (go_at_call 50; exact calls_ext_bool (by omega) (on_any _ _ _ _ _ _ _ ha hb hd) H2.out) | (go_at_call 50; exact calls_ext_bool (by omega) (on_any _ _ _ _ _ _ _ hc hd ha) H3.out) | (go_at_call 50; exact calls_ext_bool (by omega) (on_any _ _ _ _ _ _ _ hc hd hb) H4.out) | (go_at_call 51; exact calls_ext_bool (by omega) (parted_any _ _ _ _ _ _ _ _ _ ha hb hc hd) K1.out) | (go_at_call 51; exact calls_ext_bool (by omega) (parted_any _ _ _ _ _ _ _ _ _ hc hd ha hb) K2.out)))
  rcases b4 with _ | _
  rotate_left
  · repeat (go_big_quiet_step (first | (go_at_call 50; exact calls_ext_bool (by omega) (on_any _ _ _ _ _ _ _ ha hb hc) H1.out) | (go_at_call 50; exact calls_ext_bool (by omega) (on_any _ _ _ _ _ _ _ ha hb hd) H2.out) | (go_at_call 50; exact calls_ext_bool (by omega) (on_any _ _ _ _ _ _ _ hc hd ha) H3.out) | (go_at_call 50; exact calls_ext_bool (by omega) (on_any _ _ _ _ _ _ _ hc hd hb) H4.out) | (go_at_call 51; exact calls_ext_bool (by omega) (parted_any _ _ _ _ _ _ _ _ _ ha hb hc hd) K1.out) | (go_at_call 51; exact calls_ext_bool (by omega) (parted_any _ _ _ _ _ _ _ _ _ hc hd ha hb) K2.out)))
    refine wpQuiet_nil ?_
    rintro _ ⟨x, rfl⟩
    obtain ⟨wq, hq⟩ := x
    dsimp only
    go_wp2_with fail
    go_ret
    exact ⟨ret_bool hr.out, hbw.trans (hq.mono (by omega))⟩
  repeat (go_big_quiet_step (first | (go_at_call 50; exact calls_ext_bool (by omega) (on_any _ _ _ _ _ _ _ ha hb hc) H1.out) | (go_at_call 50; exact calls_ext_bool (by omega) (on_any _ _ _ _ _ _ _ ha hb hd) H2.out) | (go_at_call 50; exact calls_ext_bool (by omega) (on_any _ _ _ _ _ _ _ hc hd ha) H3.out) | (go_at_call 50; exact calls_ext_bool (by omega) (on_any _ _ _ _ _ _ _ hc hd hb) H4.out) | (go_at_call 51; exact calls_ext_bool (by omega) (parted_any _ _ _ _ _ _ _ _ _ ha hb hc hd) K1.out) | (go_at_call 51; exact calls_ext_bool (by omega) (parted_any _ _ _ _ _ _ _ _ _ hc hd ha hb) K2.out)))
  rcases p1 with _ | _
  · repeat (go_big_quiet_step (first | (go_at_call 50; exact calls_ext_bool (by omega) (on_any _ _ _ _ _ _ _ ha hb hc) H1.out) | (go_at_call 50; exact calls_ext_bool (by omega) (on_any _ _ _ _ _ _ _ ha hb hd) H2.out) | (go_at_call 50; exact calls_ext_bool (by omega) (on_any _ _ _ _ _ _ _ hc hd ha) H3.out) | (go_at_call 50; exact calls_ext_bool (by omega) (on_any _ _ _ _ _ _ _ hc hd hb) H4.out) | (go_at_call 51; exact calls_ext_bool (by omega) (parted_any _ _ _ _ _ _ _ _ _ ha hb hc hd) K1.out) | (go_at_call 51; exact calls_ext_bool (by omega) (parted_any _ _ _ _ _ _ _ _ _ hc hd ha hb) K2.out)))
    refine wpQuiet_nil ?_
    rintro _ ⟨x, rfl⟩
    obtain ⟨wq, hq⟩ := x
    dsimp only
    go_wp2_with fail
    go_ret
    exact ⟨ret_bool hr.out, hbw.trans (hq.mono (by omega))⟩
  repeat (go_big_quiet_step (first | (go_at_call 50; exact calls_ext_bool (by omega) (on_any _ _ _ _ _ _ _ ha hb hc) H1.out) | (go_at_call 50; exact calls_ext_bool (by omega) (on_any _ _ _ _ _ _ _ ha hb hd) H2.out) | (go_at_call 50; exact calls_ext_bool (by omega) (on_any _ _ _ _ _ _ _ hc hd ha) H3.out) | (go_at_call 50; exact calls_ext_bool (by omega) (on_any _ _ _ _ _ _ _ hc hd hb) H4.out) | (go_at_call 51; exact calls_ext_bool (by omega) (parted_any _ _ _ _ _ _ _ _ _ ha hb hc hd) K1.out) | (go_at_call 51; exact calls_ext_bool (by omega) (parted_any _ _ _ _ _ _ _ _ _ hc hd ha hb) K2.out)))
  refine wpQuiet_nil ?_
  rintro _ ⟨x, rfl⟩
  obtain ⟨wq, hq⟩ := x
  dsimp only
  go_wp2_with fail
  go_ret
  exact ⟨ret_bool hr.out, hbw.trans (hq.mono (by omega))⟩

theorem meet_any (ax ay bx bY cx cy dx dy : Int) (w : World) (ha : Spot.ok ⟨ax, ay⟩) (hb : Spot.ok ⟨bx, bY⟩) (hc : Spot.ok ⟨cx, cy⟩) (hd : Spot.ok ⟨dx, dy⟩) :
    Calls Try.prog 45 #[.agg #[.int .i64 ax, .int .i64 ay], .agg #[.int .i64 bx, .int .i64 bY], .agg #[.int .i64 cx, .int .i64 cy], .agg #[.int .i64 dx, .int .i64 dy]] w
      fun e w' => e = .returned (.bool (meetF ⟨ax, ay⟩ ⟨bx, bY⟩ ⟨cx, cy⟩ ⟨dx, dy⟩)) ∧ Below w.heap.size w w' :=
  meet_case ax ay bx bY cx cy dx dy w ha hb hc hd _ _ _ _ _ _ _ rfl rfl rfl rfl rfl rfl (Lib.hid rfl)

set_option maxHeartbeats 1600000 in
theorem rmeet_case (ax ay bx bY cx cy dx dy : Int) (w : World) (ha : Spot.ok ⟨ax, ay⟩) (hb : Spot.ok ⟨bx, bY⟩) (hc : Spot.ok ⟨cx, cy⟩) (hd : Spot.ok ⟨dx, dy⟩) (b1 b2 b3 b4 r : Bool)
    (h1 : onF ⟨ax, ay⟩ ⟨bx, bY⟩ ⟨cx, cy⟩ = b1) (h2 : onF ⟨ax, ay⟩ ⟨bx, bY⟩ ⟨dx, dy⟩ = b2) (h3 : onF ⟨cx, cy⟩ ⟨dx, dy⟩ ⟨ax, ay⟩ = b3) (h4 : onF ⟨cx, cy⟩ ⟨dx, dy⟩ ⟨bx, bY⟩ = b4)
    (hr : Hid ((b1 || b2 || b3 || b4 || (partedF ⟨ax, ay⟩ ⟨bx, bY⟩ ⟨cx, cy⟩ ⟨dx, dy⟩ && partedF ⟨cx, cy⟩ ⟨dx, dy⟩ ⟨ax, ay⟩ ⟨bx, bY⟩)) = r)) :
    Calls Try.prog 53 #[.agg #[.int .i64 ax, .int .i64 ay], .agg #[.int .i64 bx, .int .i64 bY], .agg #[.int .i64 cx, .int .i64 cy], .agg #[.int .i64 dx, .int .i64 dy]] w
      fun e w' => e = .returned (.bool r) ∧ Below w.heap.size w w' := by
  go_enter Try.func53, Try.ntmps53
  go_upto_region 1 with (fail)
  generalize hW : ((((w.alloc _).alloc _).alloc _).alloc _) = W
  obtain ⟨hs, hbw, c0, c1, c2, c3, c4, c5, c6, c7⟩ := four_boxes _ _ _ _ _ _ _ _ _ _ _ hW
  clear hW
  have x0 := fun x : Ext (w.heap.size + 4) W => x.cell (by omega) c0
  have x1 := fun x : Ext (w.heap.size + 4) W => x.cell (by omega) c1
  have x2 := fun x : Ext (w.heap.size + 4) W => x.cell (by omega) c2
  have x3 := fun x : Ext (w.heap.size + 4) W => x.cell (by omega) c3
  have x4 := fun x : Ext (w.heap.size + 4) W => x.cell (by omega) c4
  have x5 := fun x : Ext (w.heap.size + 4) W => x.cell (by omega) c5
  have x6 := fun x : Ext (w.heap.size + 4) W => x.cell (by omega) c6
  have x7 := fun x : Ext (w.heap.size + 4) W => x.cell (by omega) c7
  have H1 := Lib.hid h1
  have H2 := Lib.hid h2
  have H3 := Lib.hid h3
  have H4 := Lib.hid h4
  clear h1 h2 h3 h4
  refine plain_ext (w.heap.size + 4) ?_
  repeat (go_big_quiet_step (first | (go_at_call 52; exact calls_ext_bool (by omega) (between_any _ _ _ _ _ _ _ ha hb hc) H1.out) | (go_at_call 52; exact calls_ext_bool (by omega) (between_any _ _ _ _ _ _ _ ha hb hd) H2.out) | (go_at_call 52; exact calls_ext_bool (by omega) (between_any _ _ _ _ _ _ _ hc hd ha) H3.out) | (go_at_call 52; exact calls_ext_bool (by omega) (between_any _ _ _ _ _ _ _ hc hd hb) H4.out)))
  rcases b1 with _ | _
  rotate_left
  · repeat (go_big_quiet_step (first | (go_at_call 52; exact calls_ext_bool (by omega) (between_any _ _ _ _ _ _ _ ha hb hc) H1.out) | (go_at_call 52; exact calls_ext_bool (by omega) (between_any _ _ _ _ _ _ _ ha hb hd) H2.out) | (go_at_call 52; exact calls_ext_bool (by omega) (between_any _ _ _ _ _ _ _ hc hd ha) H3.out) | (go_at_call 52; exact calls_ext_bool (by omega) (between_any _ _ _ _ _ _ _ hc hd hb) H4.out)))
    refine wpQuiet_nil ?_
    rintro _ ⟨x, rfl⟩
    obtain ⟨wq, hq⟩ := x
    dsimp only
    go_wp2_with fail
    go_ret
    exact ⟨ret_bool hr.out, hbw.trans (hq.mono (by omega))⟩
  repeat (go_big_quiet_step (first | (go_at_call 52; exact calls_ext_bool (by omega) (between_any _ _ _ _ _ _ _ ha hb hc) H1.out) | (go_at_call 52; exact calls_ext_bool (by omega) (between_any _ _ _ _ _ _ _ ha hb hd) H2.out) | (go_at_call 52; exact calls_ext_bool (by omega) (between_any _ _ _ _ _ _ _ hc hd ha) H3.out) | (go_at_call 52; exact calls_ext_bool (by omega) (between_any _ _ _ _ _ _ _ hc hd hb) H4.out)))
  rcases b2 with _ | _
  rotate_left
  · repeat (go_big_quiet_step (first | (go_at_call 52; exact calls_ext_bool (by omega) (between_any _ _ _ _ _ _ _ ha hb hc) H1.out) | (go_at_call 52; exact calls_ext_bool (by omega) (between_any _ _ _ _ _ _ _ ha hb hd) H2.out) | (go_at_call 52; exact calls_ext_bool (by omega) (between_any _ _ _ _ _ _ _ hc hd ha) H3.out) | (go_at_call 52; exact calls_ext_bool (by omega) (between_any _ _ _ _ _ _ _ hc hd hb) H4.out)))
    refine wpQuiet_nil ?_
    rintro _ ⟨x, rfl⟩
    obtain ⟨wq, hq⟩ := x
    dsimp only
    go_wp2_with fail
    go_ret
    exact ⟨ret_bool hr.out, hbw.trans (hq.mono (by omega))⟩
  repeat (go_big_quiet_step (first | (go_at_call 52; exact calls_ext_bool (by omega) (between_any _ _ _ _ _ _ _ ha hb hc) H1.out) | (go_at_call 52; exact calls_ext_bool (by omega) (between_any _ _ _ _ _ _ _ ha hb hd) H2.out) | (go_at_call 52; exact calls_ext_bool (by omega) (between_any _ _ _ _ _ _ _ hc hd ha) H3.out) | (go_at_call 52; exact calls_ext_bool (by omega) (between_any _ _ _ _ _ _ _ hc hd hb) H4.out)))
  rcases b3 with _ | _
  rotate_left
  · repeat (go_big_quiet_step (first | (go_at_call 52; exact calls_ext_bool (by omega) (between_any _ _ _ _ _ _ _ ha hb hc) H1.out) | (go_at_call 52; exact calls_ext_bool (by omega) (between_any _ _ _ _ _ _ _ ha hb hd) H2.out) | (go_at_call 52; exact calls_ext_bool (by omega) (between_any _ _ _ _ _ _ _ hc hd ha) H3.out) | (go_at_call 52; exact calls_ext_bool (by omega) (between_any _ _ _ _ _ _ _ hc hd hb) H4.out)))
    refine wpQuiet_nil ?_
    rintro _ ⟨x, rfl⟩
    obtain ⟨wq, hq⟩ := x
    dsimp only
    go_wp2_with fail
    go_ret
    exact ⟨ret_bool hr.out, hbw.trans (hq.mono (by omega))⟩
  repeat (go_big_quiet_step (first | (go_at_call 52; exact calls_ext_bool (by omega) (between_any _ _ _ _ _ _ _ ha hb hc) H1.out) | (go_at_call 52; exact calls_ext_bool (by omega) (between_any _ _ _ _ _ _ _ ha hb hd) H2.out) | (go_at_call 52; exact calls_ext_bool (by omega) (between_any _ _ _ _ _ _ _ hc hd ha) H3.out) | (go_at_call 52; exact calls_ext_bool (by omega) (between_any _ _ _ _ _ _ _ hc hd hb) H4.out)))
  refine wpQuiet_nil ?_
  rintro _ ⟨x, rfl⟩
  obtain ⟨wq, hq⟩ := x
  dsimp only
  rcases b4 with _ | _
  rotate_left
  · go_wp2_with fail
    go_ret
    exact ⟨ret_bool hr.out, hbw.trans (hq.mono (by omega))⟩
  clear x0 x1 x2 x3 x4 x5 x6 x7
  have hq0 := hq
  have hs1 : w.heap.size + 4 ≤ wq.heap.size := by have := hq.size; omega
  have x0 := fun x : Ext (w.heap.size + 4) wq => x.cell (by omega) ((hq.cell (p := ⟨_, _, none⟩) (by simp only []; omega)).trans c0)
  have x1 := fun x : Ext (w.heap.size + 4) wq => x.cell (by omega) ((hq.cell (p := ⟨_, _, none⟩) (by simp only []; omega)).trans c1)
  have x2 := fun x : Ext (w.heap.size + 4) wq => x.cell (by omega) ((hq.cell (p := ⟨_, _, none⟩) (by simp only []; omega)).trans c2)
  have x3 := fun x : Ext (w.heap.size + 4) wq => x.cell (by omega) ((hq.cell (p := ⟨_, _, none⟩) (by simp only []; omega)).trans c3)
  have x4 := fun x : Ext (w.heap.size + 4) wq => x.cell (by omega) ((hq.cell (p := ⟨_, _, none⟩) (by simp only []; omega)).trans c4)
  have x5 := fun x : Ext (w.heap.size + 4) wq => x.cell (by omega) ((hq.cell (p := ⟨_, _, none⟩) (by simp only []; omega)).trans c5)
  have x6 := fun x : Ext (w.heap.size + 4) wq => x.cell (by omega) ((hq.cell (p := ⟨_, _, none⟩) (by simp only []; omega)).trans c6)
  have x7 := fun x : Ext (w.heap.size + 4) wq => x.cell (by omega) ((hq.cell (p := ⟨_, _, none⟩) (by simp only []; omega)).trans c7)
  clear c0 c1 c2 c3 c4 c5 c6 c7
  have hbw1 : Below w.heap.size w wq := hbw.trans (hq.mono (by omega))
  clear hbw hq hs
  obtain ⟨m1, m2⟩ := sgn_mul_bd (crossF ⟨ax, ay⟩ ⟨bx, bY⟩ ⟨cx, cy⟩) (crossF ⟨ax, ay⟩ ⟨bx, bY⟩ ⟨dx, dy⟩)
  obtain ⟨n1, n2⟩ := sgn_mul_bd (crossF ⟨cx, cy⟩ ⟨dx, dy⟩ ⟨ax, ay⟩) (crossF ⟨cx, cy⟩ ⟨dx, dy⟩ ⟨bx, bY⟩)
  go_upto_region 3 with (fail)
  by_cases hp : sgnF (crossF ⟨ax, ay⟩ ⟨bx, bY⟩ ⟨cx, cy⟩) * sgnF (crossF ⟨ax, ay⟩ ⟨bx, bY⟩ ⟨dx, dy⟩) < 0
  all_goals
    refine region_ext (w.heap.size + 4) (by kernel_rfl) (by kernel_rfl) ?_
    repeat (go_big_quiet_step (first | (go_at_call 55; exact calls_ext (by omega) (rcross_any _ _ _ _ _ _ _ (by assumption) (by assumption) (by assumption))) | (go_at_call 56; exact calls_ext_same (sign_any _ _))))
    refine wpQuiet_nil ?_
    rintro _ ⟨x, rfl⟩
    obtain ⟨wz, hz⟩ := x
    dsimp only
    go_wp2_with fail
    go_ret
    refine ⟨ret_bool ?_, hbw1.trans (hz.mono (by omega))⟩
    rw [← hr.out]
    unfold partedF
    first | (simp [hp]; done) | (simp; intro h; omega)

theorem rmeet_any (ax ay bx bY cx cy dx dy : Int) (w : World) (ha : Spot.ok ⟨ax, ay⟩) (hb : Spot.ok ⟨bx, bY⟩) (hc : Spot.ok ⟨cx, cy⟩) (hd : Spot.ok ⟨dx, dy⟩) :
    Calls Try.prog 53 #[.agg #[.int .i64 ax, .int .i64 ay], .agg #[.int .i64 bx, .int .i64 bY], .agg #[.int .i64 cx, .int .i64 cy], .agg #[.int .i64 dx, .int .i64 dy]] w
      fun e w' => e = .returned (.bool (meetF ⟨ax, ay⟩ ⟨bx, bY⟩ ⟨cx, cy⟩ ⟨dx, dy⟩)) ∧ Below w.heap.size w w' :=
  rmeet_case ax ay bx bY cx cy dx dy w ha hb hc hd _ _ _ _ _ rfl rfl rfl rfl (Lib.hid rfl)

end Go.Proofs.Ytpjckolfjaffjaa
