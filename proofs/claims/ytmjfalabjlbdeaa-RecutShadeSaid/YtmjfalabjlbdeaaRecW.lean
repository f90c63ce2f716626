/- RecutShade: law43.of, and the walk. -/
import Derived.Test.YtmjfalabjlbdeaaRecX
namespace Go.Proofs.Ytmjfalabjlbdeaa
open Go.RowKit
set_option linter.unusedSimpArgs false
set_option linter.unusedVariables false

def ofF (q : Nat) (rest : Nat → Rest) (lot roll : Int) : Bool := decide (∃ k, k < q ∧ (rest k).lot = lot ∧ (rest k).roll = roll)

set_option maxHeartbeats 1600000 in
theorem of_any (A : Option Addr) (q c : Nat) (rest : Nat → Rest) (lot roll : Int) (w : World) (hq : q ≤ 1000) (hr : Row w w.heap.size 4 A q (fun i => (rest i).c)) (h : ∃ k, k < q ∧ (rest k).lot = lot ∧ (rest k).roll = roll) :
    Calls Try.prog 24 #[.slice A q c, .int .i64 lot, .int .i64 roll] w fun e w' => e = .returned (.bool true) ∧ Below w.heap.size w w' := by
  have HR := Lib.hid hr
  have HX := Lib.hid h
  clear hr h
  go_enter Try.func24, Try.ntmps24
  go_wp2_with fail
  go_loopw [11] (fun t wr => ∃ k : Nat, k ≤ q ∧ t = .int .i64 k ∧ Hid (∀ i, i < k → ¬ ((rest i).lot = lot ∧ (rest i).roll = roll)) ∧ Below w.heap.size w wr) (fun t _ => q - (intOf t).toNat)
  case atStart => exact ⟨0, Nat.zero_le _, rfl, Lib.hid (fun i hi => absurd hi (by omega)), Below.refl _ _⟩
  case round =>
    obtain ⟨k, hk, rfl, hno, hwr⟩ := hrel
    have hs1 : w.heap.size ≤ wr.heap.size := hwr.size
    by_cases hlt : k < q
    · obtain ⟨bl, ol, rfl, hBl⟩ := HR.out.addr (by omega)
      obtain ⟨e0, e1, e2, e3⟩ := HR.out.at4 hlt
      simp only [Rest.c] at e0 e1 e2 e3
      have f0 := (hwr.cell (p := ⟨_, _, none⟩) hBl).trans e0
      have f1 := (hwr.cell (p := ⟨_, _, none⟩) hBl).trans e1
      have f2 := (hwr.cell (p := ⟨_, _, none⟩) hBl).trans e2
      have f3 := (hwr.cell (p := ⟨_, _, none⟩) hBl).trans e3
      clear e0 e1 e2 e3
      have hlt' : (k : Int) < q := by omega
      have hk0 : (0 : Int) ≤ k := by omega
      go_upto_region 4 with (fail)
      have rR := Blk.new wr 49 #[.int .i64 (rest k).roll, .int .i64 (rest k).lot, .int .i64 (rest k).frm, .int .i64 (rest k).til]
      have rb := hwr.alloc hs1 (.cells #[.int .i64 (rest k).roll, .int .i64 (rest k).lot, .int .i64 (rest k).frm, .int .i64 (rest k).til] 49)
      generalize hW : wr.alloc _ = W3 at rR rb ⊢
      clear hW f0 f1 f2 f3
      have c0 := rR.cell 0
      have c1 := rR.cell 1
      simp at c0 c1
      by_cases h1 : (rest k).lot = lot
      · have b1 : ((rest k).lot == lot) = true := beq_iff_eq.2 h1
        have H1 := Lib.hid h1
        clear h1
        by_cases h2 : (rest k).roll = roll
        · have b2 : ((rest k).roll == roll) = true := beq_iff_eq.2 h2
          clear h2
          go_wp2_with fail
          go_ret
          exact ⟨rfl, rb⟩
        · have b2 : ((rest k).roll == roll) = false := beq_eq_false_iff_ne.2 h2
          have H2 := Lib.hid h2
          clear h2
          go_wp2_with fail
          go_roundw
          case rel => exact ⟨k + 1, by omega, by go_num, Lib.hid (fun i hi => by rcases Nat.lt_succ_iff_lt_or_eq.1 hi with h' | rfl; exact hno.out i h'; exact fun hh => H2.out hh.2), rb⟩
          case measure => simp [intOf]; omega
      · have b1 : ((rest k).lot == lot) = false := beq_eq_false_iff_ne.2 h1
        have H1 := Lib.hid h1
        clear h1
        go_wp2_with fail
        go_roundw
        case rel => exact ⟨k + 1, by omega, by go_num, Lib.hid (fun i hi => by rcases Nat.lt_succ_iff_lt_or_eq.1 hi with h' | rfl; exact hno.out i h'; exact fun hh => H1.out hh.1), rb⟩
        case measure => simp [intOf]; omega
    · obtain ⟨i, hi, hx⟩ := HX.out
      exact absurd hx (hno.out i (by omega))

theorem pieces_in {w : World} {A : Option Addr} {n : Nat} {cut : Nat → Cut} {roll : Nat → Nat → Int} (h : Row w w.heap.size 6 A n (fun i => (cut i).c))
    (hl : ∀ i, i < n → (cut i).rn ≤ 1000 ∧ Row w w.heap.size 1 (cut i).ra (cut i).rn (fun j _ => .int .i64 (roll i j))) : Pieces w A n cut (fun i => pieceOf (cut i) (roll i)) := by
  refine ⟨h, fun i hi => ⟨rfl, rfl, rfl, rfl, rfl, rfl, (hl i hi).1, fun h0 => ?_⟩⟩
  obtain ⟨b, off, ha, hlt, hc⟩ := (hl i hi).2 h0
  refine ⟨b, off, ha, hlt, by simp [Value.ownBlock], fun j hj => ?_⟩
  have := hc j 0 hj (by omega)
  rwa [show off + j * 1 + 0 = off + j by omega] at this

theorem same_cut_diff {s t : Piece} (hs : s.dmg = true) (ht : t.dmg = false) : sameCutF s t = false := by
  unfold sameCutF
  rw [decide_eq_false (fun h => by rw [hs, ht] at h; exact Bool.noConfusion h.2.2.2.2), Bool.false_and]

/-- What the statement says of one piece. -/
def Shade (q : Nat) (rest : Nat → Rest) (x : Cut) (s t : Piece) : Prop :=
  sameCutF s t = true ∨ ∃ r, (∃ k, k < q ∧ (rest k).lot = x.lot ∧ (rest k).roll = r) ∧ x.dmg = true ∧ sameCutF s t = false ∧ t = ⟨x.ply, x.place, x.lot, x.size, 1, fun _ => r, false⟩

theorem shade_law {n q : Nat} {cut : Nat → Cut} {poly : Nat → Poly} {rest : Nat → Rest} {roll : Nat → Nat → Int} (i : Nat) (hi : i < n) :
    Shade q rest (cut i) (pieceOf (cut i) (roll i)) (recutF n q cut poly rest (fun i => pieceOf (cut i) (roll i)) (dmgs cut n).length i) := by
  rcases recut_cases (n := n) (q := q) (cut := cut) (poly := poly) (rest := rest) (roll := roll) i hi with ⟨hr, _⟩ | ⟨k, r, hk, hd, hl, hrr, hr⟩
  · rw [hr]
    exact .inl (same_cut_self _)
  · rw [hr]
    exact .inr ⟨r, ⟨k, hk, hl, hrr⟩, hd, same_cut_diff hd rfl, rfl⟩

set_option maxRecDepth 100000 in
set_option maxHeartbeats 3200000 in
theorem shade_any (A A2 A3 : Option Addr) (n c m c2 q c3 : Nat) (cut : Nat → Cut) (roll : Nat → Nat → Int) (poly : Nat → Poly) (rest : Nat → Rest) (w : World)
    (hp : CutsIn w A n cut roll) (hq : PolysIn w A2 m poly) (hr : Row w w.heap.size 4 A3 q (fun i => (rest i).c)) :
    Calls Try.prog 6 #[.slice A n c, .slice A2 m c2, .slice A3 q c3] w fun e w' => e = .returned (.bool true) ∧ Below w.heap.size w w' := by
  have HC := Lib.hid hp
  have HP := Lib.hid hp.1
  have HQ := Lib.hid hq
  have HR := Lib.hid hr
  clear hp hq hr
  by_cases hq30 : 30 < q
  · have hq' : (30 : Int) < q := by omega
    go_enter Try.func6, Try.ntmps6
    go_wp2_with fail
    refine (few_any _ _ n _ m _ cut poly _ HP.out HQ.out.1).mono ?_
    rintro e w1 ⟨hb1, rfl | ⟨rfl, hn, hm, hrr, hs⟩⟩
    all_goals
      go_wp2_with fail
      refine (example_any _).mono ?_
      rintro e w2 ⟨rfl, hb2⟩
      go_wp2_with fail
      go_ret
      exact ⟨rfl, below_up hb1 hb2⟩
  have hq' : ¬ (30 : Int) < q := by omega
  go_enter Try.func6, Try.ntmps6
  go_wp2_with fail
  refine (few_any _ _ n _ m _ cut poly _ HP.out HQ.out.1).mono ?_
  rintro e w1 ⟨hb1, rfl | ⟨rfl, hn, hm, hrr, hs⟩⟩
  · go_wp2_with fail
    refine (example_any _).mono ?_
    rintro e w2 ⟨rfl, hb2⟩
    go_wp2_with fail
    go_ret
    exact ⟨rfl, below_up hb1 hb2⟩
  have HP1 := Lib.hid (HP.out.later hb1)
  have HQ1 := Lib.hid ((HQ.out.few hs).later hb1)
  have HL1 := Lib.hid (rolls_later (HC.out.few hrr) hb1)
  have HR1 := Lib.hid (HR.out.later hb1)
  clear HP HQ HC HR hrr hs
  go_wp2_with fail
  refine (recut_any _ _ _ n _ m _ q _ cut poly rest roll _ (by omega) (by omega) (by omega) HP1.out HQ1.out HR1.out HL1.out).mono ?_
  rintro e w2 ⟨hb2, hcase⟩
  have HX := Lib.hid (pieces_in (HP1.out.later hb2) (rolls_later HL1.out hb2))
  have HR2 := Lib.hid (HR1.out.later hb2)
  have hb3 := below_up hb1 hb2
  clear hb1 hb2 HP1 HQ1 HL1 HR1
  rcases hcase with ⟨hE, vN, vI, rfl, hN, hI⟩ | ⟨hE, rfl⟩
  rotate_left
  · have hne : (firstErr (fun i => cutErr m poly (cut i)) n != 0) = true := bne_iff_ne.2 hE
    clear hE
    go_wp2_with fail
    refine (example_any _).mono ?_
    rintro e w7 ⟨rfl, hb10⟩
    go_wp2_with fail
    go_ret
    exact ⟨rfl, below_up hb3 hb10⟩
  obtain ⟨AN, cN, cut2, rfl, _, rN⟩ := hN.pieces
  obtain ⟨AI, cI, rfl, _, _, rI⟩ := hI.form
  have KN := Lib.hid rN
  clear rN rI hN hI hE
  have hlaw := Lib.hid (fun i hi => shade_law (n := n) (q := q) (cut := cut) (poly := poly) (rest := rest) (roll := roll) i hi)
  generalize recutF n q cut poly rest (fun i => pieceOf (cut i) (roll i)) (dmgs cut n).length = T at *
  have hnn : ((n : Int) != (n : Int)) = false := by simp
  have hqq : ((q : Int) != (q : Int)) = false := by simp
  go_wp2_with fail
  go_loopw [58] (fun t wr => ∃ k : Nat, k ≤ n ∧ t = .int .i64 k ∧ Below w2.heap.size w2 wr) (fun t _ => n - (intOf t).toNat)
  case atStart => exact ⟨0, Nat.zero_le _, rfl, Below.refl _ _⟩
  case round =>
    obtain ⟨k, hk, rfl, hwr⟩ := hrel
    have hs1 : w2.heap.size ≤ wr.heap.size := hwr.size
    by_cases hlt : k < n
    · obtain ⟨bx, ox, rfl, hBx⟩ := HX.out.1.addr (by omega)
      obtain ⟨bY, oy, rfl, hBy⟩ := KN.out.1.addr (by omega)
      obtain ⟨e0, e1, e2, e3, e4, e5⟩ := HX.out.1.at6 hlt
      simp only [Cut.c] at e0 e1 e2 e3 e4 e5
      have f0 := (hwr.cell (p := ⟨_, _, none⟩) hBx).trans e0
      have f1 := (hwr.cell (p := ⟨_, _, none⟩) hBx).trans e1
      have f2 := (hwr.cell (p := ⟨_, _, none⟩) hBx).trans e2
      have f3 := (hwr.cell (p := ⟨_, _, none⟩) hBx).trans e3
      have f4 := (hwr.cell (p := ⟨_, _, none⟩) hBx).trans e4
      have f5 := (hwr.cell (p := ⟨_, _, none⟩) hBx).trans e5
      clear e0 e1 e2 e3 e4 e5
      have hlt' : (k : Int) < n := by omega
      have hk0 : (0 : Int) ≤ k := by omega
      go_upto_region 11 with (fail)
      have qX := Blk.new wr 43 #[.int .i64 (cut k).ply, .int .i64 (cut k).place, .int .i64 (cut k).lot, .int .i64 (cut k).size, .slice (cut k).ra (cut k).rn (cut k).rc, .bool (cut k).dmg]
      have qb := hwr.alloc hs1 (.cells #[.int .i64 (cut k).ply, .int .i64 (cut k).place, .int .i64 (cut k).lot, .int .i64 (cut k).size, .slice (cut k).ra (cut k).rn (cut k).rc, .bool (cut k).dmg] 43)
      obtain ⟨gx, hgx⟩ : ∃ gx, gx = wr.heap.size := ⟨_, rfl⟩
      rw [← hgx] at qX ⊢
      generalize hW : wr.alloc _ = W at qX qb ⊢
      clear hW f0 f1 f2 f3 f4 f5 hgx hs1
      have hs2 : w2.heap.size ≤ W.heap.size := qb.size
      obtain ⟨e0, e1, e2, e3, e4, e5⟩ := KN.out.1.at6 hlt
      simp only [Cut.c] at e0 e1 e2 e3 e4 e5
      have f0 := (qb.cell (p := ⟨_, _, none⟩) hBy).trans e0
      have f1 := (qb.cell (p := ⟨_, _, none⟩) hBy).trans e1
      have f2 := (qb.cell (p := ⟨_, _, none⟩) hBy).trans e2
      have f3 := (qb.cell (p := ⟨_, _, none⟩) hBy).trans e3
      have f4 := (qb.cell (p := ⟨_, _, none⟩) hBy).trans e4
      have f5 := (qb.cell (p := ⟨_, _, none⟩) hBy).trans e5
      clear e0 e1 e2 e3 e4 e5
      go_upto_region 12 with (fail)
      have qY := Blk.new W 43 #[.int .i64 (cut2 k).ply, .int .i64 (cut2 k).place, .int .i64 (cut2 k).lot, .int .i64 (cut2 k).size, .slice (cut2 k).ra (cut2 k).rn (cut2 k).rc, .bool (cut2 k).dmg]
      have pX := qX.alloc (.cells #[.int .i64 (cut2 k).ply, .int .i64 (cut2 k).place, .int .i64 (cut2 k).lot, .int .i64 (cut2 k).size, .slice (cut2 k).ra (cut2 k).rn (cut2 k).rc, .bool (cut2 k).dmg] 43)
      have pb := qb.alloc hs2 (.cells #[.int .i64 (cut2 k).ply, .int .i64 (cut2 k).place, .int .i64 (cut2 k).lot, .int .i64 (cut2 k).size, .slice (cut2 k).ra (cut2 k).rn (cut2 k).rc, .bool (cut2 k).dmg] 43)
      obtain ⟨gy, hgy⟩ : ∃ gy, gy = W.heap.size := ⟨_, rfl⟩
      rw [← hgy] at qY ⊢
      generalize hW : W.alloc _ = V at qY pX pb ⊢
      clear hW f0 f1 f2 f3 f4 f5 hgy hs2 qX qb
      have x0 := pX.cell 0
      have x1 := pX.cell 1
      have x2 := pX.cell 2
      have x3 := pX.cell 3
      have x4 := pX.cell 4
      have x5 := pX.cell 5
      have y0 := qY.cell 0
      have y1 := qY.cell 1
      have y2 := qY.cell 2
      have y3 := qY.cell 3
      have y4 := qY.cell 4
      have y5 := qY.cell 5
      simp at x0 x1 x2 x3 x4 x5 y0 y1 y2 y3 y4 y5
      have HXk := Lib.hid ((HX.out.2 k hlt).later pb)
      have HYk := Lib.hid ((KN.out.2 k hlt).later pb)
      go_upto_region 12 with (fail)
      rcases hlaw.out k hlt with hsame | ⟨r, hof, hxd, hsame, hT⟩
      · go_wp2_with (go_at_call 23; refine (sameCut_any (cut k) (cut2 k) _ _ _ HXk.out HYk.out).mono ?_; rintro e w5 ⟨rfl, hb5⟩; rw [hsame]; clear x0 x1 x2 x3 x4 x5 y0 y1 y2 y3 y4 y5)
        go_roundw
        case rel => exact ⟨k + 1, by omega, by go_num, below_up pb hb5⟩
        case measure => simp [intOf]; omega
      · have HT := Lib.hid hT
        have HOF := Lib.hid hof
        have HXD := Lib.hid hxd
        clear hT hof hxd
        go_wp2_with (go_at_call 23; refine (sameCut_any (cut k) (cut2 k) _ _ _ HXk.out HYk.out).mono ?_; rintro e w5 ⟨rfl, hb5⟩; rw [hsame]; clear x0 x1 x2 x3 x4 x5 y0 y1 y2 y3 y4 y5)
        have hY := HYk.out
        rw [HT.out] at hY
        obtain ⟨y1, y2, y3, y4, y5, y6, _, hrow⟩ := hY
        obtain ⟨br, orr, hra, hBr, _, hc⟩ := hrow Nat.zero_lt_one
        have hc0 := hc 0 Nat.zero_lt_one
        clear hrow hc
        have hc5 : w5.cell? ⟨br, orr, none⟩ = some (.int .i64 r) := (hb5.cell (p := ⟨br, _, none⟩) hBr).trans hc0
        have qY5 := qY.later hb5
        have pX5 := pX.later hb5
        rw [y1, y2, y3, y4, y5, y6, hra] at qY5
        rw [HXD.out] at pX5
        clear y1 y2 y3 y4 y5 y6 hra hc0 qY pX
        have hBr5 : br < w5.heap.size := Nat.lt_of_lt_of_le hBr hb5.size
        have gxl := pX5.lt
        have gyl := qY5.lt
        have x1 := fun z : Ext w5.heap.size w5 => z.cell (b := gx) gxl (pX5.cell 0)
        have x2 := fun z : Ext w5.heap.size w5 => z.cell (b := gx) gxl (pX5.cell 1)
        have x3 := fun z : Ext w5.heap.size w5 => z.cell (b := gx) gxl (pX5.cell 2)
        have x4 := fun z : Ext w5.heap.size w5 => z.cell (b := gx) gxl (pX5.cell 3)
        have x6 := fun z : Ext w5.heap.size w5 => z.cell (b := gx) gxl (pX5.cell 5)
        have v1 := fun z : Ext w5.heap.size w5 => z.cell (b := gy) gyl (qY5.cell 0)
        have v2 := fun z : Ext w5.heap.size w5 => z.cell (b := gy) gyl (qY5.cell 1)
        have v3 := fun z : Ext w5.heap.size w5 => z.cell (b := gy) gyl (qY5.cell 2)
        have v4 := fun z : Ext w5.heap.size w5 => z.cell (b := gy) gyl (qY5.cell 3)
        have v5 := fun z : Ext w5.heap.size w5 => z.cell (b := gy) gyl (qY5.cell 4)
        have v6 := fun z : Ext w5.heap.size w5 => z.cell (b := gy) gyl (qY5.cell 5)
        have v7 := fun z : Ext w5.heap.size w5 => z.cell (b := br) hBr5 hc5
        have HRz := Lib.hid (fun z : Ext w5.heap.size w5 => HR2.out.later (below_up (below_up pb hb5) z.below))
        have b1 : ((cut k).ply != (cut k).ply) = false := by simp
        have b2 : ((cut k).place != (cut k).place) = false := by simp
        have b3 : ((cut k).lot != (cut k).lot) = false := by simp
        have b4 : ((cut k).size != (cut k).size) = false := by simp
        refine region_ext w5.heap.size (by kernel_rfl) (by kernel_rfl) ?_
        repeat (go_big_quiet_step (first | (go_at_call 24; exact calls_ext (by omega) (of_any _ _ _ rest _ _ _ (by omega) (HRz.out _) HOF.out))))
        refine wpQuiet_nil ?_
        rintro _ ⟨z, rfl⟩
        obtain ⟨wq, hq⟩ := z
        dsimp only
        clear x1 x2 x3 x4 x6 v1 v2 v3 v4 v5 v6 v7
        have hwq : Below w2.heap.size w2 wq := below_up (below_up pb hb5) hq
        go_wp2_with fail
        go_roundw
        case rel => exact ⟨k + 1, by omega, by go_num, hwq⟩
        case measure => simp [intOf]; omega
    · go_wp2_with fail
      refine (example_any _).mono ?_
      rintro e w3 ⟨rfl, hb3'⟩
      go_wp2_with fail
      go_ret
      exact ⟨rfl, below_up hb3 (below_up hwr hb3')⟩

end Go.Proofs.Ytmjfalabjlbdeaa
