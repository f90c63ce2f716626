/- The reference's Recut. -/
import Derived.Test.YtmjfalabjlbdeaaRecQ
import Derived.Test.YtmjfalabjlbdeaaRecO
import Derived.Test.YtmjfalabjlbdeaaRecH
import Derived.StillTailTactics
namespace Go.Proofs.Ytmjfalabjlbdeaa
open Go.RowKit
set_option linter.unusedSimpArgs false
set_option linter.unusedVariables false

/-- The first four fields of a piece, as integers. -/
def Piece.i (t : Piece) : Nat → Int
  | 0 => t.ply
  | 1 => t.place
  | 2 => t.lot
  | _ => t.size

/-- A field is stored again. -/
theorem CutsAre.setSame {w : World} {base n g cap k j : Nat} {T : Nat → Piece} (h : CutsAre w base (.slice (some ⟨g, 0, none⟩) n cap) n T) (hk : k < n) (hj : j < 4) :
    CutsAre (w.setCell ⟨g, k * 6 + j, none⟩ (.int .i64 ((T k).i j))) base (.slice (some ⟨g, 0, none⟩) n cap) n T := by
  obtain ⟨cut, ho, hi⟩ := h
  refine ⟨cut, (ho.put (k := k) (j := j) (by omega) (.int .i64 ((T k).i j))).congr (fun i l hin hl => ?_), fun i hin => (hi i hin).put _⟩
  unfold upd
  by_cases h1 : i = k ∧ l = j
  · obtain ⟨rfl, rfl⟩ := h1
    obtain ⟨h1, h2, h3, h4, _⟩ := hi i hk
    rw [if_pos ⟨rfl, rfl⟩]
    match l, hj with
    | 0, _ => simp [Piece.i, Cut.c, h1]
    | 1, _ => simp [Piece.i, Cut.c, h2]
    | 2, _ => simp [Piece.i, Cut.c, h3]
    | 3, _ => simp [Piece.i, Cut.c, h4]
  · rw [if_neg h1]

theorem four_far {W : World} {g b o : Nat} (hg : b ≠ g) (a0 a1 a2 a3 : Nat) (u0 u1 u2 u3 : Value) :
    ((((W.setCell ⟨g, a0, none⟩ u0).setCell ⟨g, a1, none⟩ u1).setCell ⟨g, a2, none⟩ u2).setCell ⟨g, a3, none⟩ u3).cell? ⟨b, o, none⟩ = W.cell? ⟨b, o, none⟩ := by
  rw [World.cell?_setCell_other _ _ _ _ (fun e => hg (by injection e with e1; exact e1.symm)), World.cell?_setCell_other _ _ _ _ (fun e => hg (by injection e with e1; exact e1.symm)), World.cell?_setCell_other _ _ _ _ (fun e => hg (by injection e with e1; exact e1.symm)), World.cell?_setCell_other _ _ _ _ (fun e => hg (by injection e with e1; exact e1.symm))]

theorem six_alloc {W : World} {g : Nat} (hg : g < W.heap.size) (o : Obj) (a0 a1 a2 a3 a4 a5 : Nat) (u0 u1 u2 u3 u4 u5 : Value) :
    ((((((W.alloc o).setCell ⟨g, a0, none⟩ u0).setCell ⟨g, a1, none⟩ u1).setCell ⟨g, a2, none⟩ u2).setCell ⟨g, a3, none⟩ u3).setCell ⟨g, a4, none⟩ u4).setCell ⟨g, a5, none⟩ u5 =
    ((((((W.setCell ⟨g, a0, none⟩ u0).setCell ⟨g, a1, none⟩ u1).setCell ⟨g, a2, none⟩ u2).setCell ⟨g, a3, none⟩ u3).setCell ⟨g, a4, none⟩ u4).setCell ⟨g, a5, none⟩ u5).alloc o := by
  rw [setCell_alloc_old (w := W) (by simpa using hg), setCell_alloc_old (by simpa using hg), setCell_alloc_old (by simpa using hg), setCell_alloc_old (by simpa using hg), setCell_alloc_old (by simpa using hg), setCell_alloc_old (by simpa using hg)]

set_option maxRecDepth 100000 in
set_option maxHeartbeats 3200000 in
theorem rrecut_any (A A2 A3 : Option Addr) (n c m c2 q c3 : Nat) (cut : Nat → Cut) (poly : Nat → Poly) (rest : Nat → Rest) (roll : Nat → Nat → Int) (w : World) (hn : n ≤ 1000) (hm : m ≤ 1000) (hq0 : q ≤ 1000)
    (hp : Row w w.heap.size 6 A n (fun i => (cut i).c)) (hq : Polys w w.heap.size A2 m poly) (hr : Row w w.heap.size 4 A3 q (fun i => (rest i).c))
    (hl : ∀ i, i < n → (cut i).rn ≤ 1000 ∧ Row w w.heap.size 1 (cut i).ra (cut i).rn (fun j _ => .int .i64 (roll i j))) :
    Calls Try.prog 21 #[.slice A n c, .slice A2 m c2, .slice A3 q c3] w (RecutPost w n m q cut poly rest (fun i => pieceOf (cut i) (roll i))) := by
  have HP := Lib.hid hp
  have HQ := Lib.hid hq
  have HR := Lib.hid hr
  have HL := Lib.hid hl
  clear hp hq hr hl
  obtain ⟨i0, hi0, hz0, hz1, hz2⟩ := info_parts cloneCut_any_info
  have HI0 := Lib.hid hi0
  have HZ := Lib.hid (And.intro hz0 (And.intro hz1 hz2))
  clear hi0 hz0 hz1 hz2
  go_enter Try.func21, Try.ntmps21
  go_wp2_with fail
  refine (rneeds_any A A2 n c m c2 cut poly _ hn hm HP.out HQ.out).mono ?_
  rintro e w1 ⟨hb1, ⟨hE, v, u, rfl, hN, hI⟩ | ⟨hE, rfl⟩⟩
  rotate_left
  · have hne : (firstErr (fun i => cutErr m poly (cut i)) n != 0) = true := bne_iff_ne.2 hE
    have HE := Lib.hid hE
    clear hE
    go_wp2_with fail
    go_ret3
    exact ⟨hb1, .inr ⟨HE.out, rfl⟩⟩
  have HE := Lib.hid hE
  clear hE
  obtain ⟨AN, cN, rfl, hcN, hcN2, hrN⟩ := hN.form
  obtain ⟨AI, cI, rfl, hcI, hcI2, hrI⟩ := hI.form
  have hdl := dmgs_le cut n
  clear hcN2 hcI2
  go_wp2_with fail
  refine (rassign_any AN A3 _ cN q c3 (needAt cut poly n) rest _ (by omega) hq0 hrN (HR.out.later hb1)).mono ?_
  rintro e w2 ⟨vL, vG, rfl, hL, hG, hb2⟩
  obtain ⟨AL, cL, rfl, hcL, hcL2, hrL⟩ := hL.form
  obtain ⟨AG, cG, rfl, hcG, hcG2, hrG⟩ := hG.form
  clear hcL2 hcG2 hN hrN
  have hI2 := hI.later hb2
  have hbw2 := below_up hb1 hb2
  have HRI := Lib.hid (hrI.later hb2)
  have HP2 := Lib.hid (HP.out.later hbw2)
  have HR2 := Lib.hid (HR.out.later hbw2)
  have HL2 := Lib.hid (hL.mono hb1.size)
  have HRG := Lib.hid hrG
  clear hI hrI hb2 hL hG hrL hrG
  go_upto_region 6 with (at_builtin; refine wpList_append_row _ rfl _ _ _ rfl w2.heap.size 43 i0 _ 6 64 Try.underlying22 HI0.out HZ.out.1 HZ.out.2.1 HZ.out.2.2 rfl (by omega) _ 0 (fun i => (cut i).c) rfl (Owned.nil _ _ _ _ _) _ _ n c (fun i => (cut i).c) rfl HP2.out (plain_cut cut n) (by simp only [maxLen]; omega) (by omega) (by simp) ?_; intro vA w3 hown hgr hbk)
  have hb3 : Below w2.heap.size w2 w3 := (Below.refl _ _).grown hgr (Nat.le_refl _) (fun k hk => by cases hk)
  rw [Nat.zero_add] at hown
  have hA := hown.congr (g := fun i => (cut i).c) (fun i j _ _ => by simp [glue])
  clear hown hgr hbk
  have hbw3 := below_up hbw2 hb3
  have hC : CutsAre w3 w2.heap.size vA n (fun i => pieceOf (cut i) (roll i)) := by
    refine ⟨cut, hA, fun i hi => ⟨rfl, rfl, rfl, rfl, rfl, rfl, (HL.out i hi).1, fun h0 => ?_⟩⟩
    obtain ⟨b, off, ha, hlt, hc⟩ := (HL.out i hi).2 h0
    refine ⟨b, off, ha, Nat.lt_of_lt_of_le hlt hbw3.size, fun hv => ?_, fun j hj => ?_⟩
    · have := (hA.lt b hv).1
      have := hbw2.size
      omega
    · have := hc j 0 hj (by omega)
      rw [show off + j * 1 + 0 = off + j by omega] at this
      exact (hbw3.cell (p := ⟨b, _, none⟩) hlt).trans this
  obtain ⟨AA, cA, rfl⟩ := hC.form
  clear hA hb1 hbw3
  go_wp2_with fail
  go_loopw [15] (fun t wr => ∃ j : Nat, j ≤ (dmgs cut n).length ∧ t = .int .i64 j ∧ CutsAre wr w2.heap.size (.slice AA n cA) n (recutF n q cut poly rest (fun i => pieceOf (cut i) (roll i)) j) ∧ Below w2.heap.size w2 wr) (fun t _ => (dmgs cut n).length - (intOf t).toNat)
  case atStart => exact ⟨0, Nat.zero_le _, rfl, hC, hb3⟩
  case round =>
    obtain ⟨j, hj, rfl, jC, hwr2⟩ := hrel
    clear hC hb3
    have hs2 : w2.heap.size ≤ wr.heap.size := hwr2.size
    by_cases hlt : j < (dmgs cut n).length
    · have hlt' : (j : Int) < ((dmgs cut n).length : Nat) := by omega
      have hj0 : (0 : Int) ≤ j := by omega
      obtain ⟨bg, og, rfl, hBg⟩ := HRG.out.addr (by omega)
      have fg := (hwr2.cell (p := ⟨_, _, none⟩) hBg).trans (HRG.out.at1 hlt)
      rcases Int.lt_or_le (gotF q (needAt cut poly n) rest j) 0 with hneg | hpos
      · have HN := Lib.hid hneg
        go_wp2_with fail
        go_roundw
        case rel => exact ⟨j + 1, by omega, by go_num, jC.congr (fun i hi => by unfold recutF; rw [hit_skip HN.out]), hwr2⟩
        case measure => simp [intOf]; omega
      · obtain ⟨kr, hkr, hgot, _⟩ := got_lt hpos
        obtain ⟨hpi, _⟩ := dmgs_lt (cut := cut) hlt
        obtain ⟨bi, oi, rfl, hBi⟩ := HRI.out.addr (by omega)
        have fi := (hwr2.cell (p := ⟨_, _, none⟩) hBi).trans (HRI.out.at1 hlt)
        obtain ⟨pi, hpi2⟩ : ∃ pi, (dmgs cut n).getD j 0 = pi := ⟨_, rfl⟩
        unfold idxAt at fi
        rw [hpi2] at hpi fi
        rw [hgot] at fg
        obtain ⟨bc, oc, rfl, hBc⟩ := HP2.out.addr (by omega)
        obtain ⟨e0, e1, e2, e3, e4, e5⟩ := HP2.out.at6 hpi
        simp only [Cut.c] at e0 e1 e2 e3 e4 e5
        have f0 := (hwr2.cell (p := ⟨_, _, none⟩) hBc).trans e0
        have f1 := (hwr2.cell (p := ⟨_, _, none⟩) hBc).trans e1
        have f2 := (hwr2.cell (p := ⟨_, _, none⟩) hBc).trans e2
        have f3 := (hwr2.cell (p := ⟨_, _, none⟩) hBc).trans e3
        have f4 := (hwr2.cell (p := ⟨_, _, none⟩) hBc).trans e4
        have f5 := (hwr2.cell (p := ⟨_, _, none⟩) hBc).trans e5
        clear e0 e1 e2 e3 e4 e5
        have HPI := Lib.hid hpi2
        have HG := Lib.hid hgot
        have HPOS := Lib.hid hpos
        clear hpi2 hgot
        have hkr' : (kr : Int) < q := by omega
        have hkr0 : (0 : Int) ≤ kr := by omega
        have hpi' : (pi : Int) < n := by omega
        have hpi0 : (0 : Int) ≤ pi := by omega
        go_upto_region 11 with (fail)
        have qX := Blk.new wr 43 #[.int .i64 (cut pi).ply, .int .i64 (cut pi).place, .int .i64 (cut pi).lot, .int .i64 (cut pi).size, .slice (cut pi).ra (cut pi).rn (cut pi).rc, .bool (cut pi).dmg]
        have qC := jC.later (below_a1 wr (.cells #[.int .i64 (cut pi).ply, .int .i64 (cut pi).place, .int .i64 (cut pi).lot, .int .i64 (cut pi).size, .slice (cut pi).ra (cut pi).rn (cut pi).rc, .bool (cut pi).dmg] 43))
        have qb := hwr2.alloc hs2 (.cells #[.int .i64 (cut pi).ply, .int .i64 (cut pi).place, .int .i64 (cut pi).lot, .int .i64 (cut pi).size, .slice (cut pi).ra (cut pi).rn (cut pi).rc, .bool (cut pi).dmg] 43)
        have hown0 : ∀ k, (Value.slice AA n cA).ownBlock = some k → k < wr.heap.size := by
          obtain ⟨_, ho, _⟩ := jC
          exact fun k hk => (ho.lt k hk).2
        obtain ⟨gx, hgx⟩ : ∃ gx, gx = wr.heap.size := ⟨_, rfl⟩
        rw [← hgx] at hown0
        rw [← hgx] at qX ⊢
        generalize hW : wr.alloc _ = W at qX qC qb ⊢
        clear hW f0 f1 f2 f3 f4 f5 fi fg jC hgx
        have fi := (qb.cell (p := ⟨_, _, none⟩) hBi).trans (HRI.out.at1 hlt)
        have fg := (qb.cell (p := ⟨_, _, none⟩) hBg).trans (HRG.out.at1 hlt)
        unfold idxAt at fi
        rw [HPI.out] at fi
        rw [HG.out] at fg
        obtain ⟨bl, ol, rfl, hBl⟩ := HR2.out.addr (by omega)
        have fl := (qb.cell (p := ⟨_, _, none⟩) hBl).trans (HR2.out.at4 hkr).1
        simp only [Rest.c] at fl
        have x0 := qX.cell 0
        have x1 := qX.cell 1
        have x2 := qX.cell 2
        have x3 := qX.cell 3
        simp at x0 x1 x2 x3
        obtain ⟨g, cap, hform, hgb, hgl, hfz, cut', hpc, hcc⟩ := qC.blk (by omega)
        injection hform with h1 _ h2
        subst h1; subst h2
        have y0 := hcc pi 0 hpi (by omega)
        have y1 := hcc pi 1 hpi (by omega)
        have y2 := hcc pi 2 hpi (by omega)
        have y3 := hcc pi 3 hpi (by omega)
        have y4 := hcc pi 4 hpi (by omega)
        have y5 := hcc pi 5 hpi (by omega)
        simp only [Cut.c, Nat.add_zero] at y0 y1 y2 y3 y4 y5
        have z0 := hfz (pi * 6)
        have z1 := hfz (pi * 6 + 1)
        have z2 := hfz (pi * 6 + 2)
        have z3 := hfz (pi * 6 + 3)
        have z4 := hfz (pi * 6 + 4)
        have z5 := hfz (pi * 6 + 5)
        clear hfz hpc hcc
        have hgx1 : g < gx := hown0 g rfl
        have hd1 : gx ≠ g := by omega
        have hd2 : bi ≠ g := by omega
        have hd3 : bg ≠ g := by omega
        have hd4 : bl ≠ g := by omega
        have hd5 : g ≠ gx := by omega
        have hd6 : g ≠ bi := by omega
        have hd7 : g ≠ bg := by omega
        have hd8 : g ≠ bl := by omega
        have hne1 := World.new_ne W ⟨gx, 0, none⟩ x0
        have hne2 := World.new_ne W ⟨bi, oi + j, none⟩ fi
        have hne3 := World.new_ne W ⟨bg, og + j, none⟩ fg
        have hne4 := World.new_ne W _ fl
        have hne5 := World.new_ne W _ y0
        go_region_held3 (fun w' => w'.cell? ⟨gx, 0, none⟩ = some (.int .i64 (cut pi).ply) ∧ w'.cell? ⟨gx, 1, none⟩ = some (.int .i64 (cut pi).place) ∧ w'.cell? ⟨gx, 2, none⟩ = some (.int .i64 (cut pi).lot) ∧ w'.cell? ⟨gx, 3, none⟩ = some (.int .i64 (cut pi).size) ∧ w'.cell? ⟨bi, oi + j, none⟩ = some (.int .i64 pi) ∧ w'.cell? ⟨bg, og + j, none⟩ = some (.int .i64 kr) ∧ w'.cell? ⟨bl, ol + kr * 4, none⟩ = some (.int .i64 (rest kr).roll)) (go_keep) (fail)
        obtain ⟨n1, n2, n3, n4⟩ := newPiece_keep (pieceOf (cut pi) (roll pi)) (hitF (dmgs cut n) (gotF q (needAt cut poly n) rest) (fun j => (rest (gotF q (needAt cut poly n) rest j).toNat).roll) j pi)
        have t1 := qC.later (below_a1 W (.cells #[.int .i64 (rest kr).roll] 3))
        have t2 := (((t1.setSame (j := 0) hpi (by omega)).setSame (j := 1) hpi (by omega)).setSame (j := 2) hpi (by omega)).setSame (j := 3) hpi (by omega)
        rw [show (recutF n q cut poly rest (fun i => pieceOf (cut i) (roll i)) j pi).i 0 = (cut pi).ply from n1, show (recutF n q cut poly rest (fun i => pieceOf (cut i) (roll i)) j pi).i 1 = (cut pi).place from n2, show (recutF n q cut poly rest (fun i => pieceOf (cut i) (roll i)) j pi).i 2 = (cut pi).lot from n3, show (recutF n q cut poly rest (fun i => pieceOf (cut i) (roll i)) j pi).i 3 = (cut pi).size from n4] at t2
        have t3 := t2.setRolls (k := pi) (A := some ⟨W.heap.size, 0, none⟩) (m := 1) (c := 1) (r := fun _ => (rest kr).roll) hpi (by omega) (fun _ => ⟨W.heap.size, 0, rfl, by simp, by omega, fun l hl => by
          obtain rfl : l = 0 := by omega
          rw [four_far (by omega)]
          exact cell_box W _ _ 0⟩)
        have t4 := t3.setDmg (k := pi) hpi false
        rw [six_alloc hgl] at t4
        have jb := (((((((qb.setCell (p := ⟨g, pi * 6, none⟩) hgb (.int .i64 (cut pi).ply)).setCell (p := ⟨g, pi * 6 + 1, none⟩) hgb (.int .i64 (cut pi).place)).setCell (p := ⟨g, pi * 6 + 2, none⟩) hgb (.int .i64 (cut pi).lot)).setCell (p := ⟨g, pi * 6 + 3, none⟩) hgb (.int .i64 (cut pi).size)).setCell (p := ⟨g, pi * 6 + 4, none⟩) hgb (.slice (some ⟨W.heap.size, 0, none⟩) 1 1)).setCell (p := ⟨g, pi * 6 + 5, none⟩) hgb (.bool false)).alloc (by simp [World.setCell]; have := qb.size; omega) (.cells #[.int .i64 (rest kr).roll] 3)).drew
        have t5 := t4.later (Below.refl _ _).drew
        have HC5 := Lib.hid (t5.congr (T' := recutF n q cut poly rest (fun i => pieceOf (cut i) (roll i)) (j + 1)) (fun i hi => by
          unfold recutF
          rw [hit_take HPOS.out HPI.out, HG.out]
          by_cases hik : i = pi
          · subst hik
            simp only [if_true, Int.toNat_natCast]
            rw [n1, n2, n3, n4]
            rfl
          · simp only [hik, if_false]))
        simp only [Nat.add_zero] at HC5
        clear t1 t2 t3 t4 t5 n1 n2 n3 n4
        generalize hW : World.drew _ = W7 at HC5 jb ⊢
        clear hW
        go_wp2_with fail
        go_roundw
        case rel => exact ⟨j + 1, by omega, by go_num, HC5.out, jb⟩
        case measure => simp [intOf]; omega
    · obtain rfl : j = (dmgs cut n).length := by omega
      go_wp2_with fail
      go_ret3
      exact ⟨hbw2.trans (hwr2.mono hbw2.size), .inl ⟨HE.out, _, _, rfl, jC.mono hbw2.size, HL2.out.later hwr2⟩⟩

end Go.Proofs.Ytmjfalabjlbdeaa
