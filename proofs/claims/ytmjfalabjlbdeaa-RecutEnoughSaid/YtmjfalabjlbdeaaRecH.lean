/- recut.Recut. -/
import Derived.Test.YtmjfalabjlbdeaaRecG
namespace Go.Proofs.Ytmjfalabjlbdeaa
open Go.RowKit
set_option linter.unusedSimpArgs false
set_option linter.unusedVariables false

theorem CutsAre.mono {w : World} {base b' n : Nat} {v : Value} {T : Nat → Piece} (h : CutsAre w base v n T) (hb : b' ≤ base) : CutsAre w b' v n T := by
  obtain ⟨cut, ho, hi⟩ := h
  exact ⟨cut, ho.mono hb, hi⟩

theorem setCell_alloc_old {w : World} {o : Obj} {p : Addr} {u : Value} (h : p.block < w.heap.size) : (w.alloc o).setCell p u = (w.setCell p u).alloc o := by
  unfold World.setCell World.alloc
  congr 1
  exact Array.ext_getElem? fun i => by
    simp only [Array.getElem?_modify, Array.getElem?_push]
    by_cases h1 : p.block = i
    · subst h1
      simp [Nat.ne_of_lt h]
    · simp [h1]

theorem hit_skip {D : List Nat} {got roll : Nat → Int} {m : Nat} (h : got m < 0) (i : Nat) : hitF D got roll (m + 1) i = hitF D got roll m i := by
  show (if 0 ≤ got m ∧ D.getD m 0 = i then some (roll m) else hitF D got roll m i) = _
  rw [if_neg (by omega)]

theorem hit_take {D : List Nat} {got roll : Nat → Int} {m k : Nat} (h : 0 ≤ got m) (hk : D.getD m 0 = k) (i : Nat) : hitF D got roll (m + 1) i = if i = k then some (roll m) else hitF D got roll m i := by
  show (if 0 ≤ got m ∧ D.getD m 0 = i then some (roll m) else hitF D got roll m i) = _
  by_cases hi : i = k
  · rw [if_pos ⟨h, by omega⟩, if_pos hi]
  · rw [if_neg (by omega), if_neg hi]

theorem newPiece_keep (t : Piece) (o : Option Int) : (newPiece t o).ply = t.ply ∧ (newPiece t o).place = t.place ∧ (newPiece t o).lot = t.lot ∧ (newPiece t o).size = t.size := by
  cases o <;> exact ⟨rfl, rfl, rfl, rfl⟩

set_option maxHeartbeats 3200000 in
theorem recut_any (A A2 A3 : Option Addr) (n c m c2 q c3 : Nat) (cut : Nat → Cut) (poly : Nat → Poly) (rest : Nat → Rest) (roll : Nat → Nat → Int) (w : World) (hn : n ≤ 1000) (hm : m ≤ 1000) (hq0 : q ≤ 1000)
    (hp : Row w w.heap.size 6 A n (fun i => (cut i).c)) (hq : Polys w w.heap.size A2 m poly) (hr : Row w w.heap.size 4 A3 q (fun i => (rest i).c))
    (hl : ∀ i, i < n → (cut i).rn ≤ 1000 ∧ Row w w.heap.size 1 (cut i).ra (cut i).rn (fun j _ => .int .i64 (roll i j))) :
    Calls Try.prog 20 #[.slice A n c, .slice A2 m c2, .slice A3 q c3] w (RecutPost w n m q cut poly rest (fun i => pieceOf (cut i) (roll i))) := by
  have HP := Lib.hid hp
  have HQ := Lib.hid hq
  have HR := Lib.hid hr
  have HL := Lib.hid hl
  clear hp hq hr hl
  go_enter Try.func20, Try.ntmps20
  go_wp2_with fail
  refine (needs_any A A2 n c m c2 cut poly _ hn hm HP.out HQ.out).mono ?_
  rintro e w1 ⟨hb1, ⟨hE, v, u, rfl, hN, hI⟩ | ⟨hE, rfl⟩⟩
  rotate_left
  · have hne : (firstErr (fun i => cutErr m poly (cut i)) n != 0) = true := bne_iff_ne.2 hE
    have HE := Lib.hid hE
    clear hE
    go_wp2_with fail
    go_ret3
    exact ⟨hb1, .inr ⟨HE.out, rfl⟩⟩
  have HE := Lib.hid hE
  clear hE
  obtain ⟨AN, cN, rfl, hcN, hcN2, hrN⟩ := hN.form
  obtain ⟨AI, cI, rfl, hcI, hcI2, hrI⟩ := hI.form
  have hdl := dmgs_le cut n
  clear hcN2 hcI2
  go_wp2_with fail
  refine (assign_any AN A3 _ cN q c3 (needAt cut poly n) rest _ (by omega) hq0 hrN (HR.out.later hb1)).mono ?_
  rintro e w2 ⟨vL, vG, rfl, hL, hG, hb2⟩
  obtain ⟨AL, cL, rfl, hcL, hcL2, hrL⟩ := hL.form
  obtain ⟨AG, cG, rfl, hcG, hcG2, hrG⟩ := hG.form
  clear hcL2 hcG2 hN hrN
  have hI2 := hI.later hb2
  have hbw2 := below_up hb1 hb2
  have HRI := Lib.hid (hrI.later hb2)
  clear hI hrI hb2
  go_wp2_with fail
  refine (cloneCut_any A n c _ _ hn (HP.out.later hbw2) (plain_cut cut n)).mono ?_
  rintro e w3 ⟨vA, rfl, hA, hb3⟩
  have hbw3 := below_up hbw2 hb3
  have HL2 := Lib.hid (hL.mono hb1.size)
  have HRL := Lib.hid hrL
  have HRG := Lib.hid hrG
  have HB23 := Lib.hid hb3
  have hC : CutsAre w3 w2.heap.size vA n (fun i => pieceOf (cut i) (roll i)) := by
    refine ⟨cut, hA, fun i hi => ⟨rfl, rfl, rfl, rfl, rfl, rfl, (HL.out i hi).1, fun h0 => ?_⟩⟩
    obtain ⟨b, off, ha, hlt, hc⟩ := (HL.out i hi).2 h0
    refine ⟨b, off, ha, Nat.lt_of_lt_of_le hlt hbw3.size, fun hv => ?_, fun j hj => ?_⟩
    · have := (hA.lt b hv).1
      have := hbw2.size
      omega
    · have := hc j 0 hj (by omega)
      rw [show off + j * 1 + 0 = off + j by omega] at this
      exact (hbw3.cell (p := ⟨b, _, none⟩) hlt).trans this
  obtain ⟨AA, cA, rfl⟩ := hC.form
  clear hA hb3 hb1 hL hG hrL hrG
  have hb23 : Below w2.heap.size w2 w3 := HB23.out
  clear HB23
  go_wp2_with fail
  go_loopw [39] (fun t wr => ∃ k : Nat, k ≤ n ∧ t = .int .i64 k ∧ CutsAre wr w2.heap.size (.slice AA n cA) n (fun i => pieceOf (cut i) (roll i)) ∧ Below w2.heap.size w2 wr) (fun t _ => n - (intOf t).toNat)
  case atStart => exact ⟨0, Nat.zero_le _, rfl, hC, hb23⟩
  case round =>
    obtain ⟨k, hk, rfl, kC, hwr⟩ := hrel
    clear hC hb23
    have hs1 : w2.heap.size ≤ wr.heap.size := hwr.size
    by_cases hlt : k < n
    · obtain ⟨g, cap, hform, hgb, hgl, hfz, cut', hpc, hcc⟩ := kC.blk (by omega)
      injection hform with h1 _ h2
      subst h1; subst h2
      have f4 := hcc k 4 hlt (by omega)
      have z4 := hfz (k * 6 + 4)
      simp only [Cut.c] at f4
      have hk1 := hpc k hlt
      clear hcc hfz hpc
      have hlt' : (k : Int) < n := by omega
      have hk0 : (0 : Int) ≤ k := by omega
      go_wp2_with fail
      refine (cloneInt_any _ _ _ _ _ hk1.2.2.2.2.2.2.1 hk1.row (plain_int _ _)).mono ?_
      rintro e w4 ⟨vR, rfl, hR, hb4⟩
      obtain ⟨AR, cR, rfl, _, _, _⟩ := hR.form
      have g4 := (hb4.cell (p := ⟨g, k * 6 + 4, none⟩) hgl).trans f4
      have y4 := (hb4.frozen (p := ⟨g, k * 6 + 4, none⟩) hgl).trans z4
      clear f4 z4
      have kC2 := kC.later hb4
      have kC3 := kC2.setRolls (k := k) (A := AR) (m := (cut' k).rn) (c := cR) (r := roll k) hlt hk1.2.2.2.2.2.2.1 (fun h0 => by
        obtain ⟨b, cap', hv, hbge, hblt, _, _, hcell, _⟩ := hR.blk h0
        injection hv with hv1 _ _
        refine ⟨b, 0, hv1, hblt, by omega, fun j hj => ?_⟩
        have := hcell j 0 hj (by omega)
        rw [show j * 1 + 0 = 0 + j by omega] at this
        exact this)
      have hb5 := (hwr.trans (hb4.mono hs1)).setCell (p := ⟨g, k * 6 + 4, none⟩) hgb (.slice AR (cut' k).rn cR)
      have kC4 : CutsAre _ _ _ _ _ := kC3.congr (T' := fun i => pieceOf (cut i) (roll i)) (fun i hi => by
        by_cases hik : i = k
        · subst hik
          simp only [if_true]
          have e6 : (cut' i).rn = (cut i).rn := hk1.2.2.2.2.2.1
          rw [e6]
          rfl
        · simp only [hik, if_false])
      have HC4 := Lib.hid kC4
      clear kC kC2 kC3 kC4 hk1 hR hb4
      go_upto_region 10 with (fail)
      generalize hW : World.setCell _ _ _ = W6 at HC4 hb5 ⊢
      clear hW g4 y4
      go_wp2_with fail
      go_roundw
      case rel => exact ⟨k + 1, by omega, by go_num, HC4.out, hb5⟩
      case measure => simp [intOf]; omega
    · go_wp2_with fail
      obtain ⟨wo, rfl⟩ : ∃ wo, wo = wr := ⟨_, rfl⟩
      go_loopw [55] (fun t wr => ∃ j : Nat, j ≤ (dmgs cut n).length ∧ t = .int .i64 j ∧ CutsAre wr w2.heap.size (.slice AA n cA) n (recutF n q cut poly rest (fun i => pieceOf (cut i) (roll i)) j) ∧ Below w2.heap.size w2 wr) (fun t _ => (dmgs cut n).length - (intOf t).toNat)
      case atStart => exact ⟨0, Nat.zero_le _, rfl, kC, hwr⟩
      case round =>
        obtain ⟨j, hj, rfl, jC, hwr2⟩ := hrel
        clear kC hwr
        have hs2 : w2.heap.size ≤ wr.heap.size := hwr2.size
        by_cases hlt : j < (dmgs cut n).length
        · have hlt' : (j : Int) < ((dmgs cut n).length : Nat) := by omega
          have hj0 : (0 : Int) ≤ j := by omega
          obtain ⟨bg, og, rfl, hBg⟩ := HRG.out.addr (by omega)
          have fg := (hwr2.cell (p := ⟨_, _, none⟩) hBg).trans (HRG.out.at1 hlt)
          rcases Int.lt_or_le (gotF q (needAt cut poly n) rest j) 0 with hneg | hpos
          · have HN := Lib.hid hneg
            go_wp2_with fail
            go_roundw
            case rel => exact ⟨j + 1, by omega, by go_num, jC.congr (fun i hi => by unfold recutF; rw [hit_skip HN.out]), hwr2⟩
            case measure => simp [intOf]; omega
          · obtain ⟨kr, hkr, hgot, _⟩ := got_lt hpos
            obtain ⟨hpi, _⟩ := dmgs_lt (cut := cut) hlt
            obtain ⟨bi, oi, rfl, hBi⟩ := HRI.out.addr (by omega)
            have fi := (hwr2.cell (p := ⟨_, _, none⟩) hBi).trans (HRI.out.at1 hlt)
            obtain ⟨pi, hpi2⟩ : ∃ pi, (dmgs cut n).getD j 0 = pi := ⟨_, rfl⟩
            unfold idxAt at fi
            rw [hpi2] at hpi fi
            rw [hgot] at fg
            obtain ⟨bl, ol, rfl, hBl⟩ := HRL.out.addr (by omega)
            have fl := (hwr2.cell (p := ⟨_, _, none⟩) hBl).trans (HRL.out.at4 hkr).1
            simp only [Rest.c, left_roll] at fl
            obtain ⟨g, cap, hform, hgb, hgl, hfz, cut', hpc, hcc⟩ := jC.blk (by omega)
            injection hform with h1 _ h2
            subst h1; subst h2
            have f4 := hcc pi 4 hpi (by omega)
            have f5 := hcc pi 5 hpi (by omega)
            have z4 := hfz (pi * 6 + 4)
            have z5 := hfz (pi * 6 + 5)
            simp only [Cut.c] at f4 f5
            clear hcc hfz hpc
            have HPI := Lib.hid hpi2
            have HG := Lib.hid hgot
            have HPOS := Lib.hid hpos
            clear hpi2 hgot hpos
            have hkr' : (kr : Int) < q := by omega
            have hpi' : (pi : Int) < n := by omega
            have hgne : g ≠ wr.heap.size := by omega
            have hblr : bl < wr.heap.size := by omega
            go_upto_region 17 with (fail)
            have jC1 := jC.later (below_a1 wr (.cells #[.int .i64 (rest kr).roll] 3))
            have jC2 := jC1.setRolls (k := pi) (A := some ⟨wr.heap.size, 0, none⟩) (m := 1) (c := 1) (r := fun _ => (rest kr).roll) hpi (by omega) (fun _ => ⟨wr.heap.size, 0, rfl, by simp, hgne, fun l hl => by
              obtain rfl : l = 0 := by omega
              exact cell_box wr _ _ 0⟩)
            have jC3 := jC2.setDmg (k := pi) hpi false
            rw [setCell_alloc_old (by simp only []; omega), setCell_alloc_old (by simp [World.setCell]; omega)] at jC3
            have jb := ((hwr2.setCell (p := ⟨g, pi * 6 + 4, none⟩) hgb (.slice (some ⟨wr.heap.size, 0, none⟩) 1 1)).setCell (p := ⟨g, pi * 6 + 5, none⟩) hgb (.bool false)).alloc (by simp [World.setCell]; omega) (.cells #[.int .i64 (rest kr).roll] 3)
            have HC3 := Lib.hid jC3
            clear jC jC1 jC2 jC3
            generalize hW : World.alloc _ _ = W7 at HC3 jb ⊢
            clear hW
            go_wp2_with fail
            go_roundw
            case rel =>
              refine ⟨j + 1, by omega, by go_num, HC3.out.congr (fun i hi => ?_), jb⟩
              unfold recutF
              rw [hit_take HPOS.out HPI.out, HG.out]
              by_cases hik : i = pi
              · subst hik
                simp only [if_true, Int.toNat_natCast]
                obtain ⟨n1, n2, n3, n4⟩ := newPiece_keep (pieceOf (cut i) (roll i)) (hitF (dmgs cut n) (gotF q (needAt cut poly n) rest) (fun j => (rest (gotF q (needAt cut poly n) rest j).toNat).roll) j i)
                rw [n1, n2, n3, n4]
                rfl
              · simp only [hik, if_false]
            case measure => simp [intOf]; omega
        · obtain rfl : j = (dmgs cut n).length := by omega
          go_wp2_with fail
          go_ret3
          exact ⟨hbw2.trans (hwr2.mono hbw2.size), .inl ⟨HE.out, _, _, rfl, jC.mono hbw2.size, HL2.out.later hwr2⟩⟩

end Go.Proofs.Ytmjfalabjlbdeaa
