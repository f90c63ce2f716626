/- recut.Needs. -/
import Derived.Test.YtmjfalabjlbdeaaRecE
namespace Go.Proofs.Ytmjfalabjlbdeaa
open Go.RowKit
set_option linter.unusedSimpArgs false
set_option linter.unusedVariables false

set_option maxHeartbeats 3200000 in
theorem needs_any (A A2 : Option Addr) (n c m c2 : Nat) (cut : Nat → Cut) (poly : Nat → Poly) (w : World) (hn : n ≤ 1000) (hm : m ≤ 1000)
    (hp : Row w w.heap.size 6 A n (fun i => (cut i).c)) (hq : Polys w w.heap.size A2 m poly) :
    Calls Try.prog 13 #[.slice A n c, .slice A2 m c2] w (NeedsPost w n m cut poly) := by
  have HP := Lib.hid hp
  have HQ := Lib.hid hq
  clear hp hq
  obtain ⟨i0, hi0, hz0, hz1, hz2⟩ := info_parts need_info
  obtain ⟨i1, hi1, hy0, hy1, hy2⟩ := info_parts cloneInt_any_info
  have HI0 := Lib.hid hi0
  have HI1 := Lib.hid hi1
  have HZ := Lib.hid (And.intro hz0 (And.intro hz1 hz2))
  have HY := Lib.hid (And.intro hy0 (And.intro hy1 hy2))
  clear hi0 hz0 hz1 hz2 hi1 hy0 hy1 hy2
  go_enter Try.func13, Try.ntmps13
  go_wp2_with fail
  go_loopw [7, 8, 15] (fun v u t wr => ∃ k : Nat, k ≤ n ∧ t = .int .i64 k ∧ Hid (∀ i, i < k → cutErr m poly (cut i) = 0) ∧ Owned wr w.heap.size 47 2 v (dmgs cut k).length (fun j => (needAt cut poly k j).c) ∧
      Owned wr w.heap.size 3 1 u (dmgs cut k).length (fun j _ => .int .i64 (idxAt cut k j)) ∧ Below w.heap.size w wr) (fun _ _ t _ => n - (intOf t).toNat)
  case atStart => exact ⟨0, Nat.zero_le _, rfl, Lib.hid (fun i hi => absurd hi (by omega)), Owned.nil _ _ _ _ _, Owned.nil _ _ _ _ _, Below.refl _ _⟩
  case round =>
    obtain ⟨k, hk, rfl, hno, kN, kI, hwr⟩ := hrel
    have hs1 : w.heap.size ≤ wr.heap.size := hwr.size
    by_cases hlt : k < n
    · obtain ⟨b, off, rfl, hB⟩ := HP.out.addr (by omega)
      obtain ⟨e0, e1, e2, e3, e4, e5⟩ := HP.out.at6 hlt
      simp only [Cut.c] at e0 e1 e2 e3 e4 e5
      have f0 := (hwr.cell (p := ⟨_, _, none⟩) hB).trans e0
      have f1 := (hwr.cell (p := ⟨_, _, none⟩) hB).trans e1
      have f2 := (hwr.cell (p := ⟨_, _, none⟩) hB).trans e2
      have f3 := (hwr.cell (p := ⟨_, _, none⟩) hB).trans e3
      have f4 := (hwr.cell (p := ⟨_, _, none⟩) hB).trans e4
      have f5 := (hwr.cell (p := ⟨_, _, none⟩) hB).trans e5
      clear e0 e1 e2 e3 e4 e5
      have hlt' : (k : Int) < n := by omega
      go_upto_region 6 with (fail)
      have qC := Blk.new wr 43 #[.int .i64 (cut k).ply, .int .i64 (cut k).place, .int .i64 (cut k).lot, .int .i64 (cut k).size, .slice (cut k).ra (cut k).rn (cut k).rc, .bool (cut k).dmg]
      have qN := kN.alloc (.cells #[.int .i64 (cut k).ply, .int .i64 (cut k).place, .int .i64 (cut k).lot, .int .i64 (cut k).size, .slice (cut k).ra (cut k).rn (cut k).rc, .bool (cut k).dmg] 43)
      have qI := kI.alloc (.cells #[.int .i64 (cut k).ply, .int .i64 (cut k).place, .int .i64 (cut k).lot, .int .i64 (cut k).size, .slice (cut k).ra (cut k).rn (cut k).rc, .bool (cut k).dmg] 43)
      have qb := hwr.alloc hs1 (.cells #[.int .i64 (cut k).ply, .int .i64 (cut k).place, .int .i64 (cut k).lot, .int .i64 (cut k).size, .slice (cut k).ra (cut k).rn (cut k).rc, .bool (cut k).dmg] 43)
      generalize hW : wr.alloc _ = W at qC qN qI qb ⊢
      clear hW f0 f1 f2 f3 f4 f5 kN kI
      have g1 := qC.cell 1
      have g2 := qC.cell 2
      have g5 := qC.cell 5
      simp at g1 g2 g5
      cases hd : (cut k).dmg
      · have HD := Lib.hid hd
        rw [hd] at g5
        clear hd
        go_wp2_with fail
        go_roundw
        case rel =>
          refine ⟨k + 1, by omega, by go_num, Lib.hid (fun i hi => ?_), ?_, ?_, qb⟩
          · rcases Nat.lt_succ_iff_lt_or_eq.1 hi with h' | rfl
            · exact hno.out i h'
            · unfold cutErr; rw [HD.out]; rfl
          · rw [dmgs_skip HD.out]
            exact qN.congr (fun i j _ _ => by unfold needAt; rw [dmgs_skip HD.out])
          · rw [dmgs_skip HD.out]
            exact qI.congr (fun i j _ _ => by unfold idxAt; rw [dmgs_skip HD.out])
        case measure => simp [intOf]; omega
      · have HD := Lib.hid hd
        rw [hd] at g5
        clear hd
        by_cases hpl : (cut k).place < 0 ∨ (m : Int) ≤ (cut k).place
        · have hce : cutErr m poly (cut k) = 3 := by unfold cutErr; rw [HD.out, if_pos rfl, if_pos hpl]
          have HF := Lib.hid (fun W' hb => needs_fail (w := w) (w' := W') hlt hno.out hce (by decide) hb)
          clear hce
          rcases Int.lt_or_le (cut k).place 0 with hneg | hpos
          · clear hpl
            go_wp2_with fail
            go_ret3
            exact HF.out _ qb
          · have hge : (m : Int) ≤ (cut k).place := by omega
            clear hpl
            go_wp2_with fail
            go_ret3
            exact HF.out _ qb
        · have h0p : 0 ≤ (cut k).place := by omega
          have hpm : (cut k).place < m := by omega
          clear hpl
          obtain ⟨pl, hpl⟩ := Int.eq_ofNat_of_zero_le h0p
          rw [hpl] at g1 h0p hpm
          have hplm : pl < m := by omega
          have hcase : cutErr m poly (cut k) = checkF (poly pl).pn (poly pl).spot := by
            unfold cutErr
            rw [HD.out, if_pos rfl, hpl, if_neg (by omega)]
            simp
          have HCE := Lib.hid hcase
          have HPL := Lib.hid hpl
          clear hcase hpl
          obtain ⟨hsp, hpc, hpn⟩ := HQ.out.2 pl hplm
          obtain ⟨bp, op, rfl, hBp⟩ := HQ.out.1.addr (by omega)
          have e0 := HQ.out.1.at1 hplm
          have f0 := (qb.cell (p := ⟨_, _, none⟩) hBp).trans e0
          clear e0
          have HSP := Lib.hid (hsp.later qb)
          clear hsp
          go_wp2_with fail
          by_cases hck : checkF (poly pl).pn (poly pl).spot = 0
          rotate_left
          · refine (box_err _ _ _ _ _ hpn hpc HSP.out _ rfl hck).mono ?_
            rintro r w2 ⟨rfl, hb2⟩
            have hne : (checkF (poly pl).pn (poly pl).spot != 0) = true := bne_iff_ne.2 hck
            have HF := Lib.hid (fun W' hb => needs_fail (w := w) (w' := W') hlt hno.out HCE.out hck hb)
            have qb2 := below_up qb hb2
            clear hck
            simp only [zeroV]
            go_wp2_with fail
            go_ret3
            exact HF.out _ (qb2.alloc qb2.size _)
          · have HOK := Lib.hid hck
            have hbd := check_n hck
            refine (box_ok _ _ _ _ _ hpn hpc HSP.out hck).mono ?_
            rintro r w2 ⟨rfl, hb2⟩
            clear hck f0 g1 g2 g5
            have rC := qC.later hb2
            have rN := qN.later hb2
            have rI := qI.later hb2
            have rb := below_up qb hb2
            clear qC qN qI qb hb2 HSP hbd
            simp only [boxV]
            go_upto_region 10 with (fail)
            have sB := Blk.new w2 56 #[.int .i64 (minTo (spotX (poly pl).spot) (poly pl).pn), .int .i64 (minTo (spotY (poly pl).spot) (poly pl).pn), .int .i64 (maxTo (spotX (poly pl).spot) (poly pl).pn - minTo (spotX (poly pl).spot) (poly pl).pn), .int .i64 (maxTo (spotY (poly pl).spot) (poly pl).pn - minTo (spotY (poly pl).spot) (poly pl).pn)]
            have sC := rC.alloc (.cells #[.int .i64 (minTo (spotX (poly pl).spot) (poly pl).pn), .int .i64 (minTo (spotY (poly pl).spot) (poly pl).pn), .int .i64 (maxTo (spotX (poly pl).spot) (poly pl).pn - minTo (spotX (poly pl).spot) (poly pl).pn), .int .i64 (maxTo (spotY (poly pl).spot) (poly pl).pn - minTo (spotY (poly pl).spot) (poly pl).pn)] 56)
            have sN := rN.alloc (.cells #[.int .i64 (minTo (spotX (poly pl).spot) (poly pl).pn), .int .i64 (minTo (spotY (poly pl).spot) (poly pl).pn), .int .i64 (maxTo (spotX (poly pl).spot) (poly pl).pn - minTo (spotX (poly pl).spot) (poly pl).pn), .int .i64 (maxTo (spotY (poly pl).spot) (poly pl).pn - minTo (spotY (poly pl).spot) (poly pl).pn)] 56)
            have sI := rI.alloc (.cells #[.int .i64 (minTo (spotX (poly pl).spot) (poly pl).pn), .int .i64 (minTo (spotY (poly pl).spot) (poly pl).pn), .int .i64 (maxTo (spotX (poly pl).spot) (poly pl).pn - minTo (spotX (poly pl).spot) (poly pl).pn), .int .i64 (maxTo (spotY (poly pl).spot) (poly pl).pn - minTo (spotY (poly pl).spot) (poly pl).pn)] 56)
            have sb := rb.alloc rb.size (.cells #[.int .i64 (minTo (spotX (poly pl).spot) (poly pl).pn), .int .i64 (minTo (spotY (poly pl).spot) (poly pl).pn), .int .i64 (maxTo (spotX (poly pl).spot) (poly pl).pn - minTo (spotX (poly pl).spot) (poly pl).pn), .int .i64 (maxTo (spotY (poly pl).spot) (poly pl).pn - minTo (spotY (poly pl).spot) (poly pl).pn)] 56)
            generalize hW : w2.alloc _ = W3 at sB sC sN sI sb ⊢
            clear hW rC rN rI rb
            have g2 := sC.cell 2
            have g3 := sB.cell 2
            simp at g2 g3
            go_upto_region 12 with (fail)
            have hz3 : w.heap.size ≤ W3.heap.size := sb.size
            have hdl := dmgs_le cut k
            go_upto_region 13 with (at_builtin; refine wpList_append_row _ rfl _ _ _ rfl w.heap.size 47 i0 _ 2 16 Try.underlying26 HI0.out HZ.out.1 HZ.out.2.1 HZ.out.2.2 rfl (by omega) _ (dmgs cut k).length _ rfl (sN.alloc _) _ _ 1 1 (fun _ => Need.c ⟨(cut k).lot, (maxTo (spotX (poly pl).spot) (poly pl).pn - minTo (spotX (poly pl).spot) (poly pl).pn)⟩) rfl (Row.lit W3 #[.int .i64 (cut k).lot, .int .i64 (maxTo (spotX (poly pl).spot) (poly pl).pn - minTo (spotX (poly pl).spot) (poly pl).pn)] 1 47 2 _ (by simp only [maxLen]; omega) rfl) (fun i j _ hj => by simp only []; unfold Need.c; split <;> rfl) (by simp only [maxLen]; omega) (by omega) (by simp; omega) ?_; intro v' w4 hown hgr hbk)
            have tI := (sI.alloc (.cells #[.int .i64 (cut k).lot, .int .i64 (maxTo (spotX (poly pl).spot) (poly pl).pn - minTo (spotX (poly pl).spot) (poly pl).pn)] 47)).grown_other (sN.alloc _) (by decide) hgr
            have tb := (sN.alloc (.cells #[.int .i64 (cut k).lot, .int .i64 (maxTo (spotX (poly pl).spot) (poly pl).pn - minTo (spotX (poly pl).spot) (poly pl).pn)] 47)).below_grown (sb.alloc hz3 _) (Nat.le_refl _) (by simp; omega) hgr
            clear sN sI sB sC sb hgr hbk g2 g3
            have hz4 : w.heap.size ≤ w4.heap.size := tb.size
            go_wp2_with (at_builtin; refine wpList_append_row _ rfl _ _ _ rfl w.heap.size 3 i1 _ 1 8 Try.underlying27 HI1.out HY.out.1 HY.out.2.1 HY.out.2.2 rfl (by omega) _ (dmgs cut k).length _ rfl (tI.alloc _) _ _ 1 1 (fun _ _ => .int .i64 k) rfl (Row.lit w4 #[.int .i64 k] 1 3 1 _ (by simp only [maxLen]; omega) rfl) (fun i j _ hj => rfl) (by simp only [maxLen]; omega) (by omega) (by simp; omega) ?_; intro v2 w5 hown2 hgr2 hbk2)
            have uN := (hown.alloc (.cells #[.int .i64 k] 3)).grown_other (tI.alloc _) (by decide) hgr2
            have ub := (tI.alloc (.cells #[.int .i64 k] 3)).below_grown (tb.alloc hz4 _) (Nat.le_refl _) (by simp; omega) hgr2
            go_roundw
            case rel =>
              refine ⟨k + 1, by omega, by go_num, Lib.hid (fun i hi => ?_), ?_, ?_, ub⟩
              · rcases Nat.lt_succ_iff_lt_or_eq.1 hi with h' | rfl
                · exact hno.out i h'
                · rw [HCE.out, HOK.out]
              · rw [dmgs_take HD.out, List.length_append]
                refine uN.congr (fun i j hi hj => ?_)
                unfold glue needAt
                rw [dmgs_take HD.out]
                by_cases hik : i < (dmgs cut k).length
                · rw [if_pos hik, getD_snoc_lt _ _ _ hik]
                · obtain rfl : i = (dmgs cut k).length := by omega
                  rw [if_neg hik, getD_snoc_eq]
                  unfold widthF
                  rw [HPL.out]
                  rfl
              · rw [dmgs_take HD.out, List.length_append]
                refine hown2.congr (fun i j hi hj => ?_)
                unfold glue idxAt
                rw [dmgs_take HD.out]
                by_cases hik : i < (dmgs cut k).length
                · rw [if_pos hik, getD_snoc_lt _ _ _ hik]
                · obtain rfl : i = (dmgs cut k).length := by omega
                  rw [if_neg hik, getD_snoc_eq]
            case measure => simp [intOf]; omega
    · obtain rfl : k = n := by omega
      have HF := Lib.hid (firstErr_none (q := fun i => cutErr m poly (cut i)) hno.out)
      go_wp2_with fail
      go_ret3
      exact ⟨hwr, .inl ⟨HF.out, _, _, rfl, kN, kI⟩⟩

end Go.Proofs.Ytmjfalabjlbdeaa
