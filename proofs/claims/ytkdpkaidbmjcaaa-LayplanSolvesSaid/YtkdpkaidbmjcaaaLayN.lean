/- run: the descent. -/
import Derived.Test.YtkdpkaidbmjcaaaLayM
namespace Go.Proofs.Ytkdpkaidbmjcaaa
open Go.RowKit
set_option linter.unusedSimpArgs false
set_option linter.unusedVariables false

/-- The plan becomes the best one. -/
theorem Mem.newBest {E : FEnv} {w0 w : World} {gh : Nat} {p hg : Nat → Int} {b : Option Plan} {bv : Value} {ls : Int} {fd : Bool} (h : Mem E w0 gh w p hg b bv ls fd) (ok : E.Ok) (v : Value) (T : Int) (hT : T = costF (lenM E.mx) p E.m)
    (hO : Owned w (gh + 1) 3 1 v E.m (fun i _ => .int .i64 (p i))) :
    Mem E w0 gh (((w.setCell ⟨E.F, 11, none⟩ (.bool true)).setCell ⟨E.F, 10, none⟩ (.int .i64 T)).setCell ⟨E.F, 9, none⟩ v) p hg (some p) v T true := by
  obtain ⟨h1, b1⟩ := h.fin.putF (cost' := costF (lenM E.mx) p E.m) (bv' := bv) (ls' := ls) (fd' := true) ok 11 (.bool true) rfl
  obtain ⟨h2, b2⟩ := h1.putF (cost' := costF (lenM E.mx) p E.m) (bv' := bv) (ls' := T) (fd' := true) ok 10 (.int .i64 T) rfl
  obtain ⟨h3, b3⟩ := h2.putF (cost' := costF (lenM E.mx) p E.m) (bv' := v) (ls' := T) (fd' := true) ok 9 v rfl
  have hb := (b1.trans b2).trans b3
  exact ⟨h3, ⟨rfl, hT, hO.but hb (fun k hk hx => by have h4 := (hO.lt k hk).1; have h5 := X_lt ok hx; have h6 := h.top; omega)⟩,
    h.high.but hb (fun k hk hx => by have e : gh = k := Option.some.inj hk; have h5 := X_lt ok hx; have h6 := h.top; omega), h.but.trans hb, h.top, h.new⟩

set_option maxRecDepth 1000000 in
set_option maxHeartbeats 6400000 in
theorem desc_wp (E : FEnv) (ok : E.Ok) (w0 : World) (gh V k : Nat) (a : Act) (w : World) (x : Int) (hx : x = (k : Int)) (hD : DescW E w0 gh V k w) (hfr : FrameAt E gh x a) (Q0 : Exit → Act → World → Prop)
    (hg0 : ∀ (i : Nat) (x : Int) a w, x = (i : Int) - 1 → AscW E w0 gh V i w → FrameAt E gh x a → Q0 (.goto 0) a w)
    (hg1 : ∀ (i : Nat) (x : Int) a w, x = i → DescW E w0 gh (V + 1) i w → FrameAt E gh x a → Q0 (.goto 1) a w)
    (hend : ∀ (a : Act) w, a.defers = [] → AscW E w0 gh V 0 w → Q0 .normal a w) : descCode.wp Try.prog Q0 a w := by
  subst hx
  conv => arg 2; whnf
  obtain ⟨u1, r, rfl, hr⟩ := hfr
  iterate 120 (have hr' := list_succ hr; clear hr; obtain ⟨_, r, rfl, hr⟩ := hr')
  obtain rfl := list_zero hr
  clear hr
  have HO := Lib.hid ok
  have H0 := Lib.hid hg0
  have H1 := Lib.hid hg1
  have H2 := Lib.hid hend
  have hm6 := ok.good.m6
  clear ok hg0 hg1 hend
  go_wp2_with fail
  go_loopw [3] (fun t wr => ∃ j : Nat, t = .int .i64 (j : Int) ∧ DescW E w0 gh V j wr) (fun t _ => E.m - (intOf t).toNat)
  case atStart => exact ⟨k, rfl, hD⟩
  case round =>
    clear hD
    obtain ⟨j, rfl, p, hg, b, bv, ls, fd, hD, hM⟩ := hrel
    have hj0 : (0 : Int) ≤ j := by omega
    have HD := Lib.hid hD
    have HM := Lib.hid hM
    have hjm : j ≤ E.m := hD.pl.le
    have HBD := Lib.hid (fun i (_ : i < E.m) => hD.pl.bd40 HO.out i)
    obtain ⟨-, f1, -, -, f4, -, f6, -, -, -, f10, f11, ffz⟩ := hM.fin.fields
    clear hD hM
    by_cases hlt : j < E.m
    · have hlt' : (j : Int) < E.m := by omega
      clear f4 f6 f10 f11 ffz
      go_wp2_with fail
      refine (span_any E HO.out wr p bv ls fd j hlt HBD.out HM.out.fin).mono ?_
      rintro r w1 ⟨rfl, hb1⟩
      have HM1 := Lib.hid (HM.out.later HO.out hb1)
      clear f1 hb1 HM
      by_cases hd : (spanOf (E.span p j E.S)).2 < (spanOf (E.span p j E.S)).1
      · have HA := Lib.hid (show AscW E w0 gh V j w1 from ⟨_, _, _, _, _, _, HD.out.dead HO.out hlt hd, HM1.out⟩)
        generalize (spanOf (E.span p j E.S)).1 = lo at *
        generalize (spanOf (E.span p j E.S)).2 = hi at *
        go_wp2_with fail
        go_step3
        refine H0.out j ((j : Int) - 1) _ _ (by omega) HA.out ⟨_, _, rfl, ?_⟩
        rfl
      · have HD1 := Lib.hid (HD.out.down HO.out hlt hd)
        obtain ⟨q0, q1, -, -⟩ := HD.out.pl.down HO.out hlt hd
        have q2 : (spanOf (E.span p j E.S)).1 ≤ 40 := by have := HO.out.most1; omega
        clear q1 HD
        generalize (spanOf (E.span p j E.S)).1 = lo at *
        generalize (spanOf (E.span p j E.S)).2 = hi at *
        have hd' : lo ≤ hi := by omega
        clear hd
        go_wp2_with fail
        refine (lay_any E HO.out w1 p bv ls fd j lo hlt HBD.out q0 q2 HM1.out.fin).mono ?_
        rintro r w2 ⟨rfl, hf2, hb2⟩
        have hM2 := HM1.out.laid HO.out hf2 hb2
        have a0 := hM2.high.cells1.2.2.1 j hlt
        have z0 := hM2.high.cells1.2.2.2 j
        have HM2 := Lib.hid hM2
        clear hM2 hf2 hb2 HM1 HBD
        go_upto_region 9 with (fail)
        have hM3 := HM2.out.put HO.out j hi
        generalize hW : World.setCell _ _ _ = W3 at hM3 ⊢
        have HM3 := Lib.hid hM3
        clear hW hM3 a0 z0 HM2
        have HBD2 := Lib.hid (fun i (_ : i < E.m) => HD1.out.pl.bd40 HO.out i)
        go_wp2_with fail
        refine (hopeless_any E HO.out W3 (setP p j lo) bv ls fd (j + 1) hlt HBD2.out HM3.out.fin).mono ?_
        rintro r w4 ⟨rfl, hb4⟩
        have HM4 := Lib.hid (HM3.out.later HO.out hb4)
        clear hb4 HM3 HBD2
        cases hh : (fd && decide (ls ≤ E.cost (setP p j lo) + E.most1 (setP p j lo) (j + 1) E.S))
        · have HDW := Lib.hid (show DescW E w0 gh V (j + 1) w4 from ⟨_, _, _, _, _, _, HD1.out, HM4.out⟩)
          clear hh
          go_wp2_with fail
          go_roundw
          case rel => exact ⟨j + 1, by go_num, HDW.out⟩
          case measure => simp [intOf]; omega
        · have HAA := Lib.hid (show AscW E w0 gh V (j + 1) w4 from by
            obtain ⟨h1, h2⟩ := Bool.and_eq_true_iff.1 hh
            obtain ⟨r, rfl, hr⟩ := HM4.out.best.found h1
            exact ⟨_, _, _, _, _, _, HD1.out.hopeless HO.out (by have := of_decide_eq_true h2; rw [hr] at this; exact this), HM4.out⟩)
          obtain ⟨-, f1, -, -, -, -, -, -, -, -, -, -, -⟩ := HM4.out.fin.fields
          have hne : ((j : Int) == (E.m : Int)) = false := by simp; omega
          clear hh
          go_wp2_with fail
          go_step3
          go_step
          go_step
          refine asc_wp E HO.out w0 gh V (j + 1) _ _ (j : Int) (by omega) HAA.out ⟨_, _, rfl, ?_⟩ Q0 H1.out H2.out
          rfl
    · obtain rfl : j = E.m := by omega
      have hlt' : ¬ ((E.m : Int) < E.m) := by omega
      have heq : ((E.m : Int) == (E.m : Int)) = true := by simp
      have hFl : E.F < wr.heap.size := HM.out.fin.blk.lt
      obtain ⟨c1, c2⟩ := cost_bd HO.out.good HBD.out E.m (Nat.le_refl _) (Nat.le_refl _)
      obtain ⟨T, hT⟩ : ∃ T, T = costF (lenM E.mx) p E.m := ⟨_, rfl⟩
      rw [← hT] at f6 c1 c2
      have HT := Lib.hid hT
      clear hT
      have z6 := fun z : Ext wr.heap.size wr => z.cell (b := E.F) hFl f6
      have z10 := fun z : Ext wr.heap.size wr => z.cell (b := E.F) hFl f10
      have z11 := fun z : Ext wr.heap.size wr => z.cell (b := E.F) hFl f11
      by_cases hup : fd = false ∨ T < ls
      · -- the plan is the best one
        have HB := Lib.hid (show leafF E.cost p b = some p from by
          cases b with
          | none => rfl
          | some r =>
            obtain ⟨h1, h2, _⟩ := HM.out.best
            have h3 : T < ls := hup.resolve_left (by rw [h1]; decide)
            show (if E.cost p < E.cost r then some p else some r) = some p
            rw [if_pos (by rw [h2, HT.out] at h3; exact h3)])
        have hdec : (!fd || decide (T < ls)) = true := by
          rcases hup with h | h
          · rw [h]; rfl
          · rw [decide_eq_true h]; simp
        have HUP := Lib.hid hup
        clear hup
        go_upto_region 11 with (fail)
        go_cut [66] from 44 to 84 (fun s wq => s = .bool true ∧ Below wr.heap.size wr wq)
        case first =>
          clear f1 f4 f6 f10 f11 ffz
          cases hfd : fd
          · rw [hfd] at z11
            refine region_ext wr.heap.size (by kernel_rfl) (by kernel_rfl) ?_
            repeat (go_big_quiet_step (fail))
            refine wpQuiet_nil ?_
            rintro _ ⟨z, rfl⟩
            obtain ⟨wq, hq⟩ := z
            dsimp only
            go_wp2_with fail
            go_meet
            case rel => exact ⟨rfl, hq⟩
          · rw [hfd] at z11
            have hl : T < ls := HUP.out.resolve_left (by rw [hfd]; decide)
            refine region_ext wr.heap.size (by kernel_rfl) (by kernel_rfl) ?_
            repeat (go_big_quiet_step (fail))
            refine wpQuiet_nil ?_
            rintro _ ⟨z, rfl⟩
            obtain ⟨wq, hq⟩ := z
            dsimp only
            go_wp2_with fail
            go_meet
            case rel => exact ⟨by simp [hl], hq⟩
        case rest =>
          obtain ⟨rfl, hq⟩ := hcut
          have hM1 := HM.out.later HO.out hq
          clear z6 z10 z11 f1 f4 f6 f10 f11 ffz hq
          obtain ⟨-, f1, -, -, f4, -, f6, -, -, f9, f10, f11, ffz⟩ := hM1.fin.fields
          rw [← HT.out] at f6
          have hrow : Row wc wc.heap.size 1 (some ⟨E.gp, 0, none⟩) E.m (fun i _ => .int .i64 (p i)) := by
            obtain ⟨A', c', hv, _, _, hr⟩ := hM1.fin.plies.form
            injection hv with h1 _ _
            rw [h1]; exact hr
          have HR := Lib.hid hrow
          have HM1 := Lib.hid hM1
          have y9 := ffz 9
          have y10 := ffz 10
          have y11 := ffz 11
          have hFl1 : E.F < wc.heap.size := hM1.fin.blk.lt
          have HFD := Lib.hid (show wc.drew.cell? ⟨E.F, 6, none⟩ = some (.int .i64 T) ∧ wc.drew.cell? ⟨E.F, 4, none⟩ = some (.slice (some ⟨E.gp, 0, none⟩) E.m E.m) ∧ wc.drew.frozen? ⟨E.F, 9, none⟩ = false ∧ wc.drew.frozen? ⟨E.F, 10, none⟩ = false ∧ wc.drew.frozen? ⟨E.F, 11, none⟩ = false ∧ E.F < wc.drew.heap.size ∧ Row wc.drew wc.drew.heap.size 1 (some ⟨E.gp, 0, none⟩) E.m (fun i _ => .int .i64 (p i)) ∧ wc.drew.cell? ⟨E.F, 9, none⟩ = some bv ∧ wc.drew.cell? ⟨E.F, 10, none⟩ = some (.int .i64 ls) ∧ wc.drew.cell? ⟨E.F, 11, none⟩ = some (.bool fd) from ⟨f6, f4, y9, y10, y11, hFl1, hrow, f9, f10, f11⟩)
          clear hM1 hrow ffz
          go_upto_region 12 with (fail)
          go_region_held3 (fun w' => w'.cell? ⟨E.F, 6, none⟩ = some (.int .i64 T) ∧ w'.cell? ⟨E.F, 4, none⟩ = some (.slice (some ⟨E.gp, 0, none⟩) E.m E.m)) (first | go_keep | (refine ⟨?_, ?_⟩ <;> go_simp)) (first
            | ((go_at_call 40; refine (cloneInt_any (some ⟨E.gp, 0, none⟩) E.m E.m (fun i _ => .int .i64 (p i)) wc.drew (by omega) HFD.out.2.2.2.2.2.2.1 (fun i j _ _ => rfl)).mono ?_; rintro e w5 ⟨vB, rfl, hO5, hb5⟩; obtain ⟨AB, cB, rfl, -, -, -⟩ := hO5.form; have HO5 := Lib.hid hO5; have HB5 := Lib.hid hb5; have g6 := (hb5.cell (p := ⟨E.F, 6, none⟩) HFD.out.2.2.2.2.2.1).trans HFD.out.1; have g4 := (hb5.cell (p := ⟨E.F, 4, none⟩) HFD.out.2.2.2.2.2.1).trans HFD.out.2.1; have g9 := (hb5.frozen (p := ⟨E.F, 9, none⟩) HFD.out.2.2.2.2.2.1).trans HFD.out.2.2.1; have g10 := (hb5.frozen (p := ⟨E.F, 10, none⟩) HFD.out.2.2.2.2.2.1).trans HFD.out.2.2.2.1; have g11 := (hb5.frozen (p := ⟨E.F, 11, none⟩) HFD.out.2.2.2.2.2.1).trans HFD.out.2.2.2.2.1; have c9 := (hb5.cell (p := ⟨E.F, 9, none⟩) HFD.out.2.2.2.2.2.1).trans HFD.out.2.2.2.2.2.2.2.1; have c10 := (hb5.cell (p := ⟨E.F, 10, none⟩) HFD.out.2.2.2.2.2.1).trans HFD.out.2.2.2.2.2.2.2.2.1; have c11 := (hb5.cell (p := ⟨E.F, 11, none⟩) HFD.out.2.2.2.2.2.1).trans HFD.out.2.2.2.2.2.2.2.2.2; clear hO5 hb5))
            | fail)
          have hgl : gh < wc.heap.size := HM1.out.high.cells1.2.1
          have hM5 := (HM1.out.later HO.out (Below.refl _ _).drew).later HO.out HB5.out
          have hM6 := hM5.newBest HO.out (.slice AB E.m cB) T HT.out (HO5.out.mono hgl)
          rename_i hHeld
          clear hHeld
          generalize hW : World.setCell _ _ _ = W6 at hM6 ⊢
          have HAW := Lib.hid (show AscW E w0 gh V E.m W6 from ⟨_, _, _, _, _, _, HB.out ▸ HD.out.leaf HO.out, hM6⟩)
          clear hW hM6 hM5 HO5 HB5 g6 g4 g9 g10 g11 c9 c10 c11 hlt'
          go_wp2_with fail
          go_step3
          go_step
          go_step
          refine asc_wp E HO.out w0 gh V E.m _ _ ((E.m : Int) - 1) rfl HAW.out ⟨_, _, rfl, ?_⟩ Q0 H1.out H2.out
          rfl
      · -- it is not
        have hfd : fd = true := by
          cases fd with
          | true => rfl
          | false => exact absurd (.inl rfl) hup
        have hls : ¬ T < ls := fun h => hup (.inr h)
        have hls2 : decide (T < ls) = false := decide_eq_false hls
        have hls3 : decide (ls > T) = false := decide_eq_false hls
        have HB := Lib.hid (show leafF E.cost p b = b from by
          cases b with
          | none => exact absurd (hfd.symm.trans HM.out.best) (by decide)
          | some r =>
            obtain ⟨h1, h2, _⟩ := HM.out.best
            show (if E.cost p < E.cost r then some p else some r) = some r
            rw [if_neg (by rw [h2, HT.out] at hls; exact hls)])
        rw [hfd] at z11
        clear hup
        go_upto_region 11 with (fail)
        clear f1 f4 f6 f10 f11 ffz
        refine region_ext wr.heap.size (by kernel_rfl) (by kernel_rfl) ?_
        repeat (go_big_quiet_step (fail))
        refine wpQuiet_nil ?_
        rintro _ ⟨z, rfl⟩
        obtain ⟨wq, hq⟩ := z
        dsimp only
        have HAW := Lib.hid (show AscW E w0 gh V E.m wq from ⟨_, _, _, _, _, _, HB.out ▸ HD.out.leaf HO.out, HM.out.later HO.out hq⟩)
        clear z6 z10 z11 hq
        go_wp2_with fail
        go_step3
        go_step
        go_step
        refine asc_wp E HO.out w0 gh V E.m _ _ ((E.m : Int) - 1) rfl HAW.out ⟨_, _, rfl, ?_⟩ Q0 H1.out H2.out
        rfl

end Go.Proofs.Ytkdpkaidbmjcaaa
