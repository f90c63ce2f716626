/- Best of the reference. -/
import Derived.Test.YtcalchlfipbpkaaSplB
namespace Go.Proofs.Ytcalchlfipbpkaa
open Go.RowKit
set_option linter.unusedSimpArgs false
set_option linter.unusedVariables false

def bestO (len : Int) (m : Nat) (poly : Nat → Poly) (lo hi : Int) : Option Zone :=
  if bestErr len m poly lo hi = 0 then bestR (fun h => backF (zoneAt poly) h m) lo (hi + 1).toNat else none

def bestZ (len : Int) (m : Nat) (poly : Nat → Poly) (lo hi : Int) : Zone := (bestO len m poly lo hi).getD ⟨0, 0⟩

def bestCode (len : Int) (m : Nat) (poly : Nat → Poly) (lo hi : Int) : Int :=
  if bestErr len m poly lo hi ≠ 0 then bestErr len m poly lo hi else if (bestO len m poly lo hi).isSome then 0 else 18

def zoneV (z : Zone) : Value := .agg #[.int .i64 z.lo, .int .i64 z.hi]

def BestPost (w : World) (len : Int) (m : Nat) (poly : Nat → Poly) (lo hi : Int) (e : Ending) (w' : World) : Prop :=
  e = .returned (.tuple #[zoneV (bestZ len m poly lo hi), .int .i64 (bestCode len m poly lo hi)]) ∧ Below w.heap.size w w'

theorem best_fail {w w' : World} {len : Int} {m : Nat} {poly : Nat → Poly} {lo hi x : Int} (he : bestErr len m poly lo hi = x) (h0 : x ≠ 0) (hb : Below w.heap.size w w') :
    BestPost w len m poly lo hi (.returned (.tuple #[zoneV ⟨0, 0⟩, .int .i64 x])) w' := by
  refine ⟨?_, hb⟩
  unfold bestZ bestCode bestO
  rw [he, if_neg h0, if_pos h0]
  rfl

theorem best_none {w w' : World} {len : Int} {m : Nat} {poly : Nat → Poly} {lo hi : Int} (he : bestErr len m poly lo hi = 0) (h : bestR (fun h => backF (zoneAt poly) h m) lo (hi + 1).toNat = none) (hb : Below w.heap.size w w') :
    BestPost w len m poly lo hi (.returned (.tuple #[zoneV ⟨0, 0⟩, .int .i64 18])) w' := by
  refine ⟨?_, hb⟩
  unfold bestZ bestCode bestO
  rw [he, if_pos rfl, if_neg (fun h => h rfl), h]
  rfl

theorem best_some {w w' : World} {len : Int} {m : Nat} {poly : Nat → Poly} {lo hi : Int} {z : Zone} (he : bestErr len m poly lo hi = 0) (h : bestR (fun h => backF (zoneAt poly) h m) lo (hi + 1).toNat = some z) (hb : Below w.heap.size w w') :
    BestPost w len m poly lo hi (.returned (.tuple #[zoneV z, .int .i64 0])) w' := by
  refine ⟨?_, hb⟩
  unfold bestZ bestCode bestO
  rw [he, if_pos rfl, if_neg (fun h => h rfl), h]
  rfl

theorem bestR_bd {b : Int → Int} {lo : Int} {n : Nat} {x : Zone} (h : bestR b lo n = some x) : ∃ k : Int, 0 ≤ k ∧ k < n ∧ x = ⟨b k, k⟩ ∧ lo < b k := by
  rcases bestR_spec b lo n with ⟨e, _⟩ | ⟨k, e, hs, _⟩
  · rw [h] at e; cases e
  · rw [h] at e
    exact ⟨k, hs.1, hs.2.1, Option.some.inj e, hs.2.2⟩

set_option maxRecDepth 100000 in
set_option maxHeartbeats 3200000 in
theorem rBest_any (len : Int) (A : Option Addr) (m c : Nat) (poly : Nat → Poly) (lo hi : Int) (w : World) (hq : Polys w w.heap.size A m poly) :
    Calls Try.prog 14 #[.int .i64 len, .slice A m c, .int .i64 lo, .int .i64 hi] w (BestPost w len m poly lo hi) := by
  have HQ := Lib.hid (hq.later (below_a1 w (.cells #[.int .i64 0, .int .i64 0] 30)))
  clear hq
  go_enter Try.func14, Try.ntmps14
  go_wp2_with fail
  refine (common_any len A m c poly _ HQ.out).mono ?_
  rintro e w1 ⟨rfl, hb1⟩
  have k8 := (Blk.new w 30 #[.int .i64 0, .int .i64 0]).later hb1
  have hbw := below_up (below_a1 w (.cells #[.int .i64 0, .int .i64 0] 30)) hb1
  have HQ1 := Lib.hid (HQ.out.later hb1)
  clear HQ hb1
  have q0 := k8.cell 0
  have q1 := k8.cell 1
  have z0 := k8.free 0
  have z1 := k8.free 1
  simp at q0 q1
  by_cases hE : extErr len m poly = 0
  rotate_left
  · have hne : (extErr len m poly != 0) = true := bne_iff_ne.2 hE
    have HE := Lib.hid hE
    have HB := Lib.hid (show bestErr len m poly lo hi = extErr len m poly by unfold bestErr; rw [if_pos hE])
    clear hE
    go_wp2_with fail
    have hk1 := put2 k8 (.int .i64 0) (.int .i64 0)
    have hb2 := below_put2 hbw (Nat.le_refl _) (.int .i64 0) (.int .i64 0)
    generalize hW : World.setCell _ _ _ = W at hk1 hb2 ⊢
    clear hW q0 q1 z0 z1
    have q0 := hk1.cell 0
    have q1 := hk1.cell 1
    simp at q0 q1
    exact bodyPost_ret (v := .tuple #[zoneV ⟨0, 0⟩, .int .i64 (extErr len m poly)]) (by simp [results, Try.results14, go_sem, q0, q1, zoneV]) rfl (best_fail HB.out HE.out hb2)
  have HBE := Lib.hid (show bestErr len m poly lo hi = if lo < 0 ∨ hi < lo ∨ len < hi then 3 else 0 by unfold bestErr; rw [if_neg (fun hh => hh hE)])
  obtain ⟨hl1, hl2, hm60, hv⟩ := ext_valid hE
  have HV := Lib.hid hv
  rw [hE]
  clear hE hv
  by_cases hbad : lo < 0 ∨ hi < lo ∨ len < hi
  · have HB := Lib.hid (HBE.out.trans (if_pos hbad))
    by_cases h1 : lo < 0
    rotate_left
    by_cases h2 : hi < lo
    rotate_left
    have h3 : len < hi := by omega
    all_goals
      clear hbad
      go_wp2_with fail
      have hk1 := put2 k8 (.int .i64 0) (.int .i64 0)
      have hb2 := below_put2 hbw (Nat.le_refl _) (.int .i64 0) (.int .i64 0)
      generalize hW : World.setCell _ _ _ = W at hk1 hb2 ⊢
      clear hW q0 q1 z0 z1
      have q0 := hk1.cell 0
      have q1 := hk1.cell 1
      simp at q0 q1
      exact bodyPost_ret (v := .tuple #[zoneV ⟨0, 0⟩, .int .i64 3]) (by simp [results, Try.results14, go_sem, q0, q1, zoneV]) rfl (best_fail HB.out (by decide) hb2)
  have HOK := Lib.hid (HBE.out.trans (if_neg hbad))
  have h1 : ¬ lo < 0 := by omega
  have h2 : ¬ hi < lo := by omega
  have h3 : ¬ len < hi := by omega
  clear hbad HBE
  go_wp2_with fail
  refine (zones_any A m c poly _ hm60 HQ1.out (fun i hi => (HV.out i hi).1)).mono ?_
  rintro e w2 ⟨v, rfl, hN, hb2⟩
  obtain ⟨AN, cN, rfl, _, _, rN⟩ := hN.form
  have k8b := k8.later hb2
  have hbw2 := below_up hbw hb2
  have h82 : w.heap.size < w2.heap.size := k8b.lt
  clear q0 q1 z0 z1 k8 hbw hb2 hN HQ1
  obtain ⟨b, hb⟩ : ∃ b : Int → Int, b = fun h => backF (zoneAt poly) h m := ⟨_, rfl⟩
  have hbn := Lib.hid (fun h => (congrFun hb h).symm)
  have hbl := Lib.hid (fun h => show b h ≤ h from by rw [hb]; exact back_le _ _ _)
  have hb0 := Lib.hid (fun h (h0 : 0 ≤ h) => show 0 ≤ b h from by rw [hb]; exact back_zero (fun i hi => (HV.out i hi).2.1) h0)
  have HBF := Lib.hid hb
  clear hb
  go_upto_region 8 with (fail)
  have k12 := Blk.new w2 30 #[.int .i64 0, .int .i64 0]
  have k8c := k8b.alloc (.cells #[.int .i64 0, .int .i64 0] 30)
  have hbw3 := hbw2.alloc hbw2.size (.cells #[.int .i64 0, .int .i64 0] 30)
  have HN := Lib.hid (rN.keep (below_a1 w2 (.cells #[.int .i64 0, .int .i64 0] 30)))
  obtain ⟨g, hg⟩ : ∃ g, g = w2.heap.size := ⟨_, rfl⟩
  rw [← hg] at k12 h82 HN
  rw [← hg]
  generalize hW : w2.alloc _ = W at k12 k8c hbw3 HN ⊢
  clear hW hg rN k8b hbw2
  go_wp2_with fail
  go_loopw [13, 14] (fun f t wr => ∃ n : Nat, (n : Int) ≤ hi + 1 ∧ t = .int .i64 n ∧ f = .bool (bestR b lo n).isSome ∧ Blk wr g 30 #[.int .i64 ((bestR b lo n).getD ⟨0, 0⟩).lo, .int .i64 ((bestR b lo n).getD ⟨0, 0⟩).hi] ∧ Below g W wr) (fun _ t _ => (hi + 1 - intOf t).toNat)
  case atStart => exact ⟨0, by omega, rfl, rfl, k12, Below.refl _ _⟩
  case round =>
    obtain ⟨n, hn, rfl, rfl, kB, hwr⟩ := hrel
    have hgl := kB.lt
    by_cases hlt : (n : Int) ≤ hi
    · have HNr := Lib.hid ((HN.out.keep hwr).more (Nat.le_of_lt hgl))
      have hn0 : (0 : Int) ≤ n := by omega
      have x1 := hbl.out n
      have x2 := hb0.out n hn0
      have HS : Hid (bestR b lo (n + 1) = stepR b lo (bestR b lo n) n) := Lib.hid rfl
      cases ho : bestR b lo n with
      | none =>
        rw [ho] at HS kB
        simp only [Option.getD_none] at kB
        simp only [Option.isSome_none]
        clear ho
        go_wp2_with fail
        refine (rback_any _ m _ (zoneAt poly) n _ (by omega) HNr.out).mono ?_
        rintro e w4 ⟨rfl, hb4⟩
        rw [hbn.out n]
        have kB4 := kB.later hb4
        have hw4 := hwr.trans (hb4.mono (Nat.le_of_lt hgl))
        clear kB hb4 HNr
        have q0 := kB4.cell 0
        have q1 := kB4.cell 1
        have z0 := kB4.free 0
        have z1 := kB4.free 1
        simp at q0 q1
        by_cases hc : lo < b n
        · have HS2 := Lib.hid (HS.out.trans (show stepR b lo none n = some ⟨b n, n⟩ by unfold stepR; simp only []; rw [if_pos hc]))
          go_wp2_with fail
          have kB5 := put2 kB4 (.int .i64 (b n)) (.int .i64 n)
          have hw5 := below_put2 hw4 (Nat.le_refl _) (.int .i64 (b n)) (.int .i64 n)
          generalize hW : World.setCell _ _ _ = W5 at kB5 hw5 ⊢
          clear hW q0 q1 z0 z1
          go_roundw
          case rel => exact ⟨n + 1, by omega, by go_num, by rw [HS2.out]; rfl, by rw [HS2.out]; exact kB5, hw5⟩
          case measure => simp [intOf]; omega
        · have HS2 := Lib.hid (HS.out.trans (show stepR b lo none n = none by unfold stepR; simp only []; rw [if_neg hc]))
          go_wp2_with fail
          go_roundw
          case rel => exact ⟨n + 1, by omega, by go_num, by rw [HS2.out]; rfl, by rw [HS2.out]; exact kB4, hw4⟩
          case measure => simp [intOf]; omega
      | some x =>
        obtain ⟨k, hk0, hkn, hx, _⟩ := bestR_bd ho
        have x3 := hbl.out k
        have x4 := hb0.out k hk0
        have hx1 : x.lo = b k := by rw [hx]
        have hx2 : x.hi = k := by rw [hx]
        have x5 : 0 ≤ x.lo := by omega
        have x6 : x.lo ≤ x.hi := by omega
        have x7 : x.hi ≤ 1048576 := by omega
        rw [ho] at HS kB
        simp only [Option.getD_some] at kB
        simp only [Option.isSome_some]
        clear ho hx hx1 hx2 x3 x4 hk0 hkn
        go_wp2_with fail
        refine (rback_any _ m _ (zoneAt poly) n _ (by omega) HNr.out).mono ?_
        rintro e w4 ⟨rfl, hb4⟩
        rw [hbn.out n]
        have kB4 := kB.later hb4
        have hw4 := hwr.trans (hb4.mono (Nat.le_of_lt hgl))
        clear kB hb4 HNr
        have q0 := kB4.cell 0
        have q1 := kB4.cell 1
        have z0 := kB4.free 0
        have z1 := kB4.free 1
        simp at q0 q1
        by_cases hc : lo < b n
        rotate_left
        · have HS2 := Lib.hid (HS.out.trans (show stepR b lo (some x) n = some x by unfold stepR; simp only []; rw [if_neg (fun h => hc h.1)]))
          go_wp2_with fail
          go_roundw
          case rel => exact ⟨n + 1, by omega, by go_num, by rw [HS2.out]; rfl, by rw [HS2.out]; exact kB4, hw4⟩
          case measure => simp [intOf]; omega
        by_cases hd : (n : Int) - b n ≤ x.hi - x.lo
        · have HS2 := Lib.hid (HS.out.trans (show stepR b lo (some x) n = some ⟨b n, n⟩ by unfold stepR; simp only []; rw [if_pos ⟨hc, hd⟩]))
          go_wp2_with fail
          have kB5 := put2 kB4 (.int .i64 (b n)) (.int .i64 n)
          have hw5 := below_put2 hw4 (Nat.le_refl _) (.int .i64 (b n)) (.int .i64 n)
          generalize hW : World.setCell _ _ _ = W5 at kB5 hw5 ⊢
          clear hW q0 q1 z0 z1
          go_roundw
          case rel => exact ⟨n + 1, by omega, by go_num, by rw [HS2.out]; rfl, by rw [HS2.out]; exact kB5, hw5⟩
          case measure => simp [intOf]; omega
        · have HS2 := Lib.hid (HS.out.trans (show stepR b lo (some x) n = some x by unfold stepR; simp only []; rw [if_neg (fun h => hd h.2)]))
          go_wp2_with fail
          go_roundw
          case rel => exact ⟨n + 1, by omega, by go_num, by rw [HS2.out]; rfl, by rw [HS2.out]; exact kB4, hw4⟩
          case measure => simp [intOf]; omega
    · have hn1 : n = (hi + 1).toNat := by omega
      have kR := k8c.keep hwr h82
      have hbr := hbw3.trans (hwr.mono (Nat.le_of_lt h82))
      have q0 := kR.cell 0
      have q1 := kR.cell 1
      have z0 := kR.free 0
      have z1 := kR.free 1
      simp at q0 q1
      cases ho : bestR b lo n with
      | none =>
        have HR := Lib.hid (show bestR (fun h => backF (zoneAt poly) h m) lo (hi + 1).toNat = none by rw [← hn1, ← HBF.out]; exact ho)
        simp only [Option.isSome_none]
        clear ho hn1
        go_wp2_with fail
        have hk1 := put2 kR (.int .i64 0) (.int .i64 0)
        have hb2 := below_put2 hbr (Nat.le_refl _) (.int .i64 0) (.int .i64 0)
        generalize hW : World.setCell _ _ _ = W6 at hk1 hb2 ⊢
        clear hW q0 q1 z0 z1
        have q0 := hk1.cell 0
        have q1 := hk1.cell 1
        simp at q0 q1
        exact bodyPost_ret (v := .tuple #[zoneV ⟨0, 0⟩, .int .i64 18]) (by simp [results, Try.results14, go_sem, q0, q1, zoneV]) rfl (best_none HOK.out HR.out hb2)
      | some x =>
        have HR := Lib.hid (show bestR (fun h => backF (zoneAt poly) h m) lo (hi + 1).toNat = some x by rw [← hn1, ← HBF.out]; exact ho)
        rw [ho] at kB
        simp only [Option.getD_some] at kB
        simp only [Option.isSome_some]
        clear ho hn1
        have y0 := kB.cell 0
        have y1 := kB.cell 1
        simp at y0 y1
        go_wp2_with fail
        have hk1 := put2 kR (.int .i64 x.lo) (.int .i64 x.hi)
        have hb2 := below_put2 hbr (Nat.le_refl _) (.int .i64 x.lo) (.int .i64 x.hi)
        generalize hW : World.setCell _ _ _ = W6 at hk1 hb2 ⊢
        clear hW q0 q1 z0 z1 y0 y1
        have q0 := hk1.cell 0
        have q1 := hk1.cell 1
        simp at q0 q1
        exact bodyPost_ret (v := .tuple #[zoneV x, .int .i64 0]) (by simp [results, Try.results14, go_sem, q0, q1, zoneV]) rfl (best_some HOK.out HR.out hb2)

end Go.Proofs.Ytcalchlfipbpkaa
