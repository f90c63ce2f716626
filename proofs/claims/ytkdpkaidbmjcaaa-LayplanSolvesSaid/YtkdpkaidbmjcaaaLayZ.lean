/- fits. -/
import Derived.Test.YtkdpkaidbmjcaaaLayY
namespace Go.Proofs.Ytkdpkaidbmjcaaa
open Go.RowKit
set_option linter.unusedSimpArgs false
set_option linter.unusedVariables false

/-- What fits says. -/
def FitsP (n : Nat) (ord : Nat → Int) (over most : Int) (m : Nat) (mx : Nat → MixM) (l : Nat) (f : Nat → Int) : Prop := planErr l f m mx = 0 ∧ sizesF m mx = n ∧ FeasP m n (cntM mx) ord over most f
def FitsOut (n : Nat) (ord : Nat → Int) (over most : Int) (m : Nat) (mx : Nat → MixM) (l : Nat) (f : Nat → Int) (e : Ending) : Prop := ∃ b : Bool, e = .returned (.bool b) ∧ (b = true ↔ FitsP n ord over most m mx l f)

theorem fits_no {n : Nat} {ord : Nat → Int} {over most : Int} {m : Nat} {mx : Nat → MixM} {l : Nat} {f : Nat → Int} {w w' : World} (h : ¬ FitsP n ord over most m mx l f) (hb : Below w.heap.size w w') : FitsOut n ord over most m mx l f (.returned (.bool false)) ∧ Below w.heap.size w w' :=
  ⟨⟨false, rfl, ⟨fun e => (by cases e), fun e => absurd e h⟩⟩, hb⟩

set_option maxRecDepth 100000 in
set_option maxHeartbeats 3200000 in
theorem fits_any (Ao A A2 : Option Addr) (n co m c l c2 : Nat) (ord : Nat → Int) (over most : Int) (mx : Nat → MixM) (f : Nat → Int) (w : World) (hob : ¬ OrdBad n ord) (hlb : ¬ LimBad over most) (hp : Ints w Ao n ord) (hf : Ints w A2 l f) (hq : Mixes w w.heap.size A m mx) :
    Calls Try.prog 21 #[.agg #[.slice Ao n co, .int .i64 over, .int .i64 most], .slice A m c, .slice A2 l c2] w fun e w' => FitsOut n ord over most m mx l f e ∧ Below w.heap.size w w' := by
  have HQ := Lib.hid hq
  have HP := Lib.hid hp
  have HF := Lib.hid hf
  have HOB := Lib.hid (show ∀ i, i < n → 0 ≤ ord i ∧ ord i ≤ 1000 from fun i hi => by
    have : ¬ (ord i < 0 ∨ 1000 < ord i) := fun h => hob ⟨i, hi, h⟩
    omega)
  have hl0 : 0 ≤ over ∧ over ≤ 1000 ∧ 0 ≤ most ∧ most ≤ 40 := by unfold LimBad at hlb; omega
  obtain ⟨l0, l1, l2, l3⟩ := hl0
  clear hq hp hf hob hlb
  go_enter Try.func21, Try.ntmps21
  go_upto_region 1 with (fail)
  have k0 := Blk.new w 36 #[.slice Ao n co, .int .i64 over, .int .i64 most]
  have b0 := below_a1 w (.cells #[.slice Ao n co, .int .i64 over, .int .i64 most] 36)
  obtain ⟨g, hg⟩ : ∃ g, g = w.heap.size := ⟨_, rfl⟩
  rw [← hg] at k0
  rw [← hg]
  generalize hW : World.alloc _ _ = W at k0 b0 ⊢
  clear hW hg
  go_wp2_with fail
  refine (Produced_any A A2 l c2 m c f mx W (HF.out.later b0) (HQ.out.later b0)).mono ?_
  rintro e w1 ⟨v1, rfl, hO1, hb1⟩
  have k1 := k0.later hb1
  have b1 := below_up b0 hb1
  obtain ⟨A1, d1, rfl, -, -, r1⟩ := hO1.form
  have R1 := Lib.hid r1
  have c0 := k1.cell 0
  have c1 := k1.cell 1
  have c2' := k1.cell 2
  simp at c0 c1 c2'
  clear hO1 r1 k0 b0 hb1
  by_cases he : planErr l f m mx = 0
  rotate_left
  · have hne : (planErr l f m mx != 0) = true := bne_iff_ne.2 he
    have HN := Lib.hid (show ¬ FitsP n ord over most m mx l f from fun h => he h.1)
    clear he
    go_wp2_with fail
    go_ret
    exact fits_no HN.out b1
  have HE := Lib.hid he
  have HSP := Lib.hid (show sizesP l f m mx = sizesF m mx by unfold sizesP; rw [if_pos he])
  rw [he]
  rw [HSP.out] at R1 ⊢
  clear he
  by_cases hs : sizesF m mx = n
  rotate_left
  · have hne : ((sizesF m mx : Int) != (n : Int)) = true := bne_iff_ne.2 (by omega)
    have HN := Lib.hid (show ¬ FitsP n ord over most m mx l f from fun h => hs h.2.1)
    clear hs
    generalize sizesF m mx = S at *
    go_wp2_with fail
    go_ret
    exact fits_no HN.out b1
  have hnb : ((sizesF m mx : Int) != (n : Int)) = false := by rw [hs]; simp
  have HSN := Lib.hid hs
  have HG := Lib.hid (good_of (plan_ok HE.out).1)
  have HFB := Lib.hid (plan_ok HE.out).2.2
  have HLM := Lib.hid (plan_ok HE.out).2.1
  have hn12 : n ≤ 12 := by rw [← hs]; exact HG.out.s12
  have hm6 := HG.out.m6
  rw [hs] at R1 hnb ⊢
  clear hs
  have HMB := Lib.hid (fun s (hs : s < n) => made_bd (n := m) HG.out (fun i hi => HFB.out i (by rw [HLM.out]; exact hi)) (s := s) (by rw [HSN.out]; exact hs) m (Nat.le_refl _) (Nat.le_refl _))
  have hgl : g < w1.heap.size := k1.lt
  go_wp2_with fail
  go_loopw [9] (fun t wr => ∃ k : Nat, k ≤ n ∧ t = .int .i64 k ∧ Hid (∀ i, i < k → ord i ≤ madeF (cntM mx) f i m ∧ madeF (cntM mx) f i m ≤ ord i + over) ∧ Below w1.heap.size w1 wr) (fun t _ => n - (intOf t).toNat)
  case atStart => exact ⟨0, Nat.zero_le _, rfl, Lib.hid (fun i hi => absurd hi (by omega)), Below.refl _ _⟩
  case round =>
    obtain ⟨k, hk, rfl, hno, hwr⟩ := hrel
    have bw := below_up b1 hwr
    by_cases hlt : k < n
    · obtain ⟨b3, o3, rfl, hB3⟩ := R1.out.addr (by omega)
      obtain ⟨b4, o4, rfl, hB4⟩ := HP.out.addr (by omega)
      have hlt' : (k : Int) < n := by omega
      have hk0 : (0 : Int) ≤ k := by omega
      have e0 := (hwr.cell (p := ⟨_, _, none⟩) hB3).trans (R1.out.at1 hlt)
      have e1 := (bw.cell (p := ⟨_, _, none⟩) hB4).trans (HP.out.at1 hlt)
      have e2 := (hwr.cell (p := ⟨g, 0, none⟩) hgl).trans c0
      have e3 := (hwr.cell (p := ⟨g, 1, none⟩) hgl).trans c1
      obtain ⟨m1, m2⟩ := HMB.out k hlt
      obtain ⟨q1, q2⟩ := HOB.out k hlt
      have HN := Lib.hid (fun (h : ¬ (ord k ≤ madeF (cntM mx) f k m ∧ madeF (cntM mx) f k m ≤ ord k + over)) => show ¬ FitsP n ord over most m mx l f from fun hh => h (hh.2.2.2 k hlt))
      have HY := Lib.hid (fun (h : ord k ≤ madeF (cntM mx) f k m ∧ madeF (cntM mx) f k m ≤ ord k + over) => show ∀ i, i < k + 1 → ord i ≤ madeF (cntM mx) f i m ∧ madeF (cntM mx) f i m ≤ ord i + over from fun i hi => by rcases Nat.lt_succ_iff_lt_or_eq.1 hi with h' | rfl; exact hno.out i h'; exact h)
      generalize madeF (cntM mx) f k m = T at *
      have hs3 := hwr.size
      have hsw := b1.size
      have x0 := fun z : Ext wr.heap.size wr => z.cell (b := b3) (by omega) e0
      have x1 := fun z : Ext wr.heap.size wr => z.cell (b := b4) (by omega) e1
      have x2 := fun z : Ext wr.heap.size wr => z.cell (b := g) (by omega) e2
      have x3 := fun z : Ext wr.heap.size wr => z.cell (b := g) (by omega) e3
      clear e0 e1 e2 e3
      by_cases h1 : T < ord k
      · go_upto_region 7 with (fail)
        refine region_ext wr.heap.size (by kernel_rfl) (by kernel_rfl) ?_
        repeat (go_big_quiet_step (fail))
        refine wpQuiet_nil ?_
        rintro _ ⟨z, rfl⟩
        obtain ⟨wq, hq⟩ := z
        dsimp only
        have bq := below_up bw hq
        clear x0 x1 x2 x3 hq
        go_wp2_with fail
        go_ret
        exact fits_no (HN.out (by omega)) bq
      have h1d : decide (T < ord k) = false := decide_eq_false h1
      by_cases h2 : over < T - ord k
      · go_upto_region 7 with (fail)
        refine region_ext wr.heap.size (by kernel_rfl) (by kernel_rfl) ?_
        repeat (go_big_quiet_step (fail))
        refine wpQuiet_nil ?_
        rintro _ ⟨z, rfl⟩
        obtain ⟨wq, hq⟩ := z
        dsimp only
        have bq := below_up bw hq
        clear x0 x1 x2 x3 hq
        go_wp2_with fail
        go_ret
        exact fits_no (HN.out (by omega)) bq
      · have h2d : decide (over < T - ord k) = false := decide_eq_false h2
        go_upto_region 7 with (fail)
        refine region_ext wr.heap.size (by kernel_rfl) (by kernel_rfl) ?_
        repeat (go_big_quiet_step (fail))
        refine wpQuiet_nil ?_
        rintro _ ⟨z, rfl⟩
        obtain ⟨wq, hq⟩ := z
        dsimp only
        have bq := below_up hwr hq
        clear x0 x1 x2 x3 hq
        go_wp2_with fail
        go_roundw
        case rel => exact ⟨k + 1, by omega, by go_num, Lib.hid (HY.out (by omega)), bq⟩
        case measure => simp [intOf]; omega
    · have hlt' : ¬ (k : Int) < n := by omega
      have HALL := Lib.hid (show ∀ i, i < n → ord i ≤ madeF (cntM mx) f i m ∧ madeF (cntM mx) f i m ≤ ord i + over from fun i hi => hno.out i (by omega))
      have kr := k1.later hwr
      clear c0 c1 c2' hno
      have c2'' := kr.cell 2
      simp at c2''
      have hgr : g < wr.heap.size := kr.lt
      have hl6 : l ≤ 6 := by have := HLM.out; omega
      go_wp2_with fail
      go_loopw [10] (fun t wx => ∃ i : Nat, i ≤ l ∧ t = .int .i64 i ∧ Hid (∀ j, j < i → f j ≤ most) ∧ Below wr.heap.size wr wx) (fun t _ => l - (intOf t).toNat)
      case atStart => exact ⟨0, Nat.zero_le _, rfl, Lib.hid (fun i hi => absurd hi (by omega)), Below.refl _ _⟩
      case round =>
        obtain ⟨wx, hwx'⟩ : ∃ wx, wx = wr := ⟨_, rfl⟩
        subst hwx'
        obtain ⟨i, hi, rfl, hmo, hwx⟩ := hrel
        by_cases hli : i < l
        · obtain ⟨b5, o5, rfl, hB5⟩ := HF.out.addr (by omega)
          have hli' : (i : Int) < l := by omega
          have hi0 : (0 : Int) ≤ i := by omega
          have e0 := ((below_up bw hwx).cell (p := ⟨_, _, none⟩) hB5).trans (HF.out.at1 hli)
          have e1 := (hwx.cell (p := ⟨g, 2, none⟩) hgr).trans c2''
          have hs3 := (below_up bw hwx).size
          have hs4 := hwx.size
          have x0 := fun z : Ext wx.heap.size wx => z.cell (b := b5) (by omega) e0
          have x1 := fun z : Ext wx.heap.size wx => z.cell (b := g) (by omega) e1
          clear e0 e1
          go_upto_region 12 with (fail)
          refine region_ext wx.heap.size (by kernel_rfl) (by kernel_rfl) ?_
          repeat (go_big_quiet_step (fail))
          refine wpQuiet_nil ?_
          rintro _ ⟨z, rfl⟩
          obtain ⟨wq, hq⟩ := z
          dsimp only
          have bq := below_up hwx hq
          have bqq := below_up bw bq
          clear x0 x1 hq
          by_cases h1 : most < f i
          · have HN := Lib.hid (show ¬ FitsP n ord over most m mx l f from fun hh => by have := hh.2.2.1 i (by have := HLM.out; omega); omega)
            go_wp2_with fail
            go_ret
            exact fits_no HN.out bqq
          · go_wp2_with fail
            go_roundw
            case rel => exact ⟨i + 1, by omega, by go_num, Lib.hid (fun j hj => by rcases Nat.lt_succ_iff_lt_or_eq.1 hj with h' | rfl; exact hmo.out j h'; omega), bq⟩
            case measure => simp [intOf]; omega
        · have hli' : ¬ (i : Int) < l := by omega
          have HT := Lib.hid (show FitsP n ord over most m mx l f from ⟨HE.out, HSN.out, fun j hj => ⟨(HFB.out j (by rw [HLM.out]; exact hj)).1, hmo.out j (by have := HLM.out; omega)⟩, HALL.out⟩)
          have bqq := below_up bw hwx
          go_wp2_with fail
          go_ret
          exact ⟨⟨true, rfl, ⟨fun _ => HT.out, fun _ => rfl⟩⟩, bqq⟩

end Go.Proofs.Ytkdpkaidbmjcaaa
