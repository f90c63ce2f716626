/- span. -/
import Derived.Test.YtkdpkaidbmjcaaaLayH
namespace Go.Proofs.Ytkdpkaidbmjcaaa
open Go.RowKit
set_option linter.unusedSimpArgs false
set_option linter.unusedVariables false

theorem span_none_up (ord md rs cnt : Nat → Int) (over most : Int) {k n : Nat} (hk : k ≤ n) (h : spanF ord md rs cnt over most k = none) : spanF ord md rs cnt over most n = none := by
  induction n with
  | zero => obtain rfl : k = 0 := by omega
            exact h
  | succ n ih =>
    by_cases he : k = n + 1
    · rw [← he]; exact h
    · have := ih (by omega)
      unfold spanF
      rw [this]

theorem span_step (ord md rs cnt : Nat → Int) (over most : Int) {k : Nat} {lo hi : Int} (h : spanF ord md rs cnt over most k = some (lo, hi)) : spanF ord md rs cnt over most (k + 1) =
    if cnt k = 0 then (if 0 < ord k - md k - rs k then none else some (lo, hi)) else some (max lo (upDiv (ord k - md k - rs k) (cnt k)), min hi (Int.tdiv (ord k + over - md k) (cnt k))) := by
  show (match spanF ord md rs cnt over most k with | none => none | some (lo, hi) => _) = _
  rw [h]

theorem tdiv_bd {a c : Int} (hc : 1 ≤ c) (h1 : -10000 ≤ a) (h2 : a ≤ 10000) : -10000 ≤ Int.tdiv a c ∧ Int.tdiv a c ≤ 10000 := by
  rcases Int.lt_or_le a 0 with h | h
  · have e : a = -(-a) := by omega
    rw [e, Int.neg_tdiv, Int.tdiv_eq_ediv_of_nonneg (by omega)]
    have g1 := Int.ediv_nonneg (a := -a) (b := c) (by omega) (by omega)
    have g2 := Int.ediv_le_self (a := -a) c (by omega)
    omega
  · rw [Int.tdiv_eq_ediv_of_nonneg h]
    have g1 := Int.ediv_nonneg (a := a) (b := c) h (by omega)
    have g2 := Int.ediv_le_self (a := a) c h
    omega

theorem rest_bd {E : FEnv} (ok : E.Ok) {s : Nat} (hs : s < E.S) (i : Nat) : 0 ≤ restF (cntM E.mx) E.most E.m s i ∧ restF (cntM E.mx) E.most E.m s i ≤ 1440 := by
  unfold restF
  have key : ∀ n, n ≤ E.m - i → 0 ≤ sumN (fun d => E.most * cntM E.mx (i + d) s) n ∧ sumN (fun d => E.most * cntM E.mx (i + d) s) n ≤ 240 * (n : Int) := by
    intro n
    induction n with
    | zero => exact fun _ => ⟨Int.le_refl _, Int.le_refl _⟩
    | succ n ih =>
      intro hn
      have h1 := ih (by omega)
      obtain ⟨c1, c2⟩ := ok.good.cnt (i + n) s (by omega) (by rw [← ok.sizes]; exact hs)
      obtain ⟨h2, h3⟩ := mul_bd ok.most0 ok.most1 c1 c2
      show 0 ≤ sumN _ n + E.most * (E.mx (i + n)).cnt s ∧ sumN _ n + E.most * (E.mx (i + n)).cnt s ≤ _
      omega
  have := key _ (Nat.le_refl _)
  have := ok.good.m6
  omega

/-- What span returns. -/
def spanOf (o : Option (Int × Int)) : Int × Int := match o with
  | none => (1, 0)
  | some x => x

/-- The span of mix i behind plan p. -/
def FEnv.span (E : FEnv) (p : Plan) (i k : Nat) : Option (Int × Int) := spanF E.ord (fun s => madeF (cntM E.mx) p s E.m) (fun s => restF (cntM E.mx) E.most E.m s (i + 1)) (E.mx i).cnt E.over E.most k

/-- The slots of span behind k sizes. -/
def SpanAt (E : FEnv) (p : Plan) (i k : Nat) (a b : Value) : Prop := ∃ lo hi : Int, a = .int .i64 lo ∧ b = .int .i64 hi ∧ E.span p i k = some (lo, hi) ∧ (-10000 ≤ lo ∧ lo ≤ 10000 ∧ -10000 ≤ hi ∧ hi ≤ 10000)

set_option maxRecDepth 100000 in
set_option maxHeartbeats 3200000 in
theorem span_any (E : FEnv) (ok : E.Ok) (w : World) (p : Plan) (bv : Value) (ls : Int) (fd : Bool) (i : Nat) (hi : i < E.m) (hp : ∀ j, j < E.m → 0 ≤ p j ∧ p j ≤ 40) (h : Fin E w p bv ls fd) :
    Calls Try.prog 37 #[.pointer (some ⟨E.F, 0, none⟩), .int .i64 i] w fun e w' => e = .returned (.tuple #[.int .i64 (spanOf (E.span p i E.S)).1, .int .i64 (spanOf (E.span p i E.S)).2]) ∧ Below w.heap.size w w' := by
  have HO := Lib.hid ok
  have HG := Lib.hid ok.good
  have HSZ := Lib.hid ok.sizes
  have hm6 := ok.good.m6
  have hs12 := ok.good.s12
  rw [← ok.sizes] at hs12
  have HMB := Lib.hid (fun s (hs : s < E.S) => made_bd ok.good hp (s := s) (by rw [← ok.sizes]; exact hs) E.m (Nat.le_refl _) (Nat.le_refl _))
  have HRB := Lib.hid (fun s (hs : s < E.S) => rest_bd ok hs (i + 1))
  have HOB := Lib.hid ok.ord
  have ho0 := ok.over0
  have ho1 := ok.over1
  have hq0 := ok.most0
  have hq1 := ok.most1
  clear hp ok
  unfold Fin at h
  generalize costF (lenM E.mx) p E.m = T at h
  have HF := Lib.hid h
  have hi0 : (0 : Int) ≤ i := by omega
  have him : (i : Int) < E.m := by omega
  obtain ⟨f0, -, -, f3, -, -, -, -, -, -, -, -, -⟩ := h.fields
  clear h
  go_enter Try.func37, Try.ntmps37
  go_wp2_with fail
  clear f0 f3
  go_loopw [4, 5, 19] (fun a b t wr => ∃ k : Nat, k ≤ E.S ∧ t = .int .i64 k ∧ SpanAt E p i k a b ∧ Below w.heap.size w wr) (fun _ _ t _ => E.S - (intOf t).toNat)
  case atStart => exact ⟨0, Nat.zero_le _, rfl, ⟨0, E.most, rfl, rfl, rfl, by omega⟩, Below.refl _ _⟩
  case round =>
    obtain ⟨k, hk, rfl, ⟨lo, hi', rfl, rfl, hsp, hB⟩, hwr⟩ := hrel
    have HB := Lib.hid hB
    have hsp := Lib.hid hsp
    clear hB
    by_cases hlt : k < E.S
    · have hf := HF.out.later HO.out hwr
      obtain ⟨f0, f1, f2, f3, f4, f5, f6, f7, f8, f9, f10, f11, -⟩ := hf.fields
      obtain ⟨a0, -⟩ := hf.mad hlt
      obtain ⟨bo, oo, hO, hNo, o0⟩ := hf.fix.order hlt
      obtain ⟨bm, om, hA, hNm, e0, e1⟩ := hf.fix.mix hi
      obtain ⟨bc, oc, hC, hNc, g0⟩ := hf.fix.count (s := k) hi (by rw [HG.out.cn i hi, ← HSZ.out]; exact hlt)
      obtain ⟨hNr, r0, hNb, r1⟩ := hf.fix.restAt (i := i + 1) (by omega) hlt
      rw [hC, HG.out.cn i hi, ← HSZ.out] at e0
      rw [hA] at f1
      rw [hO] at f0 ⊢
      obtain ⟨m1, m2⟩ := HMB.out k hlt
      obtain ⟨q1, q2⟩ := HRB.out k hlt
      obtain ⟨n1, n2⟩ := HG.out.cnt i k hi (by rw [← HSZ.out]; exact hlt)
      obtain ⟨t1, t2⟩ := HOB.out k hlt
      have HST := Lib.hid (span_step _ _ _ _ _ _ hsp.out)
      have hFl : E.F < wr.heap.size := hf.blk.lt
      have hml : E.gm < wr.heap.size := hf.made.cells1.2.1
      have hrl : E.gr < wr.heap.size := hf.fix.N_lt _ hNr
      have hbl : E.rb (i + 1) < wr.heap.size := hf.fix.N_lt _ hNb
      clear hC hA hO
      generalize hM : madeF (cntM E.mx) p k E.m = M at *
      generalize hR : restF (cntM E.mx) E.most E.m k (i + 1) = R at *
      have hlt' : (k : Int) < E.S := by omega
      have hk0 : (0 : Int) ≤ k := by omega
      have hi1 : (0 : Int) ≤ i + 1 := by omega
      have hi2 : (i : Int) + 1 < E.m + 1 := by omega
      go_upto_region 6 with (fail)
      clear o0 e0 e1 g0 f0 f1 hf
      have x5 := fun z : Ext wr.heap.size wr => z.cell (b := E.F) hFl f5
      have x7 := fun z : Ext wr.heap.size wr => z.cell (b := E.F) hFl f7
      have xa := fun z : Ext wr.heap.size wr => z.cell (b := E.gm) hml a0
      have xr := fun z : Ext wr.heap.size wr => z.cell (b := E.gr) hrl r0
      have xs := fun z : Ext wr.heap.size wr => z.cell (b := E.rb (i + 1)) hbl r1
      clear f3 f4 f5 f6 f7 f8 f9 f10 f11 f2 a0 r0 r1
      refine region_ext wr.heap.size (by kernel_rfl) (by kernel_rfl) ?_
      repeat (go_big_quiet_step (fail))
      refine wpQuiet_nil ?_
      rintro _ ⟨z, rfl⟩
      obtain ⟨wq, hq⟩ := z
      dsimp only
      have hwq : Below w.heap.size w wq := below_up hwr hq
      clear x5 x7 xa xr xs hq
      have hD1 : -5000 ≤ E.ord k - M - R := by omega
      have hD2 : E.ord k - M - R ≤ 5000 := by omega
      try dsimp only at HST
      generalize E.ord k - M - R = D at HST hD1 hD2 ⊢
      by_cases hc : (E.mx i).cnt k = 0
      · have HC := Lib.hid hc
        by_cases hd : 0 < D
        · have hsn := HST.out
          rw [if_pos hc] at hsn
          try dsimp only at hsn
          rw [if_pos hd] at hsn
          have HE := Lib.hid (span_none_up _ _ _ _ _ _ (show k + 1 ≤ E.S by omega) hsn)
          clear hsn
          go_wp2_with fail
          go_ret2
          exact ⟨ret_two (by unfold FEnv.span; rw [HE.out]; rfl) (by unfold FEnv.span; rw [HE.out]; rfl), hwq⟩
        · have hsn := HST.out
          rw [if_pos hc] at hsn
          try dsimp only at hsn
          rw [if_neg hd] at hsn
          have HE := Lib.hid hsn
          have hd' : D ≤ 0 := by omega
          clear hsn hd hD1 hD2
          go_upto_region 12 with (fail)
          clear hi1 hi2 hM hR hc n1 n2 t1 t2 m1 m2 q1 q2
          go_wp2_with fail
          go_roundw
          case rel => exact ⟨k + 1, by omega, by go_num, ⟨lo, hi', rfl, rfl, HE.out, HB.out⟩, hwq⟩
          case measure => simp [intOf]; omega
      · have hsn := HST.out
        rw [if_neg hc] at hsn
        try dsimp only at hsn
        have HE := Lib.hid hsn
        clear hsn
        have hf := HF.out.later HO.out hwq
        obtain ⟨-, -, f2, -, -, f5, -, -, -, -, -, -, -⟩ := hf.fields
        obtain ⟨a0, -⟩ := hf.mad hlt
        rw [hM] at a0
        have hc1 : 1 ≤ (E.mx i).cnt k := by omega
        obtain ⟨u1, u2⟩ := tdiv_bd hc1 (a := D + (E.mx i).cnt k - 1) (by omega) (by omega)
        obtain ⟨v1, v2⟩ := tdiv_bd hc1 (a := E.ord k + E.over - M) (by omega) (by omega)
        have hFl : E.F < wq.heap.size := hf.blk.lt
        have hml : E.gm < wq.heap.size := hf.made.cells1.2.1
        have x2 := fun z : Ext wq.heap.size wq => z.cell (b := E.F) hFl f2
        have x5 := fun z : Ext wq.heap.size wq => z.cell (b := E.F) hFl f5
        have xa := fun z : Ext wq.heap.size wq => z.cell (b := E.gm) hml a0
        have HUV := Lib.hid (And.intro u1 (And.intro u2 (And.intro v1 v2)))
        have wz1 : IntKind.i64.wrap (Int.tdiv (D + (E.mx i).cnt k - 1) ((E.mx i).cnt k)) = Int.tdiv (D + (E.mx i).cnt k - 1) ((E.mx i).cnt k) := wrap_in (by omega) (by omega)
        have wz2 : IntKind.i64.wrap (Int.tdiv (E.ord k + E.over - M) ((E.mx i).cnt k)) = Int.tdiv (E.ord k + E.over - M) ((E.mx i).cnt k) := wrap_in (by omega) (by omega)
        clear hf f2 f5 a0
        go_upto_region 11 with (fail)
        refine region_ext wq.heap.size (by kernel_rfl) (by kernel_rfl) ?_
        repeat (go_big_quiet_step (fail))
        refine wpQuiet_nil ?_
        rintro _ ⟨z, rfl⟩
        obtain ⟨wy, hy⟩ := z
        dsimp only
        have hwy : Below w.heap.size w wy := below_up hwq hy
        clear u1 u2 v1 v2 hD1 hD2 x2 x5 xa wz1 wz2 hy hi1 hi2 hM hR hc n1 n2 t1 t2 m1 m2 q1 q2
        go_wp2_with fail
        go_roundw
        case rel => exact ⟨k + 1, by omega, by go_num, ⟨_, _, rfl, rfl, HE.out, by have hb := HB.out; have hu := HUV.out; omega⟩, hwy⟩
        case measure => simp [intOf]; omega
    · obtain rfl : k = E.S := by omega
      go_wp2_with fail
      go_ret2
      exact ⟨ret_two (by rw [hsp.out]; rfl) (by rw [hsp.out]; rfl), hwr⟩

end Go.Proofs.Ytkdpkaidbmjcaaa
