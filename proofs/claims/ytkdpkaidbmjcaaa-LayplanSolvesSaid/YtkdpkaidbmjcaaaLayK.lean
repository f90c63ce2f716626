/- needed and hopeless: the walks. -/
import Derived.Test.YtkdpkaidbmjcaaaLayJ
namespace Go.Proofs.Ytkdpkaidbmjcaaa
open Go.RowKit
set_option linter.unusedSimpArgs false
set_option linter.unusedVariables false

theorem getD_of {l : List Nat} {j k : Nat} (h : l[j]? = some k) : l[j]?.getD 0 = k := by rw [h]; rfl

set_option maxRecDepth 100000 in
set_option maxHeartbeats 3200000 in
theorem needed_any (E : FEnv) (ok : E.Ok) (w : World) (p : Plan) (bv : Value) (ls : Int) (fd : Bool) (i : Nat) (hi : i ≤ E.m) (hp : ∀ j, j < E.m → 0 ≤ p j ∧ p j ≤ 40) (h : Fin E w p bv ls fd) :
    Calls Try.prog 45 #[.pointer (some ⟨E.F, 0, none⟩), .int .i64 i] w fun e w' => e = .returned (.int .i64 (E.most1 p i E.S)) ∧ Below w.heap.size w w' := by
  have HO := Lib.hid ok
  have HG := Lib.hid ok.good
  have HSZ := Lib.hid ok.sizes
  have hm6 := ok.good.m6
  have hs12 := ok.good.s12
  rw [← ok.sizes] at hs12
  have HMB := Lib.hid (fun s (hs : s < E.S) => made_bd ok.good hp (s := s) (by rw [← ok.sizes]; exact hs) E.m (Nat.le_refl _) (Nat.le_refl _))
  have HOB := Lib.hid ok.ord
  have HB := Lib.hid (fun s (hs : s < E.S) => need_bd ok hp i hs)
  have HM1 := Lib.hid (most1_bd ok hp i)
  have HRL := Lib.hid (fun s (hs : s < E.S) => R_len ok hs)
  have HMM := Lib.hid ok.mem
  have hq0 := ok.most0
  have hq1 := ok.most1
  clear hp ok
  unfold Fin at h
  generalize costF (lenM E.mx) p E.m = T at h
  have HF := Lib.hid h
  have hi0 : (0 : Int) ≤ i := by omega
  obtain ⟨f0, -, -, -, -, -, -, -, -, -, -, -, -⟩ := h.fields
  clear h
  go_enter Try.func45, Try.ntmps45
  go_wp2_with fail
  clear f0
  go_loopw [5, 19] (fun a t wr => ∃ k : Nat, k ≤ E.S ∧ t = .int .i64 k ∧ a = .int .i64 (E.most1 p i k) ∧ Below w.heap.size w wr) (fun _ t _ => E.S - (intOf t).toNat)
  case atStart => exact ⟨0, Nat.zero_le _, rfl, rfl, Below.refl _ _⟩
  case round =>
    obtain ⟨k, hk, rfl, rfl, hwr⟩ := hrel
    by_cases hlt : k < E.S
    · have hf := HF.out.later HO.out hwr
      obtain ⟨f0, -, -, -, -, f5, -, -, f8, -, -, -, -⟩ := hf.fields
      obtain ⟨a0, -⟩ := hf.mad hlt
      obtain ⟨bo, oo, hO, hNo, o0⟩ := hf.fix.order hlt
      obtain ⟨hNt, t0⟩ := hf.fix.rates.at0 hlt
      rw [hO]
      obtain ⟨m1, m2⟩ := HMB.out k hlt
      obtain ⟨t1, t2⟩ := HOB.out k hlt
      have HN0 := Lib.hid (show E.need p i k 0 = (E.ord k - madeF (cntM E.mx) p k E.m, 0) from rfl)
      have HSS := Lib.hid (show E.most1 p i (k + 1) = max (E.most1 p i k) (E.need p i k (E.R k).length).2 from rfl)
      obtain ⟨x1, x2⟩ := HM1.out k hk
      generalize hM : madeF (cntM E.mx) p k E.m = M at a0 m1 m2 HN0
      generalize hG : E.most1 p i k = G at x1 x2 HSS ⊢
      have hlt' : (k : Int) < E.S := by omega
      have hk0 : (0 : Int) ≤ k := by omega
      have hL6 : (E.R k).length ≤ 6 := by have := HRL.out k hlt; omega
      clear hO hM hG hf
      go_wp2_with fail
      clear f0 f5 f8 a0 o0 t0 x1 x2 m1 m2
      generalize hD : E.ord k - M = D at HN0 ⊢
      clear hD t1 t2
      obtain ⟨W0, hW0⟩ : ∃ W0, W0 = wr := ⟨_, rfl⟩
      subst hW0
      go_loopw [8, 9, 41] (fun a b t wx => ∃ j : Nat, j ≤ (E.R k).length ∧ t = .int .i64 j ∧ a = .int .i64 (E.need p i k j).1 ∧ b = .int .i64 (E.need p i k j).2 ∧ Below w.heap.size w wx) (fun _ _ t _ => (E.R k).length - (intOf t).toNat)
      case atStart => exact ⟨0, Nat.zero_le _, rfl, by rw [HN0.out], by rw [HN0.out], hwr⟩
      case round =>
        obtain ⟨wx, hwx'⟩ : ∃ wx, wx = wr := ⟨_, rfl⟩
        subst hwx'
        clear hwr
        obtain ⟨j, hj, rfl, rfl, rfl, hwx⟩ := hrel
        obtain ⟨y1, y2, y3, y4⟩ := HB.out k hlt j hj
        by_cases hlj : j < (E.R k).length
        · obtain ⟨x, hx⟩ : ∃ x, (E.R k)[j]? = some x := ⟨_, List.getElem?_eq_getElem hlj⟩
          have HST := Lib.hid (E.need_step p i k hx)
          have hf := HF.out.later HO.out hwx
          obtain ⟨-, f1, -, f3, -, -, -, -, -, -, -, -, -⟩ := hf.fields
          obtain ⟨hxm, hxc⟩ := (HMM.out k hlt x).1 (List.mem_of_getElem? hx)
          obtain ⟨br, orr, hTA, hNR⟩ := (hf.fix.ratess k hlt).addr (by omega)
          have hrr := hf.fix.ratess k hlt
          rw [hTA] at hrr ⊢
          have r0 := (hrr.at1 hlj).2
          rw [getD_of hx] at r0
          obtain ⟨bm, om, hA, hNm, e0, e1⟩ := hf.fix.mix hxm
          obtain ⟨bc, oc, hC, hNc, g0⟩ := hf.fix.count (s := k) hxm (by rw [HG.out.cn x hxm, ← HSZ.out]; exact hlt)
          rw [hC, HG.out.cn x hxm, ← HSZ.out] at e0
          rw [hA] at f1
          obtain ⟨n1, n2⟩ := HG.out.cnt x k hxm (by rw [← HSZ.out]; exact hlt)
          obtain ⟨l1, l2⟩ := HG.out.len x hxm
          obtain ⟨v1, v2⟩ := mul_bd hq0 hq1 n1 n2
          obtain ⟨v3, v4⟩ := mul_bd hq0 hq1 (by omega : 0 ≤ (E.mx x).len) l2
          have hFl : E.F < wx.heap.size := hf.blk.lt
          have hml : bm < wx.heap.size := hf.fix.N_lt _ hNm
          have hcl : bc < wx.heap.size := hf.fix.N_lt _ hNc
          have hlj' : (j : Int) < (E.R k).length := by omega
          have hj0 : (0 : Int) ≤ j := by omega
          have hx0 : (0 : Int) ≤ x := by omega
          have hxm' : (x : Int) < E.m := by omega
          have hj6 : j ≤ 6 := by omega
          clear hC hA hrr hTA
          generalize E.need p i k j = N at *
          obtain ⟨ms, cs⟩ := N
          simp only [] at y1 y2 y3 y4 ⊢
          unfold needStep at HST
          simp only [] at HST
          by_cases h1 : x < i
          · have h1' : (x : Int) < i := by omega
            have HE := Lib.hid (HST.out.trans (if_pos (.inl h1)))
            go_wp2_with fail
            go_roundw
            case rel => exact ⟨j + 1, by omega, by go_num, by rw [HE.out], by rw [HE.out], hwx⟩
            case measure => simp [intOf]; omega
          have h1' : ¬ (x : Int) < i := by omega
          by_cases h2 : ms ≤ 0
          · have HE := Lib.hid (HST.out.trans (if_pos (.inr h2)))
            go_wp2_with fail
            go_roundw
            case rel => exact ⟨j + 1, by omega, by go_num, by rw [HE.out], by rw [HE.out], hwx⟩
            case measure => simp [intOf]; omega
          have HE := Lib.hid (HST.out.trans (if_neg (by omega)))
          obtain ⟨v5, v6⟩ := mul_bd (by omega : 0 ≤ ms) y2 (by omega : 0 ≤ (E.mx x).len) l2
          go_upto_region 10 with (fail)
          have z1 := fun z : Ext wx.heap.size wx => z.cell (b := E.F) hFl f1
          have z2 := fun z : Ext wx.heap.size wx => z.cell (b := bm) hml e0
          have z3 := fun z : Ext wx.heap.size wx => z.cell (b := bm) hml e1
          have z4 := fun z : Ext wx.heap.size wx => z.cell (b := bc) hcl g0
          clear f1 e0 e1 g0 r0
          refine region_ext wx.heap.size (by kernel_rfl) (by kernel_rfl) ?_
          repeat (go_big_quiet_step (fail))
          refine wpQuiet_nil ?_
          rintro _ ⟨z, rfl⟩
          obtain ⟨wq, hq⟩ := z
          dsimp only
          have hwq : Below w.heap.size w wq := below_up hwx hq
          have f3' := (hq.cell (p := ⟨E.F, 3, none⟩) hFl).trans f3
          clear z1 z2 z3 z4 hq f3 hf
          have wz1 : IntKind.i64.wrap (E.most * (E.mx x).cnt k) = E.most * (E.mx x).cnt k := wrap_in (by omega) (by omega)
          have wz2 : IntKind.i64.wrap (E.most * (E.mx x).len) = E.most * (E.mx x).len := wrap_in (by omega) (by omega)
          have wz3 : IntKind.i64.wrap (ms * (E.mx x).len) = ms * (E.mx x).len := wrap_in (by omega) (by omega)
          have wz4 : IntKind.i64.wrap (cs + E.most * (E.mx x).len) = cs + E.most * (E.mx x).len := wrap_in (by omega) (by omega)
          by_cases h3 : E.most * (E.mx x).cnt k ≤ ms
          · have HE2 := Lib.hid (HE.out.trans (if_pos h3))
            have wz5 : IntKind.i64.wrap (ms - E.most * (E.mx x).cnt k) = ms - E.most * (E.mx x).cnt k := wrap_in (by omega) (by omega)
            go_wp2_with fail
            go_roundw
            case rel => exact ⟨j + 1, by omega, by go_num, by rw [HE2.out], by rw [HE2.out], hwq⟩
            case measure => simp [intOf]; omega
          · have HE2 := Lib.hid (HE.out.trans (if_neg h3))
            have g7 := Int.ediv_nonneg (a := ms * (E.mx x).len + (E.mx x).cnt k - 1) (b := (E.mx x).cnt k) (by omega) (by omega)
            have g8 := Int.ediv_le_self (a := ms * (E.mx x).len + (E.mx x).cnt k - 1) ((E.mx x).cnt k) (by omega)
            rw [← Int.tdiv_eq_ediv_of_nonneg (by omega)] at g7 g8
            have wz5 : IntKind.i64.wrap (ms * (E.mx x).len + (E.mx x).cnt k) = ms * (E.mx x).len + (E.mx x).cnt k := wrap_in (by omega) (by omega)
            have wz6 : IntKind.i64.wrap (ms * (E.mx x).len + (E.mx x).cnt k - 1) = ms * (E.mx x).len + (E.mx x).cnt k - 1 := wrap_in (by omega) (by omega)
            have wz7 : IntKind.i64.wrap (Int.tdiv (ms * (E.mx x).len + (E.mx x).cnt k - 1) ((E.mx x).cnt k)) = Int.tdiv (ms * (E.mx x).len + (E.mx x).cnt k - 1) ((E.mx x).cnt k) := wrap_in (by omega) (by omega)
            have wz8 : IntKind.i64.wrap (cs + Int.tdiv (ms * (E.mx x).len + (E.mx x).cnt k - 1) ((E.mx x).cnt k)) = cs + Int.tdiv (ms * (E.mx x).len + (E.mx x).cnt k - 1) ((E.mx x).cnt k) := wrap_in (by omega) (by omega)
            have hne : ¬ (E.mx x).cnt k = 0 := by omega
            clear g7 g8
            go_wp2_with fail
            go_roundw
            case rel => exact ⟨j + 1, by omega, by go_num, by rw [HE2.out], by rw [HE2.out], hwq⟩
            case measure => simp [intOf]; omega
        · obtain rfl : j = (E.R k).length := by omega
          clear hlj
          go_wp2_with fail
          go_roundw
          case rel => exact ⟨k + 1, by omega, by go_num, by rw [HSS.out], hwx⟩
          case measure => simp [intOf]; omega
    · obtain rfl : k = E.S := by omega
      go_wp2_with fail
      go_ret
      exact ⟨rfl, hwr⟩

set_option maxHeartbeats 3200000 in
theorem hopeless_any (E : FEnv) (ok : E.Ok) (w : World) (p : Plan) (bv : Value) (ls : Int) (fd : Bool) (i : Nat) (hi : i ≤ E.m) (hp : ∀ j, j < E.m → 0 ≤ p j ∧ p j ≤ 40) (h : Fin E w p bv ls fd) :
    Calls Try.prog 39 #[.pointer (some ⟨E.F, 0, none⟩), .int .i64 i] w fun e w' => e = .returned (.bool (fd && decide (ls ≤ E.cost p + E.most1 p i E.S))) ∧ Below w.heap.size w w' := by
  obtain ⟨x1, x2⟩ := most1_bd ok hp i E.S (Nat.le_refl _)
  obtain ⟨c1, c2⟩ := cost_bd ok.good hp E.m (Nat.le_refl _) (Nat.le_refl _)
  have hm6 := ok.good.m6
  have HC := Lib.hid (fun z : Ext w.heap.size w => needed_any E ok z.wx p bv ls fd i hi hp (h.later ok z.below))
  have hFl : E.F < w.heap.size := h.blk.lt
  unfold Fin at h
  unfold FEnv.cost
  generalize costF (lenM E.mx) p E.m = T at h c1 c2 ⊢
  generalize E.most1 p i E.S = G at HC x1 x2 ⊢
  obtain ⟨-, -, -, -, -, -, f6, -, -, -, f10, f11, -⟩ := h.fields
  have z6 := fun z : Ext w.heap.size w => z.cell (b := E.F) hFl f6
  have z10 := fun z : Ext w.heap.size w => z.cell (b := E.F) hFl f10
  have z11 := fun z : Ext w.heap.size w => z.cell (b := E.F) hFl f11
  clear h f6 f10 f11 hp ok
  cases fd
  · go_enter Try.func39, Try.ntmps39
    go_upto_region 1 with (fail)
    refine region_ext w.heap.size (by kernel_rfl) (by kernel_rfl) ?_
    repeat (go_big_quiet_step (fail))
    refine wpQuiet_nil ?_
    rintro _ ⟨z, rfl⟩
    obtain ⟨wq, hq⟩ := z
    dsimp only
    clear z6 z10 z11
    go_wp2_with fail
    go_ret
    exact ⟨rfl, hq⟩
  · have wz : IntKind.i64.wrap (T + G) = T + G := wrap_in (by omega) (by omega)
    go_enter Try.func39, Try.ntmps39
    go_upto_region 1 with (fail)
    refine region_ext w.heap.size (by kernel_rfl) (by kernel_rfl) ?_
    repeat (go_big_quiet_step (first | (go_at_call 45; exact calls_ext (Nat.le_refl _) (HC.out _))))
    refine wpQuiet_nil ?_
    rintro _ ⟨z, rfl⟩
    obtain ⟨wq, hq⟩ := z
    dsimp only
    clear z6 z10 z11
    go_wp2_with fail
    go_ret
    exact ⟨ret_bool (by simp), hq⟩

end Go.Proofs.Ytkdpkaidbmjcaaa
