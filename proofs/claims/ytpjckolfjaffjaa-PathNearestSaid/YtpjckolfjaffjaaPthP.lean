/- PathNearest: the plain law and the walk. -/
import Derived.Test.YtpjckolfjaffjaaPthN
namespace Go.Proofs.Ytpjckolfjaffjaa
open Go.RowKit
set_option linter.unusedSimpArgs false
set_option linter.unusedVariables false

theorem gord_pick (s : Nat → Spot) {m : Nat} : ∀ k j, j < k → k ≤ m → gordF s m k j = pickG s m j := by
  intro k
  induction k with
  | zero => intro j hj; omega
  | succ k ih =>
    intro j hj hk
    obtain ⟨x, hx, e, _⟩ := pickG_spec s (n := m) (k := k) (by omega)
    rw [gord_succ s m k x e j hj]
    by_cases hjk : j < k
    · rw [if_pos hjk]; exact ih j hjk (by omega)
    · obtain rfl : j = k := by omega
      rw [if_neg hjk, e]

theorem greedy_sub (s : Nat → Spot) (m : Nat) {a : Nat} : ∀ d x, x ∈ greedyL s m a → x ∈ greedyL s m (a + d) := by
  intro d
  induction d with
  | zero => intro x h; exact h
  | succ d ih =>
    intro x h
    show x ∈ greedyL s m (a + d + 1)
    rw [greedy_succ]
    exact List.mem_append_left _ (ih x h)

theorem pick_mem (s : Nat → Spot) {m a b : Nat} (h : a < b) : (pickG s m a).toNat ∈ greedyL s m b := by
  obtain ⟨d, rfl⟩ : ∃ d, b = a + 1 + d := ⟨b - (a + 1), by omega⟩
  refine greedy_sub s m d _ ?_
  rw [greedy_succ]
  exact List.mem_append_right _ (by simp)

theorem greedy_order (s : Nat → Spot) (m : Nat) : IsOrder m m (gordF s m m) := by
  refine ⟨rfl, fun i hi => ⟨?_, fun j hj e => ?_⟩⟩
  · rw [gord_pick s m i hi (Nat.le_refl _)]
    obtain ⟨x, hx, e, _⟩ := pickG_spec s (n := m) (k := i) hi
    rw [e]; omega
  · rw [gord_pick s m i hi (Nat.le_refl _), gord_pick s m j (by omega) (Nat.le_refl _)] at e
    obtain ⟨x, hx, e2, hno, _⟩ := pickG_spec s (n := m) (k := i) hi
    have := pick_mem s (m := m) hj
    rw [e, e2, Int.toNat_natCast] at this
    exact hno this

/-- Where the knife is before place i of the greedy order. -/
theorem last_knife (s : Nat → Spot) {m i : Nat} (hi : i ≤ m) : lastS s (greedyL s m i) = knifeF s (gordF s m m) i := by
  match i with
  | 0 => rfl
  | i + 1 =>
    obtain ⟨x, hx, e, _⟩ := pickG_spec s (n := m) (k := i) (by omega)
    rw [last_succ s m i x e]
    show s x = s (gordF s m m i).toNat
    rw [gord_pick s m i (by omega) (Nat.le_refl _), e, Int.toNat_natCast]

theorem nearest_law (s : Nat → Spot) {m i k : Nat} (hik : i < k) (hk : k < m) :
    distF (knifeF s (gordF s m m) i) (s (gordF s m m i).toNat) < distF (knifeF s (gordF s m m) i) (s (gordF s m m k).toNat) ∨
    (distF (knifeF s (gordF s m m) i) (s (gordF s m m i).toNat) = distF (knifeF s (gordF s m m) i) (s (gordF s m m k).toNat) ∧ gordF s m m i ≤ gordF s m m k) := by
  rw [← last_knife s (by omega), gord_pick s m i (by omega) (Nat.le_refl _), gord_pick s m k hk (Nat.le_refl _)]
  obtain ⟨x, hx, e, _, hbest⟩ := pickG_spec s (n := m) (k := i) (by omega)
  obtain ⟨y, hy, e2, hno, _⟩ := pickG_spec s (n := m) (k := k) hk
  rw [e, e2, Int.toNat_natCast, Int.toNat_natCast]
  have hyi : y ∉ greedyL s m i := fun h => hno (by
    obtain ⟨d, rfl⟩ : ∃ d, k = i + d := ⟨k - i, by omega⟩
    exact greedy_sub s m d y h)
  rcases hbest y hy hyi with h | ⟨h1, h2⟩
  · exact .inl h
  · exact .inr ⟨h1, by omega⟩

set_option maxRecDepth 100000 in
set_option maxHeartbeats 3200000 in
theorem nearest_any (A : Option Addr) (m c : Nat) (poly : Nat → Poly) (w : World) (hq : PolysIn w A m poly) :
    Calls Try.prog 6 #[.slice A m c] w fun e w' => e = .returned (.bool true) ∧ Below w.heap.size w w' := by
  have HQ := Lib.hid hq
  clear hq
  go_enter Try.func6, Try.ntmps6
  go_wp2_with fail
  refine (light_any A m c poly _ HQ.out.1).mono ?_
  rintro e w1 ⟨hb1, rfl | ⟨rfl, hm, hs⟩⟩
  · go_wp2_with fail
    refine (alive_any _).mono ?_
    rintro e w2 ⟨rfl, hb2⟩
    go_wp2_with fail
    go_ret
    exact ⟨rfl, below_up hb1 hb2⟩
  have HQ1 := Lib.hid ((HQ.out.light hs).later hb1)
  clear HQ hs
  go_wp2_with fail
  refine (Greedy_any _ m _ poly _ HQ1.out).mono ?_
  intro e w2 hpost
  obtain ⟨hb2, AG, cG, rfl, rG⟩ := hpost.list
  have HQ2 := Lib.hid (HQ1.out.later hb2)
  have bb2 := below_up hb1 hb2
  clear HQ1 hb1 hb2 hpost
  by_cases hE : chkErr m poly = 0
  rotate_left
  · have hne : (chkErr m poly != 0) = true := bne_iff_ne.2 hE
    rw [lenF_no _ hE]
    clear hE rG
    go_wp2_with fail
    refine (alive_any _).mono ?_
    rintro e wz ⟨rfl, hbz⟩
    go_wp2_with fail
    go_ret
    exact ⟨rfl, below_up bb2 hbz⟩
  rw [lenF_ok _ hE] at rG
  rw [lenF_ok _ hE, hE]
  have HV := Lib.hid (chk_valid hE).2
  have HST := Lib.hid (start_ok (chk_valid hE).2)
  have hm60 := (chk_valid hE).1
  have RG := Lib.hid rG
  clear hE rG
  have hgo := greedy_order (startF poly) m
  have HO := Lib.hid (show orderF m m (gordF (startF poly) m m) = true from decide_eq_true hgo)
  have HOR := Lib.hid (fun i hi => (hgo.2 i hi).1)
  have HNL := Lib.hid (fun i k hik hk => nearest_law (startF poly) (m := m) (i := i) (k := k) hik hk)
  clear hgo
  generalize gordF (startF poly) m m = o at *
  go_wp2_with fail
  refine (once_any _ m _ m o _ (by omega) (by omega) RG.out).mono ?_
  rintro e w3 ⟨rfl, hb3⟩
  rw [HO.out]
  have HQ3 := Lib.hid (HQ2.out.later hb3)
  have RG3 := Lib.hid (RG.out.later hb3)
  have bb3 := below_up bb2 hb3
  clear HQ2 RG bb2 hb3 HO
  go_upto_region 9 with (fail)
  have k5 := Blk.new w3 37 #[.int .i64 (knifeF (startF poly) o 0).x, .int .i64 (knifeF (startF poly) o 0).y]
  change Blk (w3.alloc (.cells #[.int .i64 0, .int .i64 0] 37)) _ _ _ at k5
  have hW0 := below_a1 w3 (.cells #[.int .i64 0, .int .i64 0] 37)
  have HQg := Lib.hid (show Row _ w3.heap.size 1 A m (fun i _ => .slice (poly i).pa (poly i).pn (poly i).pc) from HQ3.out.1.keep hW0)
  have HSg := Lib.hid (fun i hi => (HQ3.out.2 i hi).1.keep hW0)
  have HRg := Lib.hid (RG3.out.keep hW0)
  have bbw := below_up bb3 hW0
  obtain ⟨g, hg⟩ : ∃ g, g = w3.heap.size := ⟨_, rfl⟩
  have hgw : w.heap.size ≤ g := by have := bb3.size; omega
  rw [← hg] at k5 HQg HSg HRg
  rw [← hg]
  generalize hW : w3.alloc _ = W at k5 HQg HSg HRg bbw ⊢
  clear hW hg HQ3 RG3 bb3 hW0
  go_wp2_with fail
  go_loopw [6] (fun t wr => ∃ i : Nat, i ≤ m ∧ t = .int .i64 i ∧ Blk wr g 37 #[.int .i64 (knifeF (startF poly) o i).x, .int .i64 (knifeF (startF poly) o i).y] ∧ Below g W wr) (fun t _ => m - (intOf t).toNat)
  case atStart => exact ⟨0, Nat.zero_le _, rfl, k5, Below.refl _ _⟩
  case round =>
    obtain ⟨i, hi, rfl, kB, hwr⟩ := hrel
    clear k5
    have hgl := kB.lt
    by_cases hli : i < m
    · obtain ⟨bo, oo, rfl, hBo⟩ := HRg.out.addr (by omega)
      obtain ⟨bq, oq, rfl, hBq⟩ := HQg.out.addr (by omega)
      obtain ⟨o1, o2⟩ := HOR.out i hli
      obtain ⟨x, hx⟩ := Int.eq_ofNat_of_zero_le o1
      have hxm : x < m := by omega
      have f0 := (hwr.cell (p := ⟨_, _, none⟩) hBo).trans (HRg.out.at1 hli)
      rw [hx] at f0
      obtain ⟨p1, b1, q1, l1, r1, a0, a1⟩ := first_vertex HQg.out HSg.out HV.out hwr hBq hxm
      have okK := Lib.hid (knife_ok HST.out HOR.out i hi)
      have okP := Lib.hid (HST.out x hxm)
      have HK1 := Lib.hid (show knifeF (startF poly) o (i + 1) = startF poly x by show startF poly (o i).toNat = _; rw [hx]; rfl)
      have HNLi := Lib.hid (fun k (hik : i < k) (hk : k < m) => show distF (knifeF (startF poly) o i) (startF poly x) < distF (knifeF (startF poly) o i) (startF poly (o k).toNat) ∨ (distF (knifeF (startF poly) o i) (startF poly x) = distF (knifeF (startF poly) o i) (startF poly (o k).toNat) ∧ (x : Int) ≤ o k) from by
        have := HNL.out i k hik hk
        rw [hx] at this
        exact this)
      have hpn : (((poly x).pn : Int) == 0) = false := beq_eq_false_iff_ne.2 (by omega)
      have p1' : (0 : Int) < (poly x).pn := by omega
      have hli' : (i : Int) < m := by omega
      have hi0 : (0 : Int) ≤ i := by omega
      have hxm' : (x : Int) < m := by omega
      have hx0 : (0 : Int) ≤ x := by omega
      have x0 := fun z : Ext wr.heap.size wr => z.cell (b := g) hgl (kB.cell 0)
      have x1 := fun z : Ext wr.heap.size wr => z.cell (b := g) hgl (kB.cell 1)
      have x2 := fun z : Ext wr.heap.size wr => z.cell (b := b1) (by omega) a0
      have x3 := fun z : Ext wr.heap.size wr => z.cell (b := b1) (by omega) a1
      have x4 := fun z : Ext wr.heap.size wr => z.cell (b := bo) (by omega) f0
      have x5 := fun z : Ext wr.heap.size wr => z.cell (b := bq) (by omega) r1
      simp at x0 x1
      clear o1 o2
      have HX := Lib.hid hx
      clear hx
      generalize knifeF (startF poly) o i = K at *
      generalize hP : startF poly x = P at *
      have HPX := Lib.hid hP
      clear hP
      go_upto_region 14 with (fail)
      refine region_ext wr.heap.size (by kernel_rfl) (by kernel_rfl) ?_
      repeat (go_big_quiet_step (first | (go_at_call 21; exact calls_ext (by omega) (rdistance_any K P _ okK.out okP.out))))
      refine wpQuiet_nil ?_
      rintro _ ⟨z, rfl⟩
      obtain ⟨wq, hq⟩ := z
      dsimp only
      have hwq := hwr.trans (hq.mono (Nat.le_of_lt hgl))
      have kB2 := kB.later hq
      clear x0 x1 x2 x3 x4 x5 f0 r1 a0 a1 kB hq hwr hgl
      have hgl := kB2.lt
      generalize distF K P = D1 at *
      go_wp2_with fail
      go_loopw [8] (fun t wr => ∃ k : Nat, i < k ∧ k ≤ m ∧ t = .int .i64 k ∧ Below wq.heap.size wq wr) (fun t _ => m - (intOf t).toNat)
      case atStart => exact ⟨i + 1, by omega, by omega, by go_num, Below.refl _ _⟩
      case round =>
        obtain ⟨k, hik, hk, rfl, hwk⟩ := hrel
        have kB3 := kB2.later hwk
        have hwk2 := hwq.trans (hwk.mono (Nat.le_of_lt hgl))
        have hgl3 := kB3.lt
        by_cases hlk : k < m
        · obtain ⟨o1, o2⟩ := HOR.out k hlk
          obtain ⟨y, hy⟩ := Int.eq_ofNat_of_zero_le o1
          have hym : y < m := by omega
          have f1 := (hwk2.cell (p := ⟨_, _, none⟩) hBo).trans (HRg.out.at1 hlk)
          have f2 := (hwk2.cell (p := ⟨_, _, none⟩) hBo).trans (HRg.out.at1 hli)
          rw [hy] at f1
          rw [HX.out] at f2
          obtain ⟨p2, b2, q2, l2, r2, c0, c1⟩ := first_vertex HQg.out HSg.out HV.out hwk2 hBq hym
          have okR := Lib.hid (HST.out y hym)
          have hlaw := HNLi.out k hik hlk
          rw [hy] at hlaw
          have hpn2 : (((poly y).pn : Int) == 0) = false := beq_eq_false_iff_ne.2 (by omega)
          have p2' : (0 : Int) < (poly y).pn := by omega
          have hlk' : (k : Int) < m := by omega
          have hk0 : (0 : Int) ≤ k := by omega
          have hym' : (y : Int) < m := by omega
          have hy0 : (0 : Int) ≤ y := by omega
          have x0 := fun z : Ext wr.heap.size wr => z.cell (b := g) hgl3 (kB3.cell 0)
          have x1 := fun z : Ext wr.heap.size wr => z.cell (b := g) hgl3 (kB3.cell 1)
          have x2 := fun z : Ext wr.heap.size wr => z.cell (b := b2) (by omega) c0
          have x3 := fun z : Ext wr.heap.size wr => z.cell (b := b2) (by omega) c1
          have x4 := fun z : Ext wr.heap.size wr => z.cell (b := bo) (by omega) f1
          have x5 := fun z : Ext wr.heap.size wr => z.cell (b := bq) (by omega) r2
          simp at x0 x1
          clear o1 o2 hy
          have HLAW := Lib.hid (show D1 < distF K (startF poly y) ∨ (D1 = distF K (startF poly y) ∧ (x : Int) ≤ y) from hlaw)
          clear hlaw
          generalize hR : startF poly y = R at *
          clear hR
          go_upto_region 20 with (fail)
          refine region_ext wr.heap.size (by kernel_rfl) (by kernel_rfl) ?_
          repeat (go_big_quiet_step (first | (go_at_call 21; exact calls_ext (by omega) (rdistance_any K R _ okK.out okR.out))))
          refine wpQuiet_nil ?_
          rintro _ ⟨z, rfl⟩
          obtain ⟨wz, hz⟩ := z
          dsimp only
          have hwz := below_up hwk hz
          have g1 := (hz.cell (p := ⟨bo, _, none⟩) (by simp only []; omega)).trans f1
          have g2 := (hz.cell (p := ⟨bo, _, none⟩) (by simp only []; omega)).trans f2
          have hbz : bo < wz.heap.size := Nat.lt_of_lt_of_le (by omega) hz.size
          clear x0 x1 x2 x3 x4 x5 f1 f2 r2 c0 c1 hz
          have hlaw := HLAW.out
          generalize distF K R = D2 at *
          have hn1 : ¬ D2 < D1 := by omega
          by_cases he : D2 = D1
          · have e1 : (D2 == D1) = true := beq_iff_eq.2 he
            have hn2 : ¬ (y : Int) < x := by omega
            have hn3 : decide (y < x) = false := decide_eq_false (by omega)
            have hn4 : decide ((y : Int) < x) = false := decide_eq_false hn2
            have hn5 : decide (D2 < D1) = false := decide_eq_false hn1
            clear hlaw he HLAW
            go_upto_region 21 with (fail)
            have x0 := fun z : Ext wz.heap.size wz => z.cell (b := bo) (by omega) g1
            have x1 := fun z : Ext wz.heap.size wz => z.cell (b := bo) (by omega) g2
            refine region_ext wz.heap.size (by kernel_rfl) (by kernel_rfl) ?_
            repeat (go_big_quiet_step (fail))
            refine wpQuiet_nil ?_
            rintro _ ⟨z, rfl⟩
            obtain ⟨wy, hy⟩ := z
            dsimp only
            have hwy := below_up hwz hy
            clear x0 x1 g1 g2 hy
            go_wp2_with fail
            go_roundw
            case rel => exact ⟨k + 1, by omega, by omega, by go_num, hwy⟩
            case measure => simp [intOf]; omega
          · have e1 : (D2 == D1) = false := beq_eq_false_iff_ne.2 he
            have hn5 : decide (D2 < D1) = false := decide_eq_false hn1
            clear hlaw he HLAW
            go_upto_region 21 with (fail)
            have x0 := fun z : Ext wz.heap.size wz => z.cell (b := bo) (by omega) g1
            have x1 := fun z : Ext wz.heap.size wz => z.cell (b := bo) (by omega) g2
            refine region_ext wz.heap.size (by kernel_rfl) (by kernel_rfl) ?_
            repeat (go_big_quiet_step (fail))
            refine wpQuiet_nil ?_
            rintro _ ⟨z, rfl⟩
            obtain ⟨wy, hy⟩ := z
            dsimp only
            have hwy := below_up hwz hy
            clear x0 x1 g1 g2 hy
            go_wp2_with fail
            go_roundw
            case rel => exact ⟨k + 1, by omega, by omega, by go_num, hwy⟩
            case measure => simp [intOf]; omega
        · obtain ⟨p2, b2, q2, l2, r2, c0, c1⟩ := first_vertex HQg.out HSg.out HV.out hwk2 hBq hxm
          have f2 := (hwk2.cell (p := ⟨_, _, none⟩) hBo).trans (HRg.out.at1 hli)
          rw [HX.out] at f2
          rw [HPX.out] at c0 c1
          have z0 := kB3.free 0
          have z1 := kB3.free 1
          have c2 := kB3.cell 0
          have c3 := kB3.cell 1
          simp at c2 c3
          go_wp2_with fail
          have kB4 := put2 kB3 (.int .i64 P.x) (.int .i64 P.y)
          have hw4 := below_put2 hwk2 (Nat.le_refl _) (.int .i64 P.x) (.int .i64 P.y)
          generalize hW : World.setCell _ _ _ = W4 at kB4 hw4 ⊢
          clear hW c0 c1 c2 c3 z0 z1 f2 r2
          go_roundw
          case rel => exact ⟨i + 1, by omega, by go_num, by rw [HK1.out]; exact kB4, hw4⟩
          case measure => simp [intOf]; omega
    · go_wp2_with fail
      refine (alive_any _).mono ?_
      rintro e wz ⟨rfl, hbz⟩
      go_wp2_with fail
      go_ret
      exact ⟨rfl, below_up (bbw.trans (hwr.mono hgw)) hbz⟩

end Go.Proofs.Ytpjckolfjaffjaa
