/- splice.extents, splice.back; the reference's common, zones, back. -/
import Derived.Test.YtcalchlfipbpkaaSplLaw
import Derived.Test.YtcalchlfipbpkaaPolyH
import Derived.Lib.MinMax
namespace Go.Proofs.Ytcalchlfipbpkaa
open Go.RowKit
set_option linter.unusedSimpArgs false
set_option linter.unusedVariables false

def Zone.c (z : Zone) : Nat → Value
  | 0 => .int .i64 z.lo
  | _ => .int .i64 z.hi

theorem plain_zone (z : Nat → Zone) (n : Nat) : Plain 2 n (fun i => (z i).c) := by
  intro i j hi hj
  simp only []
  unfold Zone.c
  split <;> rfl

theorem zone_info : (Try.prog.info? 30).map (fun i => (i.zero, i.size, i.bytes)) = some (some (.agg #[.int .i64 0, .int .i64 0]), 2, 16) := by kernel_rfl

def zoneAt (poly : Nat → Poly) : Nat → Zone := fun i => zoneOf (poly i)

/-- What extents leaves. -/
def ExtPost (w : World) (len : Int) (m : Nat) (poly : Nat → Poly) (e : Ending) (w' : World) : Prop :=
  Below w.heap.size w w' ∧
  ((extErr len m poly = 0 ∧ ∃ v, e = .returned (.tuple #[v, .int .i64 0]) ∧ Owned w' w.heap.size 30 2 v m (fun i => (zoneAt poly i).c)) ∨
   (extErr len m poly ≠ 0 ∧ e = .returned (.tuple #[.slice none 0 0, .int .i64 (extErr len m poly)])))

theorem ext_at {len : Int} {m k : Nat} {poly : Nat → Poly} {x : Int} (h1 : ¬ (len < 1 ∨ 1048576 < len)) (h2 : ¬ 60 < m) (hk : k < m) (h : ∀ i, i < k → polyErr len (poly i) = 0) (hx : polyErr len (poly k) = x) (h0 : x ≠ 0) : extErr len m poly = x := by
  unfold extErr
  rw [if_neg h1, if_neg h2, firstErr_at (q := fun i => polyErr len (poly i)) hk h (by rw [hx]; exact h0), hx]

theorem ext_fail {w w' : World} {len : Int} {m : Nat} {poly : Nat → Poly} {x : Int} (he : extErr len m poly = x) (h0 : x ≠ 0) (hb : Below w.heap.size w w') :
    ExtPost w len m poly (.returned (.tuple #[.slice none 0 0, .int .i64 x])) w' :=
  ⟨hb, .inr ⟨by rw [he]; exact h0, by rw [he]⟩⟩

/-- The bounds of a valid polygon. -/
theorem zone_bd {p : Poly} (h : checkF p.pn p.spot = 0) : -1048576 ≤ minTo (spotX p.spot) p.pn ∧ minTo (spotX p.spot) p.pn ≤ 1048576 ∧ -1048576 ≤ maxTo (spotX p.spot) p.pn ∧ maxTo (spotX p.spot) p.pn ≤ 1048576 := by
  obtain ⟨h3, _, hok⟩ := check_n h
  have h1 := minTo_bd (f := spotX p.spot) (a := -1048576) (b := 1048576) (n := p.pn) (by omega) (fun i hi => ⟨(hok i hi).1, (hok i hi).2.1⟩) p.pn (Nat.le_refl _)
  have h2 := maxTo_bd (f := spotX p.spot) (a := -1048576) (b := 1048576) (n := p.pn) (by omega) (fun i hi => ⟨(hok i hi).1, (hok i hi).2.1⟩) p.pn (Nat.le_refl _)
  exact ⟨h1.1, h1.2, h2.1, h2.2⟩

set_option maxHeartbeats 3200000 in
theorem extents_any (len : Int) (A : Option Addr) (m c : Nat) (poly : Nat → Poly) (w : World) (hq : Polys w w.heap.size A m poly) :
    Calls Try.prog 18 #[.int .i64 len, .slice A m c] w (ExtPost w len m poly) := by
  have HQ := Lib.hid hq
  clear hq
  by_cases hl : len < 1 ∨ 1048576 < len
  · have HE := Lib.hid (show extErr len m poly = 3 by unfold extErr; rw [if_pos hl])
    rcases Int.lt_or_le len 1 with h1 | h1
    · clear hl
      go_enter Try.func18, Try.ntmps18
      go_wp2_with fail
      go_ret2
      exact ext_fail HE.out (by decide) (Below.refl _ _)
    · have h2 : 1048576 < len := by omega
      clear hl
      go_enter Try.func18, Try.ntmps18
      go_wp2_with fail
      go_ret2
      exact ext_fail HE.out (by decide) (Below.refl _ _)
  have HL := Lib.hid hl
  have hl1 : ¬ len < 1 := by omega
  have hl2 : ¬ 1048576 < len := by omega
  by_cases hm : 60 < m
  · have HE := Lib.hid (show extErr len m poly = 5 by unfold extErr; rw [if_neg hl, if_pos hm])
    have hm' : (60 : Int) < m := by omega
    clear hl
    go_enter Try.func18, Try.ntmps18
    go_wp2_with fail
    go_ret2
    exact ext_fail HE.out (by decide) (Below.refl _ _)
  have hm' : ¬ (60 : Int) < m := by omega
  clear hl
  obtain ⟨i0, hi0, hz0, hz1, hz2⟩ := info_parts zone_info
  have HI0 := Lib.hid hi0
  have HZ := Lib.hid (And.intro hz0 (And.intro hz1 hz2))
  clear hi0 hz0 hz1 hz2
  go_enter Try.func18, Try.ntmps18
  go_wp2_with fail
  go_loopw [6, 22] (fun v t wr => ∃ k : Nat, k ≤ m ∧ t = .int .i64 k ∧ Hid (∀ i, i < k → polyErr len (poly i) = 0) ∧ Owned wr w.heap.size 30 2 v k (fun i => (zoneAt poly i).c) ∧ Below w.heap.size w wr) (fun _ t _ => m - (intOf t).toNat)
  case atStart => exact ⟨0, Nat.zero_le _, rfl, Lib.hid (fun i hi => absurd hi (by omega)), Owned.nil _ _ _ _ _, Below.refl _ _⟩
  case round =>
    obtain ⟨k, hk, rfl, hno, kN, hwr⟩ := hrel
    have hs1 : w.heap.size ≤ wr.heap.size := hwr.size
    by_cases hlt : k < m
    · obtain ⟨hsp, hpc, hpn⟩ := HQ.out.2 k hlt
      obtain ⟨bp, op, rfl, hBp⟩ := HQ.out.1.addr (by omega)
      have f0 := (hwr.cell (p := ⟨_, _, none⟩) hBp).trans (HQ.out.1.at1 hlt)
      have HSP := Lib.hid (hsp.later hwr)
      clear hsp
      have hlt' : (k : Int) < m := by omega
      have hk0 : (0 : Int) ≤ k := by omega
      go_wp2_with fail
      by_cases hck : checkF (poly k).pn (poly k).spot = 0
      rotate_left
      · have HF := Lib.hid (fun W' (hb : Below w.heap.size w W') => ext_fail (w := w) (w' := W') (ext_at (poly := poly) HL.out hm hlt hno.out (show polyErr len (poly k) = checkF (poly k).pn (poly k).spot by unfold polyErr; rw [if_pos hck]) hck) hck hb)
        refine (box_err _ _ _ _ _ hpn hpc HSP.out _ rfl hck).mono ?_
        rintro r w2 ⟨rfl, hb2⟩
        have hne : (checkF (poly k).pn (poly k).spot != 0) = true := bne_iff_ne.2 hck
        have qb2 := below_up hwr hb2
        clear hck
        simp only [zeroV]
        go_wp2_with fail
        go_ret2
        exact HF.out _ (qb2.alloc qb2.size _)
      · obtain ⟨z1, z2, z3, z4⟩ := zone_bd hck
        refine (box_ok _ _ _ _ _ hpn hpc HSP.out hck).mono ?_
        rintro r w2 ⟨rfl, hb2⟩
        have rN := kN.later hb2
        have rb := below_up hwr hb2
        have HPE := Lib.hid (show polyErr len (poly k) = if minTo (spotX (poly k).spot) (poly k).pn < 0 ∨ len < minTo (spotX (poly k).spot) (poly k).pn + (maxTo (spotX (poly k).spot) (poly k).pn - minTo (spotX (poly k).spot) (poly k).pn) then 13 else 0 by unfold polyErr; rw [if_neg (by rw [hck]; decide)]; rfl)
        have HZO := Lib.hid (show zoneAt poly k = ⟨minTo (spotX (poly k).spot) (poly k).pn, minTo (spotX (poly k).spot) (poly k).pn + (maxTo (spotX (poly k).spot) (poly k).pn - minTo (spotX (poly k).spot) (poly k).pn)⟩ from rfl)
        clear hck f0 kN hb2 HSP
        simp only [boxV]
        generalize minTo (spotX (poly k).spot) (poly k).pn = a at *
        generalize maxTo (spotX (poly k).spot) (poly k).pn = b at *
        generalize minTo (spotY (poly k).spot) (poly k).pn = a' at *
        generalize maxTo (spotY (poly k).spot) (poly k).pn = b' at *
        go_upto_region 12 with (fail)
        have sB := Blk.new w2 36 #[.int .i64 a, .int .i64 a', .int .i64 (b - a), .int .i64 (b' - a')]
        have sN := rN.alloc (.cells #[.int .i64 a, .int .i64 a', .int .i64 (b - a), .int .i64 (b' - a')] 36)
        have sb := rb.alloc rb.size (.cells #[.int .i64 a, .int .i64 a', .int .i64 (b - a), .int .i64 (b' - a')] 36)
        generalize hW : w2.alloc _ = W at sB sN sb ⊢
        clear hW rN rb
        have g0 := sB.cell 0
        have g2 := sB.cell 2
        simp at g0 g2
        by_cases hneg : a < 0
        · have HF := Lib.hid (fun W' (hb : Below w.heap.size w W') => ext_fail (w := w) (w' := W') (ext_at (poly := poly) HL.out hm hlt hno.out (HPE.out.trans (if_pos (.inl hneg))) (by decide)) (by decide) hb)
          go_wp2_with fail
          go_ret2
          exact HF.out _ sb
        by_cases hgt : len < a + (b - a)
        · have HF := Lib.hid (fun W' (hb : Below w.heap.size w W') => ext_fail (w := w) (w' := W') (ext_at (poly := poly) HL.out hm hlt hno.out (HPE.out.trans (if_pos (.inr hgt))) (by decide)) (by decide) hb)
          go_wp2_with fail
          go_ret2
          exact HF.out _ sb
        have HOK := Lib.hid (HPE.out.trans (if_neg (by omega)))
        have hz3 : w.heap.size ≤ W.heap.size := sb.size
        go_wp2_with (at_builtin; refine wpList_append_row _ rfl _ _ _ rfl w.heap.size 30 i0 _ 2 16 Try.underlying41 HI0.out HZ.out.1 HZ.out.2.1 HZ.out.2.2 rfl (by omega) _ k _ rfl (sN.alloc _) _ _ 1 1 (fun _ => Zone.c ⟨a, a + (b - a)⟩) rfl (Row.lit W #[.int .i64 a, .int .i64 (a + (b - a))] 1 30 2 _ (by simp only [maxLen]; omega) rfl) (fun i j _ hj => by simp only []; unfold Zone.c; split <;> rfl) (by simp only [maxLen]; omega) (by omega) (by simp; omega) ?_; intro v' w4 hown hgr hbk)
        have ub := (sN.alloc (.cells #[.int .i64 a, .int .i64 (a + (b - a))] 30)).below_grown (sb.alloc hz3 _) (Nat.le_refl _) (by simp; omega) hgr
        go_roundw
        case rel =>
          refine ⟨k + 1, by omega, by go_num, Lib.hid (fun i hi => ?_), hown.congr (fun i j hi hj => ?_), ub⟩
          · rcases Nat.lt_succ_iff_lt_or_eq.1 hi with h' | rfl
            · exact hno.out i h'
            · exact HOK.out
          · unfold glue
            by_cases hik : i < k
            · rw [if_pos hik]
            · obtain rfl : i = k := by omega
              rw [if_neg hik, HZO.out]
        case measure => simp [intOf]; omega
    · obtain rfl : k = m := by omega
      have HF := Lib.hid (show extErr len k poly = 0 by unfold extErr; rw [if_neg HL.out, if_neg hm]; exact firstErr_none hno.out)
      go_wp2_with fail
      go_ret2
      exact ⟨hwr, .inl ⟨HF.out, _, rfl, kN⟩⟩

set_option maxHeartbeats 800000 in
theorem back_any (A : Option Addr) (m c : Nat) (z : Nat → Zone) (h : Int) (w : World) (hm : m ≤ 1000) (hq : Row w w.heap.size 2 A m (fun i => (z i).c)) :
    Calls Try.prog 19 #[.slice A m c, .int .i64 h] w fun e w' => e = .returned (.int .i64 (backF z h m)) ∧ Below w.heap.size w w' := by
  have HQ := Lib.hid hq
  clear hq
  go_enter Try.func19, Try.ntmps19
  go_wp2_with fail
  go_loopw [5, 11] (fun v t wr => ∃ k : Nat, k ≤ m ∧ t = .int .i64 k ∧ v = .int .i64 (backF z h k) ∧ Below w.heap.size w wr) (fun _ t _ => m - (intOf t).toNat)
  case atStart => exact ⟨0, Nat.zero_le _, rfl, rfl, Below.refl _ _⟩
  case round =>
    obtain ⟨k, hk, rfl, rfl, hwr⟩ := hrel
    have hs1 : w.heap.size ≤ wr.heap.size := hwr.size
    by_cases hlt : k < m
    · obtain ⟨bp, op, rfl, hBp⟩ := HQ.out.addr (by omega)
      obtain ⟨e0, e1⟩ := HQ.out.at2 hlt
      simp only [Zone.c] at e0 e1
      have f0 := (hwr.cell (p := ⟨_, _, none⟩) hBp).trans e0
      have f1 := (hwr.cell (p := ⟨_, _, none⟩) hBp).trans e1
      clear e0 e1
      have hlt' : (k : Int) < m := by omega
      have hk0 : (0 : Int) ≤ k := by omega
      have HB := Lib.hid (show backF z h (k + 1) = if h < (z k).hi then min (backF z h k) (z k).lo else backF z h k from rfl)
      generalize backF z h k = x at *
      go_upto_region 5 with (fail)
      have qN := Blk.new wr 30 #[.int .i64 (z k).lo, .int .i64 (z k).hi]
      have qb := hwr.alloc hs1 (.cells #[.int .i64 (z k).lo, .int .i64 (z k).hi] 30)
      generalize hW : wr.alloc _ = W at qN qb ⊢
      clear hW f0 f1
      have c0 := qN.cell 0
      have c1 := qN.cell 1
      simp at c0 c1
      by_cases hc : h < (z k).hi
      · go_wp2_with fail
        go_roundw
        case rel => exact ⟨k + 1, by omega, by go_num, by rw [HB.out, if_pos hc], qb⟩
        case measure => simp [intOf]; omega
      · go_wp2_with fail
        go_roundw
        case rel => exact ⟨k + 1, by omega, by go_num, by rw [HB.out, if_neg hc], qb⟩
        case measure => simp [intOf]; omega
    · obtain rfl : k = m := by omega
      go_wp2_with fail
      go_ret
      exact ⟨rfl, hwr⟩

set_option maxHeartbeats 800000 in
theorem rback_any (A : Option Addr) (m c : Nat) (z : Nat → Zone) (h : Int) (w : World) (hm : m ≤ 1000) (hq : Row w w.heap.size 2 A m (fun i => (z i).c)) :
    Calls Try.prog 21 #[.slice A m c, .int .i64 h] w fun e w' => e = .returned (.int .i64 (backF z h m)) ∧ Below w.heap.size w w' := by
  have HQ := Lib.hid hq
  clear hq
  go_enter Try.func21, Try.ntmps21
  go_wp2_with fail
  go_loopw [5, 6] (fun v t wr => ∃ k : Nat, k ≤ m ∧ t = .int .i64 k ∧ v = .int .i64 (backF z h k) ∧ Below w.heap.size w wr) (fun _ t _ => m - (intOf t).toNat)
  case atStart => exact ⟨0, Nat.zero_le _, rfl, rfl, Below.refl _ _⟩
  case round =>
    obtain ⟨k, hk, rfl, rfl, hwr⟩ := hrel
    by_cases hlt : k < m
    · obtain ⟨bp, op, rfl, hBp⟩ := HQ.out.addr (by omega)
      obtain ⟨e0, e1⟩ := HQ.out.at2 hlt
      simp only [Zone.c] at e0 e1
      have f0 := (hwr.cell (p := ⟨_, _, none⟩) hBp).trans e0
      have f1 := (hwr.cell (p := ⟨_, _, none⟩) hBp).trans e1
      clear e0 e1
      have hlt' : (k : Int) < m := by omega
      have hk0 : (0 : Int) ≤ k := by omega
      have HB := Lib.hid (show backF z h (k + 1) = if h < (z k).hi then min (backF z h k) (z k).lo else backF z h k from rfl)
      generalize backF z h k = x at *
      by_cases hc : h < (z k).hi
      · go_wp2_with fail
        go_roundw
        case rel => exact ⟨k + 1, by omega, by go_num, by rw [HB.out, if_pos hc], hwr⟩
        case measure => simp [intOf]; omega
      · go_wp2_with fail
        go_roundw
        case rel => exact ⟨k + 1, by omega, by go_num, by rw [HB.out, if_neg hc], hwr⟩
        case measure => simp [intOf]; omega
    · obtain rfl : k = m := by omega
      go_wp2_with fail
      go_ret
      exact ⟨rfl, hwr⟩

end Go.Proofs.Ytcalchlfipbpkaa
