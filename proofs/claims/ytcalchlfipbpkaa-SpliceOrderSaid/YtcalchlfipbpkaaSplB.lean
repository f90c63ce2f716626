/- The reference's common, zones; Back of both; Few. -/
import Derived.Test.YtcalchlfipbpkaaSplA
namespace Go.Proofs.Ytcalchlfipbpkaa
open Go.RowKit
set_option linter.unusedSimpArgs false
set_option linter.unusedVariables false

set_option maxHeartbeats 3200000 in
theorem common_any (len : Int) (A : Option Addr) (m c : Nat) (poly : Nat → Poly) (w : World) (hq : Polys w w.heap.size A m poly) :
    Calls Try.prog 20 #[.int .i64 len, .slice A m c] w fun e w' => e = .returned (.int .i64 (extErr len m poly)) ∧ Below w.heap.size w w' := by
  have HQ := Lib.hid hq
  clear hq
  by_cases hl : len < 1 ∨ 1048576 < len
  · have HE := Lib.hid (show extErr len m poly = 3 by unfold extErr; rw [if_pos hl])
    rcases Int.lt_or_le len 1 with h1 | h1
    · clear hl
      go_enter Try.func20, Try.ntmps20
      go_wp2_with fail
      go_ret
      exact ⟨ret_int HE.out.symm, Below.refl _ _⟩
    · have h2 : 1048576 < len := by omega
      clear hl
      go_enter Try.func20, Try.ntmps20
      go_wp2_with fail
      go_ret
      exact ⟨ret_int HE.out.symm, Below.refl _ _⟩
  have HL := Lib.hid hl
  have hl1 : ¬ len < 1 := by omega
  have hl2 : ¬ 1048576 < len := by omega
  by_cases hm : 60 < m
  · have HE := Lib.hid (show extErr len m poly = 5 by unfold extErr; rw [if_neg hl, if_pos hm])
    have hm' : (60 : Int) < m := by omega
    clear hl
    go_enter Try.func20, Try.ntmps20
    go_wp2_with fail
    go_ret
    exact ⟨ret_int HE.out.symm, Below.refl _ _⟩
  have hm' : ¬ (60 : Int) < m := by omega
  clear hl
  go_enter Try.func20, Try.ntmps20
  go_wp2_with fail
  go_loopw [5] (fun t wr => ∃ k : Nat, k ≤ m ∧ t = .int .i64 k ∧ Hid (∀ i, i < k → polyErr len (poly i) = 0) ∧ Below w.heap.size w wr) (fun t _ => m - (intOf t).toNat)
  case atStart => exact ⟨0, Nat.zero_le _, rfl, Lib.hid (fun i hi => absurd hi (by omega)), Below.refl _ _⟩
  case round =>
    obtain ⟨k, hk, rfl, hno, hwr⟩ := hrel
    have hs1 : w.heap.size ≤ wr.heap.size := hwr.size
    by_cases hlt : k < m
    · obtain ⟨hsp, hpc, hpn⟩ := HQ.out.2 k hlt
      obtain ⟨bp, op, rfl, hBp⟩ := HQ.out.1.addr (by omega)
      have f0 := (hwr.cell (p := ⟨_, _, none⟩) hBp).trans (HQ.out.1.at1 hlt)
      have HSP := Lib.hid (hsp.later hwr)
      clear hsp
      have hlt' : (k : Int) < m := by omega
      have hk0 : (0 : Int) ≤ k := by omega
      go_wp2_with fail
      by_cases hck : checkF (poly k).pn (poly k).spot = 0
      rotate_left
      · have HF := Lib.hid (ext_at (poly := poly) HL.out hm hlt hno.out (show polyErr len (poly k) = checkF (poly k).pn (poly k).spot by unfold polyErr; rw [if_pos hck]) hck)
        refine (rbox_err _ _ _ _ _ hpn hpc HSP.out _ rfl hck).mono ?_
        rintro r w2 ⟨rfl, hb2⟩
        have hne : (checkF (poly k).pn (poly k).spot != 0) = true := bne_iff_ne.2 hck
        have qb2 := below_up hwr hb2
        clear hck
        simp only [zeroV]
        go_wp2_with fail
        go_ret
        exact ⟨ret_int HF.out.symm, qb2.alloc qb2.size _⟩
      · obtain ⟨z1, z2, z3, z4⟩ := zone_bd hck
        refine (rbox_ok _ _ _ _ _ hpn hpc HSP.out hck).mono ?_
        rintro r w2 ⟨rfl, hb2⟩
        have rb := below_up hwr hb2
        have HPE := Lib.hid (show polyErr len (poly k) = if minTo (spotX (poly k).spot) (poly k).pn < 0 ∨ len < minTo (spotX (poly k).spot) (poly k).pn + (maxTo (spotX (poly k).spot) (poly k).pn - minTo (spotX (poly k).spot) (poly k).pn) then 13 else 0 by unfold polyErr; rw [if_neg (by rw [hck]; decide)]; rfl)
        clear hck f0 hb2 HSP
        simp only [boxV]
        generalize minTo (spotX (poly k).spot) (poly k).pn = a at *
        generalize maxTo (spotX (poly k).spot) (poly k).pn = b at *
        generalize minTo (spotY (poly k).spot) (poly k).pn = a' at *
        generalize maxTo (spotY (poly k).spot) (poly k).pn = b' at *
        go_upto_region 11 with (fail)
        have sB := Blk.new w2 36 #[.int .i64 a, .int .i64 a', .int .i64 (b - a), .int .i64 (b' - a')]
        have sb := rb.alloc rb.size (.cells #[.int .i64 a, .int .i64 a', .int .i64 (b - a), .int .i64 (b' - a')] 36)
        generalize hW : w2.alloc _ = W at sB sb ⊢
        clear hW rb
        have g0 := sB.cell 0
        have g2 := sB.cell 2
        simp at g0 g2
        by_cases hneg : a < 0
        · have HF := Lib.hid (ext_at (poly := poly) HL.out hm hlt hno.out (HPE.out.trans (if_pos (.inl hneg))) (by decide))
          go_wp2_with fail
          go_ret
          exact ⟨ret_int HF.out.symm, sb⟩
        by_cases hgt : len < a + (b - a)
        · have HF := Lib.hid (ext_at (poly := poly) HL.out hm hlt hno.out (HPE.out.trans (if_pos (.inr hgt))) (by decide))
          go_wp2_with fail
          go_ret
          exact ⟨ret_int HF.out.symm, sb⟩
        have HOK := Lib.hid (HPE.out.trans (if_neg (by omega)))
        go_wp2_with fail
        go_roundw
        case rel =>
          refine ⟨k + 1, by omega, by go_num, Lib.hid (fun i hi => ?_), sb⟩
          rcases Nat.lt_succ_iff_lt_or_eq.1 hi with h' | rfl
          · exact hno.out i h'
          · exact HOK.out
        case measure => simp [intOf]; omega
    · obtain rfl : k = m := by omega
      have HF := Lib.hid (show extErr len k poly = 0 by unfold extErr; rw [if_neg HL.out, if_neg hm]; exact firstErr_none hno.out)
      go_wp2_with fail
      go_ret
      exact ⟨ret_int HF.out.symm, hwr⟩

theorem ext_valid {len : Int} {m : Nat} {poly : Nat → Poly} (h : extErr len m poly = 0) : 1 ≤ len ∧ len ≤ 1048576 ∧ m ≤ 60 ∧ ∀ i, i < m → checkF (poly i).pn (poly i).spot = 0 ∧ 0 ≤ (zoneAt poly i).lo ∧ (zoneAt poly i).hi ≤ len := by
  unfold extErr at h
  by_cases h1 : len < 1 ∨ 1048576 < len
  · rw [if_pos h1] at h; exact absurd h (by decide)
  · rw [if_neg h1] at h
    by_cases h2 : 60 < m
    · rw [if_pos h2] at h; exact absurd h (by decide)
    · rw [if_neg h2] at h
      refine ⟨by omega, by omega, by omega, fun i hi => ?_⟩
      have := firstErr_zero h i hi
      unfold polyErr at this
      by_cases h3 : checkF (poly i).pn (poly i).spot = 0
      · rw [if_neg (fun hh => hh h3)] at this
        by_cases h4 : (zoneOf (poly i)).lo < 0 ∨ len < (zoneOf (poly i)).hi
        · rw [if_pos h4] at this; exact absurd this (by decide)
        · exact ⟨h3, by show 0 ≤ (zoneOf (poly i)).lo; omega, by show (zoneOf (poly i)).hi ≤ len; omega⟩
      · rw [if_pos h3] at this; exact absurd this h3

set_option maxHeartbeats 3200000 in
theorem zones_any (A : Option Addr) (m c : Nat) (poly : Nat → Poly) (w : World) (hm : m ≤ 60) (hq : Polys w w.heap.size A m poly) (hv : ∀ i, i < m → checkF (poly i).pn (poly i).spot = 0) :
    Calls Try.prog 22 #[.slice A m c] w fun e w' => ∃ v, e = .returned v ∧ Owned w' w.heap.size 30 2 v m (fun i => (zoneAt poly i).c) ∧ Below w.heap.size w w' := by
  have HQ := Lib.hid hq
  have HV := Lib.hid hv
  clear hq hv
  obtain ⟨i0, hi0, hz0, hz1, hz2⟩ := info_parts zone_info
  have HI0 := Lib.hid hi0
  have HZ := Lib.hid (And.intro hz0 (And.intro hz1 hz2))
  clear hi0 hz0 hz1 hz2
  go_enter Try.func22, Try.ntmps22
  go_wp2_with fail
  go_loopw [3, 4] (fun v t wr => ∃ k : Nat, k ≤ m ∧ t = .int .i64 k ∧ Owned wr w.heap.size 30 2 v k (fun i => (zoneAt poly i).c) ∧ Below w.heap.size w wr) (fun _ t _ => m - (intOf t).toNat)
  case atStart => exact ⟨0, Nat.zero_le _, rfl, Owned.nil _ _ _ _ _, Below.refl _ _⟩
  case round =>
    obtain ⟨k, hk, rfl, kN, hwr⟩ := hrel
    have hs1 : w.heap.size ≤ wr.heap.size := hwr.size
    by_cases hlt : k < m
    · obtain ⟨hsp, hpc, hpn⟩ := HQ.out.2 k hlt
      obtain ⟨bp, op, rfl, hBp⟩ := HQ.out.1.addr (by omega)
      have f0 := (hwr.cell (p := ⟨_, _, none⟩) hBp).trans (HQ.out.1.at1 hlt)
      have HSP := Lib.hid (hsp.later hwr)
      clear hsp
      have hlt' : (k : Int) < m := by omega
      have hk0 : (0 : Int) ≤ k := by omega
      go_wp2_with fail
      obtain ⟨z1, z2, z3, z4⟩ := zone_bd (HV.out k hlt)
      refine (rbox_ok _ _ _ _ _ hpn hpc HSP.out (HV.out k hlt)).mono ?_
      rintro r w2 ⟨rfl, hb2⟩
      have rN := kN.later hb2
      have rb := below_up hwr hb2
      have HZO := Lib.hid (show zoneAt poly k = ⟨minTo (spotX (poly k).spot) (poly k).pn, minTo (spotX (poly k).spot) (poly k).pn + (maxTo (spotX (poly k).spot) (poly k).pn - minTo (spotX (poly k).spot) (poly k).pn)⟩ from rfl)
      clear f0 kN hb2 HSP
      simp only [boxV]
      generalize minTo (spotX (poly k).spot) (poly k).pn = a at *
      generalize maxTo (spotX (poly k).spot) (poly k).pn = b at *
      generalize minTo (spotY (poly k).spot) (poly k).pn = a' at *
      generalize maxTo (spotY (poly k).spot) (poly k).pn = b' at *
      go_upto_region 6 with (fail)
      have sB := Blk.new w2 36 #[.int .i64 a, .int .i64 a', .int .i64 (b - a), .int .i64 (b' - a')]
      have sN := rN.alloc (.cells #[.int .i64 a, .int .i64 a', .int .i64 (b - a), .int .i64 (b' - a')] 36)
      have sb := rb.alloc rb.size (.cells #[.int .i64 a, .int .i64 a', .int .i64 (b - a), .int .i64 (b' - a')] 36)
      generalize hW : w2.alloc _ = W at sB sN sb ⊢
      clear hW rN rb
      have g0 := sB.cell 0
      have g2 := sB.cell 2
      simp at g0 g2
      have hz3 : w.heap.size ≤ W.heap.size := sb.size
      go_wp2_with (at_builtin; refine wpList_append_row _ rfl _ _ _ rfl w.heap.size 30 i0 _ 2 16 Try.underlying41 HI0.out HZ.out.1 HZ.out.2.1 HZ.out.2.2 rfl (by omega) _ k _ rfl (sN.alloc _) _ _ 1 1 (fun _ => Zone.c ⟨a, a + (b - a)⟩) rfl (Row.lit W #[.int .i64 a, .int .i64 (a + (b - a))] 1 30 2 _ (by simp only [maxLen]; omega) rfl) (fun i j _ hj => by simp only []; unfold Zone.c; split <;> rfl) (by simp only [maxLen]; omega) (by omega) (by simp; omega) ?_; intro v' w4 hown hgr hbk)
      have ub := (sN.alloc (.cells #[.int .i64 a, .int .i64 (a + (b - a))] 30)).below_grown (sb.alloc hz3 _) (Nat.le_refl _) (by simp; omega) hgr
      go_roundw
      case rel =>
        refine ⟨k + 1, by omega, by go_num, hown.congr (fun i j hi hj => ?_), ub⟩
        unfold glue
        by_cases hik : i < k
        · rw [if_pos hik]
        · obtain rfl : i = k := by omega
          rw [if_neg hik, HZO.out]
      case measure => simp [intOf]; omega
    · obtain rfl : k = m := by omega
      go_wp2_with fail
      go_ret
      exact ⟨_, rfl, kN, hwr⟩

/-- What both Backs return. -/
def backV (len : Int) (m : Nat) (poly : Nat → Poly) (h : Int) : Int := if backErr len m poly h = 0 then backF (zoneAt poly) h m else 0

def BackPost (w : World) (len : Int) (m : Nat) (poly : Nat → Poly) (h : Int) (e : Ending) (w' : World) : Prop :=
  e = .returned (.tuple #[.int .i64 (backV len m poly h), .int .i64 (backErr len m poly h)]) ∧ Below w.heap.size w w'

theorem back_fail {w w' : World} {len : Int} {m : Nat} {poly : Nat → Poly} {h x : Int} (he : backErr len m poly h = x) (h0 : x ≠ 0) (hb : Below w.heap.size w w') :
    BackPost w len m poly h (.returned (.tuple #[.int .i64 0, .int .i64 x])) w' :=
  ⟨by unfold backV; rw [he, if_neg h0], hb⟩

theorem back_good {w w' : World} {len : Int} {m : Nat} {poly : Nat → Poly} {h : Int} (he : backErr len m poly h = 0) (hb : Below w.heap.size w w') :
    BackPost w len m poly h (.returned (.tuple #[.int .i64 (backF (zoneAt poly) h m), .int .i64 0])) w' :=
  ⟨by unfold backV; rw [he, if_pos rfl], hb⟩

set_option maxHeartbeats 800000 in
theorem Back_any (len : Int) (A : Option Addr) (m c : Nat) (poly : Nat → Poly) (h : Int) (w : World) (hq : Polys w w.heap.size A m poly) :
    Calls Try.prog 11 #[.int .i64 len, .slice A m c, .int .i64 h] w (BackPost w len m poly h) := by
  go_enter Try.func11, Try.ntmps11
  go_wp2_with fail
  refine (extents_any len A m c poly _ hq).mono ?_
  rintro e w1 ⟨hb1, ⟨hE, v, rfl, hN⟩ | ⟨hE, rfl⟩⟩
  rotate_left
  · have hne : (extErr len m poly != 0) = true := bne_iff_ne.2 hE
    have HE := Lib.hid hE
    have HB := Lib.hid (show backErr len m poly h = extErr len m poly by unfold backErr; rw [if_pos hE])
    clear hE
    go_wp2_with fail
    go_ret2
    exact back_fail HB.out HE.out hb1
  have hBE : backErr len m poly h = if h < 0 ∨ len < h then 3 else 0 := by unfold backErr; rw [if_neg (fun hh => hh hE)]
  have HBE := Lib.hid hBE
  have hm60 := (ext_valid hE).2.2.1
  clear hE hBE
  obtain ⟨AN, cN, rfl, _, _, rN⟩ := hN.form
  have HN := Lib.hid rN
  clear rN hN
  by_cases hneg : h < 0
  · have HF := Lib.hid (HBE.out.trans (if_pos (.inl hneg)))
    go_wp2_with fail
    go_ret2
    exact back_fail HF.out (by decide) hb1
  by_cases hgt : len < h
  · have HF := Lib.hid (HBE.out.trans (if_pos (.inr hgt)))
    go_wp2_with fail
    go_ret2
    exact back_fail HF.out (by decide) hb1
  have HF := Lib.hid (HBE.out.trans (if_neg (by omega)))
  go_wp2_with fail
  refine (back_any _ m _ (zoneAt poly) h _ (by omega) HN.out).mono ?_
  rintro e w2 ⟨rfl, hb2⟩
  go_wp2_with fail
  go_ret2
  exact back_good HF.out (below_up hb1 hb2)

set_option maxHeartbeats 800000 in
theorem rBack_any (len : Int) (A : Option Addr) (m c : Nat) (poly : Nat → Poly) (h : Int) (w : World) (hq : Polys w w.heap.size A m poly) :
    Calls Try.prog 12 #[.int .i64 len, .slice A m c, .int .i64 h] w (BackPost w len m poly h) := by
  have HQ := Lib.hid hq
  clear hq
  go_enter Try.func12, Try.ntmps12
  go_wp2_with fail
  refine (common_any len A m c poly _ HQ.out).mono ?_
  rintro e w1 ⟨rfl, hb1⟩
  by_cases hE : extErr len m poly = 0
  rotate_left
  · have hne : (extErr len m poly != 0) = true := bne_iff_ne.2 hE
    have HE := Lib.hid hE
    have HB := Lib.hid (show backErr len m poly h = extErr len m poly by unfold backErr; rw [if_pos hE])
    clear hE
    go_wp2_with fail
    go_ret2
    exact back_fail HB.out HE.out hb1
  have hBE : backErr len m poly h = if h < 0 ∨ len < h then 3 else 0 := by unfold backErr; rw [if_neg (fun hh => hh hE)]
  have HBE := Lib.hid hBE
  have HV := Lib.hid (ext_valid hE).2.2.2
  have hm60 := (ext_valid hE).2.2.1
  rw [hE]
  clear hE hBE
  by_cases hneg : h < 0
  · have HF := Lib.hid (HBE.out.trans (if_pos (.inl hneg)))
    go_wp2_with fail
    go_ret2
    exact back_fail HF.out (by decide) hb1
  by_cases hgt : len < h
  · have HF := Lib.hid (HBE.out.trans (if_pos (.inr hgt)))
    go_wp2_with fail
    go_ret2
    exact back_fail HF.out (by decide) hb1
  have HF := Lib.hid (HBE.out.trans (if_neg (by omega)))
  have HQ1 := Lib.hid (HQ.out.later hb1)
  go_wp2_with fail
  refine (zones_any A m c poly _ hm60 HQ1.out (fun i hi => (HV.out i hi).1)).mono ?_
  rintro e w2 ⟨v, rfl, hN, hb2⟩
  obtain ⟨AN, cN, rfl, _, _, rN⟩ := hN.form
  have HN := Lib.hid rN
  clear rN hN
  have hb12 := below_up hb1 hb2
  go_wp2_with fail
  refine (rback_any _ m _ (zoneAt poly) h _ (by omega) HN.out).mono ?_
  rintro e w3 ⟨rfl, hb3⟩
  go_wp2_with fail
  go_ret2
  exact back_good HF.out (below_up hb12 hb3)

def FewPost (w : World) (m x : Nat) (poly : Nat → Poly) (e : Ending) (w' : World) : Prop :=
  Below w.heap.size w w' ∧ (e = .returned (.bool false) ∨ (e = .returned (.bool true) ∧ m ≤ x ∧ ∀ i, i < m → (poly i).pn ≤ 50))

set_option maxHeartbeats 800000 in
theorem few_any (A : Option Addr) (m c x : Nat) (poly : Nat → Poly) (w : World) (hx : x ≤ 1000) (hq : Row w w.heap.size 1 A m (fun i _ => .slice (poly i).pa (poly i).pn (poly i).pc)) :
    Calls Try.prog 9 #[.slice A m c, .int .i64 x] w (FewPost w m x poly) := by
  have HQ := Lib.hid hq
  clear hq
  go_enter Try.func9, Try.ntmps9
  go_wp2_with fail
  go_loopw [5] (fun t wr => ∃ k : Nat, k ≤ m ∧ k ≤ x ∧ t = .int .i64 k ∧ Hid (∀ i, i < k → (poly i).pn ≤ 50) ∧ Below w.heap.size w wr) (fun t _ => m - (intOf t).toNat)
  case atStart => exact ⟨0, Nat.zero_le _, Nat.zero_le _, rfl, Lib.hid (fun i hi => absurd hi (by omega)), Below.refl _ _⟩
  case round =>
    obtain ⟨k, hk, hkx, rfl, hno, hwr⟩ := hrel
    by_cases hlt : k < m
    · have hlt' : (k : Int) < m := by omega
      have hk0 : (0 : Int) ≤ k := by omega
      by_cases hlx : k < x
      · have hlx' : (k : Int) < x := by omega
        obtain ⟨bp, op, rfl, hBp⟩ := HQ.out.addr (by omega)
        have f0 := (hwr.cell (p := ⟨_, _, none⟩) hBp).trans (HQ.out.at1 hlt)
        by_cases hp : 50 < (poly k).pn
        · have hp' : (50 : Int) < (poly k).pn := by omega
          go_wp2_with fail
          go_ret
          exact ⟨hwr, .inl rfl⟩
        · have hp' : ¬ (50 : Int) < (poly k).pn := by omega
          go_wp2_with fail
          go_roundw
          case rel => exact ⟨k + 1, by omega, by omega, by go_num, Lib.hid (fun i hi => by rcases Nat.lt_succ_iff_lt_or_eq.1 hi with h' | rfl; exact hno.out i h'; omega), hwr⟩
          case measure => simp [intOf]; omega
      · have hlx' : ¬ (k : Int) < x := by omega
        have hmx : ¬ (m : Int) ≤ x := by omega
        go_wp2_with fail
        go_ret
        exact ⟨hwr, .inl rfl⟩
    · obtain rfl : k = m := by omega
      have hlt' : ¬ (k : Int) < k := by omega
      have hmx : (k : Int) ≤ x := by omega
      go_wp2_with fail
      go_ret
      exact ⟨hwr, .inr ⟨rfl, hkx, hno.out⟩⟩

end Go.Proofs.Ytcalchlfipbpkaa
