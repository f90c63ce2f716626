/- path.distance, starts, isOrder, checked; the reference's Distance, check, whole, both. -/
import Derived.Test.YtpjckolfjaffjaaPthLaw
import Derived.Lib.MinMax
namespace Go.Proofs.Ytpjckolfjaffjaa
open Go.RowKit
set_option linter.unusedSimpArgs false
set_option linter.unusedVariables false

theorem below_drewN {B : Nat} {w w1 : World} (h : Below B w w1) (n : Nat) : Below B w (w1.drewN n) := by
  have e : ∀ n, Below B w1 (w1.drewN n) := by
    intro n
    induction n with
    | zero => exact Below.refl _ _
    | succ n ih => exact ih.drew
  exact h.trans (e n)

theorem distance_any (a b : Spot) (w : World) (ha : a.ok) (hb : b.ok) :
    Calls Try.prog 26 #[.agg #[.int .i64 a.x, .int .i64 a.y], .agg #[.int .i64 b.x, .int .i64 b.y]] w fun e w' => e = .returned (.int .i64 (distF a b)) ∧ Below w.heap.size w w' := by
  obtain ⟨a1, a2, a3, a4⟩ := ha
  obtain ⟨b1, b2, b3, b4⟩ := hb
  go_enter Try.func26, Try.ntmps26
  go_upto_region 1 with (fail)
  obtain ⟨hz, hB, c0, c1, c2, c3⟩ := two_boxes w 37 (.int .i64 a.x) (.int .i64 a.y) (.int .i64 b.x) (.int .i64 b.y) _ rfl
  generalize hW : World.alloc _ _ = W at hz hB c0 c1 c2 c3 ⊢
  clear hW
  go_quiet (fail)
  go_wp2_with fail
  go_ret
  exact ⟨ret_int (by unfold distF; omega), below_drewN hB _⟩

theorem rdistance_any (a b : Spot) (w : World) (ha : a.ok) (hb : b.ok) :
    Calls Try.prog 21 #[.agg #[.int .i64 a.x, .int .i64 a.y], .agg #[.int .i64 b.x, .int .i64 b.y]] w fun e w' => e = .returned (.int .i64 (distF a b)) ∧ Below w.heap.size w w' := by
  obtain ⟨a1, a2, a3, a4⟩ := ha
  obtain ⟨b1, b2, b3, b4⟩ := hb
  go_enter Try.func21, Try.ntmps21
  go_upto_region 1 with (fail)
  obtain ⟨hz, hB, c0, c1, c2, c3⟩ := two_boxes w 37 (.int .i64 a.x) (.int .i64 a.y) (.int .i64 b.x) (.int .i64 b.y) _ rfl
  generalize hW : World.alloc _ _ = W at hz hB c0 c1 c2 c3 ⊢
  clear hW
  go_wp2_with fail
  go_ret
  exact ⟨ret_int (by unfold distF; omega), hB⟩

def spotC (s : Spot) : Nat → Value
  | 0 => .int .i64 s.x
  | _ => .int .i64 s.y

theorem spot_info : (Try.prog.info? 37).map (fun i => (i.zero, i.size, i.bytes)) = some (some (.agg #[.int .i64 0, .int .i64 0]), 2, 16) := by kernel_rfl
theorem int_info : (Try.prog.info? 3).map (fun i => (i.zero, i.size, i.bytes)) = some (some (.int .i64 0), 1, 8) := by kernel_rfl
theorem bool_info : (Try.prog.info? 4).map (fun i => (i.zero, i.size, i.bytes)) = some (some (.bool false), 1, 1) := by kernel_rfl

/-- What starts leaves. -/
def StartsPost (w : World) (m : Nat) (poly : Nat → Poly) (e : Ending) (w' : World) : Prop :=
  Below w.heap.size w w' ∧
  ((chkErr m poly = 0 ∧ ∃ v, e = .returned (.tuple #[v, .int .i64 0]) ∧ Owned w' w.heap.size 37 2 v m (fun i => spotC (startF poly i))) ∨
   (chkErr m poly ≠ 0 ∧ e = .returned (.tuple #[.slice none 0 0, .int .i64 (chkErr m poly)])))

theorem starts_fail {w w' : World} {m : Nat} {poly : Nat → Poly} {x : Int} (he : chkErr m poly = x) (h0 : x ≠ 0) (hb : Below w.heap.size w w') : StartsPost w m poly (.returned (.tuple #[.slice none 0 0, .int .i64 x])) w' :=
  ⟨hb, .inr ⟨by rw [he]; exact h0, by rw [he]⟩⟩

theorem chk_at {m k : Nat} {poly : Nat → Poly} (h2 : ¬ 60 < m) (hk : k < m) (h : ∀ i, i < k → checkF (poly i).pn (poly i).spot = 0) (h0 : checkF (poly k).pn (poly k).spot ≠ 0) : chkErr m poly = checkF (poly k).pn (poly k).spot := by
  unfold chkErr
  rw [if_neg h2, firstErr_at (q := fun i => checkF (poly i).pn (poly i).spot) hk h h0]

theorem chk_valid {m : Nat} {poly : Nat → Poly} (h : chkErr m poly = 0) : m ≤ 60 ∧ ∀ i, i < m → checkF (poly i).pn (poly i).spot = 0 := by
  unfold chkErr at h
  by_cases h2 : 60 < m
  · rw [if_pos h2] at h; exact absurd h (by decide)
  · rw [if_neg h2] at h
    exact ⟨by omega, fun i hi => firstErr_zero h i hi⟩

theorem chk_none {m : Nat} {poly : Nat → Poly} (h2 : ¬ 60 < m) (h : ∀ i, i < m → checkF (poly i).pn (poly i).spot = 0) : chkErr m poly = 0 := by
  unfold chkErr
  rw [if_neg h2]
  exact firstErr_none h

theorem check_n {n : Nat} {p : Nat → Spot} (h : checkF n p = 0) : 3 ≤ n ∧ n ≤ 40 ∧ ∀ i, i < n → (p i).ok := by
  unfold checkF at h
  split at h
  · cases h
  · split at h
    · cases h
    · split at h
      · cases h
      · rename_i h1 h2 h3
        refine ⟨by omega, by omega, fun i hi => outside_ok.1 ?_⟩
        cases ho : outsideF (p i)
        · rfl
        · exact absurd (decide_eq_true ⟨i, hi, ho⟩) h3

theorem Spots.at0 {w : World} {B n : Nat} {A : Option Addr} {p : Nat → Spot} (h : Spots w B A n p) (h0 : 0 < n) : ∃ b off, A = some ⟨b, off, none⟩ ∧ b < B ∧ w.cell? ⟨b, off, none⟩ = some (.int .i64 (p 0).x) ∧ w.cell? ⟨b, off + 1, none⟩ = some (.int .i64 (p 0).y) := by
  obtain ⟨b, off, hA, hb, hc⟩ := h h0
  obtain ⟨e0, e1⟩ := hc 0 h0
  rw [Nat.zero_mul, Nat.add_zero] at e0 e1
  exact ⟨b, off, hA, hb, e0, e1⟩

set_option maxHeartbeats 1600000 in
theorem starts_any (A : Option Addr) (m c : Nat) (poly : Nat → Poly) (w : World) (hq : Polys w w.heap.size A m poly) :
    Calls Try.prog 29 #[.slice A m c] w (StartsPost w m poly) := by
  have HQ := Lib.hid hq
  clear hq
  by_cases hm : 60 < m
  · have HE := Lib.hid (show chkErr m poly = 5 by unfold chkErr; rw [if_pos hm])
    have hm' : (60 : Int) < m := by omega
    go_enter Try.func29, Try.ntmps29
    go_wp2_with fail
    go_ret2
    exact starts_fail HE.out (by decide) (Below.refl _ _)
  have hm' : ¬ (60 : Int) < m := by omega
  obtain ⟨i0, hi0, hz0, hz1, hz2⟩ := info_parts spot_info
  have HI0 := Lib.hid hi0
  have HZ := Lib.hid (And.intro hz0 (And.intro hz1 hz2))
  clear hi0 hz0 hz1 hz2
  go_enter Try.func29, Try.ntmps29
  go_wp2_with fail
  go_loopw [4, 13] (fun v t wr => ∃ k : Nat, k ≤ m ∧ t = .int .i64 k ∧ Hid (∀ i, i < k → checkF (poly i).pn (poly i).spot = 0) ∧ Owned wr w.heap.size 37 2 v k (fun i => spotC (startF poly i)) ∧ Below w.heap.size w wr) (fun _ t _ => m - (intOf t).toNat)
  case atStart => exact ⟨0, Nat.zero_le _, rfl, Lib.hid (fun i hi => absurd hi (by omega)), Owned.nil _ _ _ _ _, Below.refl _ _⟩
  case round =>
    obtain ⟨k, hk, rfl, hno, kN, hwr⟩ := hrel
    have hs1 : w.heap.size ≤ wr.heap.size := hwr.size
    by_cases hlt : k < m
    · obtain ⟨hsp, hpc, hpn⟩ := HQ.out.2 k hlt
      obtain ⟨bp, op, rfl, hBp⟩ := HQ.out.1.addr (by omega)
      have f0 := (hwr.cell (p := ⟨_, _, none⟩) hBp).trans (HQ.out.1.at1 hlt)
      have HSP := Lib.hid (hsp.later hwr)
      clear hsp
      have hlt' : (k : Int) < m := by omega
      have hk0 : (0 : Int) ≤ k := by omega
      go_wp2_with fail
      refine (check_any _ _ _ (poly k).spot _ hpn hpc HSP.out).mono ?_
      rintro r w2 ⟨rfl, hb2⟩
      have rb := below_up hwr hb2
      by_cases hck : checkF (poly k).pn (poly k).spot = 0
      rotate_left
      · have HF := Lib.hid (chk_at (poly := poly) hm hlt hno.out hck)
        have HNE := Lib.hid hck
        have hne : (checkF (poly k).pn (poly k).spot != 0) = true := bne_iff_ne.2 hck
        clear hck
        go_wp2_with fail
        go_ret2
        exact starts_fail HF.out HNE.out rb
      have HOK := Lib.hid hck
      have hn3 := (check_n hck).1
      rw [hck]
      have rN := kN.later hb2
      have hz3 : w.heap.size ≤ w2.heap.size := rb.size
      obtain ⟨bs, os, hA, hBs, g0, g1⟩ := (HSP.out.later hb2).at0 (by omega)
      rw [hA]
      have hn3' : (0 : Int) < (poly k).pn := by omega
      clear hck f0 kN hb2 HSP hwr hs1 hA
      go_wp2_with (at_builtin; refine wpList_append_row _ rfl _ _ _ rfl w.heap.size 37 i0 _ 2 16 Try.underlying38 HI0.out HZ.out.1 HZ.out.2.1 HZ.out.2.2 rfl (by omega) _ k _ rfl (rN.alloc _) _ _ 1 1 (fun _ => spotC ((poly k).spot 0)) rfl (Row.lit w2 #[.int .i64 ((poly k).spot 0).x, .int .i64 ((poly k).spot 0).y] 1 37 2 _ (by simp only [maxLen]; omega) rfl) (fun i j _ hj => by simp only []; unfold spotC; split <;> rfl) (by simp only [maxLen]; omega) (by omega) (by simp; omega) ?_; intro v' w4 hown hgr hbk)
      have ub := (rN.alloc (.cells #[.int .i64 ((poly k).spot 0).x, .int .i64 ((poly k).spot 0).y] 37)).below_grown (rb.alloc hz3 _) (Nat.le_refl _) (by simp; omega) hgr
      go_roundw
      case rel =>
        refine ⟨k + 1, by omega, by go_num, Lib.hid (fun i hi => ?_), hown.congr (fun i j hi hj => ?_), ub⟩
        · rcases Nat.lt_succ_iff_lt_or_eq.1 hi with h' | rfl
          · exact hno.out i h'
          · exact HOK.out
        · unfold glue
          by_cases hik : i < k
          · rw [if_pos hik]
          · obtain rfl : i = k := by omega
            rw [if_neg hik]
            rfl
      case measure => simp [intOf]; omega
    · obtain rfl : k = m := by omega
      have HF := Lib.hid (chk_none hm hno.out)
      go_wp2_with fail
      go_ret2
      exact ⟨hwr, .inl ⟨HF.out, _, rfl, kN⟩⟩

set_option maxHeartbeats 1600000 in
theorem rcheckall_any (A : Option Addr) (m c : Nat) (poly : Nat → Poly) (w : World) (hq : Polys w w.heap.size A m poly) :
    Calls Try.prog 30 #[.slice A m c] w fun e w' => e = .returned (.int .i64 (chkErr m poly)) ∧ Below w.heap.size w w' := by
  have HQ := Lib.hid hq
  clear hq
  by_cases hm : 60 < m
  · have HE := Lib.hid (show chkErr m poly = 5 by unfold chkErr; rw [if_pos hm])
    have hm' : (60 : Int) < m := by omega
    go_enter Try.func30, Try.ntmps30
    go_wp2_with fail
    go_ret
    exact ⟨ret_int HE.out.symm, Below.refl _ _⟩
  have hm' : ¬ (60 : Int) < m := by omega
  go_enter Try.func30, Try.ntmps30
  go_wp2_with fail
  go_loopw [3] (fun t wr => ∃ k : Nat, k ≤ m ∧ t = .int .i64 k ∧ Hid (∀ i, i < k → checkF (poly i).pn (poly i).spot = 0) ∧ Below w.heap.size w wr) (fun t _ => m - (intOf t).toNat)
  case atStart => exact ⟨0, Nat.zero_le _, rfl, Lib.hid (fun i hi => absurd hi (by omega)), Below.refl _ _⟩
  case round =>
    obtain ⟨k, hk, rfl, hno, hwr⟩ := hrel
    by_cases hlt : k < m
    · obtain ⟨hsp, hpc, hpn⟩ := HQ.out.2 k hlt
      obtain ⟨bp, op, rfl, hBp⟩ := HQ.out.1.addr (by omega)
      have f0 := (hwr.cell (p := ⟨_, _, none⟩) hBp).trans (HQ.out.1.at1 hlt)
      have HSP := Lib.hid (hsp.later hwr)
      clear hsp
      have hlt' : (k : Int) < m := by omega
      have hk0 : (0 : Int) ≤ k := by omega
      go_wp2_with fail
      refine (rcheck_any _ _ _ (poly k).spot _ hpn HSP.out).mono ?_
      rintro r w2 ⟨rfl, hb2⟩
      have rb := below_up hwr hb2
      by_cases hck : checkF (poly k).pn (poly k).spot = 0
      rotate_left
      · have HF := Lib.hid (chk_at (poly := poly) hm hlt hno.out hck)
        have hne : (checkF (poly k).pn (poly k).spot != 0) = true := bne_iff_ne.2 hck
        clear hck
        go_wp2_with fail
        go_ret
        exact ⟨ret_int HF.out.symm, rb⟩
      have HOK := Lib.hid hck
      rw [hck]
      clear hck f0
      go_wp2_with fail
      go_roundw
      case rel =>
        refine ⟨k + 1, by omega, by go_num, Lib.hid (fun i hi => ?_), rb⟩
        rcases Nat.lt_succ_iff_lt_or_eq.1 hi with h' | rfl
        · exact hno.out i h'
        · exact HOK.out
      case measure => simp [intOf]; omega
    · obtain rfl : k = m := by omega
      have HF := Lib.hid (chk_none hm hno.out)
      go_wp2_with fail
      go_ret
      exact ⟨ret_int HF.out.symm, hwr⟩

end Go.Proofs.Ytpjckolfjaffjaa
