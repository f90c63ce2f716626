/- The reference's best: the first of the cheapest plans that begin with some plies. -/
import Derived.Test.YtkdpkaidbmjcaaaLayCC
namespace Go.Proofs.Ytkdpkaidbmjcaaa
open Go.RowKit
set_option linter.unusedSimpArgs false
set_option linter.unusedVariables false

/-- The best of the plans of Q. -/
abbrev BestQ (n : Nat) (ord : Nat → Int) (m : Nat) (mx : Nat → MixM) (over most : Int) (Q : Plan → Prop) (b : Option Plan) : Prop := Opt m (FeasP m n (cntM mx) ord over most) (fun q => costF (lenM mx) q m) Q b

/-- How many numbers a plan has that was found, or not. -/
def lenB (m : Nat) (ok : Bool) : Nat := if ok = true then m else 0

/-- What best returns. -/
def BestPost (n : Nat) (ord : Nat → Int) (m : Nat) (mx : Nat → MixM) (over most : Int) (l : Nat) (p : Plan) (w : World) (e : Ending) (w' : World) : Prop :=
  ∃ A' c' ok r, e = .returned (.tuple #[.slice A' (lenB m ok) c', .bool ok]) ∧ BestQ n ord m mx over most (EqTo l p) (optB ok r) ∧ Ints w' A' (lenB m ok) r ∧ Below w.heap.size w w'

/-- What the loop holds of the plans that it has seen. -/
def SeenAt (n : Nat) (ord : Nat → Int) (m : Nat) (mx : Nat → MixM) (over most : Int) (l : Nat) (p : Plan) (k : Int) (v u : Value) (w : World) : Prop :=
  ∃ A' c' fd r, v = .slice A' (lenB m fd) c' ∧ u = .bool fd ∧ Hid (BestQ n ord m mx over most (Upto l p k) (optB fd r)) ∧ Hid (Ints w A' (lenB m fd) r)

section
variable {n m l : Nat} {ord : Nat → Int} {mx : Nat → MixM} {over most : Int} {p : Plan} {w w' : World}
theorem best_none (h : BestQ n ord m mx over most (EqTo l p) none) (hb : Below w.heap.size w w') : BestPost n ord m mx over most l p w (.returned (.tuple #[.slice none 0 0, .bool false])) w' :=
  ⟨none, 0, false, fun _ => 0, rfl, h, row_none _ _ _ _, hb⟩
theorem plies40 {l : Nat} {p : Plan} {most : Int} (h : ∀ i, i < l → 0 ≤ p i ∧ p i ≤ most) (hm : most ≤ 40) : ∀ i, i < l → 0 ≤ p i ∧ p i ≤ 40 := fun i hi => ⟨(h i hi).1, by have := (h i hi).2; omega⟩
end

/-- A whole plan. -/
theorem best_leaf (A Ao : Option Addr) (n co m cM : Nat) (mx : Nat → MixM) (ord : Nat → Int) (over most : Int) (hg : GoodM m mx) (hS : n = sizesF m mx) (ho : ∀ i, i < n → 0 ≤ ord i ∧ ord i ≤ 1000) (hv : 0 ≤ over ∧ over ≤ 1000) (hm : 0 ≤ most ∧ most ≤ 40)
    (A2 : Option Addr) (c2 : Nat) (p : Nat → Int) (w : World) (hp : ∀ i, i < m → 0 ≤ p i ∧ p i ≤ most) (hi : Ints w Ao n ord) (hq : Mixes w w.heap.size A m mx) (hr : Ints w A2 m p) :
    Calls Try.prog 32 #[.slice Ao n co, .slice A m cM, .int .i64 over, .int .i64 most, .slice A2 m c2] w (BestPost n ord m mx over most m p w) := by
  have HG := Lib.hid hg
  have HO := Lib.hid ho
  have HP := Lib.hid hp
  have HI := Lib.hid hi
  have HQ := Lib.hid hq
  have HR := Lib.hid hr
  have HS := Lib.hid hS
  have hm6 := hg.m6
  have hn12 : n ≤ 12 := by rw [hS]; exact hg.s12
  have hll : ((m : Int) == (m : Int)) = true := by simp
  clear hg ho hp hi hq hr hS
  go_enter Try.func32, Try.ntmps32
  go_wp2_with fail
  refine (rmade_any A A2 m c2 m cM p mx w HG.out (Nat.le_refl _) (plies40 HP.out hm.2) HR.out HQ.out).mono ?_
  rintro e w1 ⟨v1, rfl, hO1, hb1⟩
  rw [← HS.out] at hO1
  obtain ⟨A3, c3, rfl, -, -, r1⟩ := hO1.form
  have R1 := Lib.hid r1
  clear hO1 r1
  go_wp2_with fail
  refine (between_any Ao A3 n co c3 ord (fun s => madeF (cntM mx) p s m) over true w1 hn12 HO.out hv (HI.out.later hb1) R1.out).mono ?_
  rintro e w2 ⟨rfl, hb2⟩
  have b2 := below_up hb1 hb2
  clear hb1 hb2 R1
  by_cases hB : Betw n ord (fun s => madeF (cntM mx) p s m) over true
  · rw [decide_eq_true hB]
    have HB := Lib.hid hB
    clear hB
    go_wp2_with fail
    go_ret2
    exact ⟨A2, c2, true, p, rfl, betw_leaf HP.out HB.out, HR.out.later b2, b2⟩
  · rw [decide_eq_false hB]
    have HB := Lib.hid hB
    clear hB
    go_wp2_with fail
    go_ret2
    exact best_none (betw_no (fun _ => rfl) (Nat.le_refl _) (fun i s hi hs => (HG.out.cnt i s hi (by rw [← HS.out]; exact hs)).1) HB.out) b2

set_option maxRecDepth 100000 in
set_option maxHeartbeats 6400000 in
theorem best_step (A Ao : Option Addr) (n co m cM : Nat) (mx : Nat → MixM) (ord : Nat → Int) (over most : Int) (hg : GoodM m mx) (hS : n = sizesF m mx) (ho : ∀ i, i < n → 0 ≤ ord i ∧ ord i ≤ 1000) (hv : 0 ≤ over ∧ over ≤ 1000) (hm : 0 ≤ most ∧ most ≤ 40) (l : Nat) (hl : l < m)
    (ih : ∀ (A2 : Option Addr) (c2 : Nat) (p : Nat → Int) (w : World), (∀ i, i < l + 1 → 0 ≤ p i ∧ p i ≤ most) → Ints w Ao n ord → Mixes w w.heap.size A m mx → Ints w A2 (l + 1) p →
      Calls Try.prog 32 #[.slice Ao n co, .slice A m cM, .int .i64 over, .int .i64 most, .slice A2 (l + 1) c2] w (BestPost n ord m mx over most (l + 1) p w))
    (A2 : Option Addr) (c2 : Nat) (p : Nat → Int) (w : World) (hp : ∀ i, i < l → 0 ≤ p i ∧ p i ≤ most) (hi : Ints w Ao n ord) (hq : Mixes w w.heap.size A m mx) (hr : Ints w A2 l p) :
    Calls Try.prog 32 #[.slice Ao n co, .slice A m cM, .int .i64 over, .int .i64 most, .slice A2 l c2] w (BestPost n ord m mx over most l p w) := by
  have IH := Lib.hid ih
  have HG := Lib.hid hg
  have HO := Lib.hid ho
  have HP := Lib.hid hp
  have HI := Lib.hid hi
  have HQ := Lib.hid hq
  have HR := Lib.hid hr
  have HS := Lib.hid hS
  have hm6 := hg.m6
  have hn12 : n ≤ 12 := by rw [hS]; exact hg.s12
  have hll : ((l : Int) == (m : Int)) = false := by
    cases h : ((l : Int) == (m : Int)) with
    | false => rfl
    | true => have := eq_of_beq h; omega
  clear ih hg ho hp hi hq hr hS
  obtain ⟨i0, hi0, hz0, hz1, hz2⟩ := info_parts int_info
  have HI0 := Lib.hid hi0
  have HZ := Lib.hid (And.intro hz0 (And.intro hz1 hz2))
  clear hi0 hz0 hz1 hz2
  go_enter Try.func32, Try.ntmps32
  go_wp2_with fail
  refine (rmade_any A A2 l c2 m cM p mx w HG.out (by omega) (plies40 HP.out hm.2) HR.out HQ.out).mono ?_
  rintro e w1 ⟨v1, rfl, hO1, hb1⟩
  rw [← HS.out] at hO1
  obtain ⟨A3, c3, rfl, -, -, r1⟩ := hO1.form
  have R1 := Lib.hid r1
  clear hO1 r1
  go_wp2_with fail
  refine (between_any Ao A3 n co c3 ord (fun s => madeF (cntM mx) p s l) over false w1 hn12 HO.out hv (HI.out.later hb1) R1.out).mono ?_
  rintro e w2 ⟨rfl, hb2⟩
  have b2 := below_up hb1 hb2
  clear hb1 hb2 R1
  by_cases hB : Betw n ord (fun s => madeF (cntM mx) p s l) over false
  rotate_left
  · rw [decide_eq_false hB]
    have HB := Lib.hid hB
    clear hB
    go_wp2_with fail
    go_ret2
    exact best_none (betw_no (fun h => by cases h) (by omega) (fun i s hi hs => (HG.out.cnt i s hi (by rw [← HS.out]; exact hs)).1) HB.out) b2
  rw [decide_eq_true hB]
  clear hB
  go_wp2_with fail
  go_loopw [13, 14, 15] (fun v u t wr => ∃ k : Nat, (k : Int) ≤ most + 1 ∧ t = .int .i64 k ∧ SeenAt n ord m mx over most l p k v u wr ∧ Below w.heap.size w wr) (fun _ _ t _ => (most + 1 - intOf t).toNat)
  case atStart => exact ⟨0, by omega, rfl, ⟨none, 0, false, fun _ => 0, rfl, rfl, Lib.hid (Opt.none0 (fun q hf => (hf.1 l hl).1)), Lib.hid (row_none _ _ _ _)⟩, b2⟩
  case round =>
    clear b2
    obtain ⟨k, hk, rfl, ⟨A4, c4, fd, r4, rfl, rfl, H4, R4⟩, hwr⟩ := hrel
    have hsr := hwr.size
    by_cases hlt : (k : Int) ≤ most
    · have hk0 : (0 : Int) ≤ k := by omega
      obtain ⟨hm0, hm40⟩ := hm
      have HRr := Lib.hid ((HR.out.later hwr))
      go_upto_region 13 with (at_builtin; refine wpList_append_row _ rfl _ _ _ rfl wr.heap.size 3 i0 _ 1 8 Try.underlying22 HI0.out HZ.out.1 HZ.out.2.1 HZ.out.2.2 rfl (by omega) _ 0 (fun i _ => .int .i64 (p i)) rfl (Owned.nil _ _ _ _ _) _ _ l c2 (fun i _ => .int .i64 (p i)) rfl HRr.out (fun _ _ _ _ => rfl) (by simp only [maxLen]; omega) (by omega) (Nat.le_refl _) ?_; intro v5 w5 hown hgr hbk)
      rw [Nat.zero_add] at hown
      have kO := hown.congr (g := fun i _ => .int .i64 (p i)) (fun i j hi hj => by unfold glue; rw [if_neg (by omega), Nat.sub_zero])
      have b5 := (Owned.nil wr wr.heap.size 3 1 (fun i _ => .int .i64 (p i))).below_grown (Below.refl wr.heap.size wr) (Nat.le_refl _) (Nat.le_refl _) hgr
      have hs5 := b5.size
      clear hown hgr hbk HRr
      go_upto_region 14 with (at_builtin; refine wpList_append_row _ rfl _ _ _ rfl wr.heap.size 3 i0 _ 1 8 Try.underlying22 HI0.out HZ.out.1 HZ.out.2.1 HZ.out.2.2 rfl (by omega) _ l _ rfl (kO.alloc _) _ _ 1 1 (fun _ _ => .int .i64 (k : Int)) rfl (Row.lit w5 #[.int .i64 (k : Int)] 1 3 1 _ (by simp only [maxLen]; omega) rfl) (fun _ _ _ _ => rfl) (by simp only [maxLen]; omega) (by omega) (by simp; omega) ?_; intro v6 w6 hown hgr hbk)
      have k6 := hown.congr (g := fun i _ => .int .i64 (setP p l k i)) (fun i j hi hj => by
        unfold glue setP
        by_cases h1 : i < l
        · rw [if_pos h1, if_neg (by omega)]
        · rw [if_neg h1, if_pos (by omega)])
      have b6 := (kO.alloc (.cells #[.int .i64 (k : Int)] 3)).below_grown (b5.alloc hs5 _) (Nat.le_refl _) (by simp; omega) hgr
      obtain ⟨A6, c6, rfl, -, -, r6⟩ := k6.form
      have R6 := Lib.hid r6
      have bw6 := below_up hwr b6
      have R46 := Lib.hid (R4.out.later b6)
      have HPS := Lib.hid (show ∀ i, i < l + 1 → 0 ≤ setP p l k i ∧ setP p l k i ≤ most from fun i hi => by
        unfold setP
        by_cases h1 : i = l
        · rw [if_pos h1]; exact ⟨hk0, hlt⟩
        · rw [if_neg h1]; exact HP.out i (by omega))
      clear hown hgr hbk kO k6 b5 b6 hs5 r6 hwr R4 hsr
      go_wp2_with fail
      refine (IH.out A6 c6 (setP p l k) w6 HPS.out (HI.out.later bw6) (HQ.out.later bw6) R6.out).mono ?_
      rintro e w7 ⟨A7, c7, ok, r7, rfl, h7, i7, hb7⟩
      have H7 := Lib.hid h7
      have R7 := Lib.hid i7
      have R47 := Lib.hid (R46.out.later hb7)
      have b7 := below_up bw6 hb7
      clear h7 i7 hb7 bw6 R46 R6 HPS
      have hk1 : (k : Int) + 1 ≤ most + 1 := by omega
      cases ok
      · have HN := Lib.hid ((H4.out.joinNone H7.out).next)
        clear H4 H7
        go_wp2_with fail
        go_roundw
        case rel => exact ⟨k + 1, by omega, by go_num, ⟨A4, c4, fd, r4, rfl, rfl, HN, R47⟩, b7⟩
        case measure => simp [intOf]; omega
      cases fd
      · have HN := Lib.hid ((Opt.joinFirst H4.out H7.out).next)
        clear H4 H7
        go_wp2_with fail
        go_roundw
        case rel => exact ⟨k + 1, by omega, by go_num, ⟨A7, c7, true, r7, rfl, rfl, HN, R7⟩, b7⟩
        case measure => simp [intOf]; omega
      have e1 : lenB m true = m := rfl
      rw [e1] at R47 R7 ⊢
      clear e1
      have HF4 := Lib.hid (plies40 (show ∀ i, i < m → 0 ≤ r4 i ∧ r4 i ≤ most from H4.out.1.1) hm40)
      have HF7 := Lib.hid (plies40 (show ∀ i, i < m → 0 ≤ r7 i ∧ r7 i ≤ most from H7.out.1.1) hm40)
      go_wp2_with fail
      refine (rcost_any A A7 m c7 m cM r7 mx w7 HG.out (Nat.le_refl _) HF7.out R7.out (HQ.out.later b7)).mono ?_
      rintro e w8 ⟨rfl, hb8⟩
      have R48 := Lib.hid (R47.out.later hb8)
      have R78 := Lib.hid (R7.out.later hb8)
      have b8 := below_up b7 hb8
      clear hb8 b7 R47 R7
      go_wp2_with fail
      refine (rcost_any A A4 m c4 m cM r4 mx w8 HG.out (Nat.le_refl _) HF4.out R48.out (HQ.out.later b8)).mono ?_
      rintro e w9 ⟨rfl, hb9⟩
      have R49 := Lib.hid (R48.out.later hb9)
      have R79 := Lib.hid (R78.out.later hb9)
      have b9 := below_up b8 hb9
      clear hb9 b8 R48 R78 HF4 HF7
      by_cases hc : costF (lenM mx) r7 m < costF (lenM mx) r4 m
      · have HN := Lib.hid ((Opt.joinLess H4.out H7.out hc).next)
        clear H4 H7
        generalize costF (lenM mx) r7 m = C7 at hc ⊢
        generalize costF (lenM mx) r4 m = C4 at hc ⊢
        go_wp2_with fail
        go_roundw
        case rel => exact ⟨k + 1, by omega, by go_num, ⟨A7, c7, true, r7, rfl, rfl, HN, R79⟩, b9⟩
        case measure => simp [intOf]; omega
      · have HN := Lib.hid ((Opt.joinKeep H4.out H7.out hc (upto_lt hl)).next)
        clear H4 H7
        generalize costF (lenM mx) r7 m = C7 at hc ⊢
        generalize costF (lenM mx) r4 m = C4 at hc ⊢
        go_wp2_with fail
        go_roundw
        case rel => exact ⟨k + 1, by omega, by go_num, ⟨A4, c4, true, r4, rfl, rfl, HN, R49⟩, b9⟩
        case measure => simp [intOf]; omega
    · have hkm : (k : Int) = most + 1 := by omega
      have HE := Lib.hid (H4.out.full (fun q hf => by have := (hf.1 l hl).2; omega))
      clear hkm H4
      go_wp2_with fail
      go_ret2
      exact ⟨A4, c4, fd, r4, rfl, HE.out, R4.out, hwr⟩

/-- best, whatever has been laid so far. -/
theorem best_any (A Ao : Option Addr) (n co m cM : Nat) (mx : Nat → MixM) (ord : Nat → Int) (over most : Int) (hg : GoodM m mx) (hS : n = sizesF m mx) (ho : ∀ i, i < n → 0 ≤ ord i ∧ ord i ≤ 1000) (hv : 0 ≤ over ∧ over ≤ 1000) (hm : 0 ≤ most ∧ most ≤ 40) :
    ∀ (d l : Nat), m = l + d → ∀ (A2 : Option Addr) (c2 : Nat) (p : Nat → Int) (w : World), (∀ i, i < l → 0 ≤ p i ∧ p i ≤ most) → Ints w Ao n ord → Mixes w w.heap.size A m mx → Ints w A2 l p →
      Calls Try.prog 32 #[.slice Ao n co, .slice A m cM, .int .i64 over, .int .i64 most, .slice A2 l c2] w (BestPost n ord m mx over most l p w)
  | 0, l, hl, A2, c2, p, w, hp, hi, hq, hr => by
    obtain rfl : m = l := hl
    exact best_leaf A Ao n co m cM mx ord over most hg hS ho hv hm A2 c2 p w hp hi hq hr
  | d + 1, l, hl, A2, c2, p, w, hp, hi, hq, hr =>
    best_step A Ao n co m cM mx ord over most hg hS ho hv hm l (by omega) (fun A2 c2 p w => best_any A Ao n co m cM mx ord over most hg hS ho hv hm d (l + 1) (by omega) A2 c2 p w) A2 c2 p w hp hi hq hr

end Go.Proofs.Ytkdpkaidbmjcaaa
