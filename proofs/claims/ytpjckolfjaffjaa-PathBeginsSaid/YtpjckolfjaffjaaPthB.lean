/- path.isOrder, checked; the reference's whole, both; SameInts, Light, slices.Clone. -/
import Derived.Test.YtpjckolfjaffjaaPthA
namespace Go.Proofs.Ytpjckolfjaffjaa
open Go.RowKit
set_option linter.unusedSimpArgs false
set_option linter.unusedVariables false

/-- The cells of a row of the call's own. -/
theorem Owned.cells1 {w : World} {base e n g cap : Nat} {f : Nat → Nat → Value} (h : Owned w base e 1 (.slice (some ⟨g, 0, none⟩) n cap) n f) :
    base ≤ g ∧ g < w.heap.size ∧ (∀ i, i < n → w.cell? ⟨g, i, none⟩ = some (f i 0)) ∧ ∀ o, w.frozen? ⟨g, o, none⟩ = false := by
  have hlt := h.lt g rfl
  refine ⟨hlt.1, hlt.2, fun i hi => ?_, fun o => ?_⟩
  · obtain ⟨g', cap', hv, _, _, _, _, hc, _⟩ := h.blk (by omega)
    injection hv with hv1 _ _
    injection hv1 with hv1
    injection hv1 with hv1 _
    subst hv1
    have := hc i 0 hi (by omega)
    rwa [Nat.mul_one, Nat.add_zero] at this
  · obtain ⟨_, h⟩ := h
    rcases h with ⟨h1, _⟩ | ⟨g', cap', cur, hv, _, hh, _⟩
    · cases h1
    · injection hv with hv1 _ _
      injection hv1 with hv1
      injection hv1 with hv1 _
      subst hv1
      simp [World.frozen?, hh]

/-- A number among the first k. -/
def seenF (ord : Nat → Int) (k i : Nat) : Bool := decide (∃ j, j < k ∧ ord j = (i : Int))

theorem seen_zero (ord : Nat → Int) (i : Nat) : seenF ord 0 i = false := decide_eq_false fun ⟨j, hj, _⟩ => by omega
theorem seen_succ {ord : Nat → Int} {k x : Nat} (hx : ord k = (x : Int)) (i : Nat) : seenF ord (k + 1) i = if i = x then true else seenF ord k i := by
  unfold seenF
  by_cases h : i = x
  · rw [if_pos h]
    exact decide_eq_true ⟨k, by omega, by rw [hx, h]⟩
  · rw [if_neg h]
    congr 1
    refine propext ⟨fun ⟨j, hj, e⟩ => ?_, fun ⟨j, hj, e⟩ => ⟨j, by omega, e⟩⟩
    rcases Nat.lt_succ_iff_lt_or_eq.1 hj with h' | rfl
    · exact ⟨j, h', e⟩
    · rw [hx] at e; omega

/-- The first k are right. -/
def GoodTo (n : Nat) (ord : Nat → Int) (k : Nat) : Prop := ∀ i, i < k → (0 ≤ ord i ∧ ord i < n) ∧ ∀ j, j < i → ord j ≠ ord i

theorem good_succ {n : Nat} {ord : Nat → Int} {k x : Nat} (h : GoodTo n ord k) (hx : ord k = (x : Int)) (hn : x < n) (hs : seenF ord k x = false) : GoodTo n ord (k + 1) := by
  intro i hi
  rcases Nat.lt_succ_iff_lt_or_eq.1 hi with h' | rfl
  · exact h i h'
  · refine ⟨by omega, fun j hj e => ?_⟩
    exact of_decide_eq_false hs ⟨j, hj, by rw [e, hx]⟩

theorem order_bad {l n : Nat} {ord : Nat → Int} {k : Nat} (hk : k < n) (h : ord k < 0 ∨ (n : Int) ≤ ord k ∨ ∃ x : Nat, ord k = x ∧ seenF ord k x = true) : orderF l n ord = false := by
  refine decide_eq_false fun ⟨_, hh⟩ => ?_
  obtain ⟨h1, h2⟩ := hh k hk
  rcases h with h | h | ⟨x, hx, hs⟩
  · omega
  · omega
  · obtain ⟨j, hj, e⟩ := of_decide_eq_true hs
    exact h2 j hj (by rw [e, hx])

theorem order_good {n : Nat} {ord : Nat → Int} (h : GoodTo n ord n) : orderF n n ord = true := decide_eq_true ⟨rfl, h⟩
theorem order_len {l n : Nat} {ord : Nat → Int} (h : l ≠ n) : orderF l n ord = false := decide_eq_false fun hh => h hh.1

set_option maxHeartbeats 1600000 in
theorem isOrder_any (A : Option Addr) (l c n : Nat) (ord : Nat → Int) (w : World) (hl : l ≤ 1000) (hn : n ≤ 1000) (hp : Row w w.heap.size 1 A l (fun i _ => .int .i64 (ord i))) :
    Calls Try.prog 37 #[.slice A l c, .int .i64 n] w fun e w' => e = .returned (.bool (orderF l n ord)) ∧ Below w.heap.size w w' := by
  have HP := Lib.hid hp
  clear hp
  by_cases hln : l = n
  rotate_left
  · have HR := Lib.hid (order_len (ord := ord) hln)
    have hb : ((l : Int) != (n : Int)) = true := bne_iff_ne.2 (by omega)
    go_enter Try.func37, Try.ntmps37
    go_wp2_with fail
    go_ret
    exact ⟨ret_bool HR.out.symm, Below.refl _ _⟩
  subst hln
  have hb : ((l : Int) != (l : Int)) = false := by simp
  have hmk := run_make_row' (P := Try.prog) 49 4 (.bool false) 1 Try.underlying49 bool_info rfl .i64 .i64 l (by omega) (by omega)
  go_enter Try.func37, Try.ntmps37
  go_upto_region 4 with (fail)
  have hI := (Owned.made w (.bool false) l 4 (by simp only [maxLen]; omega)).congr (g := fun i _ => .bool (seenF ord 0 i)) (fun i j _ _ => by rw [seen_zero])
  have hW0 := below_a1 w (.cells (madeCells #[.bool false] l) 4)
  obtain ⟨g, hg⟩ : ∃ g, g = w.heap.size := ⟨_, rfl⟩
  rw [← hg] at hI
  rw [← hg]
  generalize hW : w.alloc _ = W at hI hW0 ⊢
  have hgw : w.heap.size ≤ g := by omega
  clear hW hmk hg
  go_wp2_with fail
  go_loopw [16] (fun t wr => ∃ k : Nat, k ≤ l ∧ t = .int .i64 k ∧ Hid (GoodTo l ord k) ∧ Owned wr g 4 1 (.slice (some ⟨g, 0, none⟩) l l) l (fun i _ => .bool (seenF ord k i)) ∧ Below w.heap.size w wr) (fun t _ => l - (intOf t).toNat)
  case atStart => exact ⟨0, Nat.zero_le _, rfl, Lib.hid (fun i hi => absurd hi (by omega)), hI, hW0⟩
  case round =>
    obtain ⟨k, hk, rfl, hno, kI, hwr⟩ := hrel
    clear hI hW0
    by_cases hlt : k < l
    · obtain ⟨b, off, rfl, hB⟩ := HP.out.addr (by omega)
      have f0 := (hwr.cell (p := ⟨_, _, none⟩) hB).trans (HP.out.at1 hlt)
      have hlt' : (k : Int) < l := by omega
      have hk0 : (0 : Int) ≤ k := by omega
      by_cases h1 : ord k < 0
      · have HR := Lib.hid (order_bad (l := l) hlt (.inl h1))
        go_wp2_with fail
        go_ret
        exact ⟨ret_bool HR.out.symm, hwr⟩
      by_cases h2 : (l : Int) ≤ ord k
      · have HR := Lib.hid (order_bad (l := l) hlt (.inr (.inl h2)))
        go_wp2_with fail
        go_ret
        exact ⟨ret_bool HR.out.symm, hwr⟩
      obtain ⟨x, hx⟩ := Int.eq_ofNat_of_zero_le (by omega : 0 ≤ ord k)
      have hxl : x < l := by omega
      have hxl' : (x : Int) < l := by omega
      have hx0 : (0 : Int) ≤ x := by omega
      obtain ⟨hgb, hgl, hcell, hfz⟩ := kI.cells1
      have g0 := hcell x hxl
      have z0 := hfz x
      have HX := Lib.hid hx
      rw [hx] at f0
      clear h1 h2 hx hcell hfz
      cases hs : seenF ord k x
      · rw [hs] at g0
        have HS := Lib.hid hs
        clear hs
        go_wp2_with fail
        have kI2 := (kI.put1 (k := x) (.bool true)).congr (g := fun i _ => .bool (seenF ord (k + 1) i)) (fun i j hi hj => by
          unfold upd
          rw [seen_succ HX.out]
          by_cases hix : i = x
          · rw [if_pos hix, if_pos ⟨hix, by omega⟩]
          · rw [if_neg hix, if_neg (fun h => hix h.1)])
        have hw2 := hwr.setCell (p := ⟨g, x, none⟩) (by simp only []; omega) (.bool true)
        generalize hW : World.setCell _ _ _ = W2 at kI2 hw2 ⊢
        clear hW g0 z0 f0
        go_roundw
        case rel => exact ⟨k + 1, by omega, by go_num, Lib.hid (good_succ hno.out HX.out hxl HS.out), kI2, hw2⟩
        case measure => simp [intOf]; omega
      · rw [hs] at g0
        have HR := Lib.hid (order_bad (l := l) hlt (.inr (.inr ⟨x, HX.out, hs⟩)))
        clear hs
        go_wp2_with fail
        go_ret
        exact ⟨ret_bool HR.out.symm, hwr⟩
    · obtain rfl : k = l := by omega
      have HR := Lib.hid (order_good hno.out)
      go_wp2_with fail
      go_ret
      exact ⟨ret_bool HR.out.symm, hwr⟩

set_option maxHeartbeats 1600000 in
theorem rwhole_any (A : Option Addr) (l c n : Nat) (ord : Nat → Int) (w : World) (hl : l ≤ 1000) (hn : n ≤ 1000) (hp : Row w w.heap.size 1 A l (fun i _ => .int .i64 (ord i))) :
    Calls Try.prog 38 #[.slice A l c, .int .i64 n] w fun e w' => e = .returned (.bool (orderF l n ord)) ∧ Below w.heap.size w w' := by
  have HP := Lib.hid hp
  clear hp
  by_cases hln : l = n
  rotate_left
  · have HR := Lib.hid (order_len (ord := ord) hln)
    have hb : ((l : Int) != (n : Int)) = true := bne_iff_ne.2 (by omega)
    go_enter Try.func38, Try.ntmps38
    go_wp2_with fail
    go_ret
    exact ⟨ret_bool HR.out.symm, Below.refl _ _⟩
  subst hln
  have hb : ((l : Int) != (l : Int)) = false := by simp
  have hmk := run_make_row' (P := Try.prog) 49 4 (.bool false) 1 Try.underlying49 bool_info rfl .i64 .i64 l (by omega) (by omega)
  go_enter Try.func38, Try.ntmps38
  go_upto_region 4 with (fail)
  have hI := (Owned.made w (.bool false) l 4 (by simp only [maxLen]; omega)).congr (g := fun i _ => .bool (seenF ord 0 i)) (fun i j _ _ => by rw [seen_zero])
  have hW0 := below_a1 w (.cells (madeCells #[.bool false] l) 4)
  obtain ⟨g, hg⟩ : ∃ g, g = w.heap.size := ⟨_, rfl⟩
  rw [← hg] at hI
  rw [← hg]
  generalize hW : w.alloc _ = W at hI hW0 ⊢
  have hgw : w.heap.size ≤ g := by omega
  clear hW hmk hg
  go_wp2_with fail
  go_loopw [6] (fun t wr => ∃ k : Nat, k ≤ l ∧ t = .int .i64 k ∧ Hid (GoodTo l ord k) ∧ Owned wr g 4 1 (.slice (some ⟨g, 0, none⟩) l l) l (fun i _ => .bool (seenF ord k i)) ∧ Below w.heap.size w wr) (fun t _ => l - (intOf t).toNat)
  case atStart => exact ⟨0, Nat.zero_le _, rfl, Lib.hid (fun i hi => absurd hi (by omega)), hI, hW0⟩
  case round =>
    obtain ⟨k, hk, rfl, hno, kI, hwr⟩ := hrel
    clear hI hW0
    by_cases hlt : k < l
    · obtain ⟨b, off, rfl, hB⟩ := HP.out.addr (by omega)
      have f0 := (hwr.cell (p := ⟨_, _, none⟩) hB).trans (HP.out.at1 hlt)
      have hlt' : (k : Int) < l := by omega
      have hk0 : (0 : Int) ≤ k := by omega
      by_cases h1 : ord k < 0
      · have HR := Lib.hid (order_bad (l := l) hlt (.inl h1))
        go_wp2_with fail
        go_ret
        exact ⟨ret_bool HR.out.symm, hwr⟩
      by_cases h2 : (l : Int) ≤ ord k
      · have HR := Lib.hid (order_bad (l := l) hlt (.inr (.inl h2)))
        go_wp2_with fail
        go_ret
        exact ⟨ret_bool HR.out.symm, hwr⟩
      obtain ⟨x, hx⟩ := Int.eq_ofNat_of_zero_le (by omega : 0 ≤ ord k)
      have hxl : x < l := by omega
      have hxl' : (x : Int) < l := by omega
      have hx0 : (0 : Int) ≤ x := by omega
      obtain ⟨hgb, hgl, hcell, hfz⟩ := kI.cells1
      have g0 := hcell x hxl
      have z0 := hfz x
      have HX := Lib.hid hx
      rw [hx] at f0
      clear h1 h2 hx hcell hfz
      cases hs : seenF ord k x
      · rw [hs] at g0
        have HS := Lib.hid hs
        clear hs
        go_wp2_with fail
        have kI2 := (kI.put1 (k := x) (.bool true)).congr (g := fun i _ => .bool (seenF ord (k + 1) i)) (fun i j hi hj => by
          unfold upd
          rw [seen_succ HX.out]
          by_cases hix : i = x
          · rw [if_pos hix, if_pos ⟨hix, by omega⟩]
          · rw [if_neg hix, if_neg (fun h => hix h.1)])
        have hw2 := hwr.setCell (p := ⟨g, x, none⟩) (by simp only []; omega) (.bool true)
        generalize hW : World.setCell _ _ _ = W2 at kI2 hw2 ⊢
        clear hW g0 z0 f0
        go_roundw
        case rel => exact ⟨k + 1, by omega, by go_num, Lib.hid (good_succ hno.out HX.out hxl HS.out), kI2, hw2⟩
        case measure => simp [intOf]; omega
      · rw [hs] at g0
        have HR := Lib.hid (order_bad (l := l) hlt (.inr (.inr ⟨x, HX.out, hs⟩)))
        clear hs
        go_wp2_with fail
        go_ret
        exact ⟨ret_bool HR.out.symm, hwr⟩
    · obtain rfl : k = l := by omega
      have HR := Lib.hid (order_good hno.out)
      go_wp2_with fail
      go_ret
      exact ⟨ret_bool HR.out.symm, hwr⟩

/-- What checked leaves. -/
def CheckedPost (w : World) (m : Nat) (poly : Nat → Poly) (l : Nat) (ord : Nat → Int) (e : Ending) (w' : World) : Prop :=
  Below w.heap.size w w' ∧
  ((bothErr m poly l ord = 0 ∧ ∃ v, e = .returned (.tuple #[v, .int .i64 0]) ∧ Owned w' w.heap.size 37 2 v m (fun i => spotC (startF poly i))) ∨
   (bothErr m poly l ord ≠ 0 ∧ e = .returned (.tuple #[.slice none 0 0, .int .i64 (bothErr m poly l ord)])))

theorem checked_fail {w w' : World} {m : Nat} {poly : Nat → Poly} {l : Nat} {ord : Nat → Int} {x : Int} (he : bothErr m poly l ord = x) (h0 : x ≠ 0) (hb : Below w.heap.size w w') :
    CheckedPost w m poly l ord (.returned (.tuple #[.slice none 0 0, .int .i64 x])) w' := ⟨hb, .inr ⟨by rw [he]; exact h0, by rw [he]⟩⟩

theorem both_chk {m : Nat} {poly : Nat → Poly} {l : Nat} {ord : Nat → Int} (h : chkErr m poly ≠ 0) : bothErr m poly l ord = chkErr m poly := by unfold bothErr; rw [if_pos h]
theorem both_ord {m : Nat} {poly : Nat → Poly} {l : Nat} {ord : Nat → Int} (h : chkErr m poly = 0) (ho : orderF l m ord = true) : bothErr m poly l ord = 0 := by unfold bothErr; rw [if_neg (fun h' => h' h), if_pos ho]
theorem both_bad {m : Nat} {poly : Nat → Poly} {l : Nat} {ord : Nat → Int} (h : chkErr m poly = 0) (ho : orderF l m ord = false) : bothErr m poly l ord = 1 := by unfold bothErr; rw [if_neg (fun h' => h' h), if_neg (by rw [ho]; decide)]
theorem both_zero {m : Nat} {poly : Nat → Poly} {l : Nat} {ord : Nat → Int} (h : bothErr m poly l ord = 0) : chkErr m poly = 0 ∧ IsOrder l m ord := by
  by_cases h1 : chkErr m poly = 0
  · refine ⟨h1, ?_⟩
    cases ho : orderF l m ord
    · rw [both_bad h1 ho] at h; exact absurd h (by decide)
    · exact of_decide_eq_true ho
  · rw [both_chk h1] at h; exact absurd h h1

set_option maxHeartbeats 800000 in
theorem checked_any (A A2 : Option Addr) (m c l c2 : Nat) (poly : Nat → Poly) (ord : Nat → Int) (w : World) (hl : l ≤ 1000) (hq : Polys w w.heap.size A m poly) (hp : Row w w.heap.size 1 A2 l (fun i _ => .int .i64 (ord i))) :
    Calls Try.prog 25 #[.slice A m c, .slice A2 l c2] w (CheckedPost w m poly l ord) := by
  have HP := Lib.hid hp
  clear hp
  go_enter Try.func25, Try.ntmps25
  go_wp2_with fail
  refine (starts_any A m c poly _ hq).mono ?_
  rintro e w1 ⟨hb1, ⟨hE, v, rfl, hN⟩ | ⟨hE, rfl⟩⟩
  rotate_left
  · have HB := Lib.hid (both_chk (l := l) (ord := ord) hE)
    have HE := Lib.hid hE
    have hne : (chkErr m poly != 0) = true := bne_iff_ne.2 hE
    clear hE
    go_wp2_with fail
    go_ret2
    exact checked_fail HB.out HE.out hb1
  have HE := Lib.hid hE
  have hm60 := (chk_valid hE).1
  clear hE
  obtain ⟨AN, cN, rfl, _, _, _⟩ := hN.form
  have HN := Lib.hid hN
  clear hN
  go_wp2_with fail
  refine (isOrder_any A2 l c2 m ord _ hl (by omega) (HP.out.later hb1)).mono ?_
  rintro e w2 ⟨rfl, hb2⟩
  have hb3 := below_up hb1 hb2
  cases ho : orderF l m ord
  · have HB := Lib.hid (both_bad HE.out ho)
    clear ho
    go_wp2_with fail
    go_ret2
    exact checked_fail HB.out (by decide) hb3
  · have HB := Lib.hid (both_ord HE.out ho)
    clear ho
    go_wp2_with fail
    go_ret2
    exact ⟨hb3, .inl ⟨HB.out, _, rfl, HN.out.later hb2⟩⟩

set_option maxHeartbeats 800000 in
theorem rboth_any (A A2 : Option Addr) (m c l c2 : Nat) (poly : Nat → Poly) (ord : Nat → Int) (w : World) (hl : l ≤ 1000) (hq : Polys w w.heap.size A m poly) (hp : Row w w.heap.size 1 A2 l (fun i _ => .int .i64 (ord i))) :
    Calls Try.prog 27 #[.slice A m c, .slice A2 l c2] w fun e w' => e = .returned (.int .i64 (bothErr m poly l ord)) ∧ Below w.heap.size w w' := by
  have HP := Lib.hid hp
  clear hp
  go_enter Try.func27, Try.ntmps27
  go_wp2_with fail
  refine (rcheckall_any A m c poly _ hq).mono ?_
  rintro e w1 ⟨rfl, hb1⟩
  by_cases hE : chkErr m poly = 0
  rotate_left
  · have HB := Lib.hid (both_chk (l := l) (ord := ord) hE)
    have hne : (chkErr m poly != 0) = true := bne_iff_ne.2 hE
    clear hE
    go_wp2_with fail
    go_ret
    exact ⟨ret_int HB.out.symm, hb1⟩
  have HE := Lib.hid hE
  have hm60 := (chk_valid hE).1
  rw [hE]
  clear hE
  go_wp2_with fail
  refine (rwhole_any A2 l c2 m ord _ hl (by omega) (HP.out.later hb1)).mono ?_
  rintro e w2 ⟨rfl, hb2⟩
  have hb3 := below_up hb1 hb2
  cases ho : orderF l m ord
  · have HB := Lib.hid (both_bad HE.out ho)
    clear ho
    go_wp2_with fail
    go_ret
    exact ⟨ret_int HB.out.symm, hb3⟩
  · have HB := Lib.hid (both_ord HE.out ho)
    clear ho
    go_wp2_with fail
    go_ret
    exact ⟨ret_int HB.out.symm, hb3⟩

set_option maxHeartbeats 800000 in
theorem sameInts_any (A A2 : Option Addr) (n m c c2 : Nat) (f g : Nat → Int) (w : World) (hn : n ≤ 1000) (hm : m ≤ 1000) (hp : Row w w.heap.size 1 A n (fun i _ => .int .i64 (f i))) (hq : Row w w.heap.size 1 A2 m (fun i _ => .int .i64 (g i))) :
    Calls Try.prog 18 #[.slice A n c, .slice A2 m c2] w
      fun e w' => e = .returned (.bool (sameListF n m (fun i => decide (f i = g i)))) ∧ Below w.heap.size w w' := by
  have HP := Lib.hid hp
  have HQ := Lib.hid hq
  clear hp hq
  by_cases hnm : n = m
  rotate_left
  · have hb : ((n : Int) != (m : Int)) = true := bne_iff_ne.2 (by omega)
    have HR := Lib.hid (sameList_len (q := fun i => decide (f i = g i)) hnm)
    go_enter Try.func18, Try.ntmps18
    go_wp2_with fail
    go_ret
    exact ⟨ret_bool HR.out.symm, Below.refl _ _⟩
  subst hnm
  have hb : ((n : Int) != (n : Int)) = false := by simp
  go_enter Try.func18, Try.ntmps18
  go_wp2_with fail
  go_loopw [5] (fun t wr => ∃ k : Nat, k ≤ n ∧ t = .int .i64 k ∧ Hid (∀ i, i < k → decide (f i = g i) = true) ∧ Below w.heap.size w wr) (fun t _ => n - (intOf t).toNat)
  case atStart => exact ⟨0, Nat.zero_le _, rfl, Lib.hid (fun j hj => absurd hj (by omega)), Below.refl _ _⟩
  case round =>
    obtain ⟨k, hk, rfl, hno, hwr⟩ := hrel
    have hs1 : w.heap.size ≤ wr.heap.size := hwr.size
    by_cases hlt : k < n
    · obtain ⟨bx, ox, rfl, hBx⟩ := HP.out.addr (by omega)
      obtain ⟨bY, oy, rfl, hBy⟩ := HQ.out.addr (by omega)
      have e0 := HP.out.at1 hlt
      have x0 := fun z : Ext w.heap.size wr => z.cell (b := bx) (by omega) ((hwr.cell (p := ⟨_, _, none⟩) (by simp only []; omega)).trans e0)
      clear e0
      have e0 := HQ.out.at1 hlt
      have y0 := fun z : Ext w.heap.size wr => z.cell (b := bY) (by omega) ((hwr.cell (p := ⟨_, _, none⟩) (by simp only []; omega)).trans e0)
      clear e0
      have hlt' : (k : Int) < n := by omega
      have hk0 : (0 : Int) ≤ k := by omega
      go_upto_region 6 with (fail)
      refine region_ext w.heap.size (by kernel_rfl) (by kernel_rfl) ?_
      repeat (go_big_quiet_step (fail))
      refine wpQuiet_nil ?_
      rintro _ ⟨z, rfl⟩
      obtain ⟨wq, hq⟩ := z
      dsimp only
      clear x0 y0
      have hwq : Below w.heap.size w wq := hwr.trans hq
      cases hv : decide (f k = g k)
      · have hV := Lib.hid hv
        have HR := Lib.hid (sameList_at (q := fun i => decide (f i = g i)) hlt hv)
        try simp only [decide_eq_false_iff_not] at hv
        try (have hv2 : (((f k) : Int) != (g k)) = true := bne_iff_ne.2 hv)
        go_wp2_with fail
        go_ret
        exact ⟨ret_bool HR.out.symm, hwq⟩
      · have hV := Lib.hid hv
        try simp only [decide_eq_true_eq] at hv
        try (have hv2 : (((f k) : Int) != (g k)) = false := by rw [hv]; simp)
        try clear hv
        go_wp2_with fail
        go_roundw
        case rel => exact ⟨k + 1, by omega, by go_num, Lib.hid (fun i hi => by rcases Nat.lt_succ_iff_lt_or_eq.1 hi with h' | rfl; exact hno.out i h'; exact hV.out), hwq⟩
        case measure => simp [intOf]; omega
    · have HR := Lib.hid (sameList_true (n := n) (q := fun i => decide (f i = g i)) (fun i hi => hno.out i (by omega)))
      go_wp2_with fail
      go_ret
      exact ⟨ret_bool HR.out.symm, hwr⟩


def LightPost (w : World) (m : Nat) (poly : Nat → Poly) (e : Ending) (w' : World) : Prop :=
  Below w.heap.size w w' ∧ (e = .returned (.bool false) ∨ (e = .returned (.bool true) ∧ m ≤ 70 ∧ ∀ i, i < m → (poly i).pn ≤ 60))

set_option maxHeartbeats 800000 in
theorem light_any (A : Option Addr) (m c : Nat) (poly : Nat → Poly) (w : World) (hq : Row w w.heap.size 1 A m (fun i _ => .slice (poly i).pa (poly i).pn (poly i).pc)) :
    Calls Try.prog 10 #[.slice A m c] w (LightPost w m poly) := by
  have HQ := Lib.hid hq
  clear hq
  go_enter Try.func10, Try.ntmps10
  go_wp2_with fail
  go_loopw [3] (fun t wr => ∃ k : Nat, k ≤ m ∧ k ≤ 70 ∧ t = .int .i64 k ∧ Hid (∀ i, i < k → (poly i).pn ≤ 60) ∧ Below w.heap.size w wr) (fun t _ => m - (intOf t).toNat)
  case atStart => exact ⟨0, Nat.zero_le _, Nat.zero_le _, rfl, Lib.hid (fun i hi => absurd hi (by omega)), Below.refl _ _⟩
  case round =>
    obtain ⟨k, hk, hkx, rfl, hno, hwr⟩ := hrel
    by_cases hlt : k < m
    · have hlt' : (k : Int) < m := by omega
      have hk0 : (0 : Int) ≤ k := by omega
      by_cases hlx : k < 70
      · have hlx' : (k : Int) < 70 := by omega
        obtain ⟨bp, op, rfl, hBp⟩ := HQ.out.addr (by omega)
        have f0 := (hwr.cell (p := ⟨_, _, none⟩) hBp).trans (HQ.out.at1 hlt)
        by_cases hp : 60 < (poly k).pn
        · have hp' : (60 : Int) < (poly k).pn := by omega
          go_wp2_with fail
          go_ret
          exact ⟨hwr, .inl rfl⟩
        · have hp' : ¬ (60 : Int) < (poly k).pn := by omega
          go_wp2_with fail
          go_roundw
          case rel => exact ⟨k + 1, by omega, by omega, by go_num, Lib.hid (fun i hi => by rcases Nat.lt_succ_iff_lt_or_eq.1 hi with h' | rfl; exact hno.out i h'; omega), hwr⟩
          case measure => simp [intOf]; omega
      · have hlx' : ¬ (k : Int) < 70 := by omega
        have hmx : ¬ (m : Int) ≤ 70 := by omega
        go_wp2_with fail
        go_ret
        exact ⟨hwr, .inl rfl⟩
    · obtain rfl : k = m := by omega
      have hlt' : ¬ (k : Int) < k := by omega
      have hmx : (k : Int) ≤ 70 := by omega
      go_wp2_with fail
      go_ret
      exact ⟨hwr, .inr ⟨rfl, hkx, hno.out⟩⟩

end Go.Proofs.Ytpjckolfjaffjaa
