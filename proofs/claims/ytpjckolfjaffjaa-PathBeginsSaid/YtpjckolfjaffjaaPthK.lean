/- PathTravels, PathOrders: the walks. -/
import Derived.Test.YtpjckolfjaffjaaPthJ
namespace Go.Proofs.Ytpjckolfjaffjaa
open Go.RowKit
set_option linter.unusedSimpArgs false
set_option linter.unusedVariables false

theorem PolysIn.light {w : World} {A : Option Addr} {m : Nat} {poly : Nat → Poly} (h : PolysIn w A m poly) (hb : ∀ i, i < m → (poly i).pn ≤ 60) : Polys w w.heap.size A m poly :=
  ⟨h.1, fun i hi => ⟨(h.2 i hi).1, (h.2 i hi).2, by have := hb i hi; omega⟩⟩

theorem same_ints_self (n : Nat) (f : Nat → Int) : sameListF n n (fun i => decide (f i = f i)) = true := sameList_true (fun i _ => decide_eq_true rfl)
theorem same_none (q : Nat → Bool) : sameListF 0 0 q = true := sameList_true (fun i hi => absurd hi (by omega))

set_option maxHeartbeats 1600000 in
theorem travels_any (A A2 : Option Addr) (m c l c2 : Nat) (poly : Nat → Poly) (ord : Nat → Int) (w : World) (hq : PolysIn w A m poly) (hp : Row w w.heap.size 1 A2 l (fun i _ => .int .i64 (ord i))) :
    Calls Try.prog 3 #[.slice A m c, .slice A2 l c2] w fun e w' => e = .returned (.bool true) ∧ Below w.heap.size w w' := by
  have HQ := Lib.hid hq
  have HP := Lib.hid hp
  clear hq hp
  by_cases hl : 100 < l
  · have hl' : (100 : Int) < l := by omega
    go_enter Try.func3, Try.ntmps3
    go_wp2_with fail
    refine (light_any A m c poly _ HQ.out.1).mono ?_
    rintro e w1 ⟨hb1, rfl | ⟨rfl, hm, hs⟩⟩
    all_goals
      go_wp2_with fail
      refine (alive_any _).mono ?_
      rintro e w2 ⟨rfl, hb2⟩
      go_wp2_with fail
      go_ret
      exact ⟨rfl, below_up hb1 hb2⟩
  have hl' : ¬ (100 : Int) < l := by omega
  go_enter Try.func3, Try.ntmps3
  go_wp2_with fail
  refine (light_any A m c poly _ HQ.out.1).mono ?_
  rintro e w1 ⟨hb1, rfl | ⟨rfl, hm, hs⟩⟩
  · go_wp2_with fail
    refine (alive_any _).mono ?_
    rintro e w2 ⟨rfl, hb2⟩
    go_wp2_with fail
    go_ret
    exact ⟨rfl, below_up hb1 hb2⟩
  have HQ1 := Lib.hid ((HQ.out.light hs).later hb1)
  have HP1 := Lib.hid (HP.out.later hb1)
  clear HQ HP hs
  go_wp2_with fail
  refine (Travel_any _ _ m _ l _ poly ord _ (by omega) HQ1.out HP1.out).mono ?_
  rintro e w2 ⟨rfl, hb2⟩
  have HQ2 := Lib.hid (HQ1.out.later hb2)
  have HP2 := Lib.hid (HP1.out.later hb2)
  have hb3 := below_up hb1 hb2
  clear HQ1 HP1 hb1 hb2
  go_wp2_with fail
  refine (rTravel_any _ _ m _ l _ poly ord _ (by omega) HQ2.out HP2.out).mono ?_
  rintro e w3 ⟨rfl, hb4⟩
  have hb5 := below_up hb3 hb4
  clear HQ2 HP2 hb3 hb4
  generalize travV m poly l ord = x
  generalize bothErr m poly l ord = y
  have hx : (x == x) = true := by simp
  have hy : (y == y) = true := by simp
  go_wp2_with fail
  refine (alive_any _).mono ?_
  rintro e w4 ⟨rfl, hb6⟩
  go_wp2_with fail
  go_ret
  exact ⟨rfl, below_up hb5 hb6⟩

/-- n, or 0 if there is an error. -/
def lenF (err : Int) (n : Nat) : Nat := if err = 0 then n else 0
theorem lenF_ok {err : Int} (n : Nat) (h : err = 0) : lenF err n = n := if_pos h
theorem lenF_no {err : Int} (n : Nat) (h : err ≠ 0) : lenF err n = 0 := if_neg h

/-- A list of numbers with an error, as Greedy and Improve return them. -/
def ListPost (w : World) (n : Nat) (err : Int) (f : Nat → Int) (e : Ending) (w' : World) : Prop :=
  Below w.heap.size w w' ∧ ∃ A c, e = .returned (.tuple #[.slice A (lenF err n) c, .int .i64 err]) ∧ Row w' w'.heap.size 1 A (lenF err n) (fun j _ => .int .i64 (f j))

theorem GreedyPost.list {w w' : World} {m : Nat} {poly : Nat → Poly} {e : Ending} (h : GreedyPost w m poly e w') : ListPost w m (chkErr m poly) (gordF (startF poly) m m) e w' := by
  obtain ⟨hb, ⟨hE, v, rfl, hO⟩ | ⟨hE, rfl⟩⟩ := h
  · obtain ⟨A, c, rfl, _, _, hr⟩ := hO.form
    refine ⟨hb, A, c, ?_, ?_⟩
    · rw [lenF_ok _ hE, hE]
    · rw [lenF_ok _ hE]; exact hr
  · refine ⟨hb, none, 0, ?_, ?_⟩
    · rw [lenF_no _ hE]
    · rw [lenF_no _ hE]; exact row_none _ _ _ _

theorem ImpPost.list {w w' : World} {m : Nat} {poly : Nat → Poly} {l : Nat} {ord : Nat → Int} {e : Ending} (h : ImpPost w m poly l ord e w') : ListPost w l (bothErr m poly l ord) (impF (startF poly) l ord 1000) e w' := by
  obtain ⟨hb, ⟨hE, v, rfl, hO⟩ | ⟨hE, rfl⟩⟩ := h
  · obtain ⟨A, c, rfl, _, _, hr⟩ := hO.form
    refine ⟨hb, A, c, ?_, ?_⟩
    · rw [lenF_ok _ hE, hE]
    · rw [lenF_ok _ hE]; exact hr
  · refine ⟨hb, none, 0, ?_, ?_⟩
    · rw [lenF_no _ hE]
    · rw [lenF_no _ hE]; exact row_none _ _ _ _

theorem list_len (err : Int) (n : Nat) (h : n ≤ 1000) : lenF err n ≤ 1000 := by unfold lenF; split <;> omega

set_option maxRecDepth 100000 in
set_option maxHeartbeats 3200000 in
theorem orders_any (A A2 : Option Addr) (m c l c2 : Nat) (poly : Nat → Poly) (ord : Nat → Int) (w : World) (hq : PolysIn w A m poly) (hp : Row w w.heap.size 1 A2 l (fun i _ => .int .i64 (ord i))) :
    Calls Try.prog 4 #[.slice A m c, .slice A2 l c2] w fun e w' => e = .returned (.bool true) ∧ Below w.heap.size w w' := by
  have HQ := Lib.hid hq
  have HP := Lib.hid hp
  clear hq hp
  by_cases hl : 100 < l
  · have hl' : (100 : Int) < l := by omega
    go_enter Try.func4, Try.ntmps4
    go_wp2_with fail
    refine (light_any A m c poly _ HQ.out.1).mono ?_
    rintro e w1 ⟨hb1, rfl | ⟨rfl, hm, hs⟩⟩
    all_goals
      go_wp2_with fail
      refine (alive_any _).mono ?_
      rintro e w2 ⟨rfl, hb2⟩
      go_wp2_with fail
      go_ret
      exact ⟨rfl, below_up hb1 hb2⟩
  have hl' : ¬ (100 : Int) < l := by omega
  by_cases hbig : 8 < m ∧ m ≤ 60
  · obtain ⟨h1, h2⟩ := hbig
    have h1' : (8 : Int) < m := by omega
    have h2' : (m : Int) ≤ 60 := by omega
    go_enter Try.func4, Try.ntmps4
    go_wp2_with fail
    refine (light_any A m c poly _ HQ.out.1).mono ?_
    rintro e w1 ⟨hb1, rfl | ⟨rfl, hm, hs⟩⟩
    all_goals
      go_wp2_with fail
      refine (alive_any _).mono ?_
      rintro e w2 ⟨rfl, hb2⟩
      go_wp2_with fail
      go_ret
      exact ⟨rfl, below_up hb1 hb2⟩
  go_enter Try.func4, Try.ntmps4
  go_wp2_with fail
  refine (light_any A m c poly _ HQ.out.1).mono ?_
  rintro e w1 ⟨hb1, rfl | ⟨rfl, hm, hs⟩⟩
  · go_wp2_with fail
    refine (alive_any _).mono ?_
    rintro e w2 ⟨rfl, hb2⟩
    go_wp2_with fail
    go_ret
    exact ⟨rfl, below_up hb1 hb2⟩
  have HQ1 := Lib.hid ((HQ.out.light hs).later hb1)
  have HP1 := Lib.hid (HP.out.later hb1)
  clear HQ HP hs
  rcases Int.lt_or_le 8 m with hh | hh
  rotate_left
  rotate_left
  have hh2 : ¬ (m : Int) ≤ 60 := by omega
  rotate_left
  all_goals
    clear hbig
    go_wp2_with fail
    refine (Greedy_any _ m _ poly _ HQ1.out).mono ?_
    intro e w2 hpost
    obtain ⟨hb2, AG, cG, rfl, rG⟩ := hpost.list
    have HQ2 := Lib.hid (HQ1.out.later hb2)
    have HP2 := Lib.hid (HP1.out.later hb2)
    have RG := Lib.hid rG
    have bb2 := below_up hb1 hb2
    clear HQ1 HP1 hb1 hb2 rG hpost
    have hlenG := list_len (chkErr m poly) m (by omega)
    have hlenI := list_len (bothErr m poly l ord) l (by omega)
    go_wp2_with fail
    refine (rGreedy_any _ m _ poly _ HQ2.out).mono ?_
    intro e w3 hpost
    obtain ⟨hb3, AH, cH, rfl, rH⟩ := hpost.list
    have HQ3 := Lib.hid (HQ2.out.later hb3)
    have HP3 := Lib.hid (HP2.out.later hb3)
    have RG3 := Lib.hid (RG.out.later hb3)
    have RH := Lib.hid rH
    have bb3 := below_up bb2 hb3
    clear HQ2 HP2 RG bb2 hb3 rH hpost
    go_wp2_with fail
    refine (Improve_any _ _ m _ l _ poly ord _ (by omega) HQ3.out HP3.out).mono ?_
    intro e w4 hpost
    obtain ⟨hb4, AI, cI, rfl, rI⟩ := hpost.list
    have HQ4 := Lib.hid (HQ3.out.later hb4)
    have HP4 := Lib.hid (HP3.out.later hb4)
    have RG4 := Lib.hid (RG3.out.later hb4)
    have RH4 := Lib.hid (RH.out.later hb4)
    have RI := Lib.hid rI
    have bb4 := below_up bb3 hb4
    clear HQ3 HP3 RG3 RH bb3 hb4 rI hpost
    go_wp2_with fail
    refine (rImprove_any _ _ m _ l _ poly ord _ (by omega) HQ4.out HP4.out).mono ?_
    intro e w5 hpost
    obtain ⟨hb5, AJ, cJ, rfl, rJ⟩ := hpost.list
    have RG5 := Lib.hid (RG4.out.later hb5)
    have RH5 := Lib.hid (RH4.out.later hb5)
    have RI5 := Lib.hid (RI.out.later hb5)
    have RJ := Lib.hid rJ
    have bb5 := below_up bb4 hb5
    clear HQ4 HP4 RG4 RH4 RI bb4 hb5 rJ hpost
    generalize lenF (chkErr m poly) m = nG at *
    generalize lenF (bothErr m poly l ord) l = nI at *
    generalize chkErr m poly = y1
    generalize bothErr m poly l ord = y2
    have hy1 : (y1 == y1) = true := by simp
    have hy2 : (y2 == y2) = true := by simp
    go_wp2_with fail
    refine (sameInts_any _ _ nG nG _ _ _ _ _ hlenG hlenG RG5.out RH5.out).mono ?_
    rintro e w6 ⟨rfl, hb6⟩
    rw [same_ints_self]
    have RI6 := Lib.hid (RI5.out.later hb6)
    have RJ6 := Lib.hid (RJ.out.later hb6)
    have bb6 := below_up bb5 hb6
    clear RG5 RH5 RI5 RJ bb5 hb6
    go_wp2_with fail
    refine (sameInts_any _ _ nI nI _ _ _ _ _ hlenI hlenI RI6.out RJ6.out).mono ?_
    rintro e w7 ⟨rfl, hb7⟩
    rw [same_ints_self]
    have bb7 := below_up bb6 hb7
    go_wp2_with fail
    refine (alive_any _).mono ?_
    rintro e w8 ⟨rfl, hb8⟩
    go_wp2_with fail
    go_ret
    exact ⟨rfl, below_up bb7 hb8⟩

end Go.Proofs.Ytpjckolfjaffjaa
