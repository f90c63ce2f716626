/- RecutResults: the walk. -/
import Derived.Test.YtmjfalabjlbdeaaRecT
import Derived.Test.YtmjfalabjlbdeaaRecS
import Derived.Test.YtmjfalabjlbdeaaRecI
namespace Go.Proofs.Ytmjfalabjlbdeaa
open Go.RowKit
set_option linter.unusedSimpArgs false
set_option linter.unusedVariables false

theorem same_cut_self (t : Piece) : sameCutF t t = true := by
  unfold sameCutF sameRollsF
  rw [sameList_true (fun j _ => decide_eq_true rfl), Bool.and_true]
  exact decide_eq_true ⟨rfl, rfl, rfl, rfl, rfl⟩
theorem same_cuts_self (n : Nat) (f : Nat → Piece) : sameListF n n (fun i => sameCutF (f i) (f i)) = true := sameList_true (fun i _ => same_cut_self _)

theorem CutsIn.few {w : World} {A : Option Addr} {n : Nat} {cut : Nat → Cut} {roll : Nat → Nat → Int} (h : CutsIn w A n cut roll) (hb : ∀ i, i < n → (cut i).rn ≤ 5) :
    ∀ i, i < n → (cut i).rn ≤ 1000 ∧ Row w w.heap.size 1 (cut i).ra (cut i).rn (fun j _ => .int .i64 (roll i j)) :=
  fun i hi => ⟨by have := hb i hi; omega, h.2 i hi⟩

theorem rolls_later {w w' : World} {n : Nat} {cut : Nat → Cut} {roll : Nat → Nat → Int} (h : ∀ i, i < n → (cut i).rn ≤ 1000 ∧ Row w w.heap.size 1 (cut i).ra (cut i).rn (fun j _ => .int .i64 (roll i j))) (hb : Below w.heap.size w w') :
    ∀ i, i < n → (cut i).rn ≤ 1000 ∧ Row w' w'.heap.size 1 (cut i).ra (cut i).rn (fun j _ => .int .i64 (roll i j)) :=
  fun i hi => ⟨(h i hi).1, (h i hi).2.later hb⟩

theorem pieces_none (w : World) (A : Option Addr) : Pieces w A 0 (fun _ => ⟨0, 0, 0, 0, none, 0, 0, false⟩) (fun _ => ⟨0, 0, 0, 0, 0, fun _ => 0, false⟩) :=
  ⟨fun h => absurd h (by omega), fun i hi => absurd hi (by omega)⟩

set_option maxRecDepth 100000 in
set_option maxHeartbeats 1600000 in
theorem results_any (A A2 A3 : Option Addr) (n c m c2 q c3 : Nat) (cut : Nat → Cut) (roll : Nat → Nat → Int) (poly : Nat → Poly) (rest : Nat → Rest) (w : World)
    (hp : CutsIn w A n cut roll) (hq : PolysIn w A2 m poly) (hr : Row w w.heap.size 4 A3 q (fun i => (rest i).c)) :
    Calls Try.prog 5 #[.slice A n c, .slice A2 m c2, .slice A3 q c3] w fun e w' => e = .returned (.bool true) ∧ Below w.heap.size w w' := by
  have HC := Lib.hid hp
  have HP := Lib.hid hp.1
  have HQ := Lib.hid hq
  have HR := Lib.hid hr
  clear hp hq hr
  by_cases hq30 : 30 < q
  · have hq' : (30 : Int) < q := by omega
    go_enter Try.func5, Try.ntmps5
    go_wp2_with fail
    refine (few_any _ _ n _ m _ cut poly _ HP.out HQ.out.1).mono ?_
    rintro e w1 ⟨hb1, rfl | ⟨rfl, hn, hm, hrr, hs⟩⟩
    all_goals
      go_wp2_with fail
      refine (example_any _).mono ?_
      rintro e w2 ⟨rfl, hb2⟩
      go_wp2_with fail
      go_ret
      exact ⟨rfl, below_up hb1 hb2⟩
  have hq' : ¬ (30 : Int) < q := by omega
  go_enter Try.func5, Try.ntmps5
  go_wp2_with fail
  refine (few_any _ _ n _ m _ cut poly _ HP.out HQ.out.1).mono ?_
  rintro e w1 ⟨hb1, rfl | ⟨rfl, hn, hm, hrr, hs⟩⟩
  · go_wp2_with fail
    refine (example_any _).mono ?_
    rintro e w2 ⟨rfl, hb2⟩
    go_wp2_with fail
    go_ret
    exact ⟨rfl, below_up hb1 hb2⟩
  have HP1 := Lib.hid (HP.out.later hb1)
  have HQ1 := Lib.hid ((HQ.out.few hs).later hb1)
  have HL1 := Lib.hid (rolls_later (HC.out.few hrr) hb1)
  have HR1 := Lib.hid (HR.out.later hb1)
  clear HP HQ HC HR hrr hs
  go_wp2_with fail
  refine (recut_any _ _ _ n _ m _ q _ cut poly rest roll _ (by omega) (by omega) (by omega) HP1.out HQ1.out HR1.out HL1.out).mono ?_
  rintro e w2 ⟨hb2, hcase⟩
  have HP2 := Lib.hid (HP1.out.later hb2)
  have HQ2 := Lib.hid (HQ1.out.later hb2)
  have HL2 := Lib.hid (rolls_later HL1.out hb2)
  have HR2 := Lib.hid (HR1.out.later hb2)
  have hb3 := below_up hb1 hb2
  clear hb1 hb2 HP1 HQ1 HL1 HR1
  rcases hcase with ⟨hE, vN, vI, rfl, hN, hI⟩ | ⟨hE, rfl⟩
  · obtain ⟨AN, cN, fN, rfl, _, rN⟩ := hN.pieces
    obtain ⟨AI, cI, rfl, _, _, rI⟩ := hI.form
    have KN := Lib.hid rN
    have KI := Lib.hid rI
    clear rN rI hN hI
    go_wp2_with fail
    refine (rrecut_any _ _ _ n _ m _ q _ cut poly rest roll _ (by omega) (by omega) (by omega) HP2.out HQ2.out HR2.out HL2.out).mono ?_
    rintro e w4 ⟨hb4, ⟨hE2, vN, vI, rfl, hN, hI⟩ | ⟨hE2, rfl⟩⟩
    rotate_left
    · exact absurd hE hE2
    clear hE hE2
    obtain ⟨AN2, cN2, fN2, rfl, _, rN⟩ := hN.pieces
    obtain ⟨AI2, cI2, rfl, _, _, rI⟩ := hI.form
    have LN := Lib.hid rN
    have LI := Lib.hid rI
    have KN2 := Lib.hid (KN.out.later hb4)
    have KI2 := Lib.hid (KI.out.later hb4)
    have hb5 := below_up hb3 hb4
    clear rN rI hN hI hb3 hb4 KN KI HP2 HQ2 HL2 HR2
    go_wp2_with fail
    refine (sameCuts_any _ _ n n _ _ _ _ _ _ _ (by omega) (by omega) KN2.out LN.out).mono ?_
    rintro e w5 ⟨rfl, hb6⟩
    rw [same_cuts_self]
    have KI3 := Lib.hid (KI2.out.later hb6)
    have LI3 := Lib.hid (LI.out.later hb6)
    have hb7 := below_up hb5 hb6
    clear hb5 hb6 KI2 LI KN2 LN
    go_wp2_with fail
    refine (sameRests_any _ _ q q _ _ _ _ _ (by omega) (by omega) KI3.out LI3.out).mono ?_
    rintro e w6 ⟨rfl, hb8⟩
    rw [same_rests_self]
    have hb9 := below_up hb7 hb8
    go_wp2_with fail
    refine (example_any _).mono ?_
    rintro e w7 ⟨rfl, hb10⟩
    go_wp2_with fail
    go_ret
    exact ⟨rfl, below_up hb9 hb10⟩
  · go_wp2_with fail
    refine (rrecut_any _ _ _ n _ m _ q _ cut poly rest roll _ (by omega) (by omega) (by omega) HP2.out HQ2.out HR2.out HL2.out).mono ?_
    rintro e w4 ⟨hb4, ⟨hE2, vN, vI, rfl, hN, hI⟩ | ⟨hE2, rfl⟩⟩
    · exact absurd hE2 hE
    have hb5 := below_up hb3 hb4
    clear hE hE2 hb3 hb4 HP2 HQ2 HL2 HR2
    generalize firstErr (fun i => cutErr m poly (cut i)) n = x
    have hxx : (x == x) = true := by simp
    go_wp2_with fail
    refine (sameCuts_any none none 0 0 0 0 _ _ _ _ _ (by omega) (by omega) (pieces_none _ _) (pieces_none _ _)).mono ?_
    rintro e w5 ⟨rfl, hb6⟩
    rw [same_none]
    have hb7 := below_up hb5 hb6
    clear hb5 hb6
    go_wp2_with fail
    refine (sameRests_any none none 0 0 0 0 (fun _ => ⟨0, 0, 0, 0⟩) (fun _ => ⟨0, 0, 0, 0⟩) _ (by omega) (by omega) (row_none _ _ _ _) (row_none _ _ _ _)).mono ?_
    rintro e w6 ⟨rfl, hb8⟩
    rw [same_none]
    have hb9 := below_up hb7 hb8
    go_wp2_with fail
    refine (example_any _).mono ?_
    rintro e w7 ⟨rfl, hb10⟩
    go_wp2_with fail
    go_ret
    exact ⟨rfl, below_up hb9 hb10⟩

end Go.Proofs.Ytmjfalabjlbdeaa
