/- RecutTwice: the walk. -/
import Derived.Test.YtmjfalabjlbdeaaRecV
namespace Go.Proofs.Ytmjfalabjlbdeaa
open Go.RowKit
set_option linter.unusedSimpArgs false
set_option linter.unusedVariables false

theorem Pieces.rolls {w : World} {A : Option Addr} {n : Nat} {cut : Nat → Cut} {T : Nat → Piece} (h : Pieces w A n cut T) :
    ∀ i, i < n → (cut i).rn ≤ 1000 ∧ Row w w.heap.size 1 (cut i).ra (cut i).rn (fun j _ => .int .i64 ((T i).roll j)) :=
  fun i hi => ⟨(h.2 i hi).2.2.2.2.2.2.1, (h.2 i hi).row⟩

theorem Pieces.value {w : World} {A : Option Addr} {n : Nat} {cut : Nat → Cut} {T : Nat → Piece} (h : Pieces w A n cut T) (i : Nat) (hi : i < n) : pieceOf (cut i) (T i).roll = T i := by
  obtain ⟨h1, h2, h3, h4, h5, h6, _⟩ := h.2 i hi
  unfold pieceOf
  rw [h1, h2, h3, h4, h5, h6]

set_option maxRecDepth 100000 in
set_option maxHeartbeats 1600000 in
theorem twice_any (A A2 A3 : Option Addr) (n c m c2 q c3 : Nat) (cut : Nat → Cut) (roll : Nat → Nat → Int) (poly : Nat → Poly) (rest : Nat → Rest) (w : World)
    (hp : CutsIn w A n cut roll) (hq : PolysIn w A2 m poly) (hr : Row w w.heap.size 4 A3 q (fun i => (rest i).c)) :
    Calls Try.prog 9 #[.slice A n c, .slice A2 m c2, .slice A3 q c3] w fun e w' => e = .returned (.bool true) ∧ Below w.heap.size w w' := by
  have HC := Lib.hid hp
  have HP := Lib.hid hp.1
  have HQ := Lib.hid hq
  have HR := Lib.hid hr
  clear hp hq hr
  by_cases hq30 : 30 < q
  · have hq' : (30 : Int) < q := by omega
    go_enter Try.func9, Try.ntmps9
    go_wp2_with fail
    refine (few_any _ _ n _ m _ cut poly _ HP.out HQ.out.1).mono ?_
    rintro e w1 ⟨hb1, rfl | ⟨rfl, hn, hm, hrr, hs⟩⟩
    all_goals
      go_wp2_with fail
      refine (example_any _).mono ?_
      rintro e w2 ⟨rfl, hb2⟩
      go_wp2_with fail
      go_ret
      exact ⟨rfl, below_up hb1 hb2⟩
  have hq' : ¬ (30 : Int) < q := by omega
  go_enter Try.func9, Try.ntmps9
  go_wp2_with fail
  refine (few_any _ _ n _ m _ cut poly _ HP.out HQ.out.1).mono ?_
  rintro e w1 ⟨hb1, rfl | ⟨rfl, hn, hm, hrr, hs⟩⟩
  · go_wp2_with fail
    refine (example_any _).mono ?_
    rintro e w2 ⟨rfl, hb2⟩
    go_wp2_with fail
    go_ret
    exact ⟨rfl, below_up hb1 hb2⟩
  have HP1 := Lib.hid (HP.out.later hb1)
  have HQ1 := Lib.hid ((HQ.out.few hs).later hb1)
  have HL1 := Lib.hid (rolls_later (HC.out.few hrr) hb1)
  have HR1 := Lib.hid (HR.out.later hb1)
  clear HP HQ HC HR hrr hs
  go_wp2_with fail
  refine (recut_any _ _ _ n _ m _ q _ cut poly rest roll _ (by omega) (by omega) (by omega) HP1.out HQ1.out HR1.out HL1.out).mono ?_
  rintro e w2 ⟨hb2, hcase⟩
  have HQ2 := Lib.hid (HQ1.out.later hb2)
  have hb3 := below_up hb1 hb2
  clear hb1 hb2 HP1 HQ1 HL1 HR1
  rcases hcase with ⟨hE, vN, vI, rfl, hN, hI⟩ | ⟨hE, rfl⟩
  · obtain ⟨AN, cN, cut2, rfl, _, rN⟩ := hN.pieces
    obtain ⟨AI, cI, rfl, _, _, rI⟩ := hI.form
    have KN := Lib.hid rN
    have KI := Lib.hid rI
    clear rN rI hN hI
    have hi2 := fun i hi => (KN.out.2 i hi)
    have hE2 := Lib.hid (twice_err (cut2 := cut2) (fun i hi => ⟨(hi2 i hi).2.1, (hi2 i hi).2.2.2.2.1⟩) hE)
    have hS2 := Lib.hid (twice_serves (cut2 := cut2) (fun i hi => ⟨(hi2 i hi).2.1, (hi2 i hi).2.2.2.2.1⟩) (fun i hi => (hi2 i hi).2.2.1))
    clear hE hi2
    generalize recutF n q cut poly rest (fun i => pieceOf (cut i) (roll i)) (dmgs cut n).length = T at *
    generalize leftF q (needAt cut poly n) rest (dmgs cut n).length = L at *
    go_wp2_with fail
    refine (recut_any _ _ _ n _ m _ q _ cut2 poly L (fun i => (T i).roll) _ (by omega) (by omega) (by omega) KN.out.1 HQ2.out KI.out KN.out.rolls).mono ?_
    rintro e w4 ⟨hb4, ⟨hE3, vN, vI, rfl, hN, hI⟩ | ⟨hE3, rfl⟩⟩
    rotate_left
    · exact absurd hE2.out hE3
    clear hE2 hE3
    have hN2 := hN.congr (T' := T) (fun i hi => (twice_same hS2.out i).trans (KN.out.value i hi))
    rw [still_left _ hS2.out] at hI
    obtain ⟨AN2, cN2, fN2, rfl, _, rN⟩ := hN2.pieces
    obtain ⟨AI2, cI2, rfl, _, _, rI⟩ := hI.form
    have LN := Lib.hid rN
    have LI := Lib.hid rI
    have KN2 := Lib.hid (KN.out.later hb4)
    have KI2 := Lib.hid (KI.out.later hb4)
    have hb5 := below_up hb3 hb4
    clear rN rI hN hN2 hI hb3 hb4 KN KI HQ2 hS2
    go_wp2_with fail
    refine (sameCuts_any _ _ n n _ _ _ _ _ _ _ (by omega) (by omega) LN.out KN2.out).mono ?_
    rintro e w5 ⟨rfl, hb6⟩
    rw [same_cuts_self]
    have KI3 := Lib.hid (KI2.out.later hb6)
    have LI3 := Lib.hid (LI.out.later hb6)
    have hb7 := below_up hb5 hb6
    clear hb5 hb6 KI2 LI KN2 LN
    go_wp2_with fail
    refine (sameRests_any _ _ q q _ _ _ _ _ (by omega) (by omega) LI3.out KI3.out).mono ?_
    rintro e w6 ⟨rfl, hb8⟩
    rw [same_rests_self]
    have hb9 := below_up hb7 hb8
    go_wp2_with fail
    refine (example_any _).mono ?_
    rintro e w7 ⟨rfl, hb10⟩
    go_wp2_with fail
    go_ret
    exact ⟨rfl, below_up hb9 hb10⟩
  · have hne : (firstErr (fun i => cutErr m poly (cut i)) n != 0) = true := bne_iff_ne.2 hE
    clear hE
    go_wp2_with fail
    refine (example_any _).mono ?_
    rintro e w7 ⟨rfl, hb10⟩
    go_wp2_with fail
    go_ret
    exact ⟨rfl, below_up hb3 hb10⟩

end Go.Proofs.Ytmjfalabjlbdeaa
