/- RecutNeeds: the walk. -/
import Derived.Test.YtmjfalabjlbdeaaRecQ
import Derived.Test.YtmjfalabjlbdeaaRecR
import Derived.Test.YtmjfalabjlbdeaaRecP
namespace Go.Proofs.Ytmjfalabjlbdeaa
open Go.RowKit
set_option linter.unusedSimpArgs false
set_option linter.unusedVariables false

/-- Polygons that came in. -/
def PolysIn (w : World) (A : Option Addr) (m : Nat) (poly : Nat → Poly) : Prop :=
  Row w w.heap.size 1 A m (fun i _ => .slice (poly i).pa (poly i).pn (poly i).pc) ∧ ∀ i, i < m → Spots w w.heap.size (poly i).pa (poly i).pn (poly i).spot ∧ (poly i).pn ≤ (poly i).pc

/-- Cut pieces that came in. -/
def CutsIn (w : World) (A : Option Addr) (n : Nat) (cut : Nat → Cut) (roll : Nat → Nat → Int) : Prop :=
  Row w w.heap.size 6 A n (fun i => (cut i).c) ∧ ∀ i, i < n → Row w w.heap.size 1 (cut i).ra (cut i).rn (fun j _ => .int .i64 (roll i j))

theorem PolysIn.few {w : World} {A : Option Addr} {m : Nat} {poly : Nat → Poly} (h : PolysIn w A m poly) (hb : ∀ i, i < m → (poly i).pn ≤ 12) : Polys w w.heap.size A m poly :=
  ⟨h.1, fun i hi => ⟨(h.2 i hi).1, (h.2 i hi).2, by have := hb i hi; omega⟩⟩

theorem same_need_self (r : Need) : sameNeedF r r = true := by simp [sameNeedF]
theorem same_needs_self (n : Nat) (f : Nat → Need) : sameListF n n (fun i => sameNeedF (f i) (f i)) = true := sameList_true (fun i _ => same_need_self _)
theorem same_none (q : Nat → Bool) : sameListF 0 0 q = true := sameList_true (fun i hi => absurd hi (by omega))
theorem row_none (w : World) (sz : Nat) (A : Option Addr) (f : Nat → Nat → Value) : Row w w.heap.size sz A 0 f := fun h => absurd h (by omega)

set_option maxRecDepth 100000 in
set_option maxHeartbeats 1600000 in
theorem needlaw_any (A A2 : Option Addr) (n c m c2 : Nat) (cut : Nat → Cut) (roll : Nat → Nat → Int) (poly : Nat → Poly) (w : World)
    (hp : CutsIn w A n cut roll) (hq : PolysIn w A2 m poly) :
    Calls Try.prog 3 #[.slice A n c, .slice A2 m c2] w fun e w' => e = .returned (.bool true) ∧ Below w.heap.size w w' := by
  have HP := Lib.hid hp.1
  have HQ := Lib.hid hq
  clear hp hq
  go_enter Try.func3, Try.ntmps3
  go_wp2_with fail
  refine (few_any _ _ n _ m _ cut poly _ HP.out HQ.out.1).mono ?_
  rintro e w1 ⟨hb1, rfl | ⟨rfl, hn, hm, hr, hs⟩⟩
  · go_wp2_with fail
    refine (example_any _).mono ?_
    rintro e w2 ⟨rfl, hb2⟩
    go_wp2_with fail
    go_ret
    exact ⟨rfl, below_up hb1 hb2⟩
  have HP1 := Lib.hid (HP.out.later hb1)
  have HQ1 := Lib.hid ((HQ.out.few hs).later hb1)
  clear HP HQ hr hs
  go_wp2_with fail
  refine (needs_any _ _ n _ m _ cut poly _ (by omega) (by omega) HP1.out HQ1.out).mono ?_
  rintro e w2 ⟨hb2, hcase⟩
  have HP2 := Lib.hid (HP1.out.later hb2)
  have HQ2 := Lib.hid (HQ1.out.later hb2)
  have hb3 := below_up hb1 hb2
  clear hb1 hb2 HP1 HQ1
  rcases hcase with ⟨hE, vN, vI, rfl, hN, hI⟩ | ⟨hE, rfl⟩
  · obtain ⟨AN, cN, rfl, _, _, rN⟩ := hN.form
    obtain ⟨AI, cI, rfl, _, _, rI⟩ := hI.form
    have KN := Lib.hid rN
    have KI := Lib.hid rI
    clear rN rI hN hI
    go_wp2_with fail
    refine (rneeds_any _ _ n _ m _ cut poly _ (by omega) (by omega) HP2.out HQ2.out).mono ?_
    rintro e w4 ⟨hb4, ⟨hE2, vN, vI, rfl, hN, hI⟩ | ⟨hE2, rfl⟩⟩
    rotate_left
    · exact absurd hE hE2
    clear hE hE2
    obtain ⟨AN2, cN2, rfl, _, _, rN⟩ := hN.form
    obtain ⟨AI2, cI2, rfl, _, _, rI⟩ := hI.form
    have LN := Lib.hid rN
    have LI := Lib.hid rI
    have KN2 := Lib.hid (KN.out.later hb4)
    have KI2 := Lib.hid (KI.out.later hb4)
    have hb5 := below_up hb3 hb4
    clear rN rI hN hI hb3 hb4 KN KI HP2 HQ2
    have hdl := dmgs_le cut n
    generalize (dmgs cut n).length = d at *
    go_wp2_with fail
    refine (sameNeeds_any _ _ d d _ _ _ _ _ (by omega) (by omega) KN2.out LN.out).mono ?_
    rintro e w5 ⟨rfl, hb6⟩
    rw [same_needs_self]
    have KI3 := Lib.hid (KI2.out.later hb6)
    have LI3 := Lib.hid (LI.out.later hb6)
    have hb7 := below_up hb5 hb6
    clear hb5 hb6 KI2 LI KN2 LN
    go_wp2_with fail
    refine (sameInts_any _ _ d d _ _ _ _ _ (by omega) (by omega) KI3.out LI3.out).mono ?_
    rintro e w6 ⟨rfl, hb8⟩
    rw [same_ints_self]
    have hb9 := below_up hb7 hb8
    go_wp2_with fail
    refine (example_any _).mono ?_
    rintro e w7 ⟨rfl, hb10⟩
    go_wp2_with fail
    go_ret
    exact ⟨rfl, below_up hb9 hb10⟩
  · go_wp2_with fail
    refine (rneeds_any _ _ n _ m _ cut poly _ (by omega) (by omega) HP2.out HQ2.out).mono ?_
    rintro e w4 ⟨hb4, ⟨hE2, vN, vI, rfl, hN, hI⟩ | ⟨hE2, rfl⟩⟩
    · exact absurd hE2 hE
    have hb5 := below_up hb3 hb4
    clear hE hE2 hb3 hb4 HP2 HQ2
    generalize firstErr (fun i => cutErr m poly (cut i)) n = x
    have hxx : (x == x) = true := by simp
    go_wp2_with fail
    refine (sameNeeds_any none none 0 0 0 0 (fun _ => ⟨0, 0⟩) (fun _ => ⟨0, 0⟩) _ (by omega) (by omega) (row_none _ _ _ _) (row_none _ _ _ _)).mono ?_
    rintro e w5 ⟨rfl, hb6⟩
    rw [same_none]
    have hb7 := below_up hb5 hb6
    clear hb5 hb6
    go_wp2_with fail
    refine (sameInts_any none none 0 0 0 0 (fun _ => 0) (fun _ => 0) _ (by omega) (by omega) (row_none _ _ _ _) (row_none _ _ _ _)).mono ?_
    rintro e w6 ⟨rfl, hb8⟩
    rw [same_none]
    have hb9 := below_up hb7 hb8
    go_wp2_with fail
    refine (example_any _).mono ?_
    rintro e w7 ⟨rfl, hb10⟩
    go_wp2_with fail
    go_ret
    exact ⟨rfl, below_up hb9 hb10⟩

end Go.Proofs.Ytmjfalabjlbdeaa
