/- RecutAssigns: the walk. -/
import Derived.Test.YtmjfalabjlbdeaaRecO
import Derived.Test.YtmjfalabjlbdeaaRecK
namespace Go.Proofs.Ytmjfalabjlbdeaa
open Go.RowKit
set_option linter.unusedSimpArgs false
set_option linter.unusedVariables false

theorem same_rest_self (r : Rest) : sameRestF r r = true := by simp [sameRestF]
theorem same_rests_self (n : Nat) (f : Nat → Rest) : sameListF n n (fun i => sameRestF (f i) (f i)) = true := sameList_true (fun i _ => same_rest_self _)
theorem same_ints_self (n : Nat) (f : Nat → Int) : sameListF n n (fun i => decide (f i = f i)) = true := sameList_true (fun i _ => decide_eq_true rfl)

set_option maxRecDepth 100000 in
set_option maxHeartbeats 1600000 in
theorem assigns_any (A A2 : Option Addr) (m c n c2 : Nat) (need : Nat → Need) (rest : Nat → Rest) (w : World)
    (hp : Row w w.heap.size 2 A m (fun i => (need i).c)) (hq : Row w w.heap.size 4 A2 n (fun i => (rest i).c)) :
    Calls Try.prog 4 #[.slice A m c, .slice A2 n c2] w fun e w' => e = .returned (.bool true) ∧ Below w.heap.size w w' := by
  by_cases hm : 60 < m
  · have hm' : (60 : Int) < m := by omega
    go_enter Try.func4, Try.ntmps4
    go_wp2_with fail
    refine (example_any _).mono ?_
    rintro e w1 ⟨rfl, hb1⟩
    go_wp2_with fail
    go_ret
    exact ⟨rfl, hb1⟩
  have hm' : ¬ (60 : Int) < m := by omega
  by_cases hn : 30 < n
  · have hn' : (30 : Int) < n := by omega
    go_enter Try.func4, Try.ntmps4
    go_wp2_with fail
    refine (example_any _).mono ?_
    rintro e w1 ⟨rfl, hb1⟩
    go_wp2_with fail
    go_ret
    exact ⟨rfl, hb1⟩
  have hn' : ¬ (30 : Int) < n := by omega
  have HP := Lib.hid hp
  have HQ := Lib.hid hq
  clear hp hq
  go_enter Try.func4, Try.ntmps4
  go_wp2_with fail
  refine (assign_any _ _ m _ n _ need rest _ (by omega) (by omega) HP.out HQ.out).mono ?_
  rintro e w1 ⟨vL, vG, rfl, hL, hG, hb⟩
  obtain ⟨AL, cL, rfl, _, _, rL⟩ := hL.form
  obtain ⟨AG, cG, rfl, _, _, rG⟩ := hG.form
  have HP1 := Lib.hid (HP.out.later hb)
  have HQ1 := Lib.hid (HQ.out.later hb)
  have HL := Lib.hid rL
  have HG := Lib.hid rG
  clear rL rG hL hG HP HQ
  go_wp2_with fail
  refine (rassign_any _ _ m _ n _ need rest _ (by omega) (by omega) HP1.out HQ1.out).mono ?_
  rintro e w2 ⟨vL, vG, rfl, hL, hG, hb2⟩
  obtain ⟨AK, cK, rfl, _, _, rL⟩ := hL.form
  obtain ⟨AH, cH, rfl, _, _, rG⟩ := hG.form
  have KL := Lib.hid rL
  have KG := Lib.hid rG
  have HL2 := Lib.hid (HL.out.later hb2)
  have HG2 := Lib.hid (HG.out.later hb2)
  have hb3 := below_up hb hb2
  clear rL rG hL hG HP1 HQ1 HL HG hb hb2
  go_wp2_with fail
  refine (sameRests_any _ _ n n _ _ _ _ _ (by omega) (by omega) HL2.out KL.out).mono ?_
  rintro e w3 ⟨rfl, hb4⟩
  rw [same_rests_self]
  have HG3 := Lib.hid (HG2.out.later hb4)
  have KG3 := Lib.hid (KG.out.later hb4)
  have hb5 := below_up hb3 hb4
  clear HG2 KG HL2 KL hb3 hb4
  go_wp2_with fail
  refine (sameInts_any _ _ m m _ _ _ _ _ (by omega) (by omega) HG3.out KG3.out).mono ?_
  rintro e w4 ⟨rfl, hb6⟩
  rw [same_ints_self]
  have hb7 := below_up hb5 hb6
  go_wp2_with fail
  refine (example_any _).mono ?_
  rintro e w5 ⟨rfl, hb8⟩
  go_wp2_with fail
  go_ret
  exact ⟨rfl, below_up hb7 hb8⟩

end Go.Proofs.Ytmjfalabjlbdeaa
