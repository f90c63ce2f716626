/- PathFarthest: the plain law and the walk. -/
import Derived.Test.YtpjckolfjaffjaaPthL
namespace Go.Proofs.Ytpjckolfjaffjaa
open Go.RowKit
set_option linter.unusedSimpArgs false
set_option linter.unusedVariables false

def farT (s : Nat → Spot) : Nat → Int
  | 0 => 0
  | k + 1 => max (farT s k) (distF spot0 (s k))
def sum2 (s : Nat → Spot) : Nat → Int
  | 0 => 0
  | k + 1 => sum2 s k + 2 * distF spot0 (s k)

theorem order_onto {m : Nat} {ord : Nat → Int} (h : IsOrder m m ord) {x : Nat} (hx : x < m) : ∃ j, j < m ∧ (ord j).toNat = x := by
  obtain ⟨_, h⟩ := h
  apply Classical.byContradiction
  intro hno
  have := pigeonF m ((List.range m).erase x) (fun i => (ord i).toNat) (fun i hi => by
    have h1 := (h i hi).1
    exact (List.mem_erase_of_ne (fun e => hno ⟨i, hi, e⟩)).2 (List.mem_range.2 (by omega))) (fun i j hij hj e => by
    have h1 := (h i (by omega)).1
    have h2 := (h j hj).1
    exact (h j hj).2 i hij (by omega))
  have h3 := List.length_erase_of_mem (List.mem_range.2 hx)
  rw [List.length_range] at h3
  omega

theorem knife_le (s : Nat → Spot) (ord : Nat → Int) (k : Nat) : distF spot0 (knifeF s ord k) ≤ travelF s ord k := by
  induction k with
  | zero => show distF spot0 spot0 ≤ 0; unfold distF; omega
  | succ k ih =>
    have := dist_tri spot0 (knifeF s ord k) (s (ord k).toNat)
    show distF spot0 (s (ord k).toNat) ≤ travelF s ord k + distF (knifeF s ord k) (s (ord k).toNat)
    omega

theorem travel_mono (s : Nat → Spot) (ord : Nat → Int) (a d : Nat) : travelF s ord a ≤ travelF s ord (a + d) := by
  induction d with
  | zero => exact Int.le_refl _
  | succ d ih =>
    have := dist_nonneg (knifeF s ord (a + d)) (s (ord (a + d)).toNat)
    show _ ≤ travelF s ord (a + d) + distF (knifeF s ord (a + d)) (s (ord (a + d)).toNat)
    omega

theorem far_le {s : Nat → Spot} {m : Nat} {ord : Nat → Int} (h : IsOrder m m ord) : ∀ k, k ≤ m → farT s k ≤ travelF s ord m := by
  intro k
  induction k with
  | zero => intro _; have := travel_mono s ord 0 m; rw [Nat.zero_add] at this; exact this
  | succ k ih =>
    intro hk
    obtain ⟨j, hj, e⟩ := order_onto h (x := k) (by omega)
    have h1 := knife_le s ord (j + 1)
    have h2 := travel_mono s ord (j + 1) (m - (j + 1))
    rw [show j + 1 + (m - (j + 1)) = m by omega] at h2
    have e2 : knifeF s ord (j + 1) = s k := by show s (ord j).toNat = s k; rw [e]
    rw [e2] at h1
    have := ih (by omega)
    show max (farT s k) (distF spot0 (s k)) ≤ _
    omega

def sumL (g : Nat → Int) : List Nat → Int
  | [] => 0
  | x :: l => g x + sumL g l

theorem sumL_erase (g : Nat → Int) (x : Nat) : ∀ l : List Nat, x ∈ l → sumL g l = g x + sumL g (l.erase x)
  | [], h => by cases h
  | y :: l, h => by
    by_cases e : y = x
    · subst e
      rw [List.erase_cons_head]
      rfl
    · rw [List.erase_cons_tail (by simpa using e)]
      have hx : x ∈ l := by
        rcases List.mem_cons.1 h with h' | h'
        · exact absurd h'.symm e
        · exact h'
      have := sumL_erase g x l hx
      show g y + sumL g l = g x + (g y + sumL g (l.erase x))
      omega

theorem sumL_le (g : Nat → Int) (hg : ∀ x, 0 ≤ g x) : ∀ (m : Nat) (l : List Nat), l.Nodup → (∀ x, x ∈ l → x < m) → sumL g l ≤ sumN g m
  | 0, l, _, hl => by
    match l with
    | [] => exact Int.le_refl _
    | x :: l => exact absurd (hl x (by simp)) (by omega)
  | m + 1, l, hn, hl => by
    by_cases hm : m ∈ l
    · have h1 := sumL_le g hg m (l.erase m) (hn.erase m) (fun x hx => by
        have h2 := hl x (List.mem_of_mem_erase hx)
        have h3 : x ≠ m := fun e => by rw [e] at hx; exact (List.Nodup.not_mem_erase hn) hx
        omega)
      rw [sumL_erase g m l hm]
      show _ ≤ sumN g m + g m
      omega
    · have h1 := sumL_le g hg m l hn (fun x hx => by
        have h2 := hl x hx
        have h3 : x ≠ m := fun e => hm (e ▸ hx)
        omega)
      have := hg m
      show _ ≤ sumN g m + g m
      omega

theorem sumL_snoc (g : Nat → Int) (x : Nat) : ∀ l : List Nat, sumL g (l ++ [x]) = sumL g l + g x
  | [] => by show g x + 0 = 0 + g x; omega
  | y :: l => by show g y + sumL g (l ++ [x]) = g y + sumL g l + g x; rw [sumL_snoc g x l]; omega

theorem sumL_list (g : Nat → Int) (ord : Nat → Int) (l : Nat) : sumL g (listOf l ord) = sumN (fun j => g (ord j).toNat) l := by
  induction l with
  | zero => rfl
  | succ l ih =>
    have e : listOf (l + 1) ord = listOf l ord ++ [(ord l).toNat] := by unfold listOf; rw [List.range_succ, List.map_append]; rfl
    rw [e, sumL_snoc, ih]
    rfl

theorem sum2_eq (s : Nat → Spot) (m : Nat) : sum2 s m = 2 * sumN (fun x => distF spot0 (s x)) m := by
  induction m with
  | zero => rfl
  | succ m ih => show sum2 s m + 2 * distF spot0 (s m) = 2 * (sumN _ m + distF spot0 (s m)); rw [ih]; omega

theorem order_nodup {l m : Nat} {ord : Nat → Int} (h : IsOrder l m ord) : (listOf l ord).Nodup ∧ ∀ x, x ∈ listOf l ord → x < m := by
  obtain ⟨rfl, h⟩ := h
  refine ⟨?_, fun x hx => ?_⟩
  · unfold listOf
    rw [List.nodup_iff_pairwise_ne, List.pairwise_map]
    refine List.Pairwise.imp_of_mem ?_ List.pairwise_lt_range
    intro a b ha hb hab e
    have ha' := List.mem_range.1 ha
    have hb' := List.mem_range.1 hb
    have h1 := (h a ha').1
    have h2 := (h b hb').1
    exact (h b hb').2 a hab (by omega)
  · unfold listOf at hx
    obtain ⟨i, hi, rfl⟩ := List.mem_map.1 hx
    have hi' := List.mem_range.1 hi
    have := (h i hi').1
    omega

theorem travel_le_sum {s : Nat → Spot} {m : Nat} {ord : Nat → Int} (h : IsOrder m m ord) : travelF s ord m ≤ sum2 s m := by
  have h1 : ∀ k, travelF s ord k + distF spot0 (knifeF s ord k) ≤ 2 * sumN (fun j => distF spot0 (s (ord j).toNat)) k := by
    intro k
    induction k with
    | zero => show 0 + distF spot0 spot0 ≤ 2 * 0; unfold distF; omega
    | succ k ih =>
      have h2 := dist_tri (knifeF s ord k) spot0 (s (ord k).toNat)
      rw [dist_symm (knifeF s ord k) spot0] at h2
      show travelF s ord k + distF (knifeF s ord k) (s (ord k).toNat) + distF spot0 (s (ord k).toNat) ≤ 2 * (sumN (fun j => distF spot0 (s (ord j).toNat)) k + distF spot0 (s (ord k).toNat))
      omega
  have h2 := h1 m
  have h3 := dist_nonneg spot0 (knifeF s ord m)
  obtain ⟨n1, n2⟩ := order_nodup h
  have h4 := sumL_le (fun x => distF spot0 (s x)) (fun x => dist_nonneg _ _) m (listOf m ord) n1 n2
  rw [sumL_list] at h4
  rw [sum2_eq]
  omega

theorem far_bd {s : Nat → Spot} {m : Nat} (hs : ∀ i, i < m → (s i).ok) : ∀ k, k ≤ m → 0 ≤ farT s k ∧ farT s k ≤ 4194304 ∧ 0 ≤ sum2 s k ∧ sum2 s k ≤ (k : Int) * 8388608 := by
  intro k
  induction k with
  | zero => intro _; exact ⟨Int.le_refl _, by show (0 : Int) ≤ 4194304; omega, Int.le_refl _, by simp [sum2]⟩
  | succ k ih =>
    intro hk
    have h1 := ih (by omega)
    have h2 := dist_bd spot0_ok (hs k (by omega))
    have e1 : farT s (k + 1) = max (farT s k) (distF spot0 (s k)) := rfl
    have e2 : sum2 s (k + 1) = sum2 s k + 2 * distF spot0 (s k) := rfl
    rw [e1, e2]
    omega

set_option maxRecDepth 100000 in
set_option maxHeartbeats 3200000 in
theorem farthest_any (A A2 : Option Addr) (m c l c2 : Nat) (poly : Nat → Poly) (ord : Nat → Int) (w : World) (hq : PolysIn w A m poly) (hp : Row w w.heap.size 1 A2 l (fun i _ => .int .i64 (ord i))) :
    Calls Try.prog 7 #[.slice A m c, .slice A2 l c2] w fun e w' => e = .returned (.bool true) ∧ Below w.heap.size w w' := by
  have HQ := Lib.hid hq
  have HP := Lib.hid hp
  clear hq hp
  by_cases hl : 100 < l
  · have hl' : (100 : Int) < l := by omega
    go_enter Try.func7, Try.ntmps7
    go_wp2_with fail
    refine (light_any A m c poly _ HQ.out.1).mono ?_
    rintro e w1 ⟨hb1, rfl | ⟨rfl, hm, hs⟩⟩
    all_goals
      go_wp2_with fail
      refine (alive_any _).mono ?_
      rintro e w2 ⟨rfl, hb2⟩
      go_wp2_with fail
      go_ret
      exact ⟨rfl, below_up hb1 hb2⟩
  have hl' : ¬ (100 : Int) < l := by omega
  go_enter Try.func7, Try.ntmps7
  go_wp2_with fail
  refine (light_any A m c poly _ HQ.out.1).mono ?_
  rintro e w1 ⟨hb1, rfl | ⟨rfl, hm, hs⟩⟩
  · go_wp2_with fail
    refine (alive_any _).mono ?_
    rintro e w2 ⟨rfl, hb2⟩
    go_wp2_with fail
    go_ret
    exact ⟨rfl, below_up hb1 hb2⟩
  have HQ1 := Lib.hid ((HQ.out.light hs).later hb1)
  have HP1 := Lib.hid (HP.out.later hb1)
  clear HQ HP hs
  go_wp2_with fail
  refine (Travel_any _ _ m _ l _ poly ord _ (by omega) HQ1.out HP1.out).mono ?_
  rintro e w2 ⟨rfl, hb2⟩
  have HQ2 := Lib.hid (HQ1.out.later hb2)
  have bb2 := below_up hb1 hb2
  clear HQ1 HP1 hb1 hb2
  by_cases hE : bothErr m poly l ord = 0
  rotate_left
  · have hne : (bothErr m poly l ord != 0) = true := bne_iff_ne.2 hE
    rw [show travV m poly l ord = 0 by unfold travV; rw [if_neg hE]]
    clear hE
    go_wp2_with fail
    refine (alive_any _).mono ?_
    rintro e wz ⟨rfl, hbz⟩
    go_wp2_with fail
    go_ret
    exact ⟨rfl, below_up bb2 hbz⟩
  rw [hE, show travV m poly l ord = travelF (startF poly) ord l by unfold travV; rw [if_pos hE]]
  obtain ⟨hchk, hord⟩ := both_zero hE
  have hlm : l = m := hord.1
  subst hlm
  have h1 := far_le (s := startF poly) hord l (Nat.le_refl _)
  have h2 := travel_le_sum (s := startF poly) hord
  have HV := Lib.hid (chk_valid hchk).2
  have HST := Lib.hid (start_ok (chk_valid hchk).2)
  have hl60 := (chk_valid hchk).1
  clear hE hchk hord
  generalize travelF (startF poly) ord l = T at *
  have HFL := Lib.hid h1
  have HSL := Lib.hid h2
  clear h1 h2
  go_wp2_with fail
  go_loopw [7, 8, 9] (fun f s t wr => ∃ k : Nat, k ≤ l ∧ t = .int .i64 k ∧ f = .int .i64 (farT (startF poly) k) ∧ s = .int .i64 (sum2 (startF poly) k) ∧ Below w2.heap.size w2 wr) (fun _ _ t _ => l - (intOf t).toNat)
  case atStart => exact ⟨0, Nat.zero_le _, rfl, rfl, rfl, Below.refl _ _⟩
  case round =>
    obtain ⟨k, hk, rfl, rfl, rfl, hwr⟩ := hrel
    by_cases hlt : k < l
    · have hlt' : (k : Int) < l := by omega
      have hk0 : (0 : Int) ≤ k := by omega
      obtain ⟨bq, oq, rfl, hBq⟩ := HQ2.out.1.addr (by omega)
      obtain ⟨p1, b1, o1, l1, r1, a0, a1⟩ := first_vertex HQ2.out.1 (fun i hi => (HQ2.out.2 i hi).1) HV.out hwr hBq hlt
      have hpn : (((poly k).pn : Int) == 0) = false := beq_eq_false_iff_ne.2 (by omega)
      have p1' : (0 : Int) < (poly k).pn := by omega
      obtain ⟨f1, f2, f3, f4⟩ := far_bd HST.out k hk
      have okP := Lib.hid (HST.out k hlt)
      have hd := dist_bd spot0_ok okP.out
      have HF := Lib.hid (show farT (startF poly) (k + 1) = max (farT (startF poly) k) (distF spot0 (startF poly k)) from rfl)
      have HS := Lib.hid (show sum2 (startF poly) (k + 1) = sum2 (startF poly) k + 2 * distF spot0 (startF poly k) from rfl)
      generalize farT (startF poly) k = X at *
      generalize sum2 (startF poly) k = Y at *
      generalize startF poly k = P at *
      obtain ⟨hd1, hd2⟩ := hd
      go_wp2_with fail
      refine (rdistance_any spot0 P _ spot0_ok okP.out).mono ?_
      rintro e w3 ⟨rfl, hb3⟩
      have hw3 := below_up hwr hb3
      generalize distF spot0 P = D at *
      clear r1 a0 a1 hb3
      go_wp2_with fail
      go_roundw
      case rel => exact ⟨k + 1, by omega, by go_num, by rw [HF.out], by rw [HS.out], hw3⟩
      case measure => simp [intOf]; omega
    · obtain rfl : k = l := by omega
      have h1 := HFL.out
      have h2 := HSL.out
      generalize farT (startF poly) k = X at *
      generalize sum2 (startF poly) k = Y at *
      go_wp2_with fail
      refine (alive_any _).mono ?_
      rintro e wz ⟨rfl, hbz⟩
      go_wp2_with fail
      go_ret
      exact ⟨rfl, below_up (below_up bb2 hwr) hbz⟩

end Go.Proofs.Ytpjckolfjaffjaa
