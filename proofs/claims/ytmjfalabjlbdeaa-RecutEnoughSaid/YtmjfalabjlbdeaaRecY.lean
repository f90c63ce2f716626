/- RecutEnough: the plain law and the walk. -/
import Derived.Test.YtmjfalabjlbdeaaRecP
import Derived.Lib.MinMax
namespace Go.Proofs.Ytmjfalabjlbdeaa
open Go.RowKit
set_option linter.unusedSimpArgs false
set_option linter.unusedVariables false

def validF (lot : Int) (d : Need) : Bool := decide (d.lot = lot ∧ 1 ≤ d.len ∧ d.len ≤ 1048576)

def sumF (lot : Int) (need : Nat → Need) : Nat → Int
  | 0 => 0
  | m + 1 => sumF lot need m + if validF lot (need m) = true then (need m).len else 0

theorem sum_bd (lot : Int) (need : Nat → Need) (m : Nat) : 0 ≤ sumF lot need m ∧ sumF lot need m ≤ (m : Int) * 1048576 := by
  induction m with
  | zero => exact ⟨Int.le_refl _, by simp [sumF]⟩
  | succ m ih =>
    have e : sumF lot need (m + 1) = sumF lot need m + if validF lot (need m) = true then (need m).len else 0 := rfl
    rw [e]
    split
    · rename_i h
      unfold validF at h
      rw [decide_eq_true_eq] at h
      omega
    · omega

theorem sum_mono (lot : Int) (need : Nat → Need) (a d : Nat) : sumF lot need a ≤ sumF lot need (a + d) := by
  induction d with
  | zero => exact Int.le_refl _
  | succ d ih =>
    have e : sumF lot need (a + (d + 1)) = sumF lot need (a + d) + if validF lot (need (a + d)) = true then (need (a + d)).len else 0 := rfl
    rw [e]
    split
    · rename_i h
      unfold validF at h
      rw [decide_eq_true_eq] at h
      omega
    · omega

theorem sum_yes {lot : Int} {need : Nat → Need} {m : Nat} (h : validF lot (need m) = true) : sumF lot need (m + 1) = sumF lot need m + (need m).len := by
  show sumF lot need m + (if validF lot (need m) = true then (need m).len else 0) = _
  rw [if_pos h]
theorem sum_no {lot : Int} {need : Nat → Need} {m : Nat} (h : validF lot (need m) = false) : sumF lot need (m + 1) = sumF lot need m := by
  show sumF lot need m + (if validF lot (need m) = true then (need m).len else 0) = _
  rw [if_neg (by rw [h]; decide), Int.add_zero]

/-- The rests, and one more. -/
def moreF (q : Nat) (rest : Nat → Rest) (lot S : Int) : Nat → Rest := fun i => if i < q then rest i else ⟨1, lot, 1048576 - S, 1048576⟩

theorem more_inv (q : Nat) (need : Nat → Need) (rest : Nat → Rest) (lot S : Int) (m : Nat) :
    (leftF (q + 1) need (moreF q rest lot S) m q).lot = lot ∧ (leftF (q + 1) need (moreF q rest lot S) m q).til = 1048576 ∧
    1048576 - S ≤ (leftF (q + 1) need (moreF q rest lot S) m q).frm ∧ (leftF (q + 1) need (moreF q rest lot S) m q).frm ≤ 1048576 - S + sumF lot need m := by
  induction m with
  | zero =>
    have e : leftF (q + 1) need (moreF q rest lot S) 0 q = ⟨1, lot, 1048576 - S, 1048576⟩ := by
      show moreF q rest lot S q = _
      unfold moreF
      rw [if_neg (by omega)]
    rw [e]
    exact ⟨rfl, rfl, Int.le_refl _, by show 1048576 - S ≤ 1048576 - S + 0; omega⟩
  | succ m ih =>
    obtain ⟨h1, h2, h3, h4⟩ := ih
    have hs : leftF (q + 1) need (moreF q rest lot S) (m + 1) q = cutF (leftF (q + 1) need (moreF q rest lot S) m) (pickF (q + 1) (leftF (q + 1) need (moreF q rest lot S) m) (need m)) (need m).len q := rfl
    rw [hs]
    unfold cutF
    split
    · rename_i hj
      rcases pick_spec (q + 1) (leftF (q + 1) need (moreF q rest lot S) m) (need m) with ⟨hp, _⟩ | ⟨k, hk, hp, hserv, _⟩
      · rw [hp] at hj; omega
      · rw [hp] at hj
        obtain rfl : k = q := by omega
        have hv : validF lot (need m) = true := by
          unfold servesF at hserv
          rw [decide_eq_true_eq] at hserv
          unfold validF
          rw [decide_eq_true_eq]
          exact ⟨by rw [← hserv.2.2.1, h1], hserv.1, hserv.2.1⟩
        have hl := hv
        unfold validF at hl
        rw [decide_eq_true_eq] at hl
        rw [sum_yes hv]
        refine ⟨h1, h2, ?_, ?_⟩
        · simp only []; omega
        · simp only []; omega
    · have := sum_mono lot need m 1
      exact ⟨h1, h2, h3, by omega⟩

theorem more_got {q M m : Nat} {need : Nat → Need} {rest : Nat → Rest} {lot S : Int} (hS : S = sumF lot need M) (hmax : S ≤ 1048576) (hm : m < M) (hv : validF lot (need m) = true) :
    0 ≤ gotF (q + 1) need (moreF q rest lot S) m := by
  obtain ⟨h1, h2, h3, h4⟩ := more_inv q need rest lot S m
  obtain ⟨d, rfl⟩ : ∃ d, M = m + 1 + d := ⟨M - (m + 1), by omega⟩
  have h5 := sum_mono lot need (m + 1) d
  have h6 := sum_yes hv
  have h7 := (sum_bd lot need m).1
  unfold validF at hv
  rw [decide_eq_true_eq] at hv
  rcases pick_spec (q + 1) (leftF (q + 1) need (moreF q rest lot S) m) (need m) with ⟨_, hall⟩ | ⟨k, hk, hp, _, _⟩
  · have := hall q (by omega)
    unfold servesF at this
    rw [decide_eq_false_iff_not] at this
    exact absurd ⟨hv.2.1, hv.2.2, by rw [h1, hv.1], by omega, by omega, by omega, by omega⟩ this
  · unfold gotF
    rw [hp]
    omega

set_option maxRecDepth 100000 in
set_option maxHeartbeats 3200000 in
theorem enough_any (A A2 : Option Addr) (m c q c2 : Nat) (need : Nat → Need) (rest : Nat → Rest) (lot : Int) (nn : Nat) (w : World) (hmc : m ≤ c) (hc : c ≤ maxLen) (hnn : nn ≤ 255)
    (hp : Row w w.heap.size 2 A m (fun i => (need i).c)) (hq : Row w w.heap.size 4 A2 q (fun i => (rest i).c)) :
    Calls Try.prog 10 #[.slice A m c, .slice A2 q c2, .int .i64 lot, .int .u8 nn] w fun e w' => e = .returned (.bool true) ∧ Below w.heap.size w w' := by
  unfold maxLen at hc
  by_cases hm : 60 < m
  · have hm' : (60 : Int) < m := by omega
    go_enter Try.func10, Try.ntmps10
    go_wp2_with fail
    refine (example_any _).mono ?_
    rintro e w1 ⟨rfl, hb1⟩
    go_wp2_with fail
    go_ret
    exact ⟨rfl, hb1⟩
  have hm' : ¬ (60 : Int) < m := by omega
  by_cases hn : 30 < q
  · have hn' : (30 : Int) < q := by omega
    go_enter Try.func10, Try.ntmps10
    go_wp2_with fail
    refine (example_any _).mono ?_
    rintro e w1 ⟨rfl, hb1⟩
    go_wp2_with fail
    go_ret
    exact ⟨rfl, hb1⟩
  have hn' : ¬ (30 : Int) < q := by omega
  have HP := Lib.hid hp
  have HQ := Lib.hid hq
  clear hp hq
  go_enter Try.func10, Try.ntmps10
  go_wp2_with fail
  go_loopw [9, 33] (fun s t wr => ∃ k : Nat, k ≤ m ∧ t = .int .i64 k ∧ s = .int .i64 (sumF lot need k) ∧ Below w.heap.size w wr) (fun _ t _ => m - (intOf t).toNat)
  case atStart => exact ⟨0, Nat.zero_le _, rfl, rfl, Below.refl _ _⟩
  case round =>
    obtain ⟨k, hk, rfl, rfl, hwr⟩ := hrel
    have hs1 : w.heap.size ≤ wr.heap.size := hwr.size
    obtain ⟨hs0, hs60⟩ := sum_bd lot need k
    by_cases hlt : k < m
    · obtain ⟨b, off, rfl, hB⟩ := HP.out.addr (by omega)
      obtain ⟨e0, e1⟩ := HP.out.at2 hlt
      simp only [Need.c] at e0 e1
      have f0 := (hwr.cell (p := ⟨_, _, none⟩) hB).trans e0
      have f1 := (hwr.cell (p := ⟨_, _, none⟩) hB).trans e1
      clear e0 e1
      have hlt' : (k : Int) < m := by omega
      have hk0 : (0 : Int) ≤ k := by omega
      have HY := Lib.hid (fun h => sum_yes (lot := lot) (need := need) (m := k) h)
      have HN := Lib.hid (fun h => sum_no (lot := lot) (need := need) (m := k) h)
      generalize hsk : sumF lot need k = s at *
      clear hsk
      have hsl : s ≤ 62914560 := by omega
      go_upto_region 7 with (fail)
      have qN := Blk.new wr 47 #[.int .i64 (need k).lot, .int .i64 (need k).len]
      have qb := hwr.alloc hs1 (.cells #[.int .i64 (need k).lot, .int .i64 (need k).len] 47)
      generalize hW : wr.alloc _ = W at qN qb ⊢
      clear hW f0 f1
      have c0 := qN.cell 0
      have c1 := qN.cell 1
      simp at c0 c1
      by_cases h1 : (need k).lot = lot
      rotate_left
      · have hv : validF lot (need k) = false := decide_eq_false fun h => h1 h.1
        have b1 : ((need k).lot == lot) = false := beq_eq_false_iff_ne.2 h1
        have HV := Lib.hid hv
        clear h1 hv
        go_wp2_with fail
        go_roundw
        case rel => exact ⟨k + 1, by omega, by go_num, by rw [HN.out HV.out], qb⟩
        case measure => simp [intOf]; omega
      by_cases h2 : 1 ≤ (need k).len
      rotate_left
      · have hv : validF lot (need k) = false := decide_eq_false fun h => h2 h.2.1
        have b1 : ((need k).lot == lot) = true := beq_iff_eq.2 h1
        have HV := Lib.hid hv
        clear h1 hv
        go_wp2_with fail
        go_roundw
        case rel => exact ⟨k + 1, by omega, by go_num, by rw [HN.out HV.out], qb⟩
        case measure => simp [intOf]; omega
      by_cases h3 : (need k).len ≤ 1048576
      rotate_left
      · have hv : validF lot (need k) = false := decide_eq_false fun h => h3 h.2.2
        have b1 : ((need k).lot == lot) = true := beq_iff_eq.2 h1
        have HV := Lib.hid hv
        clear h1 hv
        go_wp2_with fail
        go_roundw
        case rel => exact ⟨k + 1, by omega, by go_num, by rw [HN.out HV.out], qb⟩
        case measure => simp [intOf]; omega
      have hv : validF lot (need k) = true := decide_eq_true ⟨h1, h2, h3⟩
      have b1 : ((need k).lot == lot) = true := beq_iff_eq.2 h1
      have HV := Lib.hid hv
      clear h1 hv
      go_wp2_with fail
      go_roundw
      case rel => exact ⟨k + 1, by omega, by go_num, by rw [HY.out HV.out], qb⟩
      case measure => simp [intOf]; omega
    · obtain rfl : k = m := by omega
      have HS := Lib.hid (rfl : sumF lot need k = sumF lot need k)
      generalize hsk : sumF lot need k = S at *
      have HSK := Lib.hid hsk.symm
      clear hsk HS
      by_cases hS : 1048576 < S
      · have hbt := hwr
        have HPt := Lib.hid (HP.out.later hbt)
        have HQt := Lib.hid (HQ.out.later hbt)
        go_upto_region 22 with (fail)
        obtain ⟨kk, hkk, hle⟩ : ∃ kk : Nat, min (nn : Int) (k : Int) = kk ∧ kk ≤ k := ⟨min nn k, by omega, by omega⟩
        rw [hkk]
        clear hkk
        go_wp2_with fail
        refine (assign_any _ _ k _ q _ need rest _ (by omega) (by omega) HPt.out HQt.out).mono ?_
        rintro e w5 ⟨vL, vG, rfl, hL, hG, hb5⟩
        obtain ⟨AL5, cL5, rfl, _, _, _⟩ := hL.form
        obtain ⟨AG5, cG5, rfl, hkG, hGm, rG⟩ := hG.form
        have HP5 := Lib.hid ((HPt.out.later hb5).take hle)
        have HQ5 := Lib.hid (HQt.out.later hb5)
        have HG5 := Lib.hid rG
        have hbt5 := below_up hbt hb5
        unfold maxLen at hGm
        clear rG hL hG HPt HQt hb5
        have hle1 : (kk : Int) ≤ c := by omega
        have hle2 : (kk : Int) ≤ cG5 := by omega
        have hle3 : (0 : Int) ≤ kk := by omega
        have hkk' : ((k : Int) == (k : Int)) = true := by simp
        go_wp2_with fail
        refine (assign_any _ _ kk _ q _ need rest _ (by omega) (by omega) HP5.out HQ5.out).mono ?_
        rintro e w6 ⟨vL, vG, rfl, hL, hG, hb6⟩
        obtain ⟨AL6, cL6, rfl, _, _, _⟩ := hL.form
        obtain ⟨AG6, cG6, rfl, _, _, rG⟩ := hG.form
        have HG6 := Lib.hid ((HG5.out.later hb6).take hle)
        have KG6 := Lib.hid rG
        have hbt6 := below_up hbt5 hb6
        clear rG hL hG HP5 HQ5 HG5 hb6 hbt5
        go_wp2_with fail
        refine (sameInts_any _ _ kk kk _ _ _ _ _ (by omega) (by omega) KG6.out HG6.out).mono ?_
        rintro e w7 ⟨rfl, hb7⟩
        rw [same_ints_self]
        have hbt7 := below_up hbt6 hb7
        go_wp2_with fail
        refine (example_any _).mono ?_
        rintro e w8 ⟨rfl, hb8⟩
        go_wp2_with fail
        go_ret
        exact ⟨rfl, below_up hbt7 hb8⟩
      · have hS' : S ≤ 1048576 := by omega
        have HQr := Lib.hid (HQ.out.later hwr)
        have HQr2 := Lib.hid (HQr.out.later (below_a1 wr (.cells #[] 49)))
        obtain ⟨i0, hi0, hz0, hz1, hz2⟩ := info_parts cloneRest_any_info
        have HI0 := Lib.hid hi0
        have HZ := Lib.hid (And.intro hz0 (And.intro hz1 hz2))
        clear hi0 hz0 hz1 hz2
        have hgot := Lib.hid (fun i hi hv => more_got (q := q) (rest := rest) (m := i) HSK.out hS' hi hv)
        clear hS
        go_upto_region 12 with (first | (at_builtin; refine wpList_append_row _ rfl _ _ _ rfl wr.heap.size 49 i0 _ 4 32 Try.underlying33 HI0.out HZ.out.1 HZ.out.2.1 HZ.out.2.2 rfl (by omega) _ q (fun i => (rest i).c) rfl (hown1.alloc _) _ _ 1 1 (fun _ => Rest.c ⟨1, lot, 1048576 - S, 1048576⟩) rfl (Row.lit w1 #[.int .i64 1, .int .i64 lot, .int .i64 (1048576 - S), .int .i64 1048576] 1 49 4 _ (by simp only [maxLen]; omega) rfl) (fun i j _ hj => by simp only []; unfold Rest.c; split <;> rfl) (by simp only [maxLen]; omega) (by omega) (by have := hb1.size; simp; omega) ?_; intro v2 w2 hown2 hgr2 hbk2) | (at_builtin; refine wpList_append_row _ rfl _ _ _ rfl wr.heap.size 49 i0 _ 4 32 Try.underlying33 HI0.out HZ.out.1 HZ.out.2.1 HZ.out.2.2 rfl (by omega) _ 0 (fun i => (rest i).c) rfl (Owned.lit wr #[] 0 49 4 (fun i => (rest i).c) (by simp only [maxLen]; omega) (by simp [cellsOf])) _ _ q c2 (fun i => (rest i).c) rfl HQr2.out (plain_rest rest q) (by simp only [maxLen]; omega) (by omega) (by simp) ?_; intro v1 w1 hown hgr hbk; rw [Nat.zero_add] at hown; have hown1 := hown.congr (g := fun i => (rest i).c) (fun i j _ _ => by simp [glue]); have hb1 : Below wr.heap.size wr w1 := (below_a1 wr (.cells #[] 49)).grown hgr (by simp) (fun k hk => by have : wr.heap.size = k := Option.some.inj hk; omega); clear hown hgr hbk))
        have hb2 := (hown1.alloc (.cells #[.int .i64 1, .int .i64 lot, .int .i64 (1048576 - S), .int .i64 1048576] 49)).below_grown (hb1.alloc hb1.size _) (Nat.le_refl _) (by have := hb1.size; simp; omega) hgr2
        have hown3 := hown2.congr (g := fun i => (moreF q rest lot S i).c) (fun i j hi hj => by
          unfold glue moreF
          by_cases hiq : i < q
          · rw [if_pos hiq, if_pos hiq]
          · rw [if_neg hiq, if_neg hiq])
        obtain ⟨AM, cM, rfl, _, _, rM⟩ := hown3.form
        have HM := Lib.hid rM
        have HP2 := Lib.hid ((HP.out.later hwr).later hb2)
        have hbw2 := below_up hwr hb2
        clear rM hown1 hown2 hown3 hgr2 hbk2 hb1 hb2 HQr HQr2
        go_wp2_with fail
        refine (assign_any _ _ k _ (q + 1) _ need (moreF q rest lot S) _ (by omega) (by omega) HP2.out HM.out).mono ?_
        rintro e w3 ⟨vL, vG, rfl, hL, hG, hb3⟩
        obtain ⟨AL3, cL3, rfl, _, _, _⟩ := hL.form
        obtain ⟨AG3, cG3, rfl, _, _, rG⟩ := hG.form
        have HG3 := Lib.hid rG
        have HP3 := Lib.hid (HP2.out.later hb3)
        have hbw3 := below_up hbw2 hb3
        clear rG hL hG hb3 HM HP2 hbw2
        generalize gotF (q + 1) need (moreF q rest lot S) = G at *
        have hkk' : ((k : Int) != (k : Int)) = false := by simp
        go_wp2_with fail
        obtain ⟨wo, rfl⟩ : ∃ wo, wo = wr := ⟨_, rfl⟩
        go_loopw [80] (fun t wr => ∃ j : Nat, j ≤ k ∧ t = .int .i64 j ∧ Below w3.heap.size w3 wr) (fun t _ => k - (intOf t).toNat)
        case atStart => exact ⟨0, Nat.zero_le _, rfl, Below.refl _ _⟩
        case round =>
          obtain ⟨j, hj, rfl, hwj⟩ := hrel
          have hs3 : w3.heap.size ≤ wr.heap.size := hwj.size
          by_cases hlj : j < k
          · obtain ⟨b, off, rfl, hB⟩ := HP3.out.addr (by omega)
            obtain ⟨bg, og, rfl, hBg⟩ := HG3.out.addr (by omega)
            obtain ⟨e0, e1⟩ := HP3.out.at2 hlj
            simp only [Need.c] at e0 e1
            have f0 := (hwj.cell (p := ⟨_, _, none⟩) hB).trans e0
            have f1 := (hwj.cell (p := ⟨_, _, none⟩) hB).trans e1
            clear e0 e1
            have hlj' : (j : Int) < k := by omega
            have hj0 : (0 : Int) ≤ j := by omega
            go_upto_region 18 with (fail)
            have qN := Blk.new wr 47 #[.int .i64 (need j).lot, .int .i64 (need j).len]
            have qb := hwj.alloc hs3 (.cells #[.int .i64 (need j).lot, .int .i64 (need j).len] 47)
            generalize hW : wr.alloc _ = W at qN qb ⊢
            clear hW f0 f1
            have c0 := qN.cell 0
            have c1 := qN.cell 1
            simp at c0 c1
            have g1 := (qb.cell (p := ⟨_, _, none⟩) hBg).trans (HG3.out.at1 hlj)
            have HGj := Lib.hid (hgot.out j hlj)
            by_cases h1 : (need j).lot = lot
            rotate_left
            · have b1 : ((need j).lot == lot) = false := beq_eq_false_iff_ne.2 h1
              clear h1
              go_wp2_with fail
              go_roundw
              case rel => exact ⟨j + 1, by omega, by go_num, qb⟩
              case measure => simp [intOf]; omega
            have b1 : ((need j).lot == lot) = true := beq_iff_eq.2 h1
            have H1 := Lib.hid h1
            clear h1
            by_cases h2 : 1 ≤ (need j).len
            rotate_left
            · go_wp2_with fail
              go_roundw
              case rel => exact ⟨j + 1, by omega, by go_num, qb⟩
              case measure => simp [intOf]; omega
            by_cases h3 : (need j).len ≤ 1048576
            rotate_left
            · go_wp2_with fail
              go_roundw
              case rel => exact ⟨j + 1, by omega, by go_num, qb⟩
              case measure => simp [intOf]; omega
            have hGp : 0 ≤ G j := HGj.out (decide_eq_true ⟨H1.out, h2, h3⟩)
            go_wp2_with fail
            go_roundw
            case rel => exact ⟨j + 1, by omega, by go_num, qb⟩
            case measure => simp [intOf]; omega
          · have hbt := below_up hbw3 hwj
            clear HP3 HG3
            have HPt := Lib.hid (HP.out.later hbt)
            have HQt := Lib.hid (HQ.out.later hbt)
            go_upto_region 22 with (fail)
            obtain ⟨kk, hkk, hle⟩ : ∃ kk : Nat, min (nn : Int) (k : Int) = kk ∧ kk ≤ k := ⟨min nn k, by omega, by omega⟩
            rw [hkk]
            clear hkk
            go_wp2_with fail
            refine (assign_any _ _ k _ q _ need rest _ (by omega) (by omega) HPt.out HQt.out).mono ?_
            rintro e w5 ⟨vL, vG, rfl, hL, hG, hb5⟩
            obtain ⟨AL5, cL5, rfl, _, _, _⟩ := hL.form
            obtain ⟨AG5, cG5, rfl, hkG, hGm, rG⟩ := hG.form
            have HP5 := Lib.hid ((HPt.out.later hb5).take hle)
            have HQ5 := Lib.hid (HQt.out.later hb5)
            have HG5 := Lib.hid rG
            have hbt5 := below_up hbt hb5
            unfold maxLen at hGm
            clear rG hL hG HPt HQt hb5
            have hle1 : (kk : Int) ≤ c := by omega
            have hle2 : (kk : Int) ≤ cG5 := by omega
            have hle3 : (0 : Int) ≤ kk := by omega
            have hkk' : ((k : Int) == (k : Int)) = true := by simp
            go_wp2_with fail
            refine (assign_any _ _ kk _ q _ need rest _ (by omega) (by omega) HP5.out HQ5.out).mono ?_
            rintro e w6 ⟨vL, vG, rfl, hL, hG, hb6⟩
            obtain ⟨AL6, cL6, rfl, _, _, _⟩ := hL.form
            obtain ⟨AG6, cG6, rfl, _, _, rG⟩ := hG.form
            have HG6 := Lib.hid ((HG5.out.later hb6).take hle)
            have KG6 := Lib.hid rG
            have hbt6 := below_up hbt5 hb6
            clear rG hL hG HP5 HQ5 HG5 hb6 hbt5
            go_wp2_with fail
            refine (sameInts_any _ _ kk kk _ _ _ _ _ (by omega) (by omega) KG6.out HG6.out).mono ?_
            rintro e w7 ⟨rfl, hb7⟩
            rw [same_ints_self]
            have hbt7 := below_up hbt6 hb7
            go_wp2_with fail
            refine (example_any _).mono ?_
            rintro e w8 ⟨rfl, hb8⟩
            go_wp2_with fail
            go_ret
            exact ⟨rfl, below_up hbt7 hb8⟩

end Go.Proofs.Ytmjfalabjlbdeaa
