/- The reference's Turned, better, Improve. -/
import Derived.Test.YtpjckolfjaffjaaPthH
namespace Go.Proofs.Ytpjckolfjaffjaa
open Go.RowKit
set_option linter.unusedSimpArgs false
set_option linter.unusedVariables false

set_option maxHeartbeats 1600000 in
theorem turned_any (A2 : Option Addr) (l c2 i k : Nat) (ord : Nat → Int) (w : World) (hl : l ≤ 1000) (hik : i < k) (hk : k < l) (hp : Row w w.heap.size 1 A2 l (fun i _ => .int .i64 (ord i))) :
    Calls Try.prog 20 #[.slice A2 l c2, .int .i64 i, .int .i64 k] w fun e w' => ∃ v, e = .returned v ∧ Owned w' w.heap.size 3 1 v l (fun j _ => .int .i64 (turnF ord i k j)) ∧ Below w.heap.size w w' := by
  have HP := Lib.hid hp
  clear hp
  obtain ⟨i0, hi0, hz0, hz1, hz2⟩ := info_parts int_info
  have HI0 := Lib.hid hi0
  have HZ := Lib.hid (And.intro hz0 (And.intro hz1 hz2))
  clear hi0 hz0 hz1 hz2
  obtain ⟨bo, oo, rfl, hBo⟩ := HP.out.addr (by omega)
  have hik' : (i : Int) < k := by omega
  have hk' : (k : Int) < l := by omega
  have hi0 : (0 : Int) ≤ i := by omega
  go_enter Try.func20, Try.ntmps20
  go_wp2_with fail
  go_loopw [7, 8] (fun v t wr => ∃ n : Nat, n ≤ l ∧ t = .int .i64 n ∧ Owned wr w.heap.size 3 1 v n (fun j _ => .int .i64 (turnF ord i k j)) ∧ Below w.heap.size w wr) (fun _ t _ => l - (intOf t).toNat)
  case atStart => exact ⟨0, Nat.zero_le _, rfl, Owned.nil _ _ _ _ _, Below.refl _ _⟩
  case round =>
    obtain ⟨n, hn, rfl, kO, hwr⟩ := hrel
    have hz3 : w.heap.size ≤ wr.heap.size := hwr.size
    by_cases hlt : n < l
    · have hlt' : (n : Int) < l := by omega
      have hn0 : (0 : Int) ≤ n := by omega
      have hn60 : n ≤ 1000 := by omega
      by_cases hin : i ≤ n ∧ n ≤ k
      · obtain ⟨h1, h2⟩ := hin
        have h1' : (i : Int) ≤ n := by omega
        have h2' : (n : Int) ≤ k := by omega
        obtain ⟨q, hq, hql⟩ : ∃ q : Nat, i + k - n = q ∧ q < l := ⟨_, rfl, by omega⟩
        have f0 := (hwr.cell (p := ⟨bo, _, none⟩) hBo).trans (HP.out.at1 hql)
        have HT := Lib.hid (show turnF ord i k n = ord q by rw [turn_in h1 h2, hq])
        have hqi : (i : Int) + k - n = (q : Int) := by omega
        have hql' : (q : Int) < l := by omega
        have hq0 : (0 : Int) ≤ q := by omega
        clear hq
        generalize ord q = X at *
        go_wp2_with (at_builtin; refine wpList_append_row _ rfl _ _ _ rfl w.heap.size 3 i0 _ 1 8 Try.underlying23 HI0.out HZ.out.1 HZ.out.2.1 HZ.out.2.2 rfl (by omega) _ n _ rfl (kO.alloc _) _ _ 1 1 (fun _ _ => .int .i64 X) rfl (Row.lit wr #[.int .i64 X] 1 3 1 _ (by simp only [maxLen]; omega) rfl) (fun i j _ hj => rfl) (by simp only [maxLen]; omega) (by omega) (by simp; omega) ?_; intro v' w4 hown hgr hbk)
        have ub := (kO.alloc (.cells #[.int .i64 X] 3)).below_grown (hwr.alloc hz3 _) (Nat.le_refl _) (by simp; omega) hgr
        go_roundw
        case rel =>
          refine ⟨n + 1, by omega, by go_num, hown.congr (fun j l' hj hl' => ?_), ub⟩
          unfold glue
          by_cases hjn : j < n
          · rw [if_pos hjn]
          · obtain rfl : j = n := by omega
            rw [if_neg hjn, HT.out]
        case measure => simp [intOf]; omega
      · have f0 := (hwr.cell (p := ⟨bo, _, none⟩) hBo).trans (HP.out.at1 hlt)
        have HT := Lib.hid (show turnF ord i k n = ord n by rw [turn_out (by omega)])
        generalize ord n = X at *
        by_cases h1 : (i : Int) ≤ n
        rotate_left
        rotate_left
        have h2 : ¬ (n : Int) ≤ k := by omega
        rotate_left
        all_goals
          clear hin
          go_wp2_with (at_builtin; refine wpList_append_row _ rfl _ _ _ rfl w.heap.size 3 i0 _ 1 8 Try.underlying23 HI0.out HZ.out.1 HZ.out.2.1 HZ.out.2.2 rfl (by omega) _ n _ rfl (kO.alloc _) _ _ 1 1 (fun _ _ => .int .i64 X) rfl (Row.lit wr #[.int .i64 X] 1 3 1 _ (by simp only [maxLen]; omega) rfl) (fun i j _ hj => rfl) (by simp only [maxLen]; omega) (by omega) (by simp; omega) ?_; intro v' w4 hown hgr hbk)
          have ub := (kO.alloc (.cells #[.int .i64 X] 3)).below_grown (hwr.alloc hz3 _) (Nat.le_refl _) (by simp; omega) hgr
          go_roundw
          case rel =>
            refine ⟨n + 1, by omega, by go_num, hown.congr (fun j l' hj hl' => ?_), ub⟩
            unfold glue
            by_cases hjn : j < n
            · rw [if_pos hjn]
            · obtain rfl : j = n := by omega
              rw [if_neg hjn, HT.out]
          case measure => simp [intOf]; omega
    · obtain rfl : n = l := by omega
      go_wp2_with fail
      go_ret
      exact ⟨_, rfl, kO, hwr⟩

/-- What better leaves: a new list if there is a better one. -/
def BetterPost (w : World) (v : Value) (l : Nat) (s : Nat → Spot) (ord : Nat → Int) (e : Ending) (w' : World) : Prop :=
  Below w.heap.size w w' ∧
  ((iF s ord l < 0 ∧ e = .returned (.tuple #[v, .bool false])) ∨
   (0 ≤ iF s ord l ∧ ∃ u, e = .returned (.tuple #[u, .bool true]) ∧ Owned w' w.heap.size 3 1 u l (fun j _ => .int .i64 (stepF s l ord j))))

set_option maxRecDepth 100000 in
set_option maxHeartbeats 3200000 in
theorem better_any (A A2 : Option Addr) (m c l c2 : Nat) (poly : Nat → Poly) (ord : Nat → Int) (w : World) (hm : m ≤ 60) (hv : ∀ i, i < m → checkF (poly i).pn (poly i).spot = 0) (hord : IsOrder l m ord) (hq : Polys w w.heap.size A m poly) (hp : Row w w.heap.size 1 A2 l (fun i _ => .int .i64 (ord i))) :
    Calls Try.prog 33 #[.slice A m c, .slice A2 l c2] w (BetterPost w (.slice A2 l c2) l (startF poly) ord) := by
  have HP := Lib.hid hp
  have HQ := Lib.hid hq
  have HV := Lib.hid hv
  have HO := Lib.hid hord
  have hlm : l = m := hord.1
  have hl60 : l ≤ 60 := by omega
  clear hp hq hv hord hlm
  have HST := Lib.hid (start_ok HV.out)
  go_enter Try.func33, Try.ntmps33
  go_wp2_with fail
  refine (rtravel_any A A2 m c l c2 poly ord _ hl60 hm HQ.out HV.out HP.out (fun i hi => by obtain ⟨e, h⟩ := HO.out; subst e; exact (h i hi).1)).mono ?_
  rintro e w1 ⟨rfl, hb1⟩
  have HTR := Lib.hid (fun i k hik hk => turn_travel (startF poly) ord (l := l) (i := i) (k := k) hik hk)
  generalize hT : travelF (startF poly) ord l = T at *
  clear hT
  go_wp2_with fail
  go_loopw [7] (fun t wr => ∃ i : Nat, i ≤ l ∧ t = .int .i64 i ∧ Hid (∀ a, a < i → kF (startF poly) ord l a < 0) ∧ Below w.heap.size w wr) (fun t _ => l - (intOf t).toNat)
  case atStart => exact ⟨0, Nat.zero_le _, rfl, Lib.hid (fun a ha => absurd ha (by omega)), hb1⟩
  case round =>
    obtain ⟨i, hi, rfl, hno, hwr⟩ := hrel
    by_cases hli : i < l
    · have hli' : (i : Int) < l := by omega
      have hi0 : (0 : Int) ≤ i := by omega
      go_wp2_with fail
      obtain ⟨wo, hwo⟩ : ∃ wo, wo = wr := ⟨_, rfl⟩
      rw [← hwo] at hwr
      rw [← hwo]
      clear hwo
      go_loopw [8] (fun t wr => ∃ k : Nat, i < k ∧ k ≤ l ∧ t = .int .i64 k ∧ Hid (∀ b, b < k → ¬ (i < b ∧ 0 < gainF (startF poly) ord l i b)) ∧ Below w.heap.size w wr) (fun t _ => l - (intOf t).toNat)
      case atStart => exact ⟨i + 1, by omega, by omega, by go_num, Lib.hid (fun b hb h => by omega), hwr⟩
      case round =>
        obtain ⟨k, hik, hk, rfl, hnk, hwk⟩ := hrel
        by_cases hlk : k < l
        · have hlk' : (k : Int) < l := by omega
          have hk0 : (0 : Int) ≤ k := by omega
          go_wp2_with fail
          refine (turned_any A2 l c2 i k ord _ (by omega) hik hlk (HP.out.later hwk)).mono ?_
          rintro e w2 ⟨v, rfl, hO2, hb2⟩
          obtain ⟨AT, cT, rfl, _, _, rT⟩ := hO2.form
          have hw2 := below_up hwk hb2
          have HOT := Lib.hid (turn_order HO.out hik hlk)
          have hO2' := hO2.mono hwk.size
          go_wp2_with fail
          refine (rtravel_any A AT m c l cT poly (turnF ord i k) _ hl60 hm (HQ.out.later hw2) HV.out rT (fun j hj => by obtain ⟨e, h⟩ := HOT.out; subst e; exact (h j hj).1)).mono ?_
          rintro e w3 ⟨rfl, hb3⟩
          have hw3 := below_up hw2 hb3
          have hO3 := hO2'.later hb3
          have heq := HTR.out i k hik hlk
          clear hO2 hO2' rT hb2 hb3
          by_cases hg : 0 < gainF (startF poly) ord l i k
          rotate_left
          · have HG := Lib.hid hg
            have hnl : ¬ travelF (startF poly) (turnF ord i k) l < T := by omega
            generalize travelF (startF poly) (turnF ord i k) l = X at hnl ⊢
            clear heq hg
            go_wp2_with fail
            go_roundw
            case rel =>
              refine ⟨k + 1, by omega, by omega, by go_num, Lib.hid (fun b hb' => ?_), hw3⟩
              rcases Nat.lt_succ_iff_lt_or_eq.1 hb' with h' | rfl
              · exact hnk.out b h'
              · exact fun h => by have h1 := HG.out; have h2 := h.2; omega
            case measure => simp [intOf]; omega
          have HKF := Lib.hid (kF_at hlk hnk.out hik hg)
          have HIF := Lib.hid (iF_at hli hno.out (by rw [HKF.out]; omega))
          have HST2 := Lib.hid (step_at HIF.out HKF.out)
          have hlt : travelF (startF poly) (turnF ord i k) l < T := by omega
          have HO3 := Lib.hid hO3
          generalize travelF (startF poly) (turnF ord i k) l = X at hlt ⊢
          clear heq hg hO3
          go_wp2_with fail
          go_ret2
          exact ⟨hw3, .inr ⟨by rw [HIF.out]; omega, _, rfl, by rw [HST2.out]; exact HO3.out⟩⟩
        · have HK := Lib.hid (kF_none (s := startF poly) (ord := ord) (l := l) (i := i) (fun b hb' => hnk.out b (by omega)))
          go_wp2_with fail
          go_roundw
          case rel =>
            refine ⟨i + 1, by omega, by go_num, Lib.hid (fun a ha => ?_), hwk⟩
            rcases Nat.lt_succ_iff_lt_or_eq.1 ha with h' | rfl
            · exact hno.out a h'
            · rw [HK.out]; decide
          case measure => simp [intOf]; omega
    · have HI := Lib.hid (iF_none (s := startF poly) (ord := ord) (l := l) (fun a ha => hno.out a (by omega)))
      go_wp2_with fail
      go_ret2
      exact ⟨hwr, .inl ⟨by rw [HI.out]; decide, rfl⟩⟩

theorem plain_ints (f : Nat → Int) (n : Nat) : Plain 1 n (fun i _ => .int .i64 (f i)) := fun i j _ _ => rfl

set_option maxRecDepth 100000 in
set_option maxHeartbeats 3200000 in
theorem rImprove_any (A A2 : Option Addr) (m c l c2 : Nat) (poly : Nat → Poly) (ord : Nat → Int) (w : World) (hl : l ≤ 1000) (hq : Polys w w.heap.size A m poly) (hp : Row w w.heap.size 1 A2 l (fun i _ => .int .i64 (ord i))) :
    Calls Try.prog 17 #[.slice A m c, .slice A2 l c2] w (ImpPost w m poly l ord) := by
  have HP := Lib.hid hp
  have HQ := Lib.hid hq
  clear hp hq
  go_enter Try.func17, Try.ntmps17
  go_wp2_with fail
  refine (rboth_any A A2 m c l c2 poly ord _ hl HQ.out HP.out).mono ?_
  rintro e w1 ⟨rfl, hb1⟩
  by_cases hE : bothErr m poly l ord = 0
  rotate_left
  · have HE := Lib.hid hE
    have hne : (bothErr m poly l ord != 0) = true := bne_iff_ne.2 hE
    clear hE
    go_wp2_with fail
    go_ret2
    exact imp_fail rfl HE.out hb1
  have HE := Lib.hid hE
  obtain ⟨hchk, hord⟩ := both_zero hE
  have HV := Lib.hid (chk_valid hchk).2
  have HOR := Lib.hid (fun n => imp_order (s := startF poly) hord n)
  have hm60 := (chk_valid hchk).1
  have hlm : l = m := hord.1
  subst hlm
  rw [hE]
  clear hE hchk hord
  obtain ⟨i0, hi0, hz0, hz1, hz2⟩ := info_parts int_info
  have HI0 := Lib.hid hi0
  have HZ := Lib.hid (And.intro hz0 (And.intro hz1 hz2))
  clear hi0 hz0 hz1 hz2
  have HP1 := Lib.hid (HP.out.later hb1)
  go_upto_region 6 with (at_builtin; refine wpList_append_row _ rfl _ _ _ rfl w1.heap.size 3 i0 _ 1 8 Try.underlying23 HI0.out HZ.out.1 HZ.out.2.1 HZ.out.2.2 rfl (by omega) _ 0 (fun i _ => .int .i64 (ord i)) rfl (Owned.nil _ _ _ _ _) _ _ l c2 (fun i _ => .int .i64 (ord i)) rfl HP1.out (plain_ints ord l) (by simp only [maxLen]; omega) (by omega) (by simp) ?_; intro vA w3 hown hgr hbk)
  have hb3 : Below w1.heap.size w1 w3 := (Below.refl _ _).grown hgr (Nat.le_refl _) (fun k hk => by cases hk)
  rw [Nat.zero_add] at hown
  have hA := (hown.congr (g := fun i _ => .int .i64 (impF (startF poly) l ord 0 i)) (fun i j _ _ => by simp [glue]; rfl)).mono hb1.size
  clear hown hgr hbk HP1
  have hbw := below_up hb1 hb3
  go_wp2_with fail
  go_loopw [7, 8] (fun v t wr => ∃ n : Nat, n ≤ 1000 ∧ t = .int .i64 n ∧ Owned wr w.heap.size 3 1 v l (fun j _ => .int .i64 (impF (startF poly) l ord n j)) ∧ Below w.heap.size w wr) (fun _ t _ => 1000 - (intOf t).toNat)
  case atStart => exact ⟨0, Nat.zero_le _, rfl, hA, hbw⟩
  case round =>
    obtain ⟨n, hn, rfl, kO, hwr⟩ := hrel
    clear hA
    by_cases hlt : n < 1000
    · have hlt' : (n : Int) < 1000 := by omega
      obtain ⟨AO, cO, rfl, _, _, rO⟩ := kO.form
      go_wp2_with fail
      refine (better_any A AO l c l cO poly (impF (startF poly) l ord n) _ hm60 HV.out (HOR.out n) (HQ.out.later hwr) rO).mono ?_
      clear rO
      rintro e w4 ⟨hb4, ⟨hI, rfl⟩ | ⟨hI, u, rfl, hO4⟩⟩
      · have hst : impF (startF poly) l ord 1000 = impF (startF poly) l ord n := by
          have := imp_still (d := 1000 - n) hI
          rwa [show n + (1000 - n) = 1000 by omega] at this
        have HF := Lib.hid (show Owned w4 w.heap.size 3 1 (.slice AO l cO) l (fun j _ => .int .i64 (impF (startF poly) l ord 1000 j)) by
          rw [hst]
          exact kO.later hb4)
        clear hst hI
        go_wp2_with fail
        go_ret2
        exact ⟨below_up hwr hb4, .inl ⟨HE.out, _, rfl, HF.out⟩⟩
      · have hO5 := hO4.mono hwr.size
        have hw4 := below_up hwr hb4
        clear hI hO4
        go_wp2_with fail
        go_roundw
        case rel => exact ⟨n + 1, by omega, by go_num, hO5, hw4⟩
        case measure => simp [intOf]; omega
    · obtain rfl : n = 1000 := by omega
      go_wp2_with fail
      go_ret2
      exact ⟨hwr, .inl ⟨HE.out, _, rfl, kO⟩⟩

end Go.Proofs.Ytpjckolfjaffjaa
