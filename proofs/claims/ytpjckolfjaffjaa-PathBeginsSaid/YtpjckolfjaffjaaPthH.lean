/- path.turnFirst, path.Improve. -/
import Derived.Test.YtpjckolfjaffjaaPthG
namespace Go.Proofs.Ytpjckolfjaffjaa
open Go.RowKit
set_option linter.unusedSimpArgs false
set_option linter.unusedVariables false

theorem kF_none {s : Nat → Spot} {ord : Nat → Int} {l i : Nat} (h : ∀ k, k < l → ¬ (i < k ∧ 0 < gainF s ord l i k)) : kF s ord l i = -1 :=
  firstF_none _ _ (fun k hk => by
    have := h k hk
    by_cases h1 : i < k
    · rw [decide_eq_true h1, decide_eq_false (fun h2 => this ⟨h1, h2⟩)]; rfl
    · rw [decide_eq_false h1]; rfl)

theorem kF_at {s : Nat → Spot} {ord : Nat → Int} {l i k : Nat} (hk : k < l) (h : ∀ j, j < k → ¬ (i < j ∧ 0 < gainF s ord l i j)) (h1 : i < k) (h2 : 0 < gainF s ord l i k) : kF s ord l i = (k : Nat) :=
  firstF_at _ _ _ hk (fun j hj => by
    have := h j hj
    by_cases h1 : i < j
    · rw [decide_eq_true h1, decide_eq_false (fun h2 => this ⟨h1, h2⟩)]; rfl
    · rw [decide_eq_false h1]; rfl) (by rw [decide_eq_true h1, decide_eq_true h2]; rfl)

theorem iF_none {s : Nat → Spot} {ord : Nat → Int} {l : Nat} (h : ∀ i, i < l → kF s ord l i < 0) : iF s ord l = -1 :=
  firstF_none _ _ (fun i hi => decide_eq_false (by have := h i hi; omega))

theorem iF_at {s : Nat → Spot} {ord : Nat → Int} {l i : Nat} (hi : i < l) (h : ∀ j, j < i → kF s ord l j < 0) (h1 : 0 ≤ kF s ord l i) : iF s ord l = (i : Nat) :=
  firstF_at _ _ _ hi (fun j hj => decide_eq_false (by have := h j hj; omega)) (decide_eq_true h1)

theorem step_none {s : Nat → Spot} {ord : Nat → Int} {l : Nat} (h : ∀ i, i < l → kF s ord l i < 0) : stepF s l ord = ord := by
  unfold stepF
  rw [if_pos (by rw [iF_none h]; decide)]

theorem step_at {s : Nat → Spot} {ord : Nat → Int} {l i k : Nat} (hi : iF s ord l = (i : Nat)) (hk : kF s ord l i = (k : Nat)) : stepF s l ord = turnF ord i k := by
  unfold stepF
  rw [hi, if_neg (by omega), Int.toNat_natCast, hk, Int.toNat_natCast]

/-- What turnFirst leaves. -/
def TurnPost (w : World) (base : Nat) (v : Value) (l : Nat) (s : Nat → Spot) (ord : Nat → Int) (e : Ending) (w' : World) : Prop :=
  Below base w w' ∧ Owned w' base 3 1 v l (fun j _ => .int .i64 (stepF s l ord j)) ∧
  ((iF s ord l < 0 ∧ e = .returned (.bool false)) ∨ (0 ≤ iF s ord l ∧ e = .returned (.bool true)))

set_option maxRecDepth 100000 in
set_option maxHeartbeats 3200000 in
theorem turnFirst_any (AN A2 : Option Addr) (m cN l c2 base : Nat) (s : Nat → Spot) (ord : Nat → Int) (w : World) (hl : l ≤ 100) (hs : ∀ i, i < m → (s i).ok) (ho : ∀ i, i < l → 0 ≤ ord i ∧ ord i < m) (hb : base ≤ w.heap.size)
    (hN : Row w base 2 AN m (fun i => spotC (s i))) (hO : Owned w base 3 1 (.slice A2 l c2) l (fun j _ => .int .i64 (ord j))) (hlc : l ≤ c2) (hcm : c2 ≤ maxLen) :
    Calls Try.prog 32 #[.slice AN m cN, .slice A2 l c2] w (TurnPost w base (.slice A2 l c2) l s ord) := by
  unfold maxLen at hcm
  have HST := Lib.hid hs
  have HOR := Lib.hid ho
  have HN := Lib.hid (hN.more hb)
  have HO := Lib.hid hO
  have hrow : Row w w.heap.size 1 A2 l (fun j _ => .int .i64 (ord j)) := by
    obtain ⟨A', c', e, _, _, hr⟩ := hO.form
    injection e with e1 _ _
    rw [e1]
    exact hr
  have HR := Lib.hid hrow
  clear hs ho hN hO hrow
  go_enter Try.func32, Try.ntmps32
  go_wp2_with fail
  go_loopw [10] (fun t wr => ∃ i : Nat, i ≤ l ∧ t = .int .i64 i ∧ Hid (∀ a, a < i → kF s ord l a < 0) ∧ Below w.heap.size w wr) (fun t _ => l - (intOf t).toNat)
  case atStart => exact ⟨0, Nat.zero_le _, rfl, Lib.hid (fun a ha => absurd ha (by omega)), Below.refl _ _⟩
  case round =>
    obtain ⟨i, hi, rfl, hno, hwr⟩ := hrel
    by_cases hli : i < l
    · have hli' : (i : Int) < l := by omega
      have hi0 : (0 : Int) ≤ i := by omega
      go_wp2_with fail
      obtain ⟨wo, hwo⟩ : ∃ wo, wo = wr := ⟨_, rfl⟩
      rw [← hwo] at hwr
      rw [← hwo]
      clear hwo
      go_loopw [15] (fun t wr => ∃ k : Nat, k ≤ l ∧ t = .int .i64 k ∧ Hid (∀ b, b < k → ¬ (i < b ∧ 0 < gainF s ord l i b)) ∧ Below w.heap.size w wr) (fun t _ => l - (intOf t).toNat)
      case atStart => exact ⟨0, Nat.zero_le _, rfl, Lib.hid (fun a ha => absurd ha (by omega)), hwr⟩
      case round =>
        obtain ⟨k, hk, rfl, hnk, hwk⟩ := hrel
        by_cases hlk : k < l
        · have hlk' : (k : Int) < l := by omega
          have hk0 : (0 : Int) ≤ k := by omega
          by_cases hik : i < k
          rotate_left
          · have hik' : ¬ (i : Int) < k := by omega
            go_wp2_with fail
            go_roundw
            case rel =>
              refine ⟨k + 1, by omega, by go_num, Lib.hid (fun b hb' => ?_), hwk⟩
              rcases Nat.lt_succ_iff_lt_or_eq.1 hb' with h' | rfl
              · exact hnk.out b h'
              · exact fun h => hik h.1
            case measure => simp [intOf]; omega
          have hik' : (i : Int) < k := by omega
          go_wp2_with fail
          refine (gain_any AN A2 m cN l c2 i k s ord _ hl HST.out HOR.out (HN.out.later hwk) (HR.out.later hwk) hik hlk).mono ?_
          rintro e w2 ⟨rfl, hb2⟩
          have hw2 := below_up hwk hb2
          by_cases hg : 0 < gainF s ord l i k
          rotate_left
          · have HG := Lib.hid hg
            generalize gainF s ord l i k = G at hg ⊢
            clear hb2
            go_wp2_with fail
            go_roundw
            case rel =>
              refine ⟨k + 1, by omega, by go_num, Lib.hid (fun b hb' => ?_), hw2⟩
              rcases Nat.lt_succ_iff_lt_or_eq.1 hb' with h' | rfl
              · exact hnk.out b h'
              · exact fun h => by have h1 := HG.out; have h2 := h.2; omega
            case measure => simp [intOf]; omega
          have HKF := Lib.hid (kF_at hlk hnk.out hik hg)
          have HIF := Lib.hid (iF_at hli hno.out (by rw [HKF.out]; omega))
          have HST2 := Lib.hid (step_at HIF.out HKF.out)
          have hO2 := HO.out.later hw2
          obtain ⟨g, cap, hv, _, _, _, _, _, _⟩ := hO2.blk (by omega)
          injection hv with hv1 _ hv2
          subst hv1; subst hv2
          have HO2 := Lib.hid hO2
          clear hO2
          have hkc1 : (k : Int) + 1 ≤ c2 := by omega
          generalize gainF s ord l i k = G at hg ⊢
          go_wp2_with fail
          refine (reverse_any base g l c2 i (k + 1 - i) ord _ (by omega) (by omega) (by omega) HO2.out).mono ?_
          rintro e w3 ⟨rfl, hO3, hb3⟩
          rw [show i + (k + 1 - i) - 1 = k by omega] at hO3
          go_wp2_with fail
          go_ret
          exact ⟨(hw2.mono hb).trans hb3, by rw [HST2.out]; exact hO3, .inr ⟨by rw [HIF.out]; omega, rfl⟩⟩
        · have HK := Lib.hid (kF_none (s := s) (ord := ord) (l := l) (i := i) (fun b hb' => hnk.out b (by omega)))
          go_wp2_with fail
          go_roundw
          case rel =>
            refine ⟨i + 1, by omega, by go_num, Lib.hid (fun a ha => ?_), hwk⟩
            rcases Nat.lt_succ_iff_lt_or_eq.1 ha with h' | rfl
            · exact hno.out a h'
            · rw [HK.out]; decide
          case measure => simp [intOf]; omega
    · have HI := Lib.hid (iF_none (s := s) (ord := ord) (l := l) (fun a ha => hno.out a (by omega)))
      have HS := Lib.hid (step_none (s := s) (ord := ord) (l := l) (fun a ha => hno.out a (by omega)))
      go_wp2_with fail
      go_ret
      exact ⟨hwr.mono hb, by rw [HS.out]; exact HO.out.later hwr, .inl ⟨by rw [HI.out]; decide, rfl⟩⟩

theorem turn_order {l n : Nat} {ord : Nat → Int} {i k : Nat} (h : IsOrder l n ord) (hik : i < k) (hk : k < l) : IsOrder l n (turnF ord i k) := by
  obtain ⟨h1, h2⟩ := h
  subst h1
  have inj : ∀ a b, a < l → b < l → ord a = ord b → a = b := by
    intro a b ha hb e
    rcases Nat.lt_trichotomy a b with h | h | h
    · exact absurd e ((h2 b hb).2 a h)
    · exact h
    · exact absurd e.symm ((h2 a ha).2 b h)
  have idx : ∀ j, j < l → ∃ j', j' < l ∧ turnF ord i k j = ord j' ∧ (j' = if i ≤ j ∧ j ≤ k then i + k - j else j) := by
    intro j hj
    unfold turnF
    by_cases hc : i ≤ j ∧ j ≤ k
    · rw [if_pos hc]; exact ⟨i + k - j, by omega, rfl, by rw [if_pos hc]⟩
    · rw [if_neg hc]; exact ⟨j, hj, rfl, by rw [if_neg hc]⟩
  refine ⟨rfl, fun j hj => ?_⟩
  obtain ⟨j', hj', e, _⟩ := idx j hj
  refine ⟨by rw [e]; exact (h2 j' hj').1, fun a ha he => ?_⟩
  obtain ⟨a', ha', ea, qa⟩ := idx a (by omega)
  obtain ⟨j'', hj'', ej, qj⟩ := idx j hj
  rw [ea, ej] at he
  have := inj a' j'' ha' hj'' he
  rw [qa, qj] at this
  by_cases c1 : i ≤ a ∧ a ≤ k <;> by_cases c2 : i ≤ j ∧ j ≤ k
  · rw [if_pos c1, if_pos c2] at this; omega
  · rw [if_pos c1, if_neg c2] at this; omega
  · rw [if_neg c1, if_pos c2] at this; omega
  · rw [if_neg c1, if_neg c2] at this; omega

theorem iF_spec {s : Nat → Spot} {ord : Nat → Int} {l : Nat} : (iF s ord l < 0 ∧ ∀ i k, i < k → k < l → gainF s ord l i k ≤ 0) ∨
    ∃ i k, i < k ∧ k < l ∧ iF s ord l = (i : Nat) ∧ kF s ord l i = (k : Nat) ∧ 0 < gainF s ord l i k := by
  rcases firstF_spec (fun i => decide (0 ≤ kF s ord l i)) l with ⟨e, h⟩ | ⟨i, hi, e, h, _⟩
  · left
    refine ⟨by unfold iF; rw [e]; decide, fun i k hik hk => ?_⟩
    have h1 : kF s ord l i < 0 := by have := of_decide_eq_false (h i (by omega)); omega
    rcases firstF_spec (fun k => decide (i < k) && decide (0 < gainF s ord l i k)) l with ⟨_, h2⟩ | ⟨k', _, e2, _, _⟩
    · have := h2 k hk
      rw [decide_eq_true hik, Bool.true_and] at this
      have := of_decide_eq_false this
      omega
    · unfold kF at h1; omega
  · right
    have h1 : 0 ≤ kF s ord l i := of_decide_eq_true h
    rcases firstF_spec (fun k => decide (i < k) && decide (0 < gainF s ord l i k)) l with ⟨e2, _⟩ | ⟨k, hk, e2, h2, _⟩
    · unfold kF at h1; omega
    · rw [Bool.and_eq_true, decide_eq_true_eq, decide_eq_true_eq] at h2
      exact ⟨i, k, h2.1, hk, e, e2, h2.2⟩

theorem step_order {s : Nat → Spot} {l n : Nat} {ord : Nat → Int} (h : IsOrder l n ord) : IsOrder l n (stepF s l ord) := by
  rcases iF_spec (s := s) (ord := ord) (l := l) with ⟨h1, _⟩ | ⟨i, k, hik, hk, h1, h2, _⟩
  · unfold stepF; rw [if_pos h1]; exact h
  · rw [step_at h1 h2]; exact turn_order h hik hk

theorem imp_order {s : Nat → Spot} {l m : Nat} {ord : Nat → Int} (h : IsOrder l m ord) : ∀ n, IsOrder l m (impF s l ord n)
  | 0 => h
  | n + 1 => step_order (imp_order h n)

/-- What both Improves leave. -/
def ImpPost (w : World) (m : Nat) (poly : Nat → Poly) (l : Nat) (ord : Nat → Int) (e : Ending) (w' : World) : Prop :=
  Below w.heap.size w w' ∧
  ((bothErr m poly l ord = 0 ∧ ∃ v, e = .returned (.tuple #[v, .int .i64 0]) ∧ Owned w' w.heap.size 3 1 v l (fun j _ => .int .i64 (impF (startF poly) l ord 1000 j))) ∨
   (bothErr m poly l ord ≠ 0 ∧ e = .returned (.tuple #[.slice none 0 0, .int .i64 (bothErr m poly l ord)])))

theorem imp_fail {w w' : World} {m : Nat} {poly : Nat → Poly} {l : Nat} {ord : Nat → Int} {x : Int} (he : bothErr m poly l ord = x) (h0 : x ≠ 0) (hb : Below w.heap.size w w') : ImpPost w m poly l ord (.returned (.tuple #[.slice none 0 0, .int .i64 x])) w' :=
  ⟨hb, .inr ⟨by rw [he]; exact h0, by rw [he]⟩⟩

set_option maxRecDepth 100000 in
set_option maxHeartbeats 3200000 in
theorem Improve_any (A A2 : Option Addr) (m c l c2 : Nat) (poly : Nat → Poly) (ord : Nat → Int) (w : World) (hl : l ≤ 1000) (hq : Polys w w.heap.size A m poly) (hp : Row w w.heap.size 1 A2 l (fun i _ => .int .i64 (ord i))) :
    Calls Try.prog 16 #[.slice A m c, .slice A2 l c2] w (ImpPost w m poly l ord) := by
  have HP := Lib.hid hp
  go_enter Try.func16, Try.ntmps16
  go_wp2_with fail
  refine (checked_any A A2 m c l c2 poly ord _ hl hq hp).mono ?_
  clear hq hp
  rintro e w1 ⟨hb1, ⟨hE, v, rfl, hN⟩ | ⟨hE, rfl⟩⟩
  rotate_left
  · have HE := Lib.hid hE
    have hne : (bothErr m poly l ord != 0) = true := bne_iff_ne.2 hE
    clear hE
    go_wp2_with fail
    go_ret2
    exact imp_fail rfl HE.out hb1
  have HE := Lib.hid hE
  obtain ⟨hchk, hord⟩ := both_zero hE
  have HST := Lib.hid (start_ok (chk_valid hchk).2)
  have HOR := Lib.hid (fun n => imp_order (s := startF poly) hord n)
  have hl60 := (chk_valid hchk).1
  have hlm : l = m := hord.1
  subst hlm
  clear hE hchk hord
  obtain ⟨AN, cN, rfl, _, _, rN⟩ := hN.form
  have HP1 := Lib.hid (HP.out.later hb1)
  clear HP hN
  go_wp2_with fail
  refine (cloneInt_any A2 l c2 _ _ hl HP1.out (fun i j _ _ => rfl)).mono ?_
  rintro e w2 ⟨vO, rfl, hO, hb2⟩
  obtain ⟨AO, cO, rfl, hlc, hcm, _⟩ := hO.form
  have HN := Lib.hid (rN.keep hb2)
  clear rN HP1
  have hbw := below_up hb1 hb2
  have hsz : w1.heap.size ≤ w2.heap.size := hb2.size
  have hw1 : w.heap.size ≤ w1.heap.size := hb1.size
  go_wp2_with fail
  go_loopw [20] (fun t wr => ∃ n : Nat, n ≤ 1000 ∧ t = .int .i64 n ∧ Owned wr w1.heap.size 3 1 (.slice AO l cO) l (fun j _ => .int .i64 (impF (startF poly) l ord n j)) ∧ Below w1.heap.size w2 wr) (fun t _ => 1000 - (intOf t).toNat)
  case atStart => exact ⟨0, Nat.zero_le _, rfl, hO, Below.refl _ _⟩
  case round =>
    obtain ⟨n, hn, rfl, kO, hwr⟩ := hrel
    by_cases hlt : n < 1000
    · have hlt' : (n : Int) < 1000 := by omega
      have hs2 : w1.heap.size ≤ wr.heap.size := Nat.le_trans hsz hwr.size
      go_wp2_with fail
      refine (turnFirst_any AN AO l cN l cO w1.heap.size (startF poly) (impF (startF poly) l ord n) _ (by omega) HST.out (fun i hi => ((HOR.out n).2 i hi).1) hs2 (HN.out.keep hwr) kO hlc hcm).mono ?_
      rintro e w3 ⟨hb3, hO3, ⟨hI, rfl⟩ | ⟨hI, rfl⟩⟩
      · have hst : impF (startF poly) l ord 1000 = impF (startF poly) l ord n := by
          have := imp_still (d := 1000 - n) hI
          rwa [show n + (1000 - n) = 1000 by omega] at this
        have hsn : stepF (startF poly) l (impF (startF poly) l ord n) = impF (startF poly) l ord n := by unfold stepF; rw [if_pos hI]
        have HF := Lib.hid (show Owned w3 w.heap.size 3 1 (.slice AO l cO) l (fun j _ => .int .i64 (impF (startF poly) l ord 1000 j)) by
          rw [hst]
          rw [hsn] at hO3
          exact hO3.mono hw1)
        clear hst hsn hI hO3
        go_wp2_with fail
        go_ret2
        exact ⟨hbw.trans ((hwr.trans hb3).mono hw1), .inl ⟨HE.out, _, rfl, HF.out⟩⟩
      · clear hI
        go_wp2_with fail
        go_roundw
        case rel => exact ⟨n + 1, by omega, by go_num, hO3, hwr.trans hb3⟩
        case measure => simp [intOf]; omega
    · obtain rfl : n = 1000 := by omega
      go_wp2_with fail
      go_ret2
      exact ⟨hbw.trans (hwr.mono hw1), .inl ⟨HE.out, _, rfl, kO.mono hw1⟩⟩

end Go.Proofs.Ytpjckolfjaffjaa
