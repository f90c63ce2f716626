/- The search: its plans, as invariants of its steps. No program in sight. -/
import Derived.Test.YtkdpkaidbmjcaaaLayK
namespace Go.Proofs.Ytkdpkaidbmjcaaa
open Go.RowKit
set_option linter.unusedSimpArgs false
set_option linter.unusedVariables false

/-- The first k numbers of a plan, as one number. -/
def rank (p : Plan) : Nat → Nat
  | 0 => 0
  | k + 1 => rank p k * 41 + (p k).toNat

theorem rank_congr {p q : Plan} {k : Nat} (h : ∀ j, j < k → p j = q j) : rank p k = rank q k := by
  induction k with
  | zero => rfl
  | succ k ih => show rank p k * 41 + _ = rank q k * 41 + _; rw [ih (fun j hj => h j (by omega)), h k (by omega)]

theorem rank_pad {p : Plan} {k : Nat} (hz : ∀ j, k ≤ j → p j = 0) (d : Nat) : rank p (k + d) = rank p k * 41 ^ d := by
  induction d with
  | zero => simp
  | succ d ih =>
    show rank p (k + d) * 41 + (p (k + d)).toNat = _
    rw [ih, hz (k + d) (by omega), Nat.pow_succ, Nat.mul_assoc]
    rfl

theorem rank_lt {p : Plan} (h : ∀ j, 0 ≤ p j ∧ p j ≤ 40) (k : Nat) : rank p k < 41 ^ k := by
  induction k with
  | zero => show 0 < 1; omega
  | succ k ih =>
    have := h k
    show rank p k * 41 + (p k).toNat < 41 ^ k * 41
    omega

/-- What holds of the greatest number of plies of mix j behind plan p. -/
structure HighAt (E : FEnv) (p : Plan) (j : Nat) (v : Int) : Prop where
  most : v ≤ E.most
  all : ∀ q, E.Feas q → EqTo j p q → q j ≤ v
  fits : ∀ u, p j ≤ u → u ≤ v → ∀ s, s < E.S → FitsAt E.ord (fun s => madeF (cntM E.mx) p s j) (fun s => restF (cntM E.mx) E.most E.m s (j + 1)) (cntM E.mx j) E.over u s

/-- A plan of which the first i numbers are decided; the greatest numbers. -/
structure Pl (E : FEnv) (i : Nat) (p : Plan) (hg : Nat → Int) : Prop where
  le : i ≤ E.m
  zero : ∀ j, i ≤ j → p j = 0
  pre : Pre E.m E.S (cntM E.mx) E.ord E.over E.most i p
  highs : ∀ j, j < i → HighAt E p j (hg j)

section
variable {E : FEnv} {i : Nat} {p : Plan} {hg : Nat → Int}

theorem Pl.bd (h : Pl E i p hg) (ok : E.Ok) (j : Nat) : 0 ≤ p j ∧ p j ≤ E.most := by
  by_cases hj : j < i
  · exact h.pre.1 j hj
  · rw [h.zero j (by omega)]
    exact ⟨Int.le_refl _, ok.most0⟩
theorem Pl.bd40 (h : Pl E i p hg) (ok : E.Ok) (j : Nat) : 0 ≤ p j ∧ p j ≤ 40 := by
  have := h.bd ok j
  have := ok.most1
  omega

theorem Pl.start (ok : E.Ok) (hg : Nat → Int) : Pl E 0 (fun _ => 0) hg :=
  ⟨Nat.zero_le _, fun _ _ => rfl, Pre.start (fun s hs => by have := (ok.ord s hs).1; have := ok.over0; omega), fun j hj => absurd hj (by omega)⟩

theorem cnt_nonneg (ok : E.Ok) : ∀ i s, i < E.m → s < E.S → 0 ≤ cntM E.mx i s := fun i s hi hs => (ok.good.cnt i s hi (by rw [← ok.sizes]; exact hs)).1

/-- What span says, in words of plans. -/
theorem Pl.span (h : Pl E i p hg) (ok : E.Ok) (hi : i < E.m) {v : Int} (hv : 0 ≤ v) (hm : v ≤ E.most) :
    (∀ s, s < E.S → FitsAt E.ord (fun s => madeF (cntM E.mx) p s i) (fun s => restF (cntM E.mx) E.most E.m s (i + 1)) (cntM E.mx i) E.over v s) ↔ ∃ lo hi, E.span p i E.S = some (lo, hi) ∧ lo ≤ v ∧ v ≤ hi := by
  unfold FEnv.span
  rw [← span_spec E.ord (fun s => madeF (cntM E.mx) p s E.m) (fun s => restF (cntM E.mx) E.most E.m s (i + 1)) (E.mx i).cnt E.over E.most v hv hm E.S (fun s hs => cnt_nonneg ok i s hi hs) (fun s hs => by
    rw [made_pad h.le h.zero s]
    exact (h.pre.2 s hs).1)]
  constructor
  · intro hf s hs
    have := hf s hs
    unfold FitsAt at this ⊢
    simp only [] at this ⊢
    rw [made_pad h.le h.zero s]
    exact this
  · intro hf s hs
    have := hf s hs
    unfold FitsAt at this ⊢
    simp only [] at this ⊢
    rw [made_pad h.le h.zero s] at this
    exact this

theorem Pl.fit (h : Pl E i p hg) (ok : E.Ok) (hi : i < E.m) {q : Plan} (hf : E.Feas q) (he : EqTo i p q) : ∃ lo hi, E.span p i E.S = some (lo, hi) ∧ lo ≤ q i ∧ q i ≤ hi :=
  (h.span ok hi (hf.1 i hi).1 (hf.1 i hi).2).1 (feas_fits (cnt_nonneg ok) hf hi he)

/-- Nothing fits. -/
theorem Pl.dead (h : Pl E i p hg) (ok : E.Ok) (hi : i < E.m) (hd : (spanOf (E.span p i E.S)).2 < (spanOf (E.span p i E.S)).1) : ∀ q, E.Feas q → ¬ EqTo i p q := by
  intro q hf he
  obtain ⟨lo, hi', hs, h1, h2⟩ := h.fit ok hi hf he
  rw [hs] at hd
  simp only [spanOf] at hd
  omega

theorem made_set_self (cnt : Nat → Nat → Int) (p : Plan) {i : Nat} (v : Int) (s : Nat) {k : Nat} (h : k ≤ i) : madeF cnt (setP p i v) s k = madeF cnt p s k := made_congr (fun j hj => setP_ne p v (by omega)) s

/-- Numbers from i on do not matter for what holds at j < i. -/
theorem HighAt.set {j : Nat} {v u : Int} (h : HighAt E p j v) (hj : j < i) : HighAt E (setP p i u) j v := by
  have e : ∀ a, a < j → p a = setP p i u a := fun a ha => (setP_ne p u (by omega)).symm
  refine ⟨h.most, fun q hf he => h.all q hf ((eq_congr e).2 he), fun x h1 h2 s hs => ?_⟩
  have := h.fits x (by rw [setP_ne p u (by omega)] at h1; exact h1) h2 s hs
  unfold FitsAt at this ⊢
  simp only [] at this ⊢
  rw [made_set_self _ _ _ _ (by omega)]
  exact this

theorem Pre.congr {p' : Plan} (h : Pre E.m E.S (cntM E.mx) E.ord E.over E.most i p) (he : ∀ j, j < i → p' j = p j) : Pre E.m E.S (cntM E.mx) E.ord E.over E.most i p' := by
  refine ⟨fun j hj => by rw [he j hj]; exact h.1 j hj, fun s hs => ?_⟩
  rw [made_congr he s]
  exact h.2 s hs

/-- Down. -/
theorem Pl.down (h : Pl E i p hg) (ok : E.Ok) (hi : i < E.m) (hd : ¬ (spanOf (E.span p i E.S)).2 < (spanOf (E.span p i E.S)).1) :
    0 ≤ (spanOf (E.span p i E.S)).1 ∧ (spanOf (E.span p i E.S)).1 ≤ E.most ∧ Pl E (i + 1) (setP p i (spanOf (E.span p i E.S)).1) (setF hg i (spanOf (E.span p i E.S)).2) ∧ ∀ q, E.Feas q → EqTo i p q → (spanOf (E.span p i E.S)).1 ≤ q i := by
  cases hs : E.span p i E.S with
  | none => rw [hs] at hd; exact absurd (by decide) hd
  | some x =>
    obtain ⟨lo, hi'⟩ := x
    rw [hs] at hd
    simp only [spanOf] at hd ⊢
    obtain ⟨h0, h1⟩ := span_lo_nonneg _ _ _ _ _ _ _ _ _ hs
    refine ⟨h0, by omega, ⟨hi, fun j hj => ?_, ?_, fun j hj => ?_⟩, fun q hf he => ?_⟩
    · rw [setP_ne p lo (by omega)]
      exact h.zero j (by omega)
    · exact h.pre.step h0 (by omega) ((h.span ok hi h0 (by omega)).2 ⟨lo, hi', hs, Int.le_refl _, by omega⟩)
    · rcases Nat.lt_succ_iff_lt_or_eq.1 hj with h' | rfl
      · have e : setF hg i hi' j = hg j := by unfold setF; rw [if_neg (by omega)]
        rw [e]
        exact (h.highs j h').set h'
      · have e : setF hg j hi' j = hi' := by unfold setF; rw [if_pos rfl]
        rw [e]
        refine ⟨h1, fun q hf he => ?_, fun u hu1 hu2 s hs' => ?_⟩
        · obtain ⟨lo2, hi2, hs2, g1, g2⟩ := h.fit ok hi hf ((eq_congr (fun a ha => (setP_ne p lo (by omega)).symm)).2 he)
          rw [hs] at hs2
          injection hs2 with hs2
          injection hs2 with e1 e2
          omega
        · rw [setP_at] at hu1
          have := (h.span ok hi (v := u) (by omega) (by omega)).2 ⟨lo, hi', hs, hu1, hu2⟩ s hs'
          unfold FitsAt at this ⊢
          simp only [] at this ⊢
          rw [made_set_self _ _ _ _ (Nat.le_refl _)]
          exact this
    · obtain ⟨lo2, hi2, hs2, g1, g2⟩ := h.fit ok hi hf he
      rw [hs] at hs2
      injection hs2 with hs2
      injection hs2 with e1 e2
      omega

theorem setP_twice (p : Plan) (i : Nat) (u v : Int) : ∀ j, setP (setP p i u) i v j = setP p i v j := fun j => by
  unfold setP
  by_cases h : j = i
  · rw [if_pos h, if_pos h]
  · rw [if_neg h, if_neg h, if_neg h]

/-- One more. -/
theorem Pl.more (h : Pl E (i + 1) p hg) (ok : E.Ok) (hd : p i < hg i) : Pl E (i + 1) (setP p i (p i + 1)) hg := by
  have hH := h.highs i (by omega)
  have h0 := (h.pre.1 i (by omega)).1
  have hpre : Pre E.m E.S (cntM E.mx) E.ord E.over E.most i p := ⟨fun j hj => h.pre.1 j (by omega), fun s hs => by
    obtain ⟨g1, g2⟩ := h.pre.2 s hs
    have g3 := g2 (by omega)
    have e : madeF (cntM E.mx) p s (i + 1) = madeF (cntM E.mx) p s i + p i * (E.mx i).cnt s := rfl
    have c0 := cnt_nonneg ok i s (by have := h.le; omega) hs
    have c1 : 0 ≤ p i * (E.mx i).cnt s := Int.mul_nonneg h0 c0
    have r : restF (cntM E.mx) E.most E.m s i = E.most * (E.mx i).cnt s + restF (cntM E.mx) E.most E.m s (i + 1) := by
      unfold restF
      obtain ⟨d, hd⟩ : ∃ d, E.m - i = 1 + d := ⟨E.m - i - 1, by have := h.le; omega⟩
      rw [hd, sumN_split, show E.m - (i + 1) = d by omega]
      show (0 + E.most * cntM E.mx (i + 0) s) + _ = _
      rw [Nat.add_zero, Int.zero_add]
      congr 1
      exact sumN_congr fun j _ => by rw [show i + (1 + j) = i + 1 + j by omega]
    have c2 : p i * (E.mx i).cnt s ≤ E.most * (E.mx i).cnt s := Int.mul_le_mul_of_nonneg_right (h.pre.1 i (by omega)).2 c0
    rw [r]
    exact ⟨by omega, fun _ => by omega⟩⟩
  refine ⟨h.le, fun j hj => ?_, hpre.step (by omega) (by have := hH.most; omega) (hH.fits (p i + 1) (by omega) (by omega)), fun j hj => ?_⟩
  · rw [setP_ne p _ (by omega)]
    exact h.zero j hj
  · rcases Nat.lt_succ_iff_lt_or_eq.1 hj with h' | rfl
    · exact (h.highs j (by omega)).set h'
    · have e : ∀ a, a < j → p a = setP p j (p j + 1) a := fun a ha => (setP_ne p _ (by omega)).symm
      refine ⟨hH.most, fun q hf he => hH.all q hf ((eq_congr e).2 he), fun u h1 h2 s hs => ?_⟩
      rw [setP_at] at h1
      have := hH.fits u (by omega) h2 s hs
      unfold FitsAt at this ⊢
      simp only [] at this ⊢
      rw [made_set_self _ _ _ _ (Nat.le_refl _)]
      exact this

/-- Up. -/
theorem Pl.up (h : Pl E (i + 1) p hg) (ok : E.Ok) : Pl E i (setP p i 0) hg := by
  have hm := h.le
  refine ⟨by omega, fun j hj => ?_, ?_, fun j hj => (h.highs j (by omega)).set hj⟩
  · by_cases e : j = i
    · rw [e, setP_at]
    · rw [setP_ne p 0 e]
      exact h.zero j (by omega)
  · have h0 := (h.pre.1 i (by omega)).1
    refine Pre.congr (p := p) ⟨fun j hj => h.pre.1 j (by omega), fun s hs => ?_⟩ (fun j hj => setP_ne p 0 (by omega))
    obtain ⟨g1, g2⟩ := h.pre.2 s hs
    have g3 := g2 (by omega)
    have e : madeF (cntM E.mx) p s (i + 1) = madeF (cntM E.mx) p s i + p i * (E.mx i).cnt s := rfl
    have c0 := cnt_nonneg ok i s (by omega) hs
    have c1 : 0 ≤ p i * (E.mx i).cnt s := Int.mul_nonneg h0 c0
    have r : restF (cntM E.mx) E.most E.m s i = E.most * (E.mx i).cnt s + restF (cntM E.mx) E.most E.m s (i + 1) := by
      unfold restF
      obtain ⟨d, hd⟩ : ∃ d, E.m - i = 1 + d := ⟨E.m - i - 1, by omega⟩
      rw [hd, sumN_split, show E.m - (i + 1) = d by omega]
      show (0 + E.most * cntM E.mx (i + 0) s) + _ = _
      rw [Nat.add_zero, Int.zero_add]
      congr 1
      exact sumN_congr fun j _ => by rw [show i + (1 + j) = i + 1 + j by omega]
    have c2 : p i * (E.mx i).cnt s ≤ E.most * (E.mx i).cnt s := Int.mul_le_mul_of_nonneg_right (h.pre.1 i (by omega)).2 c0
    rw [r]
    exact ⟨by omega, fun _ => by omega⟩

theorem Pl.leaf (h : Pl E E.m p hg) (ok : E.Ok) : E.Feas p := by
  refine Pre.leaf h.pre ?_
  by_cases h0 : 0 < E.m
  · exact .inl h0
  · refine .inr ?_
    rw [ok.sizes]
    unfold sizesF
    rw [if_pos (by omega)]
end

/-- At label descend. -/
structure Desc (E : FEnv) (V i : Nat) (p : Plan) (hg : Nat → Int) (b : Option Plan) : Prop where
  pl : Pl E i p hg
  opt : Opt E.m E.Feas E.cost (fun q => LtTo i q p) b
  rk : V ≤ rank p E.m

/-- At label ascend: the numbers before k are decided. -/
structure Asc1 (E : FEnv) (V k : Nat) (p : Plan) (hg : Nat → Int) (b : Option Plan) : Prop where
  pl : Pl E k p hg
  opt : Opt E.m E.Feas E.cost (fun q => LeTo k q p) b
  rk : V < (rank p k + 1) * 41 ^ (E.m - k)

section
variable {E : FEnv} {V i : Nat} {p : Plan} {hg : Nat → Int} {b : Option Plan}

theorem rank_asc (pl : Pl E i p hg) (h : V ≤ rank p E.m) : V < (rank p i + 1) * 41 ^ (E.m - i) := by
  have e := rank_pad pl.zero (E.m - i)
  rw [show i + (E.m - i) = E.m by have := pl.le; omega] at e
  have := Nat.pow_pos (n := E.m - i) (show 0 < 41 by decide)
  rw [Nat.add_mul, ← e]
  omega

theorem Desc.start (ok : E.Ok) (hg : Nat → Int) : Desc E 0 0 (fun _ => 0) hg none := ⟨Pl.start ok hg, Opt.start, Nat.zero_le _⟩

theorem Desc.dead (h : Desc E V i p hg b) (ok : E.Ok) (hi : i < E.m) (hd : (spanOf (E.span p i E.S)).2 < (spanOf (E.span p i E.S)).1) : Asc1 E V i p hg b :=
  ⟨h.pl, h.opt.dead (h.pl.dead ok hi hd), rank_asc h.pl h.rk⟩

theorem Desc.down (h : Desc E V i p hg b) (ok : E.Ok) (hi : i < E.m) (hd : ¬ (spanOf (E.span p i E.S)).2 < (spanOf (E.span p i E.S)).1) :
    Desc E V (i + 1) (setP p i (spanOf (E.span p i E.S)).1) (setF hg i (spanOf (E.span p i E.S)).2) b := by
  obtain ⟨h0, h1, h2, h3⟩ := h.pl.down ok hi hd
  refine ⟨h2, h.opt.down h3, Nat.le_trans h.rk ?_⟩
  have e1 := rank_pad h.pl.zero (E.m - i)
  rw [show i + (E.m - i) = E.m by omega] at e1
  have e2 := rank_pad h2.zero (E.m - (i + 1))
  rw [show i + 1 + (E.m - (i + 1)) = E.m by omega] at e2
  rw [e1, e2, show E.m - i = (E.m - (i + 1)) + 1 by omega, Nat.pow_succ, Nat.mul_comm (41 ^ _) 41, ← Nat.mul_assoc]
  refine Nat.mul_le_mul_right _ ?_
  show rank p i * 41 ≤ rank (setP p i _) i * 41 + _
  rw [rank_congr (p := setP p i (spanOf (E.span p i E.S)).1) (q := p) (fun j hj => setP_ne p _ (by omega))]
  omega

theorem Desc.hopeless {r : Plan} (h : Desc E V i p hg (some r)) (ok : E.Ok) (hc : E.cost r ≤ E.cost p + E.most1 p i E.S) : Asc1 E V i p hg (some r) :=
  ⟨h.pl, h.opt.hopeless h.pl.le (fun q hf he => by have := need_law ok h.pl.le h.pl.zero hf he; omega), rank_asc h.pl h.rk⟩

/-- The best behind a whole plan. -/
def leafF (cost : Plan → Int) (p : Plan) : Option Plan → Option Plan
  | none => some p
  | some r => if cost p < cost r then some p else some r

theorem Desc.leaf (h : Desc E V E.m p hg b) (ok : E.Ok) : Asc1 E V E.m p hg (leafF E.cost p b) := by
  refine ⟨h.pl, ?_, rank_asc h.pl h.rk⟩
  have := h.opt.leaf (h.pl.leaf ok) (fun q he => cost_congr he)
  cases b with
  | none => exact this
  | some r => exact this

/-- One more: at descend again, with a greater rank. -/
theorem Asc1.more (h : Asc1 E V (i + 1) p hg b) (ok : E.Ok) (hd : p i < hg i) : Desc E (V + 1) (i + 1) (setP p i (p i + 1)) hg b := by
  have h2 := h.pl.more ok hd
  refine ⟨h2, h.opt.more, ?_⟩
  have e2 := rank_pad h2.zero (E.m - (i + 1))
  rw [show i + 1 + (E.m - (i + 1)) = E.m by have := h.pl.le; omega] at e2
  have e3 : rank (setP p i (p i + 1)) (i + 1) = rank p (i + 1) + 1 := by
    show rank (setP p i (p i + 1)) i * 41 + (setP p i (p i + 1) i).toNat = rank p i * 41 + (p i).toNat + 1
    rw [rank_congr (p := setP p i (p i + 1)) (q := p) (fun j hj => setP_ne p _ (by omega)), setP_at]
    have := (h.pl.pre.1 i (by omega)).1
    omega
  rw [e2, e3]
  exact h.rk

theorem Desc.weaken (h : Desc E (V + 1) i p hg b) : Desc E V i p hg b := ⟨h.pl, h.opt, by have := h.rk; omega⟩

theorem Asc1.up (h : Asc1 E V (i + 1) p hg b) (ok : E.Ok) (hd : ¬ p i < hg i) : Asc1 E V i (setP p i 0) hg b := by
  have hm := h.pl.le
  have e : ∀ j, j < i → p j = setP p i 0 j := fun j hj => (setP_ne p 0 (by omega)).symm
  refine ⟨h.pl.up ok, (h.opt.up (fun q hf he => by have := (h.pl.highs i (by omega)).all q hf he; omega)).congr (fun q _ => le_congr e), ?_⟩
  rw [rank_congr (p := setP p i 0) (q := p) (fun j hj => (e j hj).symm)]
  refine Nat.lt_of_lt_of_le h.rk ?_
  rw [show E.m - i = (E.m - (i + 1)) + 1 by omega, Nat.pow_succ, Nat.mul_comm (41 ^ _) 41, ← Nat.mul_assoc]
  refine Nat.mul_le_mul_right _ ?_
  show rank p i * 41 + (p i).toNat + 1 ≤ (rank p i + 1) * 41
  have := h.pl.bd40 ok i
  omega

theorem Asc1.all (h : Asc1 E V 0 p hg b) : Opt E.m E.Feas E.cost (fun _ => True) b := h.opt.all

theorem Desc.lt6 (h : Desc E V i p hg b) (ok : E.Ok) : V < 41 ^ 6 := by
  have h1 := rank_lt (h.pl.bd40 ok) E.m
  have h2 : 41 ^ E.m ≤ 41 ^ 6 := Nat.pow_le_pow_right (by decide) ok.good.m6
  have := h.rk
  omega
end

end Go.Proofs.Ytkdpkaidbmjcaaa
