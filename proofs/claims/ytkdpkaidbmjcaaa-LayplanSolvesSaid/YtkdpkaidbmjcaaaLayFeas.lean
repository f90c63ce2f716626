/- Plans that can be carried out; what a beginning leaves open; the bound on what is still to be paid. No program in sight. -/
import Derived.Test.YtkdpkaidbmjcaaaLaySpan
namespace Go.Proofs.Ytkdpkaidbmjcaaa
set_option linter.unusedSimpArgs false
set_option linter.unusedVariables false

section
variable (cnt : Nat → Nat → Int) (len : Nat → Int)
/-- Garments of size s that the first k mixes produce. -/
def madeF (p : Plan) (s k : Nat) : Int := sumN (fun i => p i * cnt i s) k
def costF (p : Plan) (k : Nat) : Int := sumN (fun i => p i * len i) k
/-- What the mixes from i on produce at most. -/
def restF (most : Int) (M s i : Nat) : Int := sumN (fun d => most * cnt (i + d) s) (M - i)
end

theorem sumN_split (f : Nat → Int) (a d : Nat) : sumN f (a + d) = sumN f a + sumN (fun j => f (a + j)) d := by
  induction d with
  | zero => show sumN f a = sumN f a + 0; omega
  | succ d ih =>
    show sumN f (a + d) + f (a + d) = sumN f a + (sumN (fun j => f (a + j)) d + f (a + d))
    omega

theorem sumN_nonneg {f : Nat → Int} {n : Nat} (h : ∀ i, i < n → 0 ≤ f i) : 0 ≤ sumN f n := by
  induction n with
  | zero => exact Int.le_refl _
  | succ n ih =>
    have h1 := ih (fun i hi => h i (by omega))
    have h2 := h n (by omega)
    show 0 ≤ sumN f n + f n
    omega

section
variable {M S : Nat} {cnt : Nat → Nat → Int} {len ord : Nat → Int} {over most : Int}

/-- A plan that can be carried out and fills the order. -/
def FeasP (M S : Nat) (cnt : Nat → Nat → Int) (ord : Nat → Int) (over most : Int) (p : Plan) : Prop :=
  (∀ i, i < M → 0 ≤ p i ∧ p i ≤ most) ∧ ∀ s, s < S → ord s ≤ madeF cnt p s M ∧ madeF cnt p s M ≤ ord s + over

theorem made_congr {p q : Plan} {k : Nat} (h : EqTo k p q) (s : Nat) : madeF cnt q s k = madeF cnt p s k := sumN_congr fun i hi => by rw [h i hi]
theorem cost_congr {p q : Plan} {k : Nat} (h : EqTo k p q) : costF len q k = costF len p k := sumN_congr fun i hi => by rw [h i hi]

/-- What the plies from i on add. -/
theorem made_tail (s : Nat) (hc : ∀ i, i < M → 0 ≤ cnt i s) {q : Plan} (hq : ∀ i, i < M → 0 ≤ q i ∧ q i ≤ most) {i : Nat} (hi : i ≤ M) : madeF cnt q s i ≤ madeF cnt q s M ∧ madeF cnt q s M ≤ madeF cnt q s i + restF cnt most M s i := by
  obtain ⟨d, rfl⟩ : ∃ d, M = i + d := ⟨M - i, by omega⟩
  unfold madeF restF
  rw [sumN_split, show i + d - i = d by omega]
  have h1 : 0 ≤ sumN (fun j => q (i + j) * cnt (i + j) s) d := sumN_nonneg fun j hj => Int.mul_nonneg (hq (i + j) (by omega)).1 (hc _ (by omega))
  have h2 : sumN (fun j => q (i + j) * cnt (i + j) s) d ≤ sumN (fun j => most * cnt (i + j) s) d := sumN_le fun j hj => Int.mul_le_mul_of_nonneg_right (hq (i + j) (by omega)).2 (hc _ (by omega))
  omega

/-- What a plan that begins like p lays of mix i fits. -/
theorem feas_fits (hc : ∀ i s, i < M → s < S → 0 ≤ cnt i s) {p q : Plan} (hf : FeasP M S cnt ord over most q) {i : Nat} (hi : i < M) (he : EqTo i p q) :
    ∀ s, s < S → FitsAt ord (fun s => madeF cnt p s i) (fun s => restF cnt most M s (i + 1)) (cnt i) over (q i) s := by
  intro s hs
  obtain ⟨h1, h2⟩ := hf.2 s hs
  have h3 := made_tail s (fun j hj => hc j s hj hs) hf.1 (i := i + 1) (by omega)
  have e : madeF cnt q s (i + 1) = madeF cnt p s i + q i * cnt i s := by
    show madeF cnt q s i + q i * cnt i s = _
    rw [made_congr he s]
  unfold FitsAt
  simp only []
  rw [e] at h3
  omega

/-- A beginning that can still fill the order. -/
def Pre (M S : Nat) (cnt : Nat → Nat → Int) (ord : Nat → Int) (over most : Int) (i : Nat) (p : Plan) : Prop :=
  (∀ j, j < i → 0 ≤ p j ∧ p j ≤ most) ∧ ∀ s, s < S → madeF cnt p s i ≤ ord s + over ∧ (0 < i → ord s ≤ madeF cnt p s i + restF cnt most M s i)

theorem Pre.step {p : Plan} {i : Nat} {v : Int} (h : Pre M S cnt ord over most i p) (h0 : 0 ≤ v) (h1 : v ≤ most) (hf : ∀ s, s < S → FitsAt ord (fun s => madeF cnt p s i) (fun s => restF cnt most M s (i + 1)) (cnt i) over v s) :
    Pre M S cnt ord over most (i + 1) (setP p i v) := by
  have e0 : EqTo i p (setP p i v) := fun j hj => setP_ne p v (by omega)
  refine ⟨fun j hj => ?_, fun s hs => ?_⟩
  · rcases Nat.lt_succ_iff_lt_or_eq.1 hj with h' | rfl
    · rw [e0 j h']; exact h.1 j h'
    · rw [setP_at]; exact ⟨h0, h1⟩
  · have e : madeF cnt (setP p i v) s (i + 1) = madeF cnt p s i + v * cnt i s := by
      show madeF cnt (setP p i v) s i + setP p i v i * cnt i s = _
      rw [made_congr e0 s, setP_at]
    have := hf s hs
    unfold FitsAt at this
    simp only [] at this
    rw [e]
    exact ⟨this.2, fun _ => by omega⟩

theorem Pre.leaf {p : Plan} (h : Pre M S cnt ord over most M p) (hM : 0 < M ∨ S = 0) : FeasP M S cnt ord over most p := by
  refine ⟨h.1, fun s hs => ?_⟩
  obtain ⟨h1, h2⟩ := h.2 s hs
  have h3 := h2 (by omega)
  have e : restF cnt most M s M = 0 := by unfold restF; rw [Nat.sub_self]; rfl
  omega

theorem Pre.start {p : Plan} (h : ∀ s, s < S → 0 ≤ ord s + over) : Pre M S cnt ord over most 0 p :=
  ⟨fun j hj => absurd hj (by omega), fun s hs => ⟨h s hs, fun h0 => absurd h0 (by omega)⟩⟩
end

def sumL (g : Nat → Int) : List Nat → Int
  | [] => 0
  | x :: l => g x + sumL g l

theorem sumL_erase (g : Nat → Int) (x : Nat) : ∀ l : List Nat, x ∈ l → sumL g l = g x + sumL g (l.erase x)
  | [], h => by cases h
  | y :: l, h => by
    by_cases e : y = x
    · subst e
      rw [List.erase_cons_head]
      rfl
    · rw [List.erase_cons_tail (by simpa using e)]
      have hx : x ∈ l := by
        rcases List.mem_cons.1 h with h' | h'
        · exact absurd h'.symm e
        · exact h'
      have := sumL_erase g x l hx
      show g y + sumL g l = g x + (g y + sumL g (l.erase x))
      omega

theorem sumL_nonneg {g : Nat → Int} (hg : ∀ x, 0 ≤ g x) : ∀ l : List Nat, 0 ≤ sumL g l
  | [] => Int.le_refl _
  | x :: l => by have h1 := hg x; have h2 := sumL_nonneg hg l; show 0 ≤ g x + sumL g l; omega

theorem sumL_le (g : Nat → Int) (hg : ∀ x, 0 ≤ g x) : ∀ (m : Nat) (l : List Nat), l.Nodup → (∀ x, x ∈ l → x < m) → sumL g l ≤ sumN g m
  | 0, l, _, hl => by
    match l with
    | [] => exact Int.le_refl _
    | x :: l => exact absurd (hl x (by simp)) (by omega)
  | m + 1, l, hn, hl => by
    by_cases hm : m ∈ l
    · have h1 := sumL_le g hg m (l.erase m) (hn.erase m) (fun x hx => by
        have h2 := hl x (List.mem_of_mem_erase hx)
        have h3 : x ≠ m := fun e => by rw [e] at hx; exact (List.Nodup.not_mem_erase hn) hx
        omega)
      rw [sumL_erase g m l hm]
      show _ ≤ sumN g m + g m
      omega
    · have h1 := sumL_le g hg m l hn (fun x hx => by
        have h2 := hl x hx
        have h3 : x ≠ m := fun e => hm (e ▸ hx)
        omega)
      have := hg m
      show _ ≤ sumN g m + g m
      omega

theorem le_sumL (g : Nat → Int) (hg : ∀ x, 0 ≤ g x) : ∀ (m : Nat) (l : List Nat), (∀ k, k < m → g k ≠ 0 → k ∈ l) → sumN g m ≤ sumL g l
  | 0, l, _ => sumL_nonneg hg l
  | m + 1, l, h => by
    show sumN g m + g m ≤ sumL g l
    by_cases h0 : g m = 0
    · have := le_sumL g hg m l (fun k hk hne => h k (by omega) hne)
      omega
    · have hm := h m (by omega) h0
      have := le_sumL g hg m (l.erase m) (fun k hk hne => (List.mem_erase_of_ne (by omega)).2 (h k (by omega) hne))
      rw [sumL_erase g m l hm]
      omega

/-- The mixes of a list, as the bound takes them. -/
def pairsF (cnt : Nat → Nat → Int) (len : Nat → Int) (s : Nat) (R : List Nat) : List (Int × Int) := R.map fun k => (cnt k s, len k)

theorem prod_sum (cnt : Nat → Nat → Int) (len : Nat → Int) (s : Nat) (q : Plan) : ∀ R : List Nat, prodL (pairsF cnt len s R) (R.map q) = sumL (fun k => cnt k s * q k) R
  | [] => rfl
  | k :: R => by
    show cnt k s * q k + prodL (pairsF cnt len s R) (R.map q) = _
    rw [prod_sum cnt len s q R]
    rfl
theorem cost_sum (cnt : Nat → Nat → Int) (len : Nat → Int) (s : Nat) (q : Plan) : ∀ R : List Nat, costL (pairsF cnt len s R) (R.map q) = sumL (fun k => len k * q k) R
  | [] => rfl
  | k :: R => by
    show len k * q k + costL (pairsF cnt len s R) (R.map q) = _
    rw [cost_sum cnt len s q R]
    rfl
theorem within_map {most : Int} (cnt : Nat → Nat → Int) (len : Nat → Int) (s : Nat) (q : Plan) : ∀ R : List Nat, (∀ k, k ∈ R → 1 ≤ cnt k s ∧ 0 ≤ len k ∧ 0 ≤ q k ∧ q k ≤ most) → Within most (pairsF cnt len s R) (R.map q)
  | [], _ => trivial
  | k :: R, h => ⟨h k (List.mem_cons_self ..), within_map cnt len s q R (fun j hj => h j (List.mem_cons_of_mem _ hj))⟩

section
variable {M S : Nat} {cnt : Nat → Nat → Int} {len ord : Nat → Int} {over most : Int}

/-- What is still to be paid for one size. -/
theorem still_le (hm : 0 ≤ most) (hc : ∀ i s, i < M → s < S → 0 ≤ cnt i s) (hlen : ∀ i, i < M → 0 ≤ len i) {p q : Plan} (hf : FeasP M S cnt ord over most q) {i s : Nat} (hi : i ≤ M) (hs : s < S) (he : EqTo i p q) {R : List Nat} (hn : R.Nodup)
    (hR : ∀ k, k ∈ R ↔ i ≤ k ∧ k < M ∧ 0 < cnt k s) (ha : Asc (pairsF cnt len s R)) : costF len p i + boundF most (pairsF cnt len s R) (ord s - madeF cnt p s i) ≤ costF len q M := by
  obtain ⟨d, rfl⟩ : ∃ d, M = i + d := ⟨M - i, by omega⟩
  have hbd := bound_le hm (pairsF cnt len s R) (R.map q) (ord s - madeF cnt p s i) ha (fun x hx => by
    obtain ⟨k, hk, rfl⟩ := List.mem_map.1 hx
    have := (hR k).1 hk
    exact ⟨by simp only []; omega, hlen k this.2.1⟩) (within_map cnt len s q R (fun k hk => by
      have h1 := (hR k).1 hk
      have h2 := hf.1 k h1.2.1
      exact ⟨by omega, hlen k h1.2.1, h2.1, h2.2⟩)) (by
    rw [prod_sum]
    have h1 := (hf.2 s hs).1
    have e1 : madeF cnt q s (i + d) = madeF cnt p s i + sumN (fun j => q (i + j) * cnt (i + j) s) d := by unfold madeF; rw [sumN_split]; congr 1; exact made_congr he s
    -- the part from i on, as a sum over all
    have h2 := le_sumL (fun k => if i ≤ k ∧ k < i + d then cnt k s * q k else 0) (fun k => by
      split
      · rename_i h
        exact Int.mul_nonneg (hc _ _ h.2 hs) (hf.1 k h.2).1
      · exact Int.le_refl _) (i + d) R (fun k hk hne => by
      by_cases hik : i ≤ k ∧ k < i + d
      · simp only [hik, and_self, if_true] at hne
        refine (hR k).2 ⟨hik.1, hik.2, ?_⟩
        have := hc k s hik.2 hs
        rcases Int.lt_or_eq_of_le this with h | h
        · exact h
        · rw [← h, Int.zero_mul] at hne; exact absurd rfl hne
      · simp only [hik, if_false] at hne; exact absurd rfl hne)
    have e2 : sumL (fun k => if i ≤ k ∧ k < i + d then cnt k s * q k else 0) R = sumL (fun k => cnt k s * q k) R := by
      have : ∀ L : List Nat, (∀ k, k ∈ L → i ≤ k ∧ k < i + d) → sumL (fun k => if i ≤ k ∧ k < i + d then cnt k s * q k else 0) L = sumL (fun k => cnt k s * q k) L := by
        intro L
        induction L with
        | nil => intro _; rfl
        | cons k L ih =>
          intro h
          have hk := h k (List.mem_cons_self ..)
          show (if i ≤ k ∧ k < i + d then cnt k s * q k else 0) + sumL _ L = cnt k s * q k + sumL _ L
          rw [if_pos hk, ih (fun j hj => h j (List.mem_cons_of_mem _ hj))]
      exact this R (fun k hk => ⟨((hR k).1 hk).1, ((hR k).1 hk).2.1⟩)
    have e3 : sumN (fun k => if i ≤ k ∧ k < i + d then cnt k s * q k else 0) (i + d) = sumN (fun j => q (i + j) * cnt (i + j) s) d := by
      rw [sumN_split]
      have z : sumN (fun k => if i ≤ k ∧ k < i + d then cnt k s * q k else 0) i = 0 := by
        rw [sumN_congr (g := fun _ => 0) (fun k hk => by rw [if_neg (by omega)])]
        have : ∀ n, sumN (fun _ => (0 : Int)) n = 0 := by intro n; induction n with | zero => rfl | succ n ih => show sumN _ n + 0 = 0; rw [ih]; rfl
        exact this i
      rw [z, Int.zero_add]
      exact sumN_congr fun j hj => by rw [if_pos ⟨by omega, by omega⟩, Int.mul_comm]
    rw [e2, e3] at h2
    omega)
  rw [cost_sum] at hbd
  have h4 := sumL_le (fun k => if i ≤ k ∧ k < i + d then len k * q k else 0) (fun k => by
      split
      · rename_i h
        exact Int.mul_nonneg (hlen _ h.2) (hf.1 k h.2).1
      · exact Int.le_refl _) (i + d) R hn (fun k hk => ((hR k).1 hk).2.1)
  have e2 : sumL (fun k => if i ≤ k ∧ k < i + d then len k * q k else 0) R = sumL (fun k => len k * q k) R := by
    have : ∀ L : List Nat, (∀ k, k ∈ L → i ≤ k ∧ k < i + d) → sumL (fun k => if i ≤ k ∧ k < i + d then len k * q k else 0) L = sumL (fun k => len k * q k) L := by
      intro L
      induction L with
      | nil => intro _; rfl
      | cons k L ih =>
        intro h
        have hk := h k (List.mem_cons_self ..)
        show (if i ≤ k ∧ k < i + d then len k * q k else 0) + sumL _ L = len k * q k + sumL _ L
        rw [if_pos hk, ih (fun j hj => h j (List.mem_cons_of_mem _ hj))]
    exact this R (fun k hk => ⟨((hR k).1 hk).1, ((hR k).1 hk).2.1⟩)
  have e3 : sumN (fun k => if i ≤ k ∧ k < i + d then len k * q k else 0) (i + d) = sumN (fun j => q (i + j) * len (i + j)) d := by
    rw [sumN_split]
    have z : sumN (fun k => if i ≤ k ∧ k < i + d then len k * q k else 0) i = 0 := by
      rw [sumN_congr (g := fun _ => 0) (fun k hk => by rw [if_neg (by omega)])]
      have : ∀ n, sumN (fun _ => (0 : Int)) n = 0 := by intro n; induction n with | zero => rfl | succ n ih => show sumN _ n + 0 = 0; rw [ih]; rfl
      exact this i
    rw [z, Int.zero_add]
    exact sumN_congr fun j hj => by rw [if_pos ⟨by omega, by omega⟩, Int.mul_comm]
  rw [e2, e3] at h4
  have e5 : costF len q (i + d) = costF len p i + sumN (fun j => q (i + j) * len (i + j)) d := by unfold costF; rw [sumN_split]; congr 1; exact cost_congr he
  rw [e5]
  omega
end

end Go.Proofs.Ytkdpkaidbmjcaaa
