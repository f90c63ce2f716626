/- Plain laws of the path chapter: improving ends, the farthest polygon, only the first vertices matter. -/
import Derived.Test.YtpjckolfjaffjaaPthK
namespace Go.Proofs.Ytpjckolfjaffjaa
set_option linter.unusedSimpArgs false
set_option linter.unusedVariables false

theorem pigeonF {α : Type} [BEq α] [LawfulBEq α] : ∀ (n : Nat) (l : List α) (f : Nat → α), (∀ i, i < n → f i ∈ l) → (∀ i j, i < j → j < n → f i ≠ f j) → n ≤ l.length
  | 0, l, f, _, _ => Nat.zero_le _
  | n + 1, l, f, h, hne => by
    have h1 : f n ∈ l := h n (by omega)
    have h2 := pigeonF n (l.erase (f n)) f (fun i hi => (List.mem_erase_of_ne (hne i n hi (by omega))).2 (h i (by omega))) (fun i j hij hj => hne i j hij (by omega))
    have h3 := List.length_erase_of_mem h1
    have h4 := List.length_pos_of_mem h1
    omega

/-- All lists of k different members of a list. -/
def selects : Nat → List Nat → List (List Nat)
  | 0, _ => [[]]
  | k + 1, av => av.flatMap fun x => (selects k (av.erase x)).map (x :: ·)

theorem selects_mem : ∀ (k : Nat) (av l : List Nat), l.length = k → l.Nodup → (∀ x, x ∈ l → x ∈ av) → l ∈ selects k av
  | 0, av, l, hl, _, _ => by
    have : l = [] := List.length_eq_zero_iff.1 hl
    rw [this]
    simp [selects]
  | k + 1, av, [], hl, _, _ => by simp at hl
  | k + 1, av, x :: l, hl, hn, hm => by
    have hn' := List.nodup_cons.1 hn
    simp only [selects, List.mem_flatMap, List.mem_map]
    refine ⟨x, hm x (by simp), l, selects_mem k (av.erase x) l (by simpa using hl) hn'.2 (fun y hy => ?_), rfl⟩
    have hyx : y ≠ x := fun e => hn'.1 (e ▸ hy)
    exact (List.mem_erase_of_ne hyx).2 (hm y (by simp [hy]))

theorem selects_len (l : Nat) (h : l ≤ 6) : (selects l (List.range l)).length ≤ 720 := by
  have : l = 0 ∨ l = 1 ∨ l = 2 ∨ l = 3 ∨ l = 4 ∨ l = 5 ∨ l = 6 := by omega
  rcases this with rfl | rfl | rfl | rfl | rfl | rfl | rfl <;> decide +kernel

/-- An order as a list. -/
def listOf (l : Nat) (ord : Nat → Int) : List Nat := (List.range l).map fun i => (ord i).toNat

theorem listOf_at {l : Nat} {o o' : Nat → Int} (h : listOf l o = listOf l o') {i : Nat} (hi : i < l) : (o i).toNat = (o' i).toNat := by
  have := congrArg (fun x => x[i]?) h
  simpa [listOf, List.getElem?_range hi] using this

theorem order_mem {l m : Nat} {ord : Nat → Int} (h : IsOrder l m ord) : listOf l ord ∈ selects l (List.range l) := by
  obtain ⟨rfl, h⟩ := h
  refine selects_mem l _ _ (by simp [listOf]) ?_ (fun x hx => ?_)
  · unfold listOf
    rw [List.nodup_iff_pairwise_ne, List.pairwise_map]
    refine List.Pairwise.imp_of_mem ?_ List.pairwise_lt_range
    intro a b ha hb hab e
    have ha' := List.mem_range.1 ha
    have hb' := List.mem_range.1 hb
    have h1 := (h a ha').1
    have h2 := (h b hb').1
    exact (h b hb').2 a hab (by omega)
  · unfold listOf at hx
    obtain ⟨i, hi, rfl⟩ := List.mem_map.1 hx
    have hi' := List.mem_range.1 hi
    have := (h i hi').1
    exact List.mem_range.2 (by omega)

theorem travel_congr {s s' : Nat → Spot} {o o' : Nat → Int} {l : Nat} (h : ∀ i, i < l → s (o i).toNat = s' (o' i).toNat) : travelF s o l = travelF s' o' l := by
  rw [travel_sum, travel_sum]
  refine sumN_congr fun i hi => ?_
  unfold edgeF
  rw [h i hi]
  match i with
  | 0 => rfl
  | i + 1 => show distF (s (o i).toNat) _ = distF (s' (o' i).toNat) _; rw [h i (by omega)]

theorem step_travel (s : Nat → Spot) (l : Nat) (o : Nat → Int) : (iF s o l < 0 ∧ stepF s l o = o) ∨ (0 ≤ iF s o l ∧ travelF s (stepF s l o) l < travelF s o l) := by
  rcases iF_spec (s := s) (ord := o) (l := l) with ⟨h1, _⟩ | ⟨i, k, hik, hk, h1, h2, h3⟩
  · exact .inl ⟨h1, by unfold stepF; rw [if_pos h1]⟩
  · refine .inr ⟨by omega, ?_⟩
    rw [step_at h1 h2, turn_travel s o hik hk]
    omega

theorem imp_travel_le (s : Nat → Spot) (l : Nat) (o : Nat → Int) (n : Nat) : travelF s (impF s l o n) l ≤ travelF s o l := by
  induction n with
  | zero => exact Int.le_refl _
  | succ n ih =>
    show travelF s (stepF s l (impF s l o n)) l ≤ _
    rcases step_travel s l (impF s l o n) with ⟨_, e⟩ | ⟨_, h⟩
    · rw [e]; exact ih
    · omega

/-- With six polygons at most, improving has ended after 1000 steps. -/
theorem imp_ends {s : Nat → Spot} {l m : Nat} {o : Nat → Int} (h : IsOrder l m o) (hl : l ≤ 6) : iF s (impF s l o 1000) l < 0 := by
  apply Classical.byContradiction
  intro hno
  have all : ∀ n, n ≤ 1000 → 0 ≤ iF s (impF s l o n) l := by
    intro n hn
    apply Classical.byContradiction
    intro hlt
    have := imp_still (s := s) (l := l) (ord := o) (n := n) (by omega) (1000 - n)
    rw [show n + (1000 - n) = 1000 by omega] at this
    rw [this] at hno
    omega
  have dec : ∀ n d, n + d < 1000 → travelF s (impF s l o (n + (d + 1))) l < travelF s (impF s l o n) l := by
    intro n d
    induction d with
    | zero =>
      intro hn
      rcases step_travel s l (impF s l o n) with ⟨h1, _⟩ | ⟨_, h1⟩
      · have := all n (by omega); omega
      · exact h1
    | succ d ih =>
      intro hn
      have h1 := ih (by omega)
      rcases step_travel s l (impF s l o (n + (d + 1))) with ⟨h2, _⟩ | ⟨_, h2⟩
      · have := all (n + (d + 1)) (by omega); omega
      · have e : impF s l o (n + (d + 1 + 1)) = stepF s l (impF s l o (n + (d + 1))) := rfl
        rw [e]
        omega
  have := pigeonF 1000 (selects l (List.range l)) (fun n => listOf l (impF s l o n)) (fun i _ => order_mem (imp_order h i)) (fun i j hij hj e => by
    obtain ⟨d, rfl⟩ : ∃ d, j = i + (d + 1) := ⟨j - i - 1, by omega⟩
    have h1 := dec i d (by omega)
    have h2 := travel_congr (s := s) (s' := s) (o := impF s l o i) (o' := impF s l o (i + (d + 1))) (l := l) (fun a ha => by rw [listOf_at e ha])
    omega)
  have := selects_len l hl
  omega

/-- No turn makes the improved order's way shorter. -/
theorem imp_best {s : Nat → Spot} {l m : Nat} {o : Nat → Int} (h : IsOrder l m o) (hl : l ≤ 6) {i k : Nat} (hik : i < k) (hk : k < l) : travelF s (impF s l o 1000) l ≤ travelF s (turnF (impF s l o 1000) i k) l := by
  have h1 := imp_ends (s := s) h hl
  rcases iF_spec (s := s) (ord := impF s l o 1000) (l := l) with ⟨_, h2⟩ | ⟨_, _, _, _, h2, _⟩
  · rw [turn_travel s _ hik hk]
    have := h2 i k hik hk
    omega
  · omega

/-- An improved order is not improved again. -/
theorem imp_again {s : Nat → Spot} {l m : Nat} {o : Nat → Int} (h : IsOrder l m o) (hl : l ≤ 6) : impF s l (impF s l o 1000) 1000 = impF s l o 1000 := by
  have := imp_still (s := s) (l := l) (ord := impF s l o 1000) (n := 0) (imp_ends h hl) 1000
  exact this

section
variable {s s' : Nat → Spot} {m : Nat}

theorem gain_congr {l : Nat} {o : Nat → Int} (hs : ∀ i, i < m → s i = s' i) (ho : ∀ i, i < l → 0 ≤ o i ∧ o i < m) {i k : Nat} (hik : i < k) (hk : k < l) : gainF s o l i k = gainF s' o l i k := by
  have e : ∀ j, j < l → s (o j).toNat = s' (o j).toNat := fun j hj => hs _ (by have := ho j hj; omega)
  have ek : knifeF s o i = knifeF s' o i := by
    match i with
    | 0 => rfl
    | i + 1 => exact e i (by omega)
  unfold gainF
  rw [ek, e i (by omega), e k hk]
  by_cases h : k + 1 < l
  · rw [if_pos h, if_pos h, e (k + 1) h]
  · rw [if_neg h, if_neg h]

theorem kF_congr {l : Nat} {o : Nat → Int} (hs : ∀ i, i < m → s i = s' i) (ho : ∀ i, i < l → 0 ≤ o i ∧ o i < m) {i : Nat} : kF s o l i = kF s' o l i := by
  have hq : ∀ k, k < l → (decide (i < k) && decide (0 < gainF s o l i k)) = (decide (i < k) && decide (0 < gainF s' o l i k)) := by
    intro k hk
    by_cases h : i < k
    · rw [gain_congr hs ho h hk]
    · rw [decide_eq_false h]; rfl
  unfold kF
  rcases firstF_spec (fun k => decide (i < k) && decide (0 < gainF s o l i k)) l with ⟨e, h⟩ | ⟨k, hk, e, h, h'⟩
  · rw [e, firstF_none _ _ (fun j hj => by rw [← hq j hj]; exact h j hj)]
  · rw [e, firstF_at _ _ k hk (fun j hj => by rw [← hq j (by omega)]; exact h' j hj) (by rw [← hq k hk]; exact h)]

theorem iF_congr {l : Nat} {o : Nat → Int} (hs : ∀ i, i < m → s i = s' i) (ho : ∀ i, i < l → 0 ≤ o i ∧ o i < m) : iF s o l = iF s' o l := by
  unfold iF
  congr 1
  funext i
  rw [kF_congr hs ho]

theorem imp_congr {l : Nat} {o : Nat → Int} (hs : ∀ i, i < m → s i = s' i) (h : IsOrder l m o) (n : Nat) : impF s l o n = impF s' l o n := by
  induction n with
  | zero => rfl
  | succ n ih =>
    show stepF s l (impF s l o n) = stepF s' l (impF s' l o n)
    rw [← ih]
    have ho : ∀ i, i < l → 0 ≤ impF s l o n i ∧ impF s l o n i < m := fun i hi => by
      obtain ⟨e, h'⟩ := imp_order (s := s) h n
      exact (h' i (by omega)).1
    unfold stepF
    rw [iF_congr hs ho, kF_congr hs ho]

theorem next_congr {d d' : Nat → Int} {done : Nat → Bool} : ∀ n, (∀ i, i < n → d i = d' i) → nextF d done n = nextF d' done n
  | 0, _ => rfl
  | n + 1, h => by
    have ih := next_congr (done := done) n (fun i hi => h i (by omega))
    show (if _ then _ else _) = (if _ then _ else _)
    rw [ih]
    rcases next_cases d' done n with ⟨e, _⟩ | ⟨x, hx, e, _, _⟩
    · rw [e, h n (by omega)]
      by_cases hd : done n = false
      · rw [if_pos ⟨hd, .inl (by omega)⟩, if_pos ⟨hd, .inl (by omega)⟩]
      · rw [if_neg (fun hh => hd hh.1), if_neg (fun hh => hd hh.1)]
    · rw [e, Int.toNat_natCast, h n (by omega), h x (by omega)]

theorem greedy_congr (hs : ∀ i, i < m → s i = s' i) : ∀ k, k ≤ m → greedyL s m k = greedyL s' m k
  | 0, _ => rfl
  | k + 1, hk => by
    have ih := greedy_congr hs k (by omega)
    have hlast : lastS s (greedyL s m k) = lastS s' (greedyL s' m k) := by
      unfold lastS
      rw [← ih]
      cases hg : (greedyL s m k).getLast? with
      | none => rfl
      | some i => exact hs i (greedy_lt s k (by omega) i (List.mem_of_getLast? hg))
    show greedyL s m k ++ [_] = greedyL s' m k ++ [_]
    rw [hlast, ih, next_congr m (fun i hi => by rw [hs i hi])]

theorem gord_congr (hs : ∀ i, i < m → s i = s' i) : gordF s m m = gordF s' m m := by
  unfold gordF
  rw [greedy_congr hs m (Nat.le_refl _)]
end

end Go.Proofs.Ytpjckolfjaffjaa
