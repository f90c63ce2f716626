/- needed and hopeless. -/
import Derived.Test.YtkdpkaidbmjcaaaLayI
namespace Go.Proofs.Ytkdpkaidbmjcaaa
open Go.RowKit
set_option linter.unusedSimpArgs false
set_option linter.unusedVariables false

/-- One mix more: what is missing, and what was paid. -/
def needStep (most : Int) (i : Nat) (c l : Int) (k : Nat) (x : Int × Int) : Int × Int :=
  if k < i ∨ x.1 ≤ 0 then x else if most * c ≤ x.1 then (x.1 - most * c, x.2 + most * l) else (0, x.2 + Int.tdiv (x.1 * l + c - 1) c)

/-- What is missing and paid behind the mixes of a list. -/
def needL (most : Int) (i : Nat) (cnt : Nat → Int) (len : Nat → Int) : List Nat → Int × Int → Int × Int
  | [], x => x
  | k :: r, x => needL most i cnt len r (needStep most i (cnt k) (len k) k x)

theorem needL_done {most : Int} {i : Nat} {cnt len : Nat → Int} : ∀ (L : List Nat) (x : Int × Int), x.1 ≤ 0 → needL most i cnt len L x = x
  | [], x, _ => rfl
  | k :: r, x, h => by
    have e : needStep most i (cnt k) (len k) k x = x := if_pos (.inr h)
    show needL most i cnt len r (needStep most i (cnt k) (len k) k x) = x
    rw [e]
    exact needL_done r x h

theorem needL_bound {most : Int} (hm : 0 ≤ most) {i : Nat} {cnt : Nat → Nat → Int} {len : Nat → Int} {s : Nat} : ∀ (L : List Nat) (x : Int × Int), (∀ k, k ∈ L → 1 ≤ cnt k s ∧ 0 ≤ len k) →
    (needL most i (fun k => cnt k s) len L x).2 = x.2 + boundF most (pairsF cnt len s (L.filter fun k => decide (i ≤ k))) x.1
  | [], x, _ => by show x.2 = x.2 + 0; omega
  | k :: r, x, h => by
    obtain ⟨hc, hl⟩ := h k (List.mem_cons_self ..)
    have h' := fun j hj => h j (List.mem_cons_of_mem _ hj)
    show (needL most i (fun k => cnt k s) len r (needStep most i (cnt k s) (len k) k x)).2 = _
    by_cases hk : i ≤ k
    · rw [List.filter_cons_of_pos (by simpa using hk)]
      show _ = x.2 + boundF most ((cnt k s, len k) :: pairsF cnt len s (r.filter fun k => decide (i ≤ k))) x.1
      by_cases h0 : x.1 ≤ 0
      · have e : needStep most i (cnt k s) (len k) k x = x := if_pos (.inr h0)
        rw [e, needL_done r x h0]
        unfold boundF
        rw [if_pos h0]
        omega
      · unfold boundF
        rw [if_neg h0]
        by_cases hg : most * cnt k s ≤ x.1
        · have e : needStep most i (cnt k s) (len k) k x = (x.1 - most * cnt k s, x.2 + most * len k) := by unfold needStep; rw [if_neg (by omega), if_pos hg]
          rw [e, needL_bound hm r _ h', if_pos hg]
          dsimp only
          omega
        · have e : needStep most i (cnt k s) (len k) k x = (0, x.2 + Int.tdiv (x.1 * len k + cnt k s - 1) (cnt k s)) := by unfold needStep; rw [if_neg (by omega), if_neg hg]
          rw [e, needL_done r _ (Int.le_refl 0), if_neg hg]
          have : 0 ≤ x.1 * len k := Int.mul_nonneg (by omega) hl
          show x.2 + Int.tdiv _ _ = _
          rw [Int.tdiv_eq_ediv_of_nonneg (by omega)]
    · rw [List.filter_cons_of_neg (by simpa using hk)]
      have e : needStep most i (cnt k s) (len k) k x = x := if_pos (.inl (by omega))
      rw [e]
      exact needL_bound hm r x h'

theorem needL_snoc {most : Int} {i : Nat} {cnt len : Nat → Int} : ∀ (L : List Nat) (k : Nat) (x : Int × Int), needL most i cnt len (L ++ [k]) x = needStep most i (cnt k) (len k) k (needL most i cnt len L x)
  | [], _, _ => rfl
  | j :: r, k, x => needL_snoc r k _

/-- Behind the first j mixes of size s. -/
def FEnv.need (E : FEnv) (p : Plan) (i s j : Nat) : Int × Int := needL E.most i (fun k => (E.mx k).cnt s) (lenM E.mx) ((E.R s).take j) (E.ord s - madeF (cntM E.mx) p s E.m, 0)

theorem FEnv.need_step (E : FEnv) (p : Plan) (i s : Nat) {j k : Nat} (h : (E.R s)[j]? = some k) : E.need p i s (j + 1) = needStep E.most i ((E.mx k).cnt s) ((E.mx k).len) k (E.need p i s j) := by
  unfold FEnv.need
  rw [List.take_add_one, h]
  exact needL_snoc _ _ _

/-- The greatest, over the first k sizes. -/
def FEnv.most1 (E : FEnv) (p : Plan) (i : Nat) : Nat → Int
  | 0 => 0
  | s + 1 => max (E.most1 p i s) (E.need p i s (E.R s).length).2

theorem length_le {m : Nat} {l : List Nat} (hn : l.Nodup) (h : ∀ x, x ∈ l → x < m) : l.length ≤ m := by
  have h1 := sumL_le (fun _ => 1) (fun _ => by decide) m l hn h
  have e1 : ∀ l : List Nat, sumL (fun _ => 1) l = (l.length : Int) := by
    intro l
    induction l with
    | nil => rfl
    | cons x l ih => show 1 + sumL (fun _ => 1) l = ((l.length + 1 : Nat) : Int); rw [ih]; omega
  have e2 : ∀ m, sumN (fun _ => 1) m = (m : Int) := by
    intro m
    induction m with
    | zero => rfl
    | succ m ih => show sumN (fun _ => 1) m + 1 = ((m + 1 : Nat) : Int); rw [ih]; omega
  rw [e1, e2] at h1
  omega

theorem step_bd {most c l : Int} {i k : Nat} {x : Int × Int} {B : Int} (hm0 : 0 ≤ most) (hm1 : most ≤ 40) (hc0 : 1 ≤ c) (hc1 : c ≤ 6) (hl0 : 1 ≤ l) (hl1 : l ≤ 1048576) (h1 : -2000 ≤ x.1) (h2 : x.1 ≤ 1000) (h3 : 0 ≤ x.2) (h4 : x.2 ≤ B) :
    -2000 ≤ (needStep most i c l k x).1 ∧ (needStep most i c l k x).1 ≤ 1000 ∧ 0 ≤ (needStep most i c l k x).2 ∧ (needStep most i c l k x).2 ≤ B + 2000000000 := by
  obtain ⟨g1, g2⟩ := mul_bd hm0 hm1 (by omega : 0 ≤ c) hc1
  obtain ⟨g3, g4⟩ := mul_bd hm0 hm1 (by omega : 0 ≤ l) hl1
  unfold needStep
  split
  · exact ⟨h1, h2, h3, by omega⟩
  · rename_i hn
    split
    · rename_i hg
      simp only []
      omega
    · obtain ⟨g5, g6⟩ := mul_bd (by omega : 0 ≤ x.1) h2 (by omega : 0 ≤ l) hl1
      have g7 := Int.ediv_nonneg (a := x.1 * l + c - 1) (b := c) (by omega) (by omega)
      have g8 := Int.ediv_le_self (a := x.1 * l + c - 1) c (by omega)
      rw [Int.tdiv_eq_ediv_of_nonneg (by omega)]
      simp only []
      omega

theorem need_bd {E : FEnv} (ok : E.Ok) {p : Plan} (hp : ∀ j, j < E.m → 0 ≤ p j ∧ p j ≤ 40) (i : Nat) {s : Nat} (hs : s < E.S) : ∀ j, j ≤ (E.R s).length →
    -2000 ≤ (E.need p i s j).1 ∧ (E.need p i s j).1 ≤ 1000 ∧ 0 ≤ (E.need p i s j).2 ∧ (E.need p i s j).2 ≤ 2000000000 * (j : Int) := by
  intro j
  induction j with
  | zero =>
    intro _
    obtain ⟨m1, m2⟩ := made_bd ok.good hp (s := s) (by rw [← ok.sizes]; exact hs) E.m (Nat.le_refl _) (Nat.le_refl _)
    obtain ⟨o1, o2⟩ := ok.ord s hs
    have := ok.good.m6
    show -2000 ≤ E.ord s - madeF (cntM E.mx) p s E.m ∧ E.ord s - madeF (cntM E.mx) p s E.m ≤ 1000 ∧ (0 : Int) ≤ 0 ∧ (0 : Int) ≤ _
    omega
  | succ j ih =>
    intro hj
    obtain ⟨h1, h2, h3, h4⟩ := ih (by omega)
    have hk : (E.R s)[j]? = some (E.R s)[j] := List.getElem?_eq_getElem (by omega)
    rw [E.need_step p i s hk]
    obtain ⟨hm, hc⟩ := (ok.mem s hs _).1 (List.getElem_mem (l := E.R s) (n := j) (by omega))
    obtain ⟨c1, c2⟩ := ok.good.cnt _ s hm (by rw [← ok.sizes]; exact hs)
    obtain ⟨l1, l2⟩ := ok.good.len _ hm
    have := step_bd (i := i) (k := (E.R s)[j]) ok.most0 ok.most1 (by omega) c2 l1 l2 h1 h2 h3 h4
    omega

theorem R_len {E : FEnv} (ok : E.Ok) {s : Nat} (hs : s < E.S) : (E.R s).length ≤ E.m := length_le (ok.nodup s hs) (fun x hx => ((ok.mem s hs x).1 hx).1)

theorem most1_bd {E : FEnv} (ok : E.Ok) {p : Plan} (hp : ∀ j, j < E.m → 0 ≤ p j ∧ p j ≤ 40) (i : Nat) : ∀ k, k ≤ E.S → 0 ≤ E.most1 p i k ∧ E.most1 p i k ≤ 12000000000 := by
  intro k
  induction k with
  | zero => exact fun _ => ⟨Int.le_refl _, by show (0 : Int) ≤ _; omega⟩
  | succ k ih =>
    intro hk
    have h1 := ih (by omega)
    have h2 := need_bd ok hp i (s := k) (by omega) _ (Nat.le_refl _)
    have h3 := R_len ok (s := k) (by omega)
    have h4 := ok.good.m6
    show 0 ≤ max _ _ ∧ max _ _ ≤ _
    omega

theorem asc_filter (q : Nat → Bool) (cnt : Nat → Nat → Int) (len : Nat → Int) (s : Nat) : ∀ L : List Nat, Asc (pairsF cnt len s L) → Asc (pairsF cnt len s (L.filter q))
  | [], _ => trivial
  | k :: r, h => by
    have h2 := asc_filter q cnt len s r h.2
    by_cases hq : q k = true
    · rw [List.filter_cons_of_pos hq]
      refine ⟨fun x hx => h.1 x ?_, h2⟩
      obtain ⟨j, hj, rfl⟩ := List.mem_map.1 hx
      exact List.mem_map.2 ⟨j, (List.mem_filter.1 hj).1, rfl⟩
    · rw [List.filter_cons_of_neg hq]
      exact h2

/-- The plans that a finder looks for. -/
abbrev FEnv.Feas (E : FEnv) : Plan → Prop := FeasP E.m E.S (cntM E.mx) E.ord E.over E.most
abbrev FEnv.cost (E : FEnv) : Plan → Int := fun q => costF (lenM E.mx) q E.m

theorem sumN_pad {g : Nat → Int} {p : Plan} {i n : Nat} (hi : i ≤ n) (hz : ∀ j, i ≤ j → p j = 0) : sumN (fun j => p j * g j) n = sumN (fun j => p j * g j) i := by
  obtain ⟨d, rfl⟩ : ∃ d, n = i + d := ⟨n - i, by omega⟩
  rw [sumN_split]
  have : sumN (fun j => p (i + j) * g (i + j)) d = 0 := by
    induction d with
    | zero => rfl
    | succ d ih => show sumN _ d + p (i + d) * g (i + d) = 0; rw [ih (by omega), hz (i + d) (by omega)]; simp
  omega
theorem made_pad {cnt : Nat → Nat → Int} {p : Plan} {i n : Nat} (hi : i ≤ n) (hz : ∀ j, i ≤ j → p j = 0) (s : Nat) : madeF cnt p s n = madeF cnt p s i := sumN_pad hi hz
theorem cost_pad {len : Nat → Int} {p : Plan} {i n : Nat} (hi : i ≤ n) (hz : ∀ j, i ≤ j → p j = 0) : costF len p n = costF len p i := sumN_pad hi hz

/-- No plan that begins so costs less. -/
theorem need_law {E : FEnv} (ok : E.Ok) {p q : Plan} {i : Nat} (hi : i ≤ E.m) (hz : ∀ j, i ≤ j → p j = 0) (hf : E.Feas q) (he : EqTo i p q) : E.cost p + E.most1 p i E.S ≤ E.cost q := by
  have hlen : ∀ j, j < E.m → 0 ≤ (E.mx j).len := fun j hj => by have := ok.good.len j hj; omega
  have key : ∀ k, k ≤ E.S → E.cost p + E.most1 p i k ≤ E.cost q := by
    intro k
    induction k with
    | zero =>
      intro _
      show costF (lenM E.mx) p E.m + 0 ≤ costF (lenM E.mx) q E.m
      rw [cost_pad hi hz, ← cost_congr he]
      obtain ⟨d, hd⟩ : ∃ d, E.m = i + d := ⟨E.m - i, by omega⟩
      rw [hd]
      unfold costF
      rw [sumN_split]
      have := sumN_nonneg (f := fun j => q (i + j) * lenM E.mx (i + j)) (n := d) (fun j hj => Int.mul_nonneg (hf.1 (i + j) (by omega)).1 (hlen _ (by omega)))
      omega
    | succ k ih =>
      intro hk
      have h1 := ih (by omega)
      have h2 := still_le (cnt := cntM E.mx) (len := lenM E.mx) ok.most0 (fun j s hj hs => (ok.good.cnt j s hj (by rw [← ok.sizes]; exact hs)).1) hlen hf hi (s := k) (by omega) he (R := (E.R k).filter fun j => decide (i ≤ j)) ((ok.nodup k (by omega)).filter _)
        (fun j => by
          rw [List.mem_filter, ok.mem k (by omega)]
          simp only [decide_eq_true_eq]
          exact ⟨fun h => ⟨h.2, h.1.1, h.1.2⟩, fun h => ⟨⟨h.2.1, h.2.2⟩, h.1⟩⟩) (asc_filter _ _ _ _ _ (ok.asc k (by omega)))
      have h3 : (E.need p i k (E.R k).length).2 = 0 + boundF E.most (pairsF (cntM E.mx) (lenM E.mx) k ((E.R k).filter fun j => decide (i ≤ j))) (E.ord k - madeF (cntM E.mx) p k E.m) := by
        unfold FEnv.need
        rw [List.take_length]
        exact needL_bound (cnt := cntM E.mx) ok.most0 (E.R k) _ (fun j hj => by
          obtain ⟨a, b⟩ := (ok.mem k (by omega) j).1 hj
          exact ⟨by show 1 ≤ (E.mx j).cnt k; omega, hlen j a⟩)
      rw [← made_pad hi hz k, ← cost_pad hi hz] at h2
      show E.cost p + max (E.most1 p i k) (E.need p i k (E.R k).length).2 ≤ E.cost q
      have h4 : E.cost p + (E.need p i k (E.R k).length).2 ≤ E.cost q := by
        rw [h3]
        show costF (lenM E.mx) p E.m + _ ≤ costF (lenM E.mx) q E.m
        omega
      omega
  exact key _ (Nat.le_refl _)

end Go.Proofs.Ytkdpkaidbmjcaaa
