/- Plain laws of the recut chapter: what is replaced; a second Recut changes nothing. -/
import Derived.Test.YtmjfalabjlbdeaaRecU
import Derived.Test.YtmjfalabjlbdeaaRecL
namespace Go.Proofs.Ytmjfalabjlbdeaa
open Go.RowKit
set_option linter.unusedSimpArgs false
set_option linter.unusedVariables false

/-- A need that got no rest is served by no rest that remains. -/
theorem none_later {n m : Nat} {need : Nat → Need} {rest : Nat → Rest} {k j : Nat} (hk : k < m) (hj : j < n) (hg : gotF n need rest k < 0) : servesF (leftF n need rest m j) (need k) = false := by
  obtain ⟨d, rfl⟩ : ∃ d, m = k + d := ⟨m - k, by omega⟩
  obtain ⟨r1, r2, r3, r4⟩ := left_rise n need rest k d j
  rcases pick_spec n (leftF n need rest k) (need k) with ⟨_, hall⟩ | ⟨i, hi, hp, _, _⟩
  · have := hall j hj
    unfold servesF at this ⊢
    rw [decide_eq_false_iff_not] at this ⊢
    omega
  · unfold gotF at hg
    omega

theorem still_left {n : Nat} {need : Nat → Need} {rest : Nat → Rest} : ∀ m, (∀ k, k < m → ∀ j, j < n → servesF (rest j) (need k) = false) → leftF n need rest m = rest := by
  intro m
  induction m with
  | zero => intro _; rfl
  | succ m ih =>
    intro h
    have e := ih (fun k hk => h k (by omega))
    show cutF (leftF n need rest m) (pickF n (leftF n need rest m) (need m)) (need m).len = rest
    rw [e]
    have : pickF n rest (need m) = -1 := firstF_none _ _ (fun j hj => h m (by omega) j hj)
    rw [this, cut_none]

theorem still_got {n m : Nat} {need : Nat → Need} {rest : Nat → Rest} (h : ∀ k, k < m → ∀ j, j < n → servesF (rest j) (need k) = false) {k : Nat} (hk : k < m) : gotF n need rest k = -1 := by
  unfold gotF
  rw [still_left k (fun i hi => h i (by omega))]
  exact firstF_none _ _ (fun j hj => h k hk j hj)

theorem hit_none {D : List Nat} {got roll : Nat → Int} {i : Nat} : ∀ m, hitF D got roll m i = none → ∀ j, j < m → D.getD j 0 = i → got j < 0 := by
  intro m
  induction m with
  | zero => intro _ j hj; omega
  | succ m ih =>
    intro h j hj hd
    have e : hitF D got roll (m + 1) i = if 0 ≤ got m ∧ D.getD m 0 = i then some (roll m) else hitF D got roll m i := rfl
    rw [e] at h
    by_cases hc : 0 ≤ got m ∧ D.getD m 0 = i
    · rw [if_pos hc] at h; cases h
    · rw [if_neg hc] at h
      rcases Nat.lt_succ_iff_lt_or_eq.1 hj with h' | rfl
      · exact ih h j h' hd
      · rcases Int.lt_or_le (got j) 0 with h0 | h0
        · exact h0
        · exact absurd ⟨h0, hd⟩ hc

theorem hit_some {D : List Nat} {got roll : Nat → Int} {i : Nat} {r : Int} : ∀ m, hitF D got roll m i = some r → ∃ j, j < m ∧ 0 ≤ got j ∧ D.getD j 0 = i ∧ r = roll j := by
  intro m
  induction m with
  | zero => intro h; cases h
  | succ m ih =>
    intro h
    have e : hitF D got roll (m + 1) i = if 0 ≤ got m ∧ D.getD m 0 = i then some (roll m) else hitF D got roll m i := rfl
    rw [e] at h
    by_cases hc : 0 ≤ got m ∧ D.getD m 0 = i
    · rw [if_pos hc] at h
      exact ⟨m, by omega, hc.1, hc.2, (Option.some.inj h).symm⟩
    · rw [if_neg hc] at h
      obtain ⟨j, hj, r⟩ := ih h
      exact ⟨j, by omega, r⟩

theorem hit_all_none {D : List Nat} {got roll : Nat → Int} {i : Nat} : ∀ m, (∀ j, j < m → got j < 0) → hitF D got roll m i = none := by
  intro m
  induction m with
  | zero => intro _; rfl
  | succ m ih =>
    intro h
    rw [hit_skip (h m (by omega))]
    exact ih (fun j hj => h j (by omega))

theorem firstErr_zero {q : Nat → Int} {n : Nat} (h : firstErr q n = 0) : ∀ i, i < n → q i = 0 := by
  intro i hi
  rcases firstF_spec (fun i => q i != 0) n with ⟨_, hall⟩ | ⟨k, hk, hf, hq, _⟩
  · have := hall i hi
    simpa using this
  · unfold firstErr at h
    rw [hf, if_neg (by omega)] at h
    simp at h hq
    exact absurd h hq

theorem dmgs_mem {cut : Nat → Cut} {n i : Nat} (hi : i < n) (hd : (cut i).dmg = true) : ∃ j, j < (dmgs cut n).length ∧ (dmgs cut n).getD j 0 = i := by
  have hm : i ∈ dmgs cut n := List.mem_filter.2 ⟨List.mem_range.2 hi, hd⟩
  obtain ⟨j, hj, e⟩ := List.getElem_of_mem hm
  exact ⟨j, hj, by simp [List.getElem?_eq_getElem hj, e]⟩

section
variable {n m q : Nat} {cut cut2 : Nat → Cut} {poly : Nat → Poly} {rest : Nat → Rest} {roll : Nat → Nat → Int}

/-- What becomes of piece i. -/
theorem recut_cases (i : Nat) (hi : i < n) :
    (recutF n q cut poly rest (fun i => pieceOf (cut i) (roll i)) (dmgs cut n).length i = pieceOf (cut i) (roll i) ∧
      ∀ j, j < (dmgs cut n).length → (dmgs cut n).getD j 0 = i → gotF q (needAt cut poly n) rest j < 0) ∨
    ∃ k r, k < q ∧ (cut i).dmg = true ∧ (rest k).lot = (cut i).lot ∧ (rest k).roll = r ∧
      recutF n q cut poly rest (fun i => pieceOf (cut i) (roll i)) (dmgs cut n).length i = ⟨(cut i).ply, (cut i).place, (cut i).lot, (cut i).size, 1, fun _ => r, false⟩ := by
  unfold recutF
  rcases h : hitF (dmgs cut n) (gotF q (needAt cut poly n) rest) (fun j => (rest (gotF q (needAt cut poly n) rest j).toNat).roll) (dmgs cut n).length i with _ | r
  · exact .inl ⟨rfl, hit_none _ h⟩
  · obtain ⟨j, hj, h0, hd, hr⟩ := hit_some _ h
    obtain ⟨k, hk, hg, hs⟩ := got_lt h0
    have hdm := (dmgs_lt hj).2
    rw [hd] at hdm
    refine .inr ⟨k, r, hk, hdm, ?_, ?_, rfl⟩
    · unfold servesF at hs
      rw [decide_eq_true_eq] at hs
      have := hs.2.2.1
      rw [(left_roll q (needAt cut poly n) rest j k).2.1] at this
      rw [this]
      unfold needAt
      rw [hd]
    · rw [hr, hg]
      simp

/-- The pieces that a first Recut has left, in memory. -/
theorem twice_err (h2 : ∀ i, i < n → (cut2 i).place = (recutF n q cut poly rest (fun i => pieceOf (cut i) (roll i)) (dmgs cut n).length i).place ∧ (cut2 i).dmg = (recutF n q cut poly rest (fun i => pieceOf (cut i) (roll i)) (dmgs cut n).length i).dmg)
    (h0 : firstErr (fun i => cutErr m poly (cut i)) n = 0) : firstErr (fun i => cutErr m poly (cut2 i)) n = 0 := by
  refine firstErr_none fun i hi => ?_
  have hz := firstErr_zero h0 i hi
  obtain ⟨e1, e2⟩ := h2 i hi
  rcases recut_cases (n := n) (q := q) (cut := cut) (poly := poly) (rest := rest) (roll := roll) i hi with ⟨hr, _⟩ | ⟨k, r, _, _, _, _, hr⟩
  · rw [hr] at e1 e2
    unfold cutErr at hz ⊢
    rw [e1, e2]
    exact hz
  · rw [hr] at e2
    unfold cutErr
    rw [e2]
    rfl

theorem twice_serves (h2 : ∀ i, i < n → (cut2 i).place = (recutF n q cut poly rest (fun i => pieceOf (cut i) (roll i)) (dmgs cut n).length i).place ∧ (cut2 i).dmg = (recutF n q cut poly rest (fun i => pieceOf (cut i) (roll i)) (dmgs cut n).length i).dmg)
    (h3 : ∀ i, i < n → (cut2 i).lot = (recutF n q cut poly rest (fun i => pieceOf (cut i) (roll i)) (dmgs cut n).length i).lot) :
    ∀ k, k < (dmgs cut2 n).length → ∀ j, j < q → servesF (leftF q (needAt cut poly n) rest (dmgs cut n).length j) (needAt cut2 poly n k) = false := by
  intro k hk j hj
  obtain ⟨hp, hd⟩ := dmgs_lt hk
  have hneed : needAt cut2 poly n k = ⟨(cut2 ((dmgs cut2 n).getD k 0)).lot, widthF poly (cut2 ((dmgs cut2 n).getD k 0))⟩ := rfl
  rw [hneed]
  generalize (dmgs cut2 n).getD k 0 = p at hp hd
  obtain ⟨e1, e2⟩ := h2 p hp
  have e3 := h3 p hp
  rcases recut_cases (n := n) (q := q) (cut := cut) (poly := poly) (rest := rest) (roll := roll) p hp with ⟨hr, hno⟩ | ⟨k, r, _, _, _, _, hr⟩
  · rw [hr] at e1 e2 e3
    obtain ⟨i, hi, hpi⟩ := dmgs_mem (cut := cut) hp (e2.symm.trans hd)
    have := none_later (n := q) hi hj (hno i hi hpi)
    have e4 : needAt cut poly n i = ⟨(cut2 p).lot, widthF poly (cut2 p)⟩ := by
      unfold needAt widthF
      rw [hpi, e1, e3]
      rfl
    rw [e4] at this
    exact this
  · rw [hr] at e2
    rw [hd] at e2
    cases e2

/-- The second Recut leaves each piece as it is. -/
theorem twice_same {T : Nat → Piece} {L : Nat → Rest} (h : ∀ k, k < (dmgs cut2 n).length → ∀ j, j < q → servesF (L j) (needAt cut2 poly n k) = false) (i : Nat) :
    recutF n q cut2 poly L T (dmgs cut2 n).length i = T i := by
  unfold recutF
  rw [hit_all_none _ (fun j hj => by rw [still_got h hj]; decide)]
  rfl
end

end Go.Proofs.Ytmjfalabjlbdeaa
