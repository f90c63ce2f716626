/- Plain laws of the splice chapter: zones, their beginnings, the best zone. No program in sight. -/
import Derived.Test.YtcalchlfipbpkaaPols
import Derived.Test.YtcalchlfipbpkaaPolyG
namespace Go.Proofs.Ytcalchlfipbpkaa
set_option linter.unusedSimpArgs false
set_option linter.unusedVariables false

structure Zone where
  lo : Int
  hi : Int

/-- The extent of a polygon along X. -/
def zoneOf (p : Poly) : Zone := ⟨minTo (spotX p.spot) p.pn, minTo (spotX p.spot) p.pn + (maxTo (spotX p.spot) p.pn - minTo (spotX p.spot) p.pn)⟩

def polyErr (len : Int) (p : Poly) : Int :=
  if checkF p.pn p.spot ≠ 0 then checkF p.pn p.spot else if (zoneOf p).lo < 0 ∨ len < (zoneOf p).hi then 13 else 0

/-- The common error. -/
def extErr (len : Int) (m : Nat) (poly : Nat → Poly) : Int :=
  if len < 1 ∨ 1048576 < len then 3 else if 60 < m then 5 else firstErr (fun i => polyErr len (poly i)) m

/-- The greatest beginning of a zone that ends at h. -/
def backF (z : Nat → Zone) (h : Int) : Nat → Int
  | 0 => h
  | m + 1 => if h < (z m).hi then min (backF z h m) (z m).lo else backF z h m

def backErr (len : Int) (m : Nat) (poly : Nat → Poly) (h : Int) : Int :=
  if extErr len m poly ≠ 0 then extErr len m poly else if h < 0 ∨ len < h then 3 else 0

def bestErr (len : Int) (m : Nat) (poly : Nat → Poly) (lo hi : Int) : Int :=
  if extErr len m poly ≠ 0 then extErr len m poly else if lo < 0 ∨ hi < lo ∨ len < hi then 3 else 0

/-- One step of the reference's search. -/
def stepR (b : Int → Int) (lo : Int) (o : Option Zone) (h : Int) : Option Zone :=
  match o with
  | none => if lo < b h then some ⟨b h, h⟩ else none
  | some x => if lo < b h ∧ h - b h ≤ x.hi - x.lo then some ⟨b h, h⟩ else some x

/-- The search up to, but without, h = n. -/
def bestR (b : Int → Int) (lo : Int) : Nat → Option Zone
  | 0 => none
  | n + 1 => stepR b lo (bestR b lo n) n

/-- o is the best of the zones that end at an h of S. -/
def BestOf (S : Int → Prop) (b : Int → Int) (o : Option Zone) : Prop :=
  (o = none ∧ ∀ h, ¬ S h) ∨ ∃ h, o = some ⟨b h, h⟩ ∧ S h ∧ ∀ h', S h' → h - b h < h' - b h' ∨ (h - b h = h' - b h' ∧ h' ≤ h)

theorem BestOf.unique {S : Int → Prop} {b : Int → Int} {o o' : Option Zone} (h1 : BestOf S b o) (h2 : BestOf S b o') : o = o' := by
  rcases h1 with ⟨rfl, hn⟩ | ⟨h, rfl, hs, hb⟩
  · rcases h2 with ⟨rfl, _⟩ | ⟨h', rfl, hs', _⟩
    · rfl
    · exact absurd hs' (hn h')
  · rcases h2 with ⟨rfl, hn⟩ | ⟨h', rfl, hs', hb'⟩
    · exact absurd hs (hn h)
    · have e1 := hb h' hs'
      have e2 := hb' h hs
      obtain rfl : h = h' := by omega
      rfl

theorem BestOf.congr {S S' : Int → Prop} {b : Int → Int} {o : Option Zone} (h : BestOf S b o) (he : ∀ x, S x ↔ S' x) : BestOf S' b o := by
  rcases h with ⟨rfl, hn⟩ | ⟨h, rfl, hs, hb⟩
  · exact .inl ⟨rfl, fun x hx => hn x ((he x).2 hx)⟩
  · exact .inr ⟨h, rfl, (he h).1 hs, fun x hx => hb x ((he x).2 hx)⟩

/-- One candidate more that is not taken into account. -/
theorem BestOf.skip {S : Int → Prop} {b : Int → Int} {o : Option Zone} (h : BestOf S b o) (P : Int → Prop) (hp : ∀ x, P x → ¬ S x → False) : BestOf (fun x => S x ∨ P x) b o := by
  refine h.congr fun x => ⟨.inl, fun hx => ?_⟩
  rcases hx with hx | hx
  · exact hx
  · exact Classical.byContradiction fun hn => hp x hx hn

theorem bestR_spec (b : Int → Int) (lo : Int) (n : Nat) : BestOf (fun h => 0 ≤ h ∧ h < n ∧ lo < b h) b (bestR b lo n) := by
  induction n with
  | zero => exact .inl ⟨rfl, fun h hh => by omega⟩
  | succ n ih =>
    show BestOf _ b (stepR b lo (bestR b lo n) n)
    unfold stepR
    rcases ih with ⟨he, hn⟩ | ⟨h, he, hs, hb⟩
    · rw [he]
      simp only []
      by_cases hc : lo < b n
      · rw [if_pos hc]
        refine .inr ⟨n, rfl, by omega, fun h' hh' => ?_⟩
        by_cases hl : h' = n
        · subst hl; omega
        · exact absurd ⟨hh'.1, by omega, hh'.2.2⟩ (hn h')
      · rw [if_neg hc]
        refine .inl ⟨rfl, fun h' hh' => ?_⟩
        by_cases hl : h' = n
        · subst hl; exact hc hh'.2.2
        · exact hn h' ⟨hh'.1, by omega, hh'.2.2⟩
    · rw [he]
      simp only []
      by_cases hc : lo < b n ∧ (n : Int) - b n ≤ h - b h
      · rw [if_pos hc]
        refine .inr ⟨n, rfl, by omega, fun h' hh' => ?_⟩
        by_cases hl : h' = n
        · subst hl; omega
        · have := hb h' ⟨hh'.1, by omega, hh'.2.2⟩
          omega
      · rw [if_neg hc]
        refine .inr ⟨h, rfl, by omega, fun h' hh' => ?_⟩
        by_cases hl : h' = n
        · subst hl
          have := hh'.2.2
          omega
        · exact hb h' ⟨hh'.1, by omega, hh'.2.2⟩

/-- One step of the program's search. -/
def stepP (b : Int → Int) (lo hi : Int) (o : Option Zone) (h : Int) : Option Zone :=
  if hi < h ∨ b h ≤ lo then o else
    match o with
    | none => some ⟨b h, h⟩
    | some x => if h - b h - (x.hi - x.lo) < 0 ∨ (h - b h - (x.hi - x.lo) = 0 ∧ x.hi < h) then some ⟨b h, h⟩ else some x

theorem stepP_spec {S : Int → Prop} {b : Int → Int} {lo hi : Int} {o : Option Zone} (ih : BestOf (fun h => S h ∧ h ≤ hi ∧ lo < b h) b o) (x : Int) :
    BestOf (fun h => (S h ∨ h = x) ∧ h ≤ hi ∧ lo < b h) b (stepP b lo hi o x) := by
  unfold stepP
  by_cases hc : hi < x ∨ b x ≤ lo
  · rw [if_pos hc]
    refine ih.congr fun h => ⟨fun hh => ⟨.inl hh.1, hh.2⟩, fun hh => ⟨?_, hh.2⟩⟩
    rcases hh.1 with h1 | rfl
    · exact h1
    · omega
  · rw [if_neg hc]
    rcases ih with ⟨rfl, hn⟩ | ⟨h, rfl, hs, hb⟩
    · refine .inr ⟨x, rfl, ⟨.inr rfl, by omega, by omega⟩, fun h' hh' => ?_⟩
      rcases hh'.1 with h1 | rfl
      · exact absurd ⟨h1, hh'.2⟩ (hn h')
      · omega
    · simp only []
      by_cases hd : x - b x - (h - b h) < 0 ∨ (x - b x - (h - b h) = 0 ∧ h < x)
      · rw [if_pos hd]
        refine .inr ⟨x, rfl, ⟨.inr rfl, by omega, by omega⟩, fun h' hh' => ?_⟩
        rcases hh'.1 with h1 | rfl
        · have := hb h' ⟨h1, hh'.2⟩
          omega
        · omega
      · rw [if_neg hd]
        refine .inr ⟨h, rfl, ⟨.inl hs.1, hs.2⟩, fun h' hh' => ?_⟩
        rcases hh'.1 with h1 | rfl
        · exact hb h' ⟨h1, hh'.2⟩
        · omega

section
variable {z : Nat → Zone}

theorem back_le (z : Nat → Zone) (h : Int) (m : Nat) : backF z h m ≤ h := by
  induction m with
  | zero => exact Int.le_refl _
  | succ m ih =>
    unfold backF
    split <;> omega

theorem back_zone {h : Int} {m i : Nat} (hi : i < m) (hz : h < (z i).hi) : backF z h m ≤ (z i).lo := by
  induction m with
  | zero => omega
  | succ m ih =>
    unfold backF
    rcases Nat.lt_succ_iff_lt_or_eq.1 hi with h1 | rfl
    · have := ih h1
      split <;> omega
    · rw [if_pos hz]; omega

theorem back_cases (z : Nat → Zone) (h : Int) (m : Nat) : backF z h m = h ∨ ∃ i, i < m ∧ h < (z i).hi ∧ backF z h m = (z i).lo := by
  induction m with
  | zero => exact .inl rfl
  | succ m ih =>
    unfold backF
    by_cases hc : h < (z m).hi
    · rw [if_pos hc]
      by_cases hm : backF z h m ≤ (z m).lo
      · rw [Int.min_eq_left hm]
        rcases ih with e | ⟨i, hi, hz, e⟩
        · exact .inl e
        · exact .inr ⟨i, by omega, hz, e⟩
      · rw [Int.min_eq_right (by omega)]
        exact .inr ⟨m, by omega, hc, rfl⟩
    · rw [if_neg hc]
      rcases ih with e | ⟨i, hi, hz, e⟩
      · exact .inl e
      · exact .inr ⟨i, by omega, hz, e⟩

/-- What decides backF. -/
theorem back_eq {z' : Nat → Zone} {h : Int} {m m' : Nat} (h1 : ∀ i, i < m → ∃ j, j < m' ∧ z' j = z i) (h2 : ∀ j, j < m' → ∃ i, i < m ∧ z i = z' j) : backF z h m = backF z' h m' := by
  have a : ∀ {z z' : Nat → Zone} {m m' : Nat}, (∀ i, i < m → ∃ j, j < m' ∧ z' j = z i) → backF z' h m' ≤ backF z h m := by
    intro z z' m m' hh
    rcases back_cases z h m with e | ⟨i, hi, hz, e⟩
    · rw [e]; exact back_le _ _ _
    · obtain ⟨j, hj, ej⟩ := hh i hi
      rw [e, ← ej]
      exact back_zone hj (by rw [ej]; exact hz)
  have e1 := a (z := z) (z' := z') h1
  have e2 := a (z := z') (z' := z) h2
  omega

theorem back_mono {a b : Int} (hab : a ≤ b) (m : Nat) : backF z a m ≤ backF z b m := by
  rcases back_cases z b m with e | ⟨i, hi, hz, e⟩
  · have := back_le z a m; omega
  · rw [e]; exact back_zone hi (by omega)

theorem back_zero {m : Nat} (h : ∀ i, i < m → 0 ≤ (z i).lo) {x : Int} (hx : 0 ≤ x) : 0 ≤ backF z x m := by
  rcases back_cases z x m with e | ⟨i, hi, hz, e⟩
  · omega
  · rw [e]; exact h i hi

theorem back_full {m : Nat} {len : Int} (h : ∀ i, i < m → (z i).hi ≤ len) : backF z len m = len := by
  rcases back_cases z len m with e | ⟨i, hi, hz, e⟩
  · exact e
  · have := h i hi; omega

/-- The best of all zones ends at hi, or at an end of a polygon. -/
theorem best_cand {m : Nat} {lo hi : Int} (hlo : ∀ i, i < m → 0 ≤ (z i).lo) (hz : ∀ i, i < m → (z i).lo ≤ (z i).hi) (h0 : 0 ≤ lo) {o : Option Zone}
    (hb : BestOf (fun h => 0 ≤ h ∧ h ≤ hi ∧ lo < backF z h m) (fun h => backF z h m) o) :
    BestOf (fun h => (h = hi ∨ ∃ i, i < m ∧ (h = (z i).lo ∨ h = (z i).hi)) ∧ h ≤ hi ∧ lo < backF z h m) (fun h => backF z h m) o := by
  have sub : ∀ h, ((h = hi ∨ ∃ i, i < m ∧ (h = (z i).lo ∨ h = (z i).hi)) ∧ h ≤ hi ∧ lo < backF z h m) → 0 ≤ h ∧ h ≤ hi ∧ lo < backF z h m := by
    intro h hh
    have := back_le z h m
    exact ⟨by omega, hh.2⟩
  rcases hb with ⟨rfl, hn⟩ | ⟨h, rfl, hs, hbest⟩
  · exact .inl ⟨rfl, fun h hh => hn h (sub h hh)⟩
  · refine .inr ⟨h, rfl, ⟨?_, hs.2⟩, fun h' hh' => hbest h' (sub h' hh')⟩
    by_cases hhi : h = hi
    · exact .inl hhi
    · right
      have hle := back_le z h m
      by_cases hempty : backF z h m = h
      · -- an empty zone
        have hnext := hbest (h + 1)
        rcases back_cases z (h + 1) m with e | ⟨i, hi', hz', e⟩
        · exfalso
          have := hnext ⟨by omega, by omega, by rw [e]; omega⟩
          simp only [] at this
          rw [e] at this
          omega
        · have hge := back_zone (z := z) hi' (by omega : h < (z i).hi)
          refine ⟨i, hi', .inl ?_⟩
          have hle2 := back_le z (h + 1) m
          rcases Int.lt_or_le h (z i).lo with hlt | hle3
          · exfalso
            have e' : backF z (h + 1) m = h + 1 := by omega
            have := hnext ⟨by omega, by omega, by rw [e']; omega⟩
            simp only [] at this
            rw [e'] at this
            omega
          · omega
      · -- not empty: it ends where a polygon ends
        rcases back_cases z h m with e | ⟨i, hi', hz', e⟩
        · exact absurd e hempty
        · apply Classical.byContradiction
          intro hno
          have hprev : backF z (h - 1) m = backF z h m := by
            have h1 := back_zone (z := z) hi' (by omega : h - 1 < (z i).hi)
            have h2 : backF z h m ≤ backF z (h - 1) m := by
              rcases back_cases z (h - 1) m with e2 | ⟨j, hj, hzj, e2⟩
              · omega
              · rw [e2]
                refine back_zone hj ?_
                have : h ≠ (z j).hi := fun he => hno ⟨j, hj, .inr he⟩
                omega
            omega
          have h0' := back_zero hlo (hs.1)
          have := hbest (h - 1) ⟨by omega, by omega, by rw [hprev]; exact hs.2.2⟩
          simp only [] at this
          rw [hprev] at this
          omega
end

end Go.Proofs.Ytcalchlfipbpkaa
