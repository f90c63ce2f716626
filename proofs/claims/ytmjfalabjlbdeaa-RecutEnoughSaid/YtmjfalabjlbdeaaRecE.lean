/- Cut pieces and polygons in memory; recut.Needs. -/
import Derived.Test.YtmjfalabjlbdeaaPolyH
import Derived.Test.YtmjfalabjlbdeaaRecD
namespace Go.Proofs.Ytmjfalabjlbdeaa
open Go.RowKit
set_option linter.unusedSimpArgs false
set_option linter.unusedVariables false

section
variable {w w' : World} {base e1 e2 sz1 sz2 n m : Nat} {v u : Value} {f g : Nat → Nat → Value}
/-- Two rows whose element types differ lie in different blocks. -/
theorem Owned.sep (h1 : Owned w base e1 sz1 v n f) (h2 : Owned w base e2 sz2 u m g) (he : e1 ≠ e2) (k : Nat) (hk : v.ownBlock = some k) : u.ownBlock ≠ some k := by
  intro hu
  rcases h1.2 with ⟨rfl, _⟩ | ⟨g1, c1, k1, rfl, _, hh1, _⟩
  · cases hk
  · rcases h2.2 with ⟨rfl, _⟩ | ⟨g2, c2, k2, rfl, _, hh2, _⟩
    · cases hu
    · have e1' : g1 = k := Option.some.inj hk
      have e2' : g2 = k := Option.some.inj hu
      subst e1'; subst e2'
      rw [hh1] at hh2
      injection hh2 with hh2
      injection hh2 with _ ht
      exact he ht

theorem Owned.grown_other (h2 : Owned w base e2 sz2 u m g) (h1 : Owned w base e1 sz1 v n f) (he : e1 ≠ e2) (hg : w.grownBy w' v.ownBlock) : Owned w' base e2 sz2 u m g := by
  cases hv : v.ownBlock with
  | none => exact h2.grown hg (by cases hu : u.ownBlock with | none => exact .inl rfl | some k => exact .inr (by rw [hv]; simp))
  | some k => exact h2.grown hg (.inr (by rw [hv]; exact h1.sep h2 he k hv))

theorem Owned.below_grown {B : Nat} {a : World} (h1 : Owned w base e1 sz1 v n f) (hb : Below B a w) (hB : B ≤ base) (hs : B ≤ w.heap.size) (hg : w.grownBy w' v.ownBlock) : Below B a w' :=
  hb.grown hg hs (fun k hk => by have := (h1.lt k hk).1; omega)

/-- A literal slice, to be read. -/
theorem Row.lit (w : World) (cs : Array Value) (n : Nat) (e : TypeId) (sz : Nat) (f : Nat → Nat → Value) (hm : n ≤ maxLen) (hs : cs.toList = cellsOf sz n f) :
    Row (w.alloc (.cells cs e)) (w.alloc (.cells cs e)).heap.size sz (some ⟨w.heap.size, 0, none⟩) n f := by
  obtain ⟨A, c, hv, _, _, hr⟩ := (Owned.lit w cs n e sz f hm hs).form
  injection hv with h1 _ _
  rw [h1]
  exact hr
end

/-- A cut piece: its Rolls lie at ra, rn of them. -/
structure Cut where
  ply : Int
  place : Int
  lot : Int
  size : Int
  ra : Option Addr
  rn : Nat
  rc : Nat
  dmg : Bool

def Cut.c (x : Cut) : Nat → Value
  | 0 => .int .i64 x.ply
  | 1 => .int .i64 x.place
  | 2 => .int .i64 x.lot
  | 3 => .int .i64 x.size
  | 4 => .slice x.ra x.rn x.rc
  | _ => .bool x.dmg

/-- A polygon: its vertices lie at pa, pn of them. -/
structure Poly where
  pa : Option Addr
  pn : Nat
  pc : Nat
  spot : Nat → Spot

def Polys (w : World) (B : Nat) (A : Option Addr) (m : Nat) (poly : Nat → Poly) : Prop :=
  Row w B 1 A m (fun i _ => .slice (poly i).pa (poly i).pn (poly i).pc) ∧ ∀ i, i < m → Spots w B (poly i).pa (poly i).pn (poly i).spot ∧ (poly i).pn ≤ (poly i).pc ∧ (poly i).pn ≤ 100

theorem Polys.later {w w' : World} {A : Option Addr} {m : Nat} {poly : Nat → Poly} (h : Polys w w.heap.size A m poly) (hb : Below w.heap.size w w') : Polys w' w'.heap.size A m poly :=
  ⟨h.1.later hb, fun i hi => ⟨(h.2 i hi).1.later hb, (h.2 i hi).2⟩⟩

/-- The error of one cut piece. -/
def cutErr (m : Nat) (poly : Nat → Poly) (x : Cut) : Int :=
  if x.dmg then (if x.place < 0 ∨ (m : Int) ≤ x.place then 3 else checkF (poly x.place.toNat).pn (poly x.place.toNat).spot) else 0

/-- The first value that is not 0 among the first n, or 0. -/
def firstErr (q : Nat → Int) (n : Nat) : Int := if firstF (fun i => q i != 0) n 0 < 0 then 0 else q (firstF (fun i => q i != 0) n 0).toNat

theorem firstErr_none {q : Nat → Int} {n : Nat} (h : ∀ i, i < n → q i = 0) : firstErr q n = 0 := by
  unfold firstErr
  rw [firstF_none _ _ (fun j hj => by simp [h j hj])]
  rfl

theorem firstErr_at {q : Nat → Int} {n k : Nat} (hk : k < n) (h : ∀ i, i < k → q i = 0) (hq : q k ≠ 0) : firstErr q n = q k := by
  unfold firstErr
  rw [firstF_at _ n k hk (fun j hj => by simp [h j hj]) (by simp [hq])]
  rw [if_neg (by omega)]
  simp

/-- The width of the box of a piece's polygon. -/
def widthF (poly : Nat → Poly) (x : Cut) : Int :=
  maxTo (spotX (poly x.place.toNat).spot) (poly x.place.toNat).pn - minTo (spotX (poly x.place.toNat).spot) (poly x.place.toNat).pn

/-- The indices of the damaged pieces among the first k. -/
def dmgs (cut : Nat → Cut) (k : Nat) : List Nat := (List.range k).filter fun i => (cut i).dmg

def needAt (cut : Nat → Cut) (poly : Nat → Poly) (k j : Nat) : Need := ⟨(cut ((dmgs cut k).getD j 0)).lot, widthF poly (cut ((dmgs cut k).getD j 0))⟩
def idxAt (cut : Nat → Cut) (k j : Nat) : Int := ((dmgs cut k).getD j 0 : Nat)

theorem dmgs_skip {cut : Nat → Cut} {k : Nat} (h : (cut k).dmg = false) : dmgs cut (k + 1) = dmgs cut k := by
  unfold dmgs
  rw [List.range_succ, List.filter_append]
  simp [h]

theorem dmgs_take {cut : Nat → Cut} {k : Nat} (h : (cut k).dmg = true) : dmgs cut (k + 1) = dmgs cut k ++ [k] := by
  unfold dmgs
  rw [List.range_succ, List.filter_append]
  simp [h]

theorem dmgs_le (cut : Nat → Cut) (k : Nat) : (dmgs cut k).length ≤ k := by
  have := List.length_filter_le (fun i => (cut i).dmg) (List.range k)
  rw [List.length_range] at this
  exact this

theorem getD_snoc_lt (l : List Nat) (x j : Nat) (h : j < l.length) : (l ++ [x]).getD j 0 = l.getD j 0 := by
  simp [List.getElem?_append_left h]
theorem getD_snoc_eq (l : List Nat) (x : Nat) : (l ++ [x]).getD l.length 0 = x := by simp

/-- What both Needs leave. -/
def NeedsPost (w : World) (n m : Nat) (cut : Nat → Cut) (poly : Nat → Poly) (e : Ending) (w' : World) : Prop :=
  Below w.heap.size w w' ∧
  ((firstErr (fun i => cutErr m poly (cut i)) n = 0 ∧ ∃ v u, e = .returned (.tuple #[v, u, .int .i64 0]) ∧
      Owned w' w.heap.size 47 2 v (dmgs cut n).length (fun j => (needAt cut poly n j).c) ∧ Owned w' w.heap.size 3 1 u (dmgs cut n).length (fun j _ => .int .i64 (idxAt cut n j))) ∨
   (firstErr (fun i => cutErr m poly (cut i)) n ≠ 0 ∧ e = .returned (.tuple #[.slice none 0 0, .slice none 0 0, .int .i64 (firstErr (fun i => cutErr m poly (cut i)) n)])))

theorem needs_fail {w w' : World} {n m k : Nat} {cut : Nat → Cut} {poly : Nat → Poly} {x : Int} (hk : k < n) (h : ∀ i, i < k → cutErr m poly (cut i) = 0) (hx : cutErr m poly (cut k) = x) (h0 : x ≠ 0) (hb : Below w.heap.size w w') :
    NeedsPost w n m cut poly (.returned (.tuple #[.slice none 0 0, .slice none 0 0, .int .i64 x])) w' := by
  have e := firstErr_at (q := fun i => cutErr m poly (cut i)) hk h (by rw [hx]; exact h0)
  refine ⟨hb, .inr ⟨?_, ?_⟩⟩
  · rw [e, hx]; exact h0
  · rw [e, hx]

theorem Row.at6 {w : World} {B n b off : Nat} {f : Nat → Nat → Value} (h : Row w B 6 (some ⟨b, off, none⟩) n f) {i : Nat} (hi : i < n) :
    w.cell? ⟨b, off + i * 6, none⟩ = some (f i 0) ∧ w.cell? ⟨b, off + i * 6 + 1, none⟩ = some (f i 1) ∧ w.cell? ⟨b, off + i * 6 + 2, none⟩ = some (f i 2) ∧ w.cell? ⟨b, off + i * 6 + 3, none⟩ = some (f i 3) ∧
    w.cell? ⟨b, off + i * 6 + 4, none⟩ = some (f i 4) ∧ w.cell? ⟨b, off + i * 6 + 5, none⟩ = some (f i 5) := by
  obtain ⟨b', off', hA, _, hc⟩ := h (by omega)
  injection hA with hA
  injection hA with h1 h2
  subst h1; subst h2
  exact ⟨hc i 0 hi (by omega), hc i 1 hi (by omega), hc i 2 hi (by omega), hc i 3 hi (by omega), hc i 4 hi (by omega), hc i 5 hi (by omega)⟩

theorem need_info : (Try.prog.info? 47).map (fun i => (i.zero, i.size, i.bytes)) = some (some (.agg #[.int .i64 0, .int .i64 0]), 2, 16) := by kernel_rfl

end Go.Proofs.Ytmjfalabjlbdeaa
