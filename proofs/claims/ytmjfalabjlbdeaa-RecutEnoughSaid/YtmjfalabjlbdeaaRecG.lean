/- Lists of cut pieces that a call makes; what Recut leaves. -/
import Derived.Test.YtmjfalabjlbdeaaRecF
namespace Go.Proofs.Ytmjfalabjlbdeaa
open Go.RowKit
set_option linter.unusedSimpArgs false
set_option linter.unusedVariables false

/-- A cut piece as a value. -/
structure Piece where
  ply : Int
  place : Int
  lot : Int
  size : Int
  rn : Nat
  roll : Nat → Int
  dmg : Bool

def pieceOf (x : Cut) (roll : Nat → Int) : Piece := ⟨x.ply, x.place, x.lot, x.size, x.rn, roll, x.dmg⟩

/-- The piece x, in memory, is t; its rolls do not lie in a block of v. -/
def IsPiece (w : World) (v : Value) (x : Cut) (t : Piece) : Prop :=
  x.ply = t.ply ∧ x.place = t.place ∧ x.lot = t.lot ∧ x.size = t.size ∧ x.dmg = t.dmg ∧ x.rn = t.rn ∧ x.rn ≤ 1000 ∧
  (0 < t.rn → ∃ b off, x.ra = some ⟨b, off, none⟩ ∧ b < w.heap.size ∧ v.ownBlock ≠ some b ∧ ∀ j, j < t.rn → w.cell? ⟨b, off + j, none⟩ = some (.int .i64 (t.roll j)))

def CutsAre (w : World) (base : Nat) (v : Value) (n : Nat) (T : Nat → Piece) : Prop :=
  ∃ cut : Nat → Cut, Owned w base 43 6 v n (fun i => (cut i).c) ∧ ∀ i, i < n → IsPiece w v (cut i) (T i)

theorem IsPiece.later {w w' : World} {v : Value} {x : Cut} {t : Piece} (h : IsPiece w v x t) (hb : Below w.heap.size w w') : IsPiece w' v x t := by
  obtain ⟨h1, h2, h3, h4, h5, h6, h7, h8⟩ := h
  refine ⟨h1, h2, h3, h4, h5, h6, h7, fun h0 => ?_⟩
  obtain ⟨b, off, ha, hlt, hne, hc⟩ := h8 h0
  exact ⟨b, off, ha, Nat.lt_of_lt_of_le hlt hb.size, hne, fun j hj => (hb.cell (p := ⟨b, _, none⟩) hlt).trans (hc j hj)⟩

theorem CutsAre.later {w w' : World} {base n : Nat} {v : Value} {T : Nat → Piece} (h : CutsAre w base v n T) (hb : Below w.heap.size w w') : CutsAre w' base v n T := by
  obtain ⟨cut, ho, hi⟩ := h
  exact ⟨cut, ho.later hb, fun i hin => (hi i hin).later hb⟩

/-- A row that is read gives the rolls of one piece. -/
theorem IsPiece.row {w : World} {v : Value} {x : Cut} {t : Piece} (h : IsPiece w v x t) : Row w w.heap.size 1 x.ra x.rn (fun j _ => .int .i64 (t.roll j)) := by
  obtain ⟨_, _, _, _, _, h6, _, h8⟩ := h
  intro h0
  obtain ⟨b, off, ha, hlt, hne, hc⟩ := h8 (by omega)
  exact ⟨b, off, ha, hlt, fun i j hi hj => by
    have := hc i (by omega)
    rwa [show off + i * 1 + j = off + i by omega]⟩

/-- A store into v's own block leaves the rolls of the pieces as they are. -/
theorem IsPiece.put {w : World} {g n cap o : Nat} {x : Cut} {t : Piece} (h : IsPiece w (.slice (some ⟨g, 0, none⟩) n cap) x t) (u : Value) : IsPiece (w.setCell ⟨g, o, none⟩ u) (.slice (some ⟨g, 0, none⟩) n cap) x t := by
  obtain ⟨h1, h2, h3, h4, h5, h6, h7, h8⟩ := h
  refine ⟨h1, h2, h3, h4, h5, h6, h7, fun h0 => ?_⟩
  obtain ⟨b, off, ha, hlt, hne, hc⟩ := h8 h0
  refine ⟨b, off, ha, by simpa [World.setCell] using hlt, hne, fun j hj => ?_⟩
  rw [World.cell?_setCell_other _ _ _ _ (fun e => hne (by injection e with e1; exact congrArg some e1))]
  exact hc j hj

/-- The rolls of piece k are replaced by another slice. -/
theorem CutsAre.setRolls {w : World} {base n g cap k m c : Nat} {A : Option Addr} {T : Nat → Piece} {r : Nat → Int} (h : CutsAre w base (.slice (some ⟨g, 0, none⟩) n cap) n T) (hk : k < n) (hm : m ≤ 1000)
    (hr : 0 < m → ∃ b off, A = some ⟨b, off, none⟩ ∧ b < w.heap.size ∧ g ≠ b ∧ ∀ j, j < m → w.cell? ⟨b, off + j, none⟩ = some (.int .i64 (r j))) :
    CutsAre (w.setCell ⟨g, k * 6 + 4, none⟩ (.slice A m c)) base (.slice (some ⟨g, 0, none⟩) n cap) n (fun i => if i = k then ⟨(T k).ply, (T k).place, (T k).lot, (T k).size, m, r, (T k).dmg⟩ else T i) := by
  obtain ⟨cut, ho, hi⟩ := h
  refine ⟨fun i => if i = k then ⟨(cut k).ply, (cut k).place, (cut k).lot, (cut k).size, A, m, c, (cut k).dmg⟩ else cut i, (ho.put (k := k) (j := 4) (by omega) (.slice A m c)).congr (fun i j hin hj => ?_), fun i hin => ?_⟩
  · unfold upd
    by_cases hik : i = k
    · subst hik
      simp only [if_true, true_and]
      match j, hj with
      | 0, _ => rfl
      | 1, _ => rfl
      | 2, _ => rfl
      | 3, _ => rfl
      | 4, _ => rfl
      | 5, _ => rfl
    · simp only [hik, if_false, false_and]
  · by_cases hik : i = k
    · subst hik
      simp only [if_true]
      obtain ⟨h1, h2, h3, h4, h5, h6, h7, h8⟩ := hi i hk
      refine ⟨h1, h2, h3, h4, h5, rfl, hm, fun h0 => ?_⟩
      obtain ⟨b, off, ha, hlt, hne, hc⟩ := hr h0
      refine ⟨b, off, ha, by simpa [World.setCell] using hlt, fun e => hne (Option.some.inj e), fun j hj => ?_⟩
      rw [World.cell?_setCell_other _ _ _ _ (fun e => hne (by injection e with e1))]
      exact hc j hj
    · simp only [hik, if_false]
      exact (hi i hin).put _

/-- Piece k is no longer damaged. -/
theorem CutsAre.setDmg {w : World} {base n g cap k : Nat} {T : Nat → Piece} (h : CutsAre w base (.slice (some ⟨g, 0, none⟩) n cap) n T) (hk : k < n) (d : Bool) :
    CutsAre (w.setCell ⟨g, k * 6 + 5, none⟩ (.bool d)) base (.slice (some ⟨g, 0, none⟩) n cap) n (fun i => if i = k then ⟨(T k).ply, (T k).place, (T k).lot, (T k).size, (T k).rn, (T k).roll, d⟩ else T i) := by
  obtain ⟨cut, ho, hi⟩ := h
  refine ⟨fun i => if i = k then ⟨(cut k).ply, (cut k).place, (cut k).lot, (cut k).size, (cut k).ra, (cut k).rn, (cut k).rc, d⟩ else cut i, (ho.put (k := k) (j := 5) (by omega) (.bool d)).congr (fun i j hin hj => ?_), fun i hin => ?_⟩
  · unfold upd
    by_cases hik : i = k
    · subst hik
      simp only [if_true, true_and]
      match j, hj with
      | 0, _ => rfl
      | 1, _ => rfl
      | 2, _ => rfl
      | 3, _ => rfl
      | 4, _ => rfl
      | 5, _ => rfl
    · simp only [hik, if_false, false_and]
  · by_cases hik : i = k
    · subst hik
      simp only [if_true]
      obtain ⟨h1, h2, h3, h4, h5, h6, h7, h8⟩ := (hi i hk).put (o := i * 6 + 5) (.bool d)
      exact ⟨h1, h2, h3, h4, rfl, h6, h7, h8⟩
    · simp only [hik, if_false]
      exact (hi i hin).put _

theorem CutsAre.congr {w : World} {base n : Nat} {v : Value} {T T' : Nat → Piece} (h : CutsAre w base v n T) (he : ∀ i, i < n → T i = T' i) : CutsAre w base v n T' := by
  obtain ⟨cut, ho, hi⟩ := h
  exact ⟨cut, ho, fun i hin => he i hin ▸ hi i hin⟩

theorem CutsAre.form {w : World} {base n : Nat} {v : Value} {T : Nat → Piece} (h : CutsAre w base v n T) : ∃ A c, v = .slice A n c := by
  obtain ⟨cut, ho, hi⟩ := h
  obtain ⟨A, c, hv, _⟩ := ho.form
  exact ⟨A, c, hv⟩

theorem CutsAre.blk {w : World} {base n : Nat} {v : Value} {T : Nat → Piece} (h : CutsAre w base v n T) (h0 : 0 < n) : ∃ g cap, v = .slice (some ⟨g, 0, none⟩) n cap ∧ base ≤ g ∧ g < w.heap.size ∧ (∀ o, w.frozen? ⟨g, o, none⟩ = false) ∧
    ∃ cut : Nat → Cut, (∀ i, i < n → IsPiece w v (cut i) (T i)) ∧ ∀ i j, i < n → j < 6 → w.cell? ⟨g, i * 6 + j, none⟩ = some ((cut i).c j) := by
  obtain ⟨cut, ho, hi⟩ := h
  obtain ⟨g, cap, hv, hb, hlt, _, _, hc, hf⟩ := ho.blk h0
  exact ⟨g, cap, hv, hb, hlt, hf, cut, hi, hc⟩

/-- What the first m needs have replaced: piece i has got a rest of this roll. -/
def hitF (D : List Nat) (got roll : Nat → Int) : Nat → Nat → Option Int
  | 0, _ => none
  | m + 1, i => if 0 ≤ got m ∧ D.getD m 0 = i then some (roll m) else hitF D got roll m i

def newPiece (t : Piece) : Option Int → Piece
  | some r => ⟨t.ply, t.place, t.lot, t.size, 1, fun _ => r, false⟩
  | none => t

/-- The pieces after m needs have been served. -/
def recutF (n q : Nat) (cut : Nat → Cut) (poly : Nat → Poly) (rest : Nat → Rest) (T : Nat → Piece) (m : Nat) : Nat → Piece := fun i =>
  newPiece (T i) (hitF (dmgs cut n) (gotF q (needAt cut poly n) rest) (fun j => (rest (gotF q (needAt cut poly n) rest j).toNat).roll) m i)

/-- What both Recuts leave: n pieces, m polygons, q rests. -/
def RecutPost (w : World) (n m q : Nat) (cut : Nat → Cut) (poly : Nat → Poly) (rest : Nat → Rest) (T : Nat → Piece) (e : Ending) (w' : World) : Prop :=
  Below w.heap.size w w' ∧
  ((firstErr (fun i => cutErr m poly (cut i)) n = 0 ∧ ∃ v u, e = .returned (.tuple #[v, u, .int .i64 0]) ∧
      CutsAre w' w.heap.size v n (recutF n q cut poly rest T (dmgs cut n).length) ∧
      Owned w' w.heap.size 49 4 u q (fun i => (leftF q (needAt cut poly n) rest (dmgs cut n).length i).c)) ∨
   (firstErr (fun i => cutErr m poly (cut i)) n ≠ 0 ∧ e = .returned (.tuple #[.slice none 0 0, .slice none 0 0, .int .i64 (firstErr (fun i => cutErr m poly (cut i)) n)])))

theorem plain_cut (cut : Nat → Cut) (n : Nat) : Plain 6 n (fun i => (cut i).c) := by
  intro i j hi hj
  simp only []
  unfold Cut.c
  split <;> rfl

theorem plain_int (f : Nat → Int) (n : Nat) : Plain 1 n (fun i _ => .int .i64 (f i)) := fun i j _ _ => rfl

theorem left_roll (n : Nat) (need : Nat → Need) (rest : Nat → Rest) (m i : Nat) : (leftF n need rest m i).roll = (rest i).roll ∧ (leftF n need rest m i).lot = (rest i).lot ∧ (leftF n need rest m i).til = (rest i).til := by
  induction m with
  | zero => exact ⟨rfl, rfl, rfl⟩
  | succ m ih =>
    show (cutF _ _ _ i).roll = _ ∧ (cutF _ _ _ i).lot = _ ∧ (cutF _ _ _ i).til = _
    unfold cutF
    split
    · exact ih
    · exact ih

theorem got_lt {n : Nat} {need : Nat → Need} {rest : Nat → Rest} {m : Nat} (h : 0 ≤ gotF n need rest m) : ∃ k, k < n ∧ gotF n need rest m = (k : Nat) ∧ servesF (leftF n need rest m k) (need m) = true := by
  rcases pick_spec n (leftF n need rest m) (need m) with ⟨h1, _⟩ | ⟨k, hk, h1, h2, _⟩
  · unfold gotF at h; omega
  · exact ⟨k, hk, h1, h2⟩

theorem dmgs_lt {cut : Nat → Cut} {n j : Nat} (h : j < (dmgs cut n).length) : (dmgs cut n).getD j 0 < n ∧ (cut ((dmgs cut n).getD j 0)).dmg = true := by
  have hm : (dmgs cut n).getD j 0 ∈ dmgs cut n := by
    simp [List.getElem?_eq_getElem h]
  have := List.mem_filter.1 hm
  exact ⟨List.mem_range.1 this.1, this.2⟩

end Go.Proofs.Ytmjfalabjlbdeaa
