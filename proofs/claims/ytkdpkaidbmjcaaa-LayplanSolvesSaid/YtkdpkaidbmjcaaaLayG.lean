/- Worlds that are alike but for some blocks; the finder in memory. -/
import Derived.Test.YtkdpkaidbmjcaaaLayF
namespace Go.Proofs.Ytkdpkaidbmjcaaa
open Go.RowKit
set_option linter.unusedSimpArgs false
set_option linter.unusedVariables false

/-- Of what was there nothing has turned, but the blocks of X. -/
structure But (X : Nat → Prop) (w w' : World) : Prop where
  os : w'.os = w.os
  tape : w'.tape = w.tape
  output : w'.output = w.output
  size : w.heap.size ≤ w'.heap.size
  block : ∀ k, k < w.heap.size → ¬ X k → w'.heap[k]? = w.heap[k]?

section
variable {X Y : Nat → Prop} {a b w w' : World}
theorem But.refl (X : Nat → Prop) (w : World) : But X w w := ⟨rfl, rfl, rfl, Nat.le_refl _, fun _ _ _ => rfl⟩
theorem But.trans (h : But X a b) (k : But X b w) : But X a w :=
  ⟨k.os.trans h.os, k.tape.trans h.tape, k.output.trans h.output, Nat.le_trans h.size k.size, fun i hi hx => (k.block i (Nat.lt_of_lt_of_le hi h.size) hx).trans (h.block i hi hx)⟩
theorem But.weaken (h : But X a b) (hx : ∀ k, k < a.heap.size → X k → Y k) : But Y a b := ⟨h.os, h.tape, h.output, h.size, fun k hk hy => h.block k hk (fun hh => hy (hx k hk hh))⟩
theorem But.drew (h : But X a w) : But X a w.drew := ⟨h.os, h.tape, h.output, h.size, h.block⟩
theorem But.alloc (h : But X a w) (o : Obj) : But X a (w.alloc o) :=
  h.trans ⟨rfl, rfl, rfl, by simp, fun k hk _ => Below.heap_alloc _ _ _ hk⟩
theorem But.setCell (h : But X a w) {p : Addr} (hp : X p.block) (u : Value) : But X a (w.setCell p u) :=
  h.trans ⟨rfl, rfl, rfl, by simp [World.setCell], fun k hk hx => Below.heap_setCell _ _ _ _ (fun e => hx (e ▸ hp))⟩
/-- A store into a block that is new. -/
theorem But.setNew (h : But X a w) {p : Addr} (hp : a.heap.size ≤ p.block) (u : Value) : But X a (w.setCell p u) :=
  ⟨h.os, h.tape, h.output, by simp [World.setCell]; exact h.size, fun k hk hx => (Below.heap_setCell _ _ _ _ (by omega)).trans (h.block k hk hx)⟩
theorem But.ofBelow (h : Below w.heap.size w w') : But X w w' := ⟨h.os, h.tape, h.output, h.size, fun k hk _ => h.block k hk⟩
theorem But.then (h : But X a b) (k : Below b.heap.size b w) : But X a w := h.trans (But.ofBelow k)
theorem But.below {B : Nat} (h : But X w w') (hX : ∀ k, X k → B ≤ k) (hB : B ≤ w.heap.size) : Below B w w' :=
  ⟨h.os, h.tape, h.output, h.size, fun k hk => h.block k (by omega) (fun hx => by have := hX k hx; omega)⟩
theorem But.cell (h : But X w w') {b o : Nat} (hb : b < w.heap.size) (hx : ¬ X b) : w'.cell? ⟨b, o, none⟩ = w.cell? ⟨b, o, none⟩ := World.cell?_of_block (w := w) (h.block b hb hx)
theorem But.grown {row : Option Nat} (h : But X a w) (hg : w.grownBy w' row) (hr : ∀ k, row = some k → X k ∨ a.heap.size ≤ k) : But X a w' := by
  refine ⟨hg.os.trans h.os, hg.tape.trans h.tape, hg.output.trans h.output, Nat.le_trans h.size hg.size, fun k hk hx => ?_⟩
  refine (hg.block k (Nat.lt_of_lt_of_le hk h.size) (fun e => ?_)).trans (h.block k hk hx)
  rcases hr k e.symm with h' | h'
  · exact hx h'
  · omega

theorem Blk.but {g : Nat} {t : TypeId} {cs : Array Value} (h : Blk w g t cs) (hb : But X w w') (hx : ¬ X g) : Blk w' g t cs := (hb.block g h.lt hx).trans h

theorem Owned.but {base e sz n : Nat} {v : Value} {f : Nat → Nat → Value} (h : Owned w base e sz v n f) (hb : But X w w') (hx : ∀ k, v.ownBlock = some k → ¬ X k) : Owned w' base e sz v n f := by
  obtain ⟨hl, h⟩ := h
  refine ⟨hl, ?_⟩
  rcases h with h | ⟨g, cap, cur, hv, hg, hh, r⟩
  · exact .inl h
  · exact .inr ⟨g, cap, cur, hv, hg, (hb.block g (Array.getElem?_eq_some_iff.1 hh).1 (hx g (by rw [hv]; rfl))).trans hh, r⟩
end

/-- A row whose block is one of N. -/
def RowN (w : World) (N : Nat → Prop) (sz : Nat) (A : Option Addr) (n : Nat) (f : Nat → Nat → Value) : Prop :=
  0 < n → ∃ b off, A = some ⟨b, off, none⟩ ∧ N b ∧ ∀ i j, i < n → j < sz → w.cell? ⟨b, off + i * sz + j, none⟩ = some (f i j)

section
variable {w w' : World} {N N' X : Nat → Prop} {sz n : Nat} {A : Option Addr} {f : Nat → Nat → Value}
theorem RowN.keep (h : RowN w N sz A n f) (hb : But X w w') (hN : ∀ k, N k → k < w.heap.size ∧ ¬ X k) : RowN w' N sz A n f := by
  intro hn
  obtain ⟨b, off, hA, hB, hc⟩ := h hn
  exact ⟨b, off, hA, hB, fun i j hi hj => (hb.cell (hN b hB).1 (hN b hB).2).trans (hc i j hi hj)⟩
theorem RowN.weaken (h : RowN w N sz A n f) (hN : ∀ k, N k → N' k) : RowN w N' sz A n f := by
  intro hn
  obtain ⟨b, off, hA, hB, hc⟩ := h hn
  exact ⟨b, off, hA, hN b hB, hc⟩
theorem RowN.row {B : Nat} (h : RowN w N sz A n f) (hN : ∀ k, N k → k < B) : Row w B sz A n f := by
  intro hn
  obtain ⟨b, off, hA, hB, hc⟩ := h hn
  exact ⟨b, off, hA, hN b hB, hc⟩
theorem Row.toN {B : Nat} (h : Row w B sz A n f) (hN : ∀ k, k < B → N k) : RowN w N sz A n f := by
  intro hn
  obtain ⟨b, off, hA, hB, hc⟩ := h hn
  exact ⟨b, off, hA, hN b hB, hc⟩
theorem RowN.addr (h : RowN w N sz A n f) (h0 : 0 < n) : ∃ b off, A = some ⟨b, off, none⟩ ∧ N b := by
  obtain ⟨b, off, hA, hb, _⟩ := h h0
  exact ⟨b, off, hA, hb⟩
theorem RowN.congr {g : Nat → Nat → Value} (h : RowN w N sz A n f) (he : ∀ i j, i < n → j < sz → f i j = g i j) : RowN w N sz A n g := by
  intro h0
  obtain ⟨b, off, hA, hb, hc⟩ := h h0
  exact ⟨b, off, hA, hb, fun i j hi hj => by rw [← he i j hi hj]; exact hc i j hi hj⟩
end

/-- What a finder is about, and where it lies. -/
structure FEnv where
  m : Nat
  S : Nat
  A : Option Addr
  cM : Nat
  mx : Nat → MixM
  Ao : Option Addr
  co : Nat
  ord : Nat → Int
  over : Int
  most : Int
  base : Nat
  F : Nat
  gp : Nat
  gm : Nat
  gr : Nat
  gt : Nat
  rb : Nat → Nat
  ta : Nat → Option Addr
  tc : Nat → Nat
  R : Nat → List Nat
  top : Nat

/-- The blocks that the search writes; those that it reads. -/
def FEnv.X (E : FEnv) (k : Nat) : Prop := k = E.F ∨ k = E.gp ∨ k = E.gm
def FEnv.N (E : FEnv) (k : Nat) : Prop := k < E.top ∧ ¬ E.X k

structure FEnv.Ok (E : FEnv) : Prop where
  good : GoodM E.m E.mx
  sizes : E.S = sizesF E.m E.mx
  ord : ∀ s, s < E.S → 0 ≤ E.ord s ∧ E.ord s ≤ 1000
  over0 : 0 ≤ E.over
  over1 : E.over ≤ 1000
  most0 : 0 ≤ E.most
  most1 : E.most ≤ 40
  bF : E.base ≤ E.F
  bp : E.base ≤ E.gp
  bm : E.base ≤ E.gm
  Fp : E.F ≠ E.gp
  Fm : E.F ≠ E.gm
  pm : E.gp ≠ E.gm
  tF : E.F < E.top
  tp : E.gp < E.top
  tm : E.gm < E.top
  nodup : ∀ s, s < E.S → (E.R s).Nodup
  mem : ∀ s, s < E.S → ∀ k, k ∈ E.R s ↔ k < E.m ∧ 0 < (E.mx k).cnt s
  asc : ∀ s, s < E.S → Asc (pairsF (cntM E.mx) (lenM E.mx) s (E.R s))

theorem FEnv.Ok.X_base {E : FEnv} (ok : E.Ok) : ∀ k, E.X k → E.base ≤ k := by
  rintro k (h | h | h) <;> subst h
  · exact ok.bF
  · exact ok.bp
  · exact ok.bm

/-- What is only read. -/
structure Fix (E : FEnv) (w : World) : Prop where
  size : E.top ≤ w.heap.size
  ints : RowN w E.N 1 E.Ao E.S (fun s _ => .int .i64 (E.ord s))
  mixes : RowN w E.N 2 E.A E.m (fun i => (E.mx i).c)
  counts : ∀ i, i < E.m → RowN w E.N 1 (E.mx i).ca (E.mx i).cn (fun j _ => .int .i64 ((E.mx i).cnt j))
  rest : RowN w E.N 1 (some ⟨E.gr, 0, none⟩) (E.m + 1) (fun i _ => .slice (some ⟨E.rb i, 0, none⟩) E.S E.S)
  rests : ∀ i, i ≤ E.m → RowN w E.N 1 (some ⟨E.rb i, 0, none⟩) E.S (fun s _ => .int .i64 (restF (cntM E.mx) E.most E.m s i))
  rates : RowN w E.N 1 (some ⟨E.gt, 0, none⟩) E.S (fun s _ => .slice (E.ta s) (E.R s).length (E.tc s))
  ratess : ∀ s, s < E.S → RowN w E.N 1 (E.ta s) (E.R s).length (fun j _ => .int .i64 (((E.R s)[j]?.getD 0 : Nat) : Int))

theorem Fix.N_lt {E : FEnv} {w : World} (h : Fix E w) : ∀ k, E.N k → k < w.heap.size := fun k hk => Nat.lt_of_lt_of_le hk.1 h.size

theorem Fix.keep {E : FEnv} {w w' : World} {X : Nat → Prop} (h : Fix E w) (hb : But X w w') (hX : ∀ k, E.N k → ¬ X k) : Fix E w' := by
  have hN : ∀ k, E.N k → k < w.heap.size ∧ ¬ X k := fun k hk => ⟨h.N_lt k hk, hX k hk⟩
  exact ⟨Nat.le_trans h.size hb.size, h.ints.keep hb hN, h.mixes.keep hb hN, fun i hi => (h.counts i hi).keep hb hN, h.rest.keep hb hN, fun i hi => (h.rests i hi).keep hb hN, h.rates.keep hb hN, fun s hs => (h.ratess s hs).keep hb hN⟩

/-- The finder's fields. -/
def FEnv.cells (E : FEnv) (cost : Int) (bv : Value) (ls : Int) (fd : Bool) : Array Value :=
  #[.slice E.Ao E.S E.co, .slice E.A E.m E.cM, .int .i64 E.over, .int .i64 E.most, .slice (some ⟨E.gp, 0, none⟩) E.m E.m, .slice (some ⟨E.gm, 0, none⟩) E.S E.S, .int .i64 cost,
    .slice (some ⟨E.gr, 0, none⟩) (E.m + 1) (E.m + 1), .slice (some ⟨E.gt, 0, none⟩) E.S E.S, bv, .int .i64 ls, .bool fd]

/-- The finder in memory, whatever its plan, what it makes and costs. -/
structure Fin0 (E : FEnv) (w : World) (p md : Nat → Int) (cost : Int) (bv : Value) (ls : Int) (fd : Bool) : Prop where
  fix : Fix E w
  blk : Blk w E.F 49 (E.cells cost bv ls fd)
  plies : Owned w E.base 3 1 (.slice (some ⟨E.gp, 0, none⟩) E.m E.m) E.m (fun i _ => .int .i64 (p i))
  made : Owned w E.base 3 1 (.slice (some ⟨E.gm, 0, none⟩) E.S E.S) E.S (fun s _ => .int .i64 (md s))

/-- The finder in memory: plan p; the best up to now: bv, ls, fd. -/
abbrev Fin (E : FEnv) (w : World) (p : Plan) (bv : Value) (ls : Int) (fd : Bool) : Prop := Fin0 E w p (fun s => madeF (cntM E.mx) p s E.m) (costF (lenM E.mx) p E.m) bv ls fd

section
variable {E : FEnv} {w w' : World} {p md : Nat → Int} {cost : Int} {bv : Value} {ls : Int} {fd : Bool} {X : Nat → Prop}
theorem Fin0.keep (h : Fin0 E w p md cost bv ls fd) (ok : E.Ok) (hb : But X w w') (hX : ∀ k, k < E.top → ¬ X k) : Fin0 E w' p md cost bv ls fd :=
  ⟨h.fix.keep hb (fun k hk => hX k hk.1), h.blk.but hb (hX _ ok.tF), h.plies.but hb (fun k hk => by have : E.gp = k := Option.some.inj hk; rw [← this]; exact hX _ ok.tp),
    h.made.but hb (fun k hk => by have : E.gm = k := Option.some.inj hk; rw [← this]; exact hX _ ok.tm)⟩
theorem Fin0.later (h : Fin0 E w p md cost bv ls fd) (ok : E.Ok) (hb : Below w.heap.size w w') : Fin0 E w' p md cost bv ls fd :=
  h.keep ok (But.ofBelow (X := fun _ => False) hb) (fun _ _ h => h)
theorem Fin0.drew (h : Fin0 E w p md cost bv ls fd) (ok : E.Ok) : Fin0 E w.drew p md cost bv ls fd := h.later ok (Below.refl _ _).drew
theorem Fin0.alloc (h : Fin0 E w p md cost bv ls fd) (ok : E.Ok) (o : Obj) : Fin0 E (w.alloc o) p md cost bv ls fd := h.later ok (below_a1 w o)
/-- A store into a block behind the finder's. -/
theorem Fin0.setNew (h : Fin0 E w p md cost bv ls fd) (ok : E.Ok) {q : Addr} (hq : E.top ≤ q.block) (u : Value) : Fin0 E (w.setCell q u) p md cost bv ls fd :=
  h.keep (X := fun k => k = q.block) ok ((But.refl (fun k => k = q.block) w).setCell (p := q) rfl u) (fun k hk he => by omega)
theorem Fin0.congr {p' md' : Nat → Int} {cost' : Int} (h : Fin0 E w p md cost bv ls fd) (h1 : ∀ i, i < E.m → p i = p' i) (h2 : ∀ s, s < E.S → md s = md' s) (h3 : cost = cost') : Fin0 E w p' md' cost' bv ls fd :=
  ⟨h.fix, by rw [← h3]; exact h.blk, h.plies.congr (fun i j hi _ => by rw [h1 i hi]), h.made.congr (fun i j hi _ => by rw [h2 i hi])⟩

def setF (p : Nat → Int) (i : Nat) (v : Int) : Nat → Int := fun j => if j = i then v else p j

theorem Fin0.putP (h : Fin0 E w p md cost bv ls fd) (ok : E.Ok) (i : Nat) (v : Int) : Fin0 E (w.setCell ⟨E.gp, i, none⟩ (.int .i64 v)) (setF p i v) md cost bv ls fd ∧ But E.X w (w.setCell ⟨E.gp, i, none⟩ (.int .i64 v)) := by
  have hb := (But.refl E.X w).setCell (p := ⟨E.gp, i, none⟩) (.inr (.inl rfl)) (.int .i64 v)
  refine ⟨⟨h.fix.keep hb (fun k hk => hk.2), h.blk.far (p := ⟨E.gp, i, none⟩) ok.Fp _, ?_, h.made.far (p := ⟨E.gp, i, none⟩) (fun e => ok.pm (Option.some.inj e).symm) _⟩, hb⟩
  exact (h.plies.put1 (k := i) (.int .i64 v)).congr (fun j l hj hl => by
    unfold upd setF
    by_cases e : j = i
    · rw [if_pos ⟨e, by omega⟩, if_pos e]
    · rw [if_neg (fun h => e h.1), if_neg e])

theorem Fin0.putM (h : Fin0 E w p md cost bv ls fd) (ok : E.Ok) (i : Nat) (v : Int) : Fin0 E (w.setCell ⟨E.gm, i, none⟩ (.int .i64 v)) p (setF md i v) cost bv ls fd ∧ But E.X w (w.setCell ⟨E.gm, i, none⟩ (.int .i64 v)) := by
  have hb := (But.refl E.X w).setCell (p := ⟨E.gm, i, none⟩) (.inr (.inr rfl)) (.int .i64 v)
  refine ⟨⟨h.fix.keep hb (fun k hk => hk.2), h.blk.far (p := ⟨E.gm, i, none⟩) ok.Fm _, h.plies.far (p := ⟨E.gm, i, none⟩) (fun e => ok.pm (Option.some.inj e)) _, ?_⟩, hb⟩
  exact (h.made.put1 (k := i) (.int .i64 v)).congr (fun j l hj hl => by
    unfold upd setF
    by_cases e : j = i
    · rw [if_pos ⟨e, by omega⟩, if_pos e]
    · rw [if_neg (fun h => e h.1), if_neg e])

theorem Fin0.putF {cost' : Int} {bv' : Value} {ls' : Int} {fd' : Bool} (h : Fin0 E w p md cost bv ls fd) (ok : E.Ok) (i : Nat) (u : Value) (he : (E.cells cost bv ls fd).setIfInBounds i u = E.cells cost' bv' ls' fd') :
    Fin0 E (w.setCell ⟨E.F, i, none⟩ u) p md cost' bv' ls' fd' ∧ But E.X w (w.setCell ⟨E.F, i, none⟩ u) := by
  have hb := (But.refl E.X w).setCell (p := ⟨E.F, i, none⟩) (.inl rfl) u
  refine ⟨⟨h.fix.keep hb (fun k hk => hk.2), ?_, h.plies.far (p := ⟨E.F, i, none⟩) (fun e => ok.Fp (Option.some.inj e).symm) _, h.made.far (p := ⟨E.F, i, none⟩) (fun e => ok.Fm (Option.some.inj e).symm) _⟩, hb⟩
  rw [← he]
  exact h.blk.put i u

/-- The finder's fields. -/
theorem Fin0.fields (h : Fin0 E w p md cost bv ls fd) :
    w.cell? ⟨E.F, 0, none⟩ = some (.slice E.Ao E.S E.co) ∧ w.cell? ⟨E.F, 1, none⟩ = some (.slice E.A E.m E.cM) ∧ w.cell? ⟨E.F, 2, none⟩ = some (.int .i64 E.over) ∧ w.cell? ⟨E.F, 3, none⟩ = some (.int .i64 E.most) ∧
    w.cell? ⟨E.F, 4, none⟩ = some (.slice (some ⟨E.gp, 0, none⟩) E.m E.m) ∧ w.cell? ⟨E.F, 5, none⟩ = some (.slice (some ⟨E.gm, 0, none⟩) E.S E.S) ∧ w.cell? ⟨E.F, 6, none⟩ = some (.int .i64 cost) ∧
    w.cell? ⟨E.F, 7, none⟩ = some (.slice (some ⟨E.gr, 0, none⟩) (E.m + 1) (E.m + 1)) ∧ w.cell? ⟨E.F, 8, none⟩ = some (.slice (some ⟨E.gt, 0, none⟩) E.S E.S) ∧ w.cell? ⟨E.F, 9, none⟩ = some bv ∧
    w.cell? ⟨E.F, 10, none⟩ = some (.int .i64 ls) ∧ w.cell? ⟨E.F, 11, none⟩ = some (.bool fd) ∧ ∀ o, w.frozen? ⟨E.F, o, none⟩ = false :=
  ⟨h.blk.cell 0, h.blk.cell 1, h.blk.cell 2, h.blk.cell 3, h.blk.cell 4, h.blk.cell 5, h.blk.cell 6, h.blk.cell 7, h.blk.cell 8, h.blk.cell 9, h.blk.cell 10, h.blk.cell 11, h.blk.free⟩

theorem Fin0.ply (h : Fin0 E w p md cost bv ls fd) {i : Nat} (hi : i < E.m) : w.cell? ⟨E.gp, i, none⟩ = some (.int .i64 (p i)) ∧ w.frozen? ⟨E.gp, i, none⟩ = false :=
  ⟨h.plies.cells1.2.2.1 i hi, h.plies.cells1.2.2.2 i⟩
theorem Fin0.mad (h : Fin0 E w p md cost bv ls fd) {i : Nat} (hi : i < E.S) : w.cell? ⟨E.gm, i, none⟩ = some (.int .i64 (md i)) ∧ w.frozen? ⟨E.gm, i, none⟩ = false :=
  ⟨h.made.cells1.2.2.1 i hi, h.made.cells1.2.2.2 i⟩

/-- The cells of mix i, and where they lie. -/
theorem Fix.mix (h : Fix E w) {i : Nat} (hi : i < E.m) : ∃ b o, E.A = some ⟨b, o, none⟩ ∧ E.N b ∧ w.cell? ⟨b, o + i * 2, none⟩ = some (.slice (E.mx i).ca (E.mx i).cn (E.mx i).cc) ∧ w.cell? ⟨b, o + i * 2 + 1, none⟩ = some (.int .i64 (E.mx i).len) := by
  obtain ⟨b, o, hA, hN⟩ := h.mixes.addr (by omega)
  have hrow := h.mixes.row (B := w.heap.size) h.N_lt
  rw [hA] at hrow
  obtain ⟨e0, e1⟩ := hrow.at2 hi
  exact ⟨b, o, hA, hN, e0, e1⟩
theorem Fix.count (h : Fix E w) {i s : Nat} (hi : i < E.m) (hs : s < (E.mx i).cn) : ∃ b o, (E.mx i).ca = some ⟨b, o, none⟩ ∧ E.N b ∧ w.cell? ⟨b, o + s, none⟩ = some (.int .i64 ((E.mx i).cnt s)) := by
  obtain ⟨b, o, hA, hN⟩ := (h.counts i hi).addr (by omega)
  have hrow := (h.counts i hi).row (B := w.heap.size) h.N_lt
  rw [hA] at hrow
  exact ⟨b, o, hA, hN, hrow.at1 hs⟩
theorem Fix.order (h : Fix E w) {s : Nat} (hs : s < E.S) : ∃ b o, E.Ao = some ⟨b, o, none⟩ ∧ E.N b ∧ w.cell? ⟨b, o + s, none⟩ = some (.int .i64 (E.ord s)) := by
  obtain ⟨b, o, hA, hN⟩ := h.ints.addr (by omega)
  have hrow := h.ints.row (B := w.heap.size) h.N_lt
  rw [hA] at hrow
  exact ⟨b, o, hA, hN, hrow.at1 hs⟩
theorem RowN.at1 {N : Nat → Prop} {n b off : Nat} {f : Nat → Nat → Value} (h : RowN w N 1 (some ⟨b, off, none⟩) n f) {i : Nat} (hi : i < n) : N b ∧ w.cell? ⟨b, off + i, none⟩ = some (f i 0) := by
  obtain ⟨b', off', hA, hN, hc⟩ := h (by omega)
  injection hA with hA
  injection hA with h1 h2
  subst h1; subst h2
  have := hc i 0 hi (by omega)
  rw [Nat.mul_one, Nat.add_zero] at this
  exact ⟨hN, this⟩
theorem RowN.at0 {N : Nat → Prop} {n b : Nat} {f : Nat → Nat → Value} (h : RowN w N 1 (some ⟨b, 0, none⟩) n f) {i : Nat} (hi : i < n) : N b ∧ w.cell? ⟨b, i, none⟩ = some (f i 0) := by
  have := h.at1 hi
  rwa [Nat.zero_add] at this
theorem Fix.restAt (h : Fix E w) {i s : Nat} (hi : i ≤ E.m) (hs : s < E.S) : E.N E.gr ∧ w.cell? ⟨E.gr, i, none⟩ = some (.slice (some ⟨E.rb i, 0, none⟩) E.S E.S) ∧ E.N (E.rb i) ∧ w.cell? ⟨E.rb i, s, none⟩ = some (.int .i64 (restF (cntM E.mx) E.most E.m s i)) :=
  ⟨(h.rest.at0 (i := i) (by omega)).1, (h.rest.at0 (i := i) (by omega)).2, ((h.rests i hi).at0 hs).1, ((h.rests i hi).at0 hs).2⟩
end

theorem sumN_setP (g : Nat → Int) (p : Plan) (i : Nat) (v : Int) : ∀ n, sumN (fun j => setP p i v j * g j) n = sumN (fun j => p j * g j) n + if i < n then (v - p i) * g i else 0
  | 0 => by simp [sumN]
  | n + 1 => by
    show sumN (fun j => setP p i v j * g j) n + setP p i v n * g n = sumN (fun j => p j * g j) n + p n * g n + _
    rw [sumN_setP g p i v n]
    by_cases h : i = n
    · subst h
      rw [setP_at, if_neg (by omega), if_pos (by omega), Int.sub_mul]
      omega
    · rw [setP_ne p v (fun e => h e.symm)]
      by_cases h2 : i < n
      · rw [if_pos h2, if_pos (by omega)]; omega
      · rw [if_neg h2, if_neg (by omega)]; omega

theorem cost_setP (len : Nat → Int) (p : Plan) {i n : Nat} (v : Int) (h : i < n) : costF len (setP p i v) n = costF len p n + (v - p i) * len i := by
  unfold costF
  rw [sumN_setP len p i v n, if_pos h]
theorem made_setP (cnt : Nat → Nat → Int) (p : Plan) {i n : Nat} (v : Int) (s : Nat) (h : i < n) : madeF cnt (setP p i v) s n = madeF cnt p s n + (v - p i) * cnt i s := by
  unfold madeF
  rw [sumN_setP (fun j => cnt j s) p i v n, if_pos h]

end Go.Proofs.Ytkdpkaidbmjcaaa
