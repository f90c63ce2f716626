/- Small words and laws on worlds that all walks of this seat use. -/
import Derived.WalkKit
import Derived.WalkSpells
import Derived.WalkLawsBesides
import Derived.Lib.Hide
import Derived.BigQuiet
import Derived.Deep.QuietTactic
import Derived.Deep.RegionHeld3
import Derived.Deep.LoopGhost
import Derived.Deep.DeepCutAuto
import Derived.Deep.DrawnRows
import Derived.Outline
namespace Go.Proofs.Ytkdpkaidbmjcaaa
open Go.RowKit

theorem ret_int {k : IntKind} {a b : Int} (h : a = b) : Ending.returned (.int k a) = .returned (.int k b) := by rw [h]
theorem ret_bool {a b : Bool} (h : a = b) : Ending.returned (.bool a) = .returned (.bool b) := by rw [h]

/-- What a call leaves of the memory that was there. -/
theorem kept {W w1 : World} (hb : Below W.heap.size W w1) :
    (∀ b o, b < W.heap.size → w1.cell? ⟨b, o, none⟩ = W.cell? ⟨b, o, none⟩) ∧ (∀ b o, b < W.heap.size → w1.frozen? ⟨b, o, none⟩ = W.frozen? ⟨b, o, none⟩) :=
  ⟨fun b o h => hb.cell (p := ⟨b, o, none⟩) h, fun b o h => hb.frozen (p := ⟨b, o, none⟩) h⟩

theorem below_up {w W w1 : World} (h : Below w.heap.size w W) (h1 : Below W.heap.size W w1) : Below w.heap.size w w1 := h.trans (h1.mono h.size)
theorem below_a1 (w : World) (o1 : Obj) : Below w.heap.size w (w.alloc o1) := (Below.refl _ _).alloc (Nat.le_refl _) _
theorem below_a2 (w : World) (o1 o2 : Obj) : Below w.heap.size w ((w.alloc o1).alloc o2) := (below_a1 w o1).alloc (by simp) _
theorem below_a3 (w : World) (o1 o2 o3 : Obj) : Below w.heap.size w (((w.alloc o1).alloc o2).alloc o3) := (below_a2 w o1 o2).alloc (by simp; omega) _
theorem below_a4 (w : World) (o1 o2 o3 o4 : Obj) : Below w.heap.size w ((((w.alloc o1).alloc o2).alloc o3).alloc o4) := (below_a3 w o1 o2 o3).alloc (by simp; omega) _

theorem cell_box (w : World) (cs : Array Value) (t : TypeId) (i : Nat) : (w.alloc (.cells cs t)).cell? ⟨w.heap.size, i, none⟩ = cs[i]? := by
  show (match (w.heap.push (.cells cs t))[w.heap.size]? with | some (.cells c _ _) => c[i]? | _ => none) = _
  simp

theorem cell_lt (w : World) (o : Obj) (b i : Nat) (h : b < w.heap.size) : (w.alloc o).cell? ⟨b, i, none⟩ = w.cell? ⟨b, i, none⟩ := World.cell?_alloc_lt w o ⟨b, i, none⟩ h

theorem one_box (w : World) (t : TypeId) (a0 a1 : Value) (W : World) (hW : w.alloc (.cells #[a0, a1] t) = W) :
    W.heap.size = w.heap.size + 1 ∧ Below w.heap.size w W ∧ W.cell? ⟨w.heap.size, 0, none⟩ = some a0 ∧ W.cell? ⟨w.heap.size, 1, none⟩ = some a1 := by
  subst hW
  exact ⟨by simp, below_a1 _ _, cell_box _ _ _ _, cell_box _ _ _ _⟩

theorem two_boxes (w : World) (t : TypeId) (a0 a1 b0 b1 : Value) (W : World) (hW : (w.alloc (.cells #[a0, a1] t)).alloc (.cells #[b0, b1] t) = W) :
    W.heap.size = w.heap.size + 2 ∧ Below w.heap.size w W ∧ W.cell? ⟨w.heap.size, 0, none⟩ = some a0 ∧ W.cell? ⟨w.heap.size, 1, none⟩ = some a1 ∧
    W.cell? ⟨w.heap.size + 1, 0, none⟩ = some b0 ∧ W.cell? ⟨w.heap.size + 1, 1, none⟩ = some b1 := by
  subst hW
  refine ⟨by simp, below_a2 _ _ _, ?_, ?_, ?_, ?_⟩ <;> go_simp

/-- Four boxes of two cells, laid one behind the other. -/
theorem four_boxes (w : World) (t : TypeId) (a0 a1 b0 b1 c0 c1 d0 d1 : Value) (W : World)
    (hW : ((((w.alloc (.cells #[a0, a1] t)).alloc (.cells #[b0, b1] t)).alloc (.cells #[c0, c1] t)).alloc (.cells #[d0, d1] t)) = W) :
    W.heap.size = w.heap.size + 4 ∧ Below w.heap.size w W ∧
    W.cell? ⟨w.heap.size, 0, none⟩ = some a0 ∧ W.cell? ⟨w.heap.size, 1, none⟩ = some a1 ∧
    W.cell? ⟨w.heap.size + 1, 0, none⟩ = some b0 ∧ W.cell? ⟨w.heap.size + 1, 1, none⟩ = some b1 ∧
    W.cell? ⟨w.heap.size + 1 + 1, 0, none⟩ = some c0 ∧ W.cell? ⟨w.heap.size + 1 + 1, 1, none⟩ = some c1 ∧
    W.cell? ⟨w.heap.size + 1 + 1 + 1, 0, none⟩ = some d0 ∧ W.cell? ⟨w.heap.size + 1 + 1 + 1, 1, none⟩ = some d1 := by
  subst hW
  refine ⟨by simp, below_a4 _ _ _ _ _, ?_, ?_, ?_, ?_, ?_, ?_, ?_, ?_⟩ <;> go_simp

/-- A world that has grown out of w: below block B it is as w was. -/
structure Ext (B : Nat) (w : World) where
  wx : World
  below : Below B w wx

instance (B : Nat) (w : World) : Nonempty (Ext B w) := ⟨⟨w, Below.refl _ _⟩⟩

theorem Ext.cell {B : Nat} {w : World} (x : Ext B w) {b o : Nat} {v : Value} (hb : b < B) (h : w.cell? ⟨b, o, none⟩ = some v) : x.wx.cell? ⟨b, o, none⟩ = some v :=
  (x.below.cell (p := ⟨b, o, none⟩) hb).trans h

/-- A region that draws its order, whose operations only read, and whose callees may make memory of their own: one walk serves every order. -/
theorem region_ext {P : Program} {id : Nat} {Q : Exit → Act → World → Prop} {a : Act} {w : World} {l : List Oper} (B : Nat)
    (hm : P.follows .mixedOrders = true) (hB : Region.lexB .any l.toArray = true)
    (h : wpQuiet P l.toArray (fun w' => ∃ x : Ext B w, w' = x.wx) (fun a' => ∀ w', (∃ x : Ext B w, w' = x.wx) → Q .normal a' w') l a) : (Code.region id l.toArray true).wp P Q a w :=
  wp_region_quiet (C := fun w' => ∃ x : Ext B w, w' = x.wx) hm hB ⟨⟨w.drew, (Below.refl _ _).drew⟩, rfl⟩ (by simpa using h)

theorem wpList_of_quiet {P : Program} {ops : Array Oper} {C : World → Prop} {Q : Exit → Act → World → Prop} : ∀ (l : List Oper) (a : Act) (w : World), C w →
    wpQuiet P ops C (fun a' => ∀ w', C w' → Q .normal a' w') l a → wpList P ops Q l a w
  | [], _, w, hw, h => h w hw
  | o :: rest, a, w, hw, h => by
    simp only [wpQuiet] at h
    simp only [wpList]
    split
    · rename_i hg
      rw [if_pos hg] at h
      exact .inl (Oper.wp_of_quiet hw (fun a' w' hw' h' => wpList_of_quiet rest a' w' hw' h') h)
    · rename_i hg
      rw [if_neg hg] at h
      exact wpList_of_quiet rest _ w hw h

/-- The same for a region whose order is fixed. -/
theorem plain_ext {P : Program} {id : Nat} {Q : Exit → Act → World → Prop} {a : Act} {w : World} {l : List Oper} (B : Nat)
    (h : wpQuiet P l.toArray (fun w' => ∃ x : Ext B w, w' = x.wx) (fun a' => ∀ w', (∃ x : Ext B w, w' = x.wx) → Q .normal a' w') l a) : (Code.region id l.toArray false).wp P Q a w :=
  wp_region_lit (wpList_of_quiet l a w ⟨⟨w, Below.refl _ _⟩, rfl⟩ h)

theorem calls_ext {P : Program} {f : FuncId} {args : Array Value} {B : Nat} {w : World} {x : Ext B w} {v : Value} (hB : B ≤ w.heap.size)
    (h : Calls P f args x.wx fun e w' => e = .returned v ∧ Below x.wx.heap.size x.wx w') : Calls P f args x.wx fun e w'' => e = .returned v ∧ ∃ y : Ext B w, w'' = y.wx :=
  h.mono fun _ _ ⟨he, hb⟩ => ⟨he, ⟨_, x.below.trans (hb.mono (Nat.le_trans hB x.below.size))⟩, rfl⟩

theorem calls_ext_bool {P : Program} {f : FuncId} {args : Array Value} {B : Nat} {w : World} {x : Ext B w} {v b : Bool} (hB : B ≤ w.heap.size)
    (h : Calls P f args x.wx fun e w' => e = .returned (.bool v) ∧ Below x.wx.heap.size x.wx w') (hv : v = b) : Calls P f args x.wx fun e w'' => e = .returned (.bool b) ∧ ∃ y : Ext B w, w'' = y.wx :=
  hv ▸ calls_ext hB h

theorem calls_ext_same {P : Program} {f : FuncId} {args : Array Value} {B : Nat} {w : World} {x : Ext B w} {v : Value}
    (h : Calls P f args x.wx fun e w' => e = .returned v ∧ x.wx = w') : Calls P f args x.wx fun e w'' => e = .returned v ∧ ∃ y : Ext B w, w'' = y.wx :=
  h.mono fun _ _ ⟨he, hb⟩ => ⟨he, x, hb.symm⟩

theorem cast_mod1 (k n : Nat) : ((k : Int) + 1) % n = (((k + 1) % n : Nat) : Int) := by
  rw [Int.natCast_emod, Int.natCast_add]; rfl
theorem cast_mod2 (k n : Nat) : ((k : Int) + 2) % n = (((k + 2) % n : Nat) : Int) := by
  rw [Int.natCast_emod, Int.natCast_add]; rfl

theorem tmod_cast {k n m j : Nat} (h : (k + j) % n = m) : Int.tmod ((k : Int) + (j : Int)) n = (m : Int) := by
  rw [← h, ← Int.natCast_add]
  exact (Int.ofNat_tmod _ _).symm
theorem emod_cast {k n m j : Nat} (h : (k + j) % n = m) : ((k : Int) + (j : Int)) % n = (m : Int) := by
  rw [← h, Int.natCast_emod, Int.natCast_add]
theorem wrap_cast {n : Int} (h1 : 0 ≤ n) (h2 : n ≤ 1000000000000) : IntKind.i64.wrap n = n := IntWalk.i64_in _ (by omega)

/-- The first index from k on, among m, at which q holds; -1 if there is none. -/
def firstF (q : Nat → Bool) : Nat → Nat → Int
  | 0, _ => -1
  | m + 1, k => if q k then k else firstF q m (k + 1)

theorem firstF_skip (q : Nat → Bool) (n k : Nat) (hk : k ≤ n) (h : ∀ j, j < k → q j = false) : firstF q n 0 = firstF q (n - k) k := by
  induction k with
  | zero => simp
  | succ k ih =>
    rw [ih (by omega) (fun j hj => h j (by omega))]
    obtain ⟨m, hm⟩ : ∃ m, n - k = m + 1 := ⟨n - k - 1, by omega⟩
    rw [hm, show n - (k + 1) = m by omega, firstF, if_neg (by rw [h k (by omega)]; decide)]

theorem firstF_at (q : Nat → Bool) (n k : Nat) (hk : k < n) (h : ∀ j, j < k → q j = false) (hq : q k = true) : firstF q n 0 = k := by
  rw [firstF_skip q n k (by omega) h]
  obtain ⟨m, hm⟩ : ∃ m, n - k = m + 1 := ⟨n - k - 1, by omega⟩
  rw [hm, firstF, if_pos hq]

theorem firstF_none (q : Nat → Bool) (n : Nat) (h : ∀ j, j < n → q j = false) : firstF q n 0 = -1 := by
  rw [firstF_skip q n n (Nat.le_refl _) h, Nat.sub_self, firstF]

theorem firstF_spec (q : Nat → Bool) (n : Nat) : (firstF q n 0 = -1 ∧ ∀ j, j < n → q j = false) ∨ ∃ k, k < n ∧ firstF q n 0 = k ∧ q k = true ∧ ∀ j, j < k → q j = false := by
  have key : ∀ k, k ≤ n → (∀ j, j < k → q j = false) ∨ ∃ i, i < k ∧ q i = true ∧ ∀ j, j < i → q j = false := by
    intro k
    induction k with
    | zero => exact fun _ => .inl (fun j hj => absurd hj (by omega))
    | succ k ih =>
      intro hk
      rcases ih (by omega) with h | ⟨i, hi, h1, h2⟩
      · cases hq : q k with
        | false => exact .inl (fun j hj => by rcases Nat.lt_succ_iff_lt_or_eq.1 hj with h' | rfl; exact h j h'; exact hq)
        | true => exact .inr ⟨k, by omega, hq, h⟩
      · exact .inr ⟨i, by omega, h1, h2⟩
  rcases key n (Nat.le_refl _) with h | ⟨i, hi, h1, h2⟩
  · exact .inl ⟨firstF_none q n h, h⟩
  · exact .inr ⟨i, hi, firstF_at q n i hi h2 h1, h1, h2⟩

/-- Two lists of n and m elements, equal where q says so, are equal. -/
def sameListF (n m : Nat) (q : Nat → Bool) : Bool := decide (n = m ∧ ∀ i, i < n → q i = true)
theorem sameList_true {n : Nat} {q : Nat → Bool} (h : ∀ i, i < n → q i = true) : sameListF n n q = true := decide_eq_true ⟨rfl, h⟩
theorem sameList_len {n m : Nat} {q : Nat → Bool} (h : n ≠ m) : sameListF n m q = false := decide_eq_false fun h' => h h'.1
theorem sameList_at {n k : Nat} {q : Nat → Bool} (hk : k < n) (h : q k = false) : sameListF n n q = false := decide_eq_false fun h' => Bool.noConfusion (h.symm.trans (h'.2 k hk))

/-- Block g is just the cells cs, none of them frozen. -/
def Blk (w : World) (g : Nat) (t : TypeId) (cs : Array Value) : Prop := w.heap[g]? = some (.cells cs t)

section
variable {w w' : World} {g : Nat} {t : TypeId} {cs : Array Value}
theorem Blk.lt (h : Blk w g t cs) : g < w.heap.size := (Array.getElem?_eq_some_iff.1 h).1
theorem Blk.cell (h : Blk w g t cs) (i : Nat) : w.cell? ⟨g, i, none⟩ = cs[i]? := by
  unfold Blk at h
  simp [World.cell?, h]
theorem Blk.free (h : Blk w g t cs) (i : Nat) : w.frozen? ⟨g, i, none⟩ = false := by
  unfold Blk at h
  simp [World.frozen?, h]
theorem Blk.new (w : World) (t : TypeId) (cs : Array Value) : Blk (w.alloc (.cells cs t)) w.heap.size t cs := by
  show (w.heap.push _)[w.heap.size]? = _
  simp
theorem Blk.alloc (h : Blk w g t cs) (o : Obj) : Blk (w.alloc o) g t cs := (Below.heap_alloc w o g h.lt).trans h
theorem Blk.drew (h : Blk w g t cs) : Blk w.drew g t cs := h
theorem Blk.put (h : Blk w g t cs) (i : Nat) (u : Value) : Blk (w.setCell ⟨g, i, none⟩ u) g t (cs.setIfInBounds i u) := by
  unfold Blk at h ⊢
  simp [World.setCell, Array.getElem?_modify, h]
theorem Blk.far (h : Blk w g t cs) {p : Addr} (hp : g ≠ p.block) (u : Value) : Blk (w.setCell p u) g t cs := (Below.heap_setCell w p u g hp).trans h
theorem Blk.keep {B : Nat} (h : Blk w g t cs) (hb : Below B w w') (hg : g < B) : Blk w' g t cs := (hb.block g hg).trans h
theorem Blk.later (h : Blk w g t cs) (hb : Below w.heap.size w w') : Blk w' g t cs := h.keep hb h.lt
end

/-- The least, and the greatest, of f 0 and the first k values. -/
def minTo (f : Nat → Int) : Nat → Int
  | 0 => f 0
  | k + 1 => min (minTo f k) (f k)
def maxTo (f : Nat → Int) : Nat → Int
  | 0 => f 0
  | k + 1 => max (maxTo f k) (f k)
theorem minTo_one (f : Nat → Int) : minTo f 1 = f 0 := by simp [minTo]
theorem maxTo_one (f : Nat → Int) : maxTo f 1 = f 0 := by simp [maxTo]
theorem minTo_bd {f : Nat → Int} {a b : Int} {n : Nat} (h0 : 0 < n) (h : ∀ i, i < n → a ≤ f i ∧ f i ≤ b) : ∀ k, k ≤ n → a ≤ minTo f k ∧ minTo f k ≤ b := by
  intro k
  induction k with
  | zero => exact fun _ => h 0 h0
  | succ k ih =>
    intro hk
    have h1 := ih (by omega)
    have h2 := h k (by omega)
    simp only [minTo]
    omega
theorem maxTo_bd {f : Nat → Int} {a b : Int} {n : Nat} (h0 : 0 < n) (h : ∀ i, i < n → a ≤ f i ∧ f i ≤ b) : ∀ k, k ≤ n → a ≤ maxTo f k ∧ maxTo f k ≤ b := by
  intro k
  induction k with
  | zero => exact fun _ => h 0 h0
  | succ k ih =>
    intro hk
    have h1 := ih (by omega)
    have h2 := h k (by omega)
    simp only [maxTo]
    omega

/-- Two variables of two cells each, made since w: their blocks, known whole. -/
def TwoBlks (w : World) (t : TypeId) (a0 a1 b0 b1 : Value) (v u : Value) (wx : World) : Prop :=
  ∃ ba bb : Nat, v = .pointer (some ⟨ba, 0, none⟩) ∧ u = .pointer (some ⟨bb, 0, none⟩) ∧ w.heap.size ≤ ba ∧ w.heap.size ≤ bb ∧ ba ≠ bb ∧ Below w.heap.size w wx ∧
    Blk wx ba t #[a0, a1] ∧ Blk wx bb t #[b0, b1]

theorem twoBlks_ab (w : World) (t : TypeId) (a0 a1 b0 b1 : Value) :
    TwoBlks w t a0 a1 b0 b1 (.pointer (some ⟨w.heap.size, 0, none⟩)) (.pointer (some ⟨w.heap.size + 1, 0, none⟩)) ((w.alloc (.cells #[a0, a1] t)).alloc (.cells #[b0, b1] t)).drew :=
  ⟨_, _, rfl, rfl, by omega, by omega, by omega, (below_a2 _ _ _).drew, ((Blk.new _ _ _).alloc _).drew, by
    have := (Blk.new (w.alloc (.cells #[a0, a1] t)) t #[b0, b1]).drew
    simpa using this⟩

theorem twoBlks_ba (w : World) (t : TypeId) (a0 a1 b0 b1 : Value) :
    TwoBlks w t a0 a1 b0 b1 (.pointer (some ⟨w.heap.size + 1, 0, none⟩)) (.pointer (some ⟨w.heap.size, 0, none⟩)) ((w.alloc (.cells #[b0, b1] t)).alloc (.cells #[a0, a1] t)).drew :=
  ⟨_, _, rfl, rfl, by omega, by omega, by omega, (below_a2 _ _ _).drew, by
    have := (Blk.new (w.alloc (.cells #[b0, b1] t)) t #[a0, a1]).drew
    simpa using this, ((Blk.new _ _ _).alloc _).drew⟩

theorem put2 {w : World} {g : Nat} {t : TypeId} {a b : Value} (h : Blk w g t #[a, b]) (x y : Value) : Blk ((w.setCell ⟨g, 0, none⟩ x).setCell ⟨g, 1, none⟩ y) g t #[x, y] := (h.put 0 x).put 1 y
theorem far2 {w : World} {g h : Nat} {t : TypeId} {cs : Array Value} (k : Blk w h t cs) (hne : h ≠ g) (x y : Value) : Blk ((w.setCell ⟨g, 0, none⟩ x).setCell ⟨g, 1, none⟩ y) h t cs := (k.far (p := ⟨g, 0, none⟩) hne x).far (p := ⟨g, 1, none⟩) hne y
theorem below_put2 {B : Nat} {w w1 : World} {g : Nat} (h : Below B w w1) (hg : B ≤ g) (x y : Value) : Below B w ((w1.setCell ⟨g, 0, none⟩ x).setCell ⟨g, 1, none⟩ y) :=
  (h.setCell (p := ⟨g, 0, none⟩) hg x).setCell (p := ⟨g, 1, none⟩) hg y

end Go.Proofs.Ytkdpkaidbmjcaaa
