/- newFinder. -/
import Derived.Test.YtkdpkaidbmjcaaaLayQ
import Derived.Deep.AppendLies
import Derived.Deep.RegionLaw
namespace Go.Proofs.Ytkdpkaidbmjcaaa
open Go.RowKit
set_option linter.unusedSimpArgs false
set_option linter.unusedVariables false

theorem ints_info : (Try.prog.info? 22).map (fun i => (i.zero, i.size, i.bytes)) = some (some (.slice none 0 0), 1, 24) := by kernel_rfl

/-- Behind the makes of plies and made, in whichever order. -/
def TwoRows (W : World) (F m S : Nat) (cs : Value → Value → Array Value) (wc : World) : Prop :=
  ∃ gp gm, W.heap.size ≤ gp ∧ W.heap.size ≤ gm ∧ gp ≠ gm ∧ Blk wc F 49 (cs (.slice (some ⟨gp, 0, none⟩) m m) (.slice (some ⟨gm, 0, none⟩) S S)) ∧
    Owned wc W.heap.size 3 1 (.slice (some ⟨gp, 0, none⟩) m m) m (fun _ _ => .int .i64 0) ∧ Owned wc W.heap.size 3 1 (.slice (some ⟨gm, 0, none⟩) S S) S (fun _ _ => .int .i64 0) ∧ But (fun k => k = F) W wc

theorem size_two (W : World) (F a b : Nat) (u v : Value) : ((W.setCell ⟨F, a, none⟩ u).setCell ⟨F, b, none⟩ v).heap.size = W.heap.size := by simp

section
variable {W : World} {F m S : Nat} {cs : Value → Value → Array Value} {u v : Value}
theorem twoRows_ab (kF : Blk W F 49 (cs u v)) (hcs : ∀ a b, (((cs u v).setIfInBounds 4 a).setIfInBounds 5 b) = cs a b) (hm : m ≤ 1000) (hS : S ≤ 1000) :
    TwoRows W F m S cs ((((W.setCell ⟨F, 4, none⟩ (.slice (some ⟨W.heap.size, 0, none⟩) m m)).setCell ⟨F, 5, none⟩ (.slice (some ⟨W.heap.size + 1, 0, none⟩) S S)).alloc (.cells (madeCells #[.int .i64 0] m) 3)).alloc (.cells (madeCells #[.int .i64 0] S) 3)).drew := by
  have hs := size_two W F 4 5 (.slice (some ⟨W.heap.size, 0, none⟩) m m) (.slice (some ⟨W.heap.size + 1, 0, none⟩) S S)
  have kF2 := (kF.put 4 (.slice (some ⟨W.heap.size, 0, none⟩) m m)).put 5 (.slice (some ⟨W.heap.size + 1, 0, none⟩) S S)
  rw [hcs] at kF2
  have hb := ((But.refl (fun k => k = F) W).setCell (p := ⟨F, 4, none⟩) rfl (.slice (some ⟨W.heap.size, 0, none⟩) m m)).setCell (p := ⟨F, 5, none⟩) rfl (.slice (some ⟨W.heap.size + 1, 0, none⟩) S S)
  generalize World.setCell (World.setCell W _ _) _ _ = W2 at hs kF2 hb ⊢
  have o1 := Owned.made W2 (.int .i64 0) m 3 (by simp only [maxLen]; omega)
  have o2 := Owned.made (W2.alloc (.cells (madeCells #[.int .i64 0] m) 3)) (.int .i64 0) S 3 (by simp only [maxLen]; omega)
  have hs2 : (W2.alloc (.cells (madeCells #[.int .i64 0] m) 3)).heap.size = W.heap.size + 1 := by simp [hs]
  rw [hs] at o1
  rw [hs2] at o2
  exact ⟨W.heap.size, W.heap.size + 1, by omega, by omega, by omega, ((kF2.alloc _).alloc _).drew, (o1.alloc _).drew, (o2.mono (by omega)).drew, ((hb.alloc _).alloc _).drew⟩
theorem twoRows_ba (kF : Blk W F 49 (cs u v)) (hcs : ∀ a b, (((cs u v).setIfInBounds 4 a).setIfInBounds 5 b) = cs a b) (hm : m ≤ 1000) (hS : S ≤ 1000) :
    TwoRows W F m S cs ((((W.setCell ⟨F, 4, none⟩ (.slice (some ⟨W.heap.size + 1, 0, none⟩) m m)).setCell ⟨F, 5, none⟩ (.slice (some ⟨W.heap.size, 0, none⟩) S S)).alloc (.cells (madeCells #[.int .i64 0] S) 3)).alloc (.cells (madeCells #[.int .i64 0] m) 3)).drew := by
  have hs := size_two W F 4 5 (.slice (some ⟨W.heap.size + 1, 0, none⟩) m m) (.slice (some ⟨W.heap.size, 0, none⟩) S S)
  have kF2 := (kF.put 4 (.slice (some ⟨W.heap.size + 1, 0, none⟩) m m)).put 5 (.slice (some ⟨W.heap.size, 0, none⟩) S S)
  rw [hcs] at kF2
  have hb := ((But.refl (fun k => k = F) W).setCell (p := ⟨F, 4, none⟩) rfl (.slice (some ⟨W.heap.size + 1, 0, none⟩) m m)).setCell (p := ⟨F, 5, none⟩) rfl (.slice (some ⟨W.heap.size, 0, none⟩) S S)
  generalize World.setCell (World.setCell W _ _) _ _ = W2 at hs kF2 hb ⊢
  have o1 := Owned.made W2 (.int .i64 0) S 3 (by simp only [maxLen]; omega)
  have o2 := Owned.made (W2.alloc (.cells (madeCells #[.int .i64 0] S) 3)) (.int .i64 0) m 3 (by simp only [maxLen]; omega)
  have hs2 : (W2.alloc (.cells (madeCells #[.int .i64 0] S) 3)).heap.size = W.heap.size + 1 := by simp [hs]
  rw [hs] at o1
  rw [hs2] at o2
  exact ⟨W.heap.size + 1, W.heap.size, by omega, by omega, by omega, ((kF2.alloc _).alloc _).drew, (o2.mono (by omega)).drew, (o1.alloc _).drew, ((hb.alloc _).alloc _).drew⟩
end

section
variable (W1 : World) (gr m S : Nat) (mx : Nat → MixM) (most : Int)

/-- The rows of rest from k on are filled. -/
def RestW (k : Nat) (w : World) : Prop := ∃ rb : Nat → Nat,
  Owned w gr 22 1 (.slice (some ⟨gr, 0, none⟩) (m + 1) (m + 1)) (m + 1) (fun i _ => if k ≤ i then .slice (some ⟨rb i, 0, none⟩) S S else .slice none 0 0) ∧
  (∀ i, k ≤ i → i ≤ m → W1.heap.size ≤ rb i ∧ Owned w W1.heap.size 3 1 (.slice (some ⟨rb i, 0, none⟩) S S) S (fun s _ => .int .i64 (restF (cntM mx) most m s i))) ∧
  But (fun b => b = gr) W1 w

/-- The rows of rest behind k are filled, row k holds f. -/
structure RestP (rb : Nat → Nat) (k : Nat) (f : Nat → Int) (w : World) : Prop where
  top : Owned w gr 22 1 (.slice (some ⟨gr, 0, none⟩) (m + 1) (m + 1)) (m + 1) (fun i _ => if k ≤ i then .slice (some ⟨rb i, 0, none⟩) S S else .slice none 0 0)
  rows : ∀ i, k < i → i ≤ m → rb i ≠ rb k ∧ W1.heap.size ≤ rb i ∧ Owned w W1.heap.size 3 1 (.slice (some ⟨rb i, 0, none⟩) S S) S (fun s _ => .int .i64 (restF (cntM mx) most m s i))
  new : W1.heap.size ≤ rb k
  row : Owned w W1.heap.size 3 1 (.slice (some ⟨rb k, 0, none⟩) S S) S (fun s _ => .int .i64 (f s))
  but : But (fun b => b = gr) W1 w
end

section
variable {W1 w : World} {gr m S : Nat} {mx : Nat → MixM} {most : Int} {rb : Nat → Nat} {k : Nat} {f : Nat → Int}

theorem RestW.start (h : Owned W1 gr 22 1 (.slice (some ⟨gr, 0, none⟩) (m + 1) (m + 1)) (m + 1) (fun _ _ => .slice none 0 0)) : RestW W1 gr m S mx most (m + 1) W1 :=
  ⟨fun _ => 0, h.congr (fun i j hi _ => by rw [if_neg (by omega)]), fun i h1 h2 => absurd h1 (by omega), But.refl _ _⟩

theorem RestW.make (h : RestW W1 gr m S mx most (k + 1) w) (hk : k ≤ m) (hgr : gr < W1.heap.size) (hS : S ≤ 1000) :
    ∃ rb, rb k = w.heap.size ∧ RestP W1 gr m S mx most rb k (fun _ => 0) ((w.setCell ⟨gr, k, none⟩ (.slice (some ⟨w.heap.size, 0, none⟩) S S)).alloc (.cells (madeCells #[.int .i64 0] S) 3)).drew := by
  obtain ⟨rb, h1, h2, h3⟩ := h
  have hsz := h3.size
  refine ⟨fun i => if i = k then w.heap.size else rb i, if_pos rfl, ?_⟩
  have hs : (w.setCell ⟨gr, k, none⟩ (.slice (some ⟨w.heap.size, 0, none⟩) S S)).heap.size = w.heap.size := by simp
  have o := Owned.made (w.setCell ⟨gr, k, none⟩ (.slice (some ⟨w.heap.size, 0, none⟩) S S)) (.int .i64 0) S 3 (by simp only [maxLen]; omega)
  rw [hs] at o
  refine ⟨?_, fun i hki hi => ?_, ?_, ?_, ?_⟩
  · refine (((h1.put1 (k := k) (.slice (some ⟨w.heap.size, 0, none⟩) S S)).alloc _).drew).congr (fun i l hi hl => ?_)
    unfold upd
    by_cases e : i = k
    · rw [if_pos ⟨e, by omega⟩, if_pos (by omega), if_pos e]
    · rw [if_neg (fun h => e h.1), if_neg e]
      by_cases e2 : k ≤ i
      · rw [if_pos e2]
        exact if_pos (by omega)
      · rw [if_neg e2]
        exact if_neg (by omega)
  · obtain ⟨g1, g2⟩ := h2 i (by omega) hi
    have g3 := (g2.lt (rb i) rfl).2
    simp only []
    rw [if_neg (by omega), if_pos trivial]
    exact ⟨by omega, g1, ((g2.far (p := ⟨gr, k, none⟩) (fun e => by have : rb i = gr := Option.some.inj e; omega) _).alloc _).drew⟩
  · simp only []
    rw [if_pos trivial]
    omega
  · simp only []
    rw [if_pos trivial]
    exact (o.mono hsz).drew
  · exact ((h3.setCell (p := ⟨gr, k, none⟩) rfl _).alloc _).drew

theorem RestP.put (h : RestP W1 gr m S mx most rb k f w) (hgr : gr < W1.heap.size) (s : Nat) (v : Int) : RestP W1 gr m S mx most rb k (setF f s v) (w.setCell ⟨rb k, s, none⟩ (.int .i64 v)) := by
  have hn := h.new
  refine ⟨h.top.far (p := ⟨rb k, s, none⟩) (fun e => by have : gr = rb k := Option.some.inj e; omega) _, fun i h1 h2 => ?_, h.new, ?_, h.but.setNew (p := ⟨rb k, s, none⟩) h.new _⟩
  · obtain ⟨g1, g2, g3⟩ := h.rows i h1 h2
    exact ⟨g1, g2, g3.far (p := ⟨rb k, s, none⟩) (fun e => g1 (Option.some.inj e)) _⟩
  · exact (h.row.put1 (k := s) (.int .i64 v)).congr (fun j l hj hl => by
      unfold upd setF
      by_cases e : j = s
      · rw [if_pos ⟨e, by omega⟩, if_pos e]
      · rw [if_neg (fun h => e h.1), if_neg e])

theorem RestP.drew (h : RestP W1 gr m S mx most rb k f w) : RestP W1 gr m S mx most rb k f w.drew :=
  ⟨h.top.drew, fun i h1 h2 => ⟨(h.rows i h1 h2).1, (h.rows i h1 h2).2.1, (h.rows i h1 h2).2.2.drew⟩, h.new, h.row.drew, h.but.drew⟩

theorem RestP.congr {g : Nat → Int} (h : RestP W1 gr m S mx most rb k f w) (he : ∀ s, s < S → f s = g s) : RestP W1 gr m S mx most rb k g w :=
  ⟨h.top, h.rows, h.new, h.row.congr (fun s _ hs _ => by rw [he s hs]), h.but⟩

theorem RestP.done (h : RestP W1 gr m S mx most rb k f w) (he : ∀ s, s < S → f s = restF (cntM mx) most m s k) : RestW W1 gr m S mx most k w := by
  refine ⟨rb, h.top, fun i h1 h2 => ?_, h.but⟩
  by_cases e : i = k
  · subst e
    exact ⟨h.new, h.row.congr (fun s _ hs _ => by rw [he s hs])⟩
  · exact (h.rows i (by omega) h2).2
end

theorem rest_last (cnt : Nat → Nat → Int) (most : Int) (m s : Nat) : restF cnt most m s m = 0 := by unfold restF; rw [Nat.sub_self]; rfl
theorem rest_step (cnt : Nat → Nat → Int) (most : Int) {m s i : Nat} (hi : i < m) : restF cnt most m s i = restF cnt most m s (i + 1) + most * cnt i s := by
  unfold restF
  obtain ⟨d, hd⟩ : ∃ d, m - i = 1 + d := ⟨m - i - 1, by omega⟩
  rw [hd, sumN_split, show m - (i + 1) = d by omega]
  show (0 + most * cnt (i + 0) s) + _ = _
  rw [Nat.add_zero, Int.zero_add, Int.add_comm]
  congr 1
  exact sumN_congr fun j _ => by rw [show i + (1 + j) = i + 1 + j by omega]

/-- What is in row i of rest behind t sizes. -/
def fillF (f : Nat → Int) (t s : Nat) : Int := if s < t then f s else 0
theorem fill_upd (f : Nat → Int) (t s : Nat) : fillF f (t + 1) s = setF (fillF f t) t (f t) s := by
  unfold setF fillF
  by_cases h : s = t
  · subst h
    rw [if_pos rfl, if_pos (by omega)]
  · rw [if_neg h]
    show (if s < t + 1 then f s else 0) = if s < t then f s else 0
    by_cases h2 : s < t
    · rw [if_pos h2, if_pos (by omega)]
    · rw [if_neg h2, if_neg (by omega)]

theorem rest_bd2 {m s : Nat} {mx : Nat → MixM} {most : Int} (hg : GoodM m mx) (h0 : 0 ≤ most) (h1 : most ≤ 40) (hs : s < sizesF m mx) (i : Nat) : 0 ≤ restF (cntM mx) most m s i ∧ restF (cntM mx) most m s i ≤ 1440 := by
  unfold restF
  have key : ∀ n, n ≤ m - i → 0 ≤ sumN (fun d => most * cntM mx (i + d) s) n ∧ sumN (fun d => most * cntM mx (i + d) s) n ≤ 240 * (n : Int) := by
    intro n
    induction n with
    | zero => exact fun _ => ⟨Int.le_refl _, Int.le_refl _⟩
    | succ n ih =>
      intro hn
      have g1 := ih (by omega)
      obtain ⟨c1, c2⟩ := hg.cnt (i + n) s (by omega) hs
      obtain ⟨g2, g3⟩ := mul_bd h0 h1 c1 c2
      show 0 ≤ sumN _ n + most * (mx (i + n)).cnt s ∧ sumN _ n + most * (mx (i + n)).cnt s ≤ _
      omega
  have := key _ (Nat.le_refl _)
  have := hg.m6
  omega

/-- What a row of rates is. -/
def RateOk (m : Nat) (mx : Nat → MixM) (s : Nat) (R : List Nat) : Prop := R.Nodup ∧ (∀ k, k ∈ R ↔ k < m ∧ 0 < (mx k).cnt s) ∧ Asc (pairsF (cntM mx) (lenM mx) s R)

theorem asc_of (mx : Nat → MixM) (s : Nat) : ∀ L : List Nat, L.Pairwise (leM mx s) → Asc (pairsF (cntM mx) (lenM mx) s L)
  | [], _ => trivial
  | k :: r, h => by
    obtain ⟨h1, h2⟩ := List.pairwise_cons.1 h
    refine ⟨fun x hx => ?_, asc_of mx s r h2⟩
    obtain ⟨j, hj, rfl⟩ := List.mem_map.1 hx
    exact h1 j hj

theorem arr_list {m s n : Nat} {mx : Nat → MixM} {g : Nat → Nat} (hA : Arr (fun x => x < m ∧ 0 < (mx x).cnt s) n g) (hs : SortedBut (leM mx s) g (n - 1) n) : RateOk m mx s ((List.range n).map g) := by
  refine ⟨?_, fun k => ?_, asc_of mx s _ ?_⟩
  · rw [List.nodup_iff_pairwise_ne, List.pairwise_map]
    refine List.Pairwise.imp_of_mem (R := fun a b => a < b) ?_ List.pairwise_lt_range
    intro a b ha hb hab he
    have := hA.inj a b (List.mem_range.1 ha) (List.mem_range.1 hb) he
    omega
  · rw [hA.mem k, List.mem_map]
    constructor
    · rintro ⟨a, ha, rfl⟩; exact ⟨a, List.mem_range.1 ha, rfl⟩
    · rintro ⟨a, ha, rfl⟩; exact ⟨a, List.mem_range.2 ha, rfl⟩
  · rw [List.pairwise_map]
    refine List.Pairwise.imp_of_mem (R := fun a b => a < b) ?_ List.pairwise_lt_range
    intro a b ha hb hab
    have hb' := List.mem_range.1 hb
    exact hs a b hab (by omega) (by omega)

theorem range_get {n j : Nat} (g : Nat → Nat) (hj : j < n) : ((List.range n).map g)[j]?.getD 0 = g j := by
  rw [List.getElem?_map, List.getElem?_range hj]
  rfl

section
variable (W3 : World) (gt S m : Nat) (mx : Nat → MixM)
/-- The first k rows of rates are filled. -/
def RateW (k : Nat) (w : World) : Prop := ∃ (ta : Nat → Option Addr) (tc : Nat → Nat) (R : Nat → List Nat),
  Owned w gt 22 1 (.slice (some ⟨gt, 0, none⟩) S S) S (fun s _ => if s < k then .slice (ta s) (R s).length (tc s) else .slice none 0 0) ∧
  (∀ s, s < k → RateOk m mx s (R s) ∧ Owned w W3.heap.size 3 1 (.slice (ta s) (R s).length (tc s)) (R s).length (fun j _ => .int .i64 (((R s)[j]?.getD 0 : Nat) : Int))) ∧
  But (fun b => b = gt) W3 w

/-- Row k of rates holds v; the rows before it are as old says. -/
structure RateP (W5 : World) (old : Nat → Value) (k i : Nat) (n : Nat) (g : Nat → Nat) (v : Value) (w : World) : Prop where
  top : Owned w gt 22 1 (.slice (some ⟨gt, 0, none⟩) S S) S (fun s _ => if s < k then old s else if s = k then v else .slice none 0 0)
  row : Owned w W5.heap.size 3 1 v n (fun j _ => .int .i64 ((g j : Nat) : Int))
  arr : Arr (fun x => x < i ∧ 0 < (mx x).cnt k) n g
  le : n ≤ i
  but : But (fun b => b = gt) W5 w
end

theorem RateP.later {gt S : Nat} {mx : Nat → MixM} {W5 w w' : World} {old : Nat → Value} {k i n : Nat} {g : Nat → Nat} {v : Value} (h : RateP gt S mx W5 old k i n g v w) (hb : Below w.heap.size w w') : RateP gt S mx W5 old k i n g v w' :=
  ⟨h.top.later hb, h.row.later hb, h.arr, h.le, h.but.then hb⟩

theorem Arr.push {P Q : Nat → Prop} {n x : Nat} {g : Nat → Nat} (h : Arr P n g) (hx : ¬ P x) (hQ : ∀ y, Q y ↔ P y ∨ y = x) : Arr Q (n + 1) (fun j => if j < n then g j else x) := by
  have hne : ∀ a, a < n → g a ≠ x := fun a ha e => hx ((h.mem x).2 ⟨a, ha, e⟩)
  refine ⟨fun a b ha hb he => ?_, fun y => ?_⟩
  · replace he : (if a < n then g a else x) = if b < n then g b else x := he
    by_cases h1 : a < n
    · rw [if_pos h1] at he
      by_cases h2 : b < n
      · rw [if_pos h2] at he; exact h.inj a b h1 h2 he
      · rw [if_neg h2] at he; exact absurd he (hne a h1)
    · rw [if_neg h1] at he
      by_cases h2 : b < n
      · rw [if_pos h2] at he; exact absurd he.symm (hne b h2)
      · omega
  · rw [hQ]
    constructor
    · rintro (hp | rfl)
      · obtain ⟨a, ha, rfl⟩ := (h.mem y).1 hp
        exact ⟨a, by omega, if_pos ha⟩
      · exact ⟨n, by omega, if_neg (by omega)⟩
    · rintro ⟨a, ha, he⟩
      replace he : (if a < n then g a else x) = y := he
      by_cases h1 : a < n
      · rw [if_pos h1] at he; exact .inl ((h.mem y).2 ⟨a, h1, he⟩)
      · rw [if_neg h1] at he; exact .inr he.symm

theorem Arr.congr {P Q : Nat → Prop} {n : Nat} {g : Nat → Nat} (h : Arr P n g) (hQ : ∀ y, Q y ↔ P y) : Arr Q n g := ⟨h.inj, fun x => (hQ x).trans (h.mem x)⟩

theorem But.trans2 {X Y : Nat → Prop} {a b c : World} (h : But X a b) (k : But Y b c) (hY : ∀ j, j < a.heap.size → Y j → X j) : But X a c :=
  ⟨k.os.trans h.os, k.tape.trans h.tape, k.output.trans h.output, Nat.le_trans h.size k.size, fun i hi hx => (k.block i (Nat.lt_of_lt_of_le hi h.size) (fun hy => hx (hY i hi hy))).trans (h.block i hi hx)⟩

theorem own_gb {w : World} {base n cB : Nat} {B : Option Addr} {f : Nat → Nat → Value} (h : Owned w base 3 1 (.slice B n cB) n f) : ∃ gb, (0 < n → B = some ⟨gb, 0, none⟩) ∧ base ≤ gb := by
  rcases h.2 with ⟨hv, hn⟩ | ⟨g1, cap, cur, hv, hg, _⟩
  · exact ⟨base, fun h0 => absurd h0 (by omega), Nat.le_refl _⟩
  · injection hv with h1 _ _
    exact ⟨g1, fun _ => h1, hg⟩

theorem RateP.sorted {gt S m : Nat} {mx : Nat → MixM} {W3 wy W5 wx w8 : World} {ta : Nat → Option Addr} {tc : Nat → Nat} {R : Nat → List Nat} {s n cB gb : Nat} {B : Option Addr} {g g' : Nat → Nat}
    (hP : RateP gt S mx W5 (fun s' => .slice (ta s') (R s').length (tc s')) s m n g (.slice B n cB) wx)
    (hRows : ∀ s', s' < s → RateOk m mx s' (R s') ∧ Owned wy W3.heap.size 3 1 (.slice (ta s') (R s').length (tc s')) (R s').length (fun j _ => .int .i64 (((R s')[j]?.getD 0 : Nat) : Int)))
    (hB6 : Below wy.heap.size wy W5) (hBT5 : But (fun b => b = gt) W3 W5) (hgt : gt < W3.heap.size) (hgb : W5.heap.size ≤ gb)
    (hA : Arr (fun x => x < m ∧ 0 < (mx x).cnt s) n g') (hS : SortedBut (leM mx s) g' (n - 1) n) (hO : Owned w8 W5.heap.size 3 1 (.slice B n cB) n (fun j _ => .int .i64 (g' j : Nat))) (hb : But (fun k => k = gb) wx.drew w8) :
    RateW W3 gt S m mx (s + 1) w8 := by
  have hs35 := hBT5.size
  have hb8 : But (fun b => b = gt) W5 w8 := (hP.but.drew).trans2 hb (fun j hj e => by omega)
  refine ⟨fun s' => if s' = s then B else ta s', fun s' => if s' = s then cB else tc s', fun s' => if s' = s then (List.range n).map g' else R s', ?_, fun s' hs' => ?_, hBT5.trans2 hb8 (fun j hj e => e)⟩
  · refine (hP.top.drew.but hb (fun k hk e => by have : gt = k := Option.some.inj hk; omega)).congr (fun s' l hs' hl => ?_)
    by_cases h1 : s' = s
    · subst h1
      simp
    · by_cases h2 : s' < s
      · have h3 : s' < s + 1 := by omega
        simp [h1, h2, h3]
      · have h3 : ¬ s' < s + 1 := by omega
        simp [h1, h2, h3]
  · by_cases h1 : s' = s
    · subst h1
      simp only [if_true]
      refine ⟨arr_list hA hS, ?_⟩
      have e : ((List.range n).map g').length = n := by simp
      rw [e]
      exact (hO.mono hs35).congr (fun j l hj hl => by rw [range_get g' hj])
    · simp only [h1, if_false]
      obtain ⟨h2, h3⟩ := hRows s' (by omega)
      have h4 := h3.later hB6
      exact ⟨h2, h4.but hb8 (fun k hk e => by have := (h4.lt k hk).1; omega)⟩

theorem RateP.push {gt S : Nat} {mx : Nat → MixM} {W5 w w1 : World} {old : Nat → Value} {k i n : Nat} {g : Nat → Nat} {v : Value} (h : RateP gt S mx W5 old k i n g v w) (hgt : gt < W5.heap.size) (hc : 0 < (mx i).cnt k) (gg cap : Nat)
    (hown : w1.ownsRow W5.heap.size 3 1 (.slice (some ⟨gg, 0, none⟩) (n + 1) cap) (n + 1) (cellsOf 1 n (fun j _ => .int .i64 ((g j : Nat) : Int)) ++ [.int .i64 (i : Int)]))
    (hgrow : (w.alloc (.cells #[.int .i64 (i : Int)] 3)).drew.grownBy w1 v.ownBlock) :
    RateP gt S mx W5 old k (i + 1) (n + 1) (fun j => if j < n then g j else i) (.slice (some ⟨gg, 0, none⟩) (n + 1) cap) (w1.setCell ⟨gt, k, none⟩ (.slice (some ⟨gg, 0, none⟩) (n + 1) cap)) := by
  have hrow : Owned w1 W5.heap.size 3 1 (.slice (some ⟨gg, 0, none⟩) (n + 1) cap) (n + 1) (fun j _ => .int .i64 (((if j < n then g j else i) : Nat) : Int)) := by
    unfold Owned
    have e : cellsOf 1 (n + 1) (fun j _ => .int .i64 (((if j < n then g j else i) : Nat) : Int)) = cellsOf 1 n (fun j _ => .int .i64 ((g j : Nat) : Int)) ++ [.int .i64 (i : Int)] := by
      rw [show ([.int .i64 (i : Int)] : List Value) = cellsOf 1 1 (fun _ _ => .int .i64 (i : Int)) from rfl, cellsOf_append]
      refine cellsOf_congr (fun j l hj hl => ?_)
      unfold glue
      by_cases h1 : j < n
      · rw [if_pos h1, if_pos h1]
      · rw [if_neg h1, if_neg h1]
    rw [e]
    exact hown
  have hgg := (hrow.lt gg rfl).1
  have hne : ∀ k, v.ownBlock = some k → W5.heap.size ≤ k := fun k hk => (h.row.lt k hk).1
  refine ⟨?_, hrow.far (p := ⟨gt, k, none⟩) (fun e => by have : gg = gt := Option.some.inj e; omega) _, h.arr.push (fun hx => absurd hx.1 (by omega)) (fun y => ⟨fun ⟨a, b⟩ => ?_, fun hy => ?_⟩), by have := h.le; omega, ?_⟩
  · have t1 := ((h.top.alloc (.cells #[.int .i64 (i : Int)] 3)).drew).grown hgrow (.inr (fun e => by have := hne gt e.symm; omega))
    refine (t1.put1 (k := k) (.slice (some ⟨gg, 0, none⟩) (n + 1) cap)).congr (fun s l hs hl => ?_)
    unfold upd
    by_cases e : s = k
    · rw [if_pos ⟨e, by omega⟩, if_neg (by omega), if_pos e]
    · rw [if_neg (fun h => e h.1)]
      show (if s < k then old s else if s = k then v else .slice none 0 0) = if s < k then old s else if s = k then _ else .slice none 0 0
      rw [if_neg e, if_neg e]
  · rcases Nat.lt_succ_iff_lt_or_eq.1 a with h' | rfl
    · exact .inl ⟨h', b⟩
    · exact .inr rfl
  · rcases hy with hy | rfl
    · exact ⟨by omega, hy.2⟩
    · exact ⟨by omega, hc⟩
  · exact ((((h.but.alloc _).drew).grown hgrow (fun k hk => .inr (hne k hk))).setCell (p := ⟨gt, k, none⟩) rfl _)

/-- A row of the call's own, to be read. -/
theorem Owned.rowN {w : World} {base e n c : Nat} {A : Option Addr} {f : Nat → Nat → Value} {N : Nat → Prop} (h : Owned w base e 1 (.slice A n c) n f) (hN : ∀ g, base ≤ g → g < w.heap.size → (Value.slice A n c).ownBlock = some g → N g) : RowN w N 1 A n f := by
  intro h0
  obtain ⟨g, cap, hv, h1, h2, _, _, hc, _⟩ := h.blk h0
  have hv' := hv
  injection hv with e1 _ _
  refine ⟨g, 0, e1, hN g h1 h2 (by rw [hv']; rfl), fun i j hi hj => ?_⟩
  rw [Nat.zero_add]
  exact hc i j hi hj

/-- What newFinder returns. -/
def NewPost (m S : Nat) (mx : Nat → MixM) (ord : Nat → Int) (over most : Int) (w : World) (e : Ending) (w' : World) : Prop :=
  ∃ E : FEnv, E.m = m ∧ E.S = S ∧ E.mx = mx ∧ E.ord = ord ∧ E.over = over ∧ E.most = most ∧ E.base = w.heap.size ∧ E.Ok ∧ e = .returned (.pointer (some ⟨E.F, 0, none⟩)) ∧ Fin E w' (fun _ => 0) (.slice none 0 0) 0 false ∧ Below w.heap.size w w'

theorem sum_zero (g : Nat → Int) : ∀ n, sumN (fun j => (fun _ => (0 : Int)) j * g j) n = 0
  | 0 => rfl
  | n + 1 => by show sumN _ n + 0 * g n = 0; rw [sum_zero g n]; simp

theorem mkFin {w W W1 wr W3 wy : World} {A Ao : Option Addr} {m cM S co : Nat} {mx : Nat → MixM} {ord : Nat → Int} {over most : Int} {F gp gm gr gt : Nat} (hgm : GoodM m mx) (hS : S = sizesF m mx) (hord : ∀ s, s < S → 0 ≤ ord s ∧ ord s ≤ 1000) (ho0 : 0 ≤ over) (ho1 : over ≤ 1000) (hm0 : 0 ≤ most) (hm1 : most ≤ 40)
    (hi : Ints w Ao S ord) (hq : Mixes w w.heap.size A m mx) (hF : w.heap.size ≤ F) (hFW : F < W.heap.size) (hp0 : W.heap.size ≤ gp) (hq0 : W.heap.size ≤ gm) (hpq : gp ≠ gm) (hgp : gp < gr) (hgm' : gm < gr) (hgrl : gr < W1.heap.size)
    (oP : Owned W1 W.heap.size 3 1 (.slice (some ⟨gp, 0, none⟩) m m) m (fun _ _ => .int .i64 0)) (oM : Owned W1 W.heap.size 3 1 (.slice (some ⟨gm, 0, none⟩) S S) S (fun _ _ => .int .i64 0))
    (hbut : But (fun b => b = gr) W1 wr) (hR : RestW W1 gr m S mx most 0 wr) (hgtr : wr.heap.size ≤ gt) (hb5 : But (fun k => k = F) wr W3) (hgtl : gt < W3.heap.size)
    (kF : Blk W3 F 49 #[.slice Ao S co, .slice A m cM, .int .i64 over, .int .i64 most, .slice (some ⟨gp, 0, none⟩) m m, .slice (some ⟨gm, 0, none⟩) S S, .int .i64 0, .slice (some ⟨gr, 0, none⟩) (m + 1) (m + 1), .slice (some ⟨gt, 0, none⟩) S S, .slice none 0 0, .int .i64 0, .bool false])
    (hb0 : Below w.heap.size w W3) (hT : RateW W3 gt S m mx S wy) : NewPost m S mx ord over most w (.returned (.pointer (some ⟨F, 0, none⟩))) wy := by
  obtain ⟨rb, hr1, hr2, _⟩ := hR
  obtain ⟨ta, tc, R, ht1, ht2, hbt⟩ := hT
  have hs1 := hbut.size
  have hs2 := hb5.size
  have hs3 := hbt.size
  have hbw : Below w.heap.size w wy := hb0.trans (hbt.below (fun k hk => by omega) hb0.size)
  -- all that lies in wr, apart from F, is there still
  have hkeep : But (fun k => k = F ∨ wr.heap.size ≤ k) wr wy := (hb5.weaken (fun k _ h => .inl h)).trans2 hbt (fun j hj e => .inr (by omega))
  have hrl : ∀ i, i ≤ m → rb i < wr.heap.size := fun i hi => ((hr2 i (Nat.zero_le _) hi).2.lt (rb i) rfl).2
  refine ⟨{ m := m, S := S, A := A, cM := cM, mx := mx, Ao := Ao, co := co, ord := ord, over := over, most := most, base := w.heap.size, F := F, gp := gp, gm := gm, gr := gr, gt := gt, rb := rb, ta := ta, tc := tc, R := R, top := wy.heap.size }, rfl, rfl, rfl, rfl, rfl, rfl, rfl, ?_, rfl, ?_, hbw⟩
  · exact ⟨hgm, hS, hord, ho0, ho1, hm0, hm1, hF, by show w.heap.size ≤ gp; omega, by show w.heap.size ≤ gm; omega, by show F ≠ gp; omega, by show F ≠ gm; omega, hpq, by show F < wy.heap.size; omega, by show gp < wy.heap.size; omega, by show gm < wy.heap.size; omega,
      fun s hs => (ht2 s hs).1.1, fun s hs => (ht2 s hs).1.2.1, fun s hs => (ht2 s hs).1.2.2⟩
  · have hN : ∀ k, k < wy.heap.size → k ≠ F → k ≠ gp → k ≠ gm → FEnv.N { m := m, S := S, A := A, cM := cM, mx := mx, Ao := Ao, co := co, ord := ord, over := over, most := most, base := w.heap.size, F := F, gp := gp, gm := gm, gr := gr, gt := gt, rb := rb, ta := ta, tc := tc, R := R, top := wy.heap.size } k :=
      fun k h1 h2 h3 h4 => ⟨h1, fun h => by rcases h with h | h | h <;> contradiction⟩
    refine ⟨⟨Nat.le_refl _, (hi.keep hbw).toN (fun k hk => hN k (by omega) (by omega) (by omega) (by omega)), ((hq.keep hbw).1).toN (fun k hk => hN k (by omega) (by omega) (by omega) (by omega)), fun i hi' => ((hq.keep hbw).2 i hi').toN (fun k hk => hN k (by omega) (by omega) (by omega) (by omega)), ?_, fun i hi' => ?_, ?_, fun s hs => ?_⟩, ?_, ?_, ?_⟩
    · have h1 := hr1.but hkeep (fun k hk e => by have : gr = k := Option.some.inj hk; omega)
      refine (h1.rowN (fun g _ h2 h3 => ?_)).congr (fun i j hi' _ => by rw [if_pos (Nat.zero_le _)])
      have e : gr = g := Option.some.inj h3
      exact hN g h2 (by omega) (by omega) (by omega)
    · obtain ⟨g1, g2⟩ := hr2 i (Nat.zero_le _) hi'
      have := hrl i hi'
      have h1 := g2.but hkeep (fun k hk e => by have : rb i = k := Option.some.inj hk; omega)
      refine h1.rowN (fun g _ h2 h3 => ?_)
      have e : rb i = g := Option.some.inj h3
      exact hN g h2 (by omega) (by omega) (by omega)
    · refine (ht1.rowN (fun g _ h2 h3 => ?_)).congr (fun i j hi' _ => by rw [if_pos hi'])
      have e : gt = g := Option.some.inj h3
      exact hN g h2 (by omega) (by omega) (by omega)
    · exact ((ht2 s hs).2.rowN (fun g h1 h2 h3 => hN g h2 (by omega) (by omega) (by omega)))
    · show Blk wy F 49 (FEnv.cells _ (costF (lenM mx) (fun _ => 0) m) (.slice none 0 0) 0 false)
      have e : costF (lenM mx) (fun _ => 0) m = 0 := sum_zero (lenM mx) m
      rw [e]
      exact kF.but hbt (by omega)
    · have h1 := (oP.but hbut (fun k hk e => by have : gp = k := Option.some.inj hk; omega)).but hkeep (fun k hk e => by have : gp = k := Option.some.inj hk; omega)
      exact h1.mono (by show w.heap.size ≤ W.heap.size; omega)
    · have h1 := (oM.but hbut (fun k hk e => by have : gm = k := Option.some.inj hk; omega)).but hkeep (fun k hk e => by have : gm = k := Option.some.inj hk; omega)
      refine (h1.mono (show w.heap.size ≤ W.heap.size by omega)).congr (fun s _ _ _ => ?_)
      have e : madeF (cntM mx) (fun _ => 0) s m = 0 := sum_zero (fun j => cntM mx j s) m
      rw [e]

set_option maxRecDepth 1000000 in
set_option maxHeartbeats 6400000 in
theorem newFinder_any (A Ao : Option Addr) (m cM S co : Nat) (mx : Nat → MixM) (ord : Nat → Int) (over most : Int) (w : World) (hgm : GoodM m mx) (hS : S = sizesF m mx) (hord : ∀ s, s < S → 0 ≤ ord s ∧ ord s ≤ 1000) (ho0 : 0 ≤ over) (ho1 : over ≤ 1000) (hm0 : 0 ≤ most) (hm1 : most ≤ 40)
    (hi : Ints w Ao S ord) (hq : Mixes w w.heap.size A m mx) :
    Calls Try.prog 26 #[.slice Ao S co, .slice A m cM, .int .i64 over, .int .i64 most] w (NewPost m S mx ord over most w) := by
  have HG := Lib.hid hgm
  have HSZ := Lib.hid hS
  have HI := Lib.hid hi
  have HQ := Lib.hid hq
  have HORD := Lib.hid hord
  have hm6 := hgm.m6
  have hs12 : S ≤ 12 := by rw [hS]; exact hgm.s12
  clear hgm hS hi hq
  have hmk1 := run_make_row' (P := Try.prog) 22 3 (.int .i64 0) 8 Try.underlying22 int_info rfl .i64 .i64 m (by omega) (by omega)
  have hmk2 := run_make_row' (P := Try.prog) 22 3 (.int .i64 0) 8 Try.underlying22 int_info rfl .i64 .i64 S (by omega) (by omega)
  go_enter Try.func26, Try.ntmps26
  go_upto_region 2 with (fail)
  obtain ⟨gx, hgx⟩ : ∃ gx, gx = w.heap.size := ⟨_, rfl⟩
  obtain ⟨F, hF⟩ : ∃ F, F = w.heap.size + 1 := ⟨_, rfl⟩
  have kX := (Blk.new w 23 #[.slice A m cM]).alloc (.cells #[.slice Ao S co, .slice A m cM, .int .i64 over, .int .i64 most, .slice none 0 0, .slice none 0 0, .int .i64 0, .slice none 0 0, .slice none 0 0, .slice none 0 0, .int .i64 0, .bool false] 49)
  have kF := Blk.new (w.alloc (.cells #[.slice A m cM] 23)) 49 #[.slice Ao S co, .slice A m cM, .int .i64 over, .int .i64 most, .slice none 0 0, .slice none 0 0, .int .i64 0, .slice none 0 0, .slice none 0 0, .slice none 0 0, .int .i64 0, .bool false]
  have hbW := below_a2 w (.cells #[.slice A m cM] 23) (.cells #[.slice Ao S co, .slice A m cM, .int .i64 over, .int .i64 most, .slice none 0 0, .slice none 0 0, .int .i64 0, .slice none 0 0, .slice none 0 0, .slice none 0 0, .int .i64 0, .bool false] 49)
  have e1 : (w.alloc (.cells #[.slice A m cM] 23)).heap.size = w.heap.size + 1 := by simp
  rw [e1, ← hF] at kF
  rw [← hgx] at kX
  rw [← hF, ← hgx]
  have hgF : gx < F := by omega
  have hgx0 : w.heap.size ≤ gx := by omega
  generalize hW : (w.alloc _).alloc _ = W at kX kF hbW ⊢
  clear hW e1 hF hgx
  have f4 := kF.cell 4
  have f5 := kF.cell 5
  have z4 := kF.free 4
  have z5 := kF.free 5
  have x0 := kX.cell 0
  simp at f4 f5 x0
  have hFW : F < W.heap.size := kF.lt
  have hFW1 : F < W.heap.size + 1 := by omega
  have hxW : gx < W.heap.size := kX.lt
  have hxW1 : gx < W.heap.size + 1 := by omega
  go_cut [] from 15 to 32 (fun wc => TwoRows W F m S (fun a b => #[.slice Ao S co, .slice A m cM, .int .i64 over, .int .i64 most, a, b, .int .i64 0, .slice none 0 0, .slice none 0 0, .slice none 0 0, .int .i64 0, .bool false]) wc)
  case first =>
    have HKF := Lib.hid kF
    clear kF
    go_region
    all_goals go_wp2_with fail
    all_goals go_meet
    · exact twoRows_ab (cs := fun a b => #[.slice Ao S co, .slice A m cM, .int .i64 over, .int .i64 most, a, b, .int .i64 0, .slice none 0 0, .slice none 0 0, .slice none 0 0, .int .i64 0, .bool false]) HKF.out (fun _ _ => rfl) (by omega) (by omega)
    · exact twoRows_ba (cs := fun a b => #[.slice Ao S co, .slice A m cM, .int .i64 over, .int .i64 most, a, b, .int .i64 0, .slice none 0 0, .slice none 0 0, .slice none 0 0, .int .i64 0, .bool false]) HKF.out (fun _ _ => rfl) (by omega) (by omega)
  case rest =>
    obtain ⟨gp, gm, hp0, hq0, hpq, kF2, oP, oM, hbc⟩ := hcut
    have kX2 := kX.but hbc (by omega)
    have hsz : W.heap.size ≤ wc.heap.size := hbc.size
    have f7 := kF2.cell 7
    have z7 := kF2.free 7
    have x1 := kX2.cell 0
    simp at f7 x1
    clear kX kF f4 f5 z4 z5 x0 hmk1
    have hmk3 := run_make_row' (P := Try.prog) 47 22 (.slice none 0 0) 24 Try.underlying47 ints_info rfl .i64 .i64 (m + 1) (by omega) (by omega)
    rw [show ((m + 1 : Nat) : Int) = (m : Int) + 1 by omega] at hmk3
    have hFc : F < wc.heap.size := kF2.lt
    have hxc : gx < wc.heap.size := kX2.lt
    go_upto_region 4 with (fail)
    obtain ⟨gr, hgr⟩ : ∃ gr, gr = wc.heap.size := ⟨_, rfl⟩
    rw [← hgr]
    have kF3 := (kF2.put 7 (.slice (some ⟨gr, 0, none⟩) (m + 1) (m + 1))).alloc (.cells (madeCells #[.slice none 0 0] (m + 1)) 22)
    simp at kF3
    have kX3 := (kX2.far (p := ⟨F, 7, none⟩) (by simp only []; omega) (.slice (some ⟨gr, 0, none⟩) (m + 1) (m + 1))).alloc (.cells (madeCells #[.slice none 0 0] (m + 1)) 22)
    have oP3 := (oP.far (p := ⟨F, 7, none⟩) (fun e => by have : gp = F := Option.some.inj e; omega) (.slice (some ⟨gr, 0, none⟩) (m + 1) (m + 1))).alloc (.cells (madeCells #[.slice none 0 0] (m + 1)) 22)
    have oM3 := (oM.far (p := ⟨F, 7, none⟩) (fun e => by have : gm = F := Option.some.inj e; omega) (.slice (some ⟨gr, 0, none⟩) (m + 1) (m + 1))).alloc (.cells (madeCells #[.slice none 0 0] (m + 1)) 22)
    have hb3 := (hbc.setCell (p := ⟨F, 7, none⟩) rfl (.slice (some ⟨gr, 0, none⟩) (m + 1) (m + 1))).alloc (.cells (madeCells #[.slice none 0 0] (m + 1)) 22)
    have oR3 := Owned.made (wc.setCell ⟨F, 7, none⟩ (.slice (some ⟨gr, 0, none⟩) (m + 1) (m + 1))) (.slice none 0 0) (m + 1) 22 (by simp only [maxLen]; omega)
    rw [show (wc.setCell ⟨F, 7, none⟩ (.slice (some ⟨gr, 0, none⟩) (m + 1) (m + 1))).heap.size = gr by rw [hgr]; simp] at oR3
    have hgp : gp < gr := by have := (oP.lt gp rfl).2; omega
    have hgm : gm < gr := by have := (oM.lt gm rfl).2; omega
    have hFr : F < gr := by omega
    generalize hW1 : World.alloc _ _ = W1 at kF3 kX3 oP3 oM3 hb3 oR3 ⊢
    clear hW1 kF2 kX2 oP oM hbc f7 z7 x1 hmk3 hgr hsz hFc hxc hFW1 hxW1
    have f7 := kF3.cell 7
    have x1 := kX3.cell 0
    simp at f7 x1
    obtain ⟨-, hgrl, hcell, hfz⟩ := oR3.cells1
    have r0 := hcell m (by omega)
    have y0 := hfz m
    clear hcell hfz
    have hF1 : F < W1.heap.size := kF3.lt
    have hx1 : gx < W1.heap.size := kX3.lt
    have hm' : (m : Int) < m + 1 := by omega
    have hm'' : (0 : Int) ≤ m := by omega
    go_region
    have hR1 : RestW W1 gr m S mx most (m + 1) W1 := RestW.start oR3
    obtain ⟨rb0, -, hR2⟩ := hR1.make (Nat.le_refl _) hgrl (by omega)
    have hR3 := hR2.done (fun s _ => (rest_last _ _ _ _).symm)
    generalize hW2 : World.drew _ = W2 at hR3 ⊢
    have hbW1 : Below w.heap.size w W1 := hbW.trans (hb3.below (fun k hk => by omega) hbW.size)
    have HB3 := Lib.hid hb3
    have HP3 := Lib.hid oP3
    have HM3 := Lib.hid oM3
    clear hW2 hR1 hR2 f7 r0 y0 oR3 hm' hb3 oP3 oM3 x1
    obtain ⟨_, _, _, hbu⟩ := id hR3
    have x1 := (kX3.but hbu (by omega)).cell 0
    simp at x1
    clear hbu
    go_upto_region 6 with (fail)
    clear x1
    go_loopw [10] (fun t wr => ∃ k : Nat, k ≤ m ∧ t = .int .i64 ((k : Int) - 1) ∧ RestW W1 gr m S mx most k wr) (fun t _ => (intOf t + 1).toNat)
    case atStart => exact ⟨m, Nat.le_refl _, rfl, hR3⟩
    case round =>
      clear hR3
      obtain ⟨k, hk, rfl, hR⟩ := hrel
      cases k with
      | succ i =>
        have e1 : (((i + 1 : Nat) : Int) - 1) = (i : Int) := by omega
        rw [e1]
        clear e1
        have hi0 : (0 : Int) ≤ i := by omega
        have him : (i : Int) < m + 1 := by omega
        obtain ⟨rbx, hTop, hRows, hBut⟩ := id hR
        obtain ⟨-, hgl, hcell, hfz⟩ := hTop.cells1
        have r0 := hcell i (by omega)
        have y0 := hfz i
        simp only [show ¬ i + 1 ≤ i by omega, if_false] at r0
        have f7 := (kF3.but hBut (by omega)).cell 7
        simp at f7
        have hFl : F < wr.heap.size := (kF3.but hBut (by omega)).lt
        have hgl' : gr < wr.heap.size := hgl
        clear hcell hfz hTop hRows
        go_upto_region 8 with (fail)
        go_region
        obtain ⟨rb, hrb, hP⟩ := hR.make (by omega) hgrl (by omega)
        generalize hW4 : World.drew _ = W4 at hP ⊢
        have hP2 := hP.congr (g := fillF (fun s => restF (cntM mx) most m s i) 0) (fun s _ => by unfold fillF; rw [if_neg (by omega)])
        clear hW4 hP hR r0 y0 f7 hBut
        rw [← hrb]
        clear hrb
        go_wp2_with fail
        go_loopw [68] (fun t wx => ∃ s : Nat, s ≤ S ∧ t = .int .i64 (s : Int) ∧ RestP W1 gr m S mx most rb i (fillF (fun s => restF (cntM mx) most m s i) s) wx) (fun t _ => S - (intOf t).toNat)
        case atStart => exact ⟨0, Nat.zero_le _, rfl, hP2⟩
        case round =>
          clear hP2
          obtain ⟨wx, hwx'⟩ : ∃ wx, wx = wr := ⟨_, rfl⟩
          subst hwx'
          obtain ⟨s, hs, rfl, hP⟩ := hrel
          by_cases hlt : s < S
          · have HP := Lib.hid hP
            have hsF : s < sizesF m mx := by rw [← HSZ.out]; exact hlt
            have hbx : Below w.heap.size w wx := hbW1.trans (hP.but.below (fun k hk => by omega) hbW1.size)
            have f7 := (kF3.but hP.but (by omega)).cell 7
            have x1 := (kX3.but hP.but (by omega)).cell 0
            simp at f7 x1
            obtain ⟨-, -, hcell, -⟩ := hP.top.cells1
            have r0 := hcell i (by omega)
            have r1 := hcell (i + 1) (by omega)
            simp only [show i ≤ i from Nat.le_refl _, show i ≤ i + 1 by omega, if_true] at r0 r1
            obtain ⟨-, -, hcell2, hfz2⟩ := hP.row.cells1
            have a0 := hcell2 s hlt
            have z0 := hfz2 s
            obtain ⟨-, -, hO3⟩ := hP.rows (i + 1) (by omega) (by omega)
            have a1 := hO3.cells1.2.2.1 s hlt
            obtain ⟨bm, om, rfl, hBm⟩ := HQ.out.1.addr (by omega)
            have hmixes := HQ.out.keep hbx
            obtain ⟨e0, -⟩ := hmixes.at (i := i) (by omega)
            obtain ⟨bc, oc, hca, hBc⟩ := (hmixes.2 i (by omega)).addr (by rw [HG.out.cn i (by omega)]; omega)
            have hrow := hmixes.2 i (by omega)
            rw [hca] at hrow
            have g0 := hrow.at1 (i := s) (by rw [HG.out.cn i (by omega)]; exact hsF)
            rw [hca, HG.out.cn i (by omega), ← HSZ.out] at e0
            obtain ⟨n1, n2⟩ := HG.out.cnt i s (by omega) hsF
            obtain ⟨v1, v2⟩ := mul_bd hm0 hm1 n1 n2
            obtain ⟨b1, b2⟩ := rest_bd2 HG.out hm0 hm1 hsF (i + 1)
            have HST := Lib.hid (rest_step (cntM mx) most (m := m) (s := s) (i := i) (by omega))
            have HFU := Lib.hid (fill_upd (fun s => restF (cntM mx) most m s i) s)
            clear hcell hcell2 hfz2 hrow hca hmixes hO3 hP
            generalize restF (cntM mx) most m s (i + 1) = T at a1 b1 b2 HST
            have wz1 : IntKind.i64.wrap (most * (mx i).cnt s) = most * (mx i).cnt s := wrap_in (by omega) (by omega)
            have wz2 : IntKind.i64.wrap (T + most * (mx i).cnt s) = T + most * (mx i).cnt s := wrap_in (by omega) (by omega)
            have hs0 : (0 : Int) ≤ s := by omega
            have hs1 : (s : Int) < S := by omega
            have hi1 : (0 : Int) ≤ (i : Int) + 1 := by omega
            have hi2 : (i : Int) + 1 < m + 1 := by omega
            have hi3 : (i : Int) < m := by omega
            go_upto_region 12 with (fail)
            have wzi : IntKind.i64.wrap ((i : Int) + 1) = (i : Int) + 1 := wrap_in (by omega) (by omega)
            have hti : ((i : Int) + 1).toNat = i + 1 := by omega
            go_still_tail 31, (by kernel_rfl)
            go_upto_region 13 with (fail)
            have hP3 := (HP.out.put hgrl s (T + most * (mx i).cnt s)).drew
            have hP4 := hP3.congr (g := fillF (fun s => restF (cntM mx) most m s i) (s + 1)) (fun j _ => by rw [HFU.out]; show setF _ s _ j = _; rw [HST.out])
            generalize hW5 : World.drew _ = W5 at hP4 ⊢
            clear hW5 hP3 f7 x1 r0 r1 a0 z0 a1 e0 g0 wz1 wz2 hi1 hi2 wzi hti
            go_wp2_with fail
            go_roundw
            case rel => exact ⟨s + 1, by omega, by go_num, hP4⟩
            case measure => simp [intOf]; omega
          · obtain rfl : s = S := by omega
            have hR2 := hP.done (fun s hs => by unfold fillF; rw [if_pos hs])
            go_wp2_with fail
            go_roundw
            case rel => exact ⟨i, by omega, by go_num, hR2⟩
            case measure => simp [intOf]
      | zero =>
        rw [show (((0 : Nat) : Int) - 1) = -1 from rfl]
        obtain ⟨rbx, hTop, hRows, hBut⟩ := id hR
        have kF4 := kF3.but hBut (by omega)
        have kX4 := kX3.but hBut (by omega)
        have f8 := kF4.cell 8
        have z8 := kF4.free 8
        simp at f8
        have hFl : F < wr.heap.size := kF4.lt
        have hgl' : gr < wr.heap.size := (hTop.lt gr rfl).2
        have HBUT := Lib.hid hBut
        have HR := Lib.hid hR
        clear hTop hRows hR hBut
        have hmk4 := run_make_row' (P := Try.prog) 47 22 (.slice none 0 0) 24 Try.underlying47 ints_info rfl .i64 .i64 S (by omega) (by omega)
        go_upto_region 16 with (fail)
        obtain ⟨gt, hgt⟩ : ∃ gt, gt = wr.heap.size := ⟨_, rfl⟩
        rw [← hgt]
        have kF5 := (kF4.put 8 (.slice (some ⟨gt, 0, none⟩) S S)).alloc (.cells (madeCells #[.slice none 0 0] S) 22)
        simp at kF5
        have kX5 := (kX4.far (p := ⟨F, 8, none⟩) (by simp only []; omega) (.slice (some ⟨gt, 0, none⟩) S S)).alloc (.cells (madeCells #[.slice none 0 0] S) 22)
        have hb5 := ((But.refl (fun k => k = F) wr).setCell (p := ⟨F, 8, none⟩) rfl (.slice (some ⟨gt, 0, none⟩) S S)).alloc (.cells (madeCells #[.slice none 0 0] S) 22)
        have oT := Owned.made (wr.setCell ⟨F, 8, none⟩ (.slice (some ⟨gt, 0, none⟩) S S)) (.slice none 0 0) S 22 (by simp only [maxLen]; omega)
        rw [show (wr.setCell ⟨F, 8, none⟩ (.slice (some ⟨gt, 0, none⟩) S S)).heap.size = gt by rw [hgt]; simp] at oT
        have hgt0 : gr < gt := by omega
        have hgtr : wr.heap.size ≤ gt := by omega
        generalize hW3 : World.alloc _ _ = W3 at kF5 kX5 hb5 oT ⊢
        have hgtl : gt < W3.heap.size := (oT.lt gt rfl).2
        have hT0 : RateW W3 gt S m mx 0 W3 := ⟨fun _ => none, fun _ => 0, fun _ => [], oT.congr (fun i j hi _ => by rw [if_neg (by omega)]), fun s hs => absurd hs (by omega), But.refl _ _⟩
        have hb0 : Below w.heap.size w W3 := (hbW1.trans (HBUT.out.below (fun k hk => by omega) hbW1.size)).trans (hb5.below (fun k hk => by omega) (by have := hbW1.size; have := HBUT.out.size; omega))
        have HB5 := Lib.hid hb5
        clear hW3 kF4 kX4 f8 z8 hb5 oT hmk4 kF3 kX3 hgt
        go_loopw [111] (fun t wx => ∃ s : Nat, s ≤ S ∧ t = .int .i64 (s : Int) ∧ RateW W3 gt S m mx s wx) (fun t _ => S - (intOf t).toNat)
        case atStart => exact ⟨0, Nat.zero_le _, rfl, hT0⟩
        case round =>
          clear hT0
          obtain ⟨wy, hwy'⟩ : ∃ wy, wy = wr := ⟨_, rfl⟩
          subst hwy'
          obtain ⟨s, hs, rfl, hT⟩ := hrel
          by_cases hlt : s < S
          · obtain ⟨ta, tc, R, hTop, hRows, hBt⟩ := hT
            have hsF : s < sizesF m mx := by rw [← HSZ.out]; exact hlt
            have hs0 : (0 : Int) ≤ s := by omega
            have hs1 : (s : Int) < S := by omega
            go_upto_region 18 with (fail)
            obtain ⟨gs, hgs⟩ : ∃ gs, gs = wy.heap.size := ⟨_, rfl⟩
            rw [← hgs]
            have kS := Blk.new wy 3 #[.int .i64 (s : Int)]
            rw [← hgs] at kS
            have hb6 := below_a1 wy (.cells #[.int .i64 (s : Int)] 3)
            have hTop6 := hTop.alloc (.cells #[.int .i64 (s : Int)] 3)
            have HRows := Lib.hid hRows
            generalize hW5 : World.alloc _ _ = W5 at kS hb6 hTop6 ⊢
            have hBt5 : But (fun b => b = gt) W3 W5 := hBt.then hb6
            have kF6 := kF5.but hBt5 (by omega)
            have kX6 := kX5.but hBt5 (by omega)
            have hb05 : Below w.heap.size w W5 := hb0.trans (hBt5.below (fun k hk => by omega) hb0.size)
            have hP0 : RateP gt S mx W5 (fun s' => .slice (ta s') (R s').length (tc s')) s 0 0 (fun _ => 0) (.slice none 0 0) W5 :=
              ⟨hTop6.congr (fun i j hi _ => by
                by_cases h1 : i < s
                · rw [if_pos h1, if_pos h1]
                · rw [if_neg h1, if_neg h1]; split <;> rfl), Owned.nil _ _ _ _ _, ⟨fun a b ha => absurd ha (by omega), fun x => ⟨fun h => absurd h.1 (by omega), fun ⟨a, ha, _⟩ => absurd ha (by omega)⟩⟩, Nat.le_refl _, But.refl _ _⟩
            have hgs5 : gs < W5.heap.size := kS.lt
            have hgtW : gt < W5.heap.size := by have := hBt5.size; omega
            have HBT5 := Lib.hid hBt5
            have HB6 := Lib.hid hb6
            have hgs0 : gt < gs := by have := hBt.size; omega
            clear hW5 hTop hTop6 hRows hBt hb6 hBt5 hgs
            have x5 := kX6.cell 0
            simp at x5
            go_upto_region 19 with (fail)
            clear x5
            go_loopw [116] (fun t wx => ∃ i : Nat, i ≤ m ∧ t = .int .i64 (i : Int) ∧ ∃ n g v, RateP gt S mx W5 (fun s' => .slice (ta s') (R s').length (tc s')) s i n g v wx) (fun t _ => m - (intOf t).toNat)
            case atStart => exact ⟨0, Nat.zero_le _, rfl, _, _, _, hP0⟩
            case round =>
              clear hP0
              obtain ⟨wx, hwx'⟩ : ∃ wx, wx = wr := ⟨_, rfl⟩
              subst hwx'
              obtain ⟨i, hi, rfl, n, g, v, hP⟩ := hrel
              have HP := Lib.hid hP
              have hbx : Below w.heap.size w wx := hb05.trans (hP.but.below (fun k hk => by omega) hb05.size)
              have hszx := hP.but.size
              have hni := hP.le
              obtain ⟨B, cB, rfl, -, -, -⟩ := hP.row.form
              by_cases hli : i < m
              · have hi0 : (0 : Int) ≤ i := by omega
                have hi1 : (i : Int) < m := by omega
                obtain ⟨bm, om, rfl, hBm⟩ := HQ.out.1.addr (by omega)
                have hmixes := HQ.out.keep hbx
                obtain ⟨e0, e1⟩ := hmixes.at (i := i) hli
                obtain ⟨bc, oc, hca, hBc⟩ := (hmixes.2 i hli).addr (by rw [HG.out.cn i hli]; omega)
                have hrow := hmixes.2 i hli
                rw [hca] at hrow
                have g0 := hrow.at1 (i := s) (by rw [HG.out.cn i hli]; exact hsF)
                rw [hca, HG.out.cn i hli, ← HSZ.out] at e0
                clear hrow hca hmixes
                go_upto_region 21 with (fail)
                obtain ⟨gk, hgk⟩ : ∃ gk, gk = wx.heap.size := ⟨_, rfl⟩
                rw [← hgk]
                have kK := Blk.new wx 39 #[.slice (some ⟨bc, oc, none⟩) S (mx i).cc, .int .i64 (mx i).len]
                rw [← hgk] at kK
                have hb7 := below_a1 wx (.cells #[.slice (some ⟨bc, oc, none⟩) S (mx i).cc, .int .i64 (mx i).len] 39)
                have hP7 := HP.out.later hb7
                have kS7 := (kS.but HP.out.but (by omega)).later hb7
                have kF7 := (kF6.but HP.out.but (by omega)).later hb7
                have g7 := (hb7.cell (p := ⟨bc, oc + s, none⟩) (by simp only []; have := hbx.size; omega)).trans g0
                generalize hW7 : World.alloc _ _ = W7 at kK hP7 kS7 kF7 g7 ⊢
                have c0 := kK.cell 0
                have s0 := kS7.cell 0
                simp at c0 s0
                clear hW7 hgk e0 e1 g0 hb7 HP hP hbx
                obtain ⟨n1, n2⟩ := HG.out.cnt i s hli hsF
                by_cases hc : 0 < (mx i).cnt s
                · have f8 := kF7.cell 8
                  simp at f8
                  obtain ⟨-, hgl7, hcell, hfz⟩ := hP7.top.cells1
                  have t0 : W7.cell? ⟨gt, s, none⟩ = some (.slice B n cB) := by
                    have := hcell s hlt
                    rw [if_neg (Nat.lt_irrefl s), if_pos rfl] at this
                    exact this
                  have y0 := hfz s
                  have hFl7 : F < W7.heap.size := kF7.lt
                  have hsl7 : gs < W7.heap.size := kS7.lt
                  have HP7 := Lib.hid hP7
                  have HKS7 := Lib.hid kS7
                  clear hcell hfz hP7
                  have ow : ∀ k, k < W5.heap.size → (Value.slice B n cB).ownBlock ≠ some k := fun k hk e => by have := (HP7.out.row.lt k e).1; omega
                  have aF := ow F (by omega)
                  have aS := ow gs hgs5
                  have aT := ow gt hgtW
                  have HAX := Lib.hid (And.intro aF (And.intro aS aT))
                  have hne1 := World.new_ne W7 ⟨F, 8, none⟩ f8
                  have hne2 := World.new_ne W7 ⟨gs, 0, none⟩ s0
                  have hne3 := World.new_ne W7 ⟨gt, s, none⟩ t0
                  have hF1 : F < W7.heap.size + 1 := by omega
                  have hS1 : gs < W7.heap.size + 1 := by omega
                  have hT1 : gt < W7.heap.size + 1 := by omega
                  have hn7 : n ≤ 6 := by omega
                  have h57 : W5.heap.size ≤ W7.heap.size := HP7.out.but.size
                  obtain ⟨i0, hi0', hz0, hz1, hz2⟩ := info_parts int_info
                  have HI0 := Lib.hid (And.intro hi0' (And.intro hz0 (And.intro hz1 hz2)))
                  have HY := Lib.hid (show (W7.alloc (.cells #[.int .i64 (i : Int)] 3)).drew.frozen? ⟨gt, s, none⟩ = false from (World.frozen?_of_block (w := W7) (Below.heap_alloc W7 _ gt hgl7)).trans y0)
                  have HCC := Lib.hid (show (W7.alloc (.cells #[.int .i64 (i : Int)] 3)).drew.cell? ⟨F, 8, none⟩ = some (.slice (some ⟨gt, 0, none⟩) S S) ∧ (W7.alloc (.cells #[.int .i64 (i : Int)] 3)).drew.cell? ⟨gs, 0, none⟩ = some (.int .i64 (s : Int)) ∧ (W7.alloc (.cells #[.int .i64 (i : Int)] 3)).drew.cell? ⟨gt, s, none⟩ = some (.slice B n cB) from
                    ⟨(cell_lt W7 _ F 8 hFl7).trans f8, (cell_lt W7 _ gs 0 hsl7).trans s0, (cell_lt W7 _ gt s hgl7).trans t0⟩)
                  clear ow aF aS aT hi0' hz0 hz1 hz2
                  go_upto_region 22 with (fail)
                  have hFgt : F ≠ gt := by omega
                  have hSgt : gs ≠ gt := by omega
                  have hgtF : gt ≠ F := by omega
                  have hgtS : gt ≠ gs := by omega
                  refine wp_region_noPanic ?_
                  refine wp_region_held_drew (S := fun w' => w'.cell? ⟨F, 8, none⟩ = some (.slice (some ⟨gt, 0, none⟩) S S) ∧ w'.cell? ⟨gs, 0, none⟩ = some (.int .i64 (s : Int))) (by kernel_rfl) ⟨f8, s0⟩ (fun hHeld => ?_)
                  refine wpAnyH_take (i := 0) (oi := _) (v := ?vv0a) rfl (by kernel_rfl) (by kernel_rfl) (by kernel_rfl) (fun _ _ _ h => h) (Or.inl ⟨by rfl, ?hy0a⟩) (by assumption) ?rest0a
                  case hy0a => (intro w hSw; (try dsimp only at hSw); first | (go_simp; done) | (go_simp; with_reducible rfl))
                  try simp only [Act.put, List.setIfInBounds_toArray, List.set_cons_zero, List.set_cons_succ]
                  refine wpAnyH_take (i := 1) (oi := _) (v := ?vv1a) rfl (by kernel_rfl) (by kernel_rfl) (by kernel_rfl) (fun _ _ _ h => h) (Or.inl ⟨by rfl, ?hy1a⟩) (by assumption) ?rest1a
                  case hy1a => (intro w hSw; (try dsimp only at hSw); first | (go_simp; done) | (go_simp; with_reducible rfl))
                  try simp only [Act.put, List.setIfInBounds_toArray, List.set_cons_zero, List.set_cons_succ]
                  refine wpAnyH_take (i := 2) (oi := _) (v := ?vv2a) rfl (by kernel_rfl) (by kernel_rfl) (by kernel_rfl) (fun _ _ _ h => h) (Or.inl ⟨by rfl, ?hy2a⟩) (by assumption) ?rest2a
                  case hy2a => (intro w hSw; (try dsimp only at hSw); first | (go_simp; done) | (go_simp; with_reducible rfl))
                  try simp only [Act.put, List.setIfInBounds_toArray, List.set_cons_zero, List.set_cons_succ]
                  refine wpAnyH_take (i := 3) (oi := _) (v := ?vv3a) rfl (by kernel_rfl) (by kernel_rfl) (by kernel_rfl) (fun _ _ _ h => h) (Or.inl ⟨by rfl, ?hy3a⟩) (by assumption) ?rest3a
                  case hy3a => (intro w hSw; (try dsimp only at hSw); first | (go_simp; done) | (go_simp; with_reducible rfl))
                  try simp only [Act.put, List.setIfInBounds_toArray, List.set_cons_zero, List.set_cons_succ]
                  refine wpAnyH_take (i := 4) (oi := _) (v := ?vv4a) rfl (by kernel_rfl) (by kernel_rfl) (by kernel_rfl) (fun _ _ _ h => h) (Or.inl ⟨by rfl, ?hy4a⟩) (by assumption) ?rest4a
                  case hy4a => (intro w hSw; (try dsimp only at hSw); first | (go_simp; done) | (go_simp; with_reducible rfl))
                  try simp only [Act.put, List.setIfInBounds_toArray, List.set_cons_zero, List.set_cons_succ]
                  refine wpAnyH_take (i := 5) (oi := _) (v := ?vv5a) rfl (by kernel_rfl) (by kernel_rfl) (by kernel_rfl) (fun _ _ _ h => h) (Or.inl ⟨by rfl, ?hy5a⟩) (by assumption) ?rest5a
                  case hy5a => (intro w hSw; (try dsimp only at hSw); first | (go_simp; done) | (go_simp; with_reducible rfl))
                  try simp only [Act.put, List.setIfInBounds_toArray, List.set_cons_zero, List.set_cons_succ]
                  refine wpAnyH_take (i := 6) (oi := _) (v := ?vv6a) rfl (by kernel_rfl) (by kernel_rfl) (by kernel_rfl) (fun _ _ _ h => h) (Or.inl ⟨by rfl, ?hy6a⟩) (by assumption) ?rest6a
                  case hy6a => (intro w hSw; (try dsimp only at hSw); first | (go_simp; done) | (go_simp; with_reducible rfl))
                  try simp only [Act.put, List.setIfInBounds_toArray, List.set_cons_zero, List.set_cons_succ]
                  refine wpAnyH_take (i := 7) (oi := _) (v := ?vv7a) rfl (by kernel_rfl) (by kernel_rfl) (by kernel_rfl) (fun _ _ _ h => h) (Or.inl ⟨by rfl, ?hy7a⟩) (by assumption) ?rest7a
                  case hy7a => (intro w hSw; (try dsimp only at hSw); first | (go_simp; done) | (go_simp; with_reducible rfl))
                  try simp only [Act.put, List.setIfInBounds_toArray, List.set_cons_zero, List.set_cons_succ]
                  refine wpAnyH_take (i := 8) (oi := _) (v := ?vv8a) rfl (by kernel_rfl) (by kernel_rfl) (by kernel_rfl) (fun _ _ _ h => h) (Or.inl ⟨by rfl, ?hy8a⟩) (by assumption) ?rest8a
                  case hy8a => (intro w hSw; (try dsimp only at hSw); first | (go_simp; done) | (go_simp; with_reducible rfl))
                  try simp only [Act.put, List.setIfInBounds_toArray, List.set_cons_zero, List.set_cons_succ]
                  refine wpAnyH_take (i := 9) (oi := _) (v := ?vv9a) rfl (by kernel_rfl) (by kernel_rfl) (by kernel_rfl) (fun _ _ _ h => h) (Or.inl ⟨by rfl, ?hy9a⟩) (by assumption) ?rest9a
                  case hy9a => (intro w hSw; (try dsimp only at hSw); first | (go_simp; done) | (go_simp; with_reducible rfl))
                  try simp only [Act.put, List.setIfInBounds_toArray, List.set_cons_zero, List.set_cons_succ]
                  refine wpAnyH_take (i := 10) (oi := _) (v := ?vv10a) rfl (by kernel_rfl) (by kernel_rfl) (by kernel_rfl) (fun _ _ _ h => h) (Or.inl ⟨by rfl, ?hy10a⟩) (by assumption) ?rest10a
                  case hy10a => (intro w hSw; (try dsimp only at hSw); first | (go_simp; done) | (go_simp; with_reducible rfl))
                  try simp only [Act.put, List.setIfInBounds_toArray, List.set_cons_zero, List.set_cons_succ]
                  refine wpAnyH_take (i := 12) (oi := _) (v := ?vv12a) rfl (by kernel_rfl) (by kernel_rfl) (by kernel_rfl) (fun _ _ _ h => h) (Or.inl ⟨by rfl, ?hy12a⟩) (by assumption) ?rest12a
                  case hy12a => (intro w hSw; (try dsimp only at hSw); first | (go_simp; done) | (go_simp; with_reducible rfl))
                  try simp only [Act.put, List.setIfInBounds_toArray, List.set_cons_zero, List.set_cons_succ]
                  refine wpAnyH_ready (rs := [11, 13]) (by kernel_rfl) (by simp) ?_
                  refine AllReadyH.cons (o := _) rfl (fun K hK => ?_) (AllReadyH.cons (o := _) rfl (fun K hK => ?_) AllReadyH.nil)
                  · go_simp
                    refine hK.out _ _ (by (try dsimp only); first | go_keep | (refine ⟨?_, ?_⟩ <;> go_simp)) (fun hHeld2 => ?_)
                    clear hK K
                    try simp only [Act.put, List.setIfInBounds_toArray, List.set_cons_zero, List.set_cons_succ]
                    refine wpAnyH_ready (rs := [13]) (by kernel_rfl) (by simp) ?_
                    refine AllReadyH.cons (o := _) rfl (fun K hK => ?_) AllReadyH.nil
                    go_simp
                    refine hK.out _ _ (by (try dsimp only); first | go_keep | (refine ⟨?_, ?_⟩ <;> go_simp)) (fun hHeld2 => ?_)
                    clear hK K
                    try simp only [Act.put, List.setIfInBounds_toArray, List.set_cons_zero, List.set_cons_succ]
                    refine wpAnyH_ready (rs := [14]) (by kernel_rfl) (by simp) ?_
                    refine AllReadyH.cons (o := _) rfl (fun K hK => ?_) AllReadyH.nil
                    (refine step_append_lies _ (by rfl) _ _ _ (by rfl) W5.heap.size 3 i0 _ 1 8 Try.underlying22 HI0.out.1 HI0.out.2.1 HI0.out.2.2.1 HI0.out.2.2.2 rfl (by omega) (.slice B n cB) n (cellsOf 1 n (fun j _ => .int .i64 ((g j : Nat) : Int))) (by rfl) ((HP7.out.row.alloc _).drew) ⟨W7.heap.size, 0, none⟩ 1 1 [.int .i64 (i : Int)] (by rfl) (by rfl) (World.news_of_block (cs := #[.int .i64 (i : Int)]) (t := 3) (fr := (0, 0)) (heap_alloc_new W7 _)) (by simp [Value.oneCell']) (by omega) (by simp only [maxLen]; omega) (by omega) (by simp; omega) (W7.heap.size + 1) (by simp) ?_; intro gg cap w1 hown1 hgrow hat hlt1; have y1 := (World.frozen?_of_block (a := ⟨gt, s, none⟩) (hgrow.block gt (by simp; omega) (Ne.symm HAX.out.2.2))).trans HY.out; have f1 := (World.cell?_of_block (a := ⟨F, 8, none⟩) (hgrow.block F (by simp; omega) (Ne.symm HAX.out.1))).trans HCC.out.1; have s1 := (World.cell?_of_block (a := ⟨gs, 0, none⟩) (hgrow.block gs (by simp; omega) (Ne.symm HAX.out.2.1))).trans HCC.out.2.1; have t1 := (World.cell?_of_block (a := ⟨gt, s, none⟩) (hgrow.block gt (by simp; omega) (Ne.symm HAX.out.2.2))).trans HCC.out.2.2)
                    refine hK.out _ _ (by (try dsimp only); first | go_keep | (refine ⟨?_, ?_⟩ <;> go_simp)) (fun hHeld2 => ?_)
                    clear hK K
                    try simp only [Act.put, List.setIfInBounds_toArray, List.set_cons_zero, List.set_cons_succ]
                    refine wpAnyH_take (i := 15) (oi := _) (v := ?vv15b) rfl (by kernel_rfl) (by kernel_rfl) (by kernel_rfl) (fun _ _ _ h => h) (Or.inl ⟨by rfl, ?hy15b⟩) (by assumption) ?rest15b
                    case hy15b => (intro w hSw; (try dsimp only at hSw); first | (go_simp; done) | (go_simp; with_reducible rfl))
                    try simp only [Act.put, List.setIfInBounds_toArray, List.set_cons_zero, List.set_cons_succ]
                    refine wpAnyH_ready (rs := [16]) (by kernel_rfl) (by simp) ?_
                    refine AllReadyH.cons (o := _) rfl (fun K hK => ?_) AllReadyH.nil
                    go_simp
                    refine hK.out _ _ (by (try dsimp only); first | go_keep | (refine ⟨?_, ?_⟩ <;> go_simp)) (fun hHeld2 => ?_)
                    clear hK K
                    try simp only [Act.put, List.setIfInBounds_toArray, List.set_cons_zero, List.set_cons_succ]
                    refine wpAnyH_done (by kernel_rfl) ?_ _
                    refine NoPanic.normal ?_
                    have hP9 := HP7.out.push hgtW hc gg cap hown1 hgrow
                    generalize hW9 : World.setCell _ _ _ = W9 at hP9 ⊢
                    clear hW9 hHeld2 hHeld hgrow hown1 y1 f1 s1 t1 f8 s0 t0 y0 c0 hne1 hne2 hne3
                    go_wp2_with fail
                    go_roundw
                    case rel => exact ⟨i + 1, by omega, by go_num, _, _, _, hP9⟩
                    case measure => simp [intOf]; omega
                  · go_simp
                    refine hK.out _ _ (by (try dsimp only); first | go_keep | (refine ⟨?_, ?_⟩ <;> go_simp)) (fun hHeld2 => ?_)
                    clear hK K
                    try simp only [Act.put, List.setIfInBounds_toArray, List.set_cons_zero, List.set_cons_succ]
                    refine wpAnyH_ready (rs := [11]) (by kernel_rfl) (by simp) ?_
                    refine AllReadyH.cons (o := _) rfl (fun K hK => ?_) AllReadyH.nil
                    go_simp
                    refine hK.out _ _ (by (try dsimp only); first | go_keep | (refine ⟨?_, ?_⟩ <;> go_simp)) (fun hHeld2 => ?_)
                    clear hK K
                    try simp only [Act.put, List.setIfInBounds_toArray, List.set_cons_zero, List.set_cons_succ]
                    refine wpAnyH_ready (rs := [14]) (by kernel_rfl) (by simp) ?_
                    refine AllReadyH.cons (o := _) rfl (fun K hK => ?_) AllReadyH.nil
                    (refine step_append_lies _ (by rfl) _ _ _ (by rfl) W5.heap.size 3 i0 _ 1 8 Try.underlying22 HI0.out.1 HI0.out.2.1 HI0.out.2.2.1 HI0.out.2.2.2 rfl (by omega) (.slice B n cB) n (cellsOf 1 n (fun j _ => .int .i64 ((g j : Nat) : Int))) (by rfl) ((HP7.out.row.alloc _).drew) ⟨W7.heap.size, 0, none⟩ 1 1 [.int .i64 (i : Int)] (by rfl) (by rfl) (World.news_of_block (cs := #[.int .i64 (i : Int)]) (t := 3) (fr := (0, 0)) (heap_alloc_new W7 _)) (by simp [Value.oneCell']) (by omega) (by simp only [maxLen]; omega) (by omega) (by simp; omega) (W7.heap.size + 1) (by simp) ?_; intro gg cap w1 hown1 hgrow hat hlt1; have y1 := (World.frozen?_of_block (a := ⟨gt, s, none⟩) (hgrow.block gt (by simp; omega) (Ne.symm HAX.out.2.2))).trans HY.out; have f1 := (World.cell?_of_block (a := ⟨F, 8, none⟩) (hgrow.block F (by simp; omega) (Ne.symm HAX.out.1))).trans HCC.out.1; have s1 := (World.cell?_of_block (a := ⟨gs, 0, none⟩) (hgrow.block gs (by simp; omega) (Ne.symm HAX.out.2.1))).trans HCC.out.2.1; have t1 := (World.cell?_of_block (a := ⟨gt, s, none⟩) (hgrow.block gt (by simp; omega) (Ne.symm HAX.out.2.2))).trans HCC.out.2.2)
                    refine hK.out _ _ (by (try dsimp only); first | go_keep | (refine ⟨?_, ?_⟩ <;> go_simp)) (fun hHeld2 => ?_)
                    clear hK K
                    try simp only [Act.put, List.setIfInBounds_toArray, List.set_cons_zero, List.set_cons_succ]
                    refine wpAnyH_take (i := 15) (oi := _) (v := ?vv15c) rfl (by kernel_rfl) (by kernel_rfl) (by kernel_rfl) (fun _ _ _ h => h) (Or.inl ⟨by rfl, ?hy15c⟩) (by assumption) ?rest15c
                    case hy15c => (intro w hSw; (try dsimp only at hSw); first | (go_simp; done) | (go_simp; with_reducible rfl))
                    try simp only [Act.put, List.setIfInBounds_toArray, List.set_cons_zero, List.set_cons_succ]
                    refine wpAnyH_ready (rs := [16]) (by kernel_rfl) (by simp) ?_
                    refine AllReadyH.cons (o := _) rfl (fun K hK => ?_) AllReadyH.nil
                    go_simp
                    refine hK.out _ _ (by (try dsimp only); first | go_keep | (refine ⟨?_, ?_⟩ <;> go_simp)) (fun hHeld2 => ?_)
                    clear hK K
                    try simp only [Act.put, List.setIfInBounds_toArray, List.set_cons_zero, List.set_cons_succ]
                    refine wpAnyH_done (by kernel_rfl) ?_ _
                    refine NoPanic.normal ?_
                    have hP9 := HP7.out.push hgtW hc gg cap hown1 hgrow
                    generalize hW9 : World.setCell _ _ _ = W9 at hP9 ⊢
                    clear hW9 hHeld2 hHeld hgrow hown1 y1 f1 s1 t1 f8 s0 t0 y0 c0 hne1 hne2 hne3
                    go_wp2_with fail
                    go_roundw
                    case rel => exact ⟨i + 1, by omega, by go_num, _, _, _, hP9⟩
                    case measure => simp [intOf]; omega
                · have hP8 : RateP gt S mx W5 (fun s' => .slice (ta s') (R s').length (tc s')) s (i + 1) n g (.slice B n cB) W7 :=
                    ⟨hP7.top, hP7.row, hP7.arr.congr (fun y => ⟨fun ⟨a, b⟩ => ⟨by
                      rcases Nat.lt_succ_iff_lt_or_eq.1 a with h' | rfl
                      · exact h'
                      · exact absurd b hc, b⟩, fun ⟨a, b⟩ => ⟨by omega, b⟩⟩), by omega, hP7.but⟩
                  clear hP7
                  go_wp2_with fail
                  go_roundw
                  case rel => exact ⟨i + 1, by omega, by go_num, _, _, _, hP8⟩
                  case measure => simp [intOf]; omega
              · obtain rfl : i = m := by omega
                have kS7 := kS.but hP.but (by omega)
                have kF7 := kF6.but hP.but (by omega)
                have kX7 := kX6.but hP.but (by omega)
                have f8 := kF7.cell 8
                have s0 := kS7.cell 0
                simp at f8 s0
                obtain ⟨-, hgl7, hcell, hfz⟩ := hP.top.cells1
                have t0 : wx.cell? ⟨gt, s, none⟩ = some (.slice B n cB) := by
                  have := hcell s hlt
                  rw [if_neg (Nat.lt_irrefl s), if_pos rfl] at this
                  exact this
                clear hcell hfz
                go_upto_region 24 with (fail)
                go_still_tail 8, (by kernel_rfl)
                change wpList _ _ _ _ _ wx.drew
                obtain ⟨gb, hgB, hgb⟩ := own_gb hP.row
                have henv : CmpEnv wx.drew A i cM gx gs s mx gb := ⟨fun w' hb => HQ.out.later (hbx.drew.trans (hb.below (fun k hk => by have := hb05.size; omega) (by have := hbx.size; exact this))), fun w' hb => by
                  have k1 := kX7.drew.but hb (by omega)
                  have k2 := kS7.drew.but hb (by omega)
                  exact ⟨k1.cell 0, k2.cell 0, k1.lt, k2.lt⟩⟩
                have hC := sortStable_any A i cM gx gs s mx HG.out hsF wx.drew W5.heap.size gb n cB B hgB (by omega) g hP.arr henv hP.row.drew
                have HC := Lib.hid hC
                clear hC henv hgB f8 s0 t0 hP hbx
                go_wp2_with fail
                refine HC.out.mono ?_
                rintro e w8 ⟨rfl, ⟨g', hA8, hS8, hO8⟩, hb8⟩
                have hT8 := HP.out.sorted HRows.out HB6.out HBT5.out hgtl hgb hA8 hS8 hO8 hb8
                clear hA8 hS8 hO8 hb8 HC
                go_wp2_with fail
                go_roundw
                case rel => exact ⟨s + 1, by omega, by go_num, hT8⟩
                case measure => simp [intOf]; omega
          · have hsS : s = S := by omega
            rw [hsS] at hT
            have hlt' : ¬ (s : Int) < S := by omega
            have HTT := Lib.hid hT
            clear hT hsS
            go_wp2_with fail
            go_ret
            exact mkFin HG.out HSZ.out HORD.out ho0 ho1 hm0 hm1 HI.out HQ.out (by omega) hFW hp0 hq0 hpq hgp hgm hgrl HP3.out HM3.out HBUT.out HR.out hgtr HB5.out hgtl kF5 hb0 HTT.out

end Go.Proofs.Ytkdpkaidbmjcaaa
