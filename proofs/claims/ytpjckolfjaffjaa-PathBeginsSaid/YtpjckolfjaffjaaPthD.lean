/- path.Greedy. -/
import Derived.Test.YtpjckolfjaffjaaPthC
namespace Go.Proofs.Ytpjckolfjaffjaa
open Go.RowKit
set_option linter.unusedSimpArgs false
set_option linter.unusedVariables false

theorem next_cases (d : Nat → Int) (done : Nat → Bool) (n : Nat) :
    (nextF d done n = -1 ∧ ∀ j, j < n → done j = true) ∨ ∃ x, x < n ∧ nextF d done n = (x : Nat) ∧ done x = false ∧ ∀ j, j < n → done j = false → d x < d j ∨ (d x = d j ∧ x ≤ j) := by
  induction n with
  | zero => exact .inl ⟨rfl, fun j hj => by omega⟩
  | succ n ih =>
    have e : nextF d done (n + 1) = if done n = false ∧ (nextF d done n < 0 ∨ d n < d (nextF d done n).toNat) then (n : Int) else nextF d done n := rfl
    rw [e]
    rcases ih with ⟨h1, h2⟩ | ⟨x, hx, h1, h2, h3⟩
    · cases hd : done n
      · rw [if_pos ⟨rfl, .inl (by omega)⟩]
        refine .inr ⟨n, by omega, rfl, hd, fun j hj hdj => ?_⟩
        rcases Nat.lt_succ_iff_lt_or_eq.1 hj with h' | rfl
        · rw [h2 j h'] at hdj; cases hdj
        · exact .inr ⟨rfl, Nat.le_refl _⟩
      · rw [if_neg (fun h => by cases h.1)]
        refine .inl ⟨h1, fun j hj => ?_⟩
        rcases Nat.lt_succ_iff_lt_or_eq.1 hj with h' | rfl
        · exact h2 j h'
        · exact hd
    · rw [h1]
      by_cases hc : done n = false ∧ ((x : Int) < 0 ∨ d n < d ((x : Nat) : Int).toNat)
      · rw [if_pos hc]
        obtain ⟨c1, c2⟩ := hc
        rw [Int.toNat_natCast] at c2
        refine .inr ⟨n, by omega, rfl, c1, fun j hj hdj => ?_⟩
        rcases Nat.lt_succ_iff_lt_or_eq.1 hj with h' | rfl
        · have := h3 j h' hdj
          omega
        · exact .inr ⟨rfl, Nat.le_refl _⟩
      · rw [if_neg hc]
        rw [Int.toNat_natCast] at hc
        refine .inr ⟨x, by omega, rfl, h2, fun j hj hdj => ?_⟩
        rcases Nat.lt_succ_iff_lt_or_eq.1 hj with h' | rfl
        · exact h3 j h' hdj
        · have : ¬ (d j < d x) := fun h => hc ⟨hdj, .inr h⟩
          omega

/-- A list that has all numbers below n is not shorter than n. -/
theorem pigeon : ∀ (n : Nat) (l : List Nat), (∀ i, i < n → i ∈ l) → n ≤ l.length
  | 0, l, _ => Nat.zero_le _
  | n + 1, l, h => by
    have h1 : n ∈ l := h n (by omega)
    have h2 := pigeon n (l.erase n) (fun i hi => (List.mem_erase_of_ne (by omega)).2 (h i (by omega)))
    have h3 := List.length_erase_of_mem h1
    have h4 := List.length_pos_of_mem h1
    omega

theorem greedy_length (s : Nat → Spot) (n k : Nat) : (greedyL s n k).length = k := by
  induction k with
  | zero => rfl
  | succ k ih => show (greedyL s n k ++ _).length = k + 1; rw [List.length_append, ih]; rfl

/-- The choice of place k. -/
def pickG (s : Nat → Spot) (n k : Nat) : Int := nextF (fun i => distF (lastS s (greedyL s n k)) (s i)) (fun i => (greedyL s n k).contains i) n

theorem greedy_succ (s : Nat → Spot) (n k : Nat) : greedyL s n (k + 1) = greedyL s n k ++ [(pickG s n k).toNat] := rfl

theorem pickG_spec (s : Nat → Spot) {n k : Nat} (hk : k < n) : ∃ x, x < n ∧ pickG s n k = (x : Nat) ∧ x ∉ greedyL s n k ∧
    ∀ j, j < n → j ∉ greedyL s n k → distF (lastS s (greedyL s n k)) (s x) < distF (lastS s (greedyL s n k)) (s j) ∨ (distF (lastS s (greedyL s n k)) (s x) = distF (lastS s (greedyL s n k)) (s j) ∧ x ≤ j) := by
  rcases next_cases (fun i => distF (lastS s (greedyL s n k)) (s i)) (fun i => (greedyL s n k).contains i) n with ⟨_, h2⟩ | ⟨x, hx, h1, h2, h3⟩
  · have := pigeon n (greedyL s n k) (fun i hi => by have := h2 i hi; simpa using this)
    rw [greedy_length] at this
    omega
  · exact ⟨x, hx, h1, by simpa using h2, fun j hj hm => h3 j hj (by simpa using hm)⟩

theorem greedy_lt (s : Nat → Spot) {n : Nat} : ∀ k, k ≤ n → ∀ x, x ∈ greedyL s n k → x < n := by
  intro k
  induction k with
  | zero => intro _ x hx; cases hx
  | succ k ih =>
    intro hk x hx
    rw [greedy_succ, List.mem_append] at hx
    rcases hx with hx | hx
    · exact ih (by omega) x hx
    · obtain ⟨y, hy, e, _⟩ := pickG_spec s (n := n) (k := k) (by omega)
      rw [e] at hx
      simp at hx
      omega

theorem last_ok {s : Nat → Spot} {n : Nat} (hs : ∀ i, i < n → (s i).ok) {k : Nat} (hk : k ≤ n) : (lastS s (greedyL s n k)).ok := by
  unfold lastS
  split
  · exact spot0_ok
  · rename_i i he
    exact hs i (greedy_lt s k hk i (List.mem_of_getLast? he))

theorem last_succ (s : Nat → Spot) (n k x : Nat) (h : pickG s n k = (x : Nat)) : lastS s (greedyL s n (k + 1)) = s x := by
  unfold lastS
  rw [greedy_succ, h, List.getLast?_append]
  simp

theorem contains_succ (s : Nat → Spot) (n k x : Nat) (h : pickG s n k = (x : Nat)) (i : Nat) : (greedyL s n (k + 1)).contains i = if i = x then true else (greedyL s n k).contains i := by
  rw [greedy_succ, h]
  by_cases hi : i = x
  · rw [if_pos hi]; simp [hi]
  · rw [if_neg hi]; simp [hi]

/-- The greedy order as a function. -/
def gordF (s : Nat → Spot) (n k : Nat) : Nat → Int := fun j => ((greedyL s n k).getD j 0 : Nat)

theorem gord_succ (s : Nat → Spot) (n k x : Nat) (h : pickG s n k = (x : Nat)) (j : Nat) (hj : j < k + 1) : gordF s n (k + 1) j = if j < k then gordF s n k j else (x : Int) := by
  unfold gordF
  rw [greedy_succ, h, Int.toNat_natCast]
  have hl := greedy_length s n k
  by_cases hjk : j < k
  · rw [if_pos hjk]
    simp [List.getElem?_append_left (show j < (greedyL s n k).length by omega)]
  · rw [if_neg hjk]
    obtain rfl : j = (greedyL s n k).length := by omega
    simp

theorem Blk.apart {w : World} {g base e sz n : Nat} {t : TypeId} {cs : Array Value} {v : Value} {f : Nat → Nat → Value} (hB : Blk w g t cs) (hO : Owned w base e sz v n f) (hne : t ≠ e) : some g ≠ v.ownBlock := by
  intro h
  rcases hO.2 with ⟨rfl, _⟩ | ⟨g1, c1, k1, rfl, _, hh1, _⟩
  · cases h
  · have e1 : g = g1 := Option.some.inj h
    subst e1
    have := hB.symm.trans hh1
    injection this with this
    injection this with _ ht
    exact hne ht

theorem Blk.grown {w w' : World} {g : Nat} {t : TypeId} {cs : Array Value} {row : Option Nat} (hB : Blk w g t cs) (hg : w.grownBy w' row) (hne : some g ≠ row) : Blk w' g t cs := (hg.block g hB.lt hne).trans hB

/-- What both Greedys leave. -/
def GreedyPost (w : World) (m : Nat) (poly : Nat → Poly) (e : Ending) (w' : World) : Prop :=
  Below w.heap.size w w' ∧
  ((chkErr m poly = 0 ∧ ∃ v, e = .returned (.tuple #[v, .int .i64 0]) ∧ Owned w' w.heap.size 3 1 v m (fun j _ => .int .i64 (gordF (startF poly) m m j))) ∨
   (chkErr m poly ≠ 0 ∧ e = .returned (.tuple #[.slice none 0 0, .int .i64 (chkErr m poly)])))

theorem greedy_fail {w w' : World} {m : Nat} {poly : Nat → Poly} {x : Int} (he : chkErr m poly = x) (h0 : x ≠ 0) (hb : Below w.heap.size w w') : GreedyPost w m poly (.returned (.tuple #[.slice none 0 0, .int .i64 x])) w' :=
  ⟨hb, .inr ⟨by rw [he]; exact h0, by rw [he]⟩⟩

set_option maxRecDepth 100000 in
set_option maxHeartbeats 3200000 in
theorem Greedy_any (A : Option Addr) (m c : Nat) (poly : Nat → Poly) (w : World) (hq : Polys w w.heap.size A m poly) :
    Calls Try.prog 14 #[.slice A m c] w (GreedyPost w m poly) := by
  by_cases hm : m ≤ 1000
  rotate_left
  · have HE := Lib.hid (show chkErr m poly = 5 by unfold chkErr; rw [if_pos (by omega)])
    go_enter Try.func14, Try.ntmps14
    go_wp2_with fail
    refine (starts_any A m c poly _ hq).mono ?_
    rintro e w1 ⟨hb1, ⟨hE, v, rfl, hN⟩ | ⟨hE, rfl⟩⟩
    · rw [HE.out] at hE; exact absurd hE (by decide)
    · rw [HE.out]
      clear hE
      go_wp2_with fail
      go_ret2
      exact greedy_fail HE.out (by decide) hb1
  have hmk := run_make_row' (P := Try.prog) 49 4 (.bool false) 1 Try.underlying49 bool_info rfl .i64 .i64 m (by omega) (by omega)
  go_enter Try.func14, Try.ntmps14
  go_wp2_with fail
  refine (starts_any A m c poly _ hq).mono ?_
  clear hq
  rintro e w1 ⟨hb1, ⟨hE, v, rfl, hN⟩ | ⟨hE, rfl⟩⟩
  rotate_left
  · have HE := Lib.hid hE
    have hne : (chkErr m poly != 0) = true := bne_iff_ne.2 hE
    clear hE
    go_wp2_with fail
    go_ret2
    exact greedy_fail rfl HE.out hb1
  have HE := Lib.hid hE
  have HST := Lib.hid (start_ok (chk_valid hE).2)
  have hm60 := (chk_valid hE).1
  clear hE
  obtain ⟨AN, cN, rfl, _, _, rN⟩ := hN.form
  have HN := Lib.hid rN
  clear hN rN
  obtain ⟨s, hs⟩ : ∃ s, s = startF poly := ⟨_, rfl⟩
  rw [← hs] at HN HST
  have HSS := Lib.hid hs
  clear hs
  obtain ⟨i0, hi0, hz0, hz1, hz2⟩ := info_parts int_info
  have HI0 := Lib.hid hi0
  have HZ := Lib.hid (And.intro hz0 (And.intro hz1 hz2))
  clear hi0 hz0 hz1 hz2
  go_upto_region 7 with (fail)
  have k6 := (Blk.new w1 37 #[.int .i64 (lastS s (greedyL s m 0)).x, .int .i64 (lastS s (greedyL s m 0)).y]).alloc (.cells (madeCells #[.bool false] m) 4)
  change Blk ((w1.alloc (.cells #[.int .i64 0, .int .i64 0] 37)).alloc _) _ _ _ at k6
  have hC := (Owned.made (w1.alloc (.cells #[.int .i64 0, .int .i64 0] 37)) (.bool false) m 4 (by simp only [maxLen]; omega)).congr (g := fun i _ => .bool ((greedyL s m 0).contains i)) (fun i j _ _ => rfl)
  rw [show (w1.alloc (.cells #[.int .i64 0, .int .i64 0] 37)).heap.size = w1.heap.size + 1 by simp] at hC
  have hW0 := below_a2 w1 (.cells #[.int .i64 0, .int .i64 0] 37) (.cells (madeCells #[.bool false] m) 4)
  have HNB := Lib.hid (HN.out.keep hW0)
  obtain ⟨B, hBe⟩ : ∃ B, B = w1.heap.size := ⟨_, rfl⟩
  have hBw : w.heap.size ≤ B := by have := hb1.size; omega
  have hb1' : Below w.heap.size w w1 := hb1
  rw [← hBe] at k6 hC HNB hW0
  rw [← hBe]
  obtain ⟨gc, hgc⟩ : ∃ gc, gc = B + 1 := ⟨_, rfl⟩
  rw [← hgc] at hC
  rw [← hgc]
  have hC1 := hC.mono (b' := B) (by omega)
  have hbc : B ≠ gc := by omega
  have hbc2 : B ≤ gc := by omega
  generalize hW : World.alloc _ _ = W at k6 hC1 HNB hW0 ⊢
  clear hW hBe hgc hC hmk HN
  go_wp2_with fail
  go_loopw [7, 24] (fun v t wr => ∃ k : Nat, k ≤ m ∧ t = .int .i64 k ∧ Owned wr B 3 1 v k (fun j _ => .int .i64 (gordF s m k j)) ∧ Owned wr B 4 1 (.slice (some ⟨gc, 0, none⟩) m m) m (fun i _ => .bool ((greedyL s m k).contains i)) ∧
      Blk wr B 37 #[.int .i64 (lastS s (greedyL s m k)).x, .int .i64 (lastS s (greedyL s m k)).y] ∧ Below B W wr) (fun _ t _ => m - (intOf t).toNat)
  case atStart => exact ⟨0, Nat.zero_le _, rfl, Owned.nil _ _ _ _ _, hC1, k6, Below.refl _ _⟩
  case round =>
    obtain ⟨k, hk, rfl, kO, kC, kK, hwr⟩ := hrel
    clear k6 hC1
    have hBl := kK.lt
    by_cases hlt : k < m
    · have hlt' : (k : Int) < m := by omega
      have hk0 : (0 : Int) ≤ k := by omega
      have okL := Lib.hid (last_ok HST.out (Nat.le_of_lt hlt))
      obtain ⟨hxa, hxb⟩ : ∃ K, lastS s (greedyL s m k) = K := ⟨_, rfl⟩
      obtain ⟨bs, os, rfl, hBs⟩ := HNB.out.addr (by omega)
      obtain ⟨wo, hwo⟩ : ∃ wo, wo = wr := ⟨_, rfl⟩
      have HPK := Lib.hid (pickG_spec s hlt)
      have HPD := Lib.hid (show pickG s m k = nextF (fun i => distF (lastS s (greedyL s m k)) (s i)) (fun i => (greedyL s m k).contains i) m from rfl)
      rw [← hwo] at kO kC kK hwr hBl
      rw [← hwo]
      clear hwo hxb
      go_wp2_with fail
      go_loopw [9, 28] (fun nx t wr => ∃ i : Nat, i ≤ m ∧ t = .int .i64 i ∧ nx = .int .i64 (nextF (fun i => distF (lastS s (greedyL s m k)) (s i)) (fun i => (greedyL s m k).contains i) i) ∧ Below wo.heap.size wo wr) (fun _ t _ => m - (intOf t).toNat)
      case atStart => exact ⟨0, Nat.zero_le _, rfl, rfl, Below.refl _ _⟩
      case round =>
        obtain ⟨i, hi, rfl, rfl, hwi⟩ := hrel
        by_cases hli : i < m
        · have hli' : (i : Int) < m := by omega
          have hi0 : (0 : Int) ≤ i := by omega
          have HNX := Lib.hid (show nextF (fun i => distF (lastS s (greedyL s m k)) (s i)) (fun i => (greedyL s m k).contains i) (i + 1) = if (greedyL s m k).contains i = false ∧ (nextF (fun i => distF (lastS s (greedyL s m k)) (s i)) (fun i => (greedyL s m k).contains i) i < 0 ∨ distF (lastS s (greedyL s m k)) (s i) < distF (lastS s (greedyL s m k)) (s (nextF (fun i => distF (lastS s (greedyL s m k)) (s i)) (fun i => (greedyL s m k).contains i) i).toNat)) then (i : Int) else nextF (fun i => distF (lastS s (greedyL s m k)) (s i)) (fun i => (greedyL s m k).contains i) i from rfl)
          have HNC := Lib.hid (next_cases (fun i => distF (lastS s (greedyL s m k)) (s i)) (fun i => (greedyL s m k).contains i) i)
          obtain ⟨_, hgl, hcell, _⟩ := kC.cells1
          have y0 := (hwi.cell (p := ⟨gc, i, none⟩) hgl).trans (hcell i hli)
          have y1 := (hwi.cell (p := ⟨B, 0, none⟩) hBl).trans (kK.cell 0)
          have y2 := (hwi.cell (p := ⟨B, 1, none⟩) hBl).trans (kK.cell 1)
          have HSP := Lib.hid (fun (x : Nat) (hx : x < m) => show wr.cell? ⟨bs, os + x * 2, none⟩ = some (.int .i64 (s x).x) ∧ wr.cell? ⟨bs, os + x * 2 + 1, none⟩ = some (.int .i64 (s x).y) from by
            obtain ⟨e0, e1⟩ := HNB.out.at2 hx
            exact ⟨(hwi.cell (p := ⟨bs, _, none⟩) (by simp only []; omega)).trans ((hwr.cell (p := ⟨bs, _, none⟩) hBs).trans e0), (hwi.cell (p := ⟨bs, _, none⟩) (by simp only []; omega)).trans ((hwr.cell (p := ⟨bs, _, none⟩) hBs).trans e1)⟩)
          have hBi : B < wr.heap.size := Nat.lt_of_lt_of_le hBl hwi.size
          have hgi : gc < wr.heap.size := Nat.lt_of_lt_of_le hgl hwi.size
          simp at y1 y2
          clear hcell
          generalize lastS s (greedyL s m k) = K at *
          generalize hnx : nextF (fun i => distF K (s i)) (fun i => (greedyL s m k).contains i) i = nx at *
          clear hnx
          have x0 := fun z : Ext wr.heap.size wr => z.cell (b := gc) hgi y0
          cases hd : (greedyL s m k).contains i
          rotate_left
          · have HN2 := Lib.hid (HNX.out.trans (if_neg (fun h => by rw [hd] at h; cases h.1)))
            rw [hd] at y0
            simp only [hd] at x0
            clear hd
            go_upto_region 13 with (fail)
            refine region_ext wr.heap.size (by kernel_rfl) (by kernel_rfl) ?_
            repeat (go_big_quiet_step (fail))
            refine wpQuiet_nil ?_
            rintro _ ⟨z, rfl⟩
            obtain ⟨wq, hq⟩ := z
            dsimp only
            have hwq := below_up hwi hq
            clear x0 y0 y1 y2
            go_wp2_with fail
            go_roundw
            case rel => exact ⟨i + 1, by omega, by go_num, by rw [HN2.out], hwq⟩
            case measure => simp [intOf]; omega
          have HD := Lib.hid hd
          rw [hd] at y0
          simp only [hd] at x0
          clear hd
          rcases HNC.out with ⟨rfl, _⟩ | ⟨x, hx, rfl, _, _⟩
          · have HN2 := Lib.hid (HNX.out.trans (if_pos ⟨HD.out, .inl (by omega)⟩))
            clear HNX HNC
            go_upto_region 13 with (fail)
            refine region_ext wr.heap.size (by kernel_rfl) (by kernel_rfl) ?_
            repeat (go_big_quiet_step (fail))
            refine wpQuiet_nil ?_
            rintro _ ⟨z, rfl⟩
            obtain ⟨wq, hq⟩ := z
            dsimp only
            have hwq := below_up hwi hq
            clear x0 y0 y1 y2
            go_wp2_with fail
            go_roundw
            case rel => exact ⟨i + 1, by omega, by go_num, by rw [HN2.out], hwq⟩
            case measure => simp [intOf]; omega
          · have hxm : x < m := by omega
            have hxm' : (x : Int) < m := by omega
            have hx0 : (0 : Int) ≤ x := by omega
            have hxn : ¬ (x : Int) < 0 := by omega
            obtain ⟨a0, a1⟩ := HSP.out i hli
            obtain ⟨b0, b1⟩ := HSP.out x hxm
            have x1 := fun z : Ext wr.heap.size wr => z.cell (b := B) hBi y1
            have x2 := fun z : Ext wr.heap.size wr => z.cell (b := B) hBi y2
            have x3 := fun z : Ext wr.heap.size wr => z.cell (b := bs) (by omega) a0
            have x4 := fun z : Ext wr.heap.size wr => z.cell (b := bs) (by omega) a1
            have x5 := fun z : Ext wr.heap.size wr => z.cell (b := bs) (by omega) b0
            have x6 := fun z : Ext wr.heap.size wr => z.cell (b := bs) (by omega) b1
            have oki := Lib.hid (HST.out i hli)
            have okx := Lib.hid (HST.out x hxm)
            clear HNC y0 y1 y2 a0 a1 b0 b1
            by_cases hc : distF K (s i) < distF K (s x)
            · have HN2 := Lib.hid (HNX.out.trans (if_pos ⟨HD.out, .inr (by rw [Int.toNat_natCast]; exact hc)⟩))
              clear HNX
              go_upto_region 13 with (fail)
              refine region_ext wr.heap.size (by kernel_rfl) (by kernel_rfl) ?_
              repeat (go_big_quiet_step (first | (go_at_call 26; refine calls_ext (by omega) (distance_any K _ _ okL.out ?_); first | exact oki.out | exact okx.out)))
              refine wpQuiet_nil ?_
              rintro _ ⟨z, rfl⟩
              obtain ⟨wq, hq⟩ := z
              dsimp only
              have hwq := below_up hwi hq
              clear x0 x1 x2 x3 x4 x5 x6
              go_wp2_with fail
              go_roundw
              case rel => exact ⟨i + 1, by omega, by go_num, by rw [HN2.out], hwq⟩
              case measure => simp [intOf]; omega
            · have HN2 := Lib.hid (HNX.out.trans (if_neg (fun h => by
                rcases h.2 with h' | h'
                · omega
                · rw [Int.toNat_natCast] at h'; exact hc h')))
              clear HNX
              go_upto_region 13 with (fail)
              refine region_ext wr.heap.size (by kernel_rfl) (by kernel_rfl) ?_
              repeat (go_big_quiet_step (first | (go_at_call 26; refine calls_ext (by omega) (distance_any K _ _ okL.out ?_); first | exact oki.out | exact okx.out)))
              refine wpQuiet_nil ?_
              rintro _ ⟨z, rfl⟩
              obtain ⟨wq, hq⟩ := z
              dsimp only
              have hwq := below_up hwi hq
              clear x0 x1 x2 x3 x4 x5 x6
              go_wp2_with fail
              go_roundw
              case rel => exact ⟨i + 1, by omega, by go_num, by rw [HN2.out], hwq⟩
              case measure => simp [intOf]; omega
        · obtain rfl : i = m := by omega
          obtain ⟨x, hx, hpx, _, _⟩ := HPK.out
          have hnx := HPD.out.symm.trans hpx
          rw [hnx]
          have HPX := Lib.hid hpx
          clear hnx hpx HPK HPD
          have hx' : (x : Int) < i := by omega
          have hx0 : (0 : Int) ≤ x := by omega
          have rO := kO.later hwi
          have rC := kC.later hwi
          have rK := kK.later hwi
          have rb := hwr.trans (hwi.mono (Nat.le_of_lt hBl))
          have hBi : B < wr.heap.size := rK.lt
          clear kO kC kK hwi hwr
          obtain ⟨_, hgl, hcell, hfz⟩ := rC.cells1
          have y0 := hcell x hx
          have z0 := hfz x
          clear hcell hfz
          go_upto_region 17 with (fail)
          have sC := (rC.put1 (k := x) (.bool true)).congr (g := fun l _ => .bool ((greedyL s i (k + 1)).contains l)) (fun l j hl hj => by
            unfold upd
            rw [contains_succ s i k x HPX.out]
            by_cases hlx : l = x
            · rw [if_pos hlx, if_pos ⟨hlx, by omega⟩]
            · rw [if_neg hlx, if_neg (fun h => hlx h.1)])
          have sO := rO.far (p := ⟨gc, x, none⟩) (fun e => rC.sep rO (by decide) gc rfl e) (.bool true)
          have sK := rK.far (p := ⟨gc, x, none⟩) hbc (.bool true)
          have sb := rb.setCell (p := ⟨gc, x, none⟩) hbc2 (.bool true)
          generalize hW : World.setCell _ _ _ = W2 at sC sO sK sb ⊢
          clear hW y0 z0 rO rC rK rb hgl hBi
          obtain ⟨e0, e1⟩ := HNB.out.at2 hx
          simp only [spotC] at e0 e1
          have a0 := (sb.cell (p := ⟨bs, _, none⟩) hBs).trans e0
          have a1 := (sb.cell (p := ⟨bs, _, none⟩) hBs).trans e1
          have c0 := sK.cell 0
          have c1 := sK.cell 1
          have z0 := sK.free 0
          have z1 := sK.free 1
          simp at c0 c1
          clear e0 e1
          go_upto_region 18 with (fail)
          have tK := put2 sK (.int .i64 (s x).x) (.int .i64 (s x).y)
          have tC := (sC.far (p := ⟨B, 0, none⟩) (by simp [Value.ownBlock]; omega) (.int .i64 (s x).x)).far (p := ⟨B, 1, none⟩) (by simp [Value.ownBlock]; omega) (.int .i64 (s x).y)
          have hap := sK.apart sO (by decide)
          have tO := (sO.far (p := ⟨B, 0, none⟩) (Ne.symm hap) (.int .i64 (s x).x)).far (p := ⟨B, 1, none⟩) (Ne.symm hap) (.int .i64 (s x).y)
          have tb := below_put2 sb (Nat.le_refl _) (.int .i64 (s x).x) (.int .i64 (s x).y)
          generalize hW : World.setCell _ _ _ = W3 at tK tC tO tb ⊢
          clear hW a0 a1 c0 c1 z0 z1 sK sC sO sb hap
          have hz3 : B ≤ W3.heap.size := Nat.le_of_lt tK.lt
          go_wp2_with (at_builtin; refine wpList_append_row _ rfl _ _ _ rfl B 3 i0 _ 1 8 Try.underlying23 HI0.out HZ.out.1 HZ.out.2.1 HZ.out.2.2 rfl (by omega) _ k _ rfl (tO.alloc _) _ _ 1 1 (fun _ _ => .int .i64 x) rfl (Row.lit W3 #[.int .i64 x] 1 3 1 _ (by simp only [maxLen]; omega) rfl) (fun i j _ hj => rfl) (by simp only [maxLen]; omega) (by omega) (by simp; omega) ?_; intro v' w4 hown hgr hbk)
          have ub := (tO.alloc (.cells #[.int .i64 x] 3)).below_grown (tb.alloc hz3 _) (Nat.le_refl _) (by simp; omega) hgr
          have uC := (tC.alloc (.cells #[.int .i64 x] 3)).grown_other (tO.alloc _) (by decide) hgr
          have uK := (tK.alloc (.cells #[.int .i64 x] 3)).grown hgr ((tK.alloc (.cells #[.int .i64 x] 3)).apart (tO.alloc _) (by decide))
          have uO := hown.congr (g := fun j _ => .int .i64 (gordF s i (k + 1) j)) (fun l j hl hj => by
            unfold glue
            rw [gord_succ s i k x HPX.out l (by omega)]
            by_cases hlk : l < k
            · rw [if_pos hlk, if_pos hlk]
            · rw [if_neg hlk, if_neg hlk])
          rw [← last_succ s i k x HPX.out] at uK
          clear hown hgr hbk
          go_roundw
          case rel => exact ⟨k + 1, by omega, by go_num, uO, uC, uK, ub⟩
          case measure => simp [intOf]; omega
    · obtain rfl : k = m := by omega
      have hf : Owned wr w.heap.size 3 1 u7 k (fun j _ => .int .i64 (gordF (startF poly) k k j)) := by
        have := kO.mono hBw
        rw [← HSS.out]
        exact this
      go_wp2_with fail
      go_ret2
      exact ⟨(hb1'.trans (hW0.mono hBw)).trans (hwr.mono hBw), .inl ⟨HE.out, _, rfl, hf⟩⟩

end Go.Proofs.Ytpjckolfjaffjaa
